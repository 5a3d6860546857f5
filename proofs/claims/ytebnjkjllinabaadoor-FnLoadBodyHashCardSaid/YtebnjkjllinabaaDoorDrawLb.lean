/- The arguments of LoadBody: the generator. No condition. -/
import Derived.Test.YtebnjkjllinabaaDoorDrawSo
import Derived.Test.YtebnjkjllinabaaDoorAnyBody
namespace Go.Proofs.YtebnjkjllinabaaDoor
open Go.RowKit

theorem cell_far6 {W : World} {b o g : Nat} {v : Option Value} {v0 v1 v2 v3 v4 v5 : Value} (h : W.cell? ⟨b, o, none⟩ = v) (hne : b ≠ g) : ((((((W.setCell ⟨g, 0, none⟩ v0).setCell ⟨g, 1, none⟩ v1).setCell ⟨g, 2, none⟩ v2).setCell ⟨g, 3, none⟩ v3).setCell ⟨g, 4, none⟩ v4).setCell ⟨g, 5, none⟩ v5).cell? ⟨b, o, none⟩ = v :=
  cell_set_far (p := ⟨g, 5, none⟩) (cell_set_far (p := ⟨g, 4, none⟩) (cell_set_far (p := ⟨g, 3, none⟩) (cell_set_far (p := ⟨g, 2, none⟩) (cell_set_far (p := ⟨g, 1, none⟩) (cell_set_far (p := ⟨g, 0, none⟩) h hne) hne) hne) hne) hne) hne
theorem fr_far6 {A W : World} {b B : Nat} (h : Fr B A W) (hb : A.heap.size ≤ b) (v0 v1 v2 v3 v4 v5 : Value) : Fr B A ((((((W.setCell ⟨b, 0, none⟩ v0).setCell ⟨b, 1, none⟩ v1).setCell ⟨b, 2, none⟩ v2).setCell ⟨b, 3, none⟩ v3).setCell ⟨b, 4, none⟩ v4).setCell ⟨b, 5, none⟩ v5) :=
  Fr.set (p := ⟨b, 5, none⟩) (Fr.set (p := ⟨b, 4, none⟩) (Fr.set (p := ⟨b, 3, none⟩) (Fr.set (p := ⟨b, 2, none⟩) (Fr.set (p := ⟨b, 1, none⟩) (Fr.set (p := ⟨b, 0, none⟩) h (.inl hb) _) (.inl hb) _) (.inl hb) _) (.inl hb) _) (.inl hb) _) (.inl hb) _
theorem Bx.set6 {W : World} {b : Nat} {a0 a1 a2 a3 a4 a5 : Value} (h : Bx W b #[a0, a1, a2, a3, a4, a5]) (v0 v1 v2 v3 v4 v5 : Value) : Bx ((((((W.setCell ⟨b, 0, none⟩ v0).setCell ⟨b, 1, none⟩ v1).setCell ⟨b, 2, none⟩ v2).setCell ⟨b, 3, none⟩ v3).setCell ⟨b, 4, none⟩ v4).setCell ⟨b, 5, none⟩ v5) b #[v0, v1, v2, v3, v4, v5] := by
  simpa using Bx.set (Bx.set (Bx.set (Bx.set (Bx.set (Bx.set h 0 v0) 1 v1) 2 v2) 3 v3) 4 v4) 5 v5
theorem Bx.far6 {W : World} {b r : Nat} {cs : Array Value} (h : Bx W r cs) (hne : r ≠ b) (v0 v1 v2 v3 v4 v5 : Value) : Bx ((((((W.setCell ⟨b, 0, none⟩ v0).setCell ⟨b, 1, none⟩ v1).setCell ⟨b, 2, none⟩ v2).setCell ⟨b, 3, none⟩ v3).setCell ⟨b, 4, none⟩ v4).setCell ⟨b, 5, none⟩ v5) r cs :=
  Bx.far (p := ⟨b, 5, none⟩) (Bx.far (p := ⟨b, 4, none⟩) (Bx.far (p := ⟨b, 3, none⟩) (Bx.far (p := ⟨b, 2, none⟩) (Bx.far (p := ⟨b, 1, none⟩) (Bx.far (p := ⟨b, 0, none⟩) h hne _) hne _) hne _) hne _) hne _) hne _
theorem files_every {w : World} {B : Nat} {a : Option Addr} {n : Nat} {l : List Fi} (h : FilesAt w B a n l) (h0 : 0 < n) : ∃ b off, ∃ (sa : Nat → Option Addr) (sn sc : Nat → Nat), a = some ⟨b, off, none⟩ ∧ B ≤ b ∧ b < w.heap.size ∧
    (∀ k, k < n → w.cell? ⟨b, off + k * 6, none⟩ = some (.int .i64 (nth l k).root) ∧ w.cell? ⟨b, off + k * 6 + 1, none⟩ = some (.string ⟨((nth l k).pkg).toArray⟩) ∧ w.cell? ⟨b, off + k * 6 + 2, none⟩ = some (.string ⟨((nth l k).name).toArray⟩) ∧
      w.cell? ⟨b, off + k * 6 + 3, none⟩ = some (.bool (nth l k).init) ∧ w.cell? ⟨b, off + k * 6 + 4, none⟩ = some (.int .i64 (nth l k).stamp) ∧ w.cell? ⟨b, off + k * 6 + 5, none⟩ = some (.slice (sa k) (sn k) (sc k))) ∧
    ∀ k, k < n → Okf (nth l k) ∧ sn k ≤ sc k ∧ StmtsAt w B (sa k) (sn k) (nth l k).body := by
  obtain ⟨b, off, _, _, _, ha, hB, hb, _⟩ := h.at_ h0
  have hex : ∀ k, ∃ p : Option Addr × Nat × Nat, k < n → (w.cell? ⟨b, off + k * 6, none⟩ = some (.int .i64 (nth l k).root) ∧ w.cell? ⟨b, off + k * 6 + 1, none⟩ = some (.string ⟨((nth l k).pkg).toArray⟩) ∧ w.cell? ⟨b, off + k * 6 + 2, none⟩ = some (.string ⟨((nth l k).name).toArray⟩) ∧
      w.cell? ⟨b, off + k * 6 + 3, none⟩ = some (.bool (nth l k).init) ∧ w.cell? ⟨b, off + k * 6 + 4, none⟩ = some (.int .i64 (nth l k).stamp) ∧ w.cell? ⟨b, off + k * 6 + 5, none⟩ = some (.slice p.1 p.2.1 p.2.2)) ∧ Okf (nth l k) ∧ p.2.1 ≤ p.2.2 ∧ StmtsAt w B p.1 p.2.1 (nth l k).body := by
    intro k
    by_cases hk : k < n
    · obtain ⟨b', off', ba, bn, bc, ha', _, _, hok, hbc, hS, g0, g1, g2, g3, g4, g5⟩ := h.at_ hk
      rw [ha] at ha'
      injection ha' with ha'
      injection ha' with e1 e2
      subst e1 e2
      exact ⟨(ba, bn, bc), fun _ => ⟨⟨g0, g1, g2, g3, g4, g5⟩, hok, hbc, hS⟩⟩
    · exact ⟨(none, 0, 0), fun h => absurd h hk⟩
  obtain ⟨p, hp⟩ := Classical.axiomOfChoice hex
  exact ⟨b, off, fun k => (p k).1, fun k => (p k).2.1, fun k => (p k).2.2, ha, hB, hb, fun k hk => (hp k hk).1, fun k hk => (hp k hk).2⟩
/-- What is drawn: a store, a file, a mode. -/
def DrawnLB (w w' : World) (e : Ending) : Prop := ∃ (ls : List Co) (la : Option Addr) (n lc : Nat) (f : Fi) (ba : Option Addr) (bn bc : Nat) (mode : Int),
  e = .returned (.tuple #[.slice la n lc, .agg #[.int .i64 (f).root, .string ⟨(f).pkg.toArray⟩, .string ⟨(f).name.toArray⟩, .bool (f).init, .int .i64 (f).stamp, .slice ba bn bc], .int .i64 mode]) ∧ CosAt w' w.heap.size la n ls ∧ Okf f ∧ StmtsAt w' w.heap.size ba bn f.body ∧ bn ≤ bc ∧ n ≤ lc ∧ n ≤ 11 ∧ bn ≤ 5 ∧ X w w'
set_option maxRecDepth 100000 in
set_option maxHeartbeats 1000000 in
theorem DrawLoadBody_c (ca : Option Addr) (cn cc : Nat) (w : World) (hC : CodeAt w ca cn cc) (hn : cn ≤ 1048576) :
    Calls Tryd.prog 21 #[.slice ca cn cc] w fun e w' => DrawnLB w w' e := by
  have hBr := Bx.new w #[.int .i64 0, .string ⟨#[]⟩, .string ⟨#[]⟩, .bool false, .int .i64 0, .slice none 0 0] 43
  go_enter Tryd.func21, Tryd.ntmps21
  go_wp2_with fail
  refine (newReader_c ca cn cc _ hC.1 (fun h => by
    obtain ⟨b, off, h1, h2, h3⟩ := hC.2 h
    exact ⟨b, off, h1, by simp; omega, fun i hi => by
      obtain ⟨v, hv, hc⟩ := h3 i hi
      exact ⟨v, hv, by rw [World.cell?_alloc_lt _ _ _ h2]; exact hc⟩⟩) hn).mono ?_
  rintro _ w1 ⟨rfl, hr, hx⟩
  rw [World.size_alloc] at hr
  replace hBr := hBr.x hx
  have hxx : X w w1 := X.trans (by (repeat (first | exact X.refl _ | assumption | refine X.ext ?_ _ | refine X.alloc ?_ _ | refine X.drew ?_))) hx
  have hlt := hr.lt
  have hne : w.heap.size ≠ w.heap.size + 1 := by omega
  simp only [World.size_alloc]
  have hy : Y (w.heap.size + 1) w w1 := Y.of_x hxx
  clear hx hxx
  go_wp2_with fail
  refine (anyStore_c _ _ _ hr (by omega)).mono ?_
  rintro _ w2 ⟨ls, la, lc, vs, a, c, rfl, hS, hT, hls, hvs, hr', hy'⟩
  have hs12 := hy'.size
  replace hBr := hBr.y hy' hne
  replace hy := hy.trans ((Y.of_x (by (repeat (first | exact X.refl _ | assumption | refine X.ext ?_ _ | refine X.alloc ?_ _ | refine X.drew ?_)))).trans hy'); replace hr := hr'; clear hr' hy'
  have hs2 : w.heap.size < w2.heap.size := hBr.lt
  have hX : X w2 (w2.alloc (.cells #[.slice a vs.length c] 25)) := by (repeat (first | exact X.refl _ | assumption | refine X.ext ?_ _ | refine X.alloc ?_ _ | refine X.drew ?_))
  have hTb : Bx (w2.alloc (.cells #[.slice a vs.length c] 25)) w2.heap.size #[.slice a vs.length c] := Bx.new _ _ _
  replace hBr := hBr.x hX
  replace hS := hS.fr (hX.fr _)
  replace hT := hT.fr (hX.fr _)
  replace hr := hr.x hX
  replace hy := hy.trans (Y.of_x hX)
  clear hX
  go_wp2_with fail
  refine (anyFile_c _ _ _ hr (by omega)).mono ?_
  rintro _ w3 ⟨f, ba, bc, rfl, hO, ⟨hp1, hp2, hp3⟩, hr3, hy3⟩
  obtain ⟨A, hA, hD0, hT0, f03, hsA⟩ : ∃ A, A = w2.alloc (.cells #[.slice a vs.length c] 25) ∧ CosAt A (w.heap.size + 2) la ls.length (ls.map (·.1)) ∧ FilesAt A (w.heap.size + 2) a vs.length (vs.map (·.1)) ∧ Fr (w.heap.size + 2) A w3 ∧ A.heap.size = w2.heap.size + 1 :=
    ⟨_, rfl, (hS.cos (by omega)).less (by omega), (hT.files (by omega)).less (by omega), hy3.fr.mono (by omega), World.size_alloc _ _⟩
  clear hA
  have hBr3 := hBr.y hy3 hne
  have hTb3 := hTb.y hy3 (by omega)
  have hS3 := hS.fr (hy3.fr.mono (by omega))
  have hT3 := hT.fr (hy3.fr.mono (by omega))
  have hy4 := hy.trans hy3
  have hs23 := hy3.size
  rw [World.size_alloc] at hs23
  clear hBr hTb hS hT hr hy hy3
  have hs3 := hy4.size
  have hX : X w3 (w3.alloc (.cells #[.int .i64 f.root, .string ⟨(f.pkg).toArray⟩, .string ⟨(f.name).toArray⟩, .bool f.init, .int .i64 f.stamp, .slice ba f.body.length bc] 43)) := by (repeat (first | exact X.refl _ | assumption | refine X.ext ?_ _ | refine X.alloc ?_ _ | refine X.drew ?_))
  have hFb : Bx (w3.alloc (.cells #[.int .i64 f.root, .string ⟨(f.pkg).toArray⟩, .string ⟨(f.name).toArray⟩, .bool f.init, .int .i64 f.stamp, .slice ba f.body.length bc] 43)) w3.heap.size #[.int .i64 f.root, .string ⟨(f.pkg).toArray⟩, .string ⟨(f.name).toArray⟩, .bool f.init, .int .i64 f.stamp, .slice ba f.body.length bc] := Bx.new _ _ _
  have hBr4 := hBr3.x hX
  have hTb4 := hTb3.x hX
  have hS4 := hS3.fr (hX.fr _)
  have hT4 := hT3.fr (hX.fr _)
  have hO4 := own_fr hO (hX.fr _)
  have hr4 := hr3.x hX
  have hy5 := hy4.trans (Y.of_x hX)
  clear hX hBr3 hTb3 hS3 hT3 hO hr3 hy4
  rcases Nat.eq_zero_or_pos vs.length with h0 | h0
  · have t0 := bxOne hTb4
    rw [h0] at t0 ⊢
    go_wp2
    have hlF := hFb.lt
    have hB0 : w.heap.size + 2 ≤ (w2.alloc (.cells #[.slice a vs.length c] 25)).heap.size := by rw [World.size_alloc]; omega
    have hD9 := (hS4.cos (by omega)).less (B' := w.heap.size + 2) (by omega)
    have hfS9 : StmtsAt _ (w.heap.size + 2) ba f.body.length f.body := ⟨rfl, by have := hp3.1; omega, fun s hs => ⟨by have := (hp3.2 s hs).1; omega, by have := (hp3.2 s hs).2; omega⟩, (Sl.of_own hO4).less hB0⟩
    have hok9 : Okf f := ⟨by omega, by omega⟩
    have hbc9 := own_cap hO4
    have hlc9 := own_cap hS4.row
    have hb59 : f.body.length ≤ 5 := by have := hp3.1; omega
    have hr9 := hr4
    have hBr9 := hBr4
    have hy9 := hy5
    clear hS4 hO4 hT4 t0 hTb4 hr4 hBr4 hy5 hB0 hp3
    generalize w3.alloc (.cells #[.int .i64 f.root, .string ⟨(f.pkg).toArray⟩, .string ⟨(f.name).toArray⟩, .bool f.init, .int .i64 f.stamp, .slice ba f.body.length bc] 43) = W at *
    have hBrW := Lib.hid hBr9
    obtain ⟨hb, hc, hf⟩ := hFb.out
    have f0 := hc 0
    have f1 := hc 1
    have f2 := hc 2
    have f3 := hc 3
    have f4 := hc 4
    have f5 := hc 5
    clear hc
    have hltW := hr9.lt
    have hn36 : w3.heap.size ≠ w.heap.size := by omega
    have hn37 : w3.heap.size ≠ w.heap.size + 1 := by omega
    have hn38 : w.heap.size + 1 < w.heap.size + 2 := by omega
    have hb39 : w.heap.size + 2 ≤ (W).heap.size := by omega
    go_region_held3 (fun w' => w'.cell? ⟨w3.heap.size, 0, none⟩ = some (.int .i64 f.root) ∧ w'.cell? ⟨w3.heap.size, 1, none⟩ = some (.string ⟨(f.pkg).toArray⟩) ∧ w'.cell? ⟨w3.heap.size, 2, none⟩ = some (.string ⟨(f.name).toArray⟩) ∧ w'.cell? ⟨w3.heap.size, 3, none⟩ = some (.bool f.init) ∧ w'.cell? ⟨w3.heap.size, 4, none⟩ = some (.int .i64 f.stamp) ∧ w'.cell? ⟨w3.heap.size, 5, none⟩ = some (.slice ba f.body.length bc))
      (first | go_keep | exact ⟨cell_far6 k0 hn36, cell_far6 k1 hn36, cell_far6 k2 hn36, cell_far6 k3 hn36, cell_far6 k4 hn36, cell_far6 k5 hn36⟩)
      ((go_at_call 33; refine (one_c _ _ [0, 1, 2, 3] _ _ _ (w.heap.size + 2) _ (hr9.x (by (repeat (first | exact X.refl _ | assumption | refine X.ext ?_ _ | refine X.alloc ?_ _ | refine X.drew ?_)))) (by omega) ((ints_lit (w := W) rfl hb39 rfl rfl (by decide)).mono (X.fr (by (repeat (first | exact X.refl _ | assumption | refine X.ext ?_ _ | refine X.alloc ?_ _ | refine X.drew ?_))) _)) hn38 (by decide)).mono ?_; rintro _ wq ⟨md, rfl, hmd, hrq, hyq⟩; replace hyq : Y (w.heap.size + 1) W wq := Y.trans (Y.of_x (by (repeat (first | with_reducible exact X.refl _ | with_reducible assumption | with_reducible refine X.setCell ?_ (by first | (simp; done) | (simp; omega)) _ | with_reducible refine X.ext ?_ _ | with_reducible refine X.alloc ?_ _ | with_reducible refine X.drew ?_)))) hyq; have hB6 := hBr9.y hyq hne; have hF6 := hFb.y hyq hn37; obtain ⟨hb6, hc6, hf6⟩ := hF6.out; obtain ⟨hb7, hc7, hf7⟩ := hB6.out; have k0 := hc6 0; have k1 := hc6 1; have k2 := hc6 2; have k3 := hc6 3; have k4 := hc6 4; have k5 := hc6 5; clear hc6))
    all_goals
      have hB9 := Bx.set (Bx.set (Bx.set (Bx.set (Bx.set (Bx.set hB6 0 (.int .i64 f.root)) 1 (.string ⟨(f.pkg).toArray⟩)) 2 (.string ⟨(f.name).toArray⟩)) 3 (.bool f.init)) 4 (.int .i64 f.stamp)) 5 (.slice ba f.body.length bc)
      go_wp2
      refine bodyPost_ret (v := .tuple #[.slice la ls.length lc, .agg #[.int .i64 (f).root, .string ⟨(f).pkg.toArray⟩, .string ⟨(f).name.toArray⟩, .bool (f).init, .int .i64 (f).stamp, .slice ba f.body.length bc], .int .i64 md]) ?_ rfl ?_
      · obtain ⟨hb2, hc2, hf2⟩ := hB9.out
        have r0 := hc2 0
        have r1 := hc2 1
        have r2 := hc2 2
        have r3 := hc2 3
        have r4 := hc2 4
        have r5 := hc2 5
        clear hc2
        simp at r0 r1 r2 r3 r4 r5
        simp [results, Tryd.results21, go_sem, Result.andThen, *]
        done
      · have hfr := (hyq.fr.mono (show w.heap.size + 2 ≤ _ by omega)).trans (fr_set6 (show w.heap.size < w.heap.size + 2 by omega) (.int .i64 f.root) (.string ⟨(f.pkg).toArray⟩) (.string ⟨(f.name).toArray⟩) (.bool f.init) (.int .i64 f.stamp) (.slice ba f.body.length bc))
        have hyz := y_set6 (hy9.trans hyq) (Nat.le_refl _) (.int .i64 f.root) (.string ⟨(f.pkg).toArray⟩) (.string ⟨(f.name).toArray⟩) (.bool f.init) (.int .i64 f.stamp) (.slice ba f.body.length bc)
        generalize ((((((wq.setCell ⟨w.heap.size, 0, none⟩ (.int .i64 f.root)).setCell ⟨w.heap.size, 1, none⟩ (.string ⟨(f.pkg).toArray⟩)).setCell ⟨w.heap.size, 2, none⟩ (.string ⟨(f.name).toArray⟩)).setCell ⟨w.heap.size, 3, none⟩ (.bool f.init)).setCell ⟨w.heap.size, 4, none⟩ (.int .i64 f.stamp)).setCell ⟨w.heap.size, 5, none⟩ (.slice ba f.body.length bc)) = Q at hfr hyz ⊢
        exact ⟨ls.map (·.1), la, ls.length, lc, f, ba, f.body.length, bc, md, rfl, (hD9.mono hfr).less (by omega), hok9, (hfS9.mono hfr).less (by omega), hbc9, hlc9, hls, hb59, Y.x hyz (by omega)⟩
  · have t0 := bxOne hTb4
    have lt0 := hTb4.lt
    have hB0 : w.heap.size + 2 ≤ (w2.alloc (.cells #[.slice a vs.length c] 25)).heap.size := by rw [World.size_alloc]; omega
    have f04 := f03.trans (X.fr (w' := w3.alloc (.cells #[.int .i64 f.root, .string ⟨(f.pkg).toArray⟩, .string ⟨(f.name).toArray⟩, .bool f.init, .int .i64 f.stamp, .slice ba f.body.length bc] 43)) (by (repeat (first | exact X.refl _ | assumption | refine X.ext ?_ _ | refine X.alloc ?_ _ | refine X.drew ?_))) _)
    have hD8 := (hS4.cos (by omega)).less (B' := w.heap.size + 2) (by omega)
    have hfS8 : StmtsAt _ (w.heap.size + 2) ba f.body.length f.body := ⟨rfl, by have := hp3.1; omega, fun s hs => ⟨by have := (hp3.2 s hs).1; omega, by have := (hp3.2 s hs).2; omega⟩, (Sl.of_own hO4).less hB0⟩
    have hbc8 := own_cap hO4
    have hlc9 := own_cap hS4.row
    have hb58 : f.body.length ≤ 5 := by have := hp3.1; omega
    have hbv := hT4.small
    have hok8 : Okf f := ⟨by omega, by omega⟩
    clear hS4 hO4 hT4 hB0 hp3
    go_wp2_with fail
    refine (pick_c _ _ 4 _ hr4 (by omega) (by omega)).mono ?_
    rintro _ w5 ⟨q, rfl, hq, hr5, hy6⟩
    have hs5 := hy6.size
    rw [World.size_alloc] at hs5
    have hB5 := hBr4.y hy6 hne
    have hTb5 := hTb4.y hy6 (by omega)
    have hF5 := hFb.y hy6 (by omega)
    have hf5 := hy6.fr.mono (B' := w.heap.size + 2) (by omega)
    have hD5 := hD8.mono hf5
    have hfS5 := hfS8.mono hf5
    have f05 := f04.trans hf5
    have hy7 := hy5.trans hy6
    clear hBr4 hTb4 hFb hr4 hy5 hy6 t0 lt0 hD8 hfS8 hf5 f04
    obtain ⟨N, hN⟩ : ∃ N, vs.length = N := ⟨_, rfl⟩
    rw [hN] at h0 hvs hTb5 hT0 ⊢
    have hN10 : N ≤ 10 := by omega
    clear hN
    obtain ⟨t, ht⟩ : ∃ t, vs.map (·.1) = t := ⟨_, rfl⟩
    rw [ht] at hT0
    have hbv2 : ∀ f ∈ t, SmallF f := by
      intro f hf
      rw [← ht] at hf
      obtain ⟨x, hx, rfl⟩ := List.mem_map.1 hf
      exact hbv x hx
    clear ht hbv
    by_cases hq0 : q = 0
    · subst hq0
      have t0 := bxOne hTb5
      go_wp2
      clear t0 hTb5 hT0 hbv2 hq f05 hD0
      have hD9 := hD5
      have hfS9 := hfS5
      have hok9 := hok8
      have hbc9 := hbc8
      have hb59 := hb58
      have hr9 := hr5
      have hBr9 := hB5
      have hy9 := hy7
      have hFb := hF5
      clear hD5 hfS5 hok8 hbc8 hb58 hr5 hB5 hy7 hF5
      have hBrW := Lib.hid hBr9
      obtain ⟨hb, hc, hf⟩ := hFb.out
      have f0 := hc 0
      have f1 := hc 1
      have f2 := hc 2
      have f3 := hc 3
      have f4 := hc 4
      have f5 := hc 5
      clear hc
      have hltW := hr9.lt
      have hn36 : w3.heap.size ≠ w.heap.size := by omega
      have hn37 : w3.heap.size ≠ w.heap.size + 1 := by omega
      have hn38 : w.heap.size + 1 < w.heap.size + 2 := by omega
      have hb39 : w.heap.size + 2 ≤ (w5).heap.size := by omega
      go_region_held3 (fun w' => w'.cell? ⟨w3.heap.size, 0, none⟩ = some (.int .i64 f.root) ∧ w'.cell? ⟨w3.heap.size, 1, none⟩ = some (.string ⟨(f.pkg).toArray⟩) ∧ w'.cell? ⟨w3.heap.size, 2, none⟩ = some (.string ⟨(f.name).toArray⟩) ∧ w'.cell? ⟨w3.heap.size, 3, none⟩ = some (.bool f.init) ∧ w'.cell? ⟨w3.heap.size, 4, none⟩ = some (.int .i64 f.stamp) ∧ w'.cell? ⟨w3.heap.size, 5, none⟩ = some (.slice ba f.body.length bc))
        (first | go_keep | exact ⟨cell_far6 k0 hn36, cell_far6 k1 hn36, cell_far6 k2 hn36, cell_far6 k3 hn36, cell_far6 k4 hn36, cell_far6 k5 hn36⟩)
        ((go_at_call 33; refine (one_c _ _ [0, 1, 2, 3] _ _ _ (w.heap.size + 2) _ (hr9.x (by (repeat (first | exact X.refl _ | assumption | refine X.ext ?_ _ | refine X.alloc ?_ _ | refine X.drew ?_)))) (by omega) ((ints_lit (w := w5) rfl hb39 rfl rfl (by decide)).mono (X.fr (by (repeat (first | exact X.refl _ | assumption | refine X.ext ?_ _ | refine X.alloc ?_ _ | refine X.drew ?_))) _)) hn38 (by decide)).mono ?_; rintro _ wq ⟨md, rfl, hmd, hrq, hyq⟩; replace hyq : Y (w.heap.size + 1) w5 wq := Y.trans (Y.of_x (by (repeat (first | with_reducible exact X.refl _ | with_reducible assumption | with_reducible refine X.setCell ?_ (by first | (simp; done) | (simp; omega)) _ | with_reducible refine X.ext ?_ _ | with_reducible refine X.alloc ?_ _ | with_reducible refine X.drew ?_)))) hyq; have hB6 := hBr9.y hyq hne; have hF6 := hFb.y hyq hn37; obtain ⟨hb6, hc6, hf6⟩ := hF6.out; obtain ⟨hb7, hc7, hf7⟩ := hB6.out; have k0 := hc6 0; have k1 := hc6 1; have k2 := hc6 2; have k3 := hc6 3; have k4 := hc6 4; have k5 := hc6 5; clear hc6))
      all_goals
        have hB9 := Bx.set (Bx.set (Bx.set (Bx.set (Bx.set (Bx.set hB6 0 (.int .i64 f.root)) 1 (.string ⟨(f.pkg).toArray⟩)) 2 (.string ⟨(f.name).toArray⟩)) 3 (.bool f.init)) 4 (.int .i64 f.stamp)) 5 (.slice ba f.body.length bc)
        go_wp2
        refine bodyPost_ret (v := .tuple #[.slice la ls.length lc, .agg #[.int .i64 (f).root, .string ⟨(f).pkg.toArray⟩, .string ⟨(f).name.toArray⟩, .bool (f).init, .int .i64 (f).stamp, .slice ba f.body.length bc], .int .i64 md]) ?_ rfl ?_
        · obtain ⟨hb2, hc2, hf2⟩ := hB9.out
          have r0 := hc2 0
          have r1 := hc2 1
          have r2 := hc2 2
          have r3 := hc2 3
          have r4 := hc2 4
          have r5 := hc2 5
          clear hc2
          simp at r0 r1 r2 r3 r4 r5
          simp [results, Tryd.results21, go_sem, Result.andThen, *]
          done
        · have hfr := (hyq.fr.mono (show w.heap.size + 2 ≤ _ by omega)).trans (fr_set6 (show w.heap.size < w.heap.size + 2 by omega) (.int .i64 f.root) (.string ⟨(f.pkg).toArray⟩) (.string ⟨(f.name).toArray⟩) (.bool f.init) (.int .i64 f.stamp) (.slice ba f.body.length bc))
          have hyz := y_set6 (hy9.trans hyq) (Nat.le_refl _) (.int .i64 f.root) (.string ⟨(f.pkg).toArray⟩) (.string ⟨(f.name).toArray⟩) (.bool f.init) (.int .i64 f.stamp) (.slice ba f.body.length bc)
          generalize ((((((wq.setCell ⟨w.heap.size, 0, none⟩ (.int .i64 f.root)).setCell ⟨w.heap.size, 1, none⟩ (.string ⟨(f.pkg).toArray⟩)).setCell ⟨w.heap.size, 2, none⟩ (.string ⟨(f.name).toArray⟩)).setCell ⟨w.heap.size, 3, none⟩ (.bool f.init)).setCell ⟨w.heap.size, 4, none⟩ (.int .i64 f.stamp)).setCell ⟨w.heap.size, 5, none⟩ (.slice ba f.body.length bc)) = Q at hfr hyz ⊢
          exact ⟨ls.map (·.1), la, ls.length, lc, f, ba, f.body.length, bc, md, rfl, (hD9.mono hfr).less (by omega), hok9, (hfS9.mono hfr).less (by omega), hbc9, hlc9, hls, hb59, Y.x hyz (by omega)⟩
    · have hq1 : ((q : Int) == 0) = false := by simp; omega
      have t0 := bxOne hTb5
      clear hfS5 hok8 hbc8 hb58
      obtain ⟨b, off, sa, sn, sc, rfl, hb0, hb, hall0, hother⟩ := files_every hT0 h0
      have hall : ∀ k, k < N → w5.cell? ⟨b, off + k * 6, none⟩ = some (.int .i64 (nth t k).root) ∧ w5.cell? ⟨b, off + k * 6 + 1, none⟩ = some (.string ⟨((nth t k).pkg).toArray⟩) ∧ w5.cell? ⟨b, off + k * 6 + 2, none⟩ = some (.string ⟨((nth t k).name).toArray⟩) ∧ w5.cell? ⟨b, off + k * 6 + 3, none⟩ = some (.bool (nth t k).init) ∧ w5.cell? ⟨b, off + k * 6 + 4, none⟩ = some (.int .i64 (nth t k).stamp) ∧ w5.cell? ⟨b, off + k * 6 + 5, none⟩ = some (.slice (sa k) (sn k) (sc k)) := (fun q hq => ⟨(f05.cell hb0 hb).trans (hall0 q hq).1, (f05.cell hb0 hb).trans (hall0 q hq).2.1, (f05.cell hb0 hb).trans (hall0 q hq).2.2.1, (f05.cell hb0 hb).trans (hall0 q hq).2.2.2.1, (f05.cell hb0 hb).trans (hall0 q hq).2.2.2.2.1, (f05.cell hb0 hb).trans (hall0 q hq).2.2.2.2.2⟩)
      have hsA5 := f05.size
      have hb5 : b < w5.heap.size := by omega
      have hb36 : b ≠ w3.heap.size := by omega
      have hT36 : w2.heap.size ≠ w3.heap.size := by omega
      have Htn := Lib.hid hT0.len.1
      have Hother := Lib.hid hother
      have Hbv := Lib.hid hbv2
      clear hall0 hother hT0 hbv2
      have hallD : ∀ k, k < N → w5.drew.cell? ⟨b, off + k * 6, none⟩ = some (.int .i64 (nth t k).root) ∧ w5.drew.cell? ⟨b, off + k * 6 + 1, none⟩ = some (.string ⟨((nth t k).pkg).toArray⟩) ∧ w5.drew.cell? ⟨b, off + k * 6 + 2, none⟩ = some (.string ⟨((nth t k).name).toArray⟩) ∧ w5.drew.cell? ⟨b, off + k * 6 + 3, none⟩ = some (.bool (nth t k).init) ∧ w5.drew.cell? ⟨b, off + k * 6 + 4, none⟩ = some (.int .i64 (nth t k).stamp) ∧ w5.drew.cell? ⟨b, off + k * 6 + 5, none⟩ = some (.slice (sa k) (sn k) (sc k)) := hall
      have t0D : w5.drew.cell? ⟨w2.heap.size, 0, none⟩ = some (.slice (some ⟨b, off, none⟩) N c) := t0
      go_wp2_with fail
      go_region_held3 (fun w' => w'.cell? ⟨w2.heap.size, 0, none⟩ = some (.slice (some ⟨b, off, none⟩) N c) ∧ ∀ k, k < N → w'.cell? ⟨b, off + k * 6, none⟩ = some (.int .i64 (nth t k).root) ∧ w'.cell? ⟨b, off + k * 6 + 1, none⟩ = some (.string ⟨((nth t k).pkg).toArray⟩) ∧ w'.cell? ⟨b, off + k * 6 + 2, none⟩ = some (.string ⟨((nth t k).name).toArray⟩) ∧ w'.cell? ⟨b, off + k * 6 + 3, none⟩ = some (.bool (nth t k).init) ∧ w'.cell? ⟨b, off + k * 6 + 4, none⟩ = some (.int .i64 (nth t k).stamp) ∧ w'.cell? ⟨b, off + k * 6 + 5, none⟩ = some (.slice (sa k) (sn k) (sc k)))
        (first | with_reducible exact ⟨t0, hall⟩ | with_reducible exact ⟨t0D, hallD⟩ | with_reducible exact ⟨t8, hall8⟩ | with_reducible exact ⟨cell_far6 t8 hT36, fun k hk => ⟨cell_far6 (hall8 k hk).1 hb36, cell_far6 (hall8 k hk).2.1 hb36, cell_far6 (hall8 k hk).2.2.1 hb36, cell_far6 (hall8 k hk).2.2.2.1 hb36, cell_far6 (hall8 k hk).2.2.2.2.1 hb36, cell_far6 (hall8 k hk).2.2.2.2.2 hb36⟩⟩ | go_keep)
        ((go_at_call 49; refine (pick_c _ _ _ _ (hr5.x (by (repeat (first | exact X.refl _ | assumption | refine X.ext ?_ _ | refine X.alloc ?_ _ | refine X.drew ?_)))) (by omega) (by omega)).mono ?_; rintro _ w8 ⟨k, rfl, hk, hr8, hy8⟩; replace hy8 : Y (w.heap.size + 1) w5 w8 := Y.trans (Y.of_x (by (repeat (first | exact X.refl _ | assumption | refine X.ext ?_ _ | refine X.alloc ?_ _ | refine X.drew ?_)))) hy8; have hkn : k < N := (by omega); have t8 := bxOne (hTb5.y hy8 (by omega)); have hf8 : Fr (w.heap.size + 2) w5 w8 := hy8.fr; have hall8 : ∀ k, k < N → w8.cell? ⟨b, off + k * 6, none⟩ = some (.int .i64 (nth t k).root) ∧ w8.cell? ⟨b, off + k * 6 + 1, none⟩ = some (.string ⟨((nth t k).pkg).toArray⟩) ∧ w8.cell? ⟨b, off + k * 6 + 2, none⟩ = some (.string ⟨((nth t k).name).toArray⟩) ∧ w8.cell? ⟨b, off + k * 6 + 3, none⟩ = some (.bool (nth t k).init) ∧ w8.cell? ⟨b, off + k * 6 + 4, none⟩ = some (.int .i64 (nth t k).stamp) ∧ w8.cell? ⟨b, off + k * 6 + 5, none⟩ = some (.slice (sa k) (sn k) (sc k)) := (fun q hq => ⟨(hf8.cell hb0 hb5).trans (hall q hq).1, (hf8.cell hb0 hb5).trans (hall q hq).2.1, (hf8.cell hb0 hb5).trans (hall q hq).2.2.1, (hf8.cell hb0 hb5).trans (hall q hq).2.2.2.1, (hf8.cell hb0 hb5).trans (hall q hq).2.2.2.2.1, (hf8.cell hb0 hb5).trans (hall q hq).2.2.2.2.2⟩); obtain ⟨g0, g1, g2, g3, g4, g5⟩ := hall8 k hkn; have hF8 := hF5.y hy8 (by omega); obtain ⟨hbF, hcF, hfF⟩ := hF8.out))
      all_goals
        rename_i hHeld
        clear hHeld
        obtain ⟨ho1, ho2, ho3⟩ := Hother.out k hkn
        have hsm := Hbv.out (nth t k) (nth_mem (by rw [← Htn.out]; exact hkn))
        have f09 := fr_far6 (f05.trans hf8) (show A.heap.size ≤ w3.heap.size by omega) (.int .i64 (nth t k).root) (.string ⟨((nth t k).pkg).toArray⟩) (.string ⟨((nth t k).name).toArray⟩) (.bool (nth t k).init) (.int .i64 (nth t k).stamp) (.slice (sa k) (sn k) (sc k))
        have hD9 := hD0.mono f09
        have hfS9 := ho3.mono f09
        have hr9 := rdr_set6 hr8 (show w.heap.size + 1 < w3.heap.size by omega) (.int .i64 (nth t k).root) (.string ⟨((nth t k).pkg).toArray⟩) (.string ⟨((nth t k).name).toArray⟩) (.bool (nth t k).init) (.int .i64 (nth t k).stamp) (.slice (sa k) (sn k) (sc k))
        have hy9 := y_set6 (hy7.trans hy8) (show w.heap.size ≤ w3.heap.size by omega) (.int .i64 (nth t k).root) (.string ⟨((nth t k).pkg).toArray⟩) (.string ⟨((nth t k).name).toArray⟩) (.bool (nth t k).init) (.int .i64 (nth t k).stamp) (.slice (sa k) (sn k) (sc k))
        have hBr9 := (hB5.y hy8 hne).far6 (show w.heap.size ≠ w3.heap.size by omega) (.int .i64 (nth t k).root) (.string ⟨((nth t k).pkg).toArray⟩) (.string ⟨((nth t k).name).toArray⟩) (.bool (nth t k).init) (.int .i64 (nth t k).stamp) (.slice (sa k) (sn k) (sc k))
        have hFb := hF8.set6 (.int .i64 (nth t k).root) (.string ⟨((nth t k).pkg).toArray⟩) (.string ⟨((nth t k).name).toArray⟩) (.bool (nth t k).init) (.int .i64 (nth t k).stamp) (.slice (sa k) (sn k) (sc k))
        have hs8 := hy8.size
        have hs9 : w5.heap.size ≤ ((((((w8.setCell ⟨w3.heap.size, 0, none⟩ (.int .i64 (nth t k).root)).setCell ⟨w3.heap.size, 1, none⟩ (.string ⟨((nth t k).pkg).toArray⟩)).setCell ⟨w3.heap.size, 2, none⟩ (.string ⟨((nth t k).name).toArray⟩)).setCell ⟨w3.heap.size, 3, none⟩ (.bool (nth t k).init)).setCell ⟨w3.heap.size, 4, none⟩ (.int .i64 (nth t k).stamp)).setCell ⟨w3.heap.size, 5, none⟩ (.slice (sa k) (sn k) (sc k))).heap.size := by have := (fr_set6 (W := w8) (b := w3.heap.size) (B := w3.heap.size + 1) (by omega) (.int .i64 (nth t k).root) (.string ⟨((nth t k).pkg).toArray⟩) (.string ⟨((nth t k).name).toArray⟩) (.bool (nth t k).init) (.int .i64 (nth t k).stamp) (.slice (sa k) (sn k) (sc k))).size; omega
        generalize ((((((w8.setCell ⟨w3.heap.size, 0, none⟩ (.int .i64 (nth t k).root)).setCell ⟨w3.heap.size, 1, none⟩ (.string ⟨((nth t k).pkg).toArray⟩)).setCell ⟨w3.heap.size, 2, none⟩ (.string ⟨((nth t k).name).toArray⟩)).setCell ⟨w3.heap.size, 3, none⟩ (.bool (nth t k).init)).setCell ⟨w3.heap.size, 4, none⟩ (.int .i64 (nth t k).stamp)).setCell ⟨w3.heap.size, 5, none⟩ (.slice (sa k) (sn k) (sc k))) = W at *
        have hbc9 := ho2
        have hb59 : sn k ≤ 5 := by have := ho3.1; have := hsm.2.2.1; omega
        clear t0 t0D hallD t8 hall hall8 g0 g1 g2 g3 g4 g5 hTb5 hr5 hB5 hF5 hD5 hy7 hbF hcF hfF hF8 hr8 hy8 hf8 f09 f05 hD0 ho2 ho3
        generalize sn k = bn at *
        generalize sa k = ba at *
        generalize sc k = bc at *
        generalize nth t k = f at *
        have hok9 := ho1
        go_wp2
        have hBrW := Lib.hid hBr9
        obtain ⟨hb, hc, hf⟩ := hFb.out
        have f0 := hc 0
        have f1 := hc 1
        have f2 := hc 2
        have f3 := hc 3
        have f4 := hc 4
        have f5 := hc 5
        clear hc
        have hltW := hr9.lt
        have hn36 : w3.heap.size ≠ w.heap.size := by omega
        have hn37 : w3.heap.size ≠ w.heap.size + 1 := by omega
        have hn38 : w.heap.size + 1 < w.heap.size + 2 := by omega
        have hb39 : w.heap.size + 2 ≤ (W).heap.size := by omega
        go_region_held3 (fun w' => w'.cell? ⟨w3.heap.size, 0, none⟩ = some (.int .i64 f.root) ∧ w'.cell? ⟨w3.heap.size, 1, none⟩ = some (.string ⟨(f.pkg).toArray⟩) ∧ w'.cell? ⟨w3.heap.size, 2, none⟩ = some (.string ⟨(f.name).toArray⟩) ∧ w'.cell? ⟨w3.heap.size, 3, none⟩ = some (.bool f.init) ∧ w'.cell? ⟨w3.heap.size, 4, none⟩ = some (.int .i64 f.stamp) ∧ w'.cell? ⟨w3.heap.size, 5, none⟩ = some (.slice ba bn bc))
          (first | go_keep | exact ⟨cell_far6 k0 hn36, cell_far6 k1 hn36, cell_far6 k2 hn36, cell_far6 k3 hn36, cell_far6 k4 hn36, cell_far6 k5 hn36⟩)
          ((go_at_call 33; refine (one_c _ _ [0, 1, 2, 3] _ _ _ (w.heap.size + 2) _ (hr9.x (by (repeat (first | exact X.refl _ | assumption | refine X.ext ?_ _ | refine X.alloc ?_ _ | refine X.drew ?_)))) (by omega) ((ints_lit (w := W) rfl hb39 rfl rfl (by decide)).mono (X.fr (by (repeat (first | exact X.refl _ | assumption | refine X.ext ?_ _ | refine X.alloc ?_ _ | refine X.drew ?_))) _)) hn38 (by decide)).mono ?_; rintro _ wq ⟨md, rfl, hmd, hrq, hyq⟩; replace hyq : Y (w.heap.size + 1) W wq := Y.trans (Y.of_x (by (repeat (first | with_reducible exact X.refl _ | with_reducible assumption | with_reducible refine X.setCell ?_ (by first | (simp; done) | (simp; omega)) _ | with_reducible refine X.ext ?_ _ | with_reducible refine X.alloc ?_ _ | with_reducible refine X.drew ?_)))) hyq; have hB6 := hBr9.y hyq hne; have hF6 := hFb.y hyq hn37; obtain ⟨hb6, hc6, hf6⟩ := hF6.out; obtain ⟨hb7, hc7, hf7⟩ := hB6.out; have k0 := hc6 0; have k1 := hc6 1; have k2 := hc6 2; have k3 := hc6 3; have k4 := hc6 4; have k5 := hc6 5; clear hc6))
        all_goals
          have hB9 := Bx.set (Bx.set (Bx.set (Bx.set (Bx.set (Bx.set hB6 0 (.int .i64 f.root)) 1 (.string ⟨(f.pkg).toArray⟩)) 2 (.string ⟨(f.name).toArray⟩)) 3 (.bool f.init)) 4 (.int .i64 f.stamp)) 5 (.slice ba bn bc)
          go_wp2
          refine bodyPost_ret (v := .tuple #[.slice la ls.length lc, .agg #[.int .i64 (f).root, .string ⟨(f).pkg.toArray⟩, .string ⟨(f).name.toArray⟩, .bool (f).init, .int .i64 (f).stamp, .slice ba bn bc], .int .i64 md]) ?_ rfl ?_
          · obtain ⟨hb2, hc2, hf2⟩ := hB9.out
            have r0 := hc2 0
            have r1 := hc2 1
            have r2 := hc2 2
            have r3 := hc2 3
            have r4 := hc2 4
            have r5 := hc2 5
            clear hc2
            simp at r0 r1 r2 r3 r4 r5
            simp [results, Tryd.results21, go_sem, Result.andThen, *]
            done
          · have hfr := (hyq.fr.mono (show w.heap.size + 2 ≤ _ by omega)).trans (fr_set6 (show w.heap.size < w.heap.size + 2 by omega) (.int .i64 f.root) (.string ⟨(f.pkg).toArray⟩) (.string ⟨(f.name).toArray⟩) (.bool f.init) (.int .i64 f.stamp) (.slice ba bn bc))
            have hyz := y_set6 (hy9.trans hyq) (Nat.le_refl _) (.int .i64 f.root) (.string ⟨(f.pkg).toArray⟩) (.string ⟨(f.name).toArray⟩) (.bool f.init) (.int .i64 f.stamp) (.slice ba bn bc)
            generalize ((((((wq.setCell ⟨w.heap.size, 0, none⟩ (.int .i64 f.root)).setCell ⟨w.heap.size, 1, none⟩ (.string ⟨(f.pkg).toArray⟩)).setCell ⟨w.heap.size, 2, none⟩ (.string ⟨(f.name).toArray⟩)).setCell ⟨w.heap.size, 3, none⟩ (.bool f.init)).setCell ⟨w.heap.size, 4, none⟩ (.int .i64 f.stamp)).setCell ⟨w.heap.size, 5, none⟩ (.slice ba bn bc)) = Q at hfr hyz ⊢
            exact ⟨ls.map (·.1), la, ls.length, lc, f, ba, bn, bc, md, rfl, (hD9.mono hfr).less (by omega), hok9, (hfS9.mono hfr).less (by omega), hbc9, hlc9, hls, hb59, Y.x hyz (by omega)⟩

end Go.Proofs.YtebnjkjllinabaaDoor
