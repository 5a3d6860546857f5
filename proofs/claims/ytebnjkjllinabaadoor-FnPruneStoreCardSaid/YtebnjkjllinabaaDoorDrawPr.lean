/- The arguments of PruneStore: the generator. No condition. -/
import Derived.Test.YtebnjkjllinabaaDoorDrawSo
namespace Go.Proofs.YtebnjkjllinabaaDoor
open Go.RowKit

/-- The files but the first, whatever the address where there are none. -/
theorem FilesAt.tail1 {w : World} {B g n : Nat} {l : List Fi} (h : FilesAt w B (some ⟨g, 0, none⟩) (n + 1) l) {a' : Option Addr} (ha : 0 < n → a' = some ⟨g, 6, none⟩) : FilesAt w B a' n (l.drop 1) := by
  obtain ⟨vs, rfl, h1, h2, h3, h4, h5⟩ := h
  cases vs with
  | nil => simp at h1
  | cons x vs =>
    refine ⟨vs, rfl, by simpa using h1, by omega, fun f hf => h3 f (List.mem_cons_of_mem _ hf), fun h0 => ?_, fun y hy => h5 y (List.mem_cons_of_mem _ hy)⟩
    obtain ⟨b, off, e, hB, hb, hc⟩ := h4 (by omega)
    obtain ⟨rfl, rfl⟩ : b = g ∧ off = 0 := by simp at e; exact ⟨e.1.symm, e.2.symm⟩
    refine ⟨b, 6, ha h0, hB, hb, fun i hi => ?_⟩
    have hl6 : (fcells x).length = 6 := fcells6 x
    have := hc (6 + i) (by rw [List.flatMap_cons, List.length_append]; omega)
    rw [Nat.zero_add] at this
    rw [this]
    congr 1
    simp only [List.flatMap_cons]
    rw [List.getElem_append_right (by omega)]
    congr 1
    omega

set_option maxRecDepth 100000 in
set_option maxHeartbeats 1000000 in
theorem DrawPruneStore_c (ca : Option Addr) (cn cc : Nat) (w : World) (hC : CodeAt w ca cn cc) (hn : cn ≤ 1048576) :
    Calls Tryd.prog 16 #[.slice ca cn cc] w fun e w' => DrawnST w w' e := by
  have hBr := Bx.new w #[.slice none 0 0] 25
  go_enter Tryd.func16, Tryd.ntmps16
  go_wp2_with fail
  refine (newReader_c ca cn cc _ hC.1 (fun h => by
    obtain ⟨b, off, h1, h2, h3⟩ := hC.2 h
    exact ⟨b, off, h1, by simp; omega, fun i hi => by
      obtain ⟨v, hv, hc⟩ := h3 i hi
      exact ⟨v, hv, by rw [World.cell?_alloc_lt _ _ _ h2]; exact hc⟩⟩) hn).mono ?_
  rintro _ w1 ⟨rfl, hr, hx⟩
  rw [World.size_alloc] at hr
  replace hBr := hBr.x hx
  have hxx : X w w1 := X.trans (by (repeat (first | exact X.refl _ | assumption | refine X.ext ?_ _ | refine X.alloc ?_ _ | refine X.drew ?_))) hx
  have hlt := hr.lt
  have hne : w.heap.size ≠ w.heap.size + 1 := by omega
  simp only [World.size_alloc]
  have hy : Y (w.heap.size + 1) w w1 := Y.of_x hxx
  clear hx hxx
  go_wp2_with fail
  refine (anyStore_c _ _ _ hr (by omega)).mono ?_
  rintro _ w2 ⟨ls, la, lc, vs, a, c, rfl, hS, hT, hls, hvs, hr', hy'⟩
  replace hBr := hBr.y hy' hne
  replace hy := hy.trans ((Y.of_x (by (repeat (first | exact X.refl _ | assumption | refine X.ext ?_ _ | refine X.alloc ?_ _ | refine X.drew ?_)))).trans hy'); replace hr := hr'; clear hr' hy'
  have hs2 : w.heap.size < w2.heap.size := hBr.lt
  have hc1 := own_cap hS.row
  have hc2 := own_cap hT.row
  obtain ⟨N, hN⟩ : ∃ N, vs.length = N := ⟨_, rfl⟩
  have hform := fun h0 : 0 < vs.length => own_form hT.row h0
  rw [hN] at hvs hc2 hform ⊢
  have HN := Lib.hid hN
  clear hN
  have hTb : Bx (w2.alloc (.cells #[.slice a N c] 25)) w2.heap.size #[.slice a N c] := Bx.new _ _ _
  have hB1 := hBr.x (w' := w2.alloc (.cells #[.slice a N c] 25)) (by (repeat (first | exact X.refl _ | assumption | refine X.ext ?_ _ | refine X.alloc ?_ _ | refine X.drew ?_)))
  have hy1 := hy.trans (Y.of_x (w' := w2.alloc (.cells #[.slice a N c] 25)) (by (repeat (first | exact X.refl _ | assumption | refine X.ext ?_ _ | refine X.alloc ?_ _ | refine X.drew ?_))))
  have hr1 := hr.x (w' := w2.alloc (.cells #[.slice a N c] 25)) (by (repeat (first | exact X.refl _ | assumption | refine X.ext ?_ _ | refine X.alloc ?_ _ | refine X.drew ?_)))
  have hS1 := hS.fr (X.fr (w' := w2.alloc (.cells #[.slice a N c] 25)) (by (repeat (first | exact X.refl _ | assumption | refine X.ext ?_ _ | refine X.alloc ?_ _ | refine X.drew ?_))) _)
  have hT1 := hT.fr (X.fr (w' := w2.alloc (.cells #[.slice a N c] 25)) (by (repeat (first | exact X.refl _ | assumption | refine X.ext ?_ _ | refine X.alloc ?_ _ | refine X.drew ?_))) _)
  have hTb0 : (w2.alloc (.cells #[.slice a N c] 25)).heap[w2.heap.size]? = some (.cells #[.slice a N c] 25 (0, 0)) := heap_alloc_new w2 _
  clear hBr hy hr hS hT
  rcases Nat.eq_zero_or_pos N with h0 | h0
  · subst h0
    have hB2 := hB1
    have hTb2 := hTb
    have hD2 := (hS1.cos (by omega)).less (B' := w.heap.size + 2) (by omega)
    have hF2 : FilesAt (w2.alloc (.cells #[.slice a 0 c] 25)) (w.heap.size + 2) a 0 (vs.map (·.1)) := by
      have := (hT1.files (by rw [HN.out]; omega)).less (B' := w.heap.size + 2) (by omega)
      rw [HN.out] at this
      exact this
    have hy2 := hy1
    clear hB1 hTb hS1 hT1 hy1 hform hTb0
    generalize vs.map (·.1) = t at *
    go_wp2
    generalize w2.alloc (.cells #[.slice a 0 c] 25) = W2 at *
    obtain ⟨hb9, hc9, hf9⟩ := hB2.out
    have r9 := hc9 0
    clear hc9
    have z9 := bxOne hTb2
    have l9 := hTb2.lt
    have n9 : w2.heap.size ≠ w.heap.size := by omega
    go_region
    all_goals
      go_wp2
      refine bodyPost_ret (v := .tuple #[.slice la ls.length lc, .agg #[.slice a 0 c]]) ?_ rfl ?_
      · have e0 := bxOne (Bx.set hB2 0 (.slice a 0 c))
        clear r9 z9
        simp [results, Tryd.results16, go_sem, e0, Result.andThen]
      · exact ⟨ls.map (·.1), la, ls.length, lc, t, a, 0, c, rfl, (hD2.mono ((Fr.set (Fr.refl _ _) (.inr (by simp)) _).trans (X.fr (X.drew (X.refl _)) _))).less (by omega), (hF2.mono ((Fr.set (Fr.refl _ _) (.inr (by simp)) _).trans (X.fr (X.drew (X.refl _)) _))).less (by omega), hc1, by omega, hls, by omega, Y.x (Y.set2 hy2 (by simp) _).drew (by omega)⟩
  obtain ⟨g, rfl, hg1, hgl⟩ := hform h0
  go_wp2_with fail
  refine (pick_c _ _ 2 _ hr1 (by omega) (by omega)).mono ?_
  rintro _ w3 ⟨q, rfl, hq, hr3, hy3⟩
  have hs3 := hy3.size
  rw [World.size_alloc] at hs3
  have hB3 := hB1.y hy3 hne
  have hTb3 := hTb.y hy3 (by omega)
  have hS3 := hS1.fr (hy3.fr.mono (by omega))
  have hT3 := hT1.fr (hy3.fr.mono (by omega))
  have hTb4 := at_y hTb0 hy3 (by omega)
  have hy4 := hy1.trans hy3
  clear hB1 hTb hS1 hT1 hy1 hform hr1 hy3 hTb0
  have hD3 := (hS3.cos (by omega)).less (B' := w.heap.size + 2) (by omega)
  have hF3 : FilesAt w3 (w.heap.size + 2) (some ⟨g, 0, none⟩) N (vs.map (·.1)) := by
    have := (hT3.files (by rw [HN.out]; omega)).less (B' := w.heap.size + 2) (by omega)
    rw [HN.out] at this
    exact this
  have hD5 := fun u => ((StoreW.set_far hS3 hTb4 (by decide) (by decide) 0 u).cos (by omega)).less (B' := w.heap.size + 2) (by omega)
  have hF5 : ∀ u, FilesAt (w3.setCell ⟨w2.heap.size, 0, none⟩ u) (w.heap.size + 2) (some ⟨g, 0, none⟩) N (vs.map (·.1)) := fun u => by
    have := ((TreeW.set_far hT3 hTb4 (by decide) (by decide) 0 u).files (by rw [HN.out]; omega)).less (B' := w.heap.size + 2) (by omega)
    rw [HN.out] at this
    exact this
  clear hS3 hT3 hTb4 HN
  generalize vs.map (·.1) = t at *
  by_cases hq0 : q = 0
  · subst hq0
    obtain ⟨n, rfl⟩ : ∃ n, N = n + 1 := ⟨N - 1, by omega⟩
    have z3 := bxOne hTb3
    have l3 := hTb3.lt
    have f3 := hTb3.out.2.2
    have hB5 := Bx.far hB3 (p := ⟨w2.heap.size, 0, none⟩) (by simp; omega)
    have hTb5 := Bx.set hTb3 0
    have hy5 := Y.set2 hy4 (p := ⟨w2.heap.size, 0, none⟩) (by simp; omega)
    clear hB3 hD3 hF3 hy4
    go_wp2
    · obtain rfl : n = 0 := by omega
      have hB2 := hB5 (.slice (some ⟨g, 0, none⟩) 0 0)
      have hTb2 : Bx (w3.setCell ⟨w2.heap.size, 0, none⟩ (.slice (some ⟨g, 0, none⟩) 0 0)) w2.heap.size #[.slice (some ⟨g, 0, none⟩) 0 0] := hTb5 _
      have hD2 := hD5 (.slice (some ⟨g, 0, none⟩) 0 0)
      have hF2 := (hF5 (.slice (some ⟨g, 0, none⟩) 0 0)).tail1 (a' := some ⟨g, 0, none⟩) (fun h => by omega)
      have hy2 := hy5 (.slice (some ⟨g, 0, none⟩) 0 0)
      clear hB5 hTb5 hD5 hF5 hy5 z3 f3 l3
      generalize w3.setCell ⟨w2.heap.size, 0, none⟩ (.slice (some ⟨g, 0, none⟩) 0 0) = W2 at *
      obtain ⟨hb9, hc9, hf9⟩ := hB2.out
      have r9 := hc9 0
      clear hc9
      have z9 := bxOne hTb2
      have l9 := hTb2.lt
      have n9 : w2.heap.size ≠ w.heap.size := by omega
      go_region
      all_goals
        go_wp2
        refine bodyPost_ret (v := .tuple #[.slice la ls.length lc, .agg #[.slice (some ⟨g, 0, none⟩) 0 0]]) ?_ rfl ?_
        · have e0 := bxOne (Bx.set hB2 0 (.slice (some ⟨g, 0, none⟩) 0 0))
          clear r9 z9
          simp [results, Tryd.results16, go_sem, e0, Result.andThen]
        · exact ⟨ls.map (·.1), la, ls.length, lc, (t.drop 1), (some ⟨g, 0, none⟩), 0, 0, rfl, (hD2.mono ((Fr.set (Fr.refl _ _) (.inr (by simp)) _).trans (X.fr (X.drew (X.refl _)) _))).less (by omega), (hF2.mono ((Fr.set (Fr.refl _ _) (.inr (by simp)) _).trans (X.fr (X.drew (X.refl _)) _))).less (by omega), hc1, by omega, hls, by omega, Y.x (Y.set2 hy2 (by simp) _).drew (by omega)⟩
    · have hB2 := hB5 (.slice (some ⟨g, 6, none⟩) n (c - 1))
      have hTb2 : Bx (w3.setCell ⟨w2.heap.size, 0, none⟩ (.slice (some ⟨g, 6, none⟩) n (c - 1))) w2.heap.size #[.slice (some ⟨g, 6, none⟩) n (c - 1)] := hTb5 _
      have hD2 := hD5 (.slice (some ⟨g, 6, none⟩) n (c - 1))
      have hF2 := (hF5 (.slice (some ⟨g, 6, none⟩) n (c - 1))).tail1 (a' := some ⟨g, 6, none⟩) (fun _ => rfl)
      have hy2 := hy5 (.slice (some ⟨g, 6, none⟩) n (c - 1))
      clear hB5 hTb5 hD5 hF5 hy5 z3 f3 l3
      generalize w3.setCell ⟨w2.heap.size, 0, none⟩ (.slice (some ⟨g, 6, none⟩) n (c - 1)) = W2 at *
      obtain ⟨hb9, hc9, hf9⟩ := hB2.out
      have r9 := hc9 0
      clear hc9
      have z9 := bxOne hTb2
      have l9 := hTb2.lt
      have n9 : w2.heap.size ≠ w.heap.size := by omega
      go_region
      all_goals
        go_wp2
        refine bodyPost_ret (v := .tuple #[.slice la ls.length lc, .agg #[.slice (some ⟨g, 6, none⟩) n (c - 1)]]) ?_ rfl ?_
        · have e0 := bxOne (Bx.set hB2 0 (.slice (some ⟨g, 6, none⟩) n (c - 1)))
          clear r9 z9
          simp [results, Tryd.results16, go_sem, e0, Result.andThen]
        · exact ⟨ls.map (·.1), la, ls.length, lc, (t.drop 1), (some ⟨g, 6, none⟩), n, (c - 1), rfl, (hD2.mono ((Fr.set (Fr.refl _ _) (.inr (by simp)) _).trans (X.fr (X.drew (X.refl _)) _))).less (by omega), (hF2.mono ((Fr.set (Fr.refl _ _) (.inr (by simp)) _).trans (X.fr (X.drew (X.refl _)) _))).less (by omega), hc1, by omega, hls, by omega, Y.x (Y.set2 hy2 (by simp) _).drew (by omega)⟩
  · have hq1 : ((q : Int) == 0) = false := by simp; omega
    have hB2 := hB3
    have hTb2 := hTb3
    have hD2 := hD3
    have hF2 := hF3
    have hy2 := hy4
    clear hB3 hTb3 hD3 hF3 hy4
    go_wp2
    obtain ⟨hb9, hc9, hf9⟩ := hB2.out
    have r9 := hc9 0
    clear hc9
    have z9 := bxOne hTb2
    have l9 := hTb2.lt
    have n9 : w2.heap.size ≠ w.heap.size := by omega
    go_region
    all_goals
      go_wp2
      refine bodyPost_ret (v := .tuple #[.slice la ls.length lc, .agg #[.slice (some ⟨g, 0, none⟩) N c]]) ?_ rfl ?_
      · have e0 := bxOne (Bx.set hB2 0 (.slice (some ⟨g, 0, none⟩) N c))
        clear r9 z9
        simp [results, Tryd.results16, go_sem, e0, Result.andThen]
      · exact ⟨ls.map (·.1), la, ls.length, lc, t, (some ⟨g, 0, none⟩), N, c, rfl, (hD2.mono ((Fr.set (Fr.refl _ _) (.inr (by simp)) _).trans (X.fr (X.drew (X.refl _)) _))).less (by omega), (hF2.mono ((Fr.set (Fr.refl _ _) (.inr (by simp)) _).trans (X.fr (X.drew (X.refl _)) _))).less (by omega), hc1, by omega, hls, by omega, Y.x (Y.set2 hy2 (by simp) _).drew (by omega)⟩

end Go.Proofs.YtebnjkjllinabaaDoor
