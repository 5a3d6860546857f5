/- The walk of the law FnHiddenFilesGone. -/
import Derived.Test.YtijcdnaammbomaaGreatDoorHidden
import Derived.Test.YtijcdnaammbomaaGreatDoorSameW
import Derived.Test.YtijcdnaammbomaaGreatDoorEq
import Derived.Test.YtijcdnaammbomaaGreatDoorInv
import Derived.Test.YtijcdnaammbomaaGreatDoorDrawTree
import Derived.Deep.RegionHeld3
import Derived.Deep.CutRange
namespace Go.Proofs.YtijcdnaammbomaaGreatDoor
open Go.RowKit

theorem HasDir_g (l : List Fi) (a : Option Addr) (n c B : Nat) (r : Int) (p : List UInt8) (w : World) (hF : FilesAt w B a n l) (hc : n ≤ c) (hp : p.length ≤ 4194304) (hG : Gm w) :
    Calls Tryz.prog 27 #[.agg #[.slice a n c], .int .i64 r, .string ⟨(p).toArray⟩] w fun e w' => e = .returned (.bool (hasB l r p)) ∧ X w w' := HasDir_c l a n c B r p w hF hc hp hG
theorem gone_law {l : List Fi} {path : List Int} (h : (hidL l path).length ≠ 0) :
    ∃ k : Nat, nth (hidL l path) 0 = (k : Int) ∧ k < l.length ∧ treeB l = true ∧ pathB path = true ∧ (specB l path (moduleOf (nth l k))).file ≠ (k : Int) := by
  have hb : (treeB l && pathB path) = true := by
    cases hc : (treeB l && pathB path)
    · rw [hidL, hc] at h
      exact absurd rfl h
    · rfl
  have hm : nth (hidL l path) 0 ∈ hidL l path := nth_mem (by omega)
  rw [show hidL l path = hidN l path l.length by rw [hidL, if_pos hb]] at hm ⊢
  unfold hidN at hm
  obtain ⟨k, hk, e⟩ := List.mem_map.1 hm
  rw [List.mem_filter, List.mem_range] at hk
  rw [Bool.and_eq_true] at hb
  refine ⟨k, e.symm, hk.1, hb.1, hb.2, ?_⟩
  have := hk.2
  unfold hidB at this
  simpa using this
set_option maxRecDepth 100000 in
set_option maxHeartbeats 4000000 in
theorem FnHiddenFilesGone_c (ca : Option Addr) (cn cc : Nat) (w : World) (hC : CodeAt w ca cn cc) (hG : Gm w) :
    Calls Tryz.prog 5 #[.slice ca cn cc] w fun e w' => e = .returned (.bool true) ∧ X w w' := by
  by_cases hbig : 1048576 < cn
  · go_enter Tryz.func5, Tryz.ntmps5
    go_wp2
    go_ret
    exact ⟨by simp, by (repeat (first | exact X.refl _ | assumption | refine X.ext ?_ _ | refine X.alloc ?_ _ | refine X.drew ?_))⟩
  · go_enter Tryz.func5, Tryz.ntmps5
    go_wp2_with fail
    refine (DrawHiddenFiles_c ca cn cc _ hC (by omega)).mono ?_
    rintro _ W1 ⟨l, a, n, c, path, pa, pn, pc, rfl, hF, hnc, hn11, hsm, hI, hpc, hpn3, hx1⟩
    have HL := Lib.hid (@gone_law l path)
    obtain ⟨V, hV⟩ : ∃ V, hidL l path = V := ⟨_, rfl⟩
    rw [hV] at HL
    have HV := Lib.hid hV
    clear hV
    go_wp2_with fail
    refine calls_name (fun W2 hW2 => ?_)
    have hB2 : Bx W2 W1.heap.size #[.slice a n c] := by rw [hW2]; first | exact Bx.new _ _ _ | exact Bx.set (Bx.new _ _ _) 0 _
    have hx2 : X W1 W2 := by rw [hW2]; (repeat (first | with_reducible exact X.refl _ | with_reducible assumption | with_reducible refine X.setCell ?_ (by first | (simp; done) | (simp; omega)) _ | with_reducible refine X.ext ?_ _ | with_reducible refine X.alloc ?_ _ | with_reducible refine X.drew ?_))
    clear hW2
    have hxw := hx1.trans hx2
    replace hF := hF.mono (hx2.fr _)
    replace hI := hI.mono (hx2.fr _)
    replace hG := hG.mono hxw
    clear hx1 hx2
    refine (HiddenFiles_i l a n c _ path pa pn pc _ W2 hF hnc hI hpc hG).mono ?_
    rw [HV.out]
    obtain ⟨m, hm⟩ : ∃ m, V.length = m := ⟨_, rfl⟩
    rw [hm] at HL ⊢
    have Hm := Lib.hid hm
    clear hm
    rintro _ W3 ⟨ra, rc, rfl, hS3, hx3⟩
    have hB3 := hB2.x hx3
    have t0 := bxC hB3
    have lt0 := hB3.lt
    go_wp2_with fail
    refine (HiddenFiles_s l a n c _ path pa pn pc _ W3 (hF.mono (hx3.fr _)) (hI.mono (hx3.fr _)) hpc).mono ?_
    rw [HV.out, Hm.out]
    rintro _ W4 ⟨ra4, rc4, rfl, hS4, hx4⟩
    go_wp2_with fail
    refine (equalInts_c V V ra ra4 _ _ rc rc4 _ _ W4 (hS3.mono (hx4.fr _)) hS4).mono ?_
    rintro _ W5 ⟨rfl, hx5⟩
    rw [decide_eq_true (rfl : V = V)]
    have hx35 := hx4.trans hx5
    have hx25 := hx3.trans hx35
    have hS5 := hS3.mono (hx35.fr _)
    have hB5 := hB3.x hx35
    replace hxw := hxw.trans hx25
    replace hF := hF.mono (hx25.fr _)
    replace hI := hI.mono (hx25.fr _)
    replace hG := hG.mono hx25
    clear t0 lt0 hx3 hx4 hx5 hx35 hx25 hS3 hS4 hB3 hB2
    have t0 := bxC hB5
    have lt0 := hB5.lt
    by_cases hz : m = 0
    · subst hz
      go_wp2_with fail
      refine (HiddenFiles_s l a n c _ path pa pn pc _ W5 hF hI hpc).mono ?_
      rw [HV.out, Hm.out]
      rintro _ W7 ⟨ra7, rc7, rfl, hS7, hx7⟩
      go_wp2_with fail
      refine (equalInts_c V V ra ra7 _ _ rc rc7 _ _ W7 (hS5.mono (hx7.fr _)) hS7).mono ?_
      rintro _ W8 ⟨rfl, hx8⟩
      rw [decide_eq_true (rfl : V = V)]
      go_wp2
      go_ret
      exact ⟨rfl, (hxw.trans hx7).trans hx8⟩
    obtain ⟨k, hk0, hkl, ht, hp, hhid⟩ := HL.out hz
    have hkn : k < n := by rw [hF.len.1]; exact hkl
    have hrB : remB l (k : Int) = true := by
      unfold remB
      rw [ht]
      exact rangeB_yes (n := (k : Int)) (lo := 0) (hi := (l.length : Int) - 1) (by omega) (by omega)
    have hrL : remL l (k : Int) = l.eraseIdx k := by
      rw [remL, if_pos hrB]
      rfl
    have hsame := @same_hidden l path k hkl ht hp hhid
    have okl := hF.okL
    have okE : OkL (l.eraseIdx k) := ⟨by have := (List.eraseIdx_sublist l k).length_le; have := okl.1; omega, fun f hf => okl.2 f (List.mem_of_mem_eraseIdx hf)⟩
    obtain ⟨E, hE⟩ : ∃ E, l.eraseIdx k = E := ⟨_, rfl⟩
    rw [hE] at hrL hsame okE
    have hEl : E.length = E.length := rfl
    obtain ⟨q, hq⟩ : ∃ q, E.length = q := ⟨_, rfl⟩
    have Hq := Lib.hid hq
    have Hsame := Lib.hid hsame
    have HrL := Lib.hid hrL
    have HrB := Lib.hid hrB
    clear hEl hE hq hrL hsame hrB HL hhid hkl
    obtain ⟨b, off, rfl, _, hb, hc⟩ := hS5.at_ (k := 0) (by omega)
    rw [hk0, Nat.add_zero] at hc
    have lb : b < W5.heap.size := hb
    have q1 : (0 : Int) < (m : Int) := by omega
    have q2 : 0 < m := by omega
    clear hk0
    have hall : ∀ W', X W5 W' → W'.cell? ⟨W1.heap.size, 0, none⟩ = some (.slice a n c) ∧ W'.cell? ⟨b, off, none⟩ = some (.int .i64 (k : Int)) := fun W' hX =>
      ⟨(hX.cell (p := ⟨W1.heap.size, 0, none⟩) lt0).trans t0, (hX.cell (p := ⟨b, off, none⟩) lb).trans hc⟩
    go_wp2
    go_cut [6, 7] from 9 (fun s6 s7 wx => ∃ b6 ra6 rc6, s6 = .pointer (some ⟨b6, 0, none⟩) ∧ s7 = .bool true ∧ Bx wx b6 #[.slice ra6 q rc6] ∧ FilesO wx W5.heap.size ra6 q rc6 E ∧ X W5 wx)
    case first =>
      go_region_held3 (fun W' => W'.cell? ⟨W1.heap.size, 0, none⟩ = some (.slice a n c) ∧ W'.cell? ⟨b, off, none⟩ = some (.int .i64 (k : Int)))
        (first | exact hall _ (by (repeat (first | with_reducible exact X.refl _ | with_reducible assumption | with_reducible refine X.setCell ?_ (by first | (simp; done) | (simp; omega)) _ | with_reducible refine X.ext ?_ _ | with_reducible refine X.alloc ?_ _ | with_reducible refine X.drew ?_))) | go_keep)
        (first
          | (go_at_call 26; refine (RemoveFile_i l a n c _ (k : Int) _ (hF.mono (X.fr (by (repeat (first | exact X.refl _ | assumption | refine X.ext ?_ _ | refine X.alloc ?_ _ | refine X.drew ?_))) _)) hnc (hG.mono (by (repeat (first | exact X.refl _ | assumption | refine X.ext ?_ _ | refine X.alloc ?_ _ | refine X.drew ?_))))).mono ?_; rw [HrL.out, HrB.out, Hq.out]; rintro _ w6 ⟨ra6, rc6, rfl, hO6, hx6⟩; (try (have hBa : Bx w6 W5.heap.size #[.slice none 0 0] := (Bx.new W5.drew #[.slice none 0 0] 25).x hx6; obtain ⟨la, ca', fa⟩ := hBa.out; have sa := ca' 0; clear ca')); replace hx6 := X.trans (a := W5) (by (repeat (first | exact X.refl _ | assumption | refine X.ext ?_ _ | refine X.alloc ?_ _ | refine X.drew ?_))) hx6; obtain ⟨z6, rfl⟩ := hx6))
      all_goals
        go_wp2_with fail
        go_meet
        first
          | exact ⟨_, ra6, rc6, rfl, rfl, Bx.new _ _ _, (hO6.fr (X.fr (by (repeat (first | with_reducible exact X.refl _ | with_reducible assumption | with_reducible refine X.setCell ?_ (by first | (simp; done) | (simp; omega)) _ | with_reducible refine X.ext ?_ _ | with_reducible refine X.alloc ?_ _ | with_reducible refine X.drew ?_))) _)).less (by first | (simp; done) | (simp; omega)), by (repeat (first | with_reducible exact X.refl _ | with_reducible assumption | with_reducible refine X.setCell ?_ (by first | (simp; done) | (simp; omega)) _ | with_reducible refine X.ext ?_ _ | with_reducible refine X.alloc ?_ _ | with_reducible refine X.drew ?_))⟩
          | exact ⟨_, ra6, rc6, rfl, rfl, Bx.set hBa 0 _, (hO6.fr (Fr.set (Fr.refl _ _) (.inr (by simp)) _)).less (by first | (simp; done) | (simp; omega)), by (repeat (first | with_reducible exact X.refl _ | with_reducible assumption | with_reducible refine X.setCell ?_ (by first | (simp; done) | (simp; omega)) _ | with_reducible refine X.ext ?_ _ | with_reducible refine X.alloc ?_ _ | with_reducible refine X.drew ?_))⟩
          | trace_state
    case rest =>
      obtain ⟨b6, ra6, rc6, rfl, rfl, hB6, hO6, hX6⟩ := hcut
      have hA6 := hO6.at okE
      have hqc : q ≤ rc6 := own_cap hO6.choose_spec.2.2.1
      obtain ⟨fb, fo, ba, bn, bc, hfa, _, hfb, hok, hbc, hSb, g0, g1, g2, g3, g4, g5⟩ := (hF.mono (hX6.fr _)).at_ hkn
      have p1 := hok.1
      subst hfa
      have hall6 : ∀ W', X wc W' → W'.cell? ⟨W1.heap.size, 0, none⟩ = some (.slice (some ⟨fb, fo, none⟩) n c) ∧ W'.cell? ⟨b, off, none⟩ = some (.int .i64 (k : Int)) ∧
          W'.cell? ⟨fb, fo + k * 6, none⟩ = some (.int .i64 (nth l k).root) ∧ W'.cell? ⟨fb, fo + k * 6 + 1, none⟩ = some (.string ⟨((nth l k).pkg).toArray⟩) ∧ W'.cell? ⟨fb, fo + k * 6 + 2, none⟩ = some (.string ⟨((nth l k).name).toArray⟩) ∧ W'.cell? ⟨fb, fo + k * 6 + 3, none⟩ = some (.bool (nth l k).init) ∧ W'.cell? ⟨fb, fo + k * 6 + 4, none⟩ = some (.int .i64 (nth l k).stamp) ∧ W'.cell? ⟨fb, fo + k * 6 + 5, none⟩ = some (.slice ba bn bc) := fun W' hX =>
        ⟨(hall W' (hX6.trans hX)).1, (hall W' (hX6.trans hX)).2, (hX.cell (p := ⟨fb, _, none⟩) hfb).trans g0, (hX.cell (p := ⟨fb, _, none⟩) hfb).trans g1, (hX.cell (p := ⟨fb, _, none⟩) hfb).trans g2, (hX.cell (p := ⟨fb, _, none⟩) hfb).trans g3, (hX.cell (p := ⟨fb, _, none⟩) hfb).trans g4, (hX.cell (p := ⟨fb, _, none⟩) hfb).trans g5⟩
      have hF6 := hF.mono (hX6.fr _)
      have hI6 := hI.mono (hX6.fr _)
      have hG6 := hG.mono hX6
      have hxw6 := hxw.trans hX6
      have r1 : (0 : Int) ≤ (k : Int) := by omega
      have r2 : (k : Int) < (n : Int) := by omega
      have lT6 := Nat.lt_of_lt_of_le lt0 hX6.size
      clear hO6 hF hI hG hxw hS5 hall t0 lt0 hb lb hc hB5 g0 g1 g2 g3 g4 g5
      go_wp2
      go_region_held3 (fun W' => W'.cell? ⟨W1.heap.size, 0, none⟩ = some (.slice (some ⟨fb, fo, none⟩) n c) ∧ W'.cell? ⟨b, off, none⟩ = some (.int .i64 (k : Int)) ∧
          W'.cell? ⟨fb, fo + k * 6, none⟩ = some (.int .i64 (nth l k).root) ∧ W'.cell? ⟨fb, fo + k * 6 + 1, none⟩ = some (.string ⟨((nth l k).pkg).toArray⟩) ∧ W'.cell? ⟨fb, fo + k * 6 + 2, none⟩ = some (.string ⟨((nth l k).name).toArray⟩) ∧ W'.cell? ⟨fb, fo + k * 6 + 3, none⟩ = some (.bool (nth l k).init) ∧ W'.cell? ⟨fb, fo + k * 6 + 4, none⟩ = some (.int .i64 (nth l k).stamp) ∧ W'.cell? ⟨fb, fo + k * 6 + 5, none⟩ = some (.slice ba bn bc))
        (first | exact hall6 _ (by (repeat (first | with_reducible exact X.refl _ | with_reducible assumption | with_reducible refine X.setCell ?_ (by first | (simp; done) | (simp; omega)) _ | with_reducible refine X.ext ?_ _ | with_reducible refine X.alloc ?_ _ | with_reducible refine X.drew ?_))) | go_keep)
        (fail)
      refine act_name (fun W7 hW7 => ?_)
      have hB7 : Bx W7 wc.heap.size #[.int .i64 (nth l k).root, .string ⟨((nth l k).pkg).toArray⟩, .string ⟨((nth l k).name).toArray⟩, .bool (nth l k).init, .int .i64 (nth l k).stamp, .slice ba bn bc] := by
        rw [hW7]
        exact (Bx.new wc _ _).x ((X.refl _).drew)
      have hX7 : X wc W7 := by rw [hW7]; (repeat (first | with_reducible exact X.refl _ | with_reducible assumption | with_reducible refine X.setCell ?_ (by first | (simp; done) | (simp; omega)) _ | with_reducible refine X.ext ?_ _ | with_reducible refine X.alloc ?_ _ | with_reducible refine X.drew ?_))
      clear hW7
      have hd7 := hall6 W7 hX7
      have t0 := hd7.1
      have lt0 := Nat.lt_of_lt_of_le lT6 hX7.size
      have hB67 := hB6.x hX7
      have t6 := bxC hB67
      have l6 := hB67.lt
      obtain ⟨l8, f8, _⟩ := hB7.out
      have g0 := f8 0
      have g1 := f8 1
      have hA7 := hA6.mono (hX7.fr _)
      have hF7 := hF6.mono (hX7.fr _)
      have hI7 := hI6.mono (hX7.fr _)
      have hG7 := hG6.mono hX7
      have hxw7 := hxw6.trans hX7
      have hB17 := Lib.hid (fun W' (hX : X W7 W') => (hall6 W' (hX7.trans hX)).1)
      clear f8 hd7 hall6 hX7 hB6 hF6 hI6 hG6 hxw6 hX6 hB7
      cases hpk : (nth l k).pkg with
      | nil =>
        rw [hpk] at g1
        have hsm := (Hsame.out (.inl hpk)).2
        go_wp2_with fail
        refine (SameFinds_i l E _ ra6 n q c rc6 _ _ path pa pn pc _ W7 hF7 hnc hA7 hqc hI7 hpc hG7).mono ?_
        rw [hsm]
        rintro _ W9 ⟨rfl, hx9⟩
        go_wp2
        go_ret
        exact ⟨rfl, hxw7.trans hx9⟩
      | cons y ys =>
        rw [hpk] at g1 p1
        rw [hpk] at Hsame
        go_wp2_with fail
        refine (HasDir_g E ra6 q rc6 _ _ _ W7 hA7 hqc (by omega) hG7).mono ?_
        rintro _ W8 ⟨rfl, hx8⟩
        have hB68 := hB67.x hx8
        have t8 := bxC hB68
        have l8' := hB68.lt
        have t8b := hB17.out W8 hx8
        have lt8 := Nat.lt_of_lt_of_le lt0 hx8.size
        clear t0 lt0 t6 l6 g0 g1 l8
        cases hd : hasB E (nth l k).root (y :: ys)
        · go_wp2
          go_ret
          exact ⟨rfl, hxw7.trans hx8⟩
        · have hsm := (Hsame.out (.inr hd)).2
          go_wp2_with fail
          refine (SameFinds_i l E _ ra6 n q c rc6 _ _ path pa pn pc _ W8 (hF7.mono (hx8.fr _)) hnc (hA7.mono (hx8.fr _)) hqc (hI7.mono (hx8.fr _)) hpc (hG7.mono hx8)).mono ?_
          rw [hsm]
          rintro _ W9 ⟨rfl, hx9⟩
          go_wp2
          go_ret
          exact ⟨rfl, (hxw7.trans hx8).trans hx9⟩

end Go.Proofs.YtijcdnaammbomaaGreatDoor
