/- The walk of the law FnEditFile. -/
import Derived.Test.YtijcdnaammbomaaGreatDoorEdit
import Derived.Test.YtijcdnaammbomaaGreatDoorDrawEdit
import Derived.Test.YtijcdnaammbomaaGreatDoorSameW
import Derived.Test.YtijcdnaammbomaaGreatDoorEqTr
import Derived.Test.YtijcdnaammbomaaGreatDoorRises
import Derived.Deep.RegionHeld3
import Derived.Deep.CutRange
namespace Go.Proofs.YtijcdnaammbomaaGreatDoor
open Go.RowKit

theorem edB_index {l : List Fi} {i st : Int} {b : List St} (h : edB l i st b = true) : ∃ k : Nat, i = (k : Int) ∧ k < l.length := by
  unfold edB at h
  simp only [Bool.and_eq_true] at h
  obtain ⟨h0, h1⟩ := rangeB_iff.1 h.1.1.2
  exact ⟨i.toNat, by omega, by omega⟩
theorem okL_ed {l : List Fi} {i st : Int} {b : List St} (h : OkL l) (hb : b.length ≤ 2097152) (ho : ∀ s ∈ b, Oks s) : OkL (edL l i st b) := by
  unfold edL
  split
  · rename_i he
    obtain ⟨k, rfl, hk⟩ := edB_index he
    exact okL_edit h hk hb ho
  · exact ⟨by simp, by simp⟩
theorem edL_len {l : List Fi} {i st : Int} {b : List St} (h : edB l i st b = true) : (edL l i st b).length = l.length := by
  rw [edL, if_pos h, List.length_set]
set_option maxRecDepth 100000 in
set_option maxHeartbeats 4000000 in
theorem FnEditFile_c (ca : Option Addr) (cn cc : Nat) (w : World) (hC : CodeAt w ca cn cc) (hG : Gm w) :
    Calls Tryz.prog 6 #[.slice ca cn cc] w fun e w' => e = .returned (.bool true) ∧ X w w' := by
  by_cases hbig : 1048576 < cn
  · go_enter Tryz.func6, Tryz.ntmps6
    go_wp2
    go_ret
    exact ⟨by simp, by (repeat (first | exact X.refl _ | assumption | refine X.ext ?_ _ | refine X.alloc ?_ _ | refine X.drew ?_))⟩
  · go_enter Tryz.func6, Tryz.ntmps6
    go_wp2_with fail
    refine (DrawEditFile_c ca cn cc _ hC (by omega)).mono ?_
    rintro _ W1 ⟨l, a, n, c, i, st, b, ba, bn, bc, rfl, hF, hnc, hn11, hS, hbc, hbn5, hx1⟩
    have Hlaw := Lib.hid (@edit_law l i st b)
    have Hidx := Lib.hid (@edB_index l i st b)
    have Hlen := Lib.hid (@edL_len l i st b)
    have okV := okL_ed (i := i) (st := st) hF.okL (by have := hS.1; have := hS.2.1; omega) hS.2.2.1
    go_wp2_with fail
    refine calls_name (fun W2 hW2 => ?_)
    have hB3 : Bx W2 W1.heap.size #[.slice a n c] := by rw [hW2]; first | exact Bx.new _ _ _ | exact Bx.set (Bx.new _ _ _) 0 _
    have hx2 : X W1 W2 := by rw [hW2]; (repeat (first | with_reducible exact X.refl _ | with_reducible assumption | with_reducible refine X.setCell ?_ (by first | (simp; done) | (simp; omega)) _ | with_reducible refine X.ext ?_ _ | with_reducible refine X.alloc ?_ _ | with_reducible refine X.drew ?_))
    clear hW2
    have hxw := hx1.trans hx2
    replace hF := hF.mono (hx2.fr _)
    replace hS := hS.mono (hx2.fr _)
    replace hG := hG.mono hxw
    clear hx1 hx2
    obtain ⟨V, hV⟩ : ∃ V, edL l i st b = V := ⟨_, rfl⟩
    rw [hV] at okV
    obtain ⟨N, hN⟩ : ∃ N, V.length = N := ⟨_, rfl⟩
    obtain ⟨ok, hok2⟩ : ∃ ok, edB l i st b = ok := ⟨_, rfl⟩
    have HV := Lib.hid hV
    have HN := Lib.hid hN
    have HB := Lib.hid hok2
    refine (EditFile_i l a n c _ i st b ba bn bc _ W2 hF hnc hS hG).mono ?_
    rw [hV, hok2, hN]
    clear hV hN hok2
    rintro _ W3 ⟨ra, rc, rfl, hO, hx3⟩
    have hA := hO.at okV
    have hVc : N ≤ rc := own_cap hO.choose_spec.2.2.1
    clear hO
    have l3 := (hB3.x hx3).lt
    have t3 := bxC (hB3.x hx3)
    go_wp2_with fail
    refine calls_name (fun W4 hW4 => ?_)
    clear l3 t3
    have hB5 : Bx W4 W3.heap.size #[.slice ra N rc] := by rw [hW4]; first | exact Bx.new _ _ _ | exact Bx.set (Bx.new _ _ _) 0 _
    have hx4 : X W3 W4 := by rw [hW4]; (repeat (first | with_reducible exact X.refl _ | with_reducible assumption | with_reducible refine X.setCell ?_ (by first | (simp; done) | (simp; omega)) _ | with_reducible refine X.ext ?_ _ | with_reducible refine X.alloc ?_ _ | with_reducible refine X.drew ?_))
    clear hW4
    have hx24 := hx3.trans hx4
    replace hA := hA.mono (hx4.fr _)
    clear hx3 hx4
    refine (EditFile_s l a n c _ i st b ba bn bc _ W4 (hF.mono (hx24.fr _)) (hS.mono (hx24.fr _))).mono ?_
    rw [HV.out, HN.out, HB.out]
    rintro _ W5 ⟨ra2, rc2, rfl, hO2, hx5⟩
    have hA2 := hO2.at okV
    clear hO2
    have l5 := (hB5.x hx5).lt
    have t5 := bxC (hB5.x hx5)
    go_wp2_with fail
    refine calls_name (fun W6 hW6 => ?_)
    clear l5 t5
    have hB7 : Bx W6 W5.heap.size #[.slice ra2 N rc2] := by rw [hW6]; first | exact Bx.new _ _ _ | exact Bx.set (Bx.new _ _ _) 0 _
    have hx6 : X W5 W6 := by rw [hW6]; (repeat (first | with_reducible exact X.refl _ | with_reducible assumption | with_reducible refine X.setCell ?_ (by first | (simp; done) | (simp; omega)) _ | with_reducible refine X.ext ?_ _ | with_reducible refine X.alloc ?_ _ | with_reducible refine X.drew ?_))
    clear hW6
    have hx46 := hx5.trans hx6
    replace hA := hA.mono (hx46.fr _)
    replace hA2 := hA2.mono (hx6.fr _)
    replace hB5 := hB5.x hx46
    have hx26 := hx24.trans hx46
    clear hx5 hx6 hx24 hx46
    refine (equalTree_c V V ra ra2 _ _ rc rc2 _ _ W6 hA hA2).mono ?_
    rintro _ W7 ⟨rfl, hx7⟩
    rw [decide_eq_true (rfl : V = V)]
    have hx27 := hx26.trans hx7
    replace hA := hA.mono (hx7.fr _)
    replace hA2 := hA2.mono (hx7.fr _)
    replace hB5 := hB5.x hx7
    replace hB7 := hB7.x hx7
    clear hx26 hx7
    cases ok
    · have l5 := hB5.lt
      have t5 := bxC hB5
      have l7 := hB7.lt
      have t7 := bxC hB7
      go_wp2_with fail
      refine (equalTree_c V V ra ra2 _ _ rc rc2 _ _ W7 hA hA2).mono ?_
      rintro _ W8 ⟨rfl, hx8⟩
      rw [decide_eq_true (rfl : V = V)]
      go_wp2
      go_ret
      exact ⟨rfl, hxw.trans (hx27.trans hx8)⟩
    obtain ⟨k, rfl, hkl⟩ := Hidx.out HB.out
    obtain ⟨p1, p2, p3⟩ := Hlaw.out HB.out
    have hNn := Hlen.out HB.out
    rw [HV.out, HN.out, ← hF.len.1] at hNn
    have hkn : k < n := by rw [hF.len.1]; exact hkl
    rw [HV.out] at p1 p2 p3
    obtain rfl : N = n := hNn
    have s1 := p3 [0, 1, 2] (by decide)
    have s2 := p3 [2, 0] (by decide)
    have htn : ((k : Int)).toNat = k := by omega
    rw [htn] at p1 p2
    have okl : OkL l := hF.okL
    have Hnl := Lib.hid hF.len.1
    have hF7 := hF.mono (hx27.fr _)
    have hG7 := hG.mono hx27
    have hB37 := hB3.x hx27
    replace hxw := hxw.trans hx27
    clear hF hS hG hB3 hA2 hB7 hx27 p3 hkl htn Hlaw Hidx Hlen HV HB
    have Hp1 := Lib.hid p1
    have Hp2 := Lib.hid p2
    clear p1 p2
    obtain ⟨fb, fo, xa, xn, xc, hfa, _, hfb, hokf, hxc, hSx, g0, g1, g2, g3, g4, g5⟩ := hF7.at_ hkn
    subst hfa
    have hall : ∀ W', X W7 W' → W'.cell? ⟨W1.heap.size, 0, none⟩ = some (.slice (some ⟨fb, fo, none⟩) N c) ∧ W'.cell? ⟨W3.heap.size, 0, none⟩ = some (.slice ra N rc) ∧ W'.cell? ⟨fb, fo + k * 6 + 4, none⟩ = some (.int .i64 (nth l k).stamp) ∧ W'.cell? ⟨fb, fo + k * 6 + 5, none⟩ = some (.slice xa xn xc) := fun W' hX =>
      ⟨bxC (hB37.x hX), bxC (hB5.x hX), (hX.cell (p := ⟨fb, _, none⟩) hfb).trans g4, (hX.cell (p := ⟨fb, _, none⟩) hfb).trans g5⟩
    have t3 := bxC hB37
    have l3 := hB37.lt
    have t5 := bxC hB5
    have l5 := hB5.lt
    have r1 : (0 : Int) ≤ (k : Int) := by omega
    have r2 : (k : Int) < (N : Int) := by omega
    clear g0 g1 g2 g3 g4 g5
    go_wp2
    clear t3 l3 t5 l5
    go_cut [11, 12] from 13 (fun s11 s12 wx => ∃ b11 ra11 rc11, s11 = .pointer (some ⟨b11, 0, none⟩) ∧ s12 = .bool true ∧ Bx wx b11 #[.slice ra11 N rc11] ∧ FilesO wx W7.heap.size ra11 N rc11 l ∧ X W7 wx)
    case first =>
      go_region_held3 (fun W' => W'.cell? ⟨W1.heap.size, 0, none⟩ = some (.slice (some ⟨fb, fo, none⟩) N c) ∧ W'.cell? ⟨W3.heap.size, 0, none⟩ = some (.slice ra N rc) ∧ W'.cell? ⟨fb, fo + k * 6 + 4, none⟩ = some (.int .i64 (nth l k).stamp) ∧ W'.cell? ⟨fb, fo + k * 6 + 5, none⟩ = some (.slice xa xn xc))
        (first | exact hall _ (by (repeat (first | with_reducible exact X.refl _ | with_reducible assumption | with_reducible refine X.setCell ?_ (by first | (simp; done) | (simp; omega)) _ | with_reducible refine X.ext ?_ _ | with_reducible refine X.alloc ?_ _ | with_reducible refine X.drew ?_))) | go_keep)
        (first
          | (go_at_call 29; refine (EditFile_i V ra N rc _ (k : Int) (nth l k).stamp (nth l k).body xa xn xc _ _ (hA.mono (X.fr (by (repeat (first | exact X.refl _ | assumption | refine X.ext ?_ _ | refine X.alloc ?_ _ | refine X.drew ?_))) _)) hVc (hSx.mono (X.fr (by (repeat (first | exact X.refl _ | assumption | refine X.ext ?_ _ | refine X.alloc ?_ _ | refine X.drew ?_))) _)) (hG7.mono (by (repeat (first | exact X.refl _ | assumption | refine X.ext ?_ _ | refine X.alloc ?_ _ | refine X.drew ?_))))).mono ?_; rw [Hp2.out, Hp1.out, ← Hnl.out]; rintro _ w6 ⟨ra6, rc6, rfl, hO6, hx6⟩; (try (have hBa : Bx w6 W7.heap.size #[.slice none 0 0] := (Bx.new W7.drew #[.slice none 0 0] 25).x hx6; obtain ⟨la, ca', fa⟩ := hBa.out; have sa := ca' 0; clear ca')); replace hx6 := X.trans (a := W7) (by (repeat (first | exact X.refl _ | assumption | refine X.ext ?_ _ | refine X.alloc ?_ _ | refine X.drew ?_))) hx6; obtain ⟨z6, rfl⟩ := hx6))
      all_goals
        go_wp2_with fail
        go_meet
        first
          | exact ⟨_, ra6, rc6, rfl, rfl, Bx.new _ _ _, (hO6.fr (X.fr (by (repeat (first | with_reducible exact X.refl _ | with_reducible assumption | with_reducible refine X.setCell ?_ (by first | (simp; done) | (simp; omega)) _ | with_reducible refine X.ext ?_ _ | with_reducible refine X.alloc ?_ _ | with_reducible refine X.drew ?_))) _)).less (by first | (simp; done) | (simp; omega)), by (repeat (first | with_reducible exact X.refl _ | with_reducible assumption | with_reducible refine X.setCell ?_ (by first | (simp; done) | (simp; omega)) _ | with_reducible refine X.ext ?_ _ | with_reducible refine X.alloc ?_ _ | with_reducible refine X.drew ?_))⟩
          | exact ⟨_, ra6, rc6, rfl, rfl, Bx.set hBa 0 _, (hO6.fr (Fr.set (Fr.refl _ _) (.inr (by simp)) _)).less (by first | (simp; done) | (simp; omega)), by (repeat (first | with_reducible exact X.refl _ | with_reducible assumption | with_reducible refine X.setCell ?_ (by first | (simp; done) | (simp; omega)) _ | with_reducible refine X.ext ?_ _ | with_reducible refine X.alloc ?_ _ | with_reducible refine X.drew ?_))⟩
    case rest =>
      obtain ⟨b11, ra11, rc11, rfl, rfl, hB11, hO11, hX11⟩ := hcut
      have hA11 := hO11.at okl
      have hF8 := hF7.mono (hX11.fr _)
      have hAo := hA.mono (hX11.fr _)
      have hG8 := hG7.mono hX11
      have hB38 := hB37.x hX11
      have hB58 := hB5.x hX11
      have hxw8 := hxw.trans hX11
      clear hO11 hF7 hA hG7 hB37 hB5 hxw hX11 hall hfb
      have t3 := bxC hB38
      have l3 := hB38.lt
      have t5 := bxC hB58
      have l5 := hB58.lt
      go_wp2_with fail
      refine calls_name (fun W9 hW9 => ?_)
      have hI9 : IntsAt W9 wc.heap.size (some ⟨wc.heap.size, 0, none⟩) 3 [0, 1, 2] := by
        rw [hW9]
        exact ints_lit rfl (Nat.le_refl _) rfl rfl (by simp)
      have hx9 : X wc W9 := by rw [hW9]; (repeat (first | with_reducible exact X.refl _ | with_reducible assumption | with_reducible refine X.setCell ?_ (by first | (simp; done) | (simp; omega)) _ | with_reducible refine X.ext ?_ _ | with_reducible refine X.alloc ?_ _ | with_reducible refine X.drew ?_))
      clear hW9 t3 l3 t5 l5
      refine (SameFinds_i l V _ ra N N c rc _ _ [0, 1, 2] _ 3 3 _ W9 (hF8.mono (hx9.fr _)) hnc (hAo.mono (hx9.fr _)) hVc hI9 (Nat.le_refl _) (hG8.mono hx9)).mono ?_
      rw [s1]
      rintro _ W10 ⟨rfl, hx10⟩
      have hx810 := hx9.trans hx10
      have t3 := bxC (hB38.x hx810)
      have l3 := (hB38.x hx810).lt
      have t5 := bxC (hB58.x hx810)
      have l5 := (hB58.x hx810).lt
      go_wp2_with fail
      refine calls_name (fun W11 hW11 => ?_)
      have hI11 : IntsAt W11 W10.heap.size (some ⟨W10.heap.size, 0, none⟩) 2 [2, 0] := by
        rw [hW11]
        exact ints_lit rfl (Nat.le_refl _) rfl rfl (by simp)
      have hx11 : X W10 W11 := by rw [hW11]; (repeat (first | with_reducible exact X.refl _ | with_reducible assumption | with_reducible refine X.setCell ?_ (by first | (simp; done) | (simp; omega)) _ | with_reducible refine X.ext ?_ _ | with_reducible refine X.alloc ?_ _ | with_reducible refine X.drew ?_))
      clear hW11 t3 l3 t5 l5
      have hx811 := hx810.trans hx11
      refine (SameFinds_i l V _ ra N N c rc _ _ [2, 0] _ 2 2 _ W11 (hF8.mono (hx811.fr _)) hnc (hAo.mono (hx811.fr _)) hVc hI11 (Nat.le_refl _) (hG8.mono hx811)).mono ?_
      rw [s2]
      rintro _ W12 ⟨rfl, hx12⟩
      have hx812 := hx811.trans hx12
      have t3 := bxC (hB38.x hx812)
      have l3 := (hB38.x hx812).lt
      have t5 := bxC (hB11.x hx812)
      have l5 := (hB11.x hx812).lt
      go_wp2_with fail
      refine (equalTree_c l l ra11 _ _ _ rc11 c _ _ W12 (hA11.mono (hx812.fr _)) (hF8.mono (hx812.fr _))).mono ?_
      rintro _ W13 ⟨rfl, hx13⟩
      rw [decide_eq_true (rfl : l = l)]
      go_wp2
      go_ret
      exact ⟨rfl, hxw8.trans (hx812.trans hx13)⟩

end Go.Proofs.YtijcdnaammbomaaGreatDoor
