/- The walk of the law FnWhoHides. -/
import Derived.Test.YtjklpfgjimbabaaDoorWho
import Derived.Test.YtjklpfgjimbabaaDoorTexts
import Derived.Test.YtjklpfgjimbabaaDoorDrawWho
namespace Go.Proofs.YtjklpfgjimbabaaDoor
open Go.RowKit

theorem who_cases (l : List Fi) (path : List Int) (i : Int) : whoB l path i = (-1, -1) ∨ ∃ k : Nat, i = (k : Int) ∧ k < l.length ∧ decide ((k : Int) ∈ hidL l path) = hidB l path k ∧
    ((whoB l path i = (0, -1) ∧ hidB l path k = false) ∨ (whoB l path i = (1, -1) ∧ hidB l path k = true) ∨ (whoB l path i = (3, -1) ∧ hidB l path k = true) ∨
      ∃ j : Nat, j < l.length ∧ j ≠ k ∧ whoB l path i = (2, (j : Int)) ∧ hidB l path k = true ∧ moduleOf (nth l j) = moduleOf (nth l k)) := by
  cases h : (treeB l && pathB path && rangeB i 0 ((l.length : Int) - 1))
  · exact .inl (whoB_bad h)
  · right
    simp only [Bool.and_eq_true] at h
    obtain ⟨⟨h1, h2⟩, h3⟩ := h
    have h4 := rangeB_iff.1 h3
    obtain ⟨k, rfl⟩ : ∃ k : Nat, i = (k : Int) := ⟨i.toNat, by omega⟩
    have hk : k < l.length := by omega
    refine ⟨k, rfl, hk, ?_, ?_⟩
    · rw [hidL, h1, h2]
      exact hidN_mem hk
    · rw [whoB_at h1 h2 hk]
      have hh : hidB l path k = !(fileOf l path k == (k : Int)) := rfl
      rw [hh]
      cases e1 : fileOf l path k == (k : Int)
      · cases e2 : inB l path k
        · exact .inr (.inl ⟨rfl, rfl⟩)
        · by_cases e3 : 0 ≤ fileOf l path k
          · obtain ⟨j, hj, f1, f2, _, _⟩ := specFile_law (l := l) (path := path) (s := moduleOf (nth l k)) e3
            have f1 : fileOf l path k = (j : Int) := f1
            rw [f1] at e1 ⊢
            have hne : ¬ (j : Int) = (k : Int) := by simpa using e1
            exact .inr (.inr (.inr ⟨j, hj, by omega, by simp [whoK], rfl, f2⟩))
          · exact .inr (.inr (.inl ⟨by simp [whoK, eq_false e3], rfl⟩))
      · exact .inl ⟨rfl, rfl⟩
set_option maxRecDepth 100000 in
set_option maxHeartbeats 1000000 in
theorem FnWhoHides_c (ca : Option Addr) (cn cc : Nat) (w : World) (hC : CodeAt w ca cn cc) (hG : Gm w) :
    Calls Tryd.prog 8 #[.slice ca cn cc] w fun e w' => e = .returned (.bool true) ∧ X w w' := by
  by_cases hbig : 1048576 < cn
  · go_enter Tryd.func8, Tryd.ntmps8
    go_wp2
    go_ret
    exact ⟨by simp, by (repeat (first | exact X.refl _ | assumption | refine X.ext ?_ _ | refine X.alloc ?_ _ | refine X.drew ?_))⟩
  · go_enter Tryd.func8, Tryd.ntmps8
    go_wp2_with fail
    refine (DrawWhoHides_c ca cn cc _ hC (by omega)).mono ?_
    rintro _ W1 ⟨l, a, n, c, path, pa, pn, pc, i, rfl, hF, hnc, hn11, hsm, hI, hpc, hpn3, hx1⟩
    replace hG := hG.mono hx1
    have hB1 := Bx.new W1 #[.slice a n c] 25
    go_wp2_with fail
    refine calls_name (fun W hW => ?_)
    rw [← hW] at hB1
    have hx2 : X W1 W := by rw [hW]; (repeat (first | exact X.refl _ | assumption | refine X.ext ?_ _ | refine X.alloc ?_ _ | refine X.drew ?_))
    clear hW
    replace hF := hF.mono (hx2.fr _)
    replace hI := hI.mono (hx2.fr _)
    replace hG := hG.mono hx2
    have hxw := hx1.trans hx2
    clear hx1 hx2
    obtain ⟨hb1, hc1, hf1⟩ := hB1.out
    have d1 := hc1 0
    clear hc1
    have Hl := Lib.hid hF.len.1
    refine (WhoHides_i l _ _ _ _ path _ _ _ _ i W hF hnc hI hpc hG).mono ?_
    rintro _ _ ⟨rfl, x, rfl⟩
    rcases who_cases l path i with hw | ⟨k, rfl, hk, hin, ⟨hw, hd⟩ | ⟨hw, hd⟩ | ⟨hw, hd⟩ | ⟨j, hj, hne, hw, hd, hmod⟩⟩
    · have Hw := Lib.hid hw
      rw [hw]
      clear hw
      go_wp2_with (go_at_call 33; refine (WhoHides_s l _ _ _ _ path _ _ _ _ _ _ (hF.mono (X.fr (by (repeat (first | exact X.refl _ | assumption | refine X.ext ?_ _ | refine X.alloc ?_ _ | refine X.drew ?_))) _)) (hI.mono (X.fr (by (repeat (first | exact X.refl _ | assumption | refine X.ext ?_ _ | refine X.alloc ?_ _ | refine X.drew ?_))) _)) hpc).mono ?_; rintro _ _ ⟨rfl, hx⟩; obtain ⟨x, rfl⟩ := hx.of_ext; rw [Hw.out]; dsimp only)
      go_ret
      exact ⟨by simp, hxw.trans (by (repeat (first | exact X.refl _ | assumption | refine X.ext ?_ _ | refine X.alloc ?_ _ | refine X.drew ?_)))⟩
    · rw [hd] at hin
      have Hin := Lib.hid hin
      have Hw := Lib.hid hw
      rw [hw]
      dsimp only
      clear hw hin
      go_wp2_with (first | (go_at_call 33; refine (WhoHides_s l _ _ _ _ path _ _ _ _ _ _ (hF.mono (X.fr (by (repeat (first | exact X.refl _ | assumption | refine X.ext ?_ _ | refine X.alloc ?_ _ | refine X.drew ?_))) _)) (hI.mono (X.fr (by (repeat (first | exact X.refl _ | assumption | refine X.ext ?_ _ | refine X.alloc ?_ _ | refine X.drew ?_))) _)) hpc).mono ?_; rintro _ _ ⟨rfl, hx⟩; obtain ⟨x, rfl⟩ := hx.of_ext; rw [Hw.out]; dsimp only) | (go_at_call 34; refine (HiddenFiles_i l _ _ _ _ path _ _ _ _ _ (hF.mono (X.fr (by (repeat (first | exact X.refl _ | assumption | refine X.ext ?_ _ | refine X.alloc ?_ _ | refine X.drew ?_))) _)) hnc (hI.mono (X.fr (by (repeat (first | exact X.refl _ | assumption | refine X.ext ?_ _ | refine X.alloc ?_ _ | refine X.drew ?_))) _)) hpc (hG.mono (by (repeat (first | exact X.refl _ | assumption | refine X.ext ?_ _ | refine X.alloc ?_ _ | refine X.drew ?_))))).mono ?_; rintro _ w6 ⟨ra, rc, rfl, hH, hx6⟩; replace hx6 := X.trans (a := W) (by (repeat (first | exact X.refl _ | assumption | refine X.ext ?_ _ | refine X.alloc ?_ _ | refine X.drew ?_))) hx6; obtain ⟨z6, rfl⟩ := hx6) | (go_at_call 28; refine (isIn_c (hidL l path) _ _ _ _ _ _ (hH.mono (X.fr (by (repeat (first | exact X.refl _ | assumption | refine X.ext ?_ _ | refine X.alloc ?_ _ | refine X.drew ?_))) _))).mono ?_; rintro _ w7 ⟨rfl, hx7⟩; rw [Hin.out]; obtain ⟨z7, rfl⟩ := hx7.of_ext))
      refine wp_region_grow (by kernel_rfl) (by kernel_rfl) ?_
      repeat (go_big_quiet_step ((fail)))
      refine wpQuiet_nil ?_
      rintro _ ⟨y, rfl⟩
      go_wp2
      go_ret
      exact ⟨by simp, hxw.trans (by (repeat (first | exact X.refl _ | assumption | refine X.ext ?_ _ | refine X.alloc ?_ _ | refine X.drew ?_)))⟩
    · rw [hd] at hin
      have Hin := Lib.hid hin
      have Hw := Lib.hid hw
      rw [hw]
      dsimp only
      clear hw hin
      go_wp2_with (first | (go_at_call 33; refine (WhoHides_s l _ _ _ _ path _ _ _ _ _ _ (hF.mono (X.fr (by (repeat (first | exact X.refl _ | assumption | refine X.ext ?_ _ | refine X.alloc ?_ _ | refine X.drew ?_))) _)) (hI.mono (X.fr (by (repeat (first | exact X.refl _ | assumption | refine X.ext ?_ _ | refine X.alloc ?_ _ | refine X.drew ?_))) _)) hpc).mono ?_; rintro _ _ ⟨rfl, hx⟩; obtain ⟨x, rfl⟩ := hx.of_ext; rw [Hw.out]; dsimp only) | (go_at_call 34; refine (HiddenFiles_i l _ _ _ _ path _ _ _ _ _ (hF.mono (X.fr (by (repeat (first | exact X.refl _ | assumption | refine X.ext ?_ _ | refine X.alloc ?_ _ | refine X.drew ?_))) _)) hnc (hI.mono (X.fr (by (repeat (first | exact X.refl _ | assumption | refine X.ext ?_ _ | refine X.alloc ?_ _ | refine X.drew ?_))) _)) hpc (hG.mono (by (repeat (first | exact X.refl _ | assumption | refine X.ext ?_ _ | refine X.alloc ?_ _ | refine X.drew ?_))))).mono ?_; rintro _ w6 ⟨ra, rc, rfl, hH, hx6⟩; replace hx6 := X.trans (a := W) (by (repeat (first | exact X.refl _ | assumption | refine X.ext ?_ _ | refine X.alloc ?_ _ | refine X.drew ?_))) hx6; obtain ⟨z6, rfl⟩ := hx6) | (go_at_call 28; refine (isIn_c (hidL l path) _ _ _ _ _ _ (hH.mono (X.fr (by (repeat (first | exact X.refl _ | assumption | refine X.ext ?_ _ | refine X.alloc ?_ _ | refine X.drew ?_))) _))).mono ?_; rintro _ w7 ⟨rfl, hx7⟩; rw [Hin.out]; obtain ⟨z7, rfl⟩ := hx7.of_ext))
      refine wp_region_grow (by kernel_rfl) (by kernel_rfl) ?_
      repeat (go_big_quiet_step ((fail)))
      refine wpQuiet_nil ?_
      rintro _ ⟨y, rfl⟩
      go_wp2
      go_ret
      exact ⟨by simp, hxw.trans (by (repeat (first | exact X.refl _ | assumption | refine X.ext ?_ _ | refine X.alloc ?_ _ | refine X.drew ?_)))⟩
    · rw [hd] at hin
      have Hin := Lib.hid hin
      have Hw := Lib.hid hw
      rw [hw]
      dsimp only
      clear hw hin
      go_wp2_with (first | (go_at_call 33; refine (WhoHides_s l _ _ _ _ path _ _ _ _ _ _ (hF.mono (X.fr (by (repeat (first | exact X.refl _ | assumption | refine X.ext ?_ _ | refine X.alloc ?_ _ | refine X.drew ?_))) _)) (hI.mono (X.fr (by (repeat (first | exact X.refl _ | assumption | refine X.ext ?_ _ | refine X.alloc ?_ _ | refine X.drew ?_))) _)) hpc).mono ?_; rintro _ _ ⟨rfl, hx⟩; obtain ⟨x, rfl⟩ := hx.of_ext; rw [Hw.out]; dsimp only) | (go_at_call 34; refine (HiddenFiles_i l _ _ _ _ path _ _ _ _ _ (hF.mono (X.fr (by (repeat (first | exact X.refl _ | assumption | refine X.ext ?_ _ | refine X.alloc ?_ _ | refine X.drew ?_))) _)) hnc (hI.mono (X.fr (by (repeat (first | exact X.refl _ | assumption | refine X.ext ?_ _ | refine X.alloc ?_ _ | refine X.drew ?_))) _)) hpc (hG.mono (by (repeat (first | exact X.refl _ | assumption | refine X.ext ?_ _ | refine X.alloc ?_ _ | refine X.drew ?_))))).mono ?_; rintro _ w6 ⟨ra, rc, rfl, hH, hx6⟩; replace hx6 := X.trans (a := W) (by (repeat (first | exact X.refl _ | assumption | refine X.ext ?_ _ | refine X.alloc ?_ _ | refine X.drew ?_))) hx6; obtain ⟨z6, rfl⟩ := hx6) | (go_at_call 28; refine (isIn_c (hidL l path) _ _ _ _ _ _ (hH.mono (X.fr (by (repeat (first | exact X.refl _ | assumption | refine X.ext ?_ _ | refine X.alloc ?_ _ | refine X.drew ?_))) _))).mono ?_; rintro _ w7 ⟨rfl, hx7⟩; rw [Hin.out]; obtain ⟨z7, rfl⟩ := hx7.of_ext))
      refine wp_region_grow (by kernel_rfl) (by kernel_rfl) ?_
      repeat (go_big_quiet_step ((fail)))
      refine wpQuiet_nil ?_
      rintro _ ⟨y, rfl⟩
      go_wp2
      go_ret
      exact ⟨by simp, hxw.trans (by (repeat (first | exact X.refl _ | assumption | refine X.ext ?_ _ | refine X.alloc ?_ _ | refine X.drew ?_)))⟩
    · have hnk : ((j : Int) != (k : Int)) = true := by simp; omega
      have hjn : j < n := by rw [Hl.out]; exact hj
      have hkn : k < n := by rw [Hl.out]; exact hk
      have Hmod := Lib.hid hmod
      have hj1 : (j : Int) < (n : Int) := by omega
      have hj0 : (0 : Int) ≤ (j : Int) := by omega
      have hk1 : (k : Int) < (n : Int) := by omega
      have hk0 : (0 : Int) ≤ (k : Int) := by omega
      have hj9 : ¬ (j : Int) < 0 := by omega
      have hj8 : decide ((j : Int) < 0) = false := decide_eq_false hj9
      clear hmod
      obtain ⟨b, off, ba, bn, bc, rfl, hab, hb, hok, hbc, hS, g0, g1, g2, g3, g4, g5⟩ := hF.at_ hjn
      obtain ⟨b', off', ba', bn', bc', ha', _, hb', hok', hbc', hS', u0, u1, u2, u3, u4, u5⟩ := hF.at_ hkn
      obtain ⟨rfl, rfl⟩ : b = b' ∧ off = off' := by simpa using ha'
      clear ha'
      generalize hfj : nth l j = fj at hok hS g0 g1 g2 g3 g4 g5 Hmod
      generalize hfk : nth l k = fk at hok' hS' u0 u1 u2 u3 u4 u5 Hmod
      clear hfj hfk
      rw [hd] at hin
      have Hin := Lib.hid hin
      have Hw := Lib.hid hw
      rw [hw]
      dsimp only
      clear hw hin
      go_wp2_with (first | (go_at_call 33; refine (WhoHides_s l _ _ _ _ path _ _ _ _ _ _ (hF.mono (X.fr (by (repeat (first | exact X.refl _ | assumption | refine X.ext ?_ _ | refine X.alloc ?_ _ | refine X.drew ?_))) _)) (hI.mono (X.fr (by (repeat (first | exact X.refl _ | assumption | refine X.ext ?_ _ | refine X.alloc ?_ _ | refine X.drew ?_))) _)) hpc).mono ?_; rintro _ _ ⟨rfl, hx⟩; obtain ⟨x, rfl⟩ := hx.of_ext; rw [Hw.out]; dsimp only) | (go_at_call 34; refine (HiddenFiles_i l _ _ _ _ path _ _ _ _ _ (hF.mono (X.fr (by (repeat (first | exact X.refl _ | assumption | refine X.ext ?_ _ | refine X.alloc ?_ _ | refine X.drew ?_))) _)) hnc (hI.mono (X.fr (by (repeat (first | exact X.refl _ | assumption | refine X.ext ?_ _ | refine X.alloc ?_ _ | refine X.drew ?_))) _)) hpc (hG.mono (by (repeat (first | exact X.refl _ | assumption | refine X.ext ?_ _ | refine X.alloc ?_ _ | refine X.drew ?_))))).mono ?_; rintro _ w6 ⟨ra, rc, rfl, hH, hx6⟩; replace hx6 := X.trans (a := W) (by (repeat (first | exact X.refl _ | assumption | refine X.ext ?_ _ | refine X.alloc ?_ _ | refine X.drew ?_))) hx6; obtain ⟨z6, rfl⟩ := hx6) | (go_at_call 28; refine (isIn_c (hidL l path) _ _ _ _ _ _ (hH.mono (X.fr (by (repeat (first | exact X.refl _ | assumption | refine X.ext ?_ _ | refine X.alloc ?_ _ | refine X.drew ?_))) _))).mono ?_; rintro _ w7 ⟨rfl, hx7⟩; rw [Hin.out]; obtain ⟨z7, rfl⟩ := hx7.of_ext))
      refine wp_region_grow (by kernel_rfl) (by kernel_rfl) ?_
      repeat (go_big_quiet_step (((first | (go_at_call_of 18 fj; refine grow_of (ModuleOf_c fj ba bn bc _ _ hok (hS.mono (X.fr (by (repeat (first | exact X.refl _ | assumption | refine X.ext ?_ _ | refine X.alloc ?_ _ | refine X.drew ?_))) _)) (hG.mono (by (repeat (first | exact X.refl _ | assumption | refine X.ext ?_ _ | refine X.alloc ?_ _ | refine X.drew ?_)))))) | (go_at_call_of 18 fk; refine grow_of (ModuleOf_c fk ba' bn' bc' _ _ hok' (hS'.mono (X.fr (by (repeat (first | exact X.refl _ | assumption | refine X.ext ?_ _ | refine X.alloc ?_ _ | refine X.drew ?_))) _)) (hG.mono (by (repeat (first | exact X.refl _ | assumption | refine X.ext ?_ _ | refine X.alloc ?_ _ | refine X.drew ?_))))))))))
      refine wpQuiet_nil ?_
      rintro _ ⟨y, rfl⟩
      go_wp2
      go_ret
      exact ⟨by simp [Hmod.out], hxw.trans (by (repeat (first | exact X.refl _ | assumption | refine X.ext ?_ _ | refine X.alloc ?_ _ | refine X.drew ?_)))⟩

end Go.Proofs.YtjklpfgjimbabaaDoor
