/- The walk of the law FnSameFinds. -/
import Derived.Test.YtijcdnaammbomaaGreatDoorSameW
import Derived.Test.YtijcdnaammbomaaGreatDoorSameS
import Derived.Test.YtijcdnaammbomaaGreatDoorDrawSame
import Derived.Deep.RegionHeld3
namespace Go.Proofs.YtijcdnaammbomaaGreatDoor
open Go.RowKit

theorem same_facts {t u : List Fi} {path : List Int} (h : sameI t u path = true) : sameI u t path = true ∧ sameI t t path = true ∧ foundL t path = foundL u path := by
  refine ⟨same_comm h, ?_, ?_⟩
  · refine same_refl ?_
    unfold sameI at h
    simp only [Bool.and_eq_true] at h ⊢
    exact ⟨h.1.1.1.1, h.1.1.2⟩
  · unfold sameI at h
    simp only [Bool.and_eq_true, beq_iff_eq] at h
    exact h.1.2
set_option maxRecDepth 100000 in
set_option maxHeartbeats 4000000 in
theorem FnSameFinds_c (ca : Option Addr) (cn cc : Nat) (w : World) (hC : CodeAt w ca cn cc) (hG : Gm w) :
    Calls Tryz.prog 4 #[.slice ca cn cc] w fun e w' => e = .returned (.bool true) ∧ X w w' := by
  by_cases hbig : 1048576 < cn
  · go_enter Tryz.func4, Tryz.ntmps4
    go_wp2
    go_ret
    exact ⟨by simp, by (repeat (first | exact X.refl _ | assumption | refine X.ext ?_ _ | refine X.alloc ?_ _ | refine X.drew ?_))⟩
  · go_enter Tryz.func4, Tryz.ntmps4
    go_wp2_with fail
    refine (DrawSameFinds_c ca cn cc _ hC (by omega)).mono ?_
    rintro _ W1 ⟨l, a, n, c, u, ua, un, uc, path, pa, pn, pc, rfl, hF, hnc, hU, huc, hI, hpc, hx1⟩
    have Hs := Lib.hid (@same_facts l u path)
    have Heq := Lib.hid (same_eq l u path)
    obtain ⟨V, hV⟩ : ∃ V, sameI l u path = V := ⟨_, rfl⟩
    have HV := Lib.hid hV
    clear hV
    go_wp2_with fail
    refine calls_name (fun W2 hW2 => ?_)
    obtain ⟨hB3, hB4, hx2⟩ : Bx W2 W1.heap.size #[.slice a n c] ∧ Bx W2 (W1.heap.size + 1) #[.slice ua un uc] ∧ X W1 W2 := bx2 hW2
    clear hW2
    have hxw := hx1.trans hx2
    replace hF := hF.mono (hx2.fr _)
    replace hU := hU.mono (hx2.fr _)
    replace hI := hI.mono (hx2.fr _)
    replace hG := hG.mono hxw
    clear hx1 hx2
    refine (SameFinds_i l u a ua n un c uc _ _ path pa pn pc _ W2 hF hnc hU huc hI hpc hG).mono ?_
    rw [HV.out]
    rintro _ W3 ⟨rfl, hx3⟩
    have t3 := bxC (hB3.x hx3)
    have l3 := (hB3.x hx3).lt
    have t4 := bxC (hB4.x hx3)
    have l4 := (hB4.x hx3).lt
    go_wp2_with fail
    refine (SameFinds_s l u a ua n un c uc _ _ path pa pn pc _ W3 (hF.mono (hx3.fr _)) (hU.mono (hx3.fr _)) (hI.mono (hx3.fr _)) hpc).mono ?_
    rw [← Heq.out, HV.out]
    rintro _ W4 ⟨rfl, hx4⟩
    have hx24 := hx3.trans hx4
    replace hF := hF.mono (hx24.fr _)
    replace hU := hU.mono (hx24.fr _)
    replace hI := hI.mono (hx24.fr _)
    replace hG := hG.mono hx24
    replace hB3 := hB3.x hx24
    replace hB4 := hB4.x hx24
    replace hxw := hxw.trans hx24
    clear t3 l3 t4 l4 hx3 hx4 hx24
    have t3 := bxC hB3
    have l3 := hB3.lt
    have t4 := bxC hB4
    have l4 := hB4.lt
    cases V
    · go_wp2_with fail
      refine (SameFinds_s l u a ua n un c uc _ _ path pa pn pc _ W4 hF hU hI hpc).mono ?_
      rw [← Heq.out, HV.out]
      rintro _ W5 ⟨rfl, hx5⟩
      go_wp2
      go_ret
      exact ⟨rfl, hxw.trans hx5⟩
    obtain ⟨s1, s2, s3⟩ := Hs.out HV.out
    have hfl := @foundL_len u path
    have hfs : ∀ x ∈ foundL u path, x.length ≤ 4194304 := fun x hx => by have := foundL_short x hx; omega
    obtain ⟨N, hN⟩ : ∃ N, foundL u path = N := ⟨_, rfl⟩
    rw [hN] at s3 hfl hfs
    have HN := Lib.hid hN
    have HN2 := Lib.hid s3
    clear hN s3 Hs Heq
    go_wp2_with fail
    go_region_held3 (fun W' => W'.cell? ⟨W1.heap.size, 0, none⟩ = some (.slice a n c) ∧ W'.cell? ⟨W1.heap.size + 1, 0, none⟩ = some (.slice ua un uc))
      (first | exact ⟨(World.cell?_ext _ _ _ _ l3).trans t3, (World.cell?_ext _ _ _ _ l4).trans t4⟩ | exact ⟨t3, t4⟩ | go_keep)
      (first
        | (go_at_call_of 20 ua; refine (SameFinds_i u l ua a un n uc c _ _ path pa pn pc _ _ (hU.mono (X.fr (by (repeat (first | exact X.refl _ | assumption | refine X.ext ?_ _ | refine X.alloc ?_ _ | refine X.drew ?_))) _)) huc (hF.mono (X.fr (by (repeat (first | exact X.refl _ | assumption | refine X.ext ?_ _ | refine X.alloc ?_ _ | refine X.drew ?_))) _)) hnc (hI.mono (X.fr (by (repeat (first | exact X.refl _ | assumption | refine X.ext ?_ _ | refine X.alloc ?_ _ | refine X.drew ?_))) _)) hpc (hG.mono (by (repeat (first | exact X.refl _ | assumption | refine X.ext ?_ _ | refine X.alloc ?_ _ | refine X.drew ?_))))).mono ?_; rw [s1]; rintro _ w4 ⟨rfl, hx4⟩; replace hx4 := X.trans (a := W4) (by (repeat (first | exact X.refl _ | assumption | refine X.ext ?_ _ | refine X.alloc ?_ _ | refine X.drew ?_))) hx4; obtain ⟨z4, rfl⟩ := hx4)
        | (go_at_call 20; refine (SameFinds_i l l a a n n c c _ _ path pa pn pc _ _ (hF.mono (X.fr (by (repeat (first | exact X.refl _ | assumption | refine X.ext ?_ _ | refine X.alloc ?_ _ | refine X.drew ?_))) _)) hnc (hF.mono (X.fr (by (repeat (first | exact X.refl _ | assumption | refine X.ext ?_ _ | refine X.alloc ?_ _ | refine X.drew ?_))) _)) hnc (hI.mono (X.fr (by (repeat (first | exact X.refl _ | assumption | refine X.ext ?_ _ | refine X.alloc ?_ _ | refine X.drew ?_))) _)) hpc (hG.mono (by (repeat (first | exact X.refl _ | assumption | refine X.ext ?_ _ | refine X.alloc ?_ _ | refine X.drew ?_))))).mono ?_; rw [s2]; rintro _ w5 ⟨rfl, hx5⟩; replace hx5 := X.trans (a := W4) (by (repeat (first | exact X.refl _ | assumption | refine X.ext ?_ _ | refine X.alloc ?_ _ | refine X.drew ?_))) hx5; obtain ⟨z5, rfl⟩ := hx5)
        | (go_at_call_of 8 ua; refine (FoundNames_i u ua un uc _ path pa pn pc _ _ (hU.mono (X.fr (by (repeat (first | exact X.refl _ | assumption | refine X.ext ?_ _ | refine X.alloc ?_ _ | refine X.drew ?_))) _)) huc (hI.mono (X.fr (by (repeat (first | exact X.refl _ | assumption | refine X.ext ?_ _ | refine X.alloc ?_ _ | refine X.drew ?_))) _)) hpc (hG.mono (by (repeat (first | exact X.refl _ | assumption | refine X.ext ?_ _ | refine X.alloc ?_ _ | refine X.drew ?_))))).mono ?_; rw [HN.out]; rintro _ w7 ⟨g7, c7, rfl, hO7, hx7⟩; have hS7 := StrsAt.of_own hO7 (by omega) hfs; clear hO7; replace hS6 := hS6.mono (hx7.fr _); replace hx7 := X.trans (a := W4) (by (repeat (first | exact X.refl _ | assumption | refine X.ext ?_ _ | refine X.alloc ?_ _ | refine X.drew ?_))) hx7; obtain ⟨z7, rfl⟩ := hx7)
        | (go_at_call 8; refine (FoundNames_i l a n c _ path pa pn pc _ _ (hF.mono (X.fr (by (repeat (first | exact X.refl _ | assumption | refine X.ext ?_ _ | refine X.alloc ?_ _ | refine X.drew ?_))) _)) hnc (hI.mono (X.fr (by (repeat (first | exact X.refl _ | assumption | refine X.ext ?_ _ | refine X.alloc ?_ _ | refine X.drew ?_))) _)) hpc (hG.mono (by (repeat (first | exact X.refl _ | assumption | refine X.ext ?_ _ | refine X.alloc ?_ _ | refine X.drew ?_))))).mono ?_; rw [HN2.out]; rintro _ w6 ⟨g6, c6, rfl, hO6, hx6⟩; have hS6 := StrsAt.of_own hO6 (by omega) hfs; clear hO6; replace hx6 := X.trans (a := W4) (by (repeat (first | exact X.refl _ | assumption | refine X.ext ?_ _ | refine X.alloc ?_ _ | refine X.drew ?_))) hx6; obtain ⟨z6, rfl⟩ := hx6)
        | (go_at_call 9; refine (equalTexts_c N N _ _ _ _ _ _ _ _ _ hS6 hS7).mono ?_; rw [decide_eq_true (rfl : N = N)]; rintro _ w8 ⟨rfl, hx8⟩; replace hx8 := X.trans (a := W4) (by (repeat (first | exact X.refl _ | assumption | refine X.ext ?_ _ | refine X.alloc ?_ _ | refine X.drew ?_))) hx8; obtain ⟨z8, rfl⟩ := hx8))
    all_goals
      go_wp2
      go_ret
      exact ⟨by first | rfl | simp, hxw.trans (by (repeat (first | exact X.refl _ | assumption | refine X.ext ?_ _ | refine X.alloc ?_ _ | refine X.drew ?_)))⟩

end Go.Proofs.YtijcdnaammbomaaGreatDoor
