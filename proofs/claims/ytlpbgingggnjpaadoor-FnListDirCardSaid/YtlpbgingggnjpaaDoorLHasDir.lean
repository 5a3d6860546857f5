/- The walk of the law FnHasDir. -/
import Derived.Test.YtlpbgingggnjpaaDoorListT
import Derived.Test.YtlpbgingggnjpaaDoorDrawMods
import Derived.Deep.RegionHeld3
namespace Go.Proofs.YtlpbgingggnjpaaDoor
open Go.RowKit

set_option maxHeartbeats 400000 in
theorem HasDir_s (l : List Fi) (a : Option Addr) (n c B : Nat) (r : Int) (p : List UInt8) (w : World) (hF : FilesAt w B a n l) (hp : p.length ≤ 4194304) :
    Calls Tryd.prog 30 #[.agg #[.slice a n c], .int .i64 r, .string ⟨(p).toArray⟩] w fun e w' => e = .returned (.bool (hasB l r p)) ∧ X w w' := by
  go_enter Tryd.func30, Tryd.ntmps30
  go_wp2_with (first | (go_at_call 49; refine (validTree_c _ _ _ _ _ _ (hF.mono (X.fr (by (repeat (first | exact X.refl _ | assumption | refine X.ext ?_ _ | refine X.alloc ?_ _ | refine X.drew ?_))) _))).mono ?_; rintro _ _ ⟨rfl, hx⟩; first | obtain ⟨x, rfl⟩ := hx.of_ext | obtain ⟨x, rfl⟩ := hx) | (go_at_call 62; refine (inRange_c _ _ _ _).mono ?_; rintro _ _ ⟨rfl, rfl⟩) | (go_at_call 63; refine (validPackage_c _ _ hp).mono ?_; rintro _ _ ⟨rfl, hx⟩; first | obtain ⟨x, rfl⟩ := hx.of_ext | obtain ⟨x, rfl⟩ := hx) | (go_at_call 68; refine (hasDir_c _ _ _ _ _ _ _ _ (hF.mono (X.fr (by (repeat (first | exact X.refl _ | assumption | refine X.ext ?_ _ | refine X.alloc ?_ _ | refine X.drew ?_))) _)) hp).mono ?_; rintro _ _ ⟨rfl, hx⟩; first | obtain ⟨x, rfl⟩ := hx.of_ext | obtain ⟨x, rfl⟩ := hx))
  all_goals go_ret
  all_goals refine ⟨ret_bool ?_, by (repeat (first | exact X.refl _ | assumption | refine X.ext ?_ _ | refine X.alloc ?_ _ | refine X.drew ?_))⟩
  all_goals simp [hasB, *]
theorem parentF_le (s : List UInt8) : (parentF s).length ≤ 12 := by
  unfold parentF
  split
  · rename_i h
    exact pfx_len h _
  · simp
theorem lastF_le (s : List UInt8) : (lastF s).length ≤ s.length := by
  unfold lastF
  split
  · have := splitL_pos 46 s
    exact splitL_piece_le 46 s _ (nth_mem (by omega))
  · simp

set_option maxRecDepth 100000 in
set_option maxHeartbeats 2000000 in
theorem FnHasDir_c (ca : Option Addr) (cn cc : Nat) (w : World) (hC : CodeAt w ca cn cc) (hG : Gm w) :
    Calls Tryd.prog 7 #[.slice ca cn cc] w fun e w' => e = .returned (.bool true) ∧ X w w' := by
  by_cases hbig : 1048576 < cn
  · go_enter Tryd.func7, Tryd.ntmps7
    go_wp2
    go_ret
    exact ⟨by simp, by (repeat (first | exact X.refl _ | assumption | refine X.ext ?_ _ | refine X.alloc ?_ _ | refine X.drew ?_))⟩
  · go_enter Tryd.func7, Tryd.ntmps7
    go_wp2_with fail
    refine (DrawHasDir_c ca cn cc _ hC (by omega)).mono ?_
    rintro _ W1 ⟨l, a, n, c, q, p, rfl, hF, hnc, hn11, hq, hp, hx1⟩
    go_wp2_with fail
    refine calls_name (fun W2 hW2 => ?_)
    have hB2 : Bx W2 W1.heap.size #[.slice a n c] := by rw [hW2]; first | exact Bx.new _ _ _ | exact Bx.set (Bx.new _ _ _) 0 _
    have hx2 : X W1 W2 := by rw [hW2]; (repeat (first | with_reducible exact X.refl _ | with_reducible assumption | with_reducible refine X.setCell ?_ (by first | (simp; done) | (simp; omega)) _ | with_reducible refine X.ext ?_ _ | with_reducible refine X.alloc ?_ _ | with_reducible refine X.drew ?_))
    clear hW2
    have hxw := hx1.trans hx2
    replace hF := hF.mono (hx2.fr _)
    replace hG := hG.mono hxw
    clear hx1 hx2
    have hlaw := @hasDir_law l q p
    have hlen : p ≠ [] → p.isEmpty = false := fun h => by cases p with | nil => exact absurd rfl h | cons _ _ => rfl
    refine (HasDir_c l a n c _ q p W2 hF hnc (by omega) hG).mono ?_
    rw [show (treeB l && rangeB q 0 2 && pkgB p && dirS l q p) = hasB l q p from rfl]
    rintro _ W3 ⟨rfl, hx3⟩
    have hB3 := hB2.x hx3
    replace hxw := hxw.trans hx3
    replace hF := hF.mono (hx3.fr _)
    replace hG := hG.mono hx3
    clear hB2 hx3
    have t0 := bxC hB3
    have lt0 := hB3.lt
    go_wp2_with fail
    refine (HasDir_s l a n c _ q p W3 hF (by omega)).mono ?_
    rintro _ W4 ⟨rfl, hx4⟩
    have hB4 := hB3.x hx4
    replace hxw := hxw.trans hx4
    replace hF := hF.mono (hx4.fr _)
    replace hG := hG.mono hx4
    clear hB3 hx4 t0 lt0
    have t0 := bxC hB4
    have lt0 := hB4.lt
    cases hb : hasB l q p
    · go_wp2_with fail
      refine (HasDir_s l a n c _ q p W4 hF (by omega)).mono ?_
      rw [hb]
      rintro _ W5 ⟨rfl, hx5⟩
      go_wp2
      go_ret
      exact ⟨rfl, hxw.trans hx5⟩
    by_cases hpe : p = []
    · subst hpe
      go_wp2_with fail
      refine (HasDir_s l a n c _ q [] W4 hF (by simp)).mono ?_
      rw [hb]
      rintro _ W5 ⟨rfl, hx5⟩
      go_wp2
      go_ret
      exact ⟨rfl, hxw.trans hx5⟩
    have hpe2 := hlen hpe
    obtain ⟨k1, k2, k3⟩ := hlaw hb hpe
    have hpl := parentF_le p
    have hll := lastF_le p
    have hcat : ¬ 9223372036854775807 < (lastF p).length + 1 := by omega
    obtain ⟨pp, hpp⟩ : ∃ pp, parentF p = pp := ⟨_, rfl⟩
    rw [hpp] at k1 k2 hpl
    have Hpp := Lib.hid hpp
    clear hpp hlaw hlen
    have hs1 : ∀ x ∈ listL l q pp, x.length ≤ 4194304 := fun x hx => by have := listL_short x hx; omega
    have hl1 := @listL_len l q pp
    have hl2 := @listL_len l q p
    obtain ⟨L1, hL1⟩ : ∃ L1, listL l q pp = L1 := ⟨_, rfl⟩
    obtain ⟨L2, hL2⟩ : ∃ L2, listL l q p = L2 := ⟨_, rfl⟩
    rw [hL1] at k2 hs1 hl1
    rw [hL2] at k3 hl2
    have HL1 := Lib.hid hL1
    have HL2 := Lib.hid hL2
    clear hL1 hL2
    go_wp2_with fail
    go_region_held3 (fun w' => w'.cell? ⟨W1.heap.size, 0, none⟩ = some (.slice a n c))
      (first | exact (World.cell?_ext _ _ _ _ lt0).trans t0 | exact t0 | go_keep)
      ((first
        | (go_at_call 31; refine (ParentOf_c p _ (by omega) (hG.mono (by (repeat (first | exact X.refl _ | assumption | refine X.ext ?_ _ | refine X.alloc ?_ _ | refine X.drew ?_))))).mono ?_; rintro _ w9 ⟨rfl, hx9⟩; rw [Hpp.out]; (try replace hS1 := hS1.mono (hx9.fr _)); replace hx9 := X.trans (a := W4) (by (repeat (first | exact X.refl _ | assumption | refine X.ext ?_ _ | refine X.alloc ?_ _ | refine X.drew ?_))) hx9; obtain ⟨z9, rfl⟩ := hx9)
        | (go_at_call 32; refine (LastOf_c p _ (by omega) (hG.mono (by (repeat (first | exact X.refl _ | assumption | refine X.ext ?_ _ | refine X.alloc ?_ _ | refine X.drew ?_))))).mono ?_; rintro _ w9 ⟨rfl, hx9⟩; (try replace hS1 := hS1.mono (hx9.fr _)); replace hx9 := X.trans (a := W4) (by (repeat (first | exact X.refl _ | assumption | refine X.ext ?_ _ | refine X.alloc ?_ _ | refine X.drew ?_))) hx9; obtain ⟨z9, rfl⟩ := hx9)
        | (go_at_call 28; refine (HasDir_c l a n c _ q pp _ (hF.mono (X.fr (by (repeat (first | exact X.refl _ | assumption | refine X.ext ?_ _ | refine X.alloc ?_ _ | refine X.drew ?_))) _)) hnc (by omega) (hG.mono (by (repeat (first | exact X.refl _ | assumption | refine X.ext ?_ _ | refine X.alloc ?_ _ | refine X.drew ?_))))).mono ?_; rw [show (treeB l && rangeB q 0 2 && pkgB pp && dirS l q pp) = hasB l q pp from rfl, k1]; rintro _ w9 ⟨rfl, hx9⟩; (try replace hS1 := hS1.mono (hx9.fr _)); replace hx9 := X.trans (a := W4) (by (repeat (first | exact X.refl _ | assumption | refine X.ext ?_ _ | refine X.alloc ?_ _ | refine X.drew ?_))) hx9; obtain ⟨z9, rfl⟩ := hx9)
        | (go_at_call_of 26 pp; refine (ListDir_i l a n c _ q pp _ (hF.mono (X.fr (by (repeat (first | exact X.refl _ | assumption | refine X.ext ?_ _ | refine X.alloc ?_ _ | refine X.drew ?_))) _)) hnc (by omega) (hG.mono (by (repeat (first | exact X.refl _ | assumption | refine X.ext ?_ _ | refine X.alloc ?_ _ | refine X.drew ?_))))).mono ?_; rw [HL1.out]; rintro _ w9 ⟨ra1, rc1, rfl, hO1, hx9⟩; have hS1 := StrsAt.of_own hO1 (by omega) hs1; clear hO1; replace hx9 := X.trans (a := W4) (by (repeat (first | exact X.refl _ | assumption | refine X.ext ?_ _ | refine X.alloc ?_ _ | refine X.drew ?_))) hx9; obtain ⟨z9, rfl⟩ := hx9)
        | (go_at_call_of 26 p; refine (ListDir_i l a n c _ q p _ (hF.mono (X.fr (by (repeat (first | exact X.refl _ | assumption | refine X.ext ?_ _ | refine X.alloc ?_ _ | refine X.drew ?_))) _)) hnc (by omega) (hG.mono (by (repeat (first | exact X.refl _ | assumption | refine X.ext ?_ _ | refine X.alloc ?_ _ | refine X.drew ?_))))).mono ?_; rw [HL2.out]; rintro _ w9 ⟨ra2, rc2, rfl, hO2, hx9⟩; clear hO2; (try replace hS1 := hS1.mono (hx9.fr _)); replace hx9 := X.trans (a := W4) (by (repeat (first | exact X.refl _ | assumption | refine X.ext ?_ _ | refine X.alloc ?_ _ | refine X.drew ?_))) hx9; obtain ⟨z9, rfl⟩ := hx9)
        | (go_at_call 15; refine (hasTextL_c L1 _ _ _ _ (lastF p ++ [47]) _ (hS1.mono (X.fr (by (repeat (first | exact X.refl _ | assumption | refine X.ext ?_ _ | refine X.alloc ?_ _ | refine X.drew ?_))) _))).mono ?_; rw [decide_eq_true k2]; rintro _ w9 ⟨rfl, hx9⟩; (try replace hS1 := hS1.mono (hx9.fr _)); replace hx9 := X.trans (a := W4) (by (repeat (first | exact X.refl _ | assumption | refine X.ext ?_ _ | refine X.alloc ?_ _ | refine X.drew ?_))) hx9; obtain ⟨z9, rfl⟩ := hx9)))
    go_wp2
    go_ret
    exact ⟨by simp, hxw.trans (by (repeat (first | exact X.refl _ | assumption | refine X.ext ?_ _ | refine X.alloc ?_ _ | refine X.drew ?_)))⟩

end Go.Proofs.YtlpbgingggnjpaaDoor
