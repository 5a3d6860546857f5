/- The walk of the law FnValidFinder. -/
import Derived.Test.YtgjfjjhmgbemcaaDoorForget
namespace Go.Proofs.YtgjfjjhmgbemcaaDoor
open Go.RowKit

theorem finB_nil {fl : List Di} {fi hi : Int} (h : finB fl fi hi = true) : finB [] fi hi = true := by
  unfold finB at h ⊢
  simp only [Bool.and_eq_true] at h ⊢
  exact ⟨⟨by decide, h.1.2⟩, h.2⟩
set_option maxRecDepth 100000 in
set_option maxHeartbeats 4000000 in
theorem FnValidFinder_c (ca : Option Addr) (cn cc : Nat) (w : World) (hC : CodeAt w ca cn cc) (hG : Gm w) :
    Calls Tryd.prog 5 #[.slice ca cn cc] w fun e w' => e = .returned (.bool true) ∧ X w w' := by
  by_cases hbig : 1048576 < cn
  · go_enter Tryd.func5, Tryd.ntmps5
    go_wp2
    go_ret
    exact ⟨by simp, by (repeat (first | exact X.refl _ | assumption | refine X.ext ?_ _ | refine X.alloc ?_ _ | refine X.drew ?_))⟩
  · go_enter Tryd.func5, Tryd.ntmps5
    go_wp2_with fail
    refine (DrawValidFinder_c ca cn cc _ hC (by omega)).mono ?_
    rintro _ W1 ⟨fl, fa, fn, fc, fi, hi, rfl, hD, hnc, hx1⟩
    go_wp2_with fail
    refine calls_name (fun W2 hW2 => ?_)
    have hT2 : Tf W2 W1.heap.size #[.slice fa fn fc, .int .i64 fi, .int .i64 hi] := by rw [hW2]; exact tb_new _ 44 _ rfl
    have hx2 : X W1 W2 := by rw [hW2]; (repeat (first | with_reducible exact X.refl _ | with_reducible assumption | with_reducible refine X.setCell ?_ (by first | (simp; done) | (simp; omega)) _ | with_reducible refine X.ext ?_ _ | with_reducible refine X.alloc ?_ _ | with_reducible refine X.drew ?_))
    clear hW2
    have hxw := hx1.trans hx2
    refine (ValidFinder_i fl fa fn fc fi hi _ W2 (hD.mono (hx2.fr _)) hnc (hG.mono hxw)).mono ?_
    rintro _ w3 ⟨rfl, hx3⟩
    have hxw3 := hxw.trans hx3
    have hT3 := hT2.x hx3
    obtain ⟨ltf, f0, f1, f2, _⟩ := hT3.cells
    have hD3 := hD.mono ((hx2.trans hx3).fr _)
    go_wp2_with fail
    refine (ValidFinder_s fl fa fn fc fi hi _ w3 hD3).mono ?_
    rintro _ w4 ⟨rfl, hx4⟩
    have hxw4 := hxw3.trans hx4
    obtain ⟨ltf4, g0, g1, g2, _⟩ := (hT3.x hx4).cells
    have hD4 := hD3.mono (hx4.fr _)
    have hG4 := hG.mono hxw4
    clear ltf f0 f1 f2
    cases hb : finB fl fi hi
    · go_wp2_with fail
      refine (ValidFinder_s fl fa fn fc fi hi _ w4 hD4).mono ?_
      rw [hb]
      rintro _ w5 ⟨rfl, hx5⟩
      go_wp2
      go_ret
      exact ⟨rfl, hxw4.trans hx5⟩
    · go_wp2_with fail
      refine (ForgetAll_i fl fa fn fc fi hi _ w4 hD4 hnc hG4 true hb).mono ?_
      rintro _ w5 ⟨fa2, rfl, hx5⟩
      simp only [if_true]
      go_wp2_with fail
      refine (ValidFinder_i [] fa2 0 0 fi hi 0 w5 (dirsAt_nil _ _ _) (Nat.le_refl _) (hG4.mono hx5)).mono ?_
      rw [finB_nil hb]
      rintro _ w6 ⟨rfl, hx6⟩
      go_wp2
      go_ret
      exact ⟨rfl, (hxw4.trans hx5).trans hx6⟩

end Go.Proofs.YtgjfjjhmgbemcaaDoor
