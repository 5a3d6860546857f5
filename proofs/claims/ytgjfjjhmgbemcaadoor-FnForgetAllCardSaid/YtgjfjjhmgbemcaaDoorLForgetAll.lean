/- The walk of the law FnForgetAll. -/
import Derived.Test.YtgjfjjhmgbemcaaDoorForget
import Derived.Deep.RegionHeld3
namespace Go.Proofs.YtgjfjjhmgbemcaaDoor
open Go.RowKit

set_option maxRecDepth 100000 in
set_option maxHeartbeats 4000000 in
theorem FnForgetAll_c (ca : Option Addr) (cn cc : Nat) (w : World) (hC : CodeAt w ca cn cc) (hG : Gm w) :
    Calls Tryd.prog 4 #[.slice ca cn cc] w fun e w' => e = .returned (.bool true) ∧ X w w' := by
  by_cases hbig : 1048576 < cn
  · go_enter Tryd.func4, Tryd.ntmps4
    go_wp2
    go_ret
    exact ⟨by simp, by (repeat (first | exact X.refl _ | assumption | refine X.ext ?_ _ | refine X.alloc ?_ _ | refine X.drew ?_))⟩
  · go_enter Tryd.func4, Tryd.ntmps4
    go_wp2_with fail
    refine (DrawForgetAll_c ca cn cc _ hC (by omega)).mono ?_
    rintro _ W1 ⟨fl, fa, fn, fc, fi, hi, rfl, hD, hnc, hx1⟩
    go_wp2_with fail
    refine calls_name (fun W2 hW2 => ?_)
    have hT2 : Tf W2 W1.heap.size #[.slice fa fn fc, .int .i64 fi, .int .i64 hi] := by rw [hW2]; exact tb_new _ 44 _ rfl
    have hx2 : X W1 W2 := by rw [hW2]; (repeat (first | with_reducible exact X.refl _ | with_reducible assumption | with_reducible refine X.setCell ?_ (by first | (simp; done) | (simp; omega)) _ | with_reducible refine X.ext ?_ _ | with_reducible refine X.alloc ?_ _ | with_reducible refine X.drew ?_))
    clear hW2
    have hxw := hx1.trans hx2
    obtain ⟨b, hb⟩ : ∃ b, finB fl fi hi = b := ⟨_, rfl⟩
    refine (ForgetAll_i fl fa fn fc fi hi _ W2 (hD.mono (hx2.fr _)) hnc (hG.mono hxw) b hb).mono ?_
    rintro _ w3 ⟨fa2, rfl, hx3⟩
    have hxw3 := hxw.trans hx3
    have hT3 := hT2.x hx3
    go_upto_region 5 with fail
    refine wp_name (fun W4 hW4 => ?_)
    have hU4 : Tf W4 w3.heap.size #[.slice fa2 0 0, .int .i64 (if b = true then fi else 0), .int .i64 (if b = true then hi else 0)] := by rw [hW4]; exact tb_new _ 44 _ rfl
    have hx4 : X w3 W4 := by rw [hW4]; (repeat (first | with_reducible exact X.refl _ | with_reducible assumption | with_reducible refine X.setCell ?_ (by first | (simp; done) | (simp; omega)) _ | with_reducible refine X.ext ?_ _ | with_reducible refine X.alloc ?_ _ | with_reducible refine X.drew ?_))
    clear hW4
    have hxw4 := hxw3.trans hx4
    have hT4 := hT3.x hx4
    have hD4 := hD.mono (((hx2.trans hx3).trans hx4).fr _)
    have hG4 := hG.mono hxw4
    have cs : ∀ W', X W4 W' → Calls Tryd.prog 17 #[.agg #[.slice fa fn fc, .int .i64 fi, .int .i64 hi]] W' fun e w' => e = .returned (.agg #[.slice none 0 0, .int .i64 (if b = true then fi else 0), .int .i64 (if b = true then hi else 0)]) ∧ X W' w' := fun W' hx => ForgetAll_s fl fa fn fc fi hi _ W' (hD4.mono (hx.fr _)) b hb
    have cv : ∀ W', X W4 W' → Calls Tryd.prog 18 #[.agg #[.slice fa fn fc, .int .i64 fi, .int .i64 hi]] W' fun e w' => e = .returned (.bool b) ∧ X W' w' := fun W' hx => by
      have := ValidFinder_i fl fa fn fc fi hi _ W' (hD4.mono (hx.fr _)) hnc (hG4.mono hx)
      rwa [hb] at this
    obtain ⟨ltf, f0, f1, f2, _⟩ := hT4.cells
    obtain ⟨ltu, u0, u1, u2, _⟩ := hU4.cells
    clear hT2 hT3 hT4 hU4 hD hD4 hG hG4 hb hx1 hx2 hx3 hx4 hxw hxw3
    cases b
    · simp only [if_false, Bool.false_eq_true] at u1 u2 cs
      refine wp_region_grow0 (by kernel_rfl) (by kernel_rfl) ?_
      repeat (go_big_quiet_step (((first | (go_at_call 17; refine grow_of (cs _ (by (repeat (first | exact X.refl _ | assumption | refine X.ext ?_ _ | refine X.alloc ?_ _ | refine X.drew ?_))))) | (go_at_call 16; refine grow_of (equalFinder_c fa2 none 0 0 0 0 _)) | (go_at_call 18; refine grow_of (cv _ (by (repeat (first | exact X.refl _ | assumption | refine X.ext ?_ _ | refine X.alloc ?_ _ | refine X.drew ?_)))))))))
      refine wpQuiet_nil ?_
      rintro _ ⟨y, rfl⟩
      go_wp2
      refine wp_region_grow (by kernel_rfl) (by kernel_rfl) ?_
      repeat (go_big_quiet_step (((first | (go_at_call 17; refine grow_of (cs _ (by (repeat (first | exact X.refl _ | assumption | refine X.ext ?_ _ | refine X.alloc ?_ _ | refine X.drew ?_))))) | (go_at_call 16; refine grow_of (equalFinder_c fa2 none 0 0 0 0 _)) | (go_at_call 18; refine grow_of (cv _ (by (repeat (first | exact X.refl _ | assumption | refine X.ext ?_ _ | refine X.alloc ?_ _ | refine X.drew ?_)))))))))
      refine wpQuiet_nil ?_
      rintro _ ⟨y, rfl⟩
      go_wp2
      go_ret
      exact ⟨rfl, hxw4.trans (by (repeat (first | exact X.refl _ | assumption | refine X.ext ?_ _ | refine X.alloc ?_ _ | refine X.drew ?_)))⟩
    · simp only [if_true] at u1 u2 cs
      refine wp_region_grow0 (by kernel_rfl) (by kernel_rfl) ?_
      repeat (go_big_quiet_step (((first | (go_at_call 17; refine grow_of (cs _ (by (repeat (first | exact X.refl _ | assumption | refine X.ext ?_ _ | refine X.alloc ?_ _ | refine X.drew ?_))))) | (go_at_call 16; refine grow_of (equalFinder_c fa2 none 0 0 fi hi _)) | (go_at_call 18; refine grow_of (cv _ (by (repeat (first | exact X.refl _ | assumption | refine X.ext ?_ _ | refine X.alloc ?_ _ | refine X.drew ?_)))))))))
      refine wpQuiet_nil ?_
      rintro _ ⟨y, rfl⟩
      go_wp2
      go_ret
      exact ⟨by simp, hxw4.trans (by (repeat (first | exact X.refl _ | assumption | refine X.ext ?_ _ | refine X.alloc ?_ _ | refine X.drew ?_)))⟩

end Go.Proofs.YtgjfjjhmgbemcaaDoor
