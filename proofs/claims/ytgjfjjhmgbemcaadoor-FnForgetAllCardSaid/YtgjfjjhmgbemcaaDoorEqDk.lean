/- Comparing disks, and finders, with their like. No condition. -/
import Derived.Test.YtgjfjjhmgbemcaaDoorLa
import Derived.Test.YtgjfjjhmgbemcaaDoorEqTr
import Derived.Test.YtgjfjjhmgbemcaaDoorRises
namespace Go.Proofs.YtgjfjjhmgbemcaaDoor
open Go.RowKit

set_option maxRecDepth 100000 in
set_option maxHeartbeats 4000000 in
theorem equalDirs_c (l : List Di) (a a' : Option Addr) (n c c' B B' : Nat) (w : World) (hL : DirsAt w B a n l) (hM : DirsAt w B' a' n l) :
    Calls Tryd.prog 30 #[.slice a n c, .slice a' n c'] w fun e w' => e = .returned (.bool true) ∧ X w w' := by
  have hn := hL.len.2
  go_enter Tryd.func30, Tryd.ntmps30
  go_wp2
  go_loopw [5] (fun i wr => ∃ k : Nat, k ≤ n ∧ i = .int .i64 k ∧ ∃ x, wr = World.ext w x) (fun i _ => n - (intOf i).toNat)
  case atStart => exact ⟨0, by omega, rfl, X.refl _⟩
  case round =>
    obtain ⟨k, hk, rfl, x, rfl⟩ := hrel
    by_cases hlt : k < n
    · obtain ⟨b, off, ba, bn, bc, rfl, _, hb, _, _, hS, g0, g1, g2, g3⟩ := hL.at_ hlt
      obtain ⟨b', off', ba', bn', bc', rfl, _, hb', _, _, hS', u0, u1, u2, u3⟩ := hM.at_ hlt
      have hk1 : (k : Int) < (n : Int) := by omega
      generalize nth l k = d at *
      go_wp2
      refine wp_region_grow (by kernel_rfl) (by kernel_rfl) ?_
      repeat (go_big_quiet_step (((go_at_call 50; refine grow_of (equalTexts_c d.names d.names ba ba' bn bn' bc bc' _ _ _ (hS.mono (X.fr (by (repeat (first | exact X.refl _ | assumption | refine X.ext ?_ _ | refine X.alloc ?_ _ | refine X.drew ?_))) _)) (hS'.mono (X.fr (by (repeat (first | exact X.refl _ | assumption | refine X.ext ?_ _ | refine X.alloc ?_ _ | refine X.drew ?_))) _)))))))
      refine wpQuiet_nil ?_
      rintro _ ⟨y, rfl⟩
      go_wp2
      go_roundw
      case rel => exact ⟨k + 1, by omega, by go_num, _, rfl⟩
      case measure => simp [intOf]; omega
    · obtain rfl : k = n := by omega
      go_wp2
      go_ret
      exact ⟨rfl, by (repeat (first | exact X.refl _ | assumption | refine X.ext ?_ _ | refine X.alloc ?_ _ | refine X.drew ?_))⟩

set_option maxRecDepth 100000 in
set_option maxHeartbeats 2000000 in
theorem equalDisk_c (l : List Fi) (kk : Int) (dl : List Di) (a a' da da' : Option Addr) (n c c' dn dc dc' B B' D D' : Nat) (w : World) (hL : FilesAt w B a n l) (hM : FilesAt w B' a' n l) (hD : DirsAt w D da dn dl) (hE : DirsAt w D' da' dn dl) :
    Calls Tryd.prog 9 #[.agg #[.slice a n c, .int .i64 kk, .slice da dn dc], .agg #[.slice a' n c', .int .i64 kk, .slice da' dn dc']] w fun e w' => e = .returned (.bool true) ∧ X w w' := by
  go_enter Tryd.func9, Tryd.ntmps9
  go_wp2_with fail
  refine calls_name (fun W0 hW0 => ?_)
  obtain ⟨hB1, hB2, hX⟩ := bx2 hW0
  clear hW0
  refine (equalTree_c l l a a' n n c c' B B' W0 (hL.mono (hX.fr _)) (hM.mono (hX.fr _))).mono ?_
  rintro _ w1 ⟨rfl, hx1⟩
  rw [decide_eq_true (rfl : l = l)]
  obtain ⟨lt1, q1, _⟩ := (hB1.x hx1).out
  obtain ⟨lt2, q2, _⟩ := (hB2.x hx1).out
  have t1 := q1 1
  have t2 := q1 2
  have u1 := q2 1
  have u2 := q2 2
  clear q1 q2
  go_wp2_with fail
  refine (equalDirs_c dl da da' dn dc dc' D D' w1 (hD.mono ((hX.trans hx1).fr _)) (hE.mono ((hX.trans hx1).fr _))).mono ?_
  rintro _ w2 ⟨rfl, hx2⟩
  go_wp2
  go_ret
  exact ⟨rfl, (hX.trans hx1).trans hx2⟩

end Go.Proofs.YtgjfjjhmgbemcaaDoor
