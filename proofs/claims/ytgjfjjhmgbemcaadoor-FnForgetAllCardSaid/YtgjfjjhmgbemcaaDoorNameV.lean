/- Names that are drawn are names. No condition but that the reader has not read too far. -/
import Derived.Test.YtgjfjjhmgbemcaaDoorId
import Derived.Test.YtgjfjjhmgbemcaaDoorIc
namespace Go.Proofs.YtgjfjjhmgbemcaaDoor
open Go.RowKit

set_option maxHeartbeats 400000 in
theorem aPartV_c (rb m : Nat) (w : World) (hr : Rdr w rb m) (hm : m + 1 ≤ 1000000000) :
    Calls Tryd.prog 81 #[.pointer (some ⟨rb, 0, none⟩)] w fun e w' => ∃ x : List UInt8, e = .returned (.string ⟨(x).toArray⟩) ∧ partB x = true ∧ x.length ≤ 1 ∧ Rdr w' rb (m + 1) ∧ Y rb w w' := by
  have hlt := hr.lt
  go_enter Tryd.func81, Tryd.ntmps81
  go_wp2_with fail
  refine (of_c rb m [[97], [98], [99], [97], [98]] _ _ _ (rb + 1) _ (hr.x (by (repeat (first | exact X.refl _ | assumption | refine X.ext ?_ _ | refine X.alloc ?_ _ | refine X.drew ?_)))) hm (strs_lit rfl (by omega) rfl rfl (by decide) (by decide)) (by omega) (by decide)).mono ?_
  rintro _ w1 ⟨x, rfl, hx, hr1, hy⟩
  go_wp2
  go_ret
  refine ⟨x, rfl, ?_, ?_, hr1, (Y.of_x (by (repeat (first | exact X.refl _ | assumption | refine X.ext ?_ _ | refine X.alloc ?_ _ | refine X.drew ?_)))).trans hy⟩
  all_goals
    revert hx
    simp only [List.mem_cons, List.mem_nil_iff, or_false]
    rintro (rfl | rfl | rfl | rfl | rfl) <;> decide

set_option maxHeartbeats 1000000 in
theorem aNameV_c (rb m : Nat) (w : World) (hr : Rdr w rb m) (hm : m + 4 ≤ 1000000000) :
    Calls Tryd.prog 77 #[.pointer (some ⟨rb, 0, none⟩)] w fun e w' => ∃ x : List UInt8, e = .returned (.string ⟨(x).toArray⟩) ∧ nameB x = true ∧ Rdr w' rb (m + 4) ∧ Y rb w w' := by
  go_enter Tryd.func77, Tryd.ntmps77
  go_wp2_with fail
  refine (aPartV_c rb m _ hr (by omega)).mono ?_
  rintro _ w1 ⟨x, rfl, hxp, hx, hr1, hy1⟩
  have hlt := hr1.lt
  go_wp2_with fail
  refine (one_c rb (m + 1) [0, 1, 0, 1, 2] _ _ _ (rb + 1) _ (hr1.x (by (repeat (first | exact X.refl _ | assumption | refine X.ext ?_ _ | refine X.alloc ?_ _ | refine X.drew ?_)))) (by omega) (ints_lit rfl (by omega) rfl rfl (by decide)) (by omega) (by decide)).mono ?_
  rintro _ w2 ⟨n, rfl, hn, hr2, hy2⟩
  have hy3 : Y rb w w2 := hy1.trans ((Y.of_x (by (repeat (first | exact X.refl _ | assumption | refine X.ext ?_ _ | refine X.alloc ?_ _ | refine X.drew ?_)))).trans hy2)
  clear hy2 hy1
  have hn2 : 0 ≤ n ∧ n ≤ 2 := by
    revert hn
    simp only [List.mem_cons, List.mem_nil_iff, or_false]
    omega
  obtain ⟨N, rfl⟩ : ∃ N : Nat, n = N := ⟨n.toNat, by omega⟩
  clear hn
  go_wp2
  go_loopw [3, 4] (fun v i wr => ∃ (k : Nat) (ps : List (List UInt8)), k ≤ N ∧ i = .int .i64 k ∧ v = .string ⟨(joinL ps).toArray⟩ ∧ ps ≠ [] ∧ (∀ p ∈ ps, partB p = true) ∧ ps.length ≤ 1 + (N - k) ∧ (joinL ps).length ≤ 1 + 2 * (N - k) ∧ Rdr wr rb (m + 2 + (N - k)) ∧ Y rb w wr) (fun _ i _ => (intOf i).toNat)
  case atStart => exact ⟨N, [x], by omega, rfl, by simp [joinL], by simp, fun p hp => by rw [List.mem_singleton.1 hp]; exact hxp, by simp, by simp [joinL]; omega, hr2.weak (by omega) (by omega), hy3⟩
  case round =>
    obtain ⟨k, ps, hk, rfl, rfl, hne, hps, hpl, hx, hr, hy⟩ := hrel
    by_cases h0 : 0 < k
    · go_wp2_with fail
      refine (aPartV_c rb _ _ hr (by omega)).mono ?_
      rintro _ w1 ⟨x', rfl, hxp', hx', hr1, hy1⟩
      have hj := joinL_snoc (l := ps) hne x'
      have Hj := Lib.hid hj
      clear hj
      have hjl : (joinL (ps ++ [x'])).length ≤ 1 + 2 * (N - (k - 1)) := by rw [Hj.out]; simp; omega
      go_wp2
      go_roundw
      case rel => exact ⟨k - 1, ps ++ [x'], by omega, by go_num, by rw [Hj.out], by simp, fun p hp => by
          rcases List.mem_append.1 hp with hp | hp
          · exact hps p hp
          · rw [List.mem_singleton.1 hp]; exact hxp', by rw [List.length_append, List.length_singleton]; omega, hjl, hr1.weak (by omega) (by omega), hy.trans hy1⟩
      case measure => simp [intOf]; omega
    · go_wp2
      go_ret
      exact ⟨joinL ps, rfl, nameB_join hne hps (by omega), hr.weak (by omega) (by omega), hy⟩

end Go.Proofs.YtgjfjjhmgbemcaaDoor
