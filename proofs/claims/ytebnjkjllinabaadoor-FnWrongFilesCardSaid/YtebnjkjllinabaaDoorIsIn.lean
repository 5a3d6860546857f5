/- The laws' own look-ups in lists of numbers: the walks. No condition but lengths. -/
import Derived.Test.YtebnjkjllinabaaDoorGb
import Derived.Test.YtebnjkjllinabaaDoorGa
namespace Go.Proofs.YtebnjkjllinabaaDoor
open Go.RowKit

set_option maxHeartbeats 400000 in
theorem isIn_c (l : List Int) (a : Option Addr) (n c B : Nat) (x : Int) (w : World) (hI : IntsAt w B a n l) :
    Calls Tryd.prog 29 #[.slice a n c, .int .i64 x] w fun e w' => e = .returned (.bool (decide (x ∈ l))) ∧ X w w' := by
  have hn := hI.2.1
  have hl := hI.1
  have Hl := Lib.hid hl
  clear hl
  go_enter Tryd.func29, Tryd.ntmps29
  go_wp2
  go_loop [5] (fun i => ∃ k : Nat, k ≤ n ∧ i = .int .i64 k ∧ anyN (fun k => nth l k == x) k = false) (fun i => n - (intOf i).toNat)
  case atStart => exact ⟨0, by omega, rfl, rfl⟩
  case round =>
    obtain ⟨k, hk, rfl, hno⟩ := hrel
    by_cases hlt : k < n
    · obtain ⟨b, off, rfl, _, hb, hc⟩ := hI.at_ hlt
      cases he : nth l k == x
      · go_wp2
        go_round
        case rel => exact ⟨k + 1, by omega, by go_num, anyN_next hno he⟩
        case measure => simp [intOf]; omega
      · have he' : nth l k = x := by simpa using he
        go_wp2
        go_ret
        exact ⟨ret_bool (by rw [eq_comm, decide_eq_true_iff, ← he']; exact nth_mem (by rw [← Hl.out]; exact hlt)), by (repeat (first | exact X.refl _ | assumption | refine X.ext ?_ _ | refine X.alloc ?_ _ | refine X.drew ?_))⟩
    · obtain rfl : k = n := by omega
      go_wp2
      go_ret
      refine ⟨ret_bool ?_, by (repeat (first | exact X.refl _ | assumption | refine X.ext ?_ _ | refine X.alloc ?_ _ | refine X.drew ?_))⟩
      rw [eq_comm, decide_eq_false_iff_not]
      intro hm
      obtain ⟨q, hq, e⟩ := List.getElem_of_mem hm
      have h1 := anyN_false.1 hno q (by rw [Hl.out]; exact hq)
      rw [nth_eq hq, e] at h1
      simp at h1
set_option maxHeartbeats 400000 in
theorem ascends_c (l : List Int) (a : Option Addr) (n c B : Nat) (w : World) (hI : IntsAt w B a n l) (hasc : ∀ k, k + 1 < n → nth l k < nth l (k + 1)) :
    Calls Tryd.prog 30 #[.slice a n c] w fun e w' => e = .returned (.bool true) ∧ X w w' := by
  have hn := hI.2.1
  go_enter Tryd.func30, Tryd.ntmps30
  go_wp2
  go_loopw [3] (fun i wr => ∃ (k : Nat) (x : Xt), (k ≤ n ∨ n = 0 ∧ k = 1) ∧ 1 ≤ k ∧ i = .int .i64 k ∧ wr = World.ext w x) (fun i _ => n - (intOf i).toNat)
  case atStart => exact ⟨1, _, by omega, by omega, rfl, (World.ext_refl w).symm⟩
  case round =>
    obtain ⟨k, x, hk, hk1, rfl, rfl⟩ := hrel
    by_cases hlt : k < n
    · obtain ⟨j, rfl⟩ : ∃ j, k = j + 1 := ⟨k - 1, by omega⟩
      obtain ⟨b, off, rfl, _, hb, hc⟩ := hI.at_ hlt
      obtain ⟨b', off', ha, _, hb', hc'⟩ := hI.at_ (k := j) (by omega)
      obtain ⟨rfl, rfl⟩ : b = b' ∧ off = off' := by simpa using ha
      clear ha
      have q1 : IntKind.i64.wrap (((j + 1 : Nat) : Int) - 1) = (j : Int) := by rw [show (((j + 1 : Nat) : Int) - 1) = (j : Int) by omega]; exact IntWalk.i64_in _ (by omega)
      have hcmp := hasc j hlt
      have hcmp2 : ¬ nth l (j + 1) ≤ nth l j := by omega
      go_wp2
      refine wp_region_grow (by kernel_rfl) (by kernel_rfl) ?_
      repeat (go_big_quiet_step ((fail)))
      refine wpQuiet_nil ?_
      rintro _ ⟨y, rfl⟩
      go_wp2
      go_roundw
      case rel => exact ⟨j + 1 + 1, _, by omega, by omega, by first | go_num | (simp; done) | (simp; omega), rfl⟩
      case measure => simp [intOf]; omega
    · go_wp2
      go_ret
      exact ⟨rfl, by (repeat (first | exact X.refl _ | assumption | refine X.ext ?_ _ | refine X.alloc ?_ _ | refine X.drew ?_))⟩

end Go.Proofs.YtebnjkjllinabaaDoor
