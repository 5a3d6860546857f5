/- What the laws ask of lists of texts: whether they are equal, ascend, have a text, lie in another. No condition but lengths. -/
import Derived.Test.YtgjfjjhmgbemcaaDoorLc
import Derived.Test.YtgjfjjhmgbemcaaDoorIa
import Derived.Test.YtgjfjjhmgbemcaaDoorIb
namespace Go.Proofs.YtgjfjjhmgbemcaaDoor
open Go.RowKit

set_option maxRecDepth 100000 in
set_option maxHeartbeats 1000000 in
theorem equalTexts_c (l m : List (List UInt8)) (a a' : Option Addr) (n n' c c' B B' : Nat) (w : World) (hL : StrsAt w B a n l) (hM : StrsAt w B' a' n' m) :
    Calls Tryd.prog 50 #[.slice a n c, .slice a' n' c'] w fun e w' => e = .returned (.bool (decide (l = m))) ∧ X w w' := by
  have h1 := hL.1
  have h2 := hM.1
  have hn := hL.2.1
  have Hl := Lib.hid h1
  have Hm := Lib.hid h2
  by_cases hne : n = n'
  · subst hne
    clear h1 h2
    go_enter Tryd.func50, Tryd.ntmps50
    go_wp2
    go_loopw [5] (fun i wr => ∃ k : Nat, k ≤ n ∧ i = .int .i64 k ∧ allN (fun k => nth l k == nth m k) k = true ∧ ∃ x, wr = World.ext w x) (fun i _ => n - (intOf i).toNat)
    case atStart => exact ⟨0, by omega, rfl, rfl, X.refl _⟩
    case round =>
      obtain ⟨k, hk, rfl, hall, x, rfl⟩ := hrel
      by_cases hlt : k < n
      · obtain ⟨b, off, rfl, _, hb, hc, _⟩ := hL.at_ hlt
        obtain ⟨b', off', rfl, _, hb', hc', _⟩ := hM.at_ hlt
        go_wp2
        refine wp_region_grow (by kernel_rfl) (by kernel_rfl) ?_
        repeat (go_big_quiet_step ((fail)))
        refine wpQuiet_nil ?_
        rintro _ ⟨y, rfl⟩
        go_wp2
        · go_ret
          have h0 : (nth l k != nth m k) = true := by first | assumption | (simp; assumption) | (simp; omega)
          have hs : ¬ nth l k = nth m k := by simpa using h0
          exact ⟨ret_boolW (by rw [decide_eq_false]; intro e; exact hs (by rw [e])), by (repeat (first | exact X.refl _ | assumption | refine X.ext ?_ _ | refine X.alloc ?_ _ | refine X.drew ?_))⟩
        · have h0 : (nth l k != nth m k) = false := by first | assumption | (simp; assumption) | (simp; omega)
          have hs : nth l k = nth m k := by simpa using h0
          go_roundw
          case rel => exact ⟨k + 1, by omega, by go_num, allN_next hall (by simp [hs]), _, rfl⟩
          case measure => simp [intOf]; omega
      · obtain rfl : k = n := by omega
        go_wp2
        go_ret
        refine ⟨ret_boolW ?_, by (repeat (first | exact X.refl _ | assumption | refine X.ext ?_ _ | refine X.alloc ?_ _ | refine X.drew ?_))⟩
        rw [decide_eq_true]
        exact nth_ext2 (by rw [← Hl.out, ← Hm.out]) fun j hj => by simpa using allN_iff.1 hall j (by rw [Hl.out]; exact hj)
  · go_enter Tryd.func50, Tryd.ntmps50
    go_wp2
    go_ret
    exact ⟨ret_boolW (by rw [decide_eq_false]; intro e; apply hne; rw [h1, h2, e]), by (repeat (first | exact X.refl _ | assumption | refine X.ext ?_ _ | refine X.alloc ?_ _ | refine X.drew ?_))⟩

end Go.Proofs.YtgjfjjhmgbemcaaDoor
