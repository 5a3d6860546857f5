/- Bodies compared, both sides: the walks. No condition but lengths. -/
import Derived.Test.YtjlooplpjliaiaaDoorEqS
namespace Go.Proofs.YtjlooplpjliaiaaDoor
open Go.RowKit

theorem st_ext {s t : St} (h0 : s.kind = t.kind) (h1 : s.mod = t.mod) (h2 : s.level = t.level) (h3 : s.name = t.name) (h4 : s.val = t.val) : s = t := by
  cases s
  cases t
  simp_all
set_option maxRecDepth 100000 in
set_option maxHeartbeats 2000000 in
theorem sameBody_c (l m : List St) (a a' : Option Addr) (n n' c c' B B' : Nat) (w : World) (hL : StmtsAt w B a n l) (hM : StmtsAt w B' a' n' m) :
    Calls Tryd.prog 67 #[.slice a n c, .slice a' n' c'] w fun e w' => e = .returned (.bool (decide (l = m))) ∧ X w w' := by
  have h1 := hL.1
  have h2 := hM.1
  have hn := hL.2.1
  have Hl := Lib.hid h1
  have Hm := Lib.hid h2
  by_cases hne : n = n'
  · subst hne
    clear h1 h2
    go_enter Tryd.func67, Tryd.ntmps67
    go_wp2
    go_loopw [5] (fun i wr => ∃ k : Nat, k ≤ n ∧ i = .int .i64 k ∧ allN (fun k => decide (nth l k = nth m k)) k = true ∧ ∃ x, wr = World.ext w x) (fun i _ => n - (intOf i).toNat)
    case atStart => exact ⟨0, by omega, rfl, rfl, X.refl _⟩
    case round =>
      obtain ⟨k, hk, rfl, hall, x, rfl⟩ := hrel
      by_cases hlt : k < n
      · obtain ⟨b, off, rfl, _, hb, _, g0, g1, g2, g3, g4⟩ := hL.at_ hlt
        obtain ⟨b', off', rfl, _, hb', _, u0, u1, u2, u3, u4⟩ := hM.at_ hlt
        have hk1 : (k : Int) < (n : Int) := by omega
        generalize hs : nth l k = s at *
        generalize ht : nth m k = t at *
        have Hs := Lib.hid hs
        have Ht := Lib.hid ht
        clear hs ht
        by_cases e0 : s.kind = t.kind
        case neg =>
          go_wp2
          go_region
          go_wp2
          go_ret
          exact ⟨ret_boolW (by rw [decide_eq_false]; intro e; exact e0 (by rw [← Hs.out, ← Ht.out, e])), by (repeat (first | exact X.refl _ | assumption | refine X.ext ?_ _ | refine X.alloc ?_ _ | refine X.drew ?_))⟩
        by_cases e1 : s.mod = t.mod
        case neg =>
          go_wp2
          go_region
          go_wp2
          go_ret
          exact ⟨ret_boolW (by rw [decide_eq_false]; intro e; exact e1 (by rw [← Hs.out, ← Ht.out, e])), by (repeat (first | exact X.refl _ | assumption | refine X.ext ?_ _ | refine X.alloc ?_ _ | refine X.drew ?_))⟩
        by_cases e2 : s.level = t.level
        case neg =>
          go_wp2
          go_region
          go_wp2
          go_ret
          exact ⟨ret_boolW (by rw [decide_eq_false]; intro e; exact e2 (by rw [← Hs.out, ← Ht.out, e])), by (repeat (first | exact X.refl _ | assumption | refine X.ext ?_ _ | refine X.alloc ?_ _ | refine X.drew ?_))⟩
        by_cases e3 : s.name = t.name
        case neg =>
          go_wp2
          go_region
          go_wp2
          go_ret
          exact ⟨ret_boolW (by rw [decide_eq_false]; intro e; exact e3 (by rw [← Hs.out, ← Ht.out, e])), by (repeat (first | exact X.refl _ | assumption | refine X.ext ?_ _ | refine X.alloc ?_ _ | refine X.drew ?_))⟩
        by_cases e4 : s.val = t.val
        case neg =>
          go_wp2
          go_region
          go_wp2
          go_ret
          exact ⟨ret_boolW (by rw [decide_eq_false]; intro e; exact e4 (by rw [← Hs.out, ← Ht.out, e])), by (repeat (first | exact X.refl _ | assumption | refine X.ext ?_ _ | refine X.alloc ?_ _ | refine X.drew ?_))⟩
        go_wp2
        go_region
        go_wp2
        go_roundw
        case rel => exact ⟨k + 1, by omega, by go_num, allN_next hall (decide_eq_true (by rw [Hs.out, Ht.out]; exact st_ext e0 e1 e2 e3 e4)), by (repeat (first | exact X.refl _ | assumption | refine X.ext ?_ _ | refine X.alloc ?_ _ | refine X.drew ?_))⟩
        case measure => simp [intOf]; omega
      · obtain rfl : k = n := by omega
        go_wp2
        go_ret
        refine ⟨ret_boolW ?_, by (repeat (first | exact X.refl _ | assumption | refine X.ext ?_ _ | refine X.alloc ?_ _ | refine X.drew ?_))⟩
        rw [decide_eq_true]
        exact nth_ext2 (by rw [← Hl.out, ← Hm.out]) fun j hj => of_decide_eq_true (allN_iff.1 hall j (by rw [Hl.out]; exact hj))
  · go_enter Tryd.func67, Tryd.ntmps67
    go_wp2
    go_ret
    exact ⟨ret_boolW (by rw [decide_eq_false]; intro e; apply hne; rw [h1, h2, e]), by (repeat (first | exact X.refl _ | assumption | refine X.ext ?_ _ | refine X.alloc ?_ _ | refine X.drew ?_))⟩

set_option maxRecDepth 100000 in
set_option maxHeartbeats 2000000 in
theorem EqualS_c (l m : List St) (a a' : Option Addr) (n n' c c' B B' : Nat) (w : World) (hL : StmtsAt w B a n l) (hM : StmtsAt w B' a' n' m) :
    Calls Tryd.prog 68 #[.slice a n c, .slice a' n' c'] w fun e w' => e = .returned (.bool (decide (l = m))) ∧ X w w' := by
  have h1 := hL.1
  have h2 := hM.1
  have hn := hL.2.1
  have Hl := Lib.hid h1
  have Hm := Lib.hid h2
  by_cases hne : n = n'
  · subst hne
    clear h1 h2
    go_enter Tryd.func68, Tryd.ntmps68
    go_wp2
    go_loopw [13] (fun i wr => ∃ k : Nat, k ≤ n ∧ i = .int .i64 k ∧ allN (fun k => decide (nth l k = nth m k)) k = true ∧ ∃ x, wr = World.ext w x) (fun i _ => n - (intOf i).toNat)
    case atStart => exact ⟨0, by omega, rfl, rfl, X.refl _⟩
    case round =>
      obtain ⟨k, hk, rfl, hall, x, rfl⟩ := hrel
      by_cases hlt : k < n
      · obtain ⟨b, off, rfl, _, hb, _, g0, g1, g2, g3, g4⟩ := hL.at_ hlt
        obtain ⟨b', off', rfl, _, hb', _, u0, u1, u2, u3, u4⟩ := hM.at_ hlt
        have hk1 : (k : Int) < (n : Int) := by omega
        generalize hs : nth l k = s at *
        generalize ht : nth m k = t at *
        have Hs := Lib.hid hs
        have Ht := Lib.hid ht
        clear hs ht
        by_cases e0 : s.kind = t.kind
        case neg =>
          go_wp2
          go_region
          go_wp2
          go_ret
          exact ⟨ret_boolW (by rw [decide_eq_false]; intro e; exact e0 (by rw [← Hs.out, ← Ht.out, e])), by (repeat (first | exact X.refl _ | assumption | refine X.ext ?_ _ | refine X.alloc ?_ _ | refine X.drew ?_))⟩
        by_cases e1 : s.mod = t.mod
        case neg =>
          go_wp2
          go_region
          go_wp2
          go_ret
          exact ⟨ret_boolW (by rw [decide_eq_false]; intro e; exact e1 (by rw [← Hs.out, ← Ht.out, e])), by (repeat (first | exact X.refl _ | assumption | refine X.ext ?_ _ | refine X.alloc ?_ _ | refine X.drew ?_))⟩
        by_cases e2 : s.level = t.level
        case neg =>
          go_wp2
          go_region
          go_wp2
          go_ret
          exact ⟨ret_boolW (by rw [decide_eq_false]; intro e; exact e2 (by rw [← Hs.out, ← Ht.out, e])), by (repeat (first | exact X.refl _ | assumption | refine X.ext ?_ _ | refine X.alloc ?_ _ | refine X.drew ?_))⟩
        by_cases e3 : s.name = t.name
        case neg =>
          go_wp2
          go_region
          go_wp2
          go_ret
          exact ⟨ret_boolW (by rw [decide_eq_false]; intro e; exact e3 (by rw [← Hs.out, ← Ht.out, e])), by (repeat (first | exact X.refl _ | assumption | refine X.ext ?_ _ | refine X.alloc ?_ _ | refine X.drew ?_))⟩
        by_cases e4 : s.val = t.val
        case neg =>
          go_wp2
          go_region
          go_wp2
          go_ret
          exact ⟨ret_boolW (by rw [decide_eq_false]; intro e; exact e4 (by rw [← Hs.out, ← Ht.out, e])), by (repeat (first | exact X.refl _ | assumption | refine X.ext ?_ _ | refine X.alloc ?_ _ | refine X.drew ?_))⟩
        go_wp2
        go_region
        go_wp2
        go_roundw
        case rel => exact ⟨k + 1, by omega, by go_num, allN_next hall (decide_eq_true (by rw [Hs.out, Ht.out]; exact st_ext e0 e1 e2 e3 e4)), by (repeat (first | exact X.refl _ | assumption | refine X.ext ?_ _ | refine X.alloc ?_ _ | refine X.drew ?_))⟩
        case measure => simp [intOf]; omega
      · obtain rfl : k = n := by omega
        go_wp2
        go_ret
        refine ⟨ret_boolW ?_, by (repeat (first | exact X.refl _ | assumption | refine X.ext ?_ _ | refine X.alloc ?_ _ | refine X.drew ?_))⟩
        rw [decide_eq_true]
        exact nth_ext2 (by rw [← Hl.out, ← Hm.out]) fun j hj => of_decide_eq_true (allN_iff.1 hall j (by rw [Hl.out]; exact hj))
  · go_enter Tryd.func68, Tryd.ntmps68
    go_wp2
    go_ret
    exact ⟨ret_boolW (by rw [decide_eq_false]; intro e; apply hne; rw [h1, h2, e]), by (repeat (first | exact X.refl _ | assumption | refine X.ext ?_ _ | refine X.alloc ?_ _ | refine X.drew ?_))⟩

end Go.Proofs.YtjlooplpjliaiaaDoor
