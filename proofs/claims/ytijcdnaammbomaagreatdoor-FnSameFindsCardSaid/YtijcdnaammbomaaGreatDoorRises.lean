/- What the laws ask of lists of texts: whether they are equal, ascend, have a text, lie in another. No condition but lengths. -/
import Derived.Test.YtijcdnaammbomaaGreatDoorAsc
import Derived.Test.YtijcdnaammbomaaGreatDoorIa
import Derived.Test.YtijcdnaammbomaaGreatDoorIb
namespace Go.Proofs.YtijcdnaammbomaaGreatDoor
open Go.RowKit

set_option maxRecDepth 100000 in
set_option maxHeartbeats 1000000 in
theorem equalTexts_c (l m : List (List UInt8)) (a a' : Option Addr) (n n' c c' B B' : Nat) (w : World) (hL : StrsAt w B a n l) (hM : StrsAt w B' a' n' m) :
    Calls Tryz.prog 9 #[.slice a n c, .slice a' n' c'] w fun e w' => e = .returned (.bool (decide (l = m))) ∧ X w w' := by
  have h1 := hL.1
  have h2 := hM.1
  have hn := hL.2.1
  have Hl := Lib.hid h1
  have Hm := Lib.hid h2
  by_cases hne : n = n'
  · subst hne
    clear h1 h2
    go_enter Tryz.func9, Tryz.ntmps9
    go_wp2
    go_loopw [5] (fun i wr => ∃ k : Nat, k ≤ n ∧ i = .int .i64 k ∧ allN (fun k => nth l k == nth m k) k = true ∧ ∃ x, wr = World.ext w x) (fun i _ => n - (intOf i).toNat)
    case atStart => exact ⟨0, by omega, rfl, rfl, X.refl _⟩
    case round =>
      obtain ⟨k, hk, rfl, hall, x, rfl⟩ := hrel
      by_cases hlt : k < n
      · obtain ⟨b, off, rfl, _, hb, hc, _⟩ := hL.at_ hlt
        obtain ⟨b', off', rfl, _, hb', hc', _⟩ := hM.at_ hlt
        go_wp2
        refine wp_region_grow (by kernel_rfl) (by kernel_rfl) ?_
        repeat (go_big_quiet_step ((fail)))
        refine wpQuiet_nil ?_
        rintro _ ⟨y, rfl⟩
        go_wp2
        · go_ret
          have h0 : (nth l k != nth m k) = true := by first | assumption | (simp; assumption) | (simp; omega)
          have hs : ¬ nth l k = nth m k := by simpa using h0
          exact ⟨ret_boolW (by rw [decide_eq_false]; intro e; exact hs (by rw [e])), by (repeat (first | exact X.refl _ | assumption | refine X.ext ?_ _ | refine X.alloc ?_ _ | refine X.drew ?_))⟩
        · have h0 : (nth l k != nth m k) = false := by first | assumption | (simp; assumption) | (simp; omega)
          have hs : nth l k = nth m k := by simpa using h0
          go_roundw
          case rel => exact ⟨k + 1, by omega, by go_num, allN_next hall (by simp [hs]), _, rfl⟩
          case measure => simp [intOf]; omega
      · obtain rfl : k = n := by omega
        go_wp2
        go_ret
        refine ⟨ret_boolW ?_, by (repeat (first | exact X.refl _ | assumption | refine X.ext ?_ _ | refine X.alloc ?_ _ | refine X.drew ?_))⟩
        rw [decide_eq_true]
        exact nth_ext2 (by rw [← Hl.out, ← Hm.out]) fun j hj => by simpa using allN_iff.1 hall j (by rw [Hl.out]; exact hj)
  · go_enter Tryz.func9, Tryz.ntmps9
    go_wp2
    go_ret
    exact ⟨ret_boolW (by rw [decide_eq_false]; intro e; apply hne; rw [h1, h2, e]), by (repeat (first | exact X.refl _ | assumption | refine X.ext ?_ _ | refine X.alloc ?_ _ | refine X.drew ?_))⟩

set_option maxHeartbeats 400000 in
theorem textAtL_c (l : List (List UInt8)) (a : Option Addr) (n c B : Nat) (s : List UInt8) (w : World) (hS : StrsAt w B a n l) :
    Calls Tryz.prog 47 #[.slice a n c, .string ⟨(s).toArray⟩] w fun e w' => e = .returned (.int .i64 (firstN (fun k => nth l k == s) n)) ∧ X w w' := by
  have hn := hS.2.1
  go_enter Tryz.func47, Tryz.ntmps47
  go_wp2
  go_loop [5] (fun i => ∃ k : Nat, k ≤ n ∧ i = .int .i64 k ∧ anyN (fun k => nth l k == s) k = false) (fun i => n - (intOf i).toNat)
  case atStart => exact ⟨0, by omega, rfl, rfl⟩
  case round =>
    obtain ⟨k, hk, rfl, hno⟩ := hrel
    by_cases hlt : k < n
    · obtain ⟨b, off, rfl, _, hb, hc, _⟩ := hS.at_ hlt
      cases he : nth l k == s
      · have hs : ¬ nth l k = s := by simpa using he
        go_wp2
        go_round
        case rel => exact ⟨k + 1, by omega, by go_num, anyN_next hno he⟩
        case measure => simp [intOf]; omega
      · have hs : nth l k = s := by simpa using he
        go_wp2
        go_ret
        exact ⟨ret_int (firstN_some hno he hlt).symm, by (repeat (first | exact X.refl _ | assumption | refine X.ext ?_ _ | refine X.alloc ?_ _ | refine X.drew ?_))⟩
    · obtain rfl : k = n := by omega
      go_wp2
      go_ret
      exact ⟨ret_int (firstN_none hno).symm, by (repeat (first | exact X.refl _ | assumption | refine X.ext ?_ _ | refine X.alloc ?_ _ | refine X.drew ?_))⟩
set_option maxHeartbeats 400000 in
theorem hasTextL_c (l : List (List UInt8)) (a : Option Addr) (n c B : Nat) (s : List UInt8) (w : World) (hS : StrsAt w B a n l) :
    Calls Tryz.prog 15 #[.slice a n c, .string ⟨(s).toArray⟩] w fun e w' => e = .returned (.bool (decide (s ∈ l))) ∧ X w w' := by
  have hl := hS.1
  have hm : decide (0 ≤ firstN (fun k => nth l k == s) n) = decide (s ∈ l) := by
    rw [Bool.eq_iff_iff, decide_eq_true_iff, decide_eq_true_iff, firstN_nonneg, anyN_iff]
    constructor
    · rintro ⟨k, hk, h⟩
      have h : nth l k = s := by simpa using h
      rw [← h]
      exact nth_mem (by omega)
    · intro h
      obtain ⟨k, hk, e⟩ := List.getElem_of_mem h
      exact ⟨k, by omega, by rw [nth_eq hk, e]; simp⟩
  clear hl
  go_enter Tryz.func15, Tryz.ntmps15
  go_wp2_with (go_at_call 47; refine (textAtL_c l _ _ _ _ s _ hS).mono ?_; rintro _ _ ⟨rfl, x, rfl⟩)
  go_ret
  exact ⟨rfl, by (repeat (first | exact X.refl _ | assumption | refine X.ext ?_ _ | refine X.alloc ?_ _ | refine X.drew ?_))⟩
set_option maxHeartbeats 400000 in
theorem rises_c (l : List (List UInt8)) (a : Option Addr) (n c B : Nat) (w : World) (hS : StrsAt w B a n l) (hasc : asc l) :
    Calls Tryz.prog 17 #[.slice a n c] w fun e w' => e = .returned (.bool true) ∧ X w w' := by
  have hn := hS.2.1
  have hgt : ∀ j, j + 1 < n → Op.bytesLess (nth l (j + 1)) (nth l j) = false ∧ (nth l (j + 1) == nth l j) = false := fun j hj => by
    have hl := hS.1
    have h1 := List.pairwise_iff_getElem.1 hasc j (j + 1) (by omega) (by omega) (by omega)
    rw [← nth_eq, ← nth_eq] at h1
    refine ⟨?_, beq_eq_false_iff_ne.2 fun e => ?_⟩
    · rw [bytesLess_eq]
      have := List.lt_asymm h1
      simp [this]
    · rw [e] at h1
      exact List.lt_irrefl _ h1
  go_enter Tryz.func17, Tryz.ntmps17
  go_wp2
  go_loopw [3] (fun i wr => ∃ (k : Nat) (x : Xt), (k ≤ n ∨ n = 0 ∧ k = 1) ∧ 1 ≤ k ∧ i = .int .i64 k ∧ wr = World.ext w x) (fun i _ => n - (intOf i).toNat)
  case atStart => exact ⟨1, _, by omega, by omega, rfl, (World.ext_refl w).symm⟩
  case round =>
    obtain ⟨k, x, hk, hk1, rfl, rfl⟩ := hrel
    by_cases hlt : k < n
    · obtain ⟨j, rfl⟩ : ∃ j, k = j + 1 := ⟨k - 1, by omega⟩
      obtain ⟨b, off, rfl, _, hb, hc, _⟩ := hS.at_ hlt
      obtain ⟨b', off', ha, _, hb', hc', _⟩ := hS.at_ (k := j) (by omega)
      obtain ⟨rfl, rfl⟩ : b = b' ∧ off = off' := by simpa using ha
      clear ha
      have q1 : IntKind.i64.wrap (((j + 1 : Nat) : Int) - 1) = (j : Int) := by rw [show (((j + 1 : Nat) : Int) - 1) = (j : Int) by omega]; exact IntWalk.i64_in _ (by omega)
      obtain ⟨hcmp, hcmp2⟩ := hgt j hlt
      go_wp2
      refine wp_region_grow (by kernel_rfl) (by kernel_rfl) ?_
      repeat (go_big_quiet_step ((fail)))
      refine wpQuiet_nil ?_
      rintro _ ⟨y, rfl⟩
      go_wp2
      go_roundw
      case rel => exact ⟨j + 1 + 1, _, by omega, by omega, by first | go_num | (simp; done) | (simp; omega), rfl⟩
      case measure => simp [intOf]; omega
    · go_wp2
      go_ret
      exact ⟨rfl, by (repeat (first | exact X.refl _ | assumption | refine X.ext ?_ _ | refine X.alloc ?_ _ | refine X.drew ?_))⟩
set_option maxHeartbeats 400000 in
theorem withinTexts_c (l m : List (List UInt8)) (a a' : Option Addr) (n n' c c' B B' : Nat) (w : World) (hL : StrsAt w B a n l) (hM : StrsAt w B' a' n' m) (hin : ∀ x ∈ l, x ∈ m) :
    Calls Tryz.prog 18 #[.slice a n c, .slice a' n' c'] w fun e w' => e = .returned (.bool true) ∧ X w w' := by
  have hn := hL.2.1
  have Hl := Lib.hid hL.1
  go_enter Tryz.func18, Tryz.ntmps18
  go_wp2
  go_loopw [5] (fun i wr => ∃ (k : Nat) (x : Xt), k ≤ n ∧ i = .int .i64 k ∧ wr = World.ext w x) (fun i _ => n - (intOf i).toNat)
  case atStart => exact ⟨0, _, by omega, rfl, (World.ext_refl w).symm⟩
  case round =>
    obtain ⟨k, x, hk, rfl, rfl⟩ := hrel
    by_cases hlt : k < n
    · obtain ⟨b, off, rfl, _, hb, hc, _⟩ := hL.at_ hlt
      have hm := hin _ (nth_mem (l := l) (k := k) (by rw [← Hl.out]; exact hlt))
      go_wp2_with (go_at_call 15; refine (hasTextL_c m _ _ _ _ (nth l k) _ (hM.mono (X.fr (by (repeat (first | exact X.refl _ | assumption | refine X.ext ?_ _ | refine X.alloc ?_ _ | refine X.drew ?_))) _))).mono ?_; rintro _ _ ⟨rfl, hx⟩; rw [decide_eq_true hm]; obtain ⟨x2, rfl⟩ := hx.of_ext)
      go_roundw
      case rel => exact ⟨k + 1, _, by omega, by go_num, rfl⟩
      case measure => simp [intOf]; omega
    · go_wp2
      go_ret
      exact ⟨rfl, by (repeat (first | exact X.refl _ | assumption | refine X.ext ?_ _ | refine X.alloc ?_ _ | refine X.drew ?_))⟩

end Go.Proofs.YtijcdnaammbomaaGreatDoor
