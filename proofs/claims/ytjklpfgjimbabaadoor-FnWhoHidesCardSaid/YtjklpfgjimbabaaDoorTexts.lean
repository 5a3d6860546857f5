/- What the laws ask of lists: whether a text is there, whether numbers ascend. No condition. -/
import Derived.Test.YtjklpfgjimbabaaDoorHidden
namespace Go.Proofs.YtjklpfgjimbabaaDoor
open Go.RowKit

set_option maxHeartbeats 400000 in
theorem textAt_c (l : List (List UInt8)) (a : Option Addr) (n c B : Nat) (s : List UInt8) (w : World) (hS : StrsAt w B a n l) :
    Calls Tryd.prog 78 #[.slice a n c, .string ⟨(s).toArray⟩] w fun e w' => e = .returned (.int .i64 (firstN (fun k => nth l k == s) n)) ∧ X w w' := by
  have hn := hS.2.1
  go_enter Tryd.func78, Tryd.ntmps78
  go_wp2
  go_loop [5] (fun i => ∃ k : Nat, k ≤ n ∧ i = .int .i64 k ∧ anyN (fun k => nth l k == s) k = false) (fun i => n - (intOf i).toNat)
  case atStart => exact ⟨0, by omega, rfl, rfl⟩
  case round =>
    obtain ⟨k, hk, rfl, hno⟩ := hrel
    by_cases hlt : k < n
    · obtain ⟨b, off, rfl, _, hb, hc, _⟩ := hS.at_ hlt
      cases he : nth l k == s
      · have hs : ¬ nth l k = s := by simpa using he
        go_wp2
        go_round
        case rel => exact ⟨k + 1, by omega, by go_num, anyN_next hno he⟩
        case measure => simp [intOf]; omega
      · have hs : nth l k = s := by simpa using he
        go_wp2
        go_ret
        exact ⟨ret_int (firstN_some hno he hlt).symm, by (repeat (first | exact X.refl _ | assumption | refine X.ext ?_ _ | refine X.alloc ?_ _ | refine X.drew ?_))⟩
    · obtain rfl : k = n := by omega
      go_wp2
      go_ret
      exact ⟨ret_int (firstN_none hno).symm, by (repeat (first | exact X.refl _ | assumption | refine X.ext ?_ _ | refine X.alloc ?_ _ | refine X.drew ?_))⟩
set_option maxHeartbeats 400000 in
theorem hasText_c (l : List (List UInt8)) (a : Option Addr) (n c B : Nat) (s : List UInt8) (w : World) (hS : StrsAt w B a n l) :
    Calls Tryd.prog 37 #[.slice a n c, .string ⟨(s).toArray⟩] w fun e w' => e = .returned (.bool (decide (s ∈ l))) ∧ X w w' := by
  have hl := hS.1
  have hm : decide (0 ≤ firstN (fun k => nth l k == s) n) = decide (s ∈ l) := by
    rw [Bool.eq_iff_iff, decide_eq_true_iff, decide_eq_true_iff, firstN_nonneg, anyN_iff]
    constructor
    · rintro ⟨k, hk, h⟩
      have h : nth l k = s := by simpa using h
      rw [← h]
      exact nth_mem (by omega)
    · intro h
      obtain ⟨k, hk, e⟩ := List.getElem_of_mem h
      exact ⟨k, by omega, by rw [nth_eq hk, e]; simp⟩
  clear hl
  go_enter Tryd.func37, Tryd.ntmps37
  go_wp2_with (go_at_call 78; refine (textAt_c l _ _ _ _ s _ hS).mono ?_; rintro _ _ ⟨rfl, x, rfl⟩)
  go_ret
  exact ⟨rfl, by (repeat (first | exact X.refl _ | assumption | refine X.ext ?_ _ | refine X.alloc ?_ _ | refine X.drew ?_))⟩
set_option maxHeartbeats 400000 in
theorem ascends_c (l : List Int) (a : Option Addr) (n c B : Nat) (w : World) (hI : IntsAt w B a n l) (hasc : ∀ k, k + 1 < n → nth l k < nth l (k + 1)) :
    Calls Tryd.prog 38 #[.slice a n c] w fun e w' => e = .returned (.bool true) ∧ X w w' := by
  have hn := hI.2.1
  go_enter Tryd.func38, Tryd.ntmps38
  go_wp2
  go_loopw [3] (fun i wr => ∃ (k : Nat) (x : Xt), (k ≤ n ∨ n = 0 ∧ k = 1) ∧ 1 ≤ k ∧ i = .int .i64 k ∧ wr = World.ext w x) (fun i _ => n - (intOf i).toNat)
  case atStart => exact ⟨1, _, by omega, by omega, rfl, (World.ext_refl w).symm⟩
  case round =>
    obtain ⟨k, x, hk, hk1, rfl, rfl⟩ := hrel
    by_cases hlt : k < n
    · obtain ⟨j, rfl⟩ : ∃ j, k = j + 1 := ⟨k - 1, by omega⟩
      obtain ⟨b, off, rfl, _, hb, hc⟩ := hI.at_ hlt
      obtain ⟨b', off', ha, _, hb', hc'⟩ := hI.at_ (k := j) (by omega)
      obtain ⟨rfl, rfl⟩ : b = b' ∧ off = off' := by simpa using ha
      clear ha
      have q1 : IntKind.i64.wrap (((j + 1 : Nat) : Int) - 1) = (j : Int) := by rw [show (((j + 1 : Nat) : Int) - 1) = (j : Int) by omega]; exact IntWalk.i64_in _ (by omega)
      have hcmp := hasc j hlt
      have hcmp2 : ¬ nth l (j + 1) ≤ nth l j := by omega
      go_wp2
      refine wp_region_grow (by kernel_rfl) (by kernel_rfl) ?_
      repeat (go_big_quiet_step ((fail)))
      refine wpQuiet_nil ?_
      rintro _ ⟨y, rfl⟩
      go_wp2
      go_roundw
      case rel => exact ⟨j + 1 + 1, _, by omega, by omega, by first | go_num | (simp; done) | (simp; omega), rfl⟩
      case measure => simp [intOf]; omega
    · go_wp2
      go_ret
      exact ⟨rfl, by (repeat (first | exact X.refl _ | assumption | refine X.ext ?_ _ | refine X.alloc ?_ _ | refine X.drew ?_))⟩

/-! ### The plain law of hidden files -/
def nmN (l : List Fi) (path : List Int) (n : Nat) : List (List UInt8) := ((List.range n).filter fun i => !hidB l path i).map fun i => moduleOf (nth l i)
theorem nmN_next {l : List Fi} {path : List Int} {k : Nat} : nmN l path (k + 1) = if hidB l path k then nmN l path k else nmN l path k ++ [moduleOf (nth l k)] := by
  cases h : hidB l path k <;> simp [nmN, List.range_succ, List.filter_append, h]
theorem nmN_len {l : List Fi} {path : List Int} {n : Nat} : (nmN l path n).length ≤ n := by
  have := List.length_filter_le (fun i => !hidB l path i) (List.range n)
  simpa [nmN] using this
theorem nmN_mem {l : List Fi} {path : List Int} {n : Nat} {s : List UInt8} (h : s ∈ nmN l path n) : ∃ i, i < n ∧ hidB l path i = false ∧ moduleOf (nth l i) = s := by
  simp only [nmN, List.mem_map, List.mem_filter, List.mem_range] at h
  obtain ⟨i, ⟨h1, h2⟩, h3⟩ := h
  exact ⟨i, h1, by simpa using h2, h3⟩
theorem nmN_new {l : List Fi} {path : List Int} {k : Nat} (h : hidB l path k = false) : decide (moduleOf (nth l k) ∈ nmN l path k) = false := by
  rw [decide_eq_false_iff_not]
  intro hm
  obtain ⟨i, hi, h1, h2⟩ := nmN_mem hm
  have e1 : (specB l path (moduleOf (nth l i))).file = (i : Int) := by simpa [hidB] using h1
  have e2 : (specB l path (moduleOf (nth l k))).file = (k : Int) := by simpa [hidB] using h
  rw [h2, e2] at e1
  omega
theorem hidN_mem {l : List Fi} {path : List Int} {n k : Nat} (hk : k < n) : decide ((k : Int) ∈ hidN l path n) = hidB l path k := by
  rw [Bool.eq_iff_iff, decide_eq_true_iff]
  simp only [hidN, List.mem_map, List.mem_filter, List.mem_range]
  constructor
  · rintro ⟨i, ⟨_, h2⟩, h3⟩
    obtain rfl : i = k := by omega
    exact h2
  · exact fun h => ⟨k, ⟨hk, h⟩, rfl⟩
theorem hidN_asc (l : List Fi) (path : List Int) : ∀ n, (∀ x ∈ hidN l path n, x < (n : Int)) ∧ ∀ k, k + 1 < (hidN l path n).length → nth (hidN l path n) k < nth (hidN l path n) (k + 1)
  | 0 => ⟨by simp [hidN], by simp [hidN]⟩
  | n + 1 => by
    obtain ⟨h1, h2⟩ := hidN_asc l path n
    rw [hidN_next]
    cases hd : hidB l path n
    · simp only [Bool.false_eq_true, if_false]
      exact ⟨fun x hx => by have := h1 x hx; omega, h2⟩
    · simp only [if_true]
      refine ⟨fun x hx => ?_, fun k hk => ?_⟩
      · rcases List.mem_append.1 hx with hx | hx
        · have := h1 x hx; omega
        · obtain rfl : x = (n : Int) := by simpa using hx
          omega
      · rw [List.length_append, List.length_singleton] at hk
        rw [nth_append_left (by omega)]
        by_cases hk2 : k + 1 < (hidN l path n).length
        · rw [nth_append_left hk2]; exact h2 k hk2
        · have e : k + 1 = (hidN l path n).length + 0 := by omega
          rw [e, nth_append_right]
          exact h1 _ (nth_mem (by omega))

end Go.Proofs.YtjklpfgjimbabaaDoor
