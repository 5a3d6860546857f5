/- Statements and bodies: which are valid. No condition but lengths of texts. -/
import Derived.Test.YtjlooplpjliaiaaDoorNames
namespace Go.Proofs.YtjlooplpjliaiaaDoor
open Go.RowKit

def stB (s : St) : Bool :=
  if s.kind = 0 ∨ s.kind = 2 then nameB s.mod && s.level == 0 && s.name.isEmpty && s.val == 0
  else if s.kind = 1 then pkgB s.mod && rangeB s.level 0 3 && (!s.mod.isEmpty || decide (0 < s.level)) && partB s.name && s.val == 0
  else if s.kind = 3 then s.mod.isEmpty && s.level == 0 && partB s.name && rangeB s.val 0 99
  else if s.kind = 4 then s.mod.isEmpty && s.level == 0 && partB s.name && s.val == 0
  else if s.kind = 5 then s.mod.isEmpty && s.level == 0 && s.name.isEmpty && s.val == 0
  else false
theorem nameB_nil : nameB [] = false := by decide
theorem pkgB_nil : pkgB [] = true := rfl

set_option maxHeartbeats 1000000 in
theorem validStmt_c (s : St) (w : World) (hs : Oks s) : Calls Tryd.prog 97 #[.agg #[.int .i64 (s).kind, .string ⟨(s).mod.toArray⟩, .int .i64 (s).level, .string ⟨(s).name.toArray⟩, .int .i64 (s).val]] w fun e w' => e = .returned (.bool (stB s)) ∧ X w w' := by
  obtain ⟨kind, mod, level, name, val⟩ := s
  obtain ⟨h1, h2⟩ : mod.length ≤ 1048576 ∧ name.length ≤ 1048576 := hs
  by_cases k0 : kind = 0
  · subst k0
    go_enter Tryd.func97, Tryd.ntmps97
    go_wp2_with (go_at_call 77; refine (validName_c _ _ (by omega)).mono ?_; rintro _ _ ⟨rfl, ⟨x, rfl⟩⟩)
    all_goals go_ret
    all_goals refine ⟨ret_bool ?_, by (repeat (first | exact X.refl _ | assumption | refine X.ext ?_ _ | refine X.alloc ?_ _ | refine X.drew ?_))⟩
    all_goals simp [stB, *]
  by_cases k2 : kind = 2
  · subst k2
    clear k0
    go_enter Tryd.func97, Tryd.ntmps97
    go_wp2_with (go_at_call 77; refine (validName_c _ _ (by omega)).mono ?_; rintro _ _ ⟨rfl, ⟨x, rfl⟩⟩)
    all_goals go_ret
    all_goals refine ⟨ret_bool ?_, by (repeat (first | exact X.refl _ | assumption | refine X.ext ?_ _ | refine X.alloc ?_ _ | refine X.drew ?_))⟩
    all_goals simp [stB, *]
  by_cases k1 : kind = 1
  · subst k1
    clear k0 k2
    go_enter Tryd.func97, Tryd.ntmps97
    go_wp2_with (first | (go_at_call 79; refine (validPackage_c _ _ (by omega)).mono ?_; rintro _ _ ⟨rfl, ⟨x, rfl⟩⟩) | (go_at_call 80; refine (validPart_c _ _ (by omega)).mono ?_; rintro _ _ ⟨rfl, rfl⟩) | (go_at_call 36; refine (inRange_c _ _ _ _).mono ?_; rintro _ _ ⟨rfl, rfl⟩))
    all_goals go_ret
    all_goals refine ⟨ret_bool ?_, by (repeat (first | exact X.refl _ | assumption | refine X.ext ?_ _ | refine X.alloc ?_ _ | refine X.drew ?_))⟩
    all_goals simp [stB, pkgB_nil, *]
    all_goals omega
  by_cases k3 : kind = 3
  · subst k3
    clear k0 k1 k2
    go_enter Tryd.func97, Tryd.ntmps97
    go_wp2_with (first | (go_at_call 80; refine (validPart_c _ _ (by omega)).mono ?_; rintro _ _ ⟨rfl, rfl⟩) | (go_at_call 36; refine (inRange_c _ _ _ _).mono ?_; rintro _ _ ⟨rfl, rfl⟩))
    all_goals go_ret
    all_goals refine ⟨ret_bool ?_, by (repeat (first | exact X.refl _ | assumption | refine X.ext ?_ _ | refine X.alloc ?_ _ | refine X.drew ?_))⟩
    all_goals simp [stB, *]
  by_cases k4 : kind = 4
  · subst k4
    clear k0 k1 k2 k3
    go_enter Tryd.func97, Tryd.ntmps97
    go_wp2_with (first | (go_at_call 80; refine (validPart_c _ _ (by omega)).mono ?_; rintro _ _ ⟨rfl, rfl⟩) | (go_at_call 36; refine (inRange_c _ _ _ _).mono ?_; rintro _ _ ⟨rfl, rfl⟩))
    all_goals go_ret
    all_goals refine ⟨ret_bool ?_, by (repeat (first | exact X.refl _ | assumption | refine X.ext ?_ _ | refine X.alloc ?_ _ | refine X.drew ?_))⟩
    all_goals simp [stB, *]
  by_cases k5 : kind = 5
  · subst k5
    clear k0 k1 k2 k3 k4
    go_enter Tryd.func97, Tryd.ntmps97
    go_wp2
    all_goals go_ret
    all_goals refine ⟨ret_bool ?_, by (repeat (first | exact X.refl _ | assumption | refine X.ext ?_ _ | refine X.alloc ?_ _ | refine X.drew ?_))⟩
    all_goals simp [stB, *]
  · have e0 := beq_eq_false_iff_ne.2 k0
    have e1 := beq_eq_false_iff_ne.2 k1
    have e2 := beq_eq_false_iff_ne.2 k2
    have e3 := beq_eq_false_iff_ne.2 k3
    have e4 := beq_eq_false_iff_ne.2 k4
    have e5 := beq_eq_false_iff_ne.2 k5
    go_enter Tryd.func97, Tryd.ntmps97
    go_wp2
    all_goals go_ret
    all_goals refine ⟨ret_bool ?_, by (repeat (first | exact X.refl _ | assumption | refine X.ext ?_ _ | refine X.alloc ?_ _ | refine X.drew ?_))⟩
    all_goals simp [stB, *]


set_option maxHeartbeats 1000000 in
theorem stmtOk_c (s : St) (w : World) (hs : Oks s) (hG : Gm w) : Calls Tryd.prog 99 #[.agg #[.int .i64 (s).kind, .string ⟨(s).mod.toArray⟩, .int .i64 (s).level, .string ⟨(s).name.toArray⟩, .int .i64 (s).val]] w fun e w' => e = .returned (.bool (stB s)) ∧ X w w' := by
  obtain ⟨kind, mod, level, name, val⟩ := s
  obtain ⟨h1, h2⟩ : mod.length ≤ 1048576 ∧ name.length ≤ 1048576 := hs
  by_cases k0 : kind = 0
  · subst k0
    go_enter Tryd.func99, Tryd.ntmps99
    go_wp2_with (go_at_call 83; refine (ValidName_c _ _ (by omega) (hG.mono (by (repeat (first | exact X.refl _ | assumption | refine X.ext ?_ _ | refine X.alloc ?_ _ | refine X.drew ?_))))).mono ?_; rintro _ _ ⟨rfl, ⟨x, rfl⟩⟩)
    all_goals go_ret
    all_goals refine ⟨ret_bool ?_, by (repeat (first | exact X.refl _ | assumption | refine X.ext ?_ _ | refine X.alloc ?_ _ | refine X.drew ?_))⟩
    all_goals simp [stB, *]
  by_cases k2 : kind = 2
  · subst k2
    clear k0
    go_enter Tryd.func99, Tryd.ntmps99
    go_wp2_with (first | (go_at_call 86; refine (ValidPart_c _ _ (by omega)).mono ?_; rintro _ _ ⟨rfl, rfl⟩) | (go_at_call 73; refine (within_c _ _ _ _).mono ?_; rintro _ _ ⟨rfl, rfl⟩) | (go_at_call 83; refine (ValidName_c _ _ (by omega) (hG.mono (by (repeat (first | exact X.refl _ | assumption | refine X.ext ?_ _ | refine X.alloc ?_ _ | refine X.drew ?_))))).mono ?_; rintro _ _ ⟨rfl, ⟨x, rfl⟩⟩))
    all_goals go_ret
    all_goals refine ⟨ret_bool ?_, by (repeat (first | exact X.refl _ | assumption | refine X.ext ?_ _ | refine X.alloc ?_ _ | refine X.drew ?_))⟩
    all_goals simp [stB, *]
  by_cases k1 : kind = 1
  · subst k1
    clear k0 k2
    have hp : pkgB mod = (nameB mod || mod.isEmpty) := Bool.or_comm _ _
    have Hp := Lib.hid hp
    clear hp
    go_enter Tryd.func99, Tryd.ntmps99
    go_wp2_with (first | (go_at_call 86; refine (ValidPart_c _ _ (by omega)).mono ?_; rintro _ _ ⟨rfl, rfl⟩) | (go_at_call 73; refine (within_c _ _ _ _).mono ?_; rintro _ _ ⟨rfl, rfl⟩) | (go_at_call 83; refine (ValidName_c _ _ (by omega) (hG.mono (by (repeat (first | exact X.refl _ | assumption | refine X.ext ?_ _ | refine X.alloc ?_ _ | refine X.drew ?_))))).mono ?_; rintro _ _ ⟨rfl, ⟨x, rfl⟩⟩))
    all_goals go_ret
    all_goals refine ⟨ret_bool ?_, by (repeat (first | exact X.refl _ | assumption | refine X.ext ?_ _ | refine X.alloc ?_ _ | refine X.drew ?_))⟩
    all_goals simp [stB, Hp.out, pkgB_nil, *]
    all_goals first
      | (refine Or.inl (fun h => ?_); have h3 : nameB mod = true := by assumption
         rw [h, nameB_nil] at h3; exact absurd h3 Bool.false_ne_true)
      | omega
  by_cases k3 : kind = 3
  · subst k3
    clear k0 k1 k2
    go_enter Tryd.func99, Tryd.ntmps99
    go_wp2
    go_region
    go_wp2_with (first | (go_at_call 86; refine (ValidPart_c _ _ (by omega)).mono ?_; rintro _ _ ⟨rfl, rfl⟩) | (go_at_call 73; refine (within_c _ _ _ _).mono ?_; rintro _ _ ⟨rfl, rfl⟩) | (go_at_call 83; refine (ValidName_c _ _ (by omega) (hG.mono (by (repeat (first | exact X.refl _ | assumption | refine X.ext ?_ _ | refine X.alloc ?_ _ | refine X.drew ?_))))).mono ?_; rintro _ _ ⟨rfl, ⟨x, rfl⟩⟩))
    all_goals go_ret
    all_goals refine ⟨ret_bool ?_, by (repeat (first | exact X.refl _ | assumption | refine X.ext ?_ _ | refine X.alloc ?_ _ | refine X.drew ?_))⟩
    all_goals simp [stB, *]
  by_cases k4 : kind = 4
  · subst k4
    clear k0 k1 k2 k3
    go_enter Tryd.func99, Tryd.ntmps99
    go_wp2_with (first | (go_at_call 86; refine (ValidPart_c _ _ (by omega)).mono ?_; rintro _ _ ⟨rfl, rfl⟩) | (go_at_call 73; refine (within_c _ _ _ _).mono ?_; rintro _ _ ⟨rfl, rfl⟩) | (go_at_call 83; refine (ValidName_c _ _ (by omega) (hG.mono (by (repeat (first | exact X.refl _ | assumption | refine X.ext ?_ _ | refine X.alloc ?_ _ | refine X.drew ?_))))).mono ?_; rintro _ _ ⟨rfl, ⟨x, rfl⟩⟩))
    all_goals go_ret
    all_goals refine ⟨ret_bool ?_, by (repeat (first | exact X.refl _ | assumption | refine X.ext ?_ _ | refine X.alloc ?_ _ | refine X.drew ?_))⟩
    all_goals simp [stB, *]
  by_cases k5 : kind = 5
  · subst k5
    clear k0 k1 k2 k3 k4
    go_enter Tryd.func99, Tryd.ntmps99
    go_wp2
    all_goals go_ret
    all_goals refine ⟨ret_bool ?_, by (repeat (first | exact X.refl _ | assumption | refine X.ext ?_ _ | refine X.alloc ?_ _ | refine X.drew ?_))⟩
    all_goals simp [stB, *]
  · have e0 := beq_eq_false_iff_ne.2 k0
    have e1 := beq_eq_false_iff_ne.2 k1
    have e2 := beq_eq_false_iff_ne.2 k2
    have e3 := beq_eq_false_iff_ne.2 k3
    have e4 := beq_eq_false_iff_ne.2 k4
    have e5 := beq_eq_false_iff_ne.2 k5
    go_enter Tryd.func99, Tryd.ntmps99
    go_wp2
    all_goals go_ret
    all_goals refine ⟨ret_bool ?_, by (repeat (first | exact X.refl _ | assumption | refine X.ext ?_ _ | refine X.alloc ?_ _ | refine X.drew ?_))⟩
    all_goals simp [stB, *]

def bodyB (l : List St) : Bool := allN (fun k => stB (nth l k)) l.length && decide (l.length ≤ 8)
set_option maxHeartbeats 400000 in
theorem validBody_c (l : List St) (a : Option Addr) (n c B : Nat) (w : World) (hS : StmtsAt w B a n l) : Calls Tryd.prog 78 #[.slice a n c] w fun e w' => e = .returned (.bool (bodyB l)) ∧ X w w' := by
  have hn := hS.2.1
  go_enter Tryd.func78, Tryd.ntmps78
  go_wp2
  go_loopw [3] (fun i wr => ∃ k : Nat, k ≤ n ∧ i = .int .i64 k ∧ allN (fun k => stB (nth l k)) k = true ∧ ∃ x, wr = World.ext w x) (fun i _ => n - (intOf i).toNat)
  case atStart => exact ⟨0, by omega, rfl, rfl, X.refl _⟩
  case round =>
    obtain ⟨k, hk, rfl, hall, x, rfl⟩ := hrel
    by_cases hlt : k < n
    · obtain ⟨b, off, rfl, _, hb, hok, h0, h1, h2, h3, h4⟩ := hS.at_ hlt
      cases hv : stB (nth l k)
      all_goals
        go_wp2_with (go_at_call 97; refine (validStmt_c _ _ hok).mono ?_; rintro _ _ ⟨rfl, hx⟩; obtain ⟨y, rfl⟩ := hx.of_ext)
      · go_ret
        exact ⟨ret_bool (by rw [bodyB, allN_not hv (by have := hS.1; omega), Bool.false_and]), by (repeat (first | exact X.refl _ | assumption | refine X.ext ?_ _ | refine X.alloc ?_ _ | refine X.drew ?_))⟩
      · go_roundw
        case rel => exact ⟨k + 1, by omega, by go_num, allN_next hall hv, _, rfl⟩
        case measure => simp [intOf]; omega
    · obtain rfl : k = n := by omega
      go_wp2
      go_ret
      exact ⟨ret_bool (by rw [bodyB, ← hS.1, hall, Bool.true_and]; exact decide_eq_decide.2 (by omega)), by (repeat (first | exact X.refl _ | assumption | refine X.ext ?_ _ | refine X.alloc ?_ _ | refine X.drew ?_))⟩
set_option maxHeartbeats 400000 in
theorem ValidBody_c (l : List St) (a : Option Addr) (n c B : Nat) (w : World) (hS : StmtsAt w B a n l) (hG : Gm w) : Calls Tryd.prog 84 #[.slice a n c] w fun e w' => e = .returned (.bool (bodyB l)) ∧ X w w' := by
  have hn := hS.2.1
  go_enter Tryd.func84, Tryd.ntmps84
  go_wp2
  go_loopw [7] (fun i wr => ∃ k : Nat, k ≤ n ∧ i = .int .i64 k ∧ allN (fun k => stB (nth l k)) k = true ∧ ∃ x, wr = World.ext w x) (fun i _ => n - (intOf i).toNat)
  case atStart => exact ⟨0, by omega, rfl, rfl, X.refl _⟩
  case round =>
    obtain ⟨k, hk, rfl, hall, x, rfl⟩ := hrel
    by_cases hlt : k < n
    · obtain ⟨b, off, rfl, _, hb, hok, h0, h1, h2, h3, h4⟩ := hS.at_ hlt
      cases hv : stB (nth l k)
      all_goals
        go_wp2_with (go_at_call 99; refine (stmtOk_c _ _ hok (hG.mono (by (repeat (first | exact X.refl _ | assumption | refine X.ext ?_ _ | refine X.alloc ?_ _ | refine X.drew ?_))))).mono ?_; rintro _ _ ⟨rfl, y, rfl⟩)
      · go_ret
        exact ⟨ret_bool (by rw [bodyB, allN_not hv (by have := hS.1; omega), Bool.false_and]), by (repeat (first | exact X.refl _ | assumption | refine X.ext ?_ _ | refine X.alloc ?_ _ | refine X.drew ?_))⟩
      · go_outline
        go_roundw
        case rel => exact ⟨k + 1, by omega, by go_num, allN_next hall hv, (by (repeat (first | exact X.refl _ | assumption | refine X.ext ?_ _ | refine X.alloc ?_ _ | refine X.drew ?_)))⟩
        case measure => simp [intOf]; omega
    · obtain rfl : k = n := by omega
      go_wp2
      go_ret
      exact ⟨ret_bool (by rw [bodyB, ← hS.1, hall, Bool.true_and]; exact decide_eq_decide.2 (by omega)), by (repeat (first | exact X.refl _ | assumption | refine X.ext ?_ _ | refine X.alloc ?_ _ | refine X.drew ?_))⟩

end Go.Proofs.YtjlooplpjliaiaaDoor
