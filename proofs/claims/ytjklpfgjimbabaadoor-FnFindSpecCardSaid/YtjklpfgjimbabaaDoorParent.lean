/- The package above a name and its last part: walks; names found part by part: the plain law. No condition but lengths. -/
import Derived.Test.YtjklpfgjimbabaaDoorSpecFile
namespace Go.Proofs.YtjklpfgjimbabaaDoor
open Go.RowKit

/-- r is the last index of c in s, -1 if there is none. -/
def LastAt (s : List UInt8) (c : UInt8) (r : Int) : Prop := (r = -1 ∧ ∀ j, j < s.length → nth s j ≠ c) ∨ ∃ k : Nat, r = (k : Int) ∧ k < s.length ∧ nth s k = c ∧ ∀ j, k < j → j < s.length → nth s j ≠ c
set_option maxHeartbeats 400000 in
theorem LastIndexByteString_c (s : List UInt8) (c : UInt8) (w : World) (hs : s.length ≤ 4194304) : Calls Tryd.prog 97 #[.string ⟨(s).toArray⟩, .int .u8 (c.toNat : Int)] w fun e w' => (∃ r, e = .returned (.int .i64 r) ∧ LastAt s c r) ∧ w = w' := by
  have q0 : IntKind.i64.wrap ((s.length : Int) - 1) = (s.length : Int) - 1 := IntWalk.i64_in _ (by omega)
  go_enter Tryd.func97, Tryd.ntmps97
  go_wp2
  go_loop [5] (fun i => ∃ k : Nat, k ≤ s.length ∧ i = .int .i64 ((k : Int) - 1) ∧ ∀ j, k ≤ j → j < s.length → nth s j ≠ c) (fun i => (intOf i + 1).toNat)
  case atStart => exact ⟨s.length, by omega, rfl, fun j h1 h2 => by omega⟩
  case round =>
    obtain ⟨k, hk, rfl, hno⟩ := hrel
    rcases Nat.eq_zero_or_pos k with rfl | h0
    · have h1 : ¬ (0 : Int) ≤ ((0 : Nat) : Int) - 1 := by omega
      go_wp2
      go_ret
      exact ⟨⟨_, rfl, .inl ⟨rfl, fun j hj => hno j (Nat.zero_le _) hj⟩⟩, rfl⟩
    · obtain ⟨m, rfl⟩ : ∃ m, k = m + 1 := ⟨k - 1, by omega⟩
      have e1 : (((m + 1 : Nat) : Int) - 1) = (m : Int) := by omega
      rw [e1]
      clear e1
      have q1 : IntKind.i64.wrap ((m : Int) - 1) = (m : Int) - 1 := IntWalk.i64_in _ (by omega)
      have hm : m < s.length := by omega
      have hm1 : (m : Int) < (s.length : Int) := by omega
      have hm0 : (0 : Int) ≤ (m : Int) := by omega
      cases he : ((nth s m).toNat : Int) == (c.toNat : Int)
      · have hne : nth s m ≠ c := by rintro rfl; simp at he
        have Hno := Lib.hid hno
        clear hno
        go_wp2
        go_round
        case rel => exact ⟨m, by omega, rfl, fun j h1 h2 => by
          by_cases e : j = m
          · subst e; exact hne
          · exact Hno.out j (by omega) h2⟩
        case measure => simp [intOf]
      · have hc : nth s m = c := by have := beq_iff_eq.1 he; exact UInt8.toNat_inj.1 (by omega)
        have Hno := Lib.hid hno
        have Hc := Lib.hid hc
        clear hno hc
        go_wp2
        go_ret
        exact ⟨⟨_, rfl, .inr ⟨m, rfl, hm, Hc.out, fun j h1 h2 => Hno.out j (by omega) h2⟩⟩, rfl⟩
set_option maxHeartbeats 400000 in
theorem LastIndexByte_c (s : List UInt8) (c : UInt8) (w : World) (hs : s.length ≤ 4194304) : Calls Tryd.prog 70 #[.string ⟨(s).toArray⟩, .int .u8 (c.toNat : Int)] w fun e w' => (∃ r, e = .returned (.int .i64 r) ∧ LastAt s c r) ∧ w = w' := by
  go_enter Tryd.func70, Tryd.ntmps70
  go_wp2_with (go_at_call 97; refine (LastIndexByteString_c s c _ hs).mono ?_; rintro _ _ ⟨⟨r, rfl, hr⟩, rfl⟩)
  go_ret
  exact ⟨⟨r, rfl, hr⟩, rfl⟩
theorem LastAt.here {p q : List UInt8} {c : UInt8} {r : Int} (h : LastAt (p ++ c :: q) c r) (hq : ∀ x ∈ q, x ≠ c) : r = (p.length : Int) := by
  have hp : nth (p ++ c :: q) p.length = c := by
    have := nth_append_right (l := p) (m := c :: q) 0
    rw [Nat.add_zero] at this
    rw [this]; rfl
  have hlen : (p ++ c :: q).length = p.length + (q.length + 1) := by simp
  rcases h with ⟨_, h⟩ | ⟨k, rfl, hk, e, hn⟩
  · exact absurd hp (h _ (by omega))
  · rcases Nat.lt_trichotomy k p.length with h1 | h1 | h1
    · exact absurd hp (hn _ h1 (by omega))
    · omega
    · obtain ⟨d, rfl⟩ : ∃ d, k = p.length + (d + 1) := ⟨k - p.length - 1, by omega⟩
      rw [nth_append_right] at e
      have e : nth q d = c := e
      exact absurd e (hq _ (nth_mem (by omega)))
theorem LastAt.none {s : List UInt8} {c : UInt8} {r : Int} (h : LastAt s c r) (hq : ∀ x ∈ s, x ≠ c) : r = -1 := by
  rcases h with ⟨e, _⟩ | ⟨k, _, hk, e, _⟩
  · exact e
  · exact absurd e (hq _ (nth_mem hk))
theorem part_clean {p : List UInt8} (h : partB p = true) : ∀ x ∈ p, x ≠ 46 := fun x hx => by
  rw [partB, Bool.and_eq_true] at h
  obtain ⟨k, hk, rfl⟩ := List.getElem_of_mem hx
  have := allN_iff.1 h.2 k hk
  rw [nth_eq hk] at this
  rintro e
  rw [e] at this
  exact absurd this (by decide)
def parentF (s : List UInt8) : List UInt8 := if nameB s then pfx s ((splitL 46 s).length - 1) else []
def lastF (s : List UInt8) : List UInt8 := if nameB s then nth (splitL 46 s) ((splitL 46 s).length - 1) else []
theorem name_parts {s : List UInt8} (h : nameB s = true) : (parentF s = [] ∧ lastF s = s ∧ (splitL 46 s).length = 1 ∧ (∀ x ∈ s, x ≠ 46)) ∨
    ∃ m, (splitL 46 s).length = m + 2 ∧ parentF s = pfx s (m + 1) ∧ lastF s = nth (splitL 46 s) (m + 1) ∧ s = parentF s ++ 46 :: lastF s ∧ (∀ x ∈ lastF s, x ≠ 46) := by
  have hp := splitL_pos 46 s
  rcases Nat.lt_or_ge 1 (splitL 46 s).length with h1 | h1
  · right
    obtain ⟨m, hm⟩ : ∃ m, (splitL 46 s).length = m + 2 := ⟨(splitL 46 s).length - 2, by omega⟩
    have e1 : parentF s = pfx s (m + 1) := by rw [parentF, h, if_pos rfl, hm]; rfl
    have e2 : lastF s = nth (splitL 46 s) (m + 1) := by rw [lastF, h, if_pos rfl, hm]; rfl
    have hs := pfx_succ h (k := m + 1) (by omega)
    rw [pfx_all (s := s) (k := m + 1 + 1) (by omega), childL, nameB_ne (pfx_name h (k := m + 1) (by omega))] at hs
    exact ⟨m, hm, e1, e2, by rw [e1, e2]; exact hs.symm, by rw [e2]; exact part_clean (part_at h (by omega))⟩
  · left
    have hm : (splitL 46 s).length = 1 := by omega
    have h2 := pfx_succ h (k := 0) (by omega)
    rw [pfx_zero, pfx_all (s := s) (k := 0 + 1) (by omega)] at h2
    have h2 : nth (splitL 46 s) 0 = s := h2
    exact ⟨by rw [parentF, h, if_pos rfl, hm]; exact pfx_zero, by rw [lastF, h, if_pos rfl, hm]; exact h2, hm, by rw [← h2]; exact part_clean (part_at h (by omega))⟩
set_option maxRecDepth 100000 in
set_option maxHeartbeats 400000 in
theorem ParentOf_c (s : List UInt8) (w : World) (hs : s.length ≤ 4194304) (hG : Gm w) : Calls Tryd.prog 29 #[.string ⟨(s).toArray⟩] w fun e w' => e = .returned (.string ⟨(parentF s).toArray⟩) ∧ X w w' := by
  cases h : nameB s
  · rw [show parentF s = [] by rw [parentF, h]; rfl]
    go_enter Tryd.func29, Tryd.ntmps29
    go_wp2_with (first | (go_at_call 70; refine (LastIndexByte_c s 46 _ hs).mono ?_; rintro _ _ ⟨⟨r, rfl, hr⟩, rfl⟩) | (go_at_call 24; refine (ValidName_c _ _ hs hG).mono ?_; rintro _ _ ⟨rfl, x, rfl⟩))
    go_ret
    exact ⟨rfl, by (repeat (first | exact X.refl _ | assumption | refine X.ext ?_ _ | refine X.alloc ?_ _ | refine X.drew ?_))⟩
  · rcases name_parts h with ⟨e1, e2, _, hn⟩ | ⟨m, hm, y1, y2, e3, hn⟩
    · rw [e1]
      clear e1 e2
      go_enter Tryd.func29, Tryd.ntmps29
      go_wp2_with (first | (go_at_call 70; refine (LastIndexByte_c s 46 _ hs).mono ?_; rintro _ _ ⟨⟨r, rfl, hr⟩, rfl⟩; obtain rfl := hr.none hn) | (go_at_call 24; refine (ValidName_c _ _ hs hG).mono ?_; rintro _ _ ⟨rfl, x, rfl⟩))
      go_ret
      exact ⟨rfl, by (repeat (first | exact X.refl _ | assumption | refine X.ext ?_ _ | refine X.alloc ?_ _ | refine X.drew ?_))⟩
    · generalize parentF s = p at *
      generalize lastF s = q at *
      have hl : s.length = p.length + (q.length + 1) := by rw [e3]; simp
      have hp0 : ¬ (p.length : Int) < 0 := by omega
      have hp1 : p.length ≤ s.length := by omega
      have Ht := Lib.hid (show List.take p.length s = p by rw [e3]; simp)
      have Hr := Lib.hid (show ∀ r, LastAt s 46 r → r = (p.length : Int) from fun r hr => (show LastAt (p ++ 46 :: q) 46 r by rw [← e3]; exact hr).here hn)
      clear hm hl e3 hn y1 y2
      go_enter Tryd.func29, Tryd.ntmps29
      go_wp2_with (first | (go_at_call 70; refine (LastIndexByte_c s 46 _ hs).mono ?_; rintro _ _ ⟨⟨r, rfl, hr⟩, rfl⟩; obtain rfl := Hr.out _ hr; clear hr) | (go_at_call 24; refine (ValidName_c _ _ hs hG).mono ?_; rintro _ _ ⟨rfl, x, rfl⟩))
      go_ret
      exact ⟨by simp [Ht.out], by (repeat (first | exact X.refl _ | assumption | refine X.ext ?_ _ | refine X.alloc ?_ _ | refine X.drew ?_))⟩
set_option maxRecDepth 100000 in
set_option maxHeartbeats 400000 in
theorem LastOf_c (s : List UInt8) (w : World) (hs : s.length ≤ 4194304) (hG : Gm w) : Calls Tryd.prog 30 #[.string ⟨(s).toArray⟩] w fun e w' => e = .returned (.string ⟨(lastF s).toArray⟩) ∧ X w w' := by
  cases h : nameB s
  · rw [show lastF s = [] by rw [lastF, h]; rfl]
    go_enter Tryd.func30, Tryd.ntmps30
    go_wp2_with (go_at_call 24; refine (ValidName_c _ _ hs hG).mono ?_; rintro _ _ ⟨rfl, x, rfl⟩)
    go_ret
    exact ⟨rfl, by (repeat (first | exact X.refl _ | assumption | refine X.ext ?_ _ | refine X.alloc ?_ _ | refine X.drew ?_))⟩
  · rcases name_parts h with ⟨e1, e2, _, hn⟩ | ⟨m, hm, y1, y2, e3, hn⟩
    · rw [e2]
      clear e1 e2
      go_enter Tryd.func30, Tryd.ntmps30
      go_wp2_with (first | (go_at_call 70; refine (LastIndexByte_c s 46 _ hs).mono ?_; rintro _ _ ⟨⟨r, rfl, hr⟩, rfl⟩; obtain rfl := hr.none hn) | (go_at_call 24; refine (ValidName_c _ _ hs hG).mono ?_; rintro _ _ ⟨rfl, x, rfl⟩))
      go_ret
      exact ⟨by simp, by (repeat (first | exact X.refl _ | assumption | refine X.ext ?_ _ | refine X.alloc ?_ _ | refine X.drew ?_))⟩
    · generalize parentF s = p at *
      generalize lastF s = q at *
      have hl : s.length = p.length + (q.length + 1) := by rw [e3]; simp
      have q1 : IntKind.i64.wrap ((p.length : Int) + 1) = (p.length : Int) + 1 := IntWalk.i64_in _ (by omega)
      have q2 : (0 : Int) ≤ (p.length : Int) + 1 := by omega
      have q3 : ((p.length : Int) + 1).toNat = p.length + 1 := by omega
      have q4 : (p.length : Int) + 1 ≤ (s.length : Int) := by omega
      have Ht := Lib.hid (show List.take (s.length - (p.length + 1)) (List.drop (p.length + 1) s) = q by rw [e3]; simp; exact List.take_of_length_le (by omega))
      have Hr := Lib.hid (show ∀ r, LastAt s 46 r → r = (p.length : Int) from fun r hr => (show LastAt (p ++ 46 :: q) 46 r by rw [← e3]; exact hr).here hn)
      clear hm hl e3 hn y1 y2
      go_enter Tryd.func30, Tryd.ntmps30
      go_wp2_with (first | (go_at_call 70; refine (LastIndexByte_c s 46 _ hs).mono ?_; rintro _ _ ⟨⟨r, rfl, hr⟩, rfl⟩; obtain rfl := Hr.out _ hr; clear hr) | (go_at_call 24; refine (ValidName_c _ _ hs hG).mono ?_; rintro _ _ ⟨rfl, x, rfl⟩))
      go_ret
      exact ⟨by simp [Ht.out], by (repeat (first | exact X.refl _ | assumption | refine X.ext ?_ _ | refine X.alloc ?_ _ | refine X.drew ?_))⟩

end Go.Proofs.YtjklpfgjimbabaaDoor
