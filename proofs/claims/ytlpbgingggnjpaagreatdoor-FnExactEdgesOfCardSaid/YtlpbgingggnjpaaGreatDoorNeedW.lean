/- Names that statements name, both sides: the walks. No condition but lengths. -/
import Derived.Test.YtlpbgingggnjpaaGreatDoorNdLaw
import Derived.Test.YtlpbgingggnjpaaGreatDoorIc
namespace Go.Proofs.YtlpbgingggnjpaaGreatDoor
open Go.RowKit

theorem parentF_nil : parentF [] = [] := by decide
theorem upQ_nil : ∀ k, upQ [] k = []
  | 0 => rfl
  | k + 1 => by show upQ (parentF []) k = []; rw [parentF_nil]; exact upQ_nil k
theorem upQ_next : ∀ (k : Nat) (p : List UInt8), upQ p (k + 1) = parentF (upQ p k)
  | 0, _ => rfl
  | k + 1, p => by show upQ (parentF p) (k + 1) = parentF (upQ (parentF p) k); exact upQ_next k (parentF p)
theorem parentF_pkg (s : List UInt8) : pkgB (parentF s) = true := by
  unfold parentF
  split
  · rename_i h
    exact pfx_pkg h _
  · rfl
theorem upQ_pkg {p : List UInt8} (h : pkgB p = true) : ∀ k, pkgB (upQ p k) = true
  | 0 => h
  | k + 1 => by rw [upQ_next]; exact parentF_pkg _
theorem pkgB_12 {p : List UInt8} (h : pkgB p = true) : p.length ≤ 12 := by
  cases h2 : p with
  | nil => simp
  | cons x y => rw [← h2]; exact nameB_len (pkgB_name h (by rw [h2]; simp))
def resN (p : List UInt8) (level : Int) (m : List UInt8) : List UInt8 := if nameB (resolveL p level m) then resolveL p level m else []
theorem resN_zero {p m : List UInt8} (hm : pkgB m = true) : resN p 0 m = m := by
  unfold resN resolveL
  rw [if_pos rfl]
  cases m with
  | nil => rfl
  | cons x y => rw [if_pos (pkgB_name hm (by simp))]
theorem resN_pos {p m : List UInt8} {L : Nat} : resN p ((L : Int) + 1) m = if upQ p L = [] then [] else if m = [] then (if nameB (upQ p L) then upQ p L else []) else (if nameB (upQ p L ++ 46 :: m) then upQ p L ++ 46 :: m else []) := by
  have h1 : ¬ (L : Int) + 1 = 0 := by omega
  have h2 : ((L : Int) + 1).toNat - 1 = L := by omega
  unfold resN resolveL
  rw [if_neg h1, h2]
  split
  · rfl
  · split <;> rfl

set_option maxRecDepth 100000 in
set_option maxHeartbeats 1000000 in
theorem ResolveName_c (p m : List UInt8) (level : Int) (w : World) (hp : pkgB p = true) (hm : pkgB m = true) (h0 : 0 ≤ level) (h4 : level ≤ 3) (hG : Gm w) :
    Calls Tryz.prog 58 #[.string ⟨(p).toArray⟩, .int .i64 level, .string ⟨(m).toArray⟩] w fun e w' => e = .returned (.string ⟨(resN p level m).toArray⟩) ∧ X w w' := by
  have hp12 := pkgB_12 hp
  have hm12 := pkgB_12 hm
  have hr1 : rangeB level 0 4 = true := rangeB_yes h0 (by omega)
  by_cases hl0 : level = 0
  · subst hl0
    rw [resN_zero hm]
    go_enter Tryz.func58, Tryz.ntmps58
    go_wp2_with (first | (go_at_call 75; refine (within_c _ _ _ _).mono ?_; rintro _ _ ⟨rfl, rfl⟩; rw [hr1]) | (go_at_call_of 76 p; refine (packageOk_c p _ (by omega) (hG.mono (by (repeat (first | exact X.refl _ | assumption | refine X.ext ?_ _ | refine X.alloc ?_ _ | refine X.drew ?_))))).mono ?_; rintro _ _ ⟨rfl, hx⟩; obtain ⟨x, rfl⟩ := hx; rw [hp]) | (go_at_call 76; refine (packageOk_c m _ (by omega) (hG.mono (by (repeat (first | exact X.refl _ | assumption | refine X.ext ?_ _ | refine X.alloc ?_ _ | refine X.drew ?_))))).mono ?_; rintro _ _ ⟨rfl, hx⟩; obtain ⟨x, rfl⟩ := hx.of_ext; rw [hm]))
    go_ret
    exact ⟨rfl, by (repeat (first | exact X.refl _ | assumption | refine X.ext ?_ _ | refine X.alloc ?_ _ | refine X.drew ?_))⟩
  obtain ⟨L, rfl⟩ : ∃ L : Nat, level = (L : Int) + 1 := ⟨(level - 1).toNat, by omega⟩
  have hu := upQ_pkg hp
  obtain ⟨V, hV⟩ : ∃ V, resN p ((L : Int) + 1) m = V := ⟨_, rfl⟩
  rw [hV]
  rw [resN_pos] at hV
  have HV := Lib.hid hV
  clear hV
  have hL3 : L ≤ 2 := by omega
  have hL0 : (((L : Int) + 1) == 0) = false := by simp; omega
  go_enter Tryz.func58, Tryz.ntmps58
  go_wp2_with (first | (go_at_call 75; refine (within_c _ _ _ _).mono ?_; rintro _ _ ⟨rfl, rfl⟩; rw [hr1]) | (go_at_call_of 76 p; refine (packageOk_c p _ (by omega) (hG.mono (by (repeat (first | exact X.refl _ | assumption | refine X.ext ?_ _ | refine X.alloc ?_ _ | refine X.drew ?_))))).mono ?_; rintro _ _ ⟨rfl, hx⟩; obtain ⟨x, rfl⟩ := hx; rw [hp]) | (go_at_call 76; refine (packageOk_c m _ (by omega) (hG.mono (by (repeat (first | exact X.refl _ | assumption | refine X.ext ?_ _ | refine X.alloc ?_ _ | refine X.drew ?_))))).mono ?_; rintro _ _ ⟨rfl, hx⟩; obtain ⟨x, rfl⟩ := hx.of_ext; rw [hm]))
  go_loopw [0, 1] (fun pv lv wr => ∃ j k : Nat, j + k = L ∧ pv = .string ⟨(upQ p j).toArray⟩ ∧ lv = .int .i64 ((k : Int) + 1) ∧ X w wr) (fun _ lv _ => (intOf lv).toNat)
  case atStart => exact ⟨0, L, by omega, rfl, rfl, by (repeat (first | exact X.refl _ | assumption | refine X.ext ?_ _ | refine X.alloc ?_ _ | refine X.drew ?_))⟩
  case round =>
    obtain ⟨j, k, hjk, rfl, rfl, hX⟩ := hrel
    have hq := hu j
    have hq12 := pkgB_12 hq
    have hnx := Lib.hid (upQ_next j p)
    have hend : k = 0 ∨ upQ p j = [] → upQ p L = upQ p j := fun h => by
      rcases h with rfl | h
      · rw [show L = j by omega]
      · rw [h]
        have : ∀ d, upQ p (j + d) = [] := fun d => by
          induction d with
          | zero => exact h
          | succ d ih => rw [← Nat.add_assoc, upQ_next, ih, parentF_nil]
        rw [← hjk]
        exact this k
    have Hend := Lib.hid hend
    clear hend
    obtain ⟨Q, hQ⟩ : ∃ Q, upQ p j = Q := ⟨_, rfl⟩
    rw [hQ] at hq hq12 hnx Hend ⊢
    clear hQ
    cases hQe : Q.isEmpty
    · have hQn : nameB Q = true := pkgB_name hq (by intro e; rw [e] at hQe; cases hQe)
      have hQ0 : ¬ Q = [] := by intro e; rw [e] at hQe; cases hQe
      rcases Nat.eq_zero_or_pos k with rfl | hk
      · have hv := HV.out
        rw [Hend.out (.inl rfl), if_neg hQ0] at hv
        clear hnx Hend
        cases hme : m.isEmpty
        · have hm0 : ¬ m = [] := by intro e; rw [e] at hme; cases hme
          rw [if_neg hm0] at hv
          have HV2 := Lib.hid hv
          clear hv hm0 hQ0
          have hql : (Q ++ 46 :: m).length ≤ 4194304 := by simp; omega
          cases hnb : nameB (Q ++ 46 :: m)
          · obtain rfl : V = [] := by have := HV2.out; rw [hnb] at this; simpa using this.symm
            go_wp2_with (go_at_call 47; refine (ValidName_c _ _ hql (hG.mono (hX.trans (by (repeat (first | exact X.refl _ | assumption | refine X.ext ?_ _ | refine X.alloc ?_ _ | refine X.drew ?_)))))).mono ?_; rintro _ w9 ⟨rfl, hx9⟩; rw [hnb])
            go_ret
            exact ⟨rfl, hX.trans hx9⟩
          · obtain rfl : V = Q ++ 46 :: m := by have := HV2.out; rw [hnb] at this; simpa using this.symm
            go_wp2_with (go_at_call 47; refine (ValidName_c _ _ hql (hG.mono (hX.trans (by (repeat (first | exact X.refl _ | assumption | refine X.ext ?_ _ | refine X.alloc ?_ _ | refine X.drew ?_)))))).mono ?_; rintro _ w9 ⟨rfl, hx9⟩; rw [hnb])
            go_ret
            exact ⟨rfl, hX.trans hx9⟩
        · obtain rfl : m = [] := by cases m with | nil => rfl | cons _ _ => cases hme
          rw [if_pos rfl, hQn] at hv
          obtain rfl : V = Q := by simpa using hv.symm
          clear hv hme hQ0
          go_wp2_with (go_at_call 47; refine (ValidName_c _ _ (by omega) (hG.mono (hX.trans (by (repeat (first | exact X.refl _ | assumption | refine X.ext ?_ _ | refine X.alloc ?_ _ | refine X.drew ?_)))))).mono ?_; rintro _ w9 ⟨rfl, hx9⟩; rw [hQn])
          go_ret
          exact ⟨rfl, hX.trans hx9⟩
      · obtain ⟨k, rfl⟩ : ∃ d, k = d + 1 := ⟨k - 1, by omega⟩
        have q1 : IntKind.i64.wrap (((k + 1 : Nat) : Int) + 1 - 1) = (k : Int) + 1 := by rw [show ((k + 1 : Nat) : Int) + 1 - 1 = (k : Int) + 1 by omega]; exact IntWalk.i64_in _ (by omega)
        have q2 : (1 : Int) < ((k + 1 : Nat) : Int) + 1 := by omega
        have hkL : k ≤ 2 := by omega

        have Hjk := Lib.hid hjk
        clear hQ0 hjk
        go_wp2_with (go_at_call 14; refine (ParentOf_c Q _ (by omega) (hG.mono hX)).mono ?_; rintro _ w9 ⟨rfl, hx9⟩)
        go_roundw
        case rel => exact ⟨j + 1, k, by have := Hjk.out; omega, by rw [hnx.out], by first | go_num | rfl | (rw [q1]) | (simp; omega), hX.trans hx9⟩
        case measure => simp [intOf]; omega
    · obtain rfl : Q = [] := by cases Q with | nil => rfl | cons _ _ => cases hQe
      have hv := HV.out
      rw [Hend.out (.inr rfl), if_pos rfl] at hv
      subst hv
      clear hQe hnx Hend
      rcases Nat.eq_zero_or_pos k with rfl | hk
      · go_wp2
        go_ret
        exact ⟨rfl, hX⟩
      · obtain ⟨k, rfl⟩ : ∃ d, k = d + 1 := ⟨k - 1, by omega⟩
        have q2 : (1 : Int) < ((k + 1 : Nat) : Int) + 1 := by omega
        go_wp2
        go_ret
        exact ⟨rfl, hX⟩

end Go.Proofs.YtlpbgingggnjpaaGreatDoor
