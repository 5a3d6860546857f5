/- Several texts in one: NdLaw, NeedW, CutL, Uniq. No condition but lengths. -/
import Derived.Test.YtgjfjjhmgbemcaaGreatDoorLc
import Derived.Test.YtgjfjjhmgbemcaaGreatDoorIc
import Derived.Test.YtgjfjjhmgbemcaaGreatDoorLg
import Derived.Shelf.Strings.Cut
namespace Go.Proofs.YtgjfjjhmgbemcaaGreatDoor
open Go.RowKit

/-! ### Each text once, in order -/
def addU (acc : List (List UInt8)) (s : List UInt8) : List (List UInt8) := if hasS acc s then acc else acc ++ [s]
def uniqL (xs : List (List UInt8)) : List (List UInt8) := xs.foldl addU []
/-- Those above come first. -/
def upIn (acc : List (List UInt8)) : Prop := ∀ i, i < acc.length → parentF (nth acc i) ≠ [] → ∃ j, j < i ∧ nth acc j = parentF (nth acc i)
/-! ### Names that statements name -/
def upQ (p : List UInt8) : Nat → List UInt8
  | 0 => p
  | k + 1 => upQ (parentF p) k
def resolveL (p : List UInt8) (level : Int) (m : List UInt8) : List UInt8 :=
  if level = 0 then m else if upQ p (level.toNat - 1) = [] then [] else if m = [] then upQ p (level.toNat - 1) else upQ p (level.toNat - 1) ++ 46 :: m
def stNames (p : List UInt8) (s : St) : List (List UInt8) :=
  if s.kind = 0 ∨ s.kind = 2 then [s.mod] else if s.kind = 1 then (if nameB (resolveL p s.level s.mod) then [resolveL p s.level s.mod] else []) else []
def bodyNames (p : List UInt8) (b : List St) : List (List UInt8) := b.flatMap (stNames p)
def pkgOf (o : Sp) (s : List UInt8) : List UInt8 := if o.kind = 1 then parentF s else s
def needN (t : List Fi) (path : List Int) (s : List UInt8) : List (List UInt8) :=
  if (specB t path s).file < 0 then [] else bodyNames (pkgOf (specB t path s) s) (nth t (specB t path s).file.toNat).body
def needsL (t : List Fi) (path : List Int) (s : List UInt8) : List (List UInt8) := uniqL (needN t path s)
def edgesL (t : List Fi) (path : List Int) (s : List UInt8) : List (List UInt8) := uniqL ((needsL t path s).flatMap aboveP)
/-! ### The laws -/
end Go.Proofs.YtgjfjjhmgbemcaaGreatDoor

namespace Go.Proofs.YtgjfjjhmgbemcaaGreatDoor
open Go.RowKit

theorem parentF_nil : parentF [] = [] := by decide
theorem upQ_next : ∀ (k : Nat) (p : List UInt8), upQ p (k + 1) = parentF (upQ p k)
  | 0, _ => rfl
  | k + 1, p => by show upQ (parentF p) (k + 1) = parentF (upQ (parentF p) k); exact upQ_next k (parentF p)
theorem parentF_pkg (s : List UInt8) : pkgB (parentF s) = true := by
  unfold parentF
  split
  · rename_i h
    exact pfx_pkg h _
  · rfl
theorem upQ_pkg {p : List UInt8} (h : pkgB p = true) : ∀ k, pkgB (upQ p k) = true
  | 0 => h
  | k + 1 => by rw [upQ_next]; exact parentF_pkg _
theorem pkgB_12 {p : List UInt8} (h : pkgB p = true) : p.length ≤ 12 := by
  cases h2 : p with
  | nil => simp
  | cons x y => rw [← h2]; exact nameB_len (pkgB_name h (by rw [h2]; simp))
def resN (p : List UInt8) (level : Int) (m : List UInt8) : List UInt8 := if nameB (resolveL p level m) then resolveL p level m else []
theorem resN_zero {p m : List UInt8} (hm : pkgB m = true) : resN p 0 m = m := by
  unfold resN resolveL
  rw [if_pos rfl]
  cases m with
  | nil => rfl
  | cons x y => rw [if_pos (pkgB_name hm (by simp))]
theorem resN_pos {p m : List UInt8} {L : Nat} : resN p ((L : Int) + 1) m = if upQ p L = [] then [] else if m = [] then (if nameB (upQ p L) then upQ p L else []) else (if nameB (upQ p L ++ 46 :: m) then upQ p L ++ 46 :: m else []) := by
  have h1 : ¬ (L : Int) + 1 = 0 := by omega
  have h2 : ((L : Int) + 1).toNat - 1 = L := by omega
  unfold resN resolveL
  rw [if_neg h1, h2]
  split
  · rfl
  · split <;> rfl

set_option maxRecDepth 100000 in
set_option maxHeartbeats 1000000 in
theorem ResolveName_c (p m : List UInt8) (level : Int) (w : World) (hp : pkgB p = true) (hm : pkgB m = true) (h0 : 0 ≤ level) (h4 : level ≤ 3) (hG : Gm w) :
    Calls Tryz.prog 206 #[.string ⟨(p).toArray⟩, .int .i64 level, .string ⟨(m).toArray⟩] w fun e w' => e = .returned (.string ⟨(resN p level m).toArray⟩) ∧ X w w' := by
  have hp12 := pkgB_12 hp
  have hm12 := pkgB_12 hm
  have hr1 : rangeB level 0 4 = true := rangeB_yes h0 (by omega)
  by_cases hl0 : level = 0
  · subst hl0
    rw [resN_zero hm]
    go_enter Tryz.func206, Tryz.ntmps206
    go_wp2_with (first | (go_at_call 80; refine (within_c _ _ _ _).mono ?_; rintro _ _ ⟨rfl, rfl⟩; rw [hr1]) | (go_at_call_of 78 p; refine (packageOk_c p _ (by omega) (hG.mono (by (repeat (first | exact X.refl _ | assumption | refine X.ext ?_ _ | refine X.alloc ?_ _ | refine X.drew ?_))))).mono ?_; rintro _ _ ⟨rfl, hx⟩; obtain ⟨x, rfl⟩ := hx; rw [hp]) | (go_at_call 78; refine (packageOk_c m _ (by omega) (hG.mono (by (repeat (first | exact X.refl _ | assumption | refine X.ext ?_ _ | refine X.alloc ?_ _ | refine X.drew ?_))))).mono ?_; rintro _ _ ⟨rfl, hx⟩; obtain ⟨x, rfl⟩ := hx.of_ext; rw [hm]))
    go_ret
    exact ⟨rfl, by (repeat (first | exact X.refl _ | assumption | refine X.ext ?_ _ | refine X.alloc ?_ _ | refine X.drew ?_))⟩
  obtain ⟨L, rfl⟩ : ∃ L : Nat, level = (L : Int) + 1 := ⟨(level - 1).toNat, by omega⟩
  have hu := upQ_pkg hp
  obtain ⟨V, hV⟩ : ∃ V, resN p ((L : Int) + 1) m = V := ⟨_, rfl⟩
  rw [hV]
  rw [resN_pos] at hV
  have HV := Lib.hid hV
  clear hV
  have hL3 : L ≤ 2 := by omega
  have hL0 : (((L : Int) + 1) == 0) = false := by simp; omega
  go_enter Tryz.func206, Tryz.ntmps206
  go_wp2_with (first | (go_at_call 80; refine (within_c _ _ _ _).mono ?_; rintro _ _ ⟨rfl, rfl⟩; rw [hr1]) | (go_at_call_of 78 p; refine (packageOk_c p _ (by omega) (hG.mono (by (repeat (first | exact X.refl _ | assumption | refine X.ext ?_ _ | refine X.alloc ?_ _ | refine X.drew ?_))))).mono ?_; rintro _ _ ⟨rfl, hx⟩; obtain ⟨x, rfl⟩ := hx; rw [hp]) | (go_at_call 78; refine (packageOk_c m _ (by omega) (hG.mono (by (repeat (first | exact X.refl _ | assumption | refine X.ext ?_ _ | refine X.alloc ?_ _ | refine X.drew ?_))))).mono ?_; rintro _ _ ⟨rfl, hx⟩; obtain ⟨x, rfl⟩ := hx.of_ext; rw [hm]))
  go_loopw [0, 1] (fun pv lv wr => ∃ j k : Nat, j + k = L ∧ pv = .string ⟨(upQ p j).toArray⟩ ∧ lv = .int .i64 ((k : Int) + 1) ∧ X w wr) (fun _ lv _ => (intOf lv).toNat)
  case atStart => exact ⟨0, L, by omega, rfl, rfl, by (repeat (first | exact X.refl _ | assumption | refine X.ext ?_ _ | refine X.alloc ?_ _ | refine X.drew ?_))⟩
  case round =>
    obtain ⟨j, k, hjk, rfl, rfl, hX⟩ := hrel
    have hq := hu j
    have hq12 := pkgB_12 hq
    have hnx := Lib.hid (upQ_next j p)
    have hend : k = 0 ∨ upQ p j = [] → upQ p L = upQ p j := fun h => by
      rcases h with rfl | h
      · rw [show L = j by omega]
      · rw [h]
        have : ∀ d, upQ p (j + d) = [] := fun d => by
          induction d with
          | zero => exact h
          | succ d ih => rw [← Nat.add_assoc, upQ_next, ih, parentF_nil]
        rw [← hjk]
        exact this k
    have Hend := Lib.hid hend
    clear hend
    obtain ⟨Q, hQ⟩ : ∃ Q, upQ p j = Q := ⟨_, rfl⟩
    rw [hQ] at hq hq12 hnx Hend ⊢
    clear hQ
    cases hQe : Q.isEmpty
    · have hQn : nameB Q = true := pkgB_name hq (by intro e; rw [e] at hQe; cases hQe)
      have hQ0 : ¬ Q = [] := by intro e; rw [e] at hQe; cases hQe
      rcases Nat.eq_zero_or_pos k with rfl | hk
      · have hv := HV.out
        rw [Hend.out (.inl rfl), if_neg hQ0] at hv
        clear hnx Hend
        cases hme : m.isEmpty
        · have hm0 : ¬ m = [] := by intro e; rw [e] at hme; cases hme
          rw [if_neg hm0] at hv
          have HV2 := Lib.hid hv
          clear hv hm0 hQ0
          have hql : (Q ++ 46 :: m).length ≤ 4194304 := by simp; omega
          cases hnb : nameB (Q ++ 46 :: m)
          · obtain rfl : V = [] := by have := HV2.out; rw [hnb] at this; simpa using this.symm
            go_wp2_with (go_at_call 77; refine (ValidName_c _ _ hql (hG.mono (hX.trans (by (repeat (first | exact X.refl _ | assumption | refine X.ext ?_ _ | refine X.alloc ?_ _ | refine X.drew ?_)))))).mono ?_; rintro _ w9 ⟨rfl, hx9⟩; rw [hnb])
            go_ret
            exact ⟨rfl, hX.trans hx9⟩
          · obtain rfl : V = Q ++ 46 :: m := by have := HV2.out; rw [hnb] at this; simpa using this.symm
            go_wp2_with (go_at_call 77; refine (ValidName_c _ _ hql (hG.mono (hX.trans (by (repeat (first | exact X.refl _ | assumption | refine X.ext ?_ _ | refine X.alloc ?_ _ | refine X.drew ?_)))))).mono ?_; rintro _ w9 ⟨rfl, hx9⟩; rw [hnb])
            go_ret
            exact ⟨rfl, hX.trans hx9⟩
        · obtain rfl : m = [] := by cases m with | nil => rfl | cons _ _ => cases hme
          rw [if_pos rfl, hQn] at hv
          obtain rfl : V = Q := by simpa using hv.symm
          clear hv hme hQ0
          go_wp2_with (go_at_call 77; refine (ValidName_c _ _ (by omega) (hG.mono (hX.trans (by (repeat (first | exact X.refl _ | assumption | refine X.ext ?_ _ | refine X.alloc ?_ _ | refine X.drew ?_)))))).mono ?_; rintro _ w9 ⟨rfl, hx9⟩; rw [hQn])
          go_ret
          exact ⟨rfl, hX.trans hx9⟩
      · obtain ⟨k, rfl⟩ : ∃ d, k = d + 1 := ⟨k - 1, by omega⟩
        have q1 : IntKind.i64.wrap (((k + 1 : Nat) : Int) + 1 - 1) = (k : Int) + 1 := by rw [show ((k + 1 : Nat) : Int) + 1 - 1 = (k : Int) + 1 by omega]; exact IntWalk.i64_in _ (by omega)
        have q2 : (1 : Int) < ((k + 1 : Nat) : Int) + 1 := by omega
        have hkL : k ≤ 2 := by omega

        have Hjk := Lib.hid hjk
        clear hQ0 hjk
        go_wp2_with (go_at_call 142; refine (ParentOf_c Q _ (by omega) (hG.mono hX)).mono ?_; rintro _ w9 ⟨rfl, hx9⟩)
        go_roundw
        case rel => exact ⟨j + 1, k, by have := Hjk.out; omega, by rw [hnx.out], by first | go_num | rfl | (rw [q1]) | (simp; omega), hX.trans hx9⟩
        case measure => simp [intOf]; omega
    · obtain rfl : Q = [] := by cases Q with | nil => rfl | cons _ _ => cases hQe
      have hv := HV.out
      rw [Hend.out (.inr rfl), if_pos rfl] at hv
      subst hv
      clear hQe hnx Hend
      rcases Nat.eq_zero_or_pos k with rfl | hk
      · go_wp2
        go_ret
        exact ⟨rfl, hX⟩
      · obtain ⟨k, rfl⟩ : ∃ d, k = d + 1 := ⟨k - 1, by omega⟩
        have q2 : (1 : Int) < ((k + 1 : Nat) : Int) + 1 := by omega
        go_wp2
        go_ret
        exact ⟨rfl, hX⟩

end Go.Proofs.YtgjfjjhmgbemcaaGreatDoor

namespace Go.Proofs.YtgjfjjhmgbemcaaGreatDoor
open Go.RowKit

theorem first_index : ∀ s : List UInt8, (Lib.index s [46] = -1 ∧ nth (splitL 46 s) 0 = s) ∨ ∃ i : Nat, Lib.index s [46] = (i : Int) ∧ nth (splitL 46 s) 0 = s.take i
  | [] => .inl ⟨rfl, rfl⟩
  | b :: s => by
    have hp : ([46] : List UInt8).isPrefixOf (b :: s) = (46 == b) := by simp [List.isPrefixOf]
    cases hb : b == 46
    · have hb2 : ((46 : UInt8) == b) = false := by rw [Bool.eq_false_iff] at hb ⊢; intro e; apply hb; rw [beq_iff_eq] at e ⊢; exact e.symm
      have hsp : nth (splitL 46 (b :: s)) 0 = b :: nth (splitL 46 s) 0 := by
        rw [splitL, hb, if_neg (by simp)]
        cases hs : splitL 46 s with
        | nil => exact absurd hs (splitL_ne 46 s)
        | cons p r => rfl
      rw [Lib.index, hp, hb2, if_neg (by simp), hsp]
      rcases first_index s with ⟨h1, h2⟩ | ⟨i, h1, h2⟩
      · left
        rw [h1, h2]
        exact ⟨rfl, rfl⟩
      · right
        have hne : (Lib.index s [46] == -1) = false := by rw [h1, Bool.eq_false_iff]; intro e; rw [beq_iff_eq] at e; omega
        rw [hne, if_neg (by simp), h1, h2]
        exact ⟨i + 1, by omega, rfl⟩
    · right
      have hb2 : ((46 : UInt8) == b) = true := by rw [beq_iff_eq] at hb ⊢; exact hb.symm
      rw [Lib.index, hp, hb2, if_pos rfl, splitL, hb, if_pos rfl]
      exact ⟨0, rfl, rfl⟩
theorem cut_first (s : List UInt8) : (Lib.cut s [46]).1 = nth (splitL 46 s) 0 := by
  unfold Lib.cut
  rcases first_index s with ⟨h1, h2⟩ | ⟨i, h1, h2⟩
  · rw [h1, if_neg (by omega), h2]
  · rw [h1, if_pos (by omega), h2]
    rfl
theorem Cut_c (s : List UInt8) (w : World) (hs : s.length ≤ 4194304) (hG : Gm w) : Calls Tryz.prog 205 #[.string ⟨(s).toArray⟩, .string ⟨#[46]⟩] w fun e w' => ∃ t b, e = .returned (.tuple #[.string ⟨(nth (splitL 46 s) 0).toArray⟩, .string t, .bool b]) ∧ X w w' := by
  obtain ⟨m, hm, _⟩ := hG
  refine (Tryz.strings_Cut ⟨s.toArray⟩ ⟨#[46]⟩ m w (by show s.length < _; omega) hm).mono ?_
  rintro e w' ⟨rfl, k, rfl⟩
  refine ⟨_, _, by rw [← cut_first], ?_⟩
  exact ⟨⟨#[], w.drawn + k⟩, by simp [World.ext, World.drewN]⟩

end Go.Proofs.YtgjfjjhmgbemcaaGreatDoor

namespace Go.Proofs.YtgjfjjhmgbemcaaGreatDoor
open Go.RowKit

theorem ContainsS_c (l : List (List UInt8)) (a : Option Addr) (n c B : Nat) (x : List UInt8) (w : World) (hS : StrsAt w B a n l) :
    Calls Tryz.prog 178 #[.slice a n c, .string ⟨(x).toArray⟩] w fun e w' => e = .returned (.bool (hasS l x)) ∧ w = w' := by
  have hl := hS.1
  rcases Nat.eq_zero_or_pos n with rfl | h0
  · obtain rfl : l = [] := List.eq_nil_of_length_eq_zero hl.symm
    exact (Tryz.slices_Contains_string_empty a c ⟨x.toArray⟩ w).mono fun e w' ⟨he, hw⟩ => ⟨he, hw.symm⟩
  · obtain ⟨b, off, rfl, _, _, _, _⟩ := hS.at_ (k := 0) (by omega)
    have hn := hS.2.1
    refine (Tryz.slices_Contains_string b off n c (l.map fun y => ByteArray.mk y.toArray) ⟨x.toArray⟩ w (by rw [List.length_map]; omega) (by omega) (fun j hj => ?_)).mono ?_
    · rw [List.length_map] at hj
      obtain ⟨b', off', hb, _, _, hc, _⟩ := hS.at_ (k := j) (by omega)
      simp only [Option.some.injEq, Addr.mk.injEq, and_true] at hb
      obtain ⟨rfl, rfl⟩ := hb
      rw [hc]
      simp [List.getD_eq_getElem?_getD, hj, nth_eq hj]
    · rintro e w' ⟨rfl, rfl⟩
      refine ⟨?_, rfl⟩
      congr 2
      rw [Bool.eq_iff_iff, Lib.containsS_iff, hasS_iff, hl, ← List.length_map (f := fun y => ByteArray.mk y.toArray), List.take_length, List.mem_map]
      constructor
      · rintro ⟨y, hy, e⟩
        injection e with e
        have : y = x := by simpa using congrArg Array.toList e
        exact this ▸ hy
      · exact fun h => ⟨x, h, rfl⟩

end Go.Proofs.YtgjfjjhmgbemcaaGreatDoor
