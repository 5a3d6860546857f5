/- Several texts in one: Space, First, Parts, ModName, FindSpec, SpecLaws, SpecFile, Parent. No condition but lengths. -/
import Derived.Test.YtgjfjjhmgbemcaaGreatDoorIb
import Derived.Test.YtgjfjjhmgbemcaaGreatDoorIa
import Derived.Deep.RegionHeld3
import Derived.IntWalk
import Derived.StillTailTactics
namespace Go.Proofs.YtgjfjjhmgbemcaaGreatDoor
open Go.RowKit

theorem findGo_space (l : List Fi) (p s : List UInt8) : ∀ (path acc : List Int), (findGo l p s path acc).kind = 3 → (findGo l p s path acc).file = -1 ∧
    (findGo l p s path acc).roots = acc ++ path.filter (fun x => dirS l x (childL p s)) ∧ ∀ x ∈ path, ¬ 0 ≤ fidx l (initF x (childL p s)) ∧ ¬ 0 ≤ fidx l (fileF x p s)
  | [], acc => fun h => by
    unfold findGo at h ⊢
    split at h
    · simp [noneSp] at h
    · rename_i h0
      simp [h0]
  | r :: rs, acc => fun h => by
    unfold findGo at h ⊢
    split at h
    · simp at h
    · rename_i h1
      split at h
      · simp at h
      · rename_i h2
        obtain ⟨e1, e2, e3⟩ := findGo_space l p s rs _ h
        rw [if_neg h1, if_neg h2]
        refine ⟨e1, ?_, ?_⟩
        · rw [e2]
          cases hd : dirS l r (childL p s) <;> simp [hd]
        · intro x hx
          rcases List.mem_cons.1 hx with rfl | hx
          · exact ⟨h1, h2⟩
          · exact e3 x hx
/-- What HasDir answers. -/
def hasB (l : List Fi) (r : Int) (p : List UInt8) : Bool := treeB l && rangeB r 0 2 && pkgB p && dirS l r p
end Go.Proofs.YtgjfjjhmgbemcaaGreatDoor

namespace Go.Proofs.YtgjfjjhmgbemcaaGreatDoor
open Go.RowKit

def hitP (l : List Fi) (p s : List UInt8) (r : Int) : Prop := 0 ≤ fidx l (initF r (childL p s)) ∨ 0 ≤ fidx l (fileF r p s)
/-- What one root gives. -/
def oneF (l : List Fi) (p s : List UInt8) (r : Int) : Sp := if 0 ≤ fidx l (initF r (childL p s)) then ⟨2, fidx l (initF r (childL p s)), [r]⟩ else ⟨1, fidx l (fileF r p s), []⟩
theorem fidx_place {l : List Fi} {f : Fi} (h : 0 ≤ fidx l f) : ∃ j, j < l.length ∧ fidx l f = (j : Int) ∧ sameP (nth l j) f = true := by
  unfold fidx at h ⊢
  rcases firstN_cases (fun k => sameP (nth l k) f) l.length with ⟨_, e⟩ | ⟨k, hk, h1, _, e⟩
  · rw [e] at h; omega
  · exact ⟨k, hk, e, h1⟩
theorem findGo_at (l : List Fi) (p s : List UInt8) : ∀ (path acc : List Int) (k : Nat), k < path.length → (∀ i, i < k → ¬ hitP l p s (nth path i)) → hitP l p s (nth path k) → findGo l p s path acc = oneF l p s (nth path k)
  | [], _, k, hk, _, _ => absurd hk (by simp)
  | r :: rs, acc, 0, _, _, hh => by
    have hh : hitP l p s r := hh
    show findGo l p s (r :: rs) acc = oneF l p s r
    unfold findGo oneF
    rcases hh with h | h
    · rw [if_pos h, if_pos h]
    · by_cases h1 : 0 ≤ fidx l (initF r (childL p s))
      · rw [if_pos h1, if_pos h1]
      · rw [if_neg h1, if_neg h1, if_pos h]
  | r :: rs, acc, k + 1, hk, hn, hh => by
    have h0 : ¬ hitP l p s r := hn 0 (by omega)
    unfold findGo
    rw [if_neg (fun h => h0 (.inl h)), if_neg (fun h => h0 (.inr h))]
    exact findGo_at l p s rs _ k (by simpa using hk) (fun i hi => hn (i + 1) (by omega)) hh
theorem findGo_no (l : List Fi) (p s : List UInt8) : ∀ (path acc : List Int), (∀ i, i < path.length → ¬ hitP l p s (nth path i)) → (findGo l p s path acc).file = -1
  | [], acc, _ => by unfold findGo; split <;> rfl
  | r :: rs, acc, hn => by
    have h0 : ¬ hitP l p s r := hn 0 (by simp)
    unfold findGo
    rw [if_neg (fun h => h0 (.inl h)), if_neg (fun h => h0 (.inr h))]
    exact findGo_no l p s rs _ (fun i hi => hn (i + 1) (by simpa using hi))
theorem first_hit {P : Nat → Prop} [DecidablePred P] : ∀ n : Nat, (∀ i, i < n → ¬ P i) ∨ ∃ k, k < n ∧ P k ∧ ∀ i, i < k → ¬ P i
  | 0 => .inl fun i hi => absurd hi (by omega)
  | n + 1 => by
    rcases first_hit (P := P) n with h | ⟨k, hk, hp, hn⟩
    · by_cases hp : P n
      · exact .inr ⟨n, by omega, hp, h⟩
      · exact .inl fun i hi => by
          by_cases e : i = n
          · subst e; exact hp
          · exact h i (by omega)
    · exact .inr ⟨k, by omega, hp, hn⟩
theorem findGo_hit {l : List Fi} {p s : List UInt8} {path acc : List Int} (h : 0 ≤ (findGo l p s path acc).file) :
    ∃ k, k < path.length ∧ (∀ i, i < k → ¬ hitP l p s (nth path i)) ∧ hitP l p s (nth path k) ∧ findGo l p s path acc = oneF l p s (nth path k) := by
  haveI : DecidablePred (fun i => hitP l p s (nth path i)) := fun i => by unfold hitP; infer_instance
  rcases first_hit (P := fun i => hitP l p s (nth path i)) path.length with hn | ⟨k, hk, hh, hn⟩
  · rw [findGo_no l p s path acc hn] at h; omega
  · exact ⟨k, hk, hn, hh, findGo_at l p s path acc k hk hn hh⟩
/-- The file that one root gives: its root, its module, whether it is a package's. -/
theorem oneF_file {l : List Fi} {p s : List UInt8} {r : Int} (hh : hitP l p s r) : ∃ j, j < l.length ∧ (oneF l p s r).file = (j : Int) ∧ (nth l j).root = r ∧ moduleB (nth l j) = childL p s ∧ ((nth l j).init = true ↔ (oneF l p s r).kind = 2) ∧ ((oneF l p s r).kind = 1 ∨ (oneF l p s r).kind = 2) := by
  unfold oneF
  by_cases h1 : 0 ≤ fidx l (initF r (childL p s))
  · rw [if_pos h1]
    obtain ⟨j, hj, e, hs⟩ := fidx_place h1
    obtain ⟨s1, s2, s3, s4⟩ := sameP_iff.1 hs
    exact ⟨j, hj, e, s1, by rw [moduleB, s3, s2]; rfl, by rw [s3]; simp [initF], .inr rfl⟩
  · rw [if_neg h1]
    obtain ⟨j, hj, e, hs⟩ := fidx_place (hh.resolve_left h1)
    obtain ⟨s1, s2, s3, s4⟩ := sameP_iff.1 hs
    exact ⟨j, hj, e, s1, by rw [moduleB, s3, s2, s4]; rfl, by rw [s3]; simp [fileF], .inl rfl⟩
end Go.Proofs.YtgjfjjhmgbemcaaGreatDoor

namespace Go.Proofs.YtgjfjjhmgbemcaaGreatDoor
open Go.RowKit

def joinL : List (List UInt8) → List UInt8
  | [] => []
  | p :: ps => ps.foldl (fun a q => a ++ 46 :: q) p
theorem joinL_snoc {l : List (List UInt8)} (h : l ≠ []) (q : List UInt8) : joinL (l ++ [q]) = joinL l ++ 46 :: q := by
  cases l with
  | nil => exact absurd rfl h
  | cons p ps => simp [joinL, List.foldl_append]
theorem join_foldl (x p : List UInt8) (r : List (List UInt8)) : r.foldl (fun a q => a ++ 46 :: q) (x ++ p) = x ++ r.foldl (fun a q => a ++ 46 :: q) p := by
  induction r generalizing p with
  | nil => rfl
  | cons q r ih =>
    simp only [List.foldl_cons]
    rw [List.append_assoc, ih]
theorem joinL_pre (x : List UInt8) {L : List (List UInt8)} (h : L ≠ []) : joinL (preL x L) = x ++ joinL L := by
  cases L with
  | nil => exact absurd rfl h
  | cons p r => exact join_foldl x p r
theorem joinL_hit {L : List (List UInt8)} (h : L ≠ []) : joinL ([] :: L) = 46 :: joinL L := by
  cases L with
  | nil => exact absurd rfl h
  | cons p r => exact join_foldl [46] p r
theorem joinL_split (s : List UInt8) : joinL (splitL 46 s) = s := by
  induction s with
  | nil => rfl
  | cons b s ih =>
    cases h : b == 46
    · rw [splitL_miss h, joinL_pre [b] (splitL_ne _ _), ih]; rfl
    · obtain rfl : b = 46 := by simpa using h
      rw [splitL_hit, joinL_hit (splitL_ne _ _), ih]
theorem splitL_mid (a b : List UInt8) : splitL 46 (a ++ 46 :: b) = splitL 46 a ++ splitL 46 b := by
  induction a with
  | nil => rw [List.nil_append, splitL_hit]; rfl
  | cons x a ih =>
    cases h : x == 46
    · rw [List.cons_append, splitL_miss h, splitL_miss h, ih]
      cases h' : splitL 46 a with
      | nil => exact absurd h' (splitL_ne _ _)
      | cons p r => rfl
    · obtain rfl : x = 46 := by simpa using h
      rw [List.cons_append, splitL_hit, splitL_hit, ih]; rfl
theorem splitL_clean : ∀ {p : List UInt8}, (∀ x ∈ p, x ≠ 46) → splitL 46 p = [p]
  | [], _ => rfl
  | x :: p, h => by
    rw [splitL_miss (by simpa using h x (by simp)), splitL_clean (fun y hy => h y (by simp [hy]))]
    rfl
theorem partB_split {p : List UInt8} (h : partB p = true) : splitL 46 p = [p] := by
  refine splitL_clean fun x hx => ?_
  rw [partB, Bool.and_eq_true] at h
  obtain ⟨k, hk, rfl⟩ := List.getElem_of_mem hx
  have := allN_iff.1 h.2 k hk
  rw [nth_eq hk] at this
  rintro e
  rw [e] at this
  exact absurd this (by decide)
theorem partB_len {p : List UInt8} (h : partB p = true) : 1 ≤ p.length ∧ p.length ≤ 3 := by
  rw [partB, Bool.and_eq_true] at h
  have := rangeB_iff.1 h.1
  omega
theorem split_foldl : ∀ (r : List (List UInt8)) (a : List UInt8), (∀ p ∈ r, partB p = true) → splitL 46 (r.foldl (fun a q => a ++ 46 :: q) a) = splitL 46 a ++ r
  | [], a, _ => by simp
  | q :: r, a, h => by
    rw [List.foldl_cons, split_foldl r _ (fun p hp => h p (by simp [hp])), splitL_mid, partB_split (h q (by simp)), List.append_assoc]
    rfl
theorem splitL_join {l : List (List UInt8)} (hne : l ≠ []) (h : ∀ p ∈ l, partB p = true) : splitL 46 (joinL l) = l := by
  cases l with
  | nil => exact absurd rfl hne
  | cons p r =>
    rw [joinL, split_foldl r p (fun q hq => h q (by simp [hq])), partB_split (h p (by simp))]
    rfl
theorem nameB_iff {s : List UInt8} : nameB s = true ↔ (∀ p ∈ splitL 46 s, partB p = true) ∧ (splitL 46 s).length ≤ 3 := by
  rw [nameB, Bool.and_eq_true, decide_eq_true_iff, allN_iff]
  refine and_congr_left fun _ => ⟨fun h p hp => ?_, fun h k hk => h _ (nth_mem hk)⟩
  obtain ⟨k, hk, rfl⟩ := List.getElem_of_mem hp
  rw [← nth_eq hk]
  exact h k hk
theorem nameB_join {l : List (List UInt8)} (hne : l ≠ []) (h : ∀ p ∈ l, partB p = true) (hl : l.length ≤ 3) : nameB (joinL l) = true := by
  rw [nameB_iff, splitL_join hne h]
  exact ⟨h, hl⟩
theorem foldl_len : ∀ (r : List (List UInt8)) (a : List UInt8), (∀ p ∈ r, partB p = true) → (r.foldl (fun a q => a ++ 46 :: q) a).length ≤ a.length + 4 * r.length
  | [], a, _ => by simp
  | q :: r, a, h => by
    rw [List.foldl_cons]
    refine Nat.le_trans (foldl_len r _ (fun p hp => h p (by simp [hp]))) ?_
    have := (partB_len (h q (by simp))).2
    simp
    omega
theorem joinL_len {l : List (List UInt8)} (h : ∀ p ∈ l, partB p = true) : (joinL l).length ≤ 4 * l.length := by
  cases l with
  | nil => simp [joinL]
  | cons p r =>
    refine Nat.le_trans (foldl_len r p (fun q hq => h q (by simp [hq]))) ?_
    have := (partB_len (h p (by simp))).2
    simp
    omega
theorem nameB_len {s : List UInt8} (h : nameB s = true) : s.length ≤ 12 := by
  obtain ⟨h1, h2⟩ := nameB_iff.1 h
  rw [← joinL_split s]
  have := joinL_len h1
  omega
/-- The name of the first k parts. -/
def pfx (s : List UInt8) (k : Nat) : List UInt8 := joinL ((splitL 46 s).take k)
theorem pfx_zero {s : List UInt8} : pfx s 0 = [] := by simp [pfx, joinL]
theorem pfx_all {s : List UInt8} {k : Nat} (hk : (splitL 46 s).length ≤ k) : pfx s k = s := by rw [pfx, List.take_of_length_le hk, joinL_split]
theorem part_at {s : List UInt8} (h : nameB s = true) {k : Nat} (hk : k < (splitL 46 s).length) : partB (nth (splitL 46 s) k) = true := (nameB_iff.1 h).1 _ (nth_mem hk)
theorem pfx_parts {s : List UInt8} (h : nameB s = true) (k : Nat) : ∀ p ∈ (splitL 46 s).take k, partB p = true := fun p hp => (nameB_iff.1 h).1 p (List.mem_of_mem_take hp)
theorem pfx_name {s : List UInt8} (h : nameB s = true) {k : Nat} (hk : 0 < k) : nameB (pfx s k) = true := by
  refine nameB_join ?_ (pfx_parts h k) ?_
  · intro e
    have e1 := congrArg List.length e
    have := splitL_pos 46 s
    rw [List.length_take, List.length_nil] at e1
    omega
  · have := (nameB_iff.1 h).2
    rw [List.length_take]
    omega
theorem pfx_pkg {s : List UInt8} (h : nameB s = true) (k : Nat) : pkgB (pfx s k) = true := by
  cases k with
  | zero => rw [pfx_zero]; rfl
  | succ k => rw [pkgB, pfx_name h (by omega), Bool.or_true]
theorem pfx_len {s : List UInt8} (h : nameB s = true) (k : Nat) : (pfx s k).length ≤ 12 := by
  cases k with
  | zero => rw [pfx_zero]; simp
  | succ k => exact nameB_len (pfx_name h (by omega))
theorem pfx_succ {s : List UInt8} (h : nameB s = true) {k : Nat} (hk : k < (splitL 46 s).length) : childL (pfx s k) (nth (splitL 46 s) k) = pfx s (k + 1) := by
  rw [pfx, pfx, take_succ_nth hk]
  cases k with
  | zero => simp [joinL, childL]
  | succ k =>
    have hn := nameB_ne (pfx_name h (k := k + 1) (by omega))
    rw [pfx] at hn
    rw [joinL_snoc, childL, hn]
    · rfl
    · intro e
      rw [e] at hn
      cases hn
theorem pfx_split {s : List UInt8} (h : nameB s = true) {k : Nat} (hk : 0 < k) : splitL 46 (pfx s k) = (splitL 46 s).take k := by
  refine splitL_join ?_ (pfx_parts h k)
  intro e
  have e1 := congrArg List.length e
  have := splitL_pos 46 s
  rw [List.length_take, List.length_nil] at e1
  omega

/-! ### What is found of a name -/
def specGo (l : List Fi) : List (List UInt8) → List UInt8 → Sp → Sp
  | [], _, o => o
  | q :: qs, p, o => if o.kind = 2 ∨ o.kind = 3 then specGo l qs (childL p q) (findF l o.roots p q) else noneSp
def specF (l : List Fi) (path : List Int) (s : List UInt8) : Sp := specGo l (splitL 46 s) [] ⟨3, -1, path⟩
def specB (l : List Fi) (path : List Int) (s : List UInt8) : Sp := if treeB l && pathB path && nameB s then specF l path s else noneSp
theorem findGo_kind (l : List Fi) (p s : List UInt8) : ∀ (path acc : List Int), (findGo l p s path acc).kind = 0 ∨ (findGo l p s path acc).kind = 1 ∨ (findGo l p s path acc).kind = 2 ∨ (findGo l p s path acc).kind = 3
  | [], acc => by unfold findGo; split <;> simp [noneSp]
  | r :: rs, acc => by
    unfold findGo
    split
    · simp
    · split
      · simp
      · exact findGo_kind l p s rs _
theorem findF_kind (l : List Fi) (path : List Int) (p s : List UInt8) : (findF l path p s).kind = 0 ∨ (findF l path p s).kind = 1 ∨ (findF l path p s).kind = 2 ∨ (findF l path p s).kind = 3 := findGo_kind l p s path []
end Go.Proofs.YtgjfjjhmgbemcaaGreatDoor

namespace Go.Proofs.YtgjfjjhmgbemcaaGreatDoor
open Go.RowKit

end Go.Proofs.YtgjfjjhmgbemcaaGreatDoor

namespace Go.Proofs.YtgjfjjhmgbemcaaGreatDoor
open Go.RowKit

theorem spec_S : StrT Tryz.prog 173 3 := ⟨⟨_, Tryz.underlying173⟩, by kernel_rfl⟩
/-- A Spec's value: its roots lie in memory. -/
def SpI (w : World) (B : Nat) (v : Value) (r : Sp) : Prop := ∃ a c, v = .agg #[.int .i64 r.kind, .int .i64 r.file, .slice a r.roots.length c] ∧ r.roots.length ≤ c ∧ IntsAt w B a r.roots.length r.roots
/-- The same, its roots in a row of the call's own. -/
def SpO (w : World) (B : Nat) (v : Value) (r : Sp) : Prop := ∃ a c, v = .agg #[.int .i64 r.kind, .int .i64 r.file, .slice a r.roots.length c] ∧ w.ownsRow B 3 1 (.slice a r.roots.length c) r.roots.length (ints r.roots)
theorem SpO.i {w : World} {B : Nat} {v : Value} {r : Sp} (h : SpO w B v r) (hn : r.roots.length ≤ 2097152) : SpI w B v r := by
  obtain ⟨a, c, e, ho⟩ := h
  exact ⟨a, c, e, own_cap ho, SpecAt.ints ho hn⟩
theorem findGo_roots2 (l : List Fi) (p s : List UInt8) : ∀ (path acc : List Int), (findGo l p s path acc).roots.length ≤ acc.length + path.length
  | [], acc => by
    unfold findGo
    split <;> simp [noneSp]
  | r :: rs, acc => by
    unfold findGo
    split
    · simp; omega
    · split
      · simp
      · refine Nat.le_trans (findGo_roots2 l p s rs _) ?_
        split <;> simp <;> omega
theorem findF_le (l : List Fi) (path : List Int) (p s : List UInt8) : (findF l path p s).roots.length ≤ path.length := by
  have := findGo_roots2 l p s path []
  simpa [findF] using this
theorem join_next {l : List (List UInt8)} {k : Nat} (hk : k < l.length) (h0 : 0 < k) : joinL (l.take k) ++ [46] ++ nth l k = joinL (l.take (k + 1)) := by
  rw [take_succ_nth hk, joinL_snoc]
  · simp
  · intro e
    have e1 := congrArg List.length e
    rw [List.length_take, List.length_nil] at e1
    omega

set_option maxHeartbeats 400000 in
theorem PartsOf_c (s : List UInt8) (w : World) (hs : nameB s = true) (hG : Gm w) : Calls Tryz.prog 127 #[.string ⟨(s).toArray⟩] w fun e w' =>
    ∃ a c, e = .returned (.slice a (splitL 46 s).length c) ∧ w'.ownsRow w.heap.size 9 1 (.slice a (splitL 46 s).length c) (splitL 46 s).length (strs (splitL 46 s)) ∧ X w w' := by
  have hl := nameB_len hs
  go_enter Tryz.func127, Tryz.ntmps127
  go_wp2_with (first | (go_at_call 77; refine (ValidName_c _ _ (by omega) hG).mono ?_; rintro _ _ ⟨rfl, x, rfl⟩; rw [hs]) | (go_at_call 131; refine (Split_c s 46 _ (by omega) (hG.mono (by (repeat (first | exact X.refl _ | assumption | refine X.ext ?_ _ | refine X.alloc ?_ _ | refine X.drew ?_))))).mono ?_; rintro _ w2 ⟨a, c, rfl, hown, hx⟩))
  go_ret
  exact ⟨a, c, rfl, own_less hown (by rw [World.size_ext]; omega), X.trans (by (repeat (first | exact X.refl _ | assumption | refine X.ext ?_ _ | refine X.alloc ?_ _ | refine X.drew ?_))) hx⟩

set_option maxHeartbeats 400000 in
theorem join_c (l : List (List UInt8)) (a : Option Addr) (n m c B : Nat) (w : World) (hS : StrsAt w B a n l) (hm : m ≤ n) (hp : ∀ p ∈ l, partB p = true) (hl : l.length ≤ 3) :
    Calls Tryz.prog 184 #[.slice a m c] w fun e w' => e = .returned (.string ⟨(joinL (l.take m)).toArray⟩) ∧ w = w' := by
  have hn := hS.1
  have hlen : ∀ k, (joinL (l.take k)).length ≤ 12 := fun k => by
    have h1 := joinL_len (l := l.take k) (fun p h => hp p (List.mem_of_mem_take h))
    rw [List.length_take] at h1
    omega
  have hn2 := hS.2.1
  have Hn := Lib.hid hn
  clear hn
  go_enter Tryz.func184, Tryz.ntmps184
  go_wp2
  go_loop [3, 4] (fun t i => ∃ k : Nat, k ≤ m ∧ i = .int .i64 k ∧ t = .string ⟨(joinL (l.take k)).toArray⟩) (fun _ i => m - (intOf i).toNat)
  case atStart => exact ⟨0, by omega, rfl, by simp [joinL]⟩
  case round =>
    obtain ⟨k, hk, rfl, rfl⟩ := hrel
    by_cases hlt : k < m
    · obtain ⟨b, off, rfl, _, hb, hcell, hpl⟩ := hS.at_ (k := k) (by omega)
      have hk1 := hlen k
      have hq := (partB_len (hp _ (nth_mem (l := l) (k := k) (by have := Hn.out; omega)))).2
      by_cases h0 : 0 < k
      · have He := Lib.hid (join_next (l := l) (k := k) (by have := Hn.out; omega) h0)
        go_wp2
        go_round
        case rel => exact ⟨k + 1, by omega, by go_num, by rw [← He.out]; simp⟩
        case measure => simp [intOf]; omega
      · obtain rfl : k = 0 := by omega
        have He : joinL (l.take (0 + 1)) = nth l 0 := by rw [take_succ_nth (by have := Hn.out; omega)]; simp [joinL]
        have He := Lib.hid He
        have e0 : joinL (l.take 0) = [] := by simp [joinL]
        rw [e0]
        clear e0
        rw [Nat.add_zero] at hcell
        go_wp2
        go_round
        case rel => exact ⟨0 + 1, by omega, by go_num, by rw [He.out]⟩
        case measure => simp [intOf]; omega
    · obtain rfl : k = m := by omega
      go_wp2
      go_ret
      exact ⟨rfl, rfl⟩

theorem join_p (s : List UInt8) (a : Option Addr) (n m c B : Nat) (w : World) (hS : StrsAt w B a n (splitL 46 s)) (hs : nameB s = true) (hm : m ≤ n) :
    Calls Tryz.prog 184 #[.slice a m c] w fun e w' => e = .returned (.string ⟨(pfx s m).toArray⟩) ∧ w' = w :=
  (join_c (splitL 46 s) a n m c B w hS hm (nameB_iff.1 hs).1 (nameB_iff.1 hs).2).mono fun _ _ ⟨h1, h2⟩ => ⟨h1, h2.symm⟩
end Go.Proofs.YtgjfjjhmgbemcaaGreatDoor

namespace Go.Proofs.YtgjfjjhmgbemcaaGreatDoor
open Go.RowKit

@[go_sem] theorem spec_field0 (k f : Int) (v : Value) (w : World) : (Instr.field 173 (.agg #[.int .i64 k, .int .i64 f, v]) 0).run Tryz.prog w = .ok (.int .i64 k) w := by kernel_rfl
@[go_sem] theorem spec_field1 (k f : Int) (v : Value) (w : World) : (Instr.field 173 (.agg #[.int .i64 k, .int .i64 f, v]) 1).run Tryz.prog w = .ok (.int .i64 f) w := by kernel_rfl
@[go_sem] theorem spec_field2 (k f : Int) (v : Value) (w : World) : (Instr.field 173 (.agg #[.int .i64 k, .int .i64 f, v]) 2).run Tryz.prog w = .ok v w := by
  kernel_rfl
def packB (l : List Fi) (path : List Int) (s : List UInt8) : Bool := (specB l path s).kind == 2 || (specB l path s).kind == 3
def canB (l : List Fi) (path : List Int) (s : List UInt8) : Bool := (specB l path s).kind != 0
def Pk (o : Sp) : Prop := (o.kind = 2 ∨ o.kind = 3) ↔ 0 < o.roots.length
end Go.Proofs.YtgjfjjhmgbemcaaGreatDoor

namespace Go.Proofs.YtgjfjjhmgbemcaaGreatDoor
open Go.RowKit

theorem findGo_sub (l : List Fi) (p s : List UInt8) (R : List Int) : ∀ (path acc : List Int), (∀ x ∈ path, x ∈ R) → (∀ x ∈ acc, x ∈ R) → ∀ x ∈ (findGo l p s path acc).roots, x ∈ R
  | [], acc, _, ha => by
    unfold findGo
    split
    · simp [noneSp]
    · exact ha
  | r :: rs, acc, hp, ha => by
    unfold findGo
    split
    · intro x hx
      obtain rfl : x = r := by simpa using hx
      exact hp x (by simp)
    · split
      · simp
      · refine findGo_sub l p s R rs _ (fun x hx => hp x (by simp [hx])) ?_
        split
        · intro x hx
          rcases List.mem_append.1 hx with hx | hx
          · exact ha x hx
          · obtain rfl : x = r := by simpa using hx
            exact hp x (by simp)
        · exact ha
/-- The file of a Spec is of the module m. -/
def FileOf (l : List Fi) (path : List Int) (m : List UInt8) (o : Sp) : Prop := 0 ≤ o.file → ∃ j, j < l.length ∧ o.file = (j : Int) ∧ moduleB (nth l j) = m ∧ (nth l j).root ∈ path ∧ ((nth l j).init = true ↔ o.kind = 2)
theorem findF_file (l : List Fi) (path roots : List Int) (p s : List UInt8) (hsub : ∀ x ∈ roots, x ∈ path) : FileOf l path (childL p s) (findF l roots p s) := by
  intro h
  obtain ⟨k, hk, _, hh, e⟩ := findGo_hit (acc := []) h
  obtain ⟨j, hj, f1, f2, f3, f4, _⟩ := oneF_file hh
  exact ⟨j, hj, by rw [findF, e, f1], f3, by rw [f2]; exact hsub _ (nth_mem hk), by rw [f4, findF, e]⟩
theorem specGo_file (l : List Fi) (path : List Int) : ∀ (ps : List (List UInt8)) (p : List UInt8) (o : Sp), (∀ x ∈ o.roots, x ∈ path) → FileOf l path p o → FileOf l path (ps.foldl childL p) (specGo l ps p o)
  | [], _, _, _, h => h
  | q :: qs, p, o, hs, _ => by
    unfold specGo
    split
    · exact specGo_file l path qs _ _ (findGo_sub l p q path o.roots [] hs (by simp)) (findF_file l path o.roots p q hs)
    · intro h; exact absurd h (by simp [noneSp])
theorem foldl_pfx {s : List UInt8} (h : nameB s = true) : ∀ k, k ≤ (splitL 46 s).length → ((splitL 46 s).take k).foldl childL [] = pfx s k
  | 0, _ => by rw [pfx_zero]; simp
  | k + 1, hk => by rw [take_succ_nth (by omega), List.foldl_append, foldl_pfx h k (by omega), List.foldl_cons, List.foldl_nil, pfx_succ h (by omega)]
theorem foldl_name {s : List UInt8} (h : nameB s = true) : (splitL 46 s).foldl childL [] = s := by
  have := foldl_pfx h _ (Nat.le_refl _)
  rwa [List.take_length, pfx_all (Nat.le_refl _)] at this
theorem specFile_law {l : List Fi} {path : List Int} {s : List UInt8} (h : 0 ≤ (specB l path s).file) :
    ∃ j, j < l.length ∧ (specB l path s).file = (j : Int) ∧ moduleOf (nth l j) = s ∧ (nth l j).root ∈ path ∧ (nth l j).init = ((specB l path s).kind == 2) := by
  cases hv : (treeB l && pathB path && nameB s)
  · rw [specB, hv] at h; simp [noneSp] at h
  · have e : specB l path s = specF l path s := by rw [specB, hv]; rfl
    rw [e] at h ⊢
    simp only [Bool.and_eq_true] at hv
    obtain ⟨⟨v1, v2⟩, v3⟩ := hv
    obtain ⟨j, hj, f1, f2, f3, f4⟩ := specGo_file l path (splitL 46 s) [] ⟨3, -1, path⟩ (fun x hx => hx) (fun h => absurd h (by simp)) h
    refine ⟨j, hj, f1, ?_, f3, ?_⟩
    · rw [moduleOf, treeB_file v1 hj, if_pos rfl, f2, foldl_name v3]
    · rw [Bool.eq_iff_iff, f4, specF]; simp


end Go.Proofs.YtgjfjjhmgbemcaaGreatDoor

namespace Go.Proofs.YtgjfjjhmgbemcaaGreatDoor
open Go.RowKit

/-- r is the last index of c in s, -1 if there is none. -/
def LastAt (s : List UInt8) (c : UInt8) (r : Int) : Prop := (r = -1 ∧ ∀ j, j < s.length → nth s j ≠ c) ∨ ∃ k : Nat, r = (k : Int) ∧ k < s.length ∧ nth s k = c ∧ ∀ j, k < j → j < s.length → nth s j ≠ c
set_option maxHeartbeats 400000 in
theorem LastIndexByteString_c (s : List UInt8) (c : UInt8) (w : World) (hs : s.length ≤ 4194304) : Calls Tryz.prog 202 #[.string ⟨(s).toArray⟩, .int .u8 (c.toNat : Int)] w fun e w' => (∃ r, e = .returned (.int .i64 r) ∧ LastAt s c r) ∧ w = w' := by
  have q0 : IntKind.i64.wrap ((s.length : Int) - 1) = (s.length : Int) - 1 := IntWalk.i64_in _ (by omega)
  go_enter Tryz.func202, Tryz.ntmps202
  go_wp2
  go_loop [5] (fun i => ∃ k : Nat, k ≤ s.length ∧ i = .int .i64 ((k : Int) - 1) ∧ ∀ j, k ≤ j → j < s.length → nth s j ≠ c) (fun i => (intOf i + 1).toNat)
  case atStart => exact ⟨s.length, by omega, rfl, fun j h1 h2 => by omega⟩
  case round =>
    obtain ⟨k, hk, rfl, hno⟩ := hrel
    rcases Nat.eq_zero_or_pos k with rfl | h0
    · have h1 : ¬ (0 : Int) ≤ ((0 : Nat) : Int) - 1 := by omega
      go_wp2
      go_ret
      exact ⟨⟨_, rfl, .inl ⟨rfl, fun j hj => hno j (Nat.zero_le _) hj⟩⟩, rfl⟩
    · obtain ⟨m, rfl⟩ : ∃ m, k = m + 1 := ⟨k - 1, by omega⟩
      have e1 : (((m + 1 : Nat) : Int) - 1) = (m : Int) := by omega
      rw [e1]
      clear e1
      have q1 : IntKind.i64.wrap ((m : Int) - 1) = (m : Int) - 1 := IntWalk.i64_in _ (by omega)
      have hm : m < s.length := by omega
      have hm1 : (m : Int) < (s.length : Int) := by omega
      have hm0 : (0 : Int) ≤ (m : Int) := by omega
      cases he : ((nth s m).toNat : Int) == (c.toNat : Int)
      · have hne : nth s m ≠ c := by rintro rfl; simp at he
        have Hno := Lib.hid hno
        clear hno
        go_wp2
        go_round
        case rel => exact ⟨m, by omega, rfl, fun j h1 h2 => by
          by_cases e : j = m
          · subst e; exact hne
          · exact Hno.out j (by omega) h2⟩
        case measure => simp [intOf]
      · have hc : nth s m = c := by have := beq_iff_eq.1 he; exact UInt8.toNat_inj.1 (by omega)
        have Hno := Lib.hid hno
        have Hc := Lib.hid hc
        clear hno hc
        go_wp2
        go_ret
        exact ⟨⟨_, rfl, .inr ⟨m, rfl, hm, Hc.out, fun j h1 h2 => Hno.out j (by omega) h2⟩⟩, rfl⟩
set_option maxHeartbeats 400000 in
theorem LastIndexByte_c (s : List UInt8) (c : UInt8) (w : World) (hs : s.length ≤ 4194304) : Calls Tryz.prog 179 #[.string ⟨(s).toArray⟩, .int .u8 (c.toNat : Int)] w fun e w' => (∃ r, e = .returned (.int .i64 r) ∧ LastAt s c r) ∧ w = w' := by
  go_enter Tryz.func179, Tryz.ntmps179
  go_wp2_with (go_at_call 202; refine (LastIndexByteString_c s c _ hs).mono ?_; rintro _ _ ⟨⟨r, rfl, hr⟩, rfl⟩)
  go_ret
  exact ⟨⟨r, rfl, hr⟩, rfl⟩
theorem LastAt.here {p q : List UInt8} {c : UInt8} {r : Int} (h : LastAt (p ++ c :: q) c r) (hq : ∀ x ∈ q, x ≠ c) : r = (p.length : Int) := by
  have hp : nth (p ++ c :: q) p.length = c := by
    have := nth_append_right (l := p) (m := c :: q) 0
    rw [Nat.add_zero] at this
    rw [this]; rfl
  have hlen : (p ++ c :: q).length = p.length + (q.length + 1) := by simp
  rcases h with ⟨_, h⟩ | ⟨k, rfl, hk, e, hn⟩
  · exact absurd hp (h _ (by omega))
  · rcases Nat.lt_trichotomy k p.length with h1 | h1 | h1
    · exact absurd hp (hn _ h1 (by omega))
    · omega
    · obtain ⟨d, rfl⟩ : ∃ d, k = p.length + (d + 1) := ⟨k - p.length - 1, by omega⟩
      rw [nth_append_right] at e
      have e : nth q d = c := e
      exact absurd e (hq _ (nth_mem (by omega)))
theorem LastAt.none {s : List UInt8} {c : UInt8} {r : Int} (h : LastAt s c r) (hq : ∀ x ∈ s, x ≠ c) : r = -1 := by
  rcases h with ⟨e, _⟩ | ⟨k, _, hk, e, _⟩
  · exact e
  · exact absurd e (hq _ (nth_mem hk))
theorem part_clean {p : List UInt8} (h : partB p = true) : ∀ x ∈ p, x ≠ 46 := fun x hx => by
  rw [partB, Bool.and_eq_true] at h
  obtain ⟨k, hk, rfl⟩ := List.getElem_of_mem hx
  have := allN_iff.1 h.2 k hk
  rw [nth_eq hk] at this
  rintro e
  rw [e] at this
  exact absurd this (by decide)
def parentF (s : List UInt8) : List UInt8 := if nameB s then pfx s ((splitL 46 s).length - 1) else []
def lastF (s : List UInt8) : List UInt8 := if nameB s then nth (splitL 46 s) ((splitL 46 s).length - 1) else []
theorem name_parts {s : List UInt8} (h : nameB s = true) : (parentF s = [] ∧ lastF s = s ∧ (splitL 46 s).length = 1 ∧ (∀ x ∈ s, x ≠ 46)) ∨
    ∃ m, (splitL 46 s).length = m + 2 ∧ parentF s = pfx s (m + 1) ∧ lastF s = nth (splitL 46 s) (m + 1) ∧ s = parentF s ++ 46 :: lastF s ∧ (∀ x ∈ lastF s, x ≠ 46) := by
  have hp := splitL_pos 46 s
  rcases Nat.lt_or_ge 1 (splitL 46 s).length with h1 | h1
  · right
    obtain ⟨m, hm⟩ : ∃ m, (splitL 46 s).length = m + 2 := ⟨(splitL 46 s).length - 2, by omega⟩
    have e1 : parentF s = pfx s (m + 1) := by rw [parentF, h, if_pos rfl, hm]; rfl
    have e2 : lastF s = nth (splitL 46 s) (m + 1) := by rw [lastF, h, if_pos rfl, hm]; rfl
    have hs := pfx_succ h (k := m + 1) (by omega)
    rw [pfx_all (s := s) (k := m + 1 + 1) (by omega), childL, nameB_ne (pfx_name h (k := m + 1) (by omega))] at hs
    exact ⟨m, hm, e1, e2, by rw [e1, e2]; exact hs.symm, by rw [e2]; exact part_clean (part_at h (by omega))⟩
  · left
    have hm : (splitL 46 s).length = 1 := by omega
    have h2 := pfx_succ h (k := 0) (by omega)
    rw [pfx_zero, pfx_all (s := s) (k := 0 + 1) (by omega)] at h2
    have h2 : nth (splitL 46 s) 0 = s := h2
    exact ⟨by rw [parentF, h, if_pos rfl, hm]; exact pfx_zero, by rw [lastF, h, if_pos rfl, hm]; exact h2, hm, by rw [← h2]; exact part_clean (part_at h (by omega))⟩
set_option maxRecDepth 100000 in
set_option maxHeartbeats 400000 in
theorem ParentOf_c (s : List UInt8) (w : World) (hs : s.length ≤ 4194304) (hG : Gm w) : Calls Tryz.prog 142 #[.string ⟨(s).toArray⟩] w fun e w' => e = .returned (.string ⟨(parentF s).toArray⟩) ∧ X w w' := by
  cases h : nameB s
  · rw [show parentF s = [] by rw [parentF, h]; rfl]
    go_enter Tryz.func142, Tryz.ntmps142
    go_wp2_with (first | (go_at_call 179; refine (LastIndexByte_c s 46 _ hs).mono ?_; rintro _ _ ⟨⟨r, rfl, hr⟩, rfl⟩) | (go_at_call 77; refine (ValidName_c _ _ hs hG).mono ?_; rintro _ _ ⟨rfl, x, rfl⟩))
    go_ret
    exact ⟨rfl, by (repeat (first | exact X.refl _ | assumption | refine X.ext ?_ _ | refine X.alloc ?_ _ | refine X.drew ?_))⟩
  · rcases name_parts h with ⟨e1, e2, _, hn⟩ | ⟨m, hm, y1, y2, e3, hn⟩
    · rw [e1]
      clear e1 e2
      go_enter Tryz.func142, Tryz.ntmps142
      go_wp2_with (first | (go_at_call 179; refine (LastIndexByte_c s 46 _ hs).mono ?_; rintro _ _ ⟨⟨r, rfl, hr⟩, rfl⟩; obtain rfl := hr.none hn) | (go_at_call 77; refine (ValidName_c _ _ hs hG).mono ?_; rintro _ _ ⟨rfl, x, rfl⟩))
      go_ret
      exact ⟨rfl, by (repeat (first | exact X.refl _ | assumption | refine X.ext ?_ _ | refine X.alloc ?_ _ | refine X.drew ?_))⟩
    · generalize parentF s = p at *
      generalize lastF s = q at *
      have hl : s.length = p.length + (q.length + 1) := by rw [e3]; simp
      have hp0 : ¬ (p.length : Int) < 0 := by omega
      have hp1 : p.length ≤ s.length := by omega
      have Ht := Lib.hid (show List.take p.length s = p by rw [e3]; simp)
      have Hr := Lib.hid (show ∀ r, LastAt s 46 r → r = (p.length : Int) from fun r hr => (show LastAt (p ++ 46 :: q) 46 r by rw [← e3]; exact hr).here hn)
      clear hm hl e3 hn y1 y2
      go_enter Tryz.func142, Tryz.ntmps142
      go_wp2_with (first | (go_at_call 179; refine (LastIndexByte_c s 46 _ hs).mono ?_; rintro _ _ ⟨⟨r, rfl, hr⟩, rfl⟩; obtain rfl := Hr.out _ hr; clear hr) | (go_at_call 77; refine (ValidName_c _ _ hs hG).mono ?_; rintro _ _ ⟨rfl, x, rfl⟩))
      go_ret
      exact ⟨by simp [Ht.out], by (repeat (first | exact X.refl _ | assumption | refine X.ext ?_ _ | refine X.alloc ?_ _ | refine X.drew ?_))⟩
set_option maxRecDepth 100000 in
set_option maxHeartbeats 400000 in
theorem LastOf_c (s : List UInt8) (w : World) (hs : s.length ≤ 4194304) (hG : Gm w) : Calls Tryz.prog 146 #[.string ⟨(s).toArray⟩] w fun e w' => e = .returned (.string ⟨(lastF s).toArray⟩) ∧ X w w' := by
  cases h : nameB s
  · rw [show lastF s = [] by rw [lastF, h]; rfl]
    go_enter Tryz.func146, Tryz.ntmps146
    go_wp2_with (go_at_call 77; refine (ValidName_c _ _ hs hG).mono ?_; rintro _ _ ⟨rfl, x, rfl⟩)
    go_ret
    exact ⟨rfl, by (repeat (first | exact X.refl _ | assumption | refine X.ext ?_ _ | refine X.alloc ?_ _ | refine X.drew ?_))⟩
  · rcases name_parts h with ⟨e1, e2, _, hn⟩ | ⟨m, hm, y1, y2, e3, hn⟩
    · rw [e2]
      clear e1 e2
      go_enter Tryz.func146, Tryz.ntmps146
      go_wp2_with (first | (go_at_call 179; refine (LastIndexByte_c s 46 _ hs).mono ?_; rintro _ _ ⟨⟨r, rfl, hr⟩, rfl⟩; obtain rfl := hr.none hn) | (go_at_call 77; refine (ValidName_c _ _ hs hG).mono ?_; rintro _ _ ⟨rfl, x, rfl⟩))
      go_ret
      exact ⟨by simp, by (repeat (first | exact X.refl _ | assumption | refine X.ext ?_ _ | refine X.alloc ?_ _ | refine X.drew ?_))⟩
    · generalize parentF s = p at *
      generalize lastF s = q at *
      have hl : s.length = p.length + (q.length + 1) := by rw [e3]; simp
      have q1 : IntKind.i64.wrap ((p.length : Int) + 1) = (p.length : Int) + 1 := IntWalk.i64_in _ (by omega)
      have q2 : (0 : Int) ≤ (p.length : Int) + 1 := by omega
      have q3 : ((p.length : Int) + 1).toNat = p.length + 1 := by omega
      have q4 : (p.length : Int) + 1 ≤ (s.length : Int) := by omega
      have Ht := Lib.hid (show List.take (s.length - (p.length + 1)) (List.drop (p.length + 1) s) = q by rw [e3]; simp; exact List.take_of_length_le (by omega))
      have Hr := Lib.hid (show ∀ r, LastAt s 46 r → r = (p.length : Int) from fun r hr => (show LastAt (p ++ 46 :: q) 46 r by rw [← e3]; exact hr).here hn)
      clear hm hl e3 hn y1 y2
      go_enter Tryz.func146, Tryz.ntmps146
      go_wp2_with (first | (go_at_call 179; refine (LastIndexByte_c s 46 _ hs).mono ?_; rintro _ _ ⟨⟨r, rfl, hr⟩, rfl⟩; obtain rfl := Hr.out _ hr; clear hr) | (go_at_call 77; refine (ValidName_c _ _ hs hG).mono ?_; rintro _ _ ⟨rfl, x, rfl⟩))
      go_ret
      exact ⟨by simp [Ht.out], by (repeat (first | exact X.refl _ | assumption | refine X.ext ?_ _ | refine X.alloc ?_ _ | refine X.drew ?_))⟩

end Go.Proofs.YtgjfjjhmgbemcaaGreatDoor
