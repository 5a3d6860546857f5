/- Several texts in one: Space, First, Parts, FmtLaw, FmtRt, FmtLen. No condition but lengths. -/
import Derived.Test.YtmhcmabiolaoaaaGreatDoorMb
import Derived.Lib.ItoaNum
import Derived.Lib.AtoiAll
namespace Go.Proofs.YtmhcmabiolaoaaaGreatDoor
open Go.RowKit

theorem findGo_roots (l : List Fi) (p s : List UInt8) : ∀ (path acc : List Int), (findGo l p s path acc).roots.length ≤ acc.length + path.length + 1
  | [], acc => by
    unfold findGo
    split <;> simp [noneSp]
  | r :: rs, acc => by
    unfold findGo
    split
    · simp
    · split
      · simp
      · refine Nat.le_trans (findGo_roots l p s rs _) ?_
        split <;> simp <;> omega
theorem findInF_roots (l : List Fi) (path : List Int) (p s : List UInt8) : (findInF l path p s).roots.length ≤ path.length + 1 := by
  unfold findInF
  split
  · have := findGo_roots l p s path []
    simpa [findF] using this
  · simp [noneSp]
theorem findGo_space (l : List Fi) (p s : List UInt8) : ∀ (path acc : List Int), (findGo l p s path acc).kind = 3 → (findGo l p s path acc).file = -1 ∧
    (findGo l p s path acc).roots = acc ++ path.filter (fun x => dirS l x (childL p s)) ∧ ∀ x ∈ path, ¬ 0 ≤ fidx l (initF x (childL p s)) ∧ ¬ 0 ≤ fidx l (fileF x p s)
  | [], acc => fun h => by
    unfold findGo at h ⊢
    split at h
    · simp [noneSp] at h
    · rename_i h0
      simp [h0]
  | r :: rs, acc => fun h => by
    unfold findGo at h ⊢
    split at h
    · simp at h
    · rename_i h1
      split at h
      · simp at h
      · rename_i h2
        obtain ⟨e1, e2, e3⟩ := findGo_space l p s rs _ h
        rw [if_neg h1, if_neg h2]
        refine ⟨e1, ?_, ?_⟩
        · rw [e2]
          cases hd : dirS l r (childL p s) <;> simp [hd]
        · intro x hx
          rcases List.mem_cons.1 hx with rfl | hx
          · exact ⟨h1, h2⟩
          · exact e3 x hx
/-- What HasDir answers. -/
def hasB (l : List Fi) (r : Int) (p : List UInt8) : Bool := treeB l && rangeB r 0 2 && pkgB p && dirS l r p
theorem space_law {l : List Fi} {path : List Int} {p s : List UInt8} (h : (findInF l path p s).kind = 3) : (findInF l path p s).file = -1 ∧ (findInF l path p s).roots = path.filter (fun x => hasB l x (childOf p s)) ∧
    ∀ k, k < path.length → (findInF l [nth path k] p s).file = -1 := by
  have hv : (treeB l && pathB path && pkgB p && partB s && nameB (childL p s)) = true := by
    cases hv : (treeB l && pathB path && pkgB p && partB s && nameB (childL p s))
    · rw [findInF, hv] at h; simp [noneSp] at h
    · rfl
  rw [findInF, hv] at h
  rw [findInF, hv]
  simp only [if_true] at h ⊢
  obtain ⟨e1, e2, e3⟩ := findGo_space l p s path [] h
  simp only [Bool.and_eq_true] at hv
  obtain ⟨⟨⟨⟨v1, v2⟩, v3⟩, v4⟩, v5⟩ := hv
  have hpk : pkgB (childL p s) = true := by simp [pkgB, v5]
  have hch : childOf p s = childL p s := by simp [childOf, v3, v4, v5]
  refine ⟨e1, ?_, ?_⟩
  · rw [findF, e2, List.nil_append]
    apply List.filter_congr
    intro x hx
    obtain ⟨k, hk, rfl⟩ := List.getElem_of_mem hx
    have := allN_iff.1 v2 k hk
    rw [Bool.and_eq_true, nth_eq hk] at this
    simp [hasB, v1, this.1, hch, hpk]
  · intro k hk
    obtain ⟨f1, f2⟩ := e3 _ (nth_mem hk)
    unfold findInF
    split
    · rw [findF, findGo, if_neg f1, if_neg f2, findGo]
      split <;> simp [noneSp]
    · rfl

end Go.Proofs.YtmhcmabiolaoaaaGreatDoor

namespace Go.Proofs.YtmhcmabiolaoaaaGreatDoor
open Go.RowKit

def hitP (l : List Fi) (p s : List UInt8) (r : Int) : Prop := 0 ≤ fidx l (initF r (childL p s)) ∨ 0 ≤ fidx l (fileF r p s)
/-- What one root gives. -/
def oneF (l : List Fi) (p s : List UInt8) (r : Int) : Sp := if 0 ≤ fidx l (initF r (childL p s)) then ⟨2, fidx l (initF r (childL p s)), [r]⟩ else ⟨1, fidx l (fileF r p s), []⟩
theorem fidx_place {l : List Fi} {f : Fi} (h : 0 ≤ fidx l f) : ∃ j, j < l.length ∧ fidx l f = (j : Int) ∧ sameP (nth l j) f = true := by
  unfold fidx at h ⊢
  rcases firstN_cases (fun k => sameP (nth l k) f) l.length with ⟨_, e⟩ | ⟨k, hk, h1, _, e⟩
  · rw [e] at h; omega
  · exact ⟨k, hk, e, h1⟩
theorem findGo_at (l : List Fi) (p s : List UInt8) : ∀ (path acc : List Int) (k : Nat), k < path.length → (∀ i, i < k → ¬ hitP l p s (nth path i)) → hitP l p s (nth path k) → findGo l p s path acc = oneF l p s (nth path k)
  | [], _, k, hk, _, _ => absurd hk (by simp)
  | r :: rs, acc, 0, _, _, hh => by
    have hh : hitP l p s r := hh
    show findGo l p s (r :: rs) acc = oneF l p s r
    unfold findGo oneF
    rcases hh with h | h
    · rw [if_pos h, if_pos h]
    · by_cases h1 : 0 ≤ fidx l (initF r (childL p s))
      · rw [if_pos h1, if_pos h1]
      · rw [if_neg h1, if_neg h1, if_pos h]
  | r :: rs, acc, k + 1, hk, hn, hh => by
    have h0 : ¬ hitP l p s r := hn 0 (by omega)
    unfold findGo
    rw [if_neg (fun h => h0 (.inl h)), if_neg (fun h => h0 (.inr h))]
    exact findGo_at l p s rs _ k (by simpa using hk) (fun i hi => hn (i + 1) (by omega)) hh
theorem findGo_no (l : List Fi) (p s : List UInt8) : ∀ (path acc : List Int), (∀ i, i < path.length → ¬ hitP l p s (nth path i)) → (findGo l p s path acc).file = -1
  | [], acc, _ => by unfold findGo; split <;> rfl
  | r :: rs, acc, hn => by
    have h0 : ¬ hitP l p s r := hn 0 (by simp)
    unfold findGo
    rw [if_neg (fun h => h0 (.inl h)), if_neg (fun h => h0 (.inr h))]
    exact findGo_no l p s rs _ (fun i hi => hn (i + 1) (by simpa using hi))
theorem first_hit {P : Nat → Prop} [DecidablePred P] : ∀ n : Nat, (∀ i, i < n → ¬ P i) ∨ ∃ k, k < n ∧ P k ∧ ∀ i, i < k → ¬ P i
  | 0 => .inl fun i hi => absurd hi (by omega)
  | n + 1 => by
    rcases first_hit (P := P) n with h | ⟨k, hk, hp, hn⟩
    · by_cases hp : P n
      · exact .inr ⟨n, by omega, hp, h⟩
      · exact .inl fun i hi => by
          by_cases e : i = n
          · subst e; exact hp
          · exact h i (by omega)
    · exact .inr ⟨k, by omega, hp, hn⟩
theorem findGo_hit {l : List Fi} {p s : List UInt8} {path acc : List Int} (h : 0 ≤ (findGo l p s path acc).file) :
    ∃ k, k < path.length ∧ (∀ i, i < k → ¬ hitP l p s (nth path i)) ∧ hitP l p s (nth path k) ∧ findGo l p s path acc = oneF l p s (nth path k) := by
  haveI : DecidablePred (fun i => hitP l p s (nth path i)) := fun i => by unfold hitP; infer_instance
  rcases first_hit (P := fun i => hitP l p s (nth path i)) path.length with hn | ⟨k, hk, hh, hn⟩
  · rw [findGo_no l p s path acc hn] at h; omega
  · exact ⟨k, hk, hn, hh, findGo_at l p s path acc k hk hn hh⟩
theorem pathB_take {path : List Int} (h : pathB path = true) (m : Nat) : pathB (path.take m) = true := by
  unfold pathB at h ⊢
  rw [allN_iff] at h ⊢
  intro k hk
  rw [List.length_take] at hk
  have h1 := h k (by omega)
  rw [nth_take (by omega)]
  rw [Bool.and_eq_true] at h1 ⊢
  refine ⟨h1.1, ?_⟩
  rw [anyN_congr (q := fun j => nth path j == nth path k) (fun j hj => by rw [nth_take (by omega)])]
  exact h1.2
theorem pathB_ne {path : List Int} (h : pathB path = true) {i k : Nat} (hik : i < k) (hk : k < path.length) : nth path i ≠ nth path k := by
  have h1 := allN_iff.1 h k hk
  rw [Bool.and_eq_true] at h1
  have h2 : anyN (fun j => nth path j == nth path k) k = false := by simpa using h1.2
  have := anyN_false.1 h2 i hik
  simpa using this
/-- The file that one root gives: its root, its module, whether it is a package's. -/
theorem oneF_file {l : List Fi} {p s : List UInt8} {r : Int} (hh : hitP l p s r) : ∃ j, j < l.length ∧ (oneF l p s r).file = (j : Int) ∧ (nth l j).root = r ∧ moduleB (nth l j) = childL p s ∧ ((nth l j).init = true ↔ (oneF l p s r).kind = 2) ∧ ((oneF l p s r).kind = 1 ∨ (oneF l p s r).kind = 2) := by
  unfold oneF
  by_cases h1 : 0 ≤ fidx l (initF r (childL p s))
  · rw [if_pos h1]
    obtain ⟨j, hj, e, hs⟩ := fidx_place h1
    obtain ⟨s1, s2, s3, s4⟩ := sameP_iff.1 hs
    exact ⟨j, hj, e, s1, by rw [moduleB, s3, s2]; rfl, by rw [s3]; simp [initF], .inr rfl⟩
  · rw [if_neg h1]
    obtain ⟨j, hj, e, hs⟩ := fidx_place (hh.resolve_left h1)
    obtain ⟨s1, s2, s3, s4⟩ := sameP_iff.1 hs
    exact ⟨j, hj, e, s1, by rw [moduleB, s3, s2, s4]; rfl, by rw [s3]; simp [fileF], .inl rfl⟩
theorem first_law {l : List Fi} {path : List Int} {p s : List UInt8} (h : 0 ≤ (findInF l path p s).file) :
    ∃ j k, j < l.length ∧ (findInF l path p s).file = (j : Int) ∧ k < path.length ∧ nth path k = (nth l j).root ∧ (∀ i, i < k → nth path i ≠ (nth l j).root) ∧ (findInF l (path.take k) p s).file = -1 ∧
      findInF l (path.take (k + 1)) p s = findInF l path p s ∧ moduleOf (nth l j) = childOf p s := by
  have hv : (treeB l && pathB path && pkgB p && partB s && nameB (childL p s)) = true := by
    cases hv : (treeB l && pathB path && pkgB p && partB s && nameB (childL p s))
    · rw [findInF, hv] at h; simp [noneSp] at h
    · rfl
  have e0 : findInF l path p s = findGo l p s path [] := by rw [findInF, hv]; rfl
  simp only [Bool.and_eq_true] at hv
  obtain ⟨⟨⟨⟨v1, v2⟩, v3⟩, v4⟩, v5⟩ := hv
  have et : ∀ m, findInF l (path.take m) p s = findGo l p s (path.take m) [] := fun m => by
    rw [findInF, v1, pathB_take v2 m, v3, v4, v5]; rfl
  rw [e0] at h ⊢
  obtain ⟨k, hk, hn, hh, e⟩ := findGo_hit h
  obtain ⟨j, hj, f1, f2, f3, _, _⟩ := oneF_file hh
  refine ⟨j, k, hj, by rw [e, f1], hk, f2.symm, fun i hi => by rw [f2]; exact pathB_ne v2 hi hk, ?_, ?_, ?_⟩
  · rw [et]
    exact findGo_no l p s _ _ fun i hi => by
      rw [List.length_take] at hi
      rw [nth_take (by omega)]
      exact hn i (by omega)
  · rw [et, e, findGo_at l p s (path.take (k + 1)) [] k (by rw [List.length_take]; omega) (fun i hi => by rw [nth_take (by omega)]; exact hn i hi) (by rw [nth_take (by omega)]; exact hh), nth_take (by omega)]
  · rw [moduleOf, treeB_file v1 hj, if_pos rfl, f3]
    simp [childOf, v3, v4, v5]

end Go.Proofs.YtmhcmabiolaoaaaGreatDoor

namespace Go.Proofs.YtmhcmabiolaoaaaGreatDoor
open Go.RowKit

def joinL : List (List UInt8) → List UInt8
  | [] => []
  | p :: ps => ps.foldl (fun a q => a ++ 46 :: q) p
theorem joinL_snoc {l : List (List UInt8)} (h : l ≠ []) (q : List UInt8) : joinL (l ++ [q]) = joinL l ++ 46 :: q := by
  cases l with
  | nil => exact absurd rfl h
  | cons p ps => simp [joinL, List.foldl_append]
theorem join_foldl (x p : List UInt8) (r : List (List UInt8)) : r.foldl (fun a q => a ++ 46 :: q) (x ++ p) = x ++ r.foldl (fun a q => a ++ 46 :: q) p := by
  induction r generalizing p with
  | nil => rfl
  | cons q r ih =>
    simp only [List.foldl_cons]
    rw [List.append_assoc, ih]
theorem joinL_pre (x : List UInt8) {L : List (List UInt8)} (h : L ≠ []) : joinL (preL x L) = x ++ joinL L := by
  cases L with
  | nil => exact absurd rfl h
  | cons p r => exact join_foldl x p r
theorem joinL_hit {L : List (List UInt8)} (h : L ≠ []) : joinL ([] :: L) = 46 :: joinL L := by
  cases L with
  | nil => exact absurd rfl h
  | cons p r => exact join_foldl [46] p r
theorem joinL_split (s : List UInt8) : joinL (splitL 46 s) = s := by
  induction s with
  | nil => rfl
  | cons b s ih =>
    cases h : b == 46
    · rw [splitL_miss h, joinL_pre [b] (splitL_ne _ _), ih]; rfl
    · obtain rfl : b = 46 := by simpa using h
      rw [splitL_hit, joinL_hit (splitL_ne _ _), ih]
theorem splitL_mid (a b : List UInt8) : splitL 46 (a ++ 46 :: b) = splitL 46 a ++ splitL 46 b := by
  induction a with
  | nil => rw [List.nil_append, splitL_hit]; rfl
  | cons x a ih =>
    cases h : x == 46
    · rw [List.cons_append, splitL_miss h, splitL_miss h, ih]
      cases h' : splitL 46 a with
      | nil => exact absurd h' (splitL_ne _ _)
      | cons p r => rfl
    · obtain rfl : x = 46 := by simpa using h
      rw [List.cons_append, splitL_hit, splitL_hit, ih]; rfl
theorem splitL_clean : ∀ {p : List UInt8}, (∀ x ∈ p, x ≠ 46) → splitL 46 p = [p]
  | [], _ => rfl
  | x :: p, h => by
    rw [splitL_miss (by simpa using h x (by simp)), splitL_clean (fun y hy => h y (by simp [hy]))]
    rfl
theorem partB_split {p : List UInt8} (h : partB p = true) : splitL 46 p = [p] := by
  refine splitL_clean fun x hx => ?_
  rw [partB, Bool.and_eq_true] at h
  obtain ⟨k, hk, rfl⟩ := List.getElem_of_mem hx
  have := allN_iff.1 h.2 k hk
  rw [nth_eq hk] at this
  rintro e
  rw [e] at this
  exact absurd this (by decide)
theorem partB_len {p : List UInt8} (h : partB p = true) : 1 ≤ p.length ∧ p.length ≤ 3 := by
  rw [partB, Bool.and_eq_true] at h
  have := rangeB_iff.1 h.1
  omega
theorem split_foldl : ∀ (r : List (List UInt8)) (a : List UInt8), (∀ p ∈ r, partB p = true) → splitL 46 (r.foldl (fun a q => a ++ 46 :: q) a) = splitL 46 a ++ r
  | [], a, _ => by simp
  | q :: r, a, h => by
    rw [List.foldl_cons, split_foldl r _ (fun p hp => h p (by simp [hp])), splitL_mid, partB_split (h q (by simp)), List.append_assoc]
    rfl
theorem splitL_join {l : List (List UInt8)} (hne : l ≠ []) (h : ∀ p ∈ l, partB p = true) : splitL 46 (joinL l) = l := by
  cases l with
  | nil => exact absurd rfl hne
  | cons p r =>
    rw [joinL, split_foldl r p (fun q hq => h q (by simp [hq])), partB_split (h p (by simp))]
    rfl
theorem nameB_iff {s : List UInt8} : nameB s = true ↔ (∀ p ∈ splitL 46 s, partB p = true) ∧ (splitL 46 s).length ≤ 3 := by
  rw [nameB, Bool.and_eq_true, decide_eq_true_iff, allN_iff]
  refine and_congr_left fun _ => ⟨fun h p hp => ?_, fun h k hk => h _ (nth_mem hk)⟩
  obtain ⟨k, hk, rfl⟩ := List.getElem_of_mem hp
  rw [← nth_eq hk]
  exact h k hk
theorem nameB_join {l : List (List UInt8)} (hne : l ≠ []) (h : ∀ p ∈ l, partB p = true) (hl : l.length ≤ 3) : nameB (joinL l) = true := by
  rw [nameB_iff, splitL_join hne h]
  exact ⟨h, hl⟩
theorem foldl_len : ∀ (r : List (List UInt8)) (a : List UInt8), (∀ p ∈ r, partB p = true) → (r.foldl (fun a q => a ++ 46 :: q) a).length ≤ a.length + 4 * r.length
  | [], a, _ => by simp
  | q :: r, a, h => by
    rw [List.foldl_cons]
    refine Nat.le_trans (foldl_len r _ (fun p hp => h p (by simp [hp]))) ?_
    have := (partB_len (h q (by simp))).2
    simp
    omega
theorem joinL_len {l : List (List UInt8)} (h : ∀ p ∈ l, partB p = true) : (joinL l).length ≤ 4 * l.length := by
  cases l with
  | nil => simp [joinL]
  | cons p r =>
    refine Nat.le_trans (foldl_len r p (fun q hq => h q (by simp [hq]))) ?_
    have := (partB_len (h p (by simp))).2
    simp
    omega
theorem nameB_len {s : List UInt8} (h : nameB s = true) : s.length ≤ 12 := by
  obtain ⟨h1, h2⟩ := nameB_iff.1 h
  rw [← joinL_split s]
  have := joinL_len h1
  omega
/-- The name of the first k parts. -/
def pfx (s : List UInt8) (k : Nat) : List UInt8 := joinL ((splitL 46 s).take k)
theorem pfx_zero {s : List UInt8} : pfx s 0 = [] := by simp [pfx, joinL]
theorem pfx_all {s : List UInt8} {k : Nat} (hk : (splitL 46 s).length ≤ k) : pfx s k = s := by rw [pfx, List.take_of_length_le hk, joinL_split]
theorem part_at {s : List UInt8} (h : nameB s = true) {k : Nat} (hk : k < (splitL 46 s).length) : partB (nth (splitL 46 s) k) = true := (nameB_iff.1 h).1 _ (nth_mem hk)
theorem pfx_parts {s : List UInt8} (h : nameB s = true) (k : Nat) : ∀ p ∈ (splitL 46 s).take k, partB p = true := fun p hp => (nameB_iff.1 h).1 p (List.mem_of_mem_take hp)
theorem pfx_name {s : List UInt8} (h : nameB s = true) {k : Nat} (hk : 0 < k) : nameB (pfx s k) = true := by
  refine nameB_join ?_ (pfx_parts h k) ?_
  · intro e
    have e1 := congrArg List.length e
    have := splitL_pos 46 s
    rw [List.length_take, List.length_nil] at e1
    omega
  · have := (nameB_iff.1 h).2
    rw [List.length_take]
    omega
theorem pfx_pkg {s : List UInt8} (h : nameB s = true) (k : Nat) : pkgB (pfx s k) = true := by
  cases k with
  | zero => rw [pfx_zero]; rfl
  | succ k => rw [pkgB, pfx_name h (by omega), Bool.or_true]
theorem pfx_len {s : List UInt8} (h : nameB s = true) (k : Nat) : (pfx s k).length ≤ 12 := by
  cases k with
  | zero => rw [pfx_zero]; simp
  | succ k => exact nameB_len (pfx_name h (by omega))
theorem pfx_succ {s : List UInt8} (h : nameB s = true) {k : Nat} (hk : k < (splitL 46 s).length) : childL (pfx s k) (nth (splitL 46 s) k) = pfx s (k + 1) := by
  rw [pfx, pfx, take_succ_nth hk]
  cases k with
  | zero => simp [joinL, childL]
  | succ k =>
    have hn := nameB_ne (pfx_name h (k := k + 1) (by omega))
    rw [pfx] at hn
    rw [joinL_snoc, childL, hn]
    · rfl
    · intro e
      rw [e] at hn
      cases hn
theorem pfx_child {s : List UInt8} (h : nameB s = true) {k : Nat} (hk : k < (splitL 46 s).length) : childOf (pfx s k) (nth (splitL 46 s) k) = pfx s (k + 1) := by
  rw [childOf, pfx_succ h hk, pfx_pkg h, part_at h hk, pfx_name h (by omega)]; rfl
theorem pfx_split {s : List UInt8} (h : nameB s = true) {k : Nat} (hk : 0 < k) : splitL 46 (pfx s k) = (splitL 46 s).take k := by
  refine splitL_join ?_ (pfx_parts h k)
  intro e
  have e1 := congrArg List.length e
  have := splitL_pos 46 s
  rw [List.length_take, List.length_nil] at e1
  omega

/-! ### What is found of a name -/
def specGo (l : List Fi) : List (List UInt8) → List UInt8 → Sp → Sp
  | [], _, o => o
  | q :: qs, p, o => if o.kind = 2 ∨ o.kind = 3 then specGo l qs (childL p q) (findF l o.roots p q) else noneSp
def specF (l : List Fi) (path : List Int) (s : List UInt8) : Sp := specGo l (splitL 46 s) [] ⟨3, -1, path⟩
def specB (l : List Fi) (path : List Int) (s : List UInt8) : Sp := if treeB l && pathB path && nameB s then specF l path s else noneSp
theorem findGo_kind (l : List Fi) (p s : List UInt8) : ∀ (path acc : List Int), (findGo l p s path acc).kind = 0 ∨ (findGo l p s path acc).kind = 1 ∨ (findGo l p s path acc).kind = 2 ∨ (findGo l p s path acc).kind = 3
  | [], acc => by unfold findGo; split <;> simp [noneSp]
  | r :: rs, acc => by
    unfold findGo
    split
    · simp
    · split
      · simp
      · exact findGo_kind l p s rs _
theorem findF_kind (l : List Fi) (path : List Int) (p s : List UInt8) : (findF l path p s).kind = 0 ∨ (findF l path p s).kind = 1 ∨ (findF l path p s).kind = 2 ∨ (findF l path p s).kind = 3 := findGo_kind l p s path []
theorem findF_roots (l : List Fi) (path : List Int) (p s : List UInt8) : (findF l path p s).roots.length ≤ path.length + 1 := by
  have := findGo_roots l p s path []
  simpa [findF] using this

end Go.Proofs.YtmhcmabiolaoaaaGreatDoor

namespace Go.Proofs.YtmhcmabiolaoaaaGreatDoor
open Go.RowKit

/-! ### The text of a tree -/
def kFile : List UInt8 := [102, 105, 108, 101]
def kImport : List UInt8 := [105, 109, 112, 111, 114, 116]
def kFrom : List UInt8 := [102, 114, 111, 109]
def kStar : List UInt8 := [115, 116, 97, 114]
def kSet : List UInt8 := [115, 101, 116]
def kPrint : List UInt8 := [112, 114, 105, 110, 116]
def kFail : List UInt8 := [102, 97, 105, 108]
def decF (n : Int) : List UInt8 := Lib.decDigits n.toNat
def dashL (s : List UInt8) : List UInt8 := if s = [] then [45] else s
def wordsF (f : Fi) : List (List UInt8) := [kFile, decF f.root, dashL f.pkg, if f.init then [42] else f.name, decF f.stamp]
def wordsS (s : St) : List (List UInt8) :=
  if s.kind = 0 then [kImport, s.mod] else if s.kind = 1 then [kFrom, decF s.level, dashL s.mod, s.name] else if s.kind = 2 then [kStar, s.mod]
  else if s.kind = 3 then [kSet, s.name, decF s.val] else if s.kind = 4 then [kPrint, s.name] else [kFail]
def spJ : List (List UInt8) → List UInt8
  | [] => []
  | p :: ps => ps.foldl (fun a q => a ++ 32 :: q) p
def lineL (ws : List (List UInt8)) : List UInt8 := spJ ws ++ [10]
def linesT (t : List Fi) : List (List (List UInt8)) := t.flatMap fun f => wordsF f :: f.body.map wordsS
def fmtT (t : List Fi) : List UInt8 := (linesT t).flatMap lineL

/-! ### Reading -/
def numI (s : List UInt8) : Int := match Lib.atoiAll s with | .ok v => v | .syntax => 0 | .range => Lib.atoiSat s
def undash (s : List UInt8) : List UInt8 := if s = [45] then [] else s
def stI (w : List (List UInt8)) : St :=
  if nth w 0 = kImport then ⟨0, nth w 1, 0, [], 0⟩ else if nth w 0 = kFrom then ⟨1, undash (nth w 2), numI (nth w 1), nth w 3, 0⟩ else if nth w 0 = kStar then ⟨2, nth w 1, 0, [], 0⟩
  else if nth w 0 = kSet then ⟨3, [], 0, nth w 1, numI (nth w 2)⟩ else if nth w 0 = kPrint then ⟨4, [], 0, nth w 1, 0⟩ else if nth w 0 = kFail then ⟨5, [], 0, [], 0⟩ else ⟨-1, [], 0, [], 0⟩
def fiI (w : List (List UInt8)) : Fi := ⟨numI (nth w 1), undash (nth w 2), if nth w 3 = [42] then [] else nth w 3, nth w 3 == [42], numI (nth w 4), []⟩
/-- A statement more in the last file. -/
def addSt (t : List Fi) (s : St) : List Fi := if t = [] then t else t.take (t.length - 1) ++ [{ nth t (t.length - 1) with body := (nth t (t.length - 1)).body ++ [s] }]
def rdI (t : List Fi) (w : List (List UInt8)) : List Fi := if nth w 0 = kFile then t ++ [fiI w] else addSt t (stI w)
def parseI (s : List UInt8) : List Fi := ((splitL 10 s).take ((splitL 10 s).length - 1)).foldl (fun t line => rdI t (splitL 32 line)) []
/-- The reference's reading of numbers. -/
def numGo : Int → List UInt8 → Option Int
  | n, [] => some n
  | n, b :: s => if (b.toNat : Int) < 48 ∨ 57 < (b.toNat : Int) ∨ 9 < n then none else numGo (10 * n + ((b.toNat : Int) - 48)) s
def numS (s : List UInt8) : Int := match numGo 0 s with | none => -1 | some n => if s = [] ∨ s ≠ Lib.decDigits n.toNat then -1 else n
def stS (w : List (List UInt8)) : St :=
  if nth w 0 = kImport ∧ w.length = 2 then ⟨0, nth w 1, 0, [], 0⟩ else if nth w 0 = kFrom ∧ w.length = 4 then ⟨1, undash (nth w 2), numS (nth w 1), nth w 3, 0⟩ else if nth w 0 = kStar ∧ w.length = 2 then ⟨2, nth w 1, 0, [], 0⟩
  else if nth w 0 = kSet ∧ w.length = 3 then ⟨3, [], 0, nth w 1, numS (nth w 2)⟩ else if nth w 0 = kPrint ∧ w.length = 2 then ⟨4, [], 0, nth w 1, 0⟩ else if nth w 0 = kFail ∧ w.length = 1 then ⟨5, [], 0, [], 0⟩ else ⟨-1, [], 0, [], 0⟩
def fiS (w : List (List UInt8)) : Fi := ⟨numS (nth w 1), undash (nth w 2), if nth w 3 = [42] then [] else nth w 3, nth w 3 == [42], numS (nth w 4), []⟩
def rdS (t : Option (List Fi)) (w : List (List UInt8)) : Option (List Fi) :=
  match t with
  | none => none
  | some t => if nth w 0 = kFile ∧ w.length = 5 then some (t ++ [fiS w]) else if t = [] then none else some (addSt t (stS w))
def parseS (s : List UInt8) : Option (List Fi) := ((splitL 10 s).take ((splitL 10 s).length - 1)).foldl (fun t line => rdS t (splitL 32 line)) (some [])

/-! ### Splitting -/
theorem splitL_midc (c : UInt8) (b : List UInt8) : ∀ a : List UInt8, splitL c (a ++ c :: b) = splitL c a ++ splitL c b
  | [] => by simp [splitL]
  | x :: a => by
    have ih := splitL_midc c b a
    rw [List.cons_append, splitL, splitL, ih]
    cases hx : x == c
    · rw [if_neg (by simp), if_neg (by simp)]
      cases hs : splitL c a with
      | nil => exact absurd hs (splitL_ne c a)
      | cons p r => rfl
    · rw [if_pos rfl, if_pos rfl]; rfl
theorem splitL_cleanc {c : UInt8} : ∀ {p : List UInt8}, (∀ x ∈ p, x ≠ c) → splitL c p = [p]
  | [], _ => rfl
  | x :: p, h => by
    have hx : (x == c) = false := by simpa using h x (by simp)
    rw [splitL, hx, if_neg (by simp), splitL_cleanc fun y hy => h y (by simp [hy])]
theorem spJ_split : ∀ {ws : List (List UInt8)}, ws ≠ [] → (∀ w ∈ ws, ∀ x ∈ w, x ≠ 32) → splitL 32 (spJ ws) = ws := by
  have key : ∀ (ps : List (List UInt8)) (p : List UInt8), (∀ w ∈ ps, ∀ x ∈ w, x ≠ 32) → splitL 32 (ps.foldl (fun a q => a ++ 32 :: q) p) = splitL 32 p ++ ps := by
    intro ps
    induction ps with
    | nil => intro p _; simp
    | cons q ps ih =>
      intro p h
      rw [List.foldl_cons, ih _ fun w hw => h w (List.mem_cons_of_mem _ hw), splitL_midc, splitL_cleanc (h q (by simp))]
      simp
  intro ws hne h
  cases ws with
  | nil => exact absurd rfl hne
  | cons p ps =>
    rw [spJ, key ps p fun w hw => h w (List.mem_cons_of_mem _ hw), splitL_cleanc (h p (by simp))]
    rfl
theorem spJ_clean {ws : List (List UInt8)} (h : ∀ w ∈ ws, ∀ x ∈ w, x ≠ 10) : ∀ x ∈ spJ ws, x ≠ 10 := by
  have key : ∀ (ps : List (List UInt8)) (p : List UInt8), (∀ x ∈ p, x ≠ 10) → (∀ w ∈ ps, ∀ x ∈ w, x ≠ 10) → ∀ x ∈ ps.foldl (fun a q => a ++ 32 :: q) p, x ≠ 10 := by
    intro ps
    induction ps with
    | nil => intro p hp _; exact hp
    | cons q ps ih =>
      intro p hp h
      refine ih _ (fun x hx => ?_) fun w hw => h w (List.mem_cons_of_mem _ hw)
      rcases List.mem_append.1 hx with hx | hx
      · exact hp x hx
      · rcases List.mem_cons.1 hx with rfl | hx
        · decide
        · exact h q (by simp) x hx
  cases ws with
  | nil => intro x hx; simp [spJ] at hx
  | cons p ps => exact key ps p (h p (by simp)) fun w hw => h w (List.mem_cons_of_mem _ hw)
theorem lines_split : ∀ {ls : List (List (List UInt8))}, (∀ l ∈ ls, ∀ w ∈ l, ∀ x ∈ w, x ≠ 10) → splitL 10 (ls.flatMap lineL) = ls.map spJ ++ [[]]
  | [], _ => rfl
  | l :: ls, h => by
    rw [List.flatMap_cons, lineL, List.append_assoc]
    show splitL 10 (spJ l ++ 10 :: ls.flatMap lineL) = _
    rw [splitL_midc, splitL_cleanc (spJ_clean (h l (by simp))), lines_split fun m hm => h m (List.mem_cons_of_mem _ hm)]
    rfl

/-! ### Numbers below 100 -/
theorem dec_one {n : Nat} (h : n < 10) : Lib.decDigits n = [UInt8.ofNat (48 + n)] := by rw [Lib.decDigits, dif_pos h]
theorem dec_two {n : Nat} (h : 10 ≤ n) (h2 : n < 100) : Lib.decDigits n = [UInt8.ofNat (48 + n / 10), UInt8.ofNat (48 + n % 10)] := by
  rw [Lib.decDigits, dif_neg (by omega), dec_one (by omega)]
  rfl
theorem toNat_dig {n : Nat} (h : n < 10) : (UInt8.ofNat (48 + n)).toNat = 48 + n := by
  rw [UInt8.toNat_ofNat']
  omega
theorem dec_digit {n : Nat} (h : n < 100) : ∀ x ∈ Lib.decDigits n, 48 ≤ x.toNat ∧ x.toNat ≤ 57 := by
  intro x hx
  rcases Nat.lt_or_ge n 10 with h1 | h1
  · rw [dec_one h1] at hx
    rw [List.mem_singleton.1 hx, toNat_dig h1]
    omega
  · rw [dec_two h1 h] at hx
    rcases List.mem_cons.1 hx with rfl | hx
    · rw [toNat_dig (by omega)]; omega
    · rw [List.mem_singleton.1 hx, toNat_dig (by omega)]; omega
theorem numS_dec {n : Nat} (h : n < 100) : numS (Lib.decDigits n) = (n : Int) := by
  have hg : numGo 0 (Lib.decDigits n) = some (n : Int) := by
    rcases Nat.lt_or_ge n 10 with h1 | h1
    · rw [dec_one h1, numGo, toNat_dig h1, if_neg (by omega), numGo]
      congr 1
      omega
    · rw [dec_two h1 h, numGo, toNat_dig (by omega), if_neg (by omega), numGo, toNat_dig (by omega), if_neg (by omega), numGo]
      congr 1
      omega
  have hne : Lib.decDigits n ≠ [] := by
    rcases Nat.lt_or_ge n 10 with h1 | h1
    · rw [dec_one h1]; simp
    · rw [dec_two h1 h]; simp
  rw [numS, hg]
  simp [hne]
end Go.Proofs.YtmhcmabiolaoaaaGreatDoor

namespace Go.Proofs.YtmhcmabiolaoaaaGreatDoor
open Go.RowKit

/-! ### Numbers below 100, the program's reading -/
theorem atoi_dec {n : Nat} (h : n < 100) : Lib.atoiAll (Lib.decDigits n) = .ok (n : Int) := by
  have key : ∀ m : Fin 100, Lib.atoiAll (Lib.decDigits m.1) = .ok (m.1 : Int) := by decide +kernel
  exact key ⟨n, h⟩
theorem numI_dec {n : Int} (h : rangeB n 0 99 = true) : numI (decF n) = n := by
  obtain ⟨h1, h2⟩ := rangeB_iff.1 h
  unfold numI decF
  rw [atoi_dec (by omega)]
  show ((n.toNat : Int)) = n
  omega
theorem numS_dec2 {n : Int} (h : rangeB n 0 99 = true) : numS (decF n) = n := by
  obtain ⟨h1, h2⟩ := rangeB_iff.1 h
  unfold decF
  rw [numS_dec (by omega)]
  omega

/-! ### Clean words -/
def cleanW (w : List UInt8) : Prop := ∀ x ∈ w, x ≠ 32 ∧ x ≠ 10
theorem clean_dec {n : Int} (h : rangeB n 0 99 = true) : cleanW (decF n) := fun x hx => by
  obtain ⟨h1, h2⟩ := rangeB_iff.1 h
  have := dec_digit (n := n.toNat) (by omega) x hx
  constructor
  · rintro rfl; simp at this
  · rintro rfl; simp at this
theorem part_low {s : List UInt8} (h : partB s = true) : ∀ x ∈ s, 97 ≤ x.toNat := fun x hx => by
  rw [partB, Bool.and_eq_true] at h
  obtain ⟨k, hk, rfl⟩ := List.getElem_of_mem hx
  have := allN_iff.1 h.2 k hk
  rw [nth_eq hk] at this
  unfold lowB at this
  rw [Bool.and_eq_true, decide_eq_true_iff] at this
  have h1 := this.1
  omega
theorem clean_low {s : List UInt8} (h : ∀ x ∈ s, 97 ≤ x.toNat ∨ x = 46) : cleanW s := fun x hx => by
  rcases h x hx with h1 | rfl
  · constructor
    · rintro rfl; simp at h1
    · rintro rfl; simp at h1
  · exact ⟨by decide, by decide⟩
theorem mem_joinL {x : UInt8} : ∀ {ps : List (List UInt8)}, x ∈ joinL ps → x = 46 ∨ ∃ p ∈ ps, x ∈ p := by
  have key : ∀ (ps : List (List UInt8)) (p : List UInt8), x ∈ ps.foldl (fun a q => a ++ 46 :: q) p → x ∈ p ∨ x = 46 ∨ ∃ q ∈ ps, x ∈ q := by
    intro ps
    induction ps with
    | nil => exact fun p h => .inl h
    | cons q ps ih =>
      intro p h
      rcases ih _ h with h | h | ⟨r, hr, h⟩
      · rcases List.mem_append.1 h with h | h
        · exact .inl h
        · rcases List.mem_cons.1 h with h | h
          · exact .inr (.inl h)
          · exact .inr (.inr ⟨q, by simp, h⟩)
      · exact .inr (.inl h)
      · exact .inr (.inr ⟨r, List.mem_cons_of_mem _ hr, h⟩)
  intro ps h
  cases ps with
  | nil => simp [joinL] at h
  | cons p ps =>
    rcases key ps p h with h | h | ⟨q, hq, h⟩
    · exact .inr ⟨p, by simp, h⟩
    · exact .inl h
    · exact .inr ⟨q, List.mem_cons_of_mem _ hq, h⟩
theorem name_low {s : List UInt8} (h : nameB s = true) : ∀ x ∈ s, 97 ≤ x.toNat ∨ x = 46 := fun x hx => by
  rw [← joinL_split s] at hx
  rcases mem_joinL hx with h1 | ⟨p, hp, h1⟩
  · exact .inr h1
  · exact .inl (part_low ((nameB_iff.1 h).1 p hp) x h1)
theorem pkg_low {s : List UInt8} (h : pkgB s = true) : ∀ x ∈ s, 97 ≤ x.toNat ∨ x = 46 := fun x hx => by
  unfold pkgB at h
  cases s with
  | nil => cases hx
  | cons a b => exact name_low (by simpa using h) x hx
theorem clean_part {s : List UInt8} (h : partB s = true) : cleanW s := clean_low fun x hx => .inl (part_low h x hx)
theorem clean_name {s : List UInt8} (h : nameB s = true) : cleanW s := clean_low (name_low h)
theorem clean_pkg {s : List UInt8} (h : pkgB s = true) : cleanW (dashL s) := by
  unfold dashL
  split
  · intro x hx
    rw [List.mem_singleton.1 hx]
    exact ⟨by decide, by decide⟩
  · exact clean_low (pkg_low h)
theorem undash_dash {s : List UInt8} (h : pkgB s = true) : undash (dashL s) = s := by
  unfold dashL
  split
  · rename_i h0
    rw [h0]
    rfl
  · unfold undash
    rw [if_neg]
    rintro rfl
    have := pkg_low h 45 (by simp)
    rcases this with h1 | h1
    · simp at h1
    · cases h1

/-! ### Statements -/
theorem st_kinds {s : St} (h : stB s = true) : (s.kind = 0 ∧ nameB s.mod = true ∧ s.level = 0 ∧ s.name = [] ∧ s.val = 0) ∨ (s.kind = 1 ∧ pkgB s.mod = true ∧ rangeB s.level 0 3 = true ∧ partB s.name = true ∧ s.val = 0) ∨
    (s.kind = 2 ∧ nameB s.mod = true ∧ s.level = 0 ∧ s.name = [] ∧ s.val = 0) ∨ (s.kind = 3 ∧ s.mod = [] ∧ s.level = 0 ∧ partB s.name = true ∧ rangeB s.val 0 99 = true) ∨
    (s.kind = 4 ∧ s.mod = [] ∧ s.level = 0 ∧ partB s.name = true ∧ s.val = 0) ∨ (s.kind = 5 ∧ s.mod = [] ∧ s.level = 0 ∧ s.name = [] ∧ s.val = 0) := by
  unfold stB at h
  split at h
  · rename_i hk
    simp only [Bool.and_eq_true, beq_iff_eq, List.isEmpty_iff] at h
    rcases hk with hk | hk
    · exact .inl ⟨hk, h.1.1.1, h.1.1.2, h.1.2, h.2⟩
    · exact .inr (.inr (.inl ⟨hk, h.1.1.1, h.1.1.2, h.1.2, h.2⟩))
  · split at h
    · rename_i hk
      simp only [Bool.and_eq_true, beq_iff_eq] at h
      exact .inr (.inl ⟨hk, h.1.1.1.1, h.1.1.1.2, h.1.2, h.2⟩)
    · split at h
      · rename_i hk
        simp only [Bool.and_eq_true, beq_iff_eq, List.isEmpty_iff] at h
        exact .inr (.inr (.inr (.inl ⟨hk, h.1.1.1, h.1.1.2, h.1.2, h.2⟩)))
      · split at h
        · rename_i hk
          simp only [Bool.and_eq_true, beq_iff_eq, List.isEmpty_iff] at h
          exact .inr (.inr (.inr (.inr (.inl ⟨hk, h.1.1.1, h.1.1.2, h.1.2, h.2⟩))))
        · split at h
          · rename_i hk
            simp only [Bool.and_eq_true, beq_iff_eq, List.isEmpty_iff] at h
            exact .inr (.inr (.inr (.inr (.inr ⟨hk, h.1.1.1, h.1.1.2, h.1.2, h.2⟩))))
          · cases h
theorem range_03 {n : Int} (h : rangeB n 0 3 = true) : rangeB n 0 99 = true := by
  obtain ⟨h1, h2⟩ := rangeB_iff.1 h
  exact rangeB_iff.2 ⟨h1, by omega⟩
theorem st_back {s : St} (h : stB s = true) : stI (wordsS s) = s ∧ stS (wordsS s) = s := by
  obtain ⟨k, m, l, nm, v⟩ := s
  rcases st_kinds h with ⟨h0, h1, h2, h3, h4⟩ | ⟨h0, h1, h2, h3, h4⟩ | ⟨h0, h1, h2, h3, h4⟩ | ⟨h0, h1, h2, h3, h4⟩ | ⟨h0, h1, h2, h3, h4⟩ | ⟨h0, h1, h2, h3, h4⟩
  all_goals
    dsimp only at h0 h1 h2 h3 h4
    subst h0
  · subst h2 h3 h4
    exact ⟨rfl, rfl⟩
  · subst h4
    have e1 : wordsS ⟨1, m, l, nm, 0⟩ = [kFrom, decF l, dashL m, nm] := rfl
    rw [e1]
    have n1 : ¬ kFrom = kImport := by decide
    constructor
    · show (if kFrom = kImport then _ else if kFrom = kFrom then (⟨1, undash (dashL m), numI (decF l), nm, 0⟩ : St) else _) = _
      rw [if_neg n1, if_pos rfl, undash_dash h1, numI_dec (range_03 h2)]
    · unfold stS
      rw [if_neg (fun h => absurd h.1 (by show ¬ kFrom = kImport; decide)), if_pos ⟨rfl, rfl⟩]
      show (⟨1, undash (dashL m), numS (decF l), nm, 0⟩ : St) = _
      rw [undash_dash h1, numS_dec2 (range_03 h2)]
  · subst h2 h3 h4
    exact ⟨rfl, rfl⟩
  · subst h1 h2
    have e1 : wordsS ⟨3, [], 0, nm, v⟩ = [kSet, nm, decF v] := rfl
    rw [e1]
    constructor
    · show (if kSet = kImport then _ else if kSet = kFrom then _ else if kSet = kStar then _ else if kSet = kSet then (⟨3, [], 0, nm, numI (decF v)⟩ : St) else _) = _
      rw [if_neg (by decide), if_neg (by decide), if_neg (by decide), if_pos rfl, numI_dec h4]
    · unfold stS
      rw [if_neg (fun h => absurd h.1 (by show ¬ kSet = kImport; decide)), if_neg (fun h => absurd h.1 (by show ¬ kSet = kFrom; decide)), if_neg (fun h => absurd h.1 (by show ¬ kSet = kStar; decide)), if_pos ⟨rfl, rfl⟩]
      show (⟨3, [], 0, nm, numS (decF v)⟩ : St) = _
      rw [numS_dec2 h4]
  · subst h1 h2 h4
    exact ⟨rfl, rfl⟩
  · subst h1 h2 h3 h4
    exact ⟨rfl, rfl⟩
theorem st_clean {s : St} (h : stB s = true) : wordsS s ≠ [] ∧ (∀ w ∈ wordsS s, cleanW w) ∧ nth (wordsS s) 0 ≠ kFile := by
  obtain ⟨k, m, l, nm, v⟩ := s
  have hk : ∀ w ∈ [kImport, kFrom, kStar, kSet, kPrint, kFail], cleanW w := by
    intro w hw x hx
    have : ([kImport, kFrom, kStar, kSet, kPrint, kFail].all fun w => w.all fun x => x != 32 && x != 10) = true := by decide
    rw [List.all_eq_true] at this
    have h1 := this w hw
    rw [List.all_eq_true] at h1
    have h2 := h1 x hx
    simpa using h2
  rcases st_kinds h with ⟨h0, h1, h2, h3, h4⟩ | ⟨h0, h1, h2, h3, h4⟩ | ⟨h0, h1, h2, h3, h4⟩ | ⟨h0, h1, h2, h3, h4⟩ | ⟨h0, h1, h2, h3, h4⟩ | ⟨h0, h1, h2, h3, h4⟩
  all_goals
    dsimp only at h0 h1 h2 h3 h4
    subst h0
  · refine ⟨by simp [wordsS], fun w hw => ?_, by show kImport ≠ kFile; decide⟩
    have hw : w ∈ [kImport, m] := hw
    simp only [List.mem_cons, List.not_mem_nil, or_false] at hw
    rcases hw with rfl | rfl
    · exact hk _ (by simp)
    · exact clean_name h1
  · refine ⟨by simp [wordsS], fun w hw => ?_, by show kFrom ≠ kFile; decide⟩
    have hw : w ∈ [kFrom, decF l, dashL m, nm] := hw
    simp only [List.mem_cons, List.not_mem_nil, or_false] at hw
    rcases hw with rfl | rfl | rfl | rfl
    · exact hk _ (by simp)
    · exact clean_dec (range_03 h2)
    · exact clean_pkg h1
    · exact clean_part h3
  · refine ⟨by simp [wordsS], fun w hw => ?_, by show kStar ≠ kFile; decide⟩
    have hw : w ∈ [kStar, m] := hw
    simp only [List.mem_cons, List.not_mem_nil, or_false] at hw
    rcases hw with rfl | rfl
    · exact hk _ (by simp)
    · exact clean_name h1
  · refine ⟨by simp [wordsS], fun w hw => ?_, by show kSet ≠ kFile; decide⟩
    have hw : w ∈ [kSet, nm, decF v] := hw
    simp only [List.mem_cons, List.not_mem_nil, or_false] at hw
    rcases hw with rfl | rfl | rfl
    · exact hk _ (by simp)
    · exact clean_part h3
    · exact clean_dec h4
  · refine ⟨by simp [wordsS], fun w hw => ?_, by show kPrint ≠ kFile; decide⟩
    have hw : w ∈ [kPrint, nm] := hw
    simp only [List.mem_cons, List.not_mem_nil, or_false] at hw
    rcases hw with rfl | rfl
    · exact hk _ (by simp)
    · exact clean_part h3
  · refine ⟨by simp [wordsS], fun w hw => ?_, by show kFail ≠ kFile; decide⟩
    have hw : w ∈ [kFail] := hw
    rw [List.mem_singleton.1 hw]
    exact hk _ (by simp)

/-! ### Files -/
theorem fi_parts {f : Fi} (h : fileB f = true) : rangeB f.root 0 2 = true ∧ pkgB f.pkg = true ∧ rangeB f.stamp 0 99 = true ∧ bodyB f.body = true ∧ (f.init = true → f.name = []) ∧ (f.init = false → partB f.name = true) := by
  unfold fileB at h
  simp only [Bool.and_eq_true] at h
  obtain ⟨⟨⟨⟨h1, h2⟩, h3⟩, h4⟩, h5⟩ := h
  refine ⟨h1, h2, h3, h4, fun hi => ?_, fun hi => ?_⟩
  · rw [hi] at h5
    simp only [if_true, Bool.and_eq_true, List.isEmpty_iff] at h5
    exact h5.2
  · rw [hi] at h5
    simp only [Bool.false_eq_true, if_false, Bool.and_eq_true] at h5
    exact h5.1
theorem range_02 {n : Int} (h : rangeB n 0 2 = true) : rangeB n 0 99 = true := by
  obtain ⟨h1, h2⟩ := rangeB_iff.1 h
  exact rangeB_iff.2 ⟨h1, by omega⟩
theorem fi_back {f : Fi} (h : fileB f = true) : fiI (wordsF f) = { f with body := [] } ∧ fiS (wordsF f) = { f with body := [] } := by
  obtain ⟨r, p, nm, i, st, b⟩ := f
  obtain ⟨h1, h2, h3, _, h5, h6⟩ := fi_parts h
  dsimp only at h1 h2 h3 h5 h6
  have a1 := numI_dec (range_02 h1)
  have a2 := numS_dec2 (range_02 h1)
  have a3 := numI_dec h3
  have a4 := numS_dec2 h3
  have a5 := undash_dash h2
  cases i
  · have h7 : ¬ nm = [42] := by
      rintro rfl
      exact absurd (h6 rfl) (by decide)
    have h8 : (nm == [42]) = false := by simpa using h7
    constructor
    · show (⟨numI (decF r), undash (dashL p), if nm = [42] then [] else nm, nm == [42], numI (decF st), []⟩ : Fi) = _
      rw [a1, a3, a5, if_neg h7, h8]
    · show (⟨numS (decF r), undash (dashL p), if nm = [42] then [] else nm, nm == [42], numS (decF st), []⟩ : Fi) = _
      rw [a2, a4, a5, if_neg h7, h8]
  · obtain rfl := h5 rfl
    constructor
    · show (⟨numI (decF r), undash (dashL p), if ([42] : List UInt8) = [42] then [] else [42], ([42] : List UInt8) == [42], numI (decF st), []⟩ : Fi) = _
      rw [a1, a3, a5]
      rfl
    · show (⟨numS (decF r), undash (dashL p), if ([42] : List UInt8) = [42] then [] else [42], ([42] : List UInt8) == [42], numS (decF st), []⟩ : Fi) = _
      rw [a2, a4, a5]
      rfl
theorem fi_clean {f : Fi} (h : fileB f = true) : ∀ w ∈ wordsF f, cleanW w := by
  obtain ⟨h1, h2, h3, _, h5, h6⟩ := fi_parts h
  intro w hw
  unfold wordsF at hw
  simp only [List.mem_cons, List.not_mem_nil, or_false] at hw
  rcases hw with rfl | rfl | rfl | rfl | rfl
  · intro x hx
    have : (kFile.all fun x => x != 32 && x != 10) = true := by decide
    rw [List.all_eq_true] at this
    simpa using this x hx
  · exact clean_dec (range_02 h1)
  · exact clean_pkg h2
  · cases hi : f.init
    · exact clean_part (h6 hi)
    · intro x hx
      have hx : x ∈ ([42] : List UInt8) := hx
      rw [List.mem_singleton.1 hx]
      exact ⟨by decide, by decide⟩
  · exact clean_dec h3

/-! ### Reading what was written -/
theorem addSt_snoc (t : List Fi) (g : Fi) (s : St) : addSt (t ++ [g]) s = t ++ [{ g with body := g.body ++ [s] }] := by
  unfold addSt
  rw [if_neg (by simp)]
  have h1 : (t ++ [g]).length - 1 = t.length := by simp
  have h2 : nth (t ++ [g]) t.length = g := by
    have := nth_append_right (l := t) (m := [g]) (k := 0)
    rw [Nat.add_zero] at this
    rw [this]
    rfl
  rw [h1, h2, List.take_left]
theorem rd_body (t : List Fi) : ∀ (ss : List St) (g : Fi), (∀ s ∈ ss, stB s = true) → (ss.map wordsS).foldl rdI (t ++ [g]) = t ++ [{ g with body := g.body ++ ss }] ∧ (ss.map wordsS).foldl rdS (some (t ++ [g])) = some (t ++ [{ g with body := g.body ++ ss }])
  | [], g, _ => by simp
  | s :: ss, g, h => by
    have hs := h s (by simp)
    obtain ⟨b1, b2⟩ := st_back hs
    obtain ⟨_, _, c3⟩ := st_clean hs
    obtain ⟨i1, i2⟩ := rd_body t ss { g with body := g.body ++ [s] } fun x hx => h x (List.mem_cons_of_mem _ hx)
    have e1 : rdI (t ++ [g]) (wordsS s) = t ++ [{ g with body := g.body ++ [s] }] := by
      unfold rdI
      rw [if_neg c3, b1, addSt_snoc]
    have e2 : rdS (some (t ++ [g])) (wordsS s) = some (t ++ [{ g with body := g.body ++ [s] }]) := by
      unfold rdS
      dsimp only
      rw [if_neg (fun h => c3 h.1), if_neg (by simp), b2, addSt_snoc]
    rw [List.map_cons, List.foldl_cons, List.foldl_cons, e1, e2, i1, i2]
    simp
theorem rd_file (t : List Fi) {f : Fi} (h : fileB f = true) : (wordsF f :: f.body.map wordsS).foldl rdI t = t ++ [f] ∧ (wordsF f :: f.body.map wordsS).foldl rdS (some t) = some (t ++ [f]) := by
  obtain ⟨b1, b2⟩ := fi_back h
  have hb := (fi_parts h).2.2.2.1
  have hs : ∀ s ∈ f.body, stB s = true := fun s hs => by
    obtain ⟨k, hk, rfl⟩ := List.getElem_of_mem hs
    unfold bodyB at hb
    rw [Bool.and_eq_true] at hb
    have := allN_iff.1 hb.1 k hk
    rwa [nth_eq hk] at this
  obtain ⟨i1, i2⟩ := rd_body t f.body { f with body := [] } hs
  have e1 : rdI t (wordsF f) = t ++ [{ f with body := [] }] := by
    unfold rdI
    rw [if_pos (show nth (wordsF f) 0 = kFile from rfl), b1]
  have e2 : rdS (some t) (wordsF f) = some (t ++ [{ f with body := [] }]) := by
    unfold rdS
    dsimp only
    rw [if_pos ⟨rfl, rfl⟩, b2]
  rw [List.foldl_cons, List.foldl_cons, e1, e2, i1, i2]
  simp
theorem rd_tree : ∀ (ts t0 : List Fi), (∀ f ∈ ts, fileB f = true) → (linesT ts).foldl rdI t0 = t0 ++ ts ∧ (linesT ts).foldl rdS (some t0) = some (t0 ++ ts)
  | [], t0, _ => by simp [linesT]
  | f :: ts, t0, h => by
    obtain ⟨e1, e2⟩ := rd_file t0 (h f (by simp))
    obtain ⟨i1, i2⟩ := rd_tree ts (t0 ++ [f]) fun g hg => h g (List.mem_cons_of_mem _ hg)
    have hl : linesT (f :: ts) = (wordsF f :: f.body.map wordsS) ++ linesT ts := by simp [linesT]
    rw [hl, List.foldl_append, List.foldl_append, e1, e2, i1, i2]
    simp
theorem lines_clean {t : List Fi} (h : ∀ f ∈ t, fileB f = true) : ∀ ws ∈ linesT t, ws ≠ [] ∧ ∀ w ∈ ws, cleanW w := by
  intro ws hws
  unfold linesT at hws
  obtain ⟨f, hf, hws⟩ := List.mem_flatMap.1 hws
  have hfb := h f hf
  rcases List.mem_cons.1 hws with rfl | hws
  · exact ⟨by simp [wordsF], fi_clean hfb⟩
  · obtain ⟨s, hs, rfl⟩ := List.mem_map.1 hws
    have hb := (fi_parts hfb).2.2.2.1
    obtain ⟨k, hk, rfl⟩ := List.getElem_of_mem hs
    unfold bodyB at hb
    rw [Bool.and_eq_true] at hb
    have := allN_iff.1 hb.1 k hk
    rw [nth_eq hk] at this
    obtain ⟨c1, c2, _⟩ := st_clean this
    exact ⟨c1, c2⟩
theorem lines_of {t : List Fi} (h : ∀ f ∈ t, fileB f = true) : splitL 10 (fmtT t) = (linesT t).map spJ ++ [[]] ∧ ((linesT t).map spJ).map (splitL 32) = linesT t := by
  have hc := lines_clean h
  refine ⟨lines_split fun l hl w hw x hx => ((hc l hl).2 w hw x hx).2, ?_⟩
  rw [List.map_map]
  conv => rhs; rw [← List.map_id (linesT t)]
  exact List.map_congr_left fun ws hws => spJ_split (hc ws hws).1 fun w hw x hx => ((hc ws hws).2 w hw x hx).1
theorem treeB_all {t : List Fi} (h : treeB t = true) : ∀ f ∈ t, fileB f = true := fun f hf => by
  obtain ⟨k, hk, rfl⟩ := List.getElem_of_mem hf
  rw [← nth_eq hk]
  exact treeB_file h hk
/-- What is written of a valid tree is read back, by both. -/
theorem fmt_back {t : List Fi} (h : treeB t = true) : parseI (fmtT t) = t ∧ parseS (fmtT t) = some t ∧ nth (splitL 10 (fmtT t)) ((splitL 10 (fmtT t)).length - 1) = [] := by
  obtain ⟨h1, h2⟩ := lines_of (treeB_all h)
  obtain ⟨i1, i2⟩ := rd_tree t [] (treeB_all h)
  have hl : ((linesT t).map spJ ++ [[]]).length - 1 = ((linesT t).map spJ).length := by simp
  have ht : ((linesT t).map spJ ++ [[]]).take (((linesT t).map spJ ++ [[]]).length - 1) = (linesT t).map spJ := by rw [hl, List.take_left]
  have f1 : ∀ (ls : List (List UInt8)) (a : List Fi), ls.foldl (fun t line => rdI t (splitL 32 line)) a = (ls.map (splitL 32)).foldl rdI a := fun ls a => by rw [List.foldl_map]
  have f2 : ∀ (ls : List (List UInt8)) (a : Option (List Fi)), ls.foldl (fun t line => rdS t (splitL 32 line)) a = (ls.map (splitL 32)).foldl rdS a := fun ls a => by rw [List.foldl_map]
  refine ⟨?_, ?_, ?_⟩
  · unfold parseI
    rw [h1, ht, f1, h2, i1]
    simp
  · unfold parseS
    rw [h1, ht, f2, h2, i2]
    simp
  · rw [h1, hl]
    have := nth_append_right (l := (linesT t).map spJ) (m := [([] : List UInt8)]) (k := 0)
    rw [Nat.add_zero] at this
    rw [this]
    rfl
def okI (s : List UInt8) : Bool := treeB (parseI s) && fmtT (parseI s) == s
def okS (s : List UInt8) : Bool := match parseS s with
  | some t => nth (splitL 10 s) ((splitL 10 s).length - 1) == [] && treeB t && fmtT t == s
  | none => false
/-- What ParseTree returns. -/
def parL (s : List UInt8) : List Fi := if okI s then parseI s else []
theorem ok_same (s : List UInt8) : okS s = okI s ∧ (okI s = true → parseS s = some (parL s) ∧ treeB (parL s) = true ∧ fmtT (parL s) = s) := by
  have key : okI s = true → parseS s = some (parseI s) ∧ okS s = true := fun h => by
    unfold okI at h
    rw [Bool.and_eq_true, beq_iff_eq] at h
    obtain ⟨b1, b2, b3⟩ := fmt_back h.1
    rw [h.2] at b2 b3
    refine ⟨b2, ?_⟩
    unfold okS
    rw [b2, b3]
    dsimp only
    rw [h.1, h.2]
    simp
  have rev : okS s = true → okI s = true := fun h => by
    unfold okS at h
    split at h
    · rename_i t ht
      simp only [Bool.and_eq_true, beq_iff_eq] at h
      obtain ⟨b1, _, _⟩ := fmt_back h.1.2
      rw [h.2] at b1
      unfold okI
      rw [b1, h.1.2, h.2]
      simp
    · cases h
  constructor
  · cases h1 : okI s with
    | true => exact (key h1).2
    | false =>
      cases h2 : okS s with
      | false => rfl
      | true => rw [rev h2] at h1; cases h1
  · intro h
    have e : parL s = parseI s := if_pos h
    rw [e]
    refine ⟨(key h).1, ?_⟩
    unfold okI at h
    rw [Bool.and_eq_true, beq_iff_eq] at h
    exact h
theorem par_fmt {t : List Fi} (h : treeB t = true) : okI (fmtT t) = true ∧ parL (fmtT t) = t := by
  obtain ⟨b1, _, _⟩ := fmt_back h
  have : okI (fmtT t) = true := by unfold okI; rw [b1, h]; simp
  exact ⟨this, by rw [parL, if_pos this, b1]⟩

/-! ### Newlines -/
def nlN (s : List UInt8) : Nat := s.countP (· == 10)
theorem nl_clean {s : List UInt8} (h : ∀ x ∈ s, x ≠ 10) : nlN s = 0 := by
  unfold nlN
  rw [List.countP_eq_zero]
  intro x hx
  simpa using h x hx
theorem nl_lines : ∀ {ls : List (List (List UInt8))}, (∀ l ∈ ls, ∀ w ∈ l, ∀ x ∈ w, x ≠ 10) → nlN (ls.flatMap lineL) = ls.length
  | [], _ => rfl
  | l :: ls, h => by
    have h1 := nl_clean (spJ_clean (h l (by simp)))
    have h2 := nl_lines (ls := ls) fun m hm => h m (List.mem_cons_of_mem _ hm)
    unfold nlN at h1 h2 ⊢
    rw [List.flatMap_cons, List.countP_append, lineL, List.countP_append, h1, h2, List.length_cons]
    simp
    omega
theorem nl_fmt {t : List Fi} (h : treeB t = true) : nlN (fmtT t) = (t.map fun f => 1 + f.body.length).sum := by
  have hc := lines_clean (treeB_all h)
  unfold fmtT
  rw [nl_lines fun l hl w hw x hx => ((hc l hl).2 w hw x hx).2]
  unfold linesT
  rw [List.length_flatMap]
  congr 1
  refine List.map_congr_left fun f _ => ?_
  simp
  omega
end Go.Proofs.YtmhcmabiolaoaaaGreatDoor

namespace Go.Proofs.YtmhcmabiolaoaaaGreatDoor
open Go.RowKit

theorem spJ_len {m : Nat} : ∀ {ws : List (List UInt8)}, (∀ w ∈ ws, w.length ≤ m) → (spJ ws).length ≤ ws.length * (m + 1)
  | [], _ => by simp [spJ]
  | p :: ps, h => by
    have key : ∀ (qs : List (List UInt8)) (a : List UInt8), (∀ w ∈ qs, w.length ≤ m) → (qs.foldl (fun a q => a ++ 32 :: q) a).length ≤ a.length + qs.length * (m + 1) := by
      intro qs
      induction qs with
      | nil => intro a _; simp
      | cons q qs ih =>
        intro a hq
        rw [List.foldl_cons]
        refine Nat.le_trans (ih _ (fun w hw => hq w (List.mem_cons_of_mem _ hw))) ?_
        have := hq q List.mem_cons_self
        rw [List.length_append, List.length_cons, List.length_cons, Nat.add_mul]
        omega
    have h1 := key ps p (fun w hw => h w (List.mem_cons_of_mem _ hw))
    have h2 := h p List.mem_cons_self
    show (ps.foldl (fun a q => a ++ 32 :: q) p).length ≤ _
    rw [List.length_cons, Nat.add_mul]
    omega
theorem decF_len {n : Int} (h : rangeB n 0 99 = true) : (decF n).length ≤ 2 := by
  obtain ⟨h1, h2⟩ := rangeB_iff.1 h
  unfold decF
  by_cases h10 : n.toNat < 10
  · rw [dec_one h10]; simp
  · rw [dec_two (by omega) (by omega)]; simp
theorem pkgB_l12 {p : List UInt8} (h : pkgB p = true) : p.length ≤ 12 := by
  by_cases hp : p = []
  · subst hp; simp
  · unfold pkgB at h
    rw [Bool.or_eq_true] at h
    rcases h with h | h
    · simp at h; exact absurd h hp
    · exact nameB_len h
theorem dash_len {s : List UInt8} (h : pkgB s = true) : (dashL s).length ≤ 12 := by
  unfold dashL
  split
  · simp
  · exact pkgB_l12 h
theorem wordsF_len {f : Fi} (h : fileB f = true) : ∀ w ∈ wordsF f, w.length ≤ 12 := by
  obtain ⟨h1, h2, h3, h4, h5, h6⟩ := fi_parts h
  intro w hw
  unfold wordsF at hw
  simp only [List.mem_cons, List.not_mem_nil, or_false] at hw
  rcases hw with rfl | rfl | rfl | rfl | rfl
  · decide
  · have := decF_len (range_02 h1); omega
  · exact dash_len h2
  · cases hi : f.init
    · have := (partB_len (h6 hi)).2
      simp
      omega
    · simp
  · have := decF_len h3; omega
theorem wordsS_len {s : St} (h : stB s = true) : (∀ w ∈ wordsS s, w.length ≤ 12) ∧ (wordsS s).length ≤ 4 := by
  rcases st_kinds h with ⟨k, h1, _⟩ | ⟨k, h1, h2, h3, _⟩ | ⟨k, h1, _⟩ | ⟨k, _, _, h1, h2⟩ | ⟨k, _, _, h1, _⟩ | ⟨k, _⟩
  all_goals
    unfold wordsS
    rw [k]
    simp
  · exact ⟨by decide, nameB_len h1⟩
  · have := decF_len (range_03 h2)
    have := (partB_len h3).2
    exact ⟨by decide, by omega, dash_len h1, by omega⟩
  · exact ⟨by decide, nameB_len h1⟩
  · have := decF_len h2
    have := (partB_len h1).2
    exact ⟨by decide, by omega, by omega⟩
  · have := (partB_len h1).2
    exact ⟨by decide, by omega⟩
  · decide
def fileT (f : Fi) (m : Nat) : List UInt8 := lineL (wordsF f) ++ (f.body.take m).flatMap fun s => lineL (wordsS s)
theorem fileT_zero (f : Fi) : fileT f 0 = lineL (wordsF f) := by simp [fileT]
theorem fileT_next {f : Fi} {m : Nat} (h : m < f.body.length) : fileT f (m + 1) = fileT f m ++ lineL (wordsS (nth f.body m)) := by
  unfold fileT
  rw [take_succ_nth h, List.flatMap_append, List.flatMap_singleton, List.append_assoc]
theorem fmtT_nil : fmtT [] = [] := rfl
theorem fmtT_snoc (t : List Fi) (f : Fi) : fmtT (t ++ [f]) = fmtT t ++ fileT f f.body.length := by
  unfold fmtT linesT fileT
  rw [List.flatMap_append, List.flatMap_append, List.flatMap_singleton, List.flatMap_cons, List.take_length, List.flatMap_map]
theorem fmtT_next {t : List Fi} {k : Nat} (h : k < t.length) : fmtT (t.take (k + 1)) = fmtT (t.take k) ++ fileT (nth t k) (nth t k).body.length := by
  rw [take_succ_nth h, fmtT_snoc]
theorem lineS_len {s : St} (h : stB s = true) : (lineL (wordsS s)).length ≤ 53 := by
  obtain ⟨h1, h2⟩ := wordsS_len h
  have := spJ_len h1
  unfold lineL
  rw [List.length_append, List.length_singleton]
  have : (wordsS s).length * (12 + 1) ≤ 4 * 13 := Nat.mul_le_mul_right 13 h2
  omega
theorem lineF_len {f : Fi} (h : fileB f = true) : (lineL (wordsF f)).length ≤ 66 := by
  have := spJ_len (wordsF_len h)
  unfold lineL
  rw [List.length_append, List.length_singleton]
  have : (wordsF f).length = 5 := rfl
  omega
theorem bodyB_l8 {b : List St} (h : bodyB b = true) : b.length ≤ 8 ∧ ∀ s ∈ b, stB s = true := by
  unfold bodyB at h
  rw [Bool.and_eq_true, allN_iff] at h
  refine ⟨by have := h.2; simpa using this, fun s hs => ?_⟩
  obtain ⟨k, hk, rfl⟩ := List.getElem_of_mem hs
  rw [← nth_eq hk]
  exact h.1 k hk
theorem fileT_len {f : Fi} (h : fileB f = true) (m : Nat) : (fileT f m).length ≤ 500 := by
  have h1 := lineF_len h
  obtain ⟨h2, h3⟩ := bodyB_l8 (fi_parts h).2.2.2.1
  have key : ∀ b : List St, (∀ s ∈ b, stB s = true) → (b.flatMap fun s => lineL (wordsS s)).length ≤ 53 * b.length := by
    intro b
    induction b with
    | nil => intro _; simp
    | cons s b ih =>
      intro hb
      have e1 := ih (fun s hs => hb s (List.mem_cons_of_mem _ hs))
      have e2 := lineS_len (hb s List.mem_cons_self)
      rw [List.flatMap_cons, List.length_append, List.length_cons]
      omega
  have h4 := key (f.body.take m) (fun s hs => h3 s (List.mem_of_mem_take hs))
  have h5 : (f.body.take m).length ≤ 8 := by rw [List.length_take]; omega
  unfold fileT
  rw [List.length_append]
  omega
theorem fmtT_len : ∀ {t : List Fi}, (∀ f ∈ t, fileB f = true) → (fmtT t).length ≤ 500 * t.length := by
  intro t
  induction t with
  | nil => intro _; simp [fmtT_nil]
  | cons f t ih =>
    intro h
    have e1 := ih (fun g hg => h g (List.mem_cons_of_mem _ hg))
    have e2 := fileT_len (h f List.mem_cons_self) f.body.length
    have e3 : fmtT (f :: t) = fileT f f.body.length ++ fmtT t := by
      have := fmtT_snoc [] f
      unfold fmtT linesT fileT
      rw [List.flatMap_cons, List.flatMap_append, List.flatMap_cons, List.take_length, List.flatMap_map]
    rw [e3, List.length_append, List.length_cons]
    omega

end Go.Proofs.YtmhcmabiolaoaaaGreatDoor
