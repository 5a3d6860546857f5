/- Names part by part: joining and splitting, prefixes of names. Plain; no condition. -/
import Derived.Test.YtcophpiibifhcaaDoorFirst
namespace Go.Proofs.YtcophpiibifhcaaDoor
open Go.RowKit

def joinL : List (List UInt8) → List UInt8
  | [] => []
  | p :: ps => ps.foldl (fun a q => a ++ 46 :: q) p
theorem joinL_snoc {l : List (List UInt8)} (h : l ≠ []) (q : List UInt8) : joinL (l ++ [q]) = joinL l ++ 46 :: q := by
  cases l with
  | nil => exact absurd rfl h
  | cons p ps => simp [joinL, List.foldl_append]
theorem join_foldl (x p : List UInt8) (r : List (List UInt8)) : r.foldl (fun a q => a ++ 46 :: q) (x ++ p) = x ++ r.foldl (fun a q => a ++ 46 :: q) p := by
  induction r generalizing p with
  | nil => rfl
  | cons q r ih =>
    simp only [List.foldl_cons]
    rw [List.append_assoc, ih]
theorem joinL_pre (x : List UInt8) {L : List (List UInt8)} (h : L ≠ []) : joinL (preL x L) = x ++ joinL L := by
  cases L with
  | nil => exact absurd rfl h
  | cons p r => exact join_foldl x p r
theorem joinL_hit {L : List (List UInt8)} (h : L ≠ []) : joinL ([] :: L) = 46 :: joinL L := by
  cases L with
  | nil => exact absurd rfl h
  | cons p r => exact join_foldl [46] p r
theorem joinL_split (s : List UInt8) : joinL (splitL 46 s) = s := by
  induction s with
  | nil => rfl
  | cons b s ih =>
    cases h : b == 46
    · rw [splitL_miss h, joinL_pre [b] (splitL_ne _ _), ih]; rfl
    · obtain rfl : b = 46 := by simpa using h
      rw [splitL_hit, joinL_hit (splitL_ne _ _), ih]
theorem splitL_mid (a b : List UInt8) : splitL 46 (a ++ 46 :: b) = splitL 46 a ++ splitL 46 b := by
  induction a with
  | nil => rw [List.nil_append, splitL_hit]; rfl
  | cons x a ih =>
    cases h : x == 46
    · rw [List.cons_append, splitL_miss h, splitL_miss h, ih]
      cases h' : splitL 46 a with
      | nil => exact absurd h' (splitL_ne _ _)
      | cons p r => rfl
    · obtain rfl : x = 46 := by simpa using h
      rw [List.cons_append, splitL_hit, splitL_hit, ih]; rfl
theorem splitL_clean : ∀ {p : List UInt8}, (∀ x ∈ p, x ≠ 46) → splitL 46 p = [p]
  | [], _ => rfl
  | x :: p, h => by
    rw [splitL_miss (by simpa using h x (by simp)), splitL_clean (fun y hy => h y (by simp [hy]))]
    rfl
theorem partB_split {p : List UInt8} (h : partB p = true) : splitL 46 p = [p] := by
  refine splitL_clean fun x hx => ?_
  rw [partB, Bool.and_eq_true] at h
  obtain ⟨k, hk, rfl⟩ := List.getElem_of_mem hx
  have := allN_iff.1 h.2 k hk
  rw [nth_eq hk] at this
  rintro e
  rw [e] at this
  exact absurd this (by decide)
theorem partB_len {p : List UInt8} (h : partB p = true) : 1 ≤ p.length ∧ p.length ≤ 3 := by
  rw [partB, Bool.and_eq_true] at h
  have := rangeB_iff.1 h.1
  omega
theorem split_foldl : ∀ (r : List (List UInt8)) (a : List UInt8), (∀ p ∈ r, partB p = true) → splitL 46 (r.foldl (fun a q => a ++ 46 :: q) a) = splitL 46 a ++ r
  | [], a, _ => by simp
  | q :: r, a, h => by
    rw [List.foldl_cons, split_foldl r _ (fun p hp => h p (by simp [hp])), splitL_mid, partB_split (h q (by simp)), List.append_assoc]
    rfl
theorem splitL_join {l : List (List UInt8)} (hne : l ≠ []) (h : ∀ p ∈ l, partB p = true) : splitL 46 (joinL l) = l := by
  cases l with
  | nil => exact absurd rfl hne
  | cons p r =>
    rw [joinL, split_foldl r p (fun q hq => h q (by simp [hq])), partB_split (h p (by simp))]
    rfl
theorem nameB_iff {s : List UInt8} : nameB s = true ↔ (∀ p ∈ splitL 46 s, partB p = true) ∧ (splitL 46 s).length ≤ 3 := by
  rw [nameB, Bool.and_eq_true, decide_eq_true_iff, allN_iff]
  refine and_congr_left fun _ => ⟨fun h p hp => ?_, fun h k hk => h _ (nth_mem hk)⟩
  obtain ⟨k, hk, rfl⟩ := List.getElem_of_mem hp
  rw [← nth_eq hk]
  exact h k hk
theorem nameB_join {l : List (List UInt8)} (hne : l ≠ []) (h : ∀ p ∈ l, partB p = true) (hl : l.length ≤ 3) : nameB (joinL l) = true := by
  rw [nameB_iff, splitL_join hne h]
  exact ⟨h, hl⟩
theorem foldl_len : ∀ (r : List (List UInt8)) (a : List UInt8), (∀ p ∈ r, partB p = true) → (r.foldl (fun a q => a ++ 46 :: q) a).length ≤ a.length + 4 * r.length
  | [], a, _ => by simp
  | q :: r, a, h => by
    rw [List.foldl_cons]
    refine Nat.le_trans (foldl_len r _ (fun p hp => h p (by simp [hp]))) ?_
    have := (partB_len (h q (by simp))).2
    simp
    omega
theorem joinL_len {l : List (List UInt8)} (h : ∀ p ∈ l, partB p = true) : (joinL l).length ≤ 4 * l.length := by
  cases l with
  | nil => simp [joinL]
  | cons p r =>
    refine Nat.le_trans (foldl_len r p (fun q hq => h q (by simp [hq]))) ?_
    have := (partB_len (h p (by simp))).2
    simp
    omega
theorem nameB_len {s : List UInt8} (h : nameB s = true) : s.length ≤ 12 := by
  obtain ⟨h1, h2⟩ := nameB_iff.1 h
  rw [← joinL_split s]
  have := joinL_len h1
  omega
/-- The name of the first k parts. -/
def pfx (s : List UInt8) (k : Nat) : List UInt8 := joinL ((splitL 46 s).take k)
theorem pfx_zero {s : List UInt8} : pfx s 0 = [] := by simp [pfx, joinL]
theorem pfx_all {s : List UInt8} {k : Nat} (hk : (splitL 46 s).length ≤ k) : pfx s k = s := by rw [pfx, List.take_of_length_le hk, joinL_split]
theorem part_at {s : List UInt8} (h : nameB s = true) {k : Nat} (hk : k < (splitL 46 s).length) : partB (nth (splitL 46 s) k) = true := (nameB_iff.1 h).1 _ (nth_mem hk)
theorem pfx_parts {s : List UInt8} (h : nameB s = true) (k : Nat) : ∀ p ∈ (splitL 46 s).take k, partB p = true := fun p hp => (nameB_iff.1 h).1 p (List.mem_of_mem_take hp)
theorem pfx_name {s : List UInt8} (h : nameB s = true) {k : Nat} (hk : 0 < k) : nameB (pfx s k) = true := by
  refine nameB_join ?_ (pfx_parts h k) ?_
  · intro e
    have e1 := congrArg List.length e
    have := splitL_pos 46 s
    rw [List.length_take, List.length_nil] at e1
    omega
  · have := (nameB_iff.1 h).2
    rw [List.length_take]
    omega
theorem pfx_pkg {s : List UInt8} (h : nameB s = true) (k : Nat) : pkgB (pfx s k) = true := by
  cases k with
  | zero => rw [pfx_zero]; rfl
  | succ k => rw [pkgB, pfx_name h (by omega), Bool.or_true]
theorem pfx_len {s : List UInt8} (h : nameB s = true) (k : Nat) : (pfx s k).length ≤ 12 := by
  cases k with
  | zero => rw [pfx_zero]; simp
  | succ k => exact nameB_len (pfx_name h (by omega))
theorem pfx_succ {s : List UInt8} (h : nameB s = true) {k : Nat} (hk : k < (splitL 46 s).length) : childL (pfx s k) (nth (splitL 46 s) k) = pfx s (k + 1) := by
  rw [pfx, pfx, take_succ_nth hk]
  cases k with
  | zero => simp [joinL, childL]
  | succ k =>
    have hn := nameB_ne (pfx_name h (k := k + 1) (by omega))
    rw [pfx] at hn
    rw [joinL_snoc, childL, hn]
    · rfl
    · intro e
      rw [e] at hn
      cases hn
theorem pfx_child {s : List UInt8} (h : nameB s = true) {k : Nat} (hk : k < (splitL 46 s).length) : childOf (pfx s k) (nth (splitL 46 s) k) = pfx s (k + 1) := by
  rw [childOf, pfx_succ h hk, pfx_pkg h, part_at h hk, pfx_name h (by omega)]; rfl
theorem pfx_split {s : List UInt8} (h : nameB s = true) {k : Nat} (hk : 0 < k) : splitL 46 (pfx s k) = (splitL 46 s).take k := by
  refine splitL_join ?_ (pfx_parts h k)
  intro e
  have e1 := congrArg List.length e
  have := splitL_pos 46 s
  rw [List.length_take, List.length_nil] at e1
  omega

/-! ### What is found of a name -/
def specGo (l : List Fi) : List (List UInt8) → List UInt8 → Sp → Sp
  | [], _, o => o
  | q :: qs, p, o => if o.kind = 2 ∨ o.kind = 3 then specGo l qs (childL p q) (findF l o.roots p q) else noneSp
def specF (l : List Fi) (path : List Int) (s : List UInt8) : Sp := specGo l (splitL 46 s) [] ⟨3, -1, path⟩
def specB (l : List Fi) (path : List Int) (s : List UInt8) : Sp := if treeB l && pathB path && nameB s then specF l path s else noneSp
theorem findGo_kind (l : List Fi) (p s : List UInt8) : ∀ (path acc : List Int), (findGo l p s path acc).kind = 0 ∨ (findGo l p s path acc).kind = 1 ∨ (findGo l p s path acc).kind = 2 ∨ (findGo l p s path acc).kind = 3
  | [], acc => by unfold findGo; split <;> simp [noneSp]
  | r :: rs, acc => by
    unfold findGo
    split
    · simp
    · split
      · simp
      · exact findGo_kind l p s rs _
theorem findF_kind (l : List Fi) (path : List Int) (p s : List UInt8) : (findF l path p s).kind = 0 ∨ (findF l path p s).kind = 1 ∨ (findF l path p s).kind = 2 ∨ (findF l path p s).kind = 3 := findGo_kind l p s path []
theorem findF_roots (l : List Fi) (path : List Int) (p s : List UInt8) : (findF l path p s).roots.length ≤ path.length + 1 := by
  have := findGo_roots l p s path []
  simpa [findF] using this

end Go.Proofs.YtcophpiibifhcaaDoor
