/- Directories alone: the plain law. No condition. -/
import Derived.Test.YtcophpiibifhcaaDoorFind
namespace Go.Proofs.YtcophpiibifhcaaDoor
open Go.RowKit

theorem findGo_roots (l : List Fi) (p s : List UInt8) : ∀ (path acc : List Int), (findGo l p s path acc).roots.length ≤ acc.length + path.length + 1
  | [], acc => by
    unfold findGo
    split <;> simp [noneSp]
  | r :: rs, acc => by
    unfold findGo
    split
    · simp
    · split
      · simp
      · refine Nat.le_trans (findGo_roots l p s rs _) ?_
        split <;> simp <;> omega
theorem findInF_roots (l : List Fi) (path : List Int) (p s : List UInt8) : (findInF l path p s).roots.length ≤ path.length + 1 := by
  unfold findInF
  split
  · have := findGo_roots l p s path []
    simpa [findF] using this
  · simp [noneSp]
theorem findGo_space (l : List Fi) (p s : List UInt8) : ∀ (path acc : List Int), (findGo l p s path acc).kind = 3 → (findGo l p s path acc).file = -1 ∧
    (findGo l p s path acc).roots = acc ++ path.filter (fun x => dirS l x (childL p s)) ∧ ∀ x ∈ path, ¬ 0 ≤ fidx l (initF x (childL p s)) ∧ ¬ 0 ≤ fidx l (fileF x p s)
  | [], acc => fun h => by
    unfold findGo at h ⊢
    split at h
    · simp [noneSp] at h
    · rename_i h0
      simp [h0]
  | r :: rs, acc => fun h => by
    unfold findGo at h ⊢
    split at h
    · simp at h
    · rename_i h1
      split at h
      · simp at h
      · rename_i h2
        obtain ⟨e1, e2, e3⟩ := findGo_space l p s rs _ h
        rw [if_neg h1, if_neg h2]
        refine ⟨e1, ?_, ?_⟩
        · rw [e2]
          cases hd : dirS l r (childL p s) <;> simp [hd]
        · intro x hx
          rcases List.mem_cons.1 hx with rfl | hx
          · exact ⟨h1, h2⟩
          · exact e3 x hx
/-- What HasDir answers. -/
def hasB (l : List Fi) (r : Int) (p : List UInt8) : Bool := treeB l && rangeB r 0 2 && pkgB p && dirS l r p
theorem space_law {l : List Fi} {path : List Int} {p s : List UInt8} (h : (findInF l path p s).kind = 3) : (findInF l path p s).file = -1 ∧ (findInF l path p s).roots = path.filter (fun x => hasB l x (childOf p s)) ∧
    ∀ k, k < path.length → (findInF l [nth path k] p s).file = -1 := by
  have hv : (treeB l && pathB path && pkgB p && partB s && nameB (childL p s)) = true := by
    cases hv : (treeB l && pathB path && pkgB p && partB s && nameB (childL p s))
    · rw [findInF, hv] at h; simp [noneSp] at h
    · rfl
  rw [findInF, hv] at h
  rw [findInF, hv]
  simp only [if_true] at h ⊢
  obtain ⟨e1, e2, e3⟩ := findGo_space l p s path [] h
  simp only [Bool.and_eq_true] at hv
  obtain ⟨⟨⟨⟨v1, v2⟩, v3⟩, v4⟩, v5⟩ := hv
  have hpk : pkgB (childL p s) = true := by simp [pkgB, v5]
  have hch : childOf p s = childL p s := by simp [childOf, v3, v4, v5]
  refine ⟨e1, ?_, ?_⟩
  · rw [findF, e2, List.nil_append]
    apply List.filter_congr
    intro x hx
    obtain ⟨k, hk, rfl⟩ := List.getElem_of_mem hx
    have := allN_iff.1 v2 k hk
    rw [Bool.and_eq_true, nth_eq hk] at this
    simp [hasB, v1, this.1, hch, hpk]
  · intro k hk
    obtain ⟨f1, f2⟩ := e3 _ (nth_mem hk)
    unfold findInF
    split
    · rw [findF, findGo, if_neg f1, if_neg f2, findGo]
      split <;> simp [noneSp]
    · rfl

end Go.Proofs.YtcophpiibifhcaaDoor
