/- The first root with a file wins: the plain law. No condition. -/
import Derived.Test.YtcophpiibifhcaaDoorSpace
namespace Go.Proofs.YtcophpiibifhcaaDoor
open Go.RowKit

def hitP (l : List Fi) (p s : List UInt8) (r : Int) : Prop := 0 ≤ fidx l (initF r (childL p s)) ∨ 0 ≤ fidx l (fileF r p s)
/-- What one root gives. -/
def oneF (l : List Fi) (p s : List UInt8) (r : Int) : Sp := if 0 ≤ fidx l (initF r (childL p s)) then ⟨2, fidx l (initF r (childL p s)), [r]⟩ else ⟨1, fidx l (fileF r p s), []⟩
theorem fidx_place {l : List Fi} {f : Fi} (h : 0 ≤ fidx l f) : ∃ j, j < l.length ∧ fidx l f = (j : Int) ∧ sameP (nth l j) f = true := by
  unfold fidx at h ⊢
  rcases firstN_cases (fun k => sameP (nth l k) f) l.length with ⟨_, e⟩ | ⟨k, hk, h1, _, e⟩
  · rw [e] at h; omega
  · exact ⟨k, hk, e, h1⟩
theorem findGo_at (l : List Fi) (p s : List UInt8) : ∀ (path acc : List Int) (k : Nat), k < path.length → (∀ i, i < k → ¬ hitP l p s (nth path i)) → hitP l p s (nth path k) → findGo l p s path acc = oneF l p s (nth path k)
  | [], _, k, hk, _, _ => absurd hk (by simp)
  | r :: rs, acc, 0, _, _, hh => by
    have hh : hitP l p s r := hh
    show findGo l p s (r :: rs) acc = oneF l p s r
    unfold findGo oneF
    rcases hh with h | h
    · rw [if_pos h, if_pos h]
    · by_cases h1 : 0 ≤ fidx l (initF r (childL p s))
      · rw [if_pos h1, if_pos h1]
      · rw [if_neg h1, if_neg h1, if_pos h]
  | r :: rs, acc, k + 1, hk, hn, hh => by
    have h0 : ¬ hitP l p s r := hn 0 (by omega)
    unfold findGo
    rw [if_neg (fun h => h0 (.inl h)), if_neg (fun h => h0 (.inr h))]
    exact findGo_at l p s rs _ k (by simpa using hk) (fun i hi => hn (i + 1) (by omega)) hh
theorem findGo_no (l : List Fi) (p s : List UInt8) : ∀ (path acc : List Int), (∀ i, i < path.length → ¬ hitP l p s (nth path i)) → (findGo l p s path acc).file = -1
  | [], acc, _ => by unfold findGo; split <;> rfl
  | r :: rs, acc, hn => by
    have h0 : ¬ hitP l p s r := hn 0 (by simp)
    unfold findGo
    rw [if_neg (fun h => h0 (.inl h)), if_neg (fun h => h0 (.inr h))]
    exact findGo_no l p s rs _ (fun i hi => hn (i + 1) (by simpa using hi))
theorem first_hit {P : Nat → Prop} [DecidablePred P] : ∀ n : Nat, (∀ i, i < n → ¬ P i) ∨ ∃ k, k < n ∧ P k ∧ ∀ i, i < k → ¬ P i
  | 0 => .inl fun i hi => absurd hi (by omega)
  | n + 1 => by
    rcases first_hit (P := P) n with h | ⟨k, hk, hp, hn⟩
    · by_cases hp : P n
      · exact .inr ⟨n, by omega, hp, h⟩
      · exact .inl fun i hi => by
          by_cases e : i = n
          · subst e; exact hp
          · exact h i (by omega)
    · exact .inr ⟨k, by omega, hp, hn⟩
theorem findGo_hit {l : List Fi} {p s : List UInt8} {path acc : List Int} (h : 0 ≤ (findGo l p s path acc).file) :
    ∃ k, k < path.length ∧ (∀ i, i < k → ¬ hitP l p s (nth path i)) ∧ hitP l p s (nth path k) ∧ findGo l p s path acc = oneF l p s (nth path k) := by
  haveI : DecidablePred (fun i => hitP l p s (nth path i)) := fun i => by unfold hitP; infer_instance
  rcases first_hit (P := fun i => hitP l p s (nth path i)) path.length with hn | ⟨k, hk, hh, hn⟩
  · rw [findGo_no l p s path acc hn] at h; omega
  · exact ⟨k, hk, hn, hh, findGo_at l p s path acc k hk hn hh⟩
theorem pathB_take {path : List Int} (h : pathB path = true) (m : Nat) : pathB (path.take m) = true := by
  unfold pathB at h ⊢
  rw [allN_iff] at h ⊢
  intro k hk
  rw [List.length_take] at hk
  have h1 := h k (by omega)
  rw [nth_take (by omega)]
  rw [Bool.and_eq_true] at h1 ⊢
  refine ⟨h1.1, ?_⟩
  rw [anyN_congr (q := fun j => nth path j == nth path k) (fun j hj => by rw [nth_take (by omega)])]
  exact h1.2
theorem pathB_ne {path : List Int} (h : pathB path = true) {i k : Nat} (hik : i < k) (hk : k < path.length) : nth path i ≠ nth path k := by
  have h1 := allN_iff.1 h k hk
  rw [Bool.and_eq_true] at h1
  have h2 : anyN (fun j => nth path j == nth path k) k = false := by simpa using h1.2
  have := anyN_false.1 h2 i hik
  simpa using this
/-- The file that one root gives: its root, its module, whether it is a package's. -/
theorem oneF_file {l : List Fi} {p s : List UInt8} {r : Int} (hh : hitP l p s r) : ∃ j, j < l.length ∧ (oneF l p s r).file = (j : Int) ∧ (nth l j).root = r ∧ moduleB (nth l j) = childL p s ∧ ((nth l j).init = true ↔ (oneF l p s r).kind = 2) ∧ ((oneF l p s r).kind = 1 ∨ (oneF l p s r).kind = 2) := by
  unfold oneF
  by_cases h1 : 0 ≤ fidx l (initF r (childL p s))
  · rw [if_pos h1]
    obtain ⟨j, hj, e, hs⟩ := fidx_place h1
    obtain ⟨s1, s2, s3, s4⟩ := sameP_iff.1 hs
    exact ⟨j, hj, e, s1, by rw [moduleB, s3, s2]; rfl, by rw [s3]; simp [initF], .inr rfl⟩
  · rw [if_neg h1]
    obtain ⟨j, hj, e, hs⟩ := fidx_place (hh.resolve_left h1)
    obtain ⟨s1, s2, s3, s4⟩ := sameP_iff.1 hs
    exact ⟨j, hj, e, s1, by rw [moduleB, s3, s2, s4]; rfl, by rw [s3]; simp [fileF], .inl rfl⟩
theorem first_law {l : List Fi} {path : List Int} {p s : List UInt8} (h : 0 ≤ (findInF l path p s).file) :
    ∃ j k, j < l.length ∧ (findInF l path p s).file = (j : Int) ∧ k < path.length ∧ nth path k = (nth l j).root ∧ (∀ i, i < k → nth path i ≠ (nth l j).root) ∧ (findInF l (path.take k) p s).file = -1 ∧
      findInF l (path.take (k + 1)) p s = findInF l path p s ∧ moduleOf (nth l j) = childOf p s := by
  have hv : (treeB l && pathB path && pkgB p && partB s && nameB (childL p s)) = true := by
    cases hv : (treeB l && pathB path && pkgB p && partB s && nameB (childL p s))
    · rw [findInF, hv] at h; simp [noneSp] at h
    · rfl
  have e0 : findInF l path p s = findGo l p s path [] := by rw [findInF, hv]; rfl
  simp only [Bool.and_eq_true] at hv
  obtain ⟨⟨⟨⟨v1, v2⟩, v3⟩, v4⟩, v5⟩ := hv
  have et : ∀ m, findInF l (path.take m) p s = findGo l p s (path.take m) [] := fun m => by
    rw [findInF, v1, pathB_take v2 m, v3, v4, v5]; rfl
  rw [e0] at h ⊢
  obtain ⟨k, hk, hn, hh, e⟩ := findGo_hit h
  obtain ⟨j, hj, f1, f2, f3, _, _⟩ := oneF_file hh
  refine ⟨j, k, hj, by rw [e, f1], hk, f2.symm, fun i hi => by rw [f2]; exact pathB_ne v2 hi hk, ?_, ?_, ?_⟩
  · rw [et]
    exact findGo_no l p s _ _ fun i hi => by
      rw [List.length_take] at hi
      rw [nth_take (by omega)]
      exact hn i (by omega)
  · rw [et, e, findGo_at l p s (path.take (k + 1)) [] k (by rw [List.length_take]; omega) (fun i hi => by rw [nth_take (by omega)]; exact hn i hi) (by rw [nth_take (by omega)]; exact hh), nth_take (by omega)]
  · rw [moduleOf, treeB_file v1 hj, if_pos rfl, f3]
    simp [childOf, v3, v4, v5]

end Go.Proofs.YtcophpiibifhcaaDoor
