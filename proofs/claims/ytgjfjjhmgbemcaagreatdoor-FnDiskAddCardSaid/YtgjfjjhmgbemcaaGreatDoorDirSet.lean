/- A directory of a table of the call's own gets another stamp, and a directory is appended: what the table holds then. No condition but lengths. -/
import Derived.Test.YtgjfjjhmgbemcaaGreatDoorDirT
import Derived.Test.YtgjfjjhmgbemcaaGreatDoorIa
namespace Go.Proofs.YtgjfjjhmgbemcaaGreatDoor
open Go.RowKit

theorem dcells_4 (x : Di × Value) : (dcells x).length = 4 := rfl
theorem flat_setD : ∀ {vs : List (Di × Value)} {k j : Nat} {u : Value} {y : Di × Value} (hk : k < vs.length), j < 4 → dcells y = (dcells vs[k]).set j u → (vs.flatMap dcells).set (k * 4 + j) u = (vs.set k y).flatMap dcells
  | [], k, j, u, y, hk, _, _ => absurd hk (by simp)
  | x :: vs, 0, j, u, y, hk, hj, h => by
    rw [List.flatMap_cons, List.set_cons_zero, List.flatMap_cons, List.set_append_left _ _ (by rw [dcells_4]; omega)]
    rw [h, Nat.zero_mul, Nat.zero_add]
    rfl
  | x :: vs, k + 1, j, u, y, hk, hj, h => by
    rw [List.flatMap_cons, List.set_cons_succ, List.flatMap_cons, List.set_append_right _ _ (by rw [dcells_4]; omega)]
    congr 1
    rw [dcells_4, show (k + 1) * 4 + j - 4 = k * 4 + j by omega]
    exact flat_setD (by simpa using hk) hj (by simpa using h)
theorem sep_sameD : ∀ {vs : List (Di × Value)} {k : Nat} {y : Di × Value} (hk : k < vs.length), y.2 = vs[k].2 → SepD vs → SepD (vs.set k y)
  | [], k, y, hk, _, _ => absurd hk (by simp)
  | x :: vs, 0, y, hk, h, hs => by
    unfold SepD at hs ⊢
    rw [List.set_cons_zero, List.pairwise_cons]
    rw [List.pairwise_cons] at hs
    refine ⟨fun z hz => ?_, hs.2⟩
    have h2 : y.2 = x.2 := h
    rw [h2]
    exact hs.1 z hz
  | x :: vs, k + 1, y, hk, h, hs => by
    unfold SepD at hs ⊢
    rw [List.set_cons_succ, List.pairwise_cons]
    rw [List.pairwise_cons] at hs
    refine ⟨fun z hz => ?_, sep_sameD (by simpa using hk) (by simpa using h) hs.2⟩
    rcases List.mem_or_eq_of_mem_set hz with hz | rfl
    · exact hs.1 z hz
    · have hk2 : k < vs.length := by simpa using hk
      have := hs.1 vs[k] (List.getElem_mem _)
      have h2 : z.2 = vs[k].2 := by simpa using h
      rw [h2]
      exact this
theorem map_set_fstD {vs : List (Di × Value)} {k : Nat} {y : Di × Value} : (vs.set k y).map (·.1) = (vs.map (·.1)).set k y.1 := List.map_set ..
theorem nth_fstD {vs : List (Di × Value)} {k : Nat} (hk : k < vs.length) : nth (vs.map (·.1)) k = vs[k].1 := by
  rw [nth_eq (by rw [List.length_map]; exact hk), List.getElem_map]
/-- The stamp is stored. -/
theorem dirsO_stamp {w : World} {B g n c k : Nat} {st : Int} {l : List Di} (h : DirsO w B (some ⟨g, 0, none⟩) n c l) (hk : k < n) :
    DirsO (w.setCell ⟨g, k * 4 + 2, none⟩ (.int .i64 st)) B (some ⟨g, 0, none⟩) n c (l.set k { nth l k with stamp := st }) := by
  obtain ⟨vs, e, h1, h2, hs, h3⟩ := h
  have hkv : k < vs.length := by rw [h1, e, List.length_map] at hk; exact hk
  obtain ⟨cs, hb⟩ := own_block h2
  refine ⟨vs.set k ({ vs[k].1 with stamp := st }, vs[k].2), ?_, by rw [List.length_set]; exact h1, ?_, sep_sameD hkv rfl hs, fun x hx => ?_⟩
  · rw [map_set_fstD, ← e]
    congr 2
    rw [e, nth_fstD hkv]
  · rw [← flat_setD hkv (show 2 < 4 by omega) (u := .int .i64 st) rfl]
    exact own_set h2 _
  · have key : ∃ ba bc, x.2 = .slice ba x.1.names.length bc ∧ w.ownsRow B 9 1 (.slice ba x.1.names.length bc) x.1.names.length (strs x.1.names) := by
      rcases List.mem_or_eq_of_mem_set hx with hx | rfl
      · exact h3 x hx
      · exact h3 vs[k] (List.getElem_mem _)
    obtain ⟨ba, bc, e1, ho⟩ := key
    exact ⟨ba, bc, e1, own_set_far ho hb (by decide) _ _⟩

end Go.Proofs.YtgjfjjhmgbemcaaGreatDoor
