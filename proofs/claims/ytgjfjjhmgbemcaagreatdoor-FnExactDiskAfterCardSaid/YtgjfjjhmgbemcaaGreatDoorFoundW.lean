/- The names of a tree and the names that are found: the walks. No condition but lengths. -/
import Derived.Test.YtgjfjjhmgbemcaaGreatDoorPackW
import Derived.Test.YtgjfjjhmgbemcaaGreatDoorModsW
import Derived.Test.YtgjfjjhmgbemcaaGreatDoorLc
import Derived.Deep.RegionHeld3
namespace Go.Proofs.YtgjfjjhmgbemcaaGreatDoor
open Go.RowKit

theorem allP_next {l : List Fi} {k : Nat} (hk : k < l.length) : allP (l.take (k + 1)) = allP (l.take k) ++ aboveP (moduleB (nth l k)) := by
  unfold allP
  rw [take_succ_nth hk, List.flatMap_append]
  simp
theorem allP_len {l : List Fi} : (allP l).length ≤ 3 * l.length := by
  induction l with
  | nil => simp [allP]
  | cons f l ih =>
    have := aboveP_len (moduleB f)
    unfold allP at ih ⊢
    rw [List.flatMap_cons, List.length_append, List.length_cons]
    omega
theorem allP_short {l : List Fi} : ∀ x ∈ allP l, x.length ≤ 12 := by
  intro x hx
  obtain ⟨f, _, hx⟩ := List.mem_flatMap.1 hx
  exact aboveP_short x hx

theorem namesU_len {l : List Fi} (ht : treeB l = true) : (sortU (allP l)).length ≤ 36 := by
  have h1 := sortU_len (allP l)
  have h2 := @allP_len l
  have h3 := treeB_12 ht
  omega
theorem namesU_short {l : List Fi} : ∀ x ∈ sortU (allP l), x.length ≤ 12 := fun x hx => allP_short x ((sortU_facts _).2 x |>.1 hx)
theorem foundL_len {l : List Fi} {path : List Int} : (foundL l path).length ≤ 36 := by
  unfold foundL
  split
  · rename_i h
    rw [Bool.and_eq_true] at h
    exact Nat.le_trans (List.length_filter_le _ _) (namesU_len h.1)
  · simp
theorem foundL_short {l : List Fi} {path : List Int} : ∀ x ∈ foundL l path, x.length ≤ 12 := by
  intro x hx
  unfold foundL at hx
  split at hx
  · exact namesU_short x ((List.mem_filter.1 hx).1)
  · simp at hx

theorem names_nm {l : List Fi} : ∀ x ∈ sortU (allP l), nameB x = true := by
  intro x hx
  obtain ⟨f, hf, hx⟩ := mem_allP.1 ((sortU_facts _).2 x |>.1 hx)
  exact (above_under hx).2.1
theorem filt_next {xs : List (List UInt8)} {p : List UInt8 → Bool} {k : Nat} (hk : k < xs.length) : (xs.take (k + 1)).filter p = (xs.take k).filter p ++ (if p (nth xs k) then [nth xs k] else []) := by
  rw [take_succ_nth hk, List.filter_append]
  congr 1
  rw [List.filter_cons, List.filter_nil]
theorem filt_len {xs : List (List UInt8)} {p : List UInt8 → Bool} {k : Nat} : ((xs.take k).filter p).length ≤ xs.length := by
  refine Nat.le_trans (List.length_filter_le _ _) ?_
  rw [List.length_take]
  omega
theorem found_not {l : List Fi} {path : List Int} (h : (treeB l && pathB path) = false) : foundL l path = [] := by rw [foundL, h]; rfl
theorem found_is {l : List Fi} {path : List Int} (h1 : treeB l = true) (h2 : pathB path = true) : foundL l path = (sortU (allP l)).filter fun n => canB l path n := by rw [foundL, h1, h2]; rfl
theorem can_spec {l : List Fi} {path : List Int} {s : List UInt8} (h1 : treeB l = true) (h2 : pathB path = true) (h3 : nameB s = true) : canB l path s = !((specF l path s).kind == 0) := by
  rw [canB, specB, h1, h2, h3]
  rfl

end Go.Proofs.YtgjfjjhmgbemcaaGreatDoor
