/- The part ahead of the first dot: strings.Cut by its contract; the reference's own. No condition but lengths. -/
import Derived.Test.YtgjfjjhmgbemcaaDoorModsW
import Derived.Shelf.Strings.Cut
namespace Go.Proofs.YtgjfjjhmgbemcaaDoor
open Go.RowKit

theorem first_index : ∀ s : List UInt8, (Lib.index s [46] = -1 ∧ nth (splitL 46 s) 0 = s) ∨ ∃ i : Nat, Lib.index s [46] = (i : Int) ∧ nth (splitL 46 s) 0 = s.take i
  | [] => .inl ⟨rfl, rfl⟩
  | b :: s => by
    have hp : ([46] : List UInt8).isPrefixOf (b :: s) = (46 == b) := by simp [List.isPrefixOf]
    cases hb : b == 46
    · have hb2 : ((46 : UInt8) == b) = false := by rw [Bool.eq_false_iff] at hb ⊢; intro e; apply hb; rw [beq_iff_eq] at e ⊢; exact e.symm
      have hsp : nth (splitL 46 (b :: s)) 0 = b :: nth (splitL 46 s) 0 := by
        rw [splitL, hb, if_neg (by simp)]
        cases hs : splitL 46 s with
        | nil => exact absurd hs (splitL_ne 46 s)
        | cons p r => rfl
      rw [Lib.index, hp, hb2, if_neg (by simp), hsp]
      rcases first_index s with ⟨h1, h2⟩ | ⟨i, h1, h2⟩
      · left
        rw [h1, h2]
        exact ⟨rfl, rfl⟩
      · right
        have hne : (Lib.index s [46] == -1) = false := by rw [h1, Bool.eq_false_iff]; intro e; rw [beq_iff_eq] at e; omega
        rw [hne, if_neg (by simp), h1, h2]
        exact ⟨i + 1, by omega, rfl⟩
    · right
      have hb2 : ((46 : UInt8) == b) = true := by rw [beq_iff_eq] at hb ⊢; exact hb.symm
      rw [Lib.index, hp, hb2, if_pos rfl, splitL, hb, if_pos rfl]
      exact ⟨0, rfl, rfl⟩
theorem cut_first (s : List UInt8) : (Lib.cut s [46]).1 = nth (splitL 46 s) 0 := by
  unfold Lib.cut
  rcases first_index s with ⟨h1, h2⟩ | ⟨i, h1, h2⟩
  · rw [h1, if_neg (by omega), h2]
  · rw [h1, if_pos (by omega), h2]
    rfl
end Go.Proofs.YtgjfjjhmgbemcaaDoor
