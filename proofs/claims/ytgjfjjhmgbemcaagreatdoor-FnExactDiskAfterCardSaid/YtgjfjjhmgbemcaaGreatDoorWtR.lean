/- Weights of what DiskRemove returns. No condition. -/
import Derived.Test.YtgjfjjhmgbemcaaGreatDoorWtD
import Derived.Test.YtgjfjjhmgbemcaaGreatDoorDkRem
namespace Go.Proofs.YtgjfjjhmgbemcaaGreatDoor
open Go.RowKit

theorem dr_disk {l : List Fi} {kk : Int} {dl : List Di} {i t : Int} (h : drB l kk dl i t = true) : diskB (drL l kk dl i t) (drK l kk dl i t) (drD l kk dl i t) = true := by
  rw [drL, drK, drD, if_pos h, if_pos h, if_pos h]
  unfold drB at h
  simp only [Bool.and_eq_true] at h
  exact chB_disk h.2
theorem dr_wt (l : List Fi) (kk : Int) (dl : List Di) (i t : Int) : wtF (drL l kk dl i t) ≤ 540 ∧ (drL l kk dl i t).length ≤ 12 ∧ wtD (drD l kk dl i t) ≤ 60 ∧ (drD l kk dl i t).length ≤ 20 := by
  by_cases h : drB l kk dl i t = true
  · exact disk_wt (dr_disk h)
  · rw [drL, drD, if_neg h, if_neg h]
    simp [wtF, wtD]
theorem dr_ok {l : List Fi} {kk : Int} {dl : List Di} {i t : Int} (h : OkL l) (hd : OkD dl) : OkL (drL l kk dl i t) ∧ OkD (drD l kk dl i t) := by
  constructor
  · unfold drL
    split
    · exact h.sublist (rem_sub l i)
    · exact ⟨by simp, fun f hf => by cases hf⟩
  · unfold drD
    split
    · rename_i hb
      unfold drB at hb
      simp only [Bool.and_eq_true] at hb
      have h20 := (disk_parts hb.1.1.1).2.2
      exact (okD_stamps (r := (nth l i.toNat).root) (st := kk + t) (pathsL (nth l i.toNat).pkg) dl 20 hd h20 (by have := (paths_len (p := (nth l i.toNat).pkg)).1; omega) (fun q hq => by have := (paths_len (p := (nth l i.toNat).pkg)).2 q hq; omega)).1
    · exact ⟨by simp, fun f hf => by cases hf⟩

end Go.Proofs.YtgjfjjhmgbemcaaGreatDoor
