/- A change of a disk, as the program's functions count it: plain, no program in sight. No condition. -/
import Derived.Test.YtgjfjjhmgbemcaaGreatDoorAfterLaw
import Derived.Test.YtgjfjjhmgbemcaaGreatDoorDkAdd
import Derived.Test.YtgjfjjhmgbemcaaGreatDoorDkRem
import Derived.Test.YtgjfjjhmgbemcaaGreatDoorWtR
namespace Go.Proofs.YtgjfjjhmgbemcaaGreatDoor
open Go.RowKit

def chgR (d : Dk) (a : Ac) (t : Int) : Dk := if chgB d a t = true then chgD d a t else dk0
theorem diskB_no {l : List Fi} {kk : Int} {dl : List Di} (h : treeB l = false) : diskB l kk dl = false := by
  unfold diskB
  rw [h]
  rfl
theorem add_same {d : Dk} {f : Fi} {t : Int} (hok : d.ok = true) : daB d.l d.kk d.dl f t = dAddB d f t := by
  unfold daB dAddB Dk.ok at *
  have ht := diskB_tree hok
  rw [hok]
  cases h : treeB (d.l ++ [f])
  · have h1 : addB d.l f = false := by unfold addB; rw [h, Bool.and_false]
    rw [h1, Bool.and_false, Bool.false_and]
    unfold chB
    rw [diskB_no h, Bool.and_false, Bool.and_false]
  · have h1 : addB d.l f = true := by unfold addB; rw [h, ht]; rfl
    rw [h1, addL, if_pos h1]
    unfold chB
    cases rangeB t 0 200 <;> simp
theorem rem_same {d : Dk} {i t : Int} (hok : d.ok = true) : drB d.l d.kk d.dl i t = dRemB d i t := by
  unfold drB dRemB Dk.ok at *
  have ht := diskB_tree hok
  rw [hok]
  cases h : rangeB i 0 ((d.l.length : Int) - 1)
  · have h1 : remB d.l i = false := by unfold remB; rw [h, Bool.and_false]
    rw [h1]
    simp
  · have h1 : remB d.l i = true := by unfold remB; rw [h, ht]; rfl
    rw [h1, remL, if_pos h1]
    unfold chB
    cases rangeB t 0 200 <;> simp
theorem add_chg {l : List Fi} {kk t : Int} {dl : List Di} {x : Ac} (hok : diskB l kk dl = true) (h0 : x.kind = 0) :
    chgB ⟨l, kk, dl⟩ x t = daB l kk dl (stF x.file (kk + t)) t ∧ (chgR ⟨l, kk, dl⟩ x t).l = daL l kk dl (stF x.file (kk + t)) t ∧ (chgR ⟨l, kk, dl⟩ x t).kk = daK l kk dl (stF x.file (kk + t)) t ∧ (chgR ⟨l, kk, dl⟩ x t).dl = daD l kk dl (stF x.file (kk + t)) t := by
  have h1 : chgB ⟨l, kk, dl⟩ x t = daB l kk dl (stF x.file (kk + t)) t := by
    unfold chgB
    rw [if_pos h0]
    exact (add_same (d := ⟨l, kk, dl⟩) hok).symm
  refine ⟨h1, ?_⟩
  unfold chgR daL daK daD
  rw [h1]
  cases h : daB l kk dl (stF x.file (kk + t)) t
  · exact ⟨rfl, rfl, rfl⟩
  · have h2 : addB l (stF x.file (kk + t)) = true := by
      unfold daB at h
      simp only [Bool.and_eq_true] at h
      exact h.1.2
    simp only [if_true]
    unfold chgD dAddD
    rw [if_pos h0, addL, if_pos h2]
    exact ⟨rfl, rfl, rfl⟩
theorem rem_chg {l : List Fi} {kk t : Int} {dl : List Di} {x : Ac} (hok : diskB l kk dl = true) (h1 : x.kind = 1) :
    chgB ⟨l, kk, dl⟩ x t = drB l kk dl x.idx t ∧ (chgR ⟨l, kk, dl⟩ x t).l = drL l kk dl x.idx t ∧ (chgR ⟨l, kk, dl⟩ x t).kk = drK l kk dl x.idx t ∧ (chgR ⟨l, kk, dl⟩ x t).dl = drD l kk dl x.idx t := by
  have h0 : ¬ x.kind = 0 := by omega
  have hb : chgB ⟨l, kk, dl⟩ x t = drB l kk dl x.idx t := by
    unfold chgB
    rw [if_neg h0, if_pos h1]
    exact (rem_same (d := ⟨l, kk, dl⟩) hok).symm
  refine ⟨hb, ?_⟩
  unfold chgR drL drK drD
  rw [hb]
  cases h : drB l kk dl x.idx t
  · exact ⟨rfl, rfl, rfl⟩
  · have h2 : remB l x.idx = true := by
      unfold drB at h
      simp only [Bool.and_eq_true] at h
      exact h.1.2
    simp only [if_true]
    unfold chgD dRemD
    rw [if_neg h0, if_pos h1, remL, if_pos h2]
    exact ⟨rfl, rfl, rfl⟩
theorem ed_chg {l : List Fi} {kk t : Int} {dl : List Di} {x : Ac} (hok : diskB l kk dl = true) (h0 : ¬ x.kind = 0) (h1 : ¬ x.kind = 1) (ht : 0 ≤ t) (hk : kk + t ≤ 200) :
    chgB ⟨l, kk, dl⟩ x t = edB l x.idx (kk + t) x.file.body ∧ (edB l x.idx (kk + t) x.file.body = true → chgR ⟨l, kk, dl⟩ x t = ⟨edL l x.idx (kk + t) x.file.body, kk + t, dl⟩ ∧ diskB (edL l x.idx (kk + t) x.file.body) (kk + t) dl = true) ∧ (edB l x.idx (kk + t) x.file.body = false → chgR ⟨l, kk, dl⟩ x t = dk0) := by
  have hb : chgB ⟨l, kk, dl⟩ x t = edB l x.idx (kk + t) x.file.body := by
    unfold chgB dEdB
    rw [if_neg h0, if_neg h1]
    cases h : edB l x.idx (kk + t) x.file.body
    · rfl
    · rw [Bool.true_and]
      exact edit_disk hok h ht hk
  refine ⟨hb, fun h => ⟨?_, edit_disk hok h ht hk⟩, fun h => ?_⟩
  · unfold chgR
    rw [hb, h]
    simp only [if_true]
    unfold chgD dEdD
    rw [if_neg h0, if_neg h1]
  · unfold chgR
    rw [hb, h]
    rfl

end Go.Proofs.YtgjfjjhmgbemcaaGreatDoor
