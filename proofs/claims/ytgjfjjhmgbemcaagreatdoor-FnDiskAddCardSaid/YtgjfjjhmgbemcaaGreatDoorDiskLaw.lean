/- A disk after a change: what the laws on disks rest on: plain, no program in sight. No condition. -/
import Derived.Test.YtgjfjjhmgbemcaaGreatDoorStampLaw
namespace Go.Proofs.YtgjfjjhmgbemcaaGreatDoor
open Go.RowKit

/-- The directories after a change of a package, and whether the disk is valid then. -/
def chD (dl : List Di) (r : Int) (p : List UInt8) (st : Int) : List Di := stampsL dl r (pathsL p) st
def chB (l' : List Fi) (kk : Int) (dl : List Di) (r : Int) (p : List UInt8) (ticks : Int) : Bool := rangeB ticks 0 200 && diskB l' (kk + ticks) (chD dl r p (kk + ticks))
def touchB (r : Int) (p : List UInt8) (r' : Int) (q : List UInt8) : Bool := r' == r && (q == [] || (p != [] && isUnder p q))
theorem touch_iff {r r' : Int} {p q : List UInt8} (hq : pkgB q = true) : touchB r p r' q = true ↔ r' = r ∧ q ∈ pathsL p := by
  rw [mem_pathsL]
  unfold touchB
  simp only [Bool.and_eq_true, Bool.or_eq_true, beq_iff_eq, bne_iff_ne, ne_eq]
  constructor
  · rintro ⟨h1, h2 | ⟨h2, h3⟩⟩
    · exact ⟨h1, .inl h2⟩
    · by_cases h4 : q = []
      · exact ⟨h1, .inl h4⟩
      · exact ⟨h1, .inr ⟨h2, h3, hq, h4⟩⟩
  · rintro ⟨h1, h2 | ⟨h2, h3, _, _⟩⟩
    · exact ⟨h1, .inl h2⟩
    · exact ⟨h1, .inr ⟨h2, h3⟩⟩
theorem chB_disk {l' : List Fi} {kk ticks r : Int} {dl : List Di} {p : List UInt8} (h : chB l' kk dl r p ticks = true) : diskB l' (kk + ticks) (chD dl r p (kk + ticks)) = true := by
  unfold chB at h
  exact (Bool.and_eq_true _ _ ▸ h).2
theorem ch_stamp {l l' : List Fi} {kk ticks r : Int} {dl : List Di} {p : List UInt8} {r' : Int} {q : List UInt8} (h0 : diskB l kk dl = true) (h : chB l' kk dl r p ticks = true) (hr : rangeB r' 0 2 = true) (hq : pkgB q = true) :
    stampB l' (kk + ticks) (chD dl r p (kk + ticks)) r' q = if touchB r p r' q then kk + ticks else stampB l kk dl r' q := by
  rw [stamp_look (by rw [chB_disk h, hr, hq]; rfl), stamp_look (by rw [h0, hr, hq]; rfl), chD, look_stamps]
  by_cases h1 : touchB r p r' q = true
  · rw [if_pos h1, if_pos ((touch_iff hq).1 h1)]
  · rw [if_neg h1, if_neg fun h2 => h1 ((touch_iff hq).2 h2)]
theorem touch_nil (r : Int) (p : List UInt8) : touchB r p r [] = true := by simp [touchB]
theorem touch_self {r : Int} {p : List UInt8} (hp : pkgB p = true) : touchB r p r p = true := by
  rw [touch_iff hp]
  refine ⟨rfl, ?_⟩
  by_cases h : p = []
  · rw [h]
    exact List.mem_cons_self ..
  · refine List.mem_cons_of_mem _ ?_
    exact under_above (pkgB_name hp h) h (underB_self _)

end Go.Proofs.YtgjfjjhmgbemcaaGreatDoor
