/- A disk after a session: plain, no program in sight. No condition. -/
import Derived.Test.YtgjfjjhmgbemcaaGreatDoorLc
import Derived.Test.YtgjfjjhmgbemcaaGreatDoorEditLaw
import Derived.Test.YtgjfjjhmgbemcaaGreatDoorAct
namespace Go.Proofs.YtgjfjjhmgbemcaaGreatDoor
open Go.RowKit

structure Dk where
  l : List Fi
  kk : Int
  dl : List Di
deriving DecidableEq, Inhabited
def dk0 : Dk := ⟨[], 0, []⟩
def Dk.ok (d : Dk) : Bool := diskB d.l d.kk d.dl
def actB (a : Ac) : Bool := if a.kind = 0 then fileB a.file else if a.kind = 1 then true else if a.kind = 2 then bodyB a.file.body else if a.kind = 3 then nameB a.name else false
def stF (f : Fi) (st : Int) : Fi := { f with stamp := st }
def dAddB (d : Dk) (f : Fi) (t : Int) : Bool := d.ok && chB (d.l ++ [f]) d.kk d.dl f.root f.pkg t
def dAddD (d : Dk) (f : Fi) (t : Int) : Dk := ⟨d.l ++ [f], d.kk + t, chD d.dl f.root f.pkg (d.kk + t)⟩
def dRemB (d : Dk) (i t : Int) : Bool := d.ok && rangeB i 0 ((d.l.length : Int) - 1) && chB (d.l.eraseIdx i.toNat) d.kk d.dl (nth d.l i.toNat).root (nth d.l i.toNat).pkg t
def dRemD (d : Dk) (i t : Int) : Dk := ⟨d.l.eraseIdx i.toNat, d.kk + t, chD d.dl (nth d.l i.toNat).root (nth d.l i.toNat).pkg (d.kk + t)⟩
def dEdB (d : Dk) (i t : Int) (b : List St) : Bool := edB d.l i (d.kk + t) b && diskB (edL d.l i (d.kk + t) b) (d.kk + t) d.dl
def dEdD (d : Dk) (i t : Int) (b : List St) : Dk := ⟨edL d.l i (d.kk + t) b, d.kk + t, d.dl⟩
def chgB (d : Dk) (a : Ac) (t : Int) : Bool := if a.kind = 0 then dAddB d (stF a.file (d.kk + t)) t else if a.kind = 1 then dRemB d a.idx t else dEdB d a.idx t a.file.body
def chgD (d : Dk) (a : Ac) (t : Int) : Dk := if a.kind = 0 then dAddD d (stF a.file (d.kk + t)) t else if a.kind = 1 then dRemD d a.idx t else dEdD d a.idx t a.file.body
def stepD (t : Int) (d : Dk) (a : Ac) : Dk := if a.kind = 3 then d else if chgB d a t then chgD d a t else d
def afterD (t : Int) (acs : List Ac) : Dk := acs.foldl (stepD t) dk0
theorem dk0_ok : dk0.ok = true := by decide
theorem diskB_tree {l : List Fi} {kk : Int} {dl : List Di} (h : diskB l kk dl = true) : treeB l = true := by
  unfold diskB at h
  simp only [Bool.and_eq_true] at h
  exact h.1.1
theorem chg_ok {d : Dk} {a : Ac} {t : Int} (h : chgB d a t = true) : (chgD d a t).ok = true := by
  unfold chgB at h
  unfold chgD
  split at h
  · rename_i h0
    rw [if_pos h0]
    unfold dAddB at h
    exact chB_disk ((Bool.and_eq_true _ _ ▸ h).2)
  · rename_i h0
    rw [if_neg h0]
    split at h
    · rename_i h1
      rw [if_pos h1]
      unfold dRemB at h
      exact chB_disk ((Bool.and_eq_true _ _ ▸ h).2)
    · rename_i h1
      rw [if_neg h1]
      unfold dEdB at h
      exact (Bool.and_eq_true _ _ ▸ h).2
theorem chg_kk (d : Dk) (a : Ac) (t : Int) : (chgD d a t).kk = d.kk + t := by
  unfold chgD
  split
  · rfl
  · split <;> rfl
/-- Later stamps are allowed too: an edit leaves the disk valid. -/
theorem dirs_mono {dl : List Di} {a b nm : Int} (h : dirsB dl a nm = true) (hab : a ≤ b) : dirsB dl b nm = true := by
  unfold dirsB at h ⊢
  rw [Bool.and_eq_true, allN_iff] at h ⊢
  refine ⟨fun k hk => ?_, h.2⟩
  have h1 := h.1 k hk
  unfold dirB at h1 ⊢
  simp only [Bool.and_eq_true] at h1 ⊢
  obtain ⟨⟨⟨⟨h2, h3⟩, h4⟩, h5⟩, h6⟩ := h1
  refine ⟨⟨⟨⟨h2, h3⟩, ?_⟩, h5⟩, h6⟩
  rw [rangeB_iff] at h4 ⊢
  omega
theorem edit_disk {l : List Fi} {kk t i st : Int} {b : List St} {dl : List Di} (h : diskB l kk dl = true) (he : edB l i st b = true) (h0 : 0 ≤ t) (h1 : kk + t ≤ 200) : diskB (edL l i st b) (kk + t) dl = true := by
  have hu : treeB (edL l i st b) = true := by
    have := (edit_law he).1
    unfold edB at this
    simp only [Bool.and_eq_true] at this
    exact this.1.1.1
  unfold diskB at h ⊢
  simp only [Bool.and_eq_true] at h ⊢
  have h2 := rangeB_iff.1 h.1.2
  exact ⟨⟨hu, rangeB_iff.2 (by omega)⟩, dirs_mono h.2 (by omega)⟩
theorem step_ok {t : Int} {d : Dk} {a : Ac} (h : d.ok = true) : (stepD t d a).ok = true := by
  unfold stepD
  split
  · exact h
  · split
    · rename_i h1
      exact chg_ok h1
    · exact h
theorem step_kk (t : Int) (d : Dk) (a : Ac) : (stepD t d a).kk = d.kk + (if a.kind ≠ 3 ∧ chgB d a t = true then 1 else 0) * t := by
  unfold stepD
  by_cases h : a.kind = 3
  · rw [if_pos h, if_neg (fun h2 => h2.1 h)]
    omega
  · rw [if_neg h]
    by_cases h2 : chgB d a t = true
    · rw [if_pos h2, if_pos ⟨h, h2⟩, chg_kk]
      omega
    · rw [if_neg h2, if_neg (fun h3 => h2 h3.2)]
      omega
theorem after_next {t : Int} {acs : List Ac} {k : Nat} (hk : k < acs.length) : afterD t (acs.take (k + 1)) = stepD t (afterD t (acs.take k)) (nth acs k) := by
  unfold afterD
  rw [take_succ_nth hk, List.foldl_append]
  rfl
/-- How many changes were possible. -/
def cntK (t : Int) (acs : List Ac) : Nat → Int
  | 0 => 0
  | k + 1 => cntK t acs k + if (nth acs k).kind ≠ 3 ∧ chgB (afterD t (acs.take k)) (nth acs k) t = true then 1 else 0
theorem cntK_le (t : Int) (acs : List Ac) : ∀ k : Nat, 0 ≤ cntK t acs k ∧ cntK t acs k ≤ (k : Int)
  | 0 => by simp [cntK]
  | k + 1 => by
    have := cntK_le t acs k
    unfold cntK
    split <;> omega
theorem after_law {t : Int} {acs : List Ac} : ∀ k : Nat, k ≤ acs.length → (afterD t (acs.take k)).ok = true ∧ (afterD t (acs.take k)).kk = cntK t acs k * t
  | 0, _ => ⟨by rw [List.take_zero]; exact dk0_ok, by simp [cntK, afterD, dk0]⟩
  | k + 1, hk => by
    obtain ⟨h1, h2⟩ := after_law (t := t) (acs := acs) k (by omega)
    rw [after_next (by omega)]
    refine ⟨step_ok h1, ?_⟩
    rw [step_kk, h2]
    show _ = (cntK t acs k + _) * t
    rw [Int.add_mul]
/-- Of a session of at most 20 acts with at most 4 ticks each the clock stays small: so no stamp is cut. -/
theorem after_small {t : Int} {acs : List Ac} {k : Nat} (hk : k ≤ acs.length) (hl : acs.length ≤ 20) (h0 : 0 ≤ t) (h4 : t ≤ 4) : 0 ≤ (afterD t (acs.take k)).kk ∧ (afterD t (acs.take k)).kk ≤ 80 := by
  rw [(after_law k hk).2]
  obtain ⟨h1, h2⟩ := cntK_le t acs k
  have h5 : cntK t acs k ≤ 20 := by omega
  constructor
  · exact Int.mul_nonneg h1 h0
  · calc cntK t acs k * t ≤ 20 * t := Int.mul_le_mul_of_nonneg_right h5 h0
      _ ≤ 80 := by omega
theorem after_kk3 {t : Int} {acs : List Ac} {k : Nat} (hk : k < acs.length) (hl : acs.length ≤ 20) (h0 : 0 ≤ t) (h4 : t ≤ 4) : min 99 ((afterD t (acs.take k)).kk + t) = (afterD t (acs.take k)).kk + t := by
  have := after_small (t := t) (k := k) (by omega) hl h0 h4
  omega

end Go.Proofs.YtgjfjjhmgbemcaaGreatDoor
