/- Stamped directories: what the laws on disks rest on: plain, no program in sight. No condition. -/
import Derived.Test.YtgjfjjhmgbemcaaGreatDoorFoundLaw
import Derived.Test.YtgjfjjhmgbemcaaGreatDoorDisk
namespace Go.Proofs.YtgjfjjhmgbemcaaGreatDoor
open Go.RowKit

def didxL (dl : List Di) (r : Int) (p : List UInt8) : Int := didx dl r p dl.length
/-- One directory stamped; it is there afterwards. -/
def stD (dl : List Di) (r : Int) (p : List UInt8) (st : Int) : List Di :=
  if didxL dl r p < 0 then dl ++ [⟨r, p, st, []⟩] else dl.set (didxL dl r p).toNat { nth dl (didxL dl r p).toNat with stamp := st }
def stampsL (dl : List Di) (r : Int) (ps : List (List UInt8)) (st : Int) : List Di := ps.foldl (fun dl p => stD dl r p st) dl
def pathsL (p : List UInt8) : List (List UInt8) := [] :: aboveP p
def lookD (dl : List Di) (r : Int) (p : List UInt8) : Int := if didxL dl r p < 0 then 0 else (nth dl (didxL dl r p).toNat).stamp
theorem sameD_iff {d : Di} {r : Int} {p : List UInt8} : sameD d r p = true ↔ d.root = r ∧ d.pkg = p := by simp [sameD]
theorem didxL_cases (dl : List Di) (r : Int) (p : List UInt8) : (didxL dl r p = -1 ∧ ∀ k, k < dl.length → sameD (nth dl k) r p = false) ∨ ∃ k : Nat, k < dl.length ∧ didxL dl r p = (k : Int) ∧ sameD (nth dl k) r p = true ∧ ∀ j, j < k → sameD (nth dl j) r p = false := by
  unfold didxL didx
  rcases firstN_cases (fun k => sameD (nth dl k) r p) dl.length with ⟨h1, h2⟩ | ⟨k, hk, h1, h2, h3⟩
  · exact .inl ⟨h2, fun k hk => anyN_false.1 h1 k hk⟩
  · exact .inr ⟨k, hk, h3, h1, fun j hj => anyN_false.1 h2 j hj⟩
theorem didxL_of {dl : List Di} {r : Int} {p : List UInt8} {k : Nat} (hk : k < dl.length) (h1 : sameD (nth dl k) r p = true) (h2 : ∀ j, j < k → sameD (nth dl j) r p = false) : didxL dl r p = (k : Int) := by
  unfold didxL didx
  exact firstN_some (anyN_false.2 h2) h1 hk
theorem didxL_none {dl : List Di} {r : Int} {p : List UInt8} (h : ∀ k, k < dl.length → sameD (nth dl k) r p = false) : didxL dl r p = -1 := by
  unfold didxL didx
  exact firstN_none (anyN_false.2 h)
theorem nth_setD {dl : List Di} {i k : Nat} {d : Di} (hi : i < dl.length) : nth (dl.set i d) k = if k = i then d else nth dl k := by
  unfold nth
  rw [List.getD_eq_getElem?_getD, List.getElem?_set]
  split
  · rename_i h
    subst h
    simp
  · rename_i h
    rw [if_neg (fun e => h e.symm), List.getD_eq_getElem?_getD]
theorem nth_snocD {dl : List Di} {d : Di} : nth (dl ++ [d]) dl.length = d := by
  have := nth_append_right (l := dl) (m := [d]) (k := 0)
  rw [Nat.add_zero] at this
  rw [this]
  rfl
theorem look_st (dl : List Di) (r : Int) (p : List UInt8) (st r' : Int) (p' : List UInt8) : lookD (stD dl r p st) r' p' = if r' = r ∧ p' = p then st else lookD dl r' p' := by
  unfold stD
  rcases didxL_cases dl r p with ⟨e, h⟩ | ⟨i, hi, e, hs, hb⟩
  · rw [e, if_pos (by omega)]
    by_cases heq : r' = r ∧ p' = p
    · obtain ⟨rfl, rfl⟩ := heq
      rw [if_pos ⟨rfl, rfl⟩]
      have hd : didxL (dl ++ [⟨r', p', st, []⟩]) r' p' = (dl.length : Int) := didxL_of (by simp) (by rw [nth_snocD]; simp [sameD]) fun j hj => by rw [nth_append_left hj]; exact h j hj
      unfold lookD
      rw [hd, if_neg (by omega), Int.toNat_natCast, nth_snocD]
    · rw [if_neg heq]
      unfold lookD
      rcases didxL_cases dl r' p' with ⟨e2, h2⟩ | ⟨i2, hi2, e2, hs2, hb2⟩
      · have hd : didxL (dl ++ [⟨r, p, st, []⟩]) r' p' = -1 := didxL_none fun k hk => by
          rw [List.length_append, List.length_singleton] at hk
          rcases Nat.lt_succ_iff_lt_or_eq.1 hk with h3 | rfl
          · rw [nth_append_left h3]; exact h2 k h3
          · rw [nth_snocD, Bool.eq_false_iff, Ne, sameD_iff]
            exact fun h4 => heq ⟨h4.1.symm, h4.2.symm⟩
        rw [hd, e2, if_pos (by omega), if_pos (by omega)]
      · have hd : didxL (dl ++ [⟨r, p, st, []⟩]) r' p' = (i2 : Int) := didxL_of (by rw [List.length_append]; omega) (by rw [nth_append_left hi2]; exact hs2) fun j hj => by rw [nth_append_left (by omega)]; exact hb2 j hj
        rw [hd, e2, if_neg (by omega), if_neg (by omega), Int.toNat_natCast, nth_append_left hi2]
  · rw [e, if_neg (by omega), Int.toNat_natCast]
    have hsm : ∀ k r2 p2, sameD (nth (dl.set i { nth dl i with stamp := st }) k) r2 p2 = sameD (nth dl k) r2 p2 := fun k r2 p2 => by
      rw [nth_setD hi]
      split
      · rename_i hk
        rw [hk]
        rfl
      · rfl
    have hdx : ∀ r2 p2, didxL (dl.set i { nth dl i with stamp := st }) r2 p2 = didxL dl r2 p2 := fun r2 p2 => by
      rcases didxL_cases dl r2 p2 with ⟨e2, h2⟩ | ⟨i2, hi2, e2, hs2, hb2⟩
      · rw [e2]
        exact didxL_none fun k hk => by rw [List.length_set] at hk; rw [hsm]; exact h2 k hk
      · rw [e2]
        exact didxL_of (by rw [List.length_set]; exact hi2) (by rw [hsm]; exact hs2) fun j hj => by rw [hsm]; exact hb2 j hj
    unfold lookD
    rw [hdx]
    by_cases heq : r' = r ∧ p' = p
    · obtain ⟨rfl, rfl⟩ := heq
      rw [e, if_neg (by omega), Int.toNat_natCast, nth_setD hi, if_pos rfl, if_pos ⟨rfl, rfl⟩]
    · rw [if_neg heq]
      split
      · rfl
      · rename_i hge
        rw [nth_setD hi, if_neg]
        intro hk
        rcases didxL_cases dl r' p' with ⟨e2, h2⟩ | ⟨i2, hi2, e2, hs2, hb2⟩
        · omega
        · have : i2 = i := by rw [e2, Int.toNat_natCast] at hk; exact hk
          subst this
          rw [sameD_iff] at hs hs2
          exact heq ⟨hs2.1.symm.trans hs.1, hs2.2.symm.trans hs.2⟩
theorem look_stamps (r st : Int) : ∀ (ps : List (List UInt8)) (dl : List Di) (r' : Int) (p' : List UInt8), lookD (stampsL dl r ps st) r' p' = if r' = r ∧ p' ∈ ps then st else lookD dl r' p'
  | [], dl, r', p' => by simp [stampsL]
  | p :: ps, dl, r', p' => by
    have e : stampsL dl r (p :: ps) st = stampsL (stD dl r p st) r ps st := rfl
    rw [e, look_stamps r st ps, look_st]
    by_cases h1 : r' = r ∧ p' ∈ ps
    · rw [if_pos h1, if_pos ⟨h1.1, List.mem_cons_of_mem _ h1.2⟩]
    · rw [if_neg h1]
      by_cases h2 : r' = r ∧ p' = p
      · rw [if_pos h2, if_pos ⟨h2.1, by rw [h2.2]; simp⟩]
      · rw [if_neg h2, if_neg]
        rintro ⟨h3, h4⟩
        rcases List.mem_cons.1 h4 with h5 | h5
        · exact h2 ⟨h3, h5⟩
        · exact h1 ⟨h3, h5⟩
theorem mem_pathsL {p q : List UInt8} : q ∈ pathsL p ↔ q = [] ∨ (p ≠ [] ∧ isUnder p q = true ∧ pkgB q = true ∧ q ≠ []) := by
  unfold pathsL
  rw [List.mem_cons]
  constructor
  · rintro (h | h)
    · exact .inl h
    · obtain ⟨h1, h2, h3⟩ := above_under h
      refine .inr ⟨fun e => by rw [e] at h1; exact absurd h1 (by decide), ?_, by rw [pkgB, h2, Bool.or_true], fun e => by rw [e] at h2; exact absurd h2 (by decide)⟩
      unfold isUnder
      rw [h1, h3, pkgB, h2]
      simp
  · rintro (h | ⟨h1, h2, h3, h4⟩)
    · exact .inl h
    · right
      unfold isUnder at h2
      simp only [Bool.and_eq_true] at h2
      exact under_above h2.1.1 h4 h2.2
theorem stamp_look {l : List Fi} {kk : Int} {dl : List Di} {r : Int} {p : List UInt8} (h : (diskB l kk dl && rangeB r 0 2 && pkgB p) = true) : stampB l kk dl r p = lookD dl r p := by
  unfold stampB
  rw [if_pos h]
  rfl
theorem stD_len (dl : List Di) (r : Int) (p : List UInt8) (st : Int) : (stD dl r p st).length ≤ dl.length + 1 := by
  unfold stD
  split
  · simp
  · rw [List.length_set]; omega
theorem stampsL_len (r st : Int) : ∀ (ps : List (List UInt8)) (dl : List Di), (stampsL dl r ps st).length ≤ dl.length + ps.length
  | [], dl => by simp [stampsL]
  | p :: ps, dl => by
    have e : stampsL dl r (p :: ps) st = stampsL (stD dl r p st) r ps st := rfl
    have h1 := stampsL_len r st ps (stD dl r p st)
    have h2 := stD_len dl r p st
    rw [e, List.length_cons]
    omega
end Go.Proofs.YtgjfjjhmgbemcaaGreatDoor
