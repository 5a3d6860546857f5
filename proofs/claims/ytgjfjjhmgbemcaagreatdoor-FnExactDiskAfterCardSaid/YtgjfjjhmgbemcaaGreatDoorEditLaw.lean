/- Edited trees: what the laws on them rest on: plain, no program in sight. No condition. -/
import Derived.Test.YtgjfjjhmgbemcaaGreatDoorSameLaw
namespace Go.Proofs.YtgjfjjhmgbemcaaGreatDoor
open Go.RowKit

def edF (f : Fi) (st : Int) (b : List St) : Fi := { f with stamp := st, body := b }
def edB (l : List Fi) (i st : Int) (b : List St) : Bool := treeB l && rangeB i 0 ((l.length : Int) - 1) && rangeB st 0 99 && bodyB b
def edL (l : List Fi) (i st : Int) (b : List St) : List Fi := if edB l i st b then l.set i.toNat (edF (nth l i.toNat) st b) else []
theorem nth_setF {l : List Fi} {i k : Nat} {d : Fi} (hi : i < l.length) : nth (l.set i d) k = if k = i then d else nth l k := by
  unfold nth
  rw [List.getD_eq_getElem?_getD, List.getElem?_set]
  split
  · rename_i h
    subst h
    simp
  · rename_i h
    rw [if_neg (fun e => h e.symm), List.getD_eq_getElem?_getD]
theorem edit_place {l : List Fi} {i k : Nat} {st : Int} {b : List St} (hi : i < l.length) : sameP (nth l k) (nth (l.set i (edF (nth l i) st b)) k) = true := by
  rw [nth_setF hi]
  split
  · rename_i h
    subst h
    exact sameP_refl _
  · exact sameP_refl _
theorem fileB_edit {f : Fi} {st : Int} {b : List St} (h : fileB f = true) : fileB (edF f st b) = (rangeB st 0 99 && bodyB b) := by
  obtain ⟨h1, h2, h3, h4, h5⟩ : rangeB f.root 0 2 = true ∧ pkgB f.pkg = true ∧ rangeB f.stamp 0 99 = true ∧ bodyB f.body = true ∧ (if f.init then !f.pkg.isEmpty && f.name.isEmpty else partB f.name && nameB (childL f.pkg f.name)) = true := by
    unfold fileB at h
    simp only [Bool.and_eq_true] at h
    exact ⟨h.1.1.1.1, h.1.1.1.2, h.1.1.2, h.1.2, h.2⟩
  unfold fileB edF
  simp only
  rw [h1, h2, h5]
  simp
theorem treeB_edit {l : List Fi} {i : Nat} {st : Int} {b : List St} (h : treeB l = true) (hi : i < l.length) : treeB (l.set i (edF (nth l i) st b)) = (rangeB st 0 99 && bodyB b) := by
  have hf := fileB_edit (st := st) (b := b) (treeB_file h hi)
  cases hv : (rangeB st 0 99 && bodyB b)
  · rw [Bool.eq_false_iff]
    intro ht
    have := treeB_file ht (k := i) (by rw [List.length_set]; exact hi)
    rw [nth_setF hi, if_pos rfl, hf, hv] at this
    cases this
  · unfold treeB at h ⊢
    rw [Bool.and_eq_true, allN_iff] at h
    rw [List.length_set, Bool.and_eq_true, allN_iff]
    refine ⟨fun k hk => ?_, h.2⟩
    have h1 := h.1 k hk
    rw [Bool.and_eq_true, Bool.not_eq_true'] at h1 ⊢
    have hp : ∀ j k, sameP (nth (l.set i (edF (nth l i) st b)) j) (nth (l.set i (edF (nth l i) st b)) k) = sameP (nth l j) (nth l k) := fun j k => by
      have e1 := sameP_iff.1 (edit_place (l := l) (i := i) (k := j) (st := st) (b := b) hi)
      have e2 := sameP_iff.1 (edit_place (l := l) (i := i) (k := k) (st := st) (b := b) hi)
      rw [Bool.eq_iff_iff, sameP_iff, sameP_iff, ← e1.1, ← e1.2.1, ← e1.2.2.1, ← e1.2.2.2, ← e2.1, ← e2.2.1, ← e2.2.2.1, ← e2.2.2.2]
    refine ⟨?_, by simp only [hp]; exact h1.2⟩
    rw [nth_setF hi]
    split
    · rw [hf, hv]
    · exact h1.1
theorem edit_back {l : List Fi} {i : Nat} {st : Int} {b : List St} (hi : i < l.length) : (l.set i (edF (nth l i) st b)).set i (edF (nth (l.set i (edF (nth l i) st b)) i) (nth l i).stamp (nth l i).body) = l := by
  rw [List.set_set, nth_setF hi, if_pos rfl]
  show l.set i (nth l i) = l
  rw [nth_eq hi, List.set_getElem_self]
/-- What an edit leaves. -/
theorem edit_law {l : List Fi} {i st : Int} {b : List St} (h : edB l i st b = true) :
    edB (edL l i st b) i (nth l i.toNat).stamp (nth l i.toNat).body = true ∧ edL (edL l i st b) i (nth l i.toNat).stamp (nth l i.toNat).body = l ∧ ∀ path, pathB path = true → sameI l (edL l i st b) path = true := by
  have hb := h
  unfold edB at h
  simp only [Bool.and_eq_true] at h
  obtain ⟨⟨⟨ht, hr⟩, hs⟩, hbd⟩ := h
  obtain ⟨h0, h1⟩ := rangeB_iff.1 hr
  have hi : i.toNat < l.length := by omega
  have e : edL l i st b = l.set i.toNat (edF (nth l i.toNat) st b) := by rw [edL, if_pos hb]
  have hf := treeB_file ht hi
  have hfp : rangeB (nth l i.toNat).stamp 0 99 = true ∧ bodyB (nth l i.toNat).body = true := by
    unfold fileB at hf
    simp only [Bool.and_eq_true] at hf
    exact ⟨hf.1.1.2, hf.1.2⟩
  have hu : treeB (edL l i st b) = true := by rw [e, treeB_edit ht hi, hs, hbd]; rfl
  have hl : (edL l i st b).length = l.length := by rw [e, List.length_set]
  have hb2 : edB (edL l i st b) i (nth l i.toNat).stamp (nth l i.toNat).body = true := by
    unfold edB
    rw [hu, hl, hr, hfp.1, hfp.2]
    rfl
  refine ⟨hb2, ?_, fun path hp => ?_⟩
  · have e2 : edL (edL l i st b) i (nth l i.toNat).stamp (nth l i.toNat).body = (edL l i st b).set i.toNat (edF (nth (edL l i st b) i.toNat) (nth l i.toNat).stamp (nth l i.toNat).body) := by rw [edL, if_pos hb2]
    rw [e2, e]
    exact edit_back hi
  · refine same_places ht hu hl.symm (fun k _ => ?_) hp
    rw [e]
    exact edit_place hi
end Go.Proofs.YtgjfjjhmgbemcaaGreatDoor
