/- Names are found part by part: the plain law. No condition. -/
import Derived.Test.YtgjfjjhmgbemcaaGreatDoorIc
namespace Go.Proofs.YtgjfjjhmgbemcaaGreatDoor
open Go.RowKit

theorem specGo_snoc (l : List Fi) (q : List UInt8) : ∀ (ps : List (List UInt8)) (p : List UInt8) (o : Sp),
    specGo l (ps ++ [q]) p o = if (specGo l ps p o).kind = 2 ∨ (specGo l ps p o).kind = 3 then findF l (specGo l ps p o).roots (ps.foldl childL p) q else noneSp
  | [], p, o => rfl
  | q' :: qs, p, o => by
    by_cases h : o.kind = 2 ∨ o.kind = 3
    · have e1 : specGo l (q' :: qs ++ [q]) p o = specGo l (qs ++ [q]) (childL p q') (findF l o.roots p q') := by
        show specGo l (q' :: (qs ++ [q])) p o = _
        rw [specGo, if_pos h]
      have e2 : specGo l (q' :: qs) p o = specGo l qs (childL p q') (findF l o.roots p q') := by rw [specGo, if_pos h]
      rw [e1, e2, specGo_snoc l q qs]
      rfl
    · have e1 : specGo l (q' :: qs ++ [q]) p o = noneSp := by
        show specGo l (q' :: (qs ++ [q])) p o = _
        rw [specGo, if_neg h]
      have e2 : specGo l (q' :: qs) p o = noneSp := by rw [specGo, if_neg h]
      rw [e1, e2]
      simp [noneSp]
theorem specGo_kind (l : List Fi) : ∀ (ps : List (List UInt8)) (p : List UInt8) (o : Sp), (o.kind = 0 ∨ o.kind = 1 ∨ o.kind = 2 ∨ o.kind = 3) → ((specGo l ps p o).kind = 0 ∨ (specGo l ps p o).kind = 1 ∨ (specGo l ps p o).kind = 2 ∨ (specGo l ps p o).kind = 3)
  | [], _, _, h => h
  | q :: qs, p, o, _ => by
    unfold specGo
    split
    · exact specGo_kind l qs _ _ (findF_kind l _ _ _)
    · simp [noneSp]
theorem pathB_iff {l : List Int} : pathB l = true ↔ (∀ x ∈ l, rangeB x 0 2 = true) ∧ l.Nodup := by
  rw [pathB, allN_iff]
  constructor
  · intro h
    refine ⟨fun x hx => ?_, ?_⟩
    · obtain ⟨k, hk, rfl⟩ := List.getElem_of_mem hx
      have := h k hk
      rw [Bool.and_eq_true, nth_eq hk] at this
      exact this.1
    · rw [List.Nodup, List.pairwise_iff_getElem]
      intro i j hi hj hij
      have := h j hj
      rw [Bool.and_eq_true] at this
      have h2 : anyN (fun q => nth l q == nth l j) j = false := by simpa using this.2
      have h3 := anyN_false.1 h2 i hij
      rw [nth_eq hi, nth_eq hj] at h3
      simpa using h3
  · rintro ⟨h1, h2⟩ k hk
    rw [Bool.and_eq_true]
    refine ⟨h1 _ (nth_mem hk), ?_⟩
    rw [List.Nodup, List.pairwise_iff_getElem] at h2
    have : anyN (fun q => nth l q == nth l k) k = false := by
      rw [anyN_false]
      intro q hq
      have := h2 q k (by omega) hk hq
      rw [nth_eq (by omega), nth_eq hk]
      simpa using this
    rw [this]; rfl
theorem findGo_sublist (l : List Fi) (p s : List UInt8) : ∀ (path acc : List Int), List.Sublist (findGo l p s path acc).roots (acc ++ path)
  | [], acc => by
    unfold findGo
    split
    · simp [noneSp]
    · simp
  | r :: rs, acc => by
    unfold findGo
    split
    · exact (List.singleton_sublist.2 (by simp))
    · split
      · simp
      · refine (findGo_sublist l p s rs _).trans ?_
        split
        · simp
        · exact List.Sublist.append_left (List.sublist_cons_self r rs) acc
theorem pathB_sub {l m : List Int} (h : pathB m = true) (hs : List.Sublist l m) : pathB l = true := by
  obtain ⟨h1, h2⟩ := pathB_iff.1 h
  exact pathB_iff.2 ⟨fun x hx => h1 x (hs.subset hx), h2.sublist hs⟩
theorem specGo_path (l : List Fi) : ∀ (ps : List (List UInt8)) (p : List UInt8) (o : Sp), pathB o.roots = true → pathB (specGo l ps p o).roots = true
  | [], _, _, h => h
  | q :: qs, p, o, h => by
    unfold specGo
    split
    · exact specGo_path l qs _ _ (pathB_sub h (by simpa [findF] using findGo_sublist l p q o.roots []))
    · rfl
theorem specUp_law {l : List Fi} {path : List Int} {s : List UInt8} (h : (treeB l && pathB path && nameB s) = true) :
    (parentF s = [] ∧ specB l path s = findInF l path [] s) ∨ ((parentF s).isEmpty = false ∧ (parentF s).length ≤ 12 ∧ (lastF s).length ≤ 12 ∧
      ((specB l path (parentF s)).kind = 0 ∧ (specB l path s).kind = 0 ∨ (specB l path (parentF s)).kind = 1 ∧ (specB l path s).kind = 0 ∨
        ((specB l path (parentF s)).kind = 2 ∨ (specB l path (parentF s)).kind = 3) ∧ specB l path s = findInF l (specB l path (parentF s)).roots (parentF s) (lastF s))) := by
  have hb := h
  simp only [Bool.and_eq_true] at h
  obtain ⟨⟨v1, v2⟩, v3⟩ := h
  have es : specB l path s = specF l path s := by rw [specB, hb]; rfl
  rcases name_parts v3 with ⟨e1, e2, hm, _⟩ | ⟨m, hm, e1, e2, _, _⟩
  · left
    refine ⟨e1, ?_⟩
    have h2 := pfx_succ v3 (k := 0) (by omega)
    rw [pfx_zero, pfx_all (s := s) (k := 0 + 1) (by omega)] at h2
    have hp := part_at v3 (k := 0) (by omega)
    have h3 : nth (splitL 46 s) 0 = s := h2
    rw [h3] at hp
    have hl : splitL 46 s = [s] := partB_split hp
    rw [es, specF, hl, findInF, v1, v2, hp]
    have hc : childL [] s = s := rfl
    rw [hc, v3]
    rfl
  · right
    have hn := pfx_name v3 (k := m + 1) (by omega)
    have hpt := part_at v3 (k := m + 1) (by omega)
    rw [← e2] at hpt
    rw [← e1] at hn
    have eu : specB l path (parentF s) = specF l path (parentF s) := by rw [specB, v1, v2, hn]; rfl
    have hsp : splitL 46 (parentF s) = (splitL 46 s).take (m + 1) := by rw [e1]; exact pfx_split v3 (by omega)
    have hall : splitL 46 s = (splitL 46 s).take (m + 1) ++ [lastF s] := by
      rw [e2, ← take_succ_nth (by omega), List.take_of_length_le (by omega)]
    have hfull : ((splitL 46 s).take (m + 1)).foldl childL [] = parentF s := by rw [e1]; exact foldl_pfx v3 (m + 1) (by omega)
    have hstep : specF l path s = if (specF l path (parentF s)).kind = 2 ∨ (specF l path (parentF s)).kind = 3 then findF l (specF l path (parentF s)).roots (parentF s) (lastF s) else noneSp := by
      rw [specF, hall, specGo_snoc, hfull, specF, hsp]
    have hcl : childL (parentF s) (lastF s) = s := by
      rw [e1, e2, pfx_succ v3 (by omega), pfx_all (by omega)]
    refine ⟨nameB_ne hn, nameB_len hn, by have := (partB_len hpt).2; omega, ?_⟩
    rw [es, eu]
    have hk := specGo_kind l (splitL 46 (parentF s)) [] ⟨3, -1, path⟩ (by simp)
    have hk : (specF l path (parentF s)).kind = 0 ∨ (specF l path (parentF s)).kind = 1 ∨ (specF l path (parentF s)).kind = 2 ∨ (specF l path (parentF s)).kind = 3 := hk
    rcases hk with hk | hk | hk
    · exact .inl ⟨hk, by rw [hstep, if_neg (by omega)]; rfl⟩
    · exact .inr (.inl ⟨hk, by rw [hstep, if_neg (by omega)]; rfl⟩)
    · refine .inr (.inr ⟨hk, ?_⟩)
      have hpr : pathB (specF l path (parentF s)).roots = true := specGo_path l _ _ _ v2
      rw [hstep, if_pos hk, findInF, v1, hpr, pkgB, hn, hpt, hcl, v3]
      simp

end Go.Proofs.YtgjfjjhmgbemcaaGreatDoor
