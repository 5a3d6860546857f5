/- When two trees look the same, and what does not change that: plain, no program in sight. No condition. -/
import Derived.Test.YtgjfjjhmgbemcaaGreatDoorLc
import Derived.Test.YtgjfjjhmgbemcaaGreatDoorIe
namespace Go.Proofs.YtgjfjjhmgbemcaaGreatDoor
open Go.RowKit

def sameSp (t u : List Fi) (a b : Sp) : Bool := a.kind == b.kind && a.roots == b.roots && (decide (a.file < 0) == decide (b.file < 0)) && (decide (a.file < 0) || sameP (nth t a.file.toNat) (nth u b.file.toNat))
/-- The program's answer. -/
def sameI (t u : List Fi) (path : List Int) : Bool := treeB t && treeB u && pathB path && (foundL t path == foundL u path) && (foundL t path).all fun n => sameSp t u (specB t path n) (specB u path n)
/-- The reference's. -/
def sameS (t u : List Fi) (path : List Int) : Bool := treeB t && treeB u && pathB path && (sortU (allP t ++ allP u)).all fun n => sameSp t u (specB t path n) (specB u path n)
theorem mem_foundL {t : List Fi} {path : List Int} (h : (treeB t && pathB path) = true) {n : List UInt8} : n ∈ foundL t path ↔ canB t path n = true := by
  unfold foundL
  rw [if_pos h, List.mem_filter, (sortU_facts _).2]
  exact ⟨fun h => h.2, fun h => ⟨can_name h, h⟩⟩
theorem found_asc {t : List Fi} {path : List Int} : asc (foundL t path) := by
  unfold foundL
  split
  · exact (sortU_facts _).1.sublist List.filter_sublist
  · exact asc_nil
theorem can_kind {t : List Fi} {path : List Int} {n : List UInt8} : canB t path n = false ↔ (specB t path n).kind = 0 := by
  unfold canB
  rw [bne_eq_false_iff_eq]
theorem specB_kind0 {l : List Fi} {path : List Int} {s : List UInt8} (h : (specB l path s).kind = 0) : specB l path s = noneSp := by
  unfold specB at h ⊢
  split
  · rename_i hv
    rw [if_pos hv] at h
    have key : ∀ (ps : List (List UInt8)) (p : List UInt8) (o : Sp), (o.kind = 0 → o = noneSp) → (specGo l ps p o).kind = 0 → specGo l ps p o = noneSp := by
      intro ps
      induction ps with
      | nil => exact fun _ _ h => h
      | cons q qs ih =>
        intro p o _
        unfold specGo
        split
        · refine ih _ _ ?_
          have k0 : ∀ (rs acc : List Int), (findGo l p q rs acc).kind = 0 → findGo l p q rs acc = noneSp := by
            intro rs
            induction rs with
            | nil =>
              intro acc
              unfold findGo
              split
              · exact fun _ => rfl
              · simp
            | cons r rs ih2 =>
              intro acc
              unfold findGo
              split
              · simp
              · split
                · simp
                · exact ih2 _
          exact k0 _ _
        · exact fun _ => rfl
    exact key _ _ _ (fun h => absurd h (by simp)) h
  · rfl
theorem sameSp_kind {t u : List Fi} {a b : Sp} (h : sameSp t u a b = true) : a.kind = b.kind := by
  unfold sameSp at h
  simp only [Bool.and_eq_true, beq_iff_eq] at h
  exact h.1.1.1
theorem sameSp_none {t u : List Fi} : sameSp t u noneSp noneSp = true := by rfl
theorem same_eq (t u : List Fi) (path : List Int) : sameI t u path = sameS t u path := by
  cases ht : treeB t
  · simp [sameI, sameS, ht]
  cases hu : treeB u
  · simp [sameI, sameS, ht, hu]
  cases hp : pathB path
  · simp [sameI, sameS, ht, hu, hp]
  have h1 : (treeB t && pathB path) = true := by rw [ht, hp]; rfl
  have h2 : (treeB u && pathB path) = true := by rw [hu, hp]; rfl
  unfold sameI sameS
  rw [ht, hu, hp]
  simp only [Bool.true_and]
  rw [Bool.eq_iff_iff, Bool.and_eq_true, beq_iff_eq, List.all_eq_true, List.all_eq_true]
  constructor
  · rintro ⟨he, ha⟩ n _
    cases hc : canB t path n with
    | true => exact ha n ((mem_foundL h1).2 hc)
    | false =>
      have hc2 : canB u path n = false := by
        cases hc2 : canB u path n with
        | false => rfl
        | true =>
          have := (mem_foundL h2).2 hc2
          rw [← he, mem_foundL h1, hc] at this
          cases this
      rw [specB_kind0 (can_kind.1 hc), specB_kind0 (can_kind.1 hc2)]
      exact sameSp_none
  · intro ha
    have hall : ∀ n, n ∈ allP t ∨ n ∈ allP u → sameSp t u (specB t path n) (specB u path n) = true := fun n hn => ha n ((sortU_facts _).2 n |>.2 (List.mem_append.2 hn))
    have hc : ∀ n, canB t path n = canB u path n := fun n => by
      cases h3 : canB t path n with
      | true =>
        have := sameSp_kind (hall n (.inl (can_name h3)))
        unfold canB at h3 ⊢
        rw [← this, h3]
      | false =>
        cases h4 : canB u path n with
        | false => rfl
        | true =>
          have := sameSp_kind (hall n (.inr (can_name h4)))
          unfold canB at h3 h4
          rw [this, h4] at h3
          cases h3
    refine ⟨asc_ext found_asc found_asc fun x => by rw [mem_foundL h1, mem_foundL h2, hc], fun n hn => ?_⟩
    exact hall n (.inl (can_name ((mem_foundL h1).1 hn)))
theorem sameSp_comm (t u : List Fi) (a b : Sp) : sameSp t u a b = sameSp u t b a := by
  unfold sameSp
  rw [sameP_comm (nth t a.file.toNat) (nth u b.file.toNat), Bool.beq_comm (a := a.kind), Bool.beq_comm (a := a.roots)]
  cases decide (a.file < 0) <;> cases decide (b.file < 0) <;> simp
theorem same_comm {t u : List Fi} {path : List Int} (h : sameI t u path = true) : sameI u t path = true := by
  unfold sameI at h ⊢
  simp only [Bool.and_eq_true, beq_iff_eq, List.all_eq_true] at h ⊢
  obtain ⟨⟨⟨⟨h1, h2⟩, h3⟩, h4⟩, h5⟩ := h
  exact ⟨⟨⟨⟨h2, h1⟩, h3⟩, h4.symm⟩, fun n hn => by rw [← sameSp_comm]; exact h5 n (by rw [h4]; exact hn)⟩
theorem same_refl {t : List Fi} {path : List Int} (h : (treeB t && pathB path) = true) : sameI t t path = true := by
  rw [Bool.and_eq_true] at h
  unfold sameI
  simp only [Bool.and_eq_true, beq_iff_eq, List.all_eq_true]
  exact ⟨⟨⟨⟨h.1, h.1⟩, h.2⟩, by trivial⟩, fun n _ => by unfold sameSp; simp [sameP_refl]⟩

/-! ### A tree whose files lie where they lay -/
theorem fidx_places {t u : List Fi} (hl : t.length = u.length) (h : ∀ k, k < t.length → sameP (nth t k) (nth u k) = true) (g : Fi) : fidx t g = fidx u g := by
  unfold fidx
  rw [← hl]
  refine firstN_congr fun k hk => ?_
  have h1 := sameP_iff.1 (h k hk)
  rw [Bool.eq_iff_iff, sameP_iff, sameP_iff, h1.1, h1.2.1, h1.2.2.1, h1.2.2.2]
theorem dirS_places {t u : List Fi} (hl : t.length = u.length) (h : ∀ k, k < t.length → sameP (nth t k) (nth u k) = true) (r : Int) (p : List UInt8) : dirS t r p = dirS u r p := by
  unfold dirS
  rw [← hl]
  congr 1
  refine anyN_congr fun k hk => ?_
  have h1 := sameP_iff.1 (h k hk)
  rw [h1.1, h1.2.1]
theorem findGo_places {t u : List Fi} (hi : ∀ g, fidx t g = fidx u g) (hd : ∀ r p, dirS t r p = dirS u r p) (p s : List UInt8) : ∀ (path acc : List Int), findGo t p s path acc = findGo u p s path acc
  | [], acc => by rw [findGo, findGo]
  | r :: rs, acc => by
    rw [findGo, findGo, hi, hi, hd]
    simp only [findGo_places hi hd p s rs]
theorem specGo_places {t u : List Fi} (hi : ∀ g, fidx t g = fidx u g) (hd : ∀ r p, dirS t r p = dirS u r p) : ∀ (ps : List (List UInt8)) (p : List UInt8) (o : Sp), specGo t ps p o = specGo u ps p o
  | [], _, _ => rfl
  | q :: qs, p, o => by
    unfold specGo findF
    rw [findGo_places hi hd]
    simp only [specGo_places hi hd qs]
theorem specB_places {t u : List Fi} (ht : treeB t = true) (hu : treeB u = true) (hl : t.length = u.length) (h : ∀ k, k < t.length → sameP (nth t k) (nth u k) = true) (path : List Int) (n : List UInt8) : specB t path n = specB u path n := by
  unfold specB specF
  rw [ht, hu, specGo_places (fidx_places hl h) (dirS_places hl h)]
theorem same_places {t u : List Fi} (ht : treeB t = true) (hu : treeB u = true) (hl : t.length = u.length) (h : ∀ k, k < t.length → sameP (nth t k) (nth u k) = true) {path : List Int} (hp : pathB path = true) : sameI t u path = true := by
  have hs := specB_places ht hu hl h path
  have h1 : (treeB t && pathB path) = true := by rw [ht, hp]; rfl
  have h2 : (treeB u && pathB path) = true := by rw [hu, hp]; rfl
  unfold sameI
  simp only [Bool.and_eq_true, beq_iff_eq, List.all_eq_true]
  refine ⟨⟨⟨⟨ht, hu⟩, hp⟩, asc_ext found_asc found_asc fun x => by rw [mem_foundL h1, mem_foundL h2, canB, canB, hs]⟩, fun n _ => ?_⟩
  rw [← hs]
  unfold sameSp
  by_cases hf : (specB t path n).file < 0
  · simp [hf]
  · obtain ⟨j, hj, e, _⟩ := specFile_law (l := t) (path := path) (s := n) (by omega)
    have : sameP (nth t (specB t path n).file.toNat) (nth u (specB t path n).file.toNat) = true := by
      rw [e]
      exact h _ (by omega)
    simp [this]

/-! ### A tree without a hidden file -/
theorem nth_erase {t : List Fi} {h k : Nat} : nth (t.eraseIdx h) k = if k < h then nth t k else nth t (k + 1) := by
  unfold nth
  rw [List.getD_eq_getElem?_getD, List.getElem?_eraseIdx]
  split <;> rw [List.getD_eq_getElem?_getD]
def shiftI (h : Nat) (j : Int) : Int := if (h : Int) < j then j - 1 else j
theorem fidx_erase {t : List Fi} {h : Nat} {g : Fi} (hh : h < t.length) (hne : fidx t g ≠ (h : Int)) : fidx (t.eraseIdx h) g = shiftI h (fidx t g) := by
  have hl : (t.eraseIdx h).length = t.length - 1 := by rw [List.length_eraseIdx_of_lt hh]
  unfold fidx at hne ⊢
  rcases firstN_cases (fun k => sameP (nth t k) g) t.length with ⟨h1, h2⟩ | ⟨j, hj, h1, h2, h3⟩
  · rw [h2]
    have : anyN (fun k => sameP (nth (t.eraseIdx h) k) g) (t.eraseIdx h).length = false := anyN_false.2 fun k hk => by
      rw [hl] at hk
      simp only [nth_erase]
      split
      · exact anyN_false.1 h1 k (by omega)
      · exact anyN_false.1 h1 (k + 1) (by omega)
    rw [firstN_none this]
    unfold shiftI
    rw [if_neg (by omega)]
  · rw [h3] at hne ⊢
    have hjh : j ≠ h := by omega
    unfold shiftI
    by_cases hlt : h < j
    · rw [if_pos (by omega)]
      have e := firstN_some (p := fun k => sameP (nth (t.eraseIdx h) k) g) (k := j - 1) (n := (t.eraseIdx h).length) (anyN_false.2 fun k hk => by
        simp only [nth_erase]
        split
        · exact anyN_false.1 h2 k (by omega)
        · exact anyN_false.1 h2 (k + 1) (by omega)) (by
        simp only [nth_erase]
        rw [if_neg (by omega), show j - 1 + 1 = j by omega]
        exact h1) (by omega)
      rw [e]
      omega
    · rw [if_neg (by omega)]
      exact firstN_some (p := fun k => sameP (nth (t.eraseIdx h) k) g) (k := j) (anyN_false.2 fun k hk => by
        simp only [nth_erase]
        rw [if_pos (by omega)]
        exact anyN_false.1 h2 k (by omega)) (by
        simp only [nth_erase]
        rw [if_pos (by omega)]
        exact h1) (by omega)
theorem shiftI_nonneg {h : Nat} {j : Int} : (0 ≤ shiftI h j) ↔ 0 ≤ j := by
  unfold shiftI
  split <;> omega
def shiftS (h : Nat) (o : Sp) : Sp := { o with file := shiftI h o.file }
theorem findGo_erase {t : List Fi} {h : Nat} (hh : h < t.length) (hd : ∀ r p, dirS (t.eraseIdx h) r p = dirS t r p) (p s : List UInt8) : ∀ (path acc : List Int), (findGo t p s path acc).file ≠ (h : Int) → findGo (t.eraseIdx h) p s path acc = shiftS h (findGo t p s path acc)
  | [], acc, _ => by
    rw [findGo, findGo]
    have h1 : shiftI h (-1) = -1 := by unfold shiftI; rw [if_neg (by omega)]
    split
    · show noneSp = shiftS h noneSp
      unfold shiftS noneSp
      rw [h1]
    · unfold shiftS
      rw [h1]
  | r :: rs, acc, hne => by
    have ih := fun acc => findGo_erase hh hd p s rs acc
    rw [findGo] at hne ⊢
    conv => rhs; rw [findGo]
    by_cases h1 : 0 ≤ fidx t (initF r (childL p s))
    · rw [if_pos h1] at hne ⊢
      have e := fidx_erase (g := initF r (childL p s)) hh hne
      rw [e, if_pos (shiftI_nonneg.2 h1)]
      rfl
    · rw [if_neg h1] at hne ⊢
      have e := fidx_erase (g := initF r (childL p s)) hh (by omega)
      rw [e, if_neg (by rw [shiftI_nonneg]; exact h1)]
      by_cases h2 : 0 ≤ fidx t (fileF r p s)
      · rw [if_pos h2] at hne ⊢
        have e2 := fidx_erase (g := fileF r p s) hh hne
        rw [e2, if_pos (shiftI_nonneg.2 h2)]
        rfl
      · rw [if_neg h2] at hne ⊢
        have e2 := fidx_erase (g := fileF r p s) hh (by omega)
        rw [e2, if_neg (by rw [shiftI_nonneg]; exact h2), hd]
        exact ih _ hne
theorem treeB_iff {l : List Fi} : treeB l = true ↔ (∀ f ∈ l, fileB f = true) ∧ l.Pairwise (fun f g => sameP f g = false) ∧ l.length ≤ 12 := by
  unfold treeB
  rw [Bool.and_eq_true, decide_eq_true_iff, allN_iff, List.pairwise_iff_getElem]
  constructor
  · rintro ⟨h1, h2⟩
    refine ⟨fun f hf => ?_, fun i j hi hj hij => ?_, h2⟩
    · obtain ⟨k, hk, rfl⟩ := List.getElem_of_mem hf
      have := h1 k hk
      rw [Bool.and_eq_true, nth_eq hk] at this
      exact this.1
    · have := h1 j hj
      rw [Bool.and_eq_true, Bool.not_eq_true'] at this
      have := anyN_false.1 this.2 i hij
      rwa [nth_eq hi, nth_eq hj] at this
  · rintro ⟨h1, h2, h3⟩
    refine ⟨fun k hk => ?_, h3⟩
    rw [Bool.and_eq_true, Bool.not_eq_true']
    refine ⟨by rw [nth_eq hk]; exact h1 _ (List.getElem_mem _), anyN_false.2 fun j hj => ?_⟩
    rw [nth_eq hk, nth_eq (show j < l.length by omega)]
    exact h2 j k (by omega) hk hj
theorem treeB_sub {l m : List Fi} (h : treeB m = true) (hs : List.Sublist l m) : treeB l = true := by
  obtain ⟨h1, h2, h3⟩ := treeB_iff.1 h
  exact treeB_iff.2 ⟨fun f hf => h1 f (hs.subset hf), h2.sublist hs, Nat.le_trans hs.length_le h3⟩
theorem dirS_erase {t : List Fi} {h : Nat} (hh : h < t.length) (hc : (nth t h).pkg = [] ∨ dirS (t.eraseIdx h) (nth t h).root (nth t h).pkg = true) (r : Int) (p : List UInt8) : dirS (t.eraseIdx h) r p = dirS t r p := by
  by_cases hp : p = []
  · subst hp
    simp [dirS]
  rw [Bool.eq_iff_iff]
  constructor
  · intro hd
    obtain ⟨f, hf, h1, h2, h3⟩ := dirS_file hd hp
    exact file_dirS (List.mem_of_mem_eraseIdx hf) h1 h2 h3
  · intro hd
    obtain ⟨f, hf, h1, h2, h3⟩ := dirS_file hd hp
    obtain ⟨k, hk, e⟩ := List.getElem_of_mem hf
    by_cases hkh : k = h
    · subst hkh
      have e2 : nth t k = f := by rw [nth_eq hk, e]
      rw [e2] at hc
      rcases hc with hc | hc
      · exact absurd hc h2
      · obtain ⟨g, hg, g1, g2, g3⟩ := dirS_file hc h2
        exact file_dirS hg (by rw [g1, h1]) g2 (under_trans g3 h3 h2)
    · refine file_dirS (f := f) ?_ h1 h2 h3
      rw [List.mem_eraseIdx_iff_getElem]
      exact ⟨k, hk, hkh, e⟩
theorem goK_erase {t : List Fi} {path : List Int} {h : Nat} (hh : h < t.length) (ht : treeB t = true) (hp : pathB path = true) (hd : ∀ r p, dirS (t.eraseIdx h) r p = dirS t r p) (hhid : (specB t path (moduleOf (nth t h))).file ≠ (h : Int)) {s : List UInt8} (hs : nameB s = true) :
    ∀ k, k ≤ (splitL 46 s).length → goK (t.eraseIdx h) path s k = shiftS h (goK t path s k)
  | 0, _ => by
    rw [goK_zero, goK_zero]
    unfold shiftS shiftI
    rw [if_neg (by dsimp only; omega)]
  | k + 1, hk => by
    have ih := goK_erase hh ht hp hd hhid hs k (by omega)
    have hne : (goK t path s (k + 1)).file ≠ (h : Int) := fun e => by
      rw [goK_spec ht hp hs (by omega)] at e
      obtain ⟨j, hj, f1, f2, _⟩ := specFile_law (l := t) (path := path) (s := pfx s (k + 1)) (by omega)
      have hjh : j = h := by omega
      subst hjh
      exact hhid (by rw [f2, e])
    rw [goK_next hs (by omega), goK_next hs (by omega), ih] at *
    show (if (goK t path s k).kind = 2 ∨ (goK t path s k).kind = 3 then findF (t.eraseIdx h) (goK t path s k).roots (pfx s k) (nth (splitL 46 s) k) else noneSp) = _
    by_cases hk2 : (goK t path s k).kind = 2 ∨ (goK t path s k).kind = 3
    · rw [if_pos hk2] at hne ⊢
      rw [if_pos hk2]
      exact findGo_erase hh hd _ _ _ _ hne
    · rw [if_neg hk2, if_neg hk2]
      unfold shiftS noneSp shiftI
      rw [if_neg (by dsimp only; omega)]
theorem specB_erase {t : List Fi} {path : List Int} {h : Nat} (hh : h < t.length) (ht : treeB t = true) (hp : pathB path = true) (hd : ∀ r p, dirS (t.eraseIdx h) r p = dirS t r p) (hhid : (specB t path (moduleOf (nth t h))).file ≠ (h : Int)) (s : List UInt8) :
    specB (t.eraseIdx h) path s = shiftS h (specB t path s) := by
  have hu : treeB (t.eraseIdx h) = true := treeB_sub ht (List.eraseIdx_sublist t h)
  cases hs : nameB s
  · unfold specB
    rw [hs]
    simp only [Bool.and_false, Bool.false_eq_true, if_false]
    unfold shiftS noneSp shiftI
    rw [if_neg (by dsimp only; omega)]
  · rw [← goK_all hu hp hs, ← goK_all ht hp hs]
    exact goK_erase hh ht hp hd hhid hs _ (Nat.le_refl _)
/-- Hidden files do not matter. -/
theorem same_hidden {t : List Fi} {path : List Int} {h : Nat} (hh : h < t.length) (ht : treeB t = true) (hp : pathB path = true) (hhid : (specB t path (moduleOf (nth t h))).file ≠ (h : Int)) (hc : (nth t h).pkg = [] ∨ hasB (t.eraseIdx h) (nth t h).root (nth t h).pkg = true) :
    treeB (t.eraseIdx h) = true ∧ sameI t (t.eraseIdx h) path = true := by
  have hu : treeB (t.eraseIdx h) = true := treeB_sub ht (List.eraseIdx_sublist t h)
  refine ⟨hu, ?_⟩
  have hd := dirS_erase hh (hc.imp id fun h1 => by unfold hasB at h1; rw [Bool.and_eq_true] at h1; exact h1.2)
  have hs := specB_erase hh ht hp hd hhid
  have h1 : (treeB t && pathB path) = true := by rw [ht, hp]; rfl
  have h2 : (treeB (t.eraseIdx h) && pathB path) = true := by rw [hu, hp]; rfl
  unfold sameI
  simp only [Bool.and_eq_true, beq_iff_eq, List.all_eq_true]
  refine ⟨⟨⟨⟨ht, hu⟩, hp⟩, asc_ext found_asc found_asc fun x => by rw [mem_foundL h1, mem_foundL h2, canB, canB, hs]; rfl⟩, fun n _ => ?_⟩
  rw [hs]
  unfold sameSp shiftS
  simp only [beq_self_eq_true, Bool.true_and]
  by_cases hf : (specB t path n).file < 0
  · have : shiftI h (specB t path n).file < 0 := by
      have := @shiftI_nonneg h (specB t path n).file
      omega
    simp [hf, this]
  · have hf2 : ¬ shiftI h (specB t path n).file < 0 := by
      have := @shiftI_nonneg h (specB t path n).file
      omega
    obtain ⟨j, hj, e, e2, _⟩ := specFile_law (l := t) (path := path) (s := n) (by omega)
    have hjh : j ≠ h := fun hq => by
      subst hq
      exact hhid (by rw [e2, e])
    have : nth (t.eraseIdx h) (shiftI h (specB t path n).file).toNat = nth t (specB t path n).file.toNat := by
      rw [e, nth_erase]
      unfold shiftI
      by_cases hlt : (h : Int) < (j : Int)
      · rw [if_pos hlt, if_neg (by omega)]
        congr 1
        omega
      · rw [if_neg hlt, if_pos (by omega)]
    simp [hf, hf2, this, sameP_refl]
end Go.Proofs.YtgjfjjhmgbemcaaGreatDoor
