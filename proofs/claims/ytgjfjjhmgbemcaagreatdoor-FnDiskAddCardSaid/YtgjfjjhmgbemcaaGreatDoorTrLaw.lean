/- Lists of modules, of packages and of directories: what the program's laws on them rest on: plain, no program in sight. No condition. -/
import Derived.Test.YtgjfjjhmgbemcaaGreatDoorAsc
import Derived.Test.YtgjfjjhmgbemcaaGreatDoorIc
namespace Go.Proofs.YtgjfjjhmgbemcaaGreatDoor
open Go.RowKit

def aboveL (s : List UInt8) (k : Nat) : List (List UInt8) := (List.range k).map fun i => pfx s (i + 1)
theorem aboveL_next {s : List UInt8} {k : Nat} : aboveL s (k + 1) = aboveL s k ++ [pfx s (k + 1)] := by simp [aboveL, List.range_succ]
theorem aboveL_len {s : List UInt8} {k : Nat} : (aboveL s k).length = k := by simp [aboveL]
theorem aboveL_nth {s : List UInt8} {k i : Nat} (h : i < k) : nth (aboveL s k) i = pfx s (i + 1) := by
  rw [nth_eq (by rw [aboveL_len]; exact h)]
  simp [aboveL]
def aboveP (s : List UInt8) : List (List UInt8) := if nameB s then aboveL s (splitL 46 s).length else []
theorem mem_aboveP {s x : List UInt8} : x ∈ aboveP s ↔ nameB s = true ∧ ∃ i, i < (splitL 46 s).length ∧ pfx s (i + 1) = x := by
  unfold aboveP
  cases h : nameB s
  · simp
  · simp [aboveL]
theorem aboveP_len (s : List UInt8) : (aboveP s).length ≤ 3 := by
  unfold aboveP
  split
  · rename_i h
    rw [aboveL_len]
    exact (nameB_iff.1 h).2
  · simp
theorem aboveP_short {s : List UInt8} : ∀ x ∈ aboveP s, x.length ≤ 12 := by
  intro x hx
  obtain ⟨h, i, _, rfl⟩ := mem_aboveP.1 hx
  exact pfx_len h _
def modsL (t : List Fi) : List (List UInt8) := if treeB t then sortU (t.map moduleB) else []
def packsN (t : List Fi) : List (List UInt8) := t.flatMap fun f => aboveP f.pkg
def packsL (t : List Fi) : List (List UInt8) := if treeB t then sortU (packsN t) else []
def firstB (s p : List UInt8) : List UInt8 := nth (splitL 46 (if p.isEmpty then s else s.drop (p.length + 1))) 0
def entL (f : Fi) (r : Int) (p : List UInt8) : List (List UInt8) :=
  if f.root == r then (if f.pkg == p then [if f.init then [42] else f.name] else if isUnder f.pkg p then [firstB f.pkg p ++ [47]] else []) else []
def listN (t : List Fi) (r : Int) (p : List UInt8) : List (List UInt8) := t.flatMap fun f => entL f r p
def listL (t : List Fi) (r : Int) (p : List UInt8) : List (List UInt8) := if treeB t && rangeB r 0 2 && pkgB p then sortU (listN t r p) else []

theorem mem_listL {t : List Fi} {r : Int} {p x : List UInt8} (h : (treeB t && rangeB r 0 2 && pkgB p) = true) : x ∈ listL t r p ↔ ∃ f ∈ t, x ∈ entL f r p := by
  unfold listL listN
  rw [if_pos h, (sortU_facts _).2, List.mem_flatMap]
theorem mem_packsL {t : List Fi} {x : List UInt8} (h : treeB t = true) : x ∈ packsL t ↔ ∃ f ∈ t, x ∈ aboveP f.pkg := by
  unfold packsL packsN
  rw [if_pos h, (sortU_facts _).2, List.mem_flatMap]
theorem treeB_mem {t : List Fi} (h : treeB t = true) {f : Fi} (hf : f ∈ t) : fileB f = true := by
  obtain ⟨k, hk, rfl⟩ := List.getElem_of_mem hf
  rw [← nth_eq hk]
  exact treeB_file h hk
theorem pkgB_name {p : List UInt8} (h : pkgB p = true) (hp : p ≠ []) : nameB p = true := by
  unfold pkgB at h
  cases p with
  | nil => exact absurd rfl hp
  | cons x p => simpa using h
theorem fileB_pkgB {f : Fi} (h : fileB f = true) : pkgB f.pkg = true := by
  unfold fileB at h
  simp only [Bool.and_eq_true] at h
  exact h.1.1.1.2
theorem joinL_append {a b : List (List UInt8)} (ha : a ≠ []) (hb : b ≠ []) : joinL (a ++ b) = joinL a ++ 46 :: joinL b := by
  cases a with
  | nil => exact absurd rfl ha
  | cons p ps =>
    cases b with
    | nil => exact absurd rfl hb
    | cons q qs =>
      show (ps ++ q :: qs).foldl _ p = _
      rw [List.foldl_append, List.foldl_cons]
      have e : ps.foldl (fun a q => a ++ 46 :: q) p ++ 46 :: q = (ps.foldl (fun a q => a ++ 46 :: q) p ++ [46]) ++ q := by simp
      rw [e, join_foldl]
      simp [joinL]
/-- A name that is under another text is it, or goes on behind a dot. -/
theorem underB_iff {s p : List UInt8} (hp : p ≠ []) : underB s p = true ↔ s = p ∨ ∃ u, s = p ++ 46 :: u := by
  unfold underB
  have hpe : p.isEmpty = false := by cases p with | nil => exact absurd rfl hp | cons _ _ => rfl
  rw [hpe, Bool.false_or, Bool.or_eq_true, Bool.and_eq_true, beq_iff_eq, beq_iff_eq, decide_eq_true_iff]
  constructor
  · rintro (h | ⟨h1, h2⟩)
    · exact .inl h
    · refine .inr ⟨s.drop (p.length + 1), ?_⟩
      have := List.take_append_drop (p.length + 1) s
      rw [h2] at this
      rw [← this]
      simp
  · rintro (h | ⟨u, rfl⟩)
    · exact .inl h
    · refine .inr ⟨by simp, ?_⟩
      rw [show p ++ 46 :: u = (p ++ [46]) ++ u by simp, List.take_append_of_le_length (by simp), List.take_of_length_le (by simp)]
theorem pfx_cut {s : List UInt8} {k : Nat} (h0 : 0 < k) (hk : k < (splitL 46 s).length) : s = pfx s k ++ 46 :: joinL ((splitL 46 s).drop k) := by
  have h := joinL_split s
  have h1 : (splitL 46 s).take k ≠ [] := fun e => by
    have h2 := congrArg List.length e
    rw [List.length_take, List.length_nil] at h2
    omega
  have h3 : (splitL 46 s).drop k ≠ [] := fun e => by
    have h2 := congrArg List.length e
    rw [List.length_drop, List.length_nil] at h2
    omega
  rw [← List.take_append_drop k (splitL 46 s), joinL_append h1 h3] at h
  exact h.symm
theorem under_pfx {s : List UInt8} (h : nameB s = true) {i : Nat} (_ : i < (splitL 46 s).length) : underB s (pfx s (i + 1)) = true := by
  have hne : pfx s (i + 1) ≠ [] := fun e => by have := pfx_name h (k := i + 1) (by omega); rw [e] at this; exact absurd this (by decide)
  rw [underB_iff hne]
  rcases Nat.lt_or_ge (i + 1) (splitL 46 s).length with h2 | h2
  · exact .inr ⟨_, pfx_cut (by omega) h2⟩
  · exact .inl (pfx_all h2).symm
theorem hasB_of {t : List Fi} {f : Fi} {r : Int} {p : List UInt8} (ht : treeB t = true) (hf : f ∈ t) (hr : f.root = r) (hp : pkgB p = true) (hn : nameB f.pkg = true) (hu : underB f.pkg p = true) : hasB t r p = true := by
  obtain ⟨k, hk, e⟩ := List.getElem_of_mem hf
  have hfb := treeB_mem ht hf
  have hroot : rangeB r 0 2 = true := by
    unfold fileB at hfb
    simp only [Bool.and_eq_true] at hfb
    rw [← hr]
    exact hfb.1.1.1.1
  unfold hasB dirS
  rw [ht, hroot, hp]
  simp only [Bool.true_and]
  rw [Bool.or_eq_true]
  refine .inl (anyN_iff.2 ⟨k, hk, ?_⟩)
  have e2 : nth t k = f := by rw [nth_eq hk, e]
  rw [e2, hr, hu, nameB_ne hn]
  simp
theorem hasB_file {t : List Fi} {r : Int} {p : List UInt8} (h : hasB t r p = true) (hp : p ≠ []) : ∃ f ∈ t, f.root = r ∧ nameB f.pkg = true ∧ underB f.pkg p = true := by
  unfold hasB dirS at h
  simp only [Bool.and_eq_true, Bool.or_eq_true] at h
  obtain ⟨⟨⟨ht, hr⟩, hpk⟩, h | h⟩ := h
  · obtain ⟨k, hk, h1⟩ := anyN_iff.1 h
    simp only [Bool.and_eq_true, beq_iff_eq, Bool.not_eq_true'] at h1
    have hf := nth_mem hk
    have hn := pkgB_name (fileB_pkgB (treeB_mem ht hf)) (fun e => by rw [e] at h1; exact absurd h1.1.2 (by simp))
    exact ⟨_, hf, h1.1.1, hn, h1.2⟩
  · cases p with
    | nil => exact absurd rfl hp
    | cons x p => simp at h
theorem ent_ne {f : Fi} {r : Int} {p : List UInt8} (hr : f.root = r) (hn : nameB f.pkg = true) (hp : pkgB p = true) (hu : underB f.pkg p = true) : ∃ x, x ∈ entL f r p := by
  unfold entL
  rw [if_pos (by simp [hr])]
  split
  · exact ⟨_, List.mem_singleton.2 rfl⟩
  · rw [if_pos (by simp [isUnder, hn, hp, hu])]
    exact ⟨_, List.mem_singleton.2 rfl⟩
theorem clean_first {a u : List UInt8} (ha : ∀ x ∈ a, x ≠ 46) : nth (splitL 46 a) 0 = a ∧ nth (splitL 46 (a ++ 46 :: u)) 0 = a := by
  have h1 := splitL_clean ha
  rw [splitL_mid, h1]
  exact ⟨rfl, rfl⟩
theorem hasDir_law {t : List Fi} {r : Int} {p : List UInt8} (h : hasB t r p = true) (hp : p ≠ []) :
    hasB t r (parentF p) = true ∧ lastF p ++ [47] ∈ listL t r (parentF p) ∧ 0 < (listL t r p).length := by
  obtain ⟨f, hf, hr, hn, hu⟩ := hasB_file h hp
  unfold hasB at h
  simp only [Bool.and_eq_true] at h
  obtain ⟨⟨⟨ht, hrb⟩, hpk⟩, _⟩ := h
  have hnp := pkgB_name hpk hp
  have hpp : pkgB (parentF p) = true := by
    unfold parentF
    rw [if_pos hnp]
    exact pfx_pkg hnp _
  have hgood : (treeB t && rangeB r 0 2 && pkgB (parentF p)) = true := by rw [ht, hrb, hpp]; rfl
  have hgood2 : (treeB t && rangeB r 0 2 && pkgB p) = true := by rw [ht, hrb, hpk]; rfl
  have hlist : 0 < (listL t r p).length := by
    obtain ⟨x, hx⟩ := ent_ne hr hn hpk hu
    exact List.length_pos_of_mem ((mem_listL hgood2).2 ⟨f, hf, hx⟩)
  have key : underB f.pkg (parentF p) = true ∧ (f.pkg == parentF p) = false ∧ firstB f.pkg (parentF p) = lastF p := by
    have hfe := nameB_ne hn
    rcases name_parts hnp with ⟨e1, e2, _, hc⟩ | ⟨m, _, _, _, e, hc⟩
    · rw [e1, e2]
      refine ⟨rfl, ?_, ?_⟩
      · cases hq : f.pkg with
        | nil => rw [hq] at hfe; cases hfe
        | cons _ _ => rfl
      · have hz : firstB f.pkg [] = nth (splitL 46 f.pkg) 0 := rfl
        rw [hz]
        rcases (underB_iff hp).1 hu with e | ⟨u, e⟩
        · rw [e]; exact (clean_first (u := []) hc).1
        · rw [e]; exact (clean_first hc).2
    · have hne : parentF p ≠ [] := by
        intro e0
        rename_i h1 h2 _
        rw [h2] at e0
        have := pfx_name hnp (k := m + 1) (by omega)
        rw [e0] at this
        exact absurd this (by decide)
      have hu2 : ∃ v, f.pkg = parentF p ++ 46 :: v ∧ (v = lastF p ∨ ∃ u, v = lastF p ++ 46 :: u) := by
        rcases (underB_iff hp).1 hu with e3 | ⟨u, e3⟩
        · exact ⟨lastF p, by rw [e3]; exact e, .inl rfl⟩
        · refine ⟨lastF p ++ 46 :: u, ?_, .inr ⟨u, rfl⟩⟩
          rw [e3]
          have e4 := congrArg (· ++ 46 :: u) e
          simpa using e4
      obtain ⟨v, hv, hv2⟩ := hu2
      generalize parentF p = q at *
      generalize lastF p = z at *
      refine ⟨(underB_iff hne).2 (.inr ⟨v, hv⟩), ?_, ?_⟩
      · rw [hv]
        rw [Bool.eq_false_iff]
        intro hh
        rw [beq_iff_eq] at hh
        have := congrArg List.length hh
        simp at this
      · unfold firstB
        have hqe : q.isEmpty = false := by cases q with | nil => exact absurd rfl hne | cons _ _ => rfl
        rw [hqe, if_neg (by simp), hv]
        have : (q ++ 46 :: v).drop (q.length + 1) = v := by
          rw [show q ++ 46 :: v = (q ++ [46]) ++ v by simp, List.drop_append_of_le_length (by simp)]
          simp
        rw [this]
        rcases hv2 with rfl | ⟨u, rfl⟩
        · exact (clean_first (u := []) hc).1
        · exact (clean_first hc).2
  obtain ⟨k1, k2, k3⟩ := key
  refine ⟨hasB_of ht hf hr hpp hn k1, (mem_listL hgood).2 ⟨f, hf, ?_⟩, hlist⟩
  unfold entL
  rw [if_pos (by simp [hr]), k2, if_neg (by simp), if_pos (by simp [isUnder, hn, hpp, k1]), k3]
  exact List.mem_singleton.2 rfl
theorem parentF_pfx {s : List UInt8} (h : nameB s = true) {i : Nat} (hi : i < (splitL 46 s).length) : parentF (pfx s (i + 1)) = pfx s i := by
  have hns := pfx_name h (k := i + 1) (by omega)
  have hsp : splitL 46 (pfx s (i + 1)) = (splitL 46 s).take (i + 1) := pfx_split h (by omega)
  have hl : (splitL 46 (pfx s (i + 1))).length = i + 1 := by rw [hsp, List.length_take, Nat.min_eq_left (by omega)]
  unfold parentF
  rw [if_pos hns, hl]
  show joinL ((splitL 46 (pfx s (i + 1))).take (i + 1 - 1)) = joinL ((splitL 46 s).take i)
  rw [hsp, List.take_take, Nat.min_eq_left (by omega), show i + 1 - 1 = i by omega]
theorem packs_law {t : List Fi} (h : treeB t = true) {s : List UInt8} (hs : s ∈ packsL t) :
    nameB s = true ∧ (∃ r : Nat, r < 3 ∧ hasB t (r : Int) s = true) ∧ (parentF s ≠ [] → parentF s ∈ packsL t) := by
  obtain ⟨f, hf, hx⟩ := (mem_packsL h).1 hs
  obtain ⟨hn, i, hi, rfl⟩ := mem_aboveP.1 hx
  have hns := pfx_name hn (k := i + 1) (by omega)
  have hfb := treeB_mem h hf
  have hroot : ∃ r : Nat, r < 3 ∧ f.root = (r : Int) := by
    unfold fileB at hfb
    simp only [Bool.and_eq_true, rangeB, decide_eq_true_eq] at hfb
    obtain ⟨h1, h2⟩ := hfb.1.1.1.1
    exact ⟨f.root.toNat, by omega, by omega⟩
  obtain ⟨r, hr, e⟩ := hroot
  refine ⟨hns, ⟨r, hr, hasB_of h hf e (pfx_pkg hn _) hn (under_pfx hn hi)⟩, fun hne => (mem_packsL h).2 ⟨f, hf, mem_aboveP.2 ⟨hn, ?_⟩⟩⟩
  have he := parentF_pfx hn hi
  cases i with
  | zero => rw [he, pfx_zero] at hne; exact absurd rfl hne
  | succ i => exact ⟨i, by omega, he.symm⟩
theorem list_law {t : List Fi} {r : Int} {p : List UInt8} (h : (treeB t && rangeB r 0 2 && pkgB p) = true) :
    (∀ f ∈ t, f.root = r → f.pkg = p → (if f.init then [42] else f.name) ∈ listL t r p) ∧ (0 < (listL t r p).length → hasB t r p = true) := by
  constructor
  · intro f hf hr hp
    refine (mem_listL h).2 ⟨f, hf, ?_⟩
    unfold entL
    rw [if_pos (by simp [hr]), if_pos (by simp [hp])]
    exact List.mem_singleton.2 rfl
  · intro hl
    have hh := h
    simp only [Bool.and_eq_true] at h
    obtain ⟨⟨ht, hr⟩, hp⟩ := h
    obtain ⟨x, hx⟩ := List.exists_mem_of_length_pos hl
    obtain ⟨f, hf, hx⟩ := (mem_listL hh).1 hx
    by_cases hpe : p = []
    · unfold hasB dirS
      rw [ht, hr, hp, hpe]
      simp
    have hpk := fileB_pkgB (treeB_mem ht hf)
    unfold entL at hx
    split at hx
    · rename_i hr2
      have hr2 : f.root = r := by simpa using hr2
      split at hx
      · rename_i hq
        have hq : f.pkg = p := by simpa using hq
        exact hasB_of ht hf hr2 hp (by rw [hq]; exact pkgB_name hp hpe) (by rw [hq]; exact underB_self _)
      · split at hx
        · rename_i hu
          simp only [isUnder, Bool.and_eq_true] at hu
          exact hasB_of ht hf hr2 hp hu.1.1 hu.2
        · simp at hx
    · simp at hx
end Go.Proofs.YtgjfjjhmgbemcaaGreatDoor
