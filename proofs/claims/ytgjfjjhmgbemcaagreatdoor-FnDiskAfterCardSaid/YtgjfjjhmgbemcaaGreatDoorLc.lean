/- Several texts in one: Asc, TrLaw, Up, FoundLaw, Disk, StampLaw, DiskLaw, AboveP. No condition but lengths. -/
import Derived.Test.YtgjfjjhmgbemcaaGreatDoorIa
import Derived.Lib.SlicesCompact
import Derived.Sort.Walk0
import Derived.Test.YtgjfjjhmgbemcaaGreatDoorIc
import Derived.Test.YtgjfjjhmgbemcaaGreatDoorIb
import Derived.Test.YtgjfjjhmgbemcaaGreatDoorLa
namespace Go.Proofs.YtgjfjjhmgbemcaaGreatDoor
open Go.RowKit

def gtS (a b : List UInt8) : Bool := !(Op.bytesLess a b || a == b)
/-- Ascending, each once. -/
def asc (l : List (List UInt8)) : Prop := l.Pairwise (· < ·)
theorem asc_nil : asc [] := List.Pairwise.nil
theorem asc_ext : ∀ {l m : List (List UInt8)}, asc l → asc m → (∀ x, x ∈ l ↔ x ∈ m) → l = m
  | [], [], _, _, _ => rfl
  | [], b :: m, _, _, h => by have := (h b).2 (by simp); simp at this
  | a :: l, [], _, _, h => by have := (h a).1 (by simp); simp at this
  | a :: l, b :: m, hl, hm, h => by
    obtain ⟨h1, h2⟩ := List.pairwise_cons.1 hl
    obtain ⟨h3, h4⟩ := List.pairwise_cons.1 hm
    have e : a = b := by
      rcases List.mem_cons.1 ((h a).1 (by simp)) with e | e
      · exact e
      · rcases List.mem_cons.1 ((h b).2 (by simp)) with e2 | e2
        · exact e2.symm
        · exact absurd (h3 a e) (List.lt_asymm (h1 b e2))
    subst e
    rw [asc_ext h2 h4 fun x => ?_]
    constructor
    · intro hx
      rcases List.mem_cons.1 ((h x).1 (List.mem_cons_of_mem _ hx)) with e | e
      · subst e; exact absurd (h1 x hx) (List.lt_irrefl _)
      · exact e
    · intro hx
      rcases List.mem_cons.1 ((h x).2 (List.mem_cons_of_mem _ hx)) with e | e
      · subst e; exact absurd (h3 x hx) (List.lt_irrefl _)
      · exact e

/-! ### Insertion -/
def posS (l : List (List UInt8)) (s : List UInt8) : Nat → Nat
  | 0 => 0
  | n + 1 => if gtS (nth l n) s then posS l s n else n + 1
def hasS (l : List (List UInt8)) (s : List UInt8) : Bool := anyN (fun k => nth l k == s) l.length
theorem hasS_iff {l : List (List UInt8)} {s : List UInt8} : hasS l s = true ↔ s ∈ l := by
  unfold hasS anyN
  rw [List.any_eq_true]
  constructor
  · rintro ⟨k, hk, h⟩
    have hk := List.mem_range.1 hk
    rw [beq_iff_eq] at h
    rw [← h]
    exact nth_mem hk
  · intro h
    obtain ⟨k, hk, rfl⟩ := List.getElem_of_mem h
    exact ⟨k, List.mem_range.2 hk, by rw [nth_eq hk]; simp⟩
def insS (l : List (List UInt8)) (s : List UInt8) : List (List UInt8) := if hasS l s then l else l.take (posS l s l.length) ++ s :: l.drop (posS l s l.length)
def insAll (l : List (List UInt8)) (xs : List (List UInt8)) : List (List UInt8) := xs.foldl insS l
/-! ### Sorting, each once -/
def sortU (l : List (List UInt8)) : List (List UInt8) := Lib.compact (l.mergeSort fun x y => decide (x ≤ y))
theorem compactUpTo_asc {d : Array (List UInt8)} (h : ∀ i j, i < j → j < d.size → d[i]! ≤ d[j]!) : ∀ m, m ≤ d.size → asc (Lib.compactUpTo d m) ∧ ∀ x, x ∈ Lib.compactUpTo d m ↔ ∃ j, j < m ∧ d[j]! = x
  | 0, _ => ⟨by simpa [Lib.compactUpTo] using asc_nil, fun x => by simp [Lib.compactUpTo]⟩
  | m + 1, hm => by
    obtain ⟨h1, h2⟩ := compactUpTo_asc h m (by omega)
    rw [Lib.compactUpTo_succ]
    have hle : ∀ j, j < m → d[j]! ≤ d[m]! := fun j hj => h j m hj (by omega)
    split
    · rename_i hk
      constructor
      · refine List.pairwise_append.2 ⟨h1, List.pairwise_singleton _ _, fun x hx y hy => ?_⟩
        rw [List.mem_singleton.1 hy]
        obtain ⟨j, hj, rfl⟩ := (h2 x).1 hx
        have hm0 : 0 < m := by omega
        have hne : d[m]! ≠ d[m - 1]! := by
          intro e
          rw [Lib.keeps_neg hm0 e] at hk
          cases hk
        have hl1 : d[j]! ≤ d[m - 1]! := by
          rcases Nat.lt_or_ge j (m - 1) with h3 | h3
          · exact h j (m - 1) h3 (by omega)
          · rw [show j = m - 1 by omega]; exact List.le_refl _
        have hl2 : d[m - 1]! ≤ d[m]! := hle (m - 1) (by omega)
        rcases List.le_iff_lt_or_eq.1 hl2 with h3 | h3
        · rcases List.le_iff_lt_or_eq.1 hl1 with h4 | h4
          · exact List.lt_trans h4 h3
          · rw [h4]; exact h3
        · exact absurd h3.symm hne
      · intro x
        rw [List.mem_append, List.mem_singleton, h2]
        constructor
        · rintro (⟨j, hj, e⟩ | e)
          · exact ⟨j, by omega, e⟩
          · exact ⟨m, by omega, e.symm⟩
        · rintro ⟨j, hj, e⟩
          rcases Nat.lt_succ_iff_lt_or_eq.1 hj with h3 | rfl
          · exact .inl ⟨j, h3, e⟩
          · exact .inr e.symm
    · rename_i hk
      rw [List.append_nil]
      refine ⟨h1, fun x => ?_⟩
      rw [h2]
      have hm0 : m ≠ 0 := fun e => hk (by simp [Lib.keeps, e])
      have he : d[m]! = d[m - 1]! := by
        have := hk
        simp [Lib.keeps, hm0] at this
        exact this
      constructor
      · rintro ⟨j, hj, e⟩
        exact ⟨j, by omega, e⟩
      · rintro ⟨j, hj, e⟩
        rcases Nat.lt_succ_iff_lt_or_eq.1 hj with h3 | rfl
        · exact ⟨j, h3, e⟩
        · exact ⟨j - 1, by omega, he ▸ e⟩
theorem sort_pairwise (l : List (List UInt8)) : (l.mergeSort fun x y => decide (x ≤ y)).Pairwise (· ≤ ·) := by
  have := List.pairwise_mergeSort (le := fun x y : List UInt8 => decide (x ≤ y)) (fun a b c h1 h2 => by
    simp only [decide_eq_true_eq] at h1 h2 ⊢
    exact List.le_trans h1 h2) (fun a b => by
    simp only [Bool.or_eq_true, decide_eq_true_eq]
    exact List.le_total a b) l
  simpa using this
theorem sortU_facts (l : List (List UInt8)) : asc (sortU l) ∧ ∀ x, x ∈ sortU l ↔ x ∈ l := by
  unfold sortU Lib.compact
  have hp := sort_pairwise l
  have hperm := List.mergeSort_perm l fun x y => decide (x ≤ y)
  generalize (l.mergeSort fun x y => decide (x ≤ y)) = m at hp hperm
  obtain ⟨h1, h2⟩ := compactUpTo_asc (d := m.toArray) (fun i j hij hj => by
    simp only [List.size_toArray] at hj
    have := List.pairwise_iff_getElem.1 hp i j (by omega) hj hij
    simpa [hj, show i < m.length by omega] using this) m.length (by simp)
  refine ⟨h1, fun x => ?_⟩
  rw [h2, ← hperm.mem_iff]
  constructor
  · rintro ⟨j, hj, rfl⟩
    simp [hj]
  · intro hx
    obtain ⟨j, hj, rfl⟩ := List.getElem_of_mem hx
    exact ⟨j, hj, by simp [hj]⟩
end Go.Proofs.YtgjfjjhmgbemcaaGreatDoor

namespace Go.Proofs.YtgjfjjhmgbemcaaGreatDoor
open Go.RowKit

def aboveL (s : List UInt8) (k : Nat) : List (List UInt8) := (List.range k).map fun i => pfx s (i + 1)
theorem aboveL_next {s : List UInt8} {k : Nat} : aboveL s (k + 1) = aboveL s k ++ [pfx s (k + 1)] := by simp [aboveL, List.range_succ]
theorem aboveL_len {s : List UInt8} {k : Nat} : (aboveL s k).length = k := by simp [aboveL]
theorem aboveL_nth {s : List UInt8} {k i : Nat} (h : i < k) : nth (aboveL s k) i = pfx s (i + 1) := by
  rw [nth_eq (by rw [aboveL_len]; exact h)]
  simp [aboveL]
def aboveP (s : List UInt8) : List (List UInt8) := if nameB s then aboveL s (splitL 46 s).length else []
theorem mem_aboveP {s x : List UInt8} : x ∈ aboveP s ↔ nameB s = true ∧ ∃ i, i < (splitL 46 s).length ∧ pfx s (i + 1) = x := by
  unfold aboveP
  cases h : nameB s
  · simp
  · simp [aboveL]
def modsL (t : List Fi) : List (List UInt8) := if treeB t then sortU (t.map moduleB) else []
def packsN (t : List Fi) : List (List UInt8) := t.flatMap fun f => aboveP f.pkg
def packsL (t : List Fi) : List (List UInt8) := if treeB t then sortU (packsN t) else []
def firstB (s p : List UInt8) : List UInt8 := nth (splitL 46 (if p.isEmpty then s else s.drop (p.length + 1))) 0
def entL (f : Fi) (r : Int) (p : List UInt8) : List (List UInt8) :=
  if f.root == r then (if f.pkg == p then [if f.init then [42] else f.name] else if isUnder f.pkg p then [firstB f.pkg p ++ [47]] else []) else []
def listN (t : List Fi) (r : Int) (p : List UInt8) : List (List UInt8) := t.flatMap fun f => entL f r p
def listL (t : List Fi) (r : Int) (p : List UInt8) : List (List UInt8) := if treeB t && rangeB r 0 2 && pkgB p then sortU (listN t r p) else []

theorem treeB_mem {t : List Fi} (h : treeB t = true) {f : Fi} (hf : f ∈ t) : fileB f = true := by
  obtain ⟨k, hk, rfl⟩ := List.getElem_of_mem hf
  rw [← nth_eq hk]
  exact treeB_file h hk
theorem pkgB_name {p : List UInt8} (h : pkgB p = true) (hp : p ≠ []) : nameB p = true := by
  unfold pkgB at h
  cases p with
  | nil => exact absurd rfl hp
  | cons x p => simpa using h
/-- A name that is under another text is it, or goes on behind a dot. -/
theorem underB_iff {s p : List UInt8} (hp : p ≠ []) : underB s p = true ↔ s = p ∨ ∃ u, s = p ++ 46 :: u := by
  unfold underB
  have hpe : p.isEmpty = false := by cases p with | nil => exact absurd rfl hp | cons _ _ => rfl
  rw [hpe, Bool.false_or, Bool.or_eq_true, Bool.and_eq_true, beq_iff_eq, beq_iff_eq, decide_eq_true_iff]
  constructor
  · rintro (h | ⟨h1, h2⟩)
    · exact .inl h
    · refine .inr ⟨s.drop (p.length + 1), ?_⟩
      have := List.take_append_drop (p.length + 1) s
      rw [h2] at this
      rw [← this]
      simp
  · rintro (h | ⟨u, rfl⟩)
    · exact .inl h
    · refine .inr ⟨by simp, ?_⟩
      rw [show p ++ 46 :: u = (p ++ [46]) ++ u by simp, List.take_append_of_le_length (by simp), List.take_of_length_le (by simp)]
end Go.Proofs.YtgjfjjhmgbemcaaGreatDoor

namespace Go.Proofs.YtgjfjjhmgbemcaaGreatDoor
open Go.RowKit

theorem specGo_snoc (l : List Fi) (q : List UInt8) : ∀ (ps : List (List UInt8)) (p : List UInt8) (o : Sp),
    specGo l (ps ++ [q]) p o = if (specGo l ps p o).kind = 2 ∨ (specGo l ps p o).kind = 3 then findF l (specGo l ps p o).roots (ps.foldl childL p) q else noneSp
  | [], p, o => rfl
  | q' :: qs, p, o => by
    by_cases h : o.kind = 2 ∨ o.kind = 3
    · have e1 : specGo l (q' :: qs ++ [q]) p o = specGo l (qs ++ [q]) (childL p q') (findF l o.roots p q') := by
        show specGo l (q' :: (qs ++ [q])) p o = _
        rw [specGo, if_pos h]
      have e2 : specGo l (q' :: qs) p o = specGo l qs (childL p q') (findF l o.roots p q') := by rw [specGo, if_pos h]
      rw [e1, e2, specGo_snoc l q qs]
      rfl
    · have e1 : specGo l (q' :: qs ++ [q]) p o = noneSp := by
        show specGo l (q' :: (qs ++ [q])) p o = _
        rw [specGo, if_neg h]
      have e2 : specGo l (q' :: qs) p o = noneSp := by rw [specGo, if_neg h]
      rw [e1, e2]
      simp [noneSp]
end Go.Proofs.YtgjfjjhmgbemcaaGreatDoor

namespace Go.Proofs.YtgjfjjhmgbemcaaGreatDoor
open Go.RowKit

/-! ### Names of a tree -/
def allP (t : List Fi) : List (List UInt8) := t.flatMap fun f => aboveP (moduleB f)
def namesI (t : List Fi) : List (List UInt8) := sortU (modsL t ++ packsL t)
def foundL (t : List Fi) (path : List Int) : List (List UInt8) := if treeB t && pathB path then (sortU (allP t)).filter fun n => canB t path n else []
theorem modName {f : Fi} (h : fileB f = true) : nameB (moduleB f) = true := by
  unfold fileB at h
  unfold moduleB
  simp only [Bool.and_eq_true] at h
  cases hi : f.init
  · rw [hi] at h
    simp only [Bool.false_eq_true, if_false, Bool.and_eq_true] at h ⊢
    exact h.2.2
  · rw [hi] at h
    simp only [if_true, Bool.and_eq_true, Bool.not_eq_true', List.isEmpty_eq_false_iff] at h ⊢
    exact pkgB_name h.1.1.1.2 h.2.1
/-- A name that another one is under is one of those above it. -/
theorem under_above {s n : List UInt8} (hs : nameB s = true) (hn : n ≠ []) (hu : underB s n = true) : n ∈ aboveP s := by
  refine mem_aboveP.2 ⟨hs, ?_⟩
  have h0 := splitL_pos 46 n
  rcases (underB_iff hn).1 hu with rfl | ⟨u, rfl⟩
  · exact ⟨(splitL 46 s).length - 1, by omega, pfx_all (by omega)⟩
  · have h1 := splitL_pos 46 u
    refine ⟨(splitL 46 n).length - 1, by rw [splitL_mid, List.length_append]; omega, ?_⟩
    have e : (splitL 46 n).length - 1 + 1 = (splitL 46 n).length := by omega
    rw [e, pfx, splitL_mid, List.take_left, joinL_split]
theorem under_trans {a b c : List UInt8} (h1 : underB a b = true) (h2 : underB b c = true) (hb : b ≠ []) : underB a c = true := by
  by_cases hc : c = []
  · rw [hc]; rfl
  · rcases (underB_iff hb).1 h1 with rfl | ⟨u, rfl⟩
    · exact h2
    · rcases (underB_iff hc).1 h2 with rfl | ⟨v, rfl⟩
      · exact (underB_iff hc).2 (.inr ⟨u, rfl⟩)
      · exact (underB_iff hc).2 (.inr ⟨v ++ 46 :: u, by simp⟩)
theorem mod_under {f : Fi} (hp : f.pkg ≠ []) : underB (moduleB f) f.pkg = true := by
  unfold moduleB
  split
  · exact underB_self _
  · refine (underB_iff hp).2 (.inr ⟨f.name, ?_⟩)
    unfold childL
    cases h : f.pkg with
    | nil => exact absurd h hp
    | cons a b => rfl
theorem mem_allP {t : List Fi} {x : List UInt8} : x ∈ allP t ↔ ∃ f ∈ t, x ∈ aboveP (moduleB f) := by
  unfold allP
  rw [List.mem_flatMap]
/-! ### What is found has a name -/
theorem findGo_some (l : List Fi) (p s : List UInt8) : ∀ (path acc : List Int), (findGo l p s path acc).kind = 3 → (findGo l p s path acc).roots ≠ []
  | [], acc => by
    unfold findGo
    split
    · simp [noneSp]
    · rename_i h
      intro _ e
      apply h
      rw [show acc = [] from e]
      rfl
  | r :: rs, acc => by
    unfold findGo
    split
    · simp
    · split
      · simp
      · exact findGo_some l p s rs _
theorem findGo_pos (l : List Fi) (p s : List UInt8) : ∀ (path acc : List Int), ((findGo l p s path acc).kind = 1 ∨ (findGo l p s path acc).kind = 2) → 0 ≤ (findGo l p s path acc).file
  | [], acc => by
    unfold findGo
    split <;> simp [noneSp]
  | r :: rs, acc => by
    unfold findGo
    split
    · rename_i h
      exact fun _ => h
    · split
      · rename_i h
        exact fun _ => h
      · exact findGo_pos l p s rs _
theorem dirS_file {l : List Fi} {r : Int} {p : List UInt8} (h : dirS l r p = true) (hp : p ≠ []) : ∃ f ∈ l, f.root = r ∧ f.pkg ≠ [] ∧ underB f.pkg p = true := by
  unfold dirS at h
  rw [Bool.or_eq_true] at h
  rcases h with h | h
  · obtain ⟨k, hk, h1⟩ := anyN_iff.1 h
    simp only [Bool.and_eq_true, beq_iff_eq, Bool.not_eq_true', List.isEmpty_eq_false_iff] at h1
    exact ⟨_, nth_mem hk, h1.1.1, h1.1.2, h1.2⟩
  · cases p with
    | nil => exact absurd rfl hp
    | cons _ _ => cases h
/-- The way to a name, part by part. -/
def goK (l : List Fi) (path : List Int) (s : List UInt8) (k : Nat) : Sp := specGo l ((splitL 46 s).take k) [] ⟨3, -1, path⟩
theorem goK_next {l : List Fi} {path : List Int} {s : List UInt8} (h : nameB s = true) {k : Nat} (hk : k < (splitL 46 s).length) :
    goK l path s (k + 1) = if (goK l path s k).kind = 2 ∨ (goK l path s k).kind = 3 then findF l (goK l path s k).roots (pfx s k) (nth (splitL 46 s) k) else noneSp := by
  unfold goK
  rw [take_succ_nth hk, specGo_snoc, foldl_pfx h k (by omega)]
theorem goK_spec {l : List Fi} {path : List Int} {s : List UInt8} (ht : treeB l = true) (hp : pathB path = true) (h : nameB s = true) {k : Nat} (h0 : 0 < k) : goK l path s k = specB l path (pfx s k) := by
  rw [specB, ht, hp, pfx_name h h0]
  show _ = specF l path (pfx s k)
  rw [specF, pfx_split h h0]
  rfl
theorem goK_all {l : List Fi} {path : List Int} {s : List UInt8} (ht : treeB l = true) (hp : pathB path = true) (h : nameB s = true) : goK l path s (splitL 46 s).length = specB l path s := by
  rw [goK_spec ht hp h (splitL_pos 46 s), pfx_all (Nat.le_refl _)]
theorem can_valid {l : List Fi} {path : List Int} {s : List UInt8} (h : canB l path s = true) : treeB l = true ∧ pathB path = true ∧ nameB s = true := by
  cases hv : (treeB l && pathB path && nameB s)
  · rw [canB, specB, hv] at h
    simp [noneSp] at h
  · simp only [Bool.and_eq_true] at hv
    exact ⟨hv.1.1, hv.1.2, hv.2⟩
theorem can_name {l : List Fi} {path : List Int} {s : List UInt8} (h : canB l path s = true) : s ∈ allP l := by
  obtain ⟨ht, hp, hs⟩ := can_valid h
  have hs0 : s ≠ [] := fun e => by rw [e] at hs; exact absurd hs (by decide)
  have hk : (specB l path s).kind ≠ 0 := by simpa [canB] using h
  by_cases hf : 0 ≤ (specB l path s).file
  · obtain ⟨j, hj, _, hm, _⟩ := specFile_law hf
    refine mem_allP.2 ⟨_, nth_mem hj, ?_⟩
    have hfb := treeB_file ht hj
    have : moduleOf (nth l j) = moduleB (nth l j) := by rw [moduleOf, hfb]; rfl
    rw [← this, hm]
    exact under_above hs hs0 (underB_self _)
  · have hl := splitL_pos 46 s
    obtain ⟨m, hm⟩ : ∃ m, (splitL 46 s).length = m + 1 := ⟨(splitL 46 s).length - 1, by omega⟩
    have e := goK_all (l := l) (path := path) ht hp hs
    rw [hm, goK_next hs (by omega)] at e
    split at e
    · rename_i hkk
      rw [← e] at hk hf
      have hk3 : (findF l (goK l path s m).roots (pfx s m) (nth (splitL 46 s) m)).kind = 3 := by
        rcases findF_kind l (goK l path s m).roots (pfx s m) (nth (splitL 46 s) m) with h1 | h1 | h1 | h1
        · exact absurd h1 hk
        · exfalso
          apply hf
          exact findGo_pos l _ _ _ _ (.inl h1)
        · exfalso
          apply hf
          exact findGo_pos l _ _ _ _ (.inr h1)
        · exact h1
      have hne := findGo_some l _ _ _ _ hk3
      obtain ⟨_, hroots, _⟩ := findGo_space l _ _ _ _ hk3
      rw [List.nil_append] at hroots
      have hcl : childL (pfx s m) (nth (splitL 46 s) m) = s := by rw [pfx_succ hs (by omega), pfx_all (by omega)]
      obtain ⟨r, hr⟩ : ∃ r, r ∈ (findGo l (pfx s m) (nth (splitL 46 s) m) (goK l path s m).roots []).roots := List.exists_mem_of_ne_nil _ hne
      rw [hroots, List.mem_filter, hcl] at hr
      obtain ⟨f, hf2, _, hpk, hu⟩ := dirS_file hr.2 hs0
      refine mem_allP.2 ⟨f, hf2, under_above (modName (treeB_mem ht hf2)) hs0 (under_trans (mod_under hpk) hu hpk)⟩
    · rw [← e] at hk
      exact absurd rfl hk
end Go.Proofs.YtgjfjjhmgbemcaaGreatDoor

namespace Go.Proofs.YtgjfjjhmgbemcaaGreatDoor
open Go.RowKit

def sameD (d : Di) (r : Int) (p : List UInt8) : Bool := d.root == r && d.pkg == p
def didx (l : List Di) (r : Int) (p : List UInt8) (n : Nat) : Int := firstN (fun k => sameD (nth l k) r p) n
def dirB (l : List Di) (st nm : Int) (k : Nat) : Bool :=
  rangeB (nth l k).root 0 2 && pkgB (nth l k).pkg && rangeB (nth l k).stamp 0 st && decide (((nth l k).names.length : Int) ≤ nm) && !anyN (fun j => sameD (nth l j) (nth l k).root (nth l k).pkg) k
def dirsB (l : List Di) (st nm : Int) : Bool := allN (dirB l st nm) l.length && decide (l.length ≤ 20)
def diskB (l : List Fi) (kk : Int) (dl : List Di) : Bool := treeB l && rangeB kk 0 200 && dirsB dl kk 0
theorem didx_lt {l : List Di} {k n : Nat} (hk : k < n) : decide (didx l (nth l k).root (nth l k).pkg n < (k : Int)) = anyN (fun j => sameD (nth l j) (nth l k).root (nth l k).pkg) k := by
  have hs : sameD (nth l k) (nth l k).root (nth l k).pkg = true := by simp [sameD]
  cases h : anyN (fun j => sameD (nth l j) (nth l k).root (nth l k).pkg) k
  · have : didx l (nth l k).root (nth l k).pkg n = k := firstN_some (p := fun j => sameD (nth l j) (nth l k).root (nth l k).pkg) h hs hk
    rw [this]; simp
  · have h2 : didx l (nth l k).root (nth l k).pkg n < k := by
      rcases firstN_cases (fun j => sameD (nth l j) (nth l k).root (nth l k).pkg) n with ⟨h1, h2⟩ | ⟨j, hj, h1, h2, h3⟩
      · rw [show didx l (nth l k).root (nth l k).pkg n = -1 from h2]; omega
      · rw [show didx l (nth l k).root (nth l k).pkg n = j from h3]
        obtain ⟨i, hi, hp⟩ := anyN_iff.1 h
        rcases Nat.lt_or_ge j k with h4 | h4
        · omega
        · have := anyN_false.1 h2 i (by omega)
          rw [hp] at this; cases this
    simp [h2]
theorem disk_law {l : List Fi} {kk : Int} {dl : List Di} (h : allN (fun k => decide ((nth dl k).stamp ≤ kk) && decide (((nth dl k).names.length : Int) ≤ 0)) dl.length = true) :
    (treeB l && rangeB kk 0 200 && dirsB dl 200 12) = diskB l kk dl := by
  unfold diskB
  cases hr : rangeB kk 0 200
  · simp
  · congr 1
    unfold dirsB
    congr 1
    refine allN_congr fun k hk => ?_
    have h1 := allN_iff.1 h k hk
    simp only [Bool.and_eq_true, decide_eq_true_eq] at h1
    have h2 := rangeB_iff.1 hr
    unfold dirB
    have e1 : rangeB (nth dl k).stamp 0 200 = rangeB (nth dl k).stamp 0 kk := by
      rw [Bool.eq_iff_iff, rangeB_iff, rangeB_iff]; omega
    have e2 : decide (((nth dl k).names.length : Int) ≤ 12) = decide (((nth dl k).names.length : Int) ≤ 0) := by
      rw [decide_eq_decide]; omega
    rw [e1, e2]
theorem disk_no {l : List Fi} {kk : Int} {dl : List Di} {k : Nat} (hk : k < dl.length) (h : (decide ((nth dl k).stamp ≤ kk) && decide (((nth dl k).names.length : Int) ≤ 0)) = false) : diskB l kk dl = false := by
  unfold diskB dirsB
  rw [allN_not (k := k) _ hk]
  · simp
  · unfold dirB
    by_cases h1 : (nth dl k).stamp ≤ kk
    · have h2 : ¬ ((nth dl k).names.length : Int) ≤ 0 := by
        rw [decide_eq_true h1, Bool.true_and] at h
        exact of_decide_eq_false h
      rw [decide_eq_false h2]; simp
    · have : rangeB (nth dl k).stamp 0 kk = false := by
        rw [Bool.eq_false_iff]; intro h2; exact h1 (rangeB_iff.1 h2).2
      rw [this]; simp

set_option maxRecDepth 100000 in
set_option maxHeartbeats 1000000 in
theorem dirAt_s (l : List Di) (a : Option Addr) (n m c B : Nat) (r : Int) (p : List UInt8) (w : World) (hD : DirsAt w B a n l) (hm : m ≤ n) :
    Calls Tryz.prog 150 #[.slice a m c, .int .i64 r, .string ⟨(p).toArray⟩] w fun e w' => e = .returned (.int .i64 (didx l r p m)) ∧ X w w' := by
  have hn := hD.len.2
  go_enter Tryz.func150, Tryz.ntmps150
  go_wp2
  go_loopw [7] (fun i wr => ∃ k : Nat, k ≤ m ∧ i = .int .i64 k ∧ anyN (fun k => sameD (nth l k) r p) k = false ∧ wr = w) (fun i _ => m - (intOf i).toNat)
  case atStart => exact ⟨0, by omega, rfl, rfl, rfl⟩
  case round =>
    obtain ⟨k, hk, rfl, hno, rfl⟩ := hrel
    by_cases hlt : k < m
    · obtain ⟨b, off, ba, bn, bc, rfl, _, hb, _, _, _, g0, g1, g2, g3⟩ := hD.at_ (k := k) (by omega)
      cases h1 : (nth l k).root == r <;> cases h2 : (nth l k).pkg == p
      all_goals go_wp2
      all_goals first
        | (go_roundw
           case rel => exact ⟨k + 1, by omega, by go_num, anyN_next hno (by simp [sameD, h1, h2]), trivial⟩
           case measure => simp [intOf]; omega)
        | (go_ret
           exact ⟨ret_int (firstN_some (p := fun k => sameD (nth l k) r p) hno (by simp [sameD, h1, h2]) hlt).symm, by (repeat (first | with_reducible exact X.refl _ | with_reducible assumption | with_reducible refine X.setCell ?_ (by first | (simp; done) | (simp; omega)) _ | with_reducible refine X.ext ?_ _ | with_reducible refine X.alloc ?_ _ | with_reducible refine X.drew ?_))⟩)
    · obtain rfl : k = m := by omega
      go_wp2
      go_ret
      exact ⟨ret_int (firstN_none (p := fun k => sameD (nth l k) r p) hno).symm, by (repeat (first | with_reducible exact X.refl _ | with_reducible assumption | with_reducible refine X.setCell ?_ (by first | (simp; done) | (simp; omega)) _ | with_reducible refine X.ext ?_ _ | with_reducible refine X.alloc ?_ _ | with_reducible refine X.drew ?_))⟩

set_option maxRecDepth 100000 in
set_option maxHeartbeats 1000000 in
theorem sameDir_c (d : Di) (bv : Value) (r : Int) (p : List UInt8) (rb pb : Nat) (w : World) (h1 : w.cell? ⟨rb, 0, none⟩ = some (.int .i64 r)) (h2 : w.cell? ⟨pb, 0, none⟩ = some (.string ⟨(p).toArray⟩)) (l1 : rb < w.heap.size) (l2 : pb < w.heap.size) :
    Calls Tryz.prog 155 #[.agg #[.int .i64 (d).root, .string ⟨(d).pkg.toArray⟩, .int .i64 (d).stamp, bv], .pointer (some ⟨rb, 0, none⟩), .pointer (some ⟨pb, 0, none⟩)] w fun e w' => e = .returned (.bool (sameD d r p)) ∧ X w w' := by
  cases c1 : d.root == r <;> cases c2 : d.pkg == p
  all_goals
    go_enter Tryz.func155, Tryz.ntmps155
    go_wp2
    go_ret
    exact ⟨by simp [sameD, c1, c2], by (repeat (first | with_reducible exact X.refl _ | with_reducible assumption | with_reducible refine X.setCell ?_ (by first | (simp; done) | (simp; omega)) _ | with_reducible refine X.ext ?_ _ | with_reducible refine X.alloc ?_ _ | with_reducible refine X.drew ?_))⟩

set_option maxRecDepth 100000 in
set_option maxHeartbeats 1000000 in
theorem IndexFunc_c (l : List Di) (a : Option Addr) (n m c B : Nat) (r : Int) (p : List UInt8) (rb pb : Nat) (w : World) (hD : DirsAt w B a n l) (hm : m ≤ n) (h1 : Bx w rb #[.int .i64 r]) (h2 : Bx w pb #[.string ⟨(p).toArray⟩]) :
    Calls Tryz.prog 154 #[.slice a m c, .func (.func 155) #[] #[.pointer (some ⟨rb, 0, none⟩), .pointer (some ⟨pb, 0, none⟩)]] w fun e w' => e = .returned (.int .i64 (didx l r p m)) ∧ X w w' := by
  have hn := hD.len.2
  go_enter Tryz.func154, Tryz.ntmps154
  go_wp2
  go_loopw [8] (fun i wr => ∃ k : Nat, k ≤ m ∧ i = .int .i64 k ∧ anyN (fun k => sameD (nth l k) r p) k = false ∧ X w wr) (fun i _ => m - (intOf i).toNat)
  case atStart => exact ⟨0, by omega, rfl, rfl, X.refl _⟩
  case round =>
    obtain ⟨k, hk, rfl, hno, hX⟩ := hrel
    by_cases hlt : k < m
    · obtain ⟨b, off, ba, bn, bc, rfl, _, hb, _, _, _, g0, g1, g2, g3⟩ := (hD.mono (hX.fr _)).at_ (k := k) (by omega)
      obtain ⟨l1, c1, _⟩ := (h1.x hX).out
      obtain ⟨l2, c2, _⟩ := (h2.x hX).out
      have e1 := c1 0
      have e2 := c2 0
      cases hs : sameD (nth l k) r p
      all_goals
        go_wp2_with (go_at_call 155; refine (sameDir_c (nth l k) (.slice ba bn bc) r p rb pb _ e1 e2 l1 l2).mono ?_; rintro _ w3 ⟨rfl, hx3⟩; rw [hs])
      · go_roundw
        case rel => exact ⟨k + 1, by omega, by go_num, anyN_next hno hs, hX.trans hx3⟩
        case measure => simp [intOf]; omega
      · go_ret
        exact ⟨ret_int (firstN_some (p := fun k => sameD (nth l k) r p) hno hs hlt).symm, hX.trans hx3⟩
    · obtain rfl : k = m := by omega
      go_wp2
      go_ret
      exact ⟨ret_int (firstN_none (p := fun k => sameD (nth l k) r p) hno).symm, hX⟩
set_option maxRecDepth 100000 in
set_option maxHeartbeats 1000000 in
theorem dirAt_i (l : List Di) (a : Option Addr) (n m c B : Nat) (r : Int) (p : List UInt8) (w : World) (hD : DirsAt w B a n l) (hm : m ≤ n) :
    Calls Tryz.prog 105 #[.slice a m c, .int .i64 r, .string ⟨(p).toArray⟩] w fun e w' => e = .returned (.int .i64 (didx l r p m)) ∧ X w w' := by
  go_enter Tryz.func105, Tryz.ntmps105
  go_wp2_with fail
  refine calls_name (fun W hW => ?_)
  obtain ⟨h1, h2, hX0⟩ := bx2 hW
  clear hW
  refine (IndexFunc_c l a n m c B r p _ _ W (hD.mono (hX0.fr _)) hm h1 h2).mono ?_
  rintro _ w2 ⟨rfl, hx2⟩
  go_wp2
  go_ret
  exact ⟨rfl, hX0.trans hx2⟩

set_option maxRecDepth 100000 in
set_option maxHeartbeats 2000000 in
theorem dirsOk_c (l : List Di) (a : Option Addr) (n c B : Nat) (st nm : Int) (w : World) (hD : DirsAt w B a n l) (hnc : n ≤ c) (hG : Gm w) :
    Calls Tryz.prog 82 #[.slice a n c, .int .i64 st, .int .i64 nm] w fun e w' => e = .returned (.bool (dirsB l st nm)) ∧ X w w' := by
  obtain ⟨hl, hn⟩ := hD.len
  have Hl := Lib.hid hl
  clear hl
  go_enter Tryz.func82, Tryz.ntmps82
  go_wp2
  go_loopw [11] (fun i wr => ∃ k : Nat, k ≤ n ∧ i = .int .i64 k ∧ allN (dirB l st nm) k = true ∧ X w wr) (fun i _ => n - (intOf i).toNat)
  case atStart => exact ⟨0, by omega, rfl, rfl, X.refl _⟩
  case round =>
    obtain ⟨k, hk, rfl, hall, hX⟩ := hrel
    by_cases hlt : k < n
    · obtain ⟨b, off, ba, bn, bc, rfl, _, hb, hpk, _, hS, g0, g1, g2, g3⟩ := (hD.mono (hX.fr _)).at_ (k := k) hlt
      have hbn := hS.1
      have hbl := hS.2.1
      have hG1 := hG.mono hX
      have hD1 := hD.mono (hX.fr _)
      have Hno := Lib.hid (show dirB l st nm k = false → dirsB l st nm = false from fun h1 => by
        unfold dirsB; rw [allN_not (k := k) h1 (by rw [← Hl.out]; exact hlt)]; rfl)
      have Hd := Lib.hid (show dirB l st nm k = (rangeB (nth l k).root 0 2 && pkgB (nth l k).pkg && rangeB (nth l k).stamp 0 st && decide ((bn : Int) ≤ nm) && !decide (0 ≤ didx l (nth l k).root (nth l k).pkg k)) by
        unfold dirB
        rw [hbn]
        congr 2
        rw [Bool.eq_iff_iff]
        simp only [decide_eq_true_eq]
        exact (Iff.of_eq firstN_nonneg).symm)
      clear hbn
      go_wp2
      refine wp_name (fun W hW => ?_)
      have hB : Bx W wr.heap.size #[.int .i64 (nth l k).root, .string ⟨((nth l k).pkg).toArray⟩, .int .i64 (nth l k).stamp, .slice ba bn bc] := by rw [hW]; first | exact Bx.new _ _ _ | exact Bx.set (Bx.set (Bx.set (Bx.set (Bx.new _ _ _) 0 _) 1 _) 2 _) 3 _
      have hXW : X wr W := by rw [hW]; (repeat (first | with_reducible exact X.refl _ | with_reducible assumption | with_reducible refine X.setCell ?_ (by first | (simp; done) | (simp; omega)) _ | with_reducible refine X.ext ?_ _ | with_reducible refine X.alloc ?_ _ | with_reducible refine X.drew ?_))
      clear hW
      obtain ⟨lb, cb, _⟩ := hB.out
      have e0 := cb 0
      have e1 := cb 1
      have e2 := cb 2
      have e3 := cb 3
      clear cb
      have hG2 := hG1.mono hXW
      have hD2 := hD1.mono (hXW.fr _)
      have hXw := hX.trans hXW
      have hk1 : (k : Int) < (n : Int) := by omega
      have hkc : k ≤ c := by omega
      cases q1 : rangeB (nth l k).root 0 2
      · refine wp_region_grow0 (by kernel_rfl) (by kernel_rfl) ?_
        repeat (go_big_quiet_step (((first
          | (go_at_call 80; refine grow_same (within_c _ _ _ _))
          | (go_at_call 78; refine grow_of (packageOk_c (nth l k).pkg _ (by omega) (hG2.mono (by (repeat (first | exact X.refl _ | assumption | refine X.ext ?_ _ | refine X.alloc ?_ _ | refine X.drew ?_))))))
          | (go_at_call 105; refine grow_of (dirAt_i l _ n k c B (nth l k).root (nth l k).pkg _ (hD2.mono (X.fr (by (repeat (first | exact X.refl _ | assumption | refine X.ext ?_ _ | refine X.alloc ?_ _ | refine X.drew ?_))) _)) (by omega)))))))
        refine wpQuiet_nil ?_
        rintro _ ⟨y, rfl⟩
        go_wp2
        go_ret
        exact ⟨ret_bool (Hno.out (by rw [Hd.out]; simp [*])).symm, hXw.trans (by (repeat (first | exact X.refl _ | assumption | refine X.ext ?_ _ | refine X.alloc ?_ _ | refine X.drew ?_)))⟩
      cases q2 : pkgB (nth l k).pkg
      · refine wp_region_grow0 (by kernel_rfl) (by kernel_rfl) ?_
        repeat (go_big_quiet_step (((first
          | (go_at_call 80; refine grow_same (within_c _ _ _ _))
          | (go_at_call 78; refine grow_of (packageOk_c (nth l k).pkg _ (by omega) (hG2.mono (by (repeat (first | exact X.refl _ | assumption | refine X.ext ?_ _ | refine X.alloc ?_ _ | refine X.drew ?_))))))
          | (go_at_call 105; refine grow_of (dirAt_i l _ n k c B (nth l k).root (nth l k).pkg _ (hD2.mono (X.fr (by (repeat (first | exact X.refl _ | assumption | refine X.ext ?_ _ | refine X.alloc ?_ _ | refine X.drew ?_))) _)) (by omega)))))))
        refine wpQuiet_nil ?_
        rintro _ ⟨y, rfl⟩
        go_wp2
        go_ret
        exact ⟨ret_bool (Hno.out (by rw [Hd.out]; simp [*])).symm, hXw.trans (by (repeat (first | exact X.refl _ | assumption | refine X.ext ?_ _ | refine X.alloc ?_ _ | refine X.drew ?_)))⟩
      cases q3 : rangeB (nth l k).stamp 0 st
      · refine wp_region_grow0 (by kernel_rfl) (by kernel_rfl) ?_
        repeat (go_big_quiet_step (((first
          | (go_at_call 80; refine grow_same (within_c _ _ _ _))
          | (go_at_call 78; refine grow_of (packageOk_c (nth l k).pkg _ (by omega) (hG2.mono (by (repeat (first | exact X.refl _ | assumption | refine X.ext ?_ _ | refine X.alloc ?_ _ | refine X.drew ?_))))))
          | (go_at_call 105; refine grow_of (dirAt_i l _ n k c B (nth l k).root (nth l k).pkg _ (hD2.mono (X.fr (by (repeat (first | exact X.refl _ | assumption | refine X.ext ?_ _ | refine X.alloc ?_ _ | refine X.drew ?_))) _)) (by omega)))))))
        refine wpQuiet_nil ?_
        rintro _ ⟨y, rfl⟩
        go_wp2
        go_ret
        exact ⟨ret_bool (Hno.out (by rw [Hd.out]; simp [*])).symm, hXw.trans (by (repeat (first | exact X.refl _ | assumption | refine X.ext ?_ _ | refine X.alloc ?_ _ | refine X.drew ?_)))⟩
      by_cases q4 : nm < (bn : Int)
      · have q4' : decide ((bn : Int) ≤ nm) = false := by rw [decide_eq_false_iff_not]; omega
        refine wp_region_grow0 (by kernel_rfl) (by kernel_rfl) ?_
        repeat (go_big_quiet_step (((first
          | (go_at_call 80; refine grow_same (within_c _ _ _ _))
          | (go_at_call 78; refine grow_of (packageOk_c (nth l k).pkg _ (by omega) (hG2.mono (by (repeat (first | exact X.refl _ | assumption | refine X.ext ?_ _ | refine X.alloc ?_ _ | refine X.drew ?_))))))
          | (go_at_call 105; refine grow_of (dirAt_i l _ n k c B (nth l k).root (nth l k).pkg _ (hD2.mono (X.fr (by (repeat (first | exact X.refl _ | assumption | refine X.ext ?_ _ | refine X.alloc ?_ _ | refine X.drew ?_))) _)) (by omega)))))))
        refine wpQuiet_nil ?_
        rintro _ ⟨y, rfl⟩
        go_wp2
        go_ret
        exact ⟨ret_bool (Hno.out (by rw [Hd.out]; simp [*])).symm, hXw.trans (by (repeat (first | exact X.refl _ | assumption | refine X.ext ?_ _ | refine X.alloc ?_ _ | refine X.drew ?_)))⟩
      have q4' : decide ((bn : Int) ≤ nm) = true := by rw [decide_eq_true_iff]; omega
      have q4b : decide (nm < (bn : Int)) = false := by rw [decide_eq_false_iff_not]; omega
      by_cases q5 : (0 : Int) ≤ didx l (nth l k).root (nth l k).pkg k
      · refine wp_region_grow0 (by kernel_rfl) (by kernel_rfl) ?_
        repeat (go_big_quiet_step (((first
          | (go_at_call 80; refine grow_same (within_c _ _ _ _))
          | (go_at_call 78; refine grow_of (packageOk_c (nth l k).pkg _ (by omega) (hG2.mono (by (repeat (first | exact X.refl _ | assumption | refine X.ext ?_ _ | refine X.alloc ?_ _ | refine X.drew ?_))))))
          | (go_at_call 105; refine grow_of (dirAt_i l _ n k c B (nth l k).root (nth l k).pkg _ (hD2.mono (X.fr (by (repeat (first | exact X.refl _ | assumption | refine X.ext ?_ _ | refine X.alloc ?_ _ | refine X.drew ?_))) _)) (by omega)))))))
        refine wpQuiet_nil ?_
        rintro _ ⟨y, rfl⟩
        go_wp2
        go_ret
        exact ⟨ret_bool (Hno.out (by rw [Hd.out]; simp [*])).symm, hXw.trans (by (repeat (first | exact X.refl _ | assumption | refine X.ext ?_ _ | refine X.alloc ?_ _ | refine X.drew ?_)))⟩
      refine wp_region_grow0 (by kernel_rfl) (by kernel_rfl) ?_
      repeat (go_big_quiet_step (((first
        | (go_at_call 80; refine grow_same (within_c _ _ _ _))
        | (go_at_call 78; refine grow_of (packageOk_c (nth l k).pkg _ (by omega) (hG2.mono (by (repeat (first | exact X.refl _ | assumption | refine X.ext ?_ _ | refine X.alloc ?_ _ | refine X.drew ?_))))))
        | (go_at_call 105; refine grow_of (dirAt_i l _ n k c B (nth l k).root (nth l k).pkg _ (hD2.mono (X.fr (by (repeat (first | exact X.refl _ | assumption | refine X.ext ?_ _ | refine X.alloc ?_ _ | refine X.drew ?_))) _)) (by omega)))))))
      refine wpQuiet_nil ?_
      rintro _ ⟨y, rfl⟩
      go_wp2
      go_roundw
      case rel => exact ⟨k + 1, by omega, by go_num, allN_next hall (by rw [Hd.out]; simp [*]), hXw.trans (by (repeat (first | exact X.refl _ | assumption | refine X.ext ?_ _ | refine X.alloc ?_ _ | refine X.drew ?_)))⟩
      case measure => simp [intOf]; omega
    · obtain rfl : k = n := by omega
      go_wp2
      go_ret
      exact ⟨ret_bool (by rw [dirsB, ← Hl.out, hall, Bool.true_and]; exact decide_eq_decide.2 (by omega)), hX⟩

set_option maxRecDepth 100000 in
set_option maxHeartbeats 2000000 in
theorem ValidDisk_i (l : List Fi) (a : Option Addr) (n c : Nat) (kk : Int) (dl : List Di) (da : Option Addr) (dn dc B : Nat) (w : World) (hF : FilesAt w B a n l) (hnc : n ≤ c) (hD : DirsAt w B da dn dl) (hdc : dn ≤ dc) (hG : Gm w) :
    Calls Tryz.prog 32 #[.agg #[.slice a n c, .int .i64 kk, .slice da dn dc]] w fun e w' => e = .returned (.bool (diskB l kk dl)) ∧ X w w' := by
  cases h1 : treeB l <;> cases h2 : rangeB kk 0 200
  all_goals
    go_enter Tryz.func32, Tryz.ntmps32
    go_wp2_with fail
    refine calls_name (fun W0 hW0 => ?_)
    have hB0 : Bx W0 w.heap.size #[.slice a n c, .int .i64 kk, .slice da dn dc] := by rw [hW0]; exact Bx.new _ _ _
    have hX0 : X w W0 := by rw [hW0]; (repeat (first | with_reducible exact X.refl _ | with_reducible assumption | with_reducible refine X.setCell ?_ (by first | (simp; done) | (simp; omega)) _ | with_reducible refine X.ext ?_ _ | with_reducible refine X.alloc ?_ _ | with_reducible refine X.drew ?_))
    clear hW0
    refine (ValidTree_c l a n c B W0 (hF.mono (hX0.fr _)) hnc (hG.mono hX0)).mono ?_
    rintro _ w1 ⟨rfl, hx1⟩
    rw [h1]
    have b1 := (hx1.cell (p := ⟨w.heap.size, 1, none⟩) hB0.lt).trans (hB0.out.2.1 1)
    have b2 := (hx1.cell (p := ⟨w.heap.size, 2, none⟩) hB0.lt).trans (hB0.out.2.1 2)
    have hXw := hX0.trans hx1
    go_wp2_with (first | (go_at_call 80; refine (within_c kk 0 200 _).mono ?_; rintro _ _ ⟨rfl, rfl⟩; rw [h2]) | (go_at_call 82; refine (dirsOk_c dl da dn dc B kk 0 _ (hD.mono (hXw.fr _)) hdc (hG.mono hXw)).mono ?_; rintro _ w3 ⟨rfl, hx3⟩; replace hXw := hXw.trans hx3))
    all_goals go_ret
    all_goals exact ⟨ret_bool (by simp [diskB, h1, h2]), hXw⟩

/-- The stamp that is told. -/
def stampB (l : List Fi) (kk : Int) (dl : List Di) (r : Int) (p : List UInt8) : Int :=
  if diskB l kk dl && rangeB r 0 2 && pkgB p then (if didx dl r p dl.length < 0 then 0 else (nth dl (didx dl r p dl.length).toNat).stamp) else -1
end Go.Proofs.YtgjfjjhmgbemcaaGreatDoor

namespace Go.Proofs.YtgjfjjhmgbemcaaGreatDoor
open Go.RowKit

def didxL (dl : List Di) (r : Int) (p : List UInt8) : Int := didx dl r p dl.length
/-- One directory stamped; it is there afterwards. -/
def stD (dl : List Di) (r : Int) (p : List UInt8) (st : Int) : List Di :=
  if didxL dl r p < 0 then dl ++ [⟨r, p, st, []⟩] else dl.set (didxL dl r p).toNat { nth dl (didxL dl r p).toNat with stamp := st }
def stampsL (dl : List Di) (r : Int) (ps : List (List UInt8)) (st : Int) : List Di := ps.foldl (fun dl p => stD dl r p st) dl
def pathsL (p : List UInt8) : List (List UInt8) := [] :: aboveP p
def lookD (dl : List Di) (r : Int) (p : List UInt8) : Int := if didxL dl r p < 0 then 0 else (nth dl (didxL dl r p).toNat).stamp
theorem didxL_cases (dl : List Di) (r : Int) (p : List UInt8) : (didxL dl r p = -1 ∧ ∀ k, k < dl.length → sameD (nth dl k) r p = false) ∨ ∃ k : Nat, k < dl.length ∧ didxL dl r p = (k : Int) ∧ sameD (nth dl k) r p = true ∧ ∀ j, j < k → sameD (nth dl j) r p = false := by
  unfold didxL didx
  rcases firstN_cases (fun k => sameD (nth dl k) r p) dl.length with ⟨h1, h2⟩ | ⟨k, hk, h1, h2, h3⟩
  · exact .inl ⟨h2, fun k hk => anyN_false.1 h1 k hk⟩
  · exact .inr ⟨k, hk, h3, h1, fun j hj => anyN_false.1 h2 j hj⟩
theorem stD_len (dl : List Di) (r : Int) (p : List UInt8) (st : Int) : (stD dl r p st).length ≤ dl.length + 1 := by
  unfold stD
  split
  · simp
  · rw [List.length_set]; omega
end Go.Proofs.YtgjfjjhmgbemcaaGreatDoor

namespace Go.Proofs.YtgjfjjhmgbemcaaGreatDoor
open Go.RowKit

/-- The directories after a change of a package, and whether the disk is valid then. -/
def chD (dl : List Di) (r : Int) (p : List UInt8) (st : Int) : List Di := stampsL dl r (pathsL p) st
def chB (l' : List Fi) (kk : Int) (dl : List Di) (r : Int) (p : List UInt8) (ticks : Int) : Bool := rangeB ticks 0 200 && diskB l' (kk + ticks) (chD dl r p (kk + ticks))
def touchB (r : Int) (p : List UInt8) (r' : Int) (q : List UInt8) : Bool := r' == r && (q == [] || (p != [] && isUnder p q))
theorem chB_disk {l' : List Fi} {kk ticks r : Int} {dl : List Di} {p : List UInt8} (h : chB l' kk dl r p ticks = true) : diskB l' (kk + ticks) (chD dl r p (kk + ticks)) = true := by
  unfold chB at h
  exact (Bool.and_eq_true _ _ ▸ h).2
end Go.Proofs.YtgjfjjhmgbemcaaGreatDoor

namespace Go.Proofs.YtgjfjjhmgbemcaaGreatDoor
open Go.RowKit

theorem x_ownA {w W w' : World} {B e size n : Nat} {v : Value} {xs : List Value} (hX : X w W) (h : W.ownsRow B e size v n xs) (hB : w.heap.size ≤ B) (hg : W.grownBy w' v.ownBlock) : X w w' :=
  X.of_below (hX.below.grown hg hX.size (fun g hg => by have := (h.lt g hg).1; omega))
theorem join_joinL (l : List (List UInt8)) : Lib.join l [46] = joinL l := by
  cases l with
  | nil => rfl
  | cons p r =>
    rw [Lib.join_cons, joinL]
    have h : ∀ (r : List (List UInt8)) (a : List UInt8), r.foldl (fun a q => a ++ 46 :: q) a = a ++ Lib.joinTail [46] r := fun r => by
      induction r with
      | nil => intro a; simp [Lib.joinTail]
      | cons q r ih =>
        intro a
        rw [List.foldl_cons, ih]
        simp [Lib.joinTail, List.append_assoc]
    exact (h r p).symm
theorem Join_c (l : List (List UInt8)) (a : Option Addr) (n m c B : Nat) (w : World) (hS : StrsAt w B a n l) (h0 : 0 < m) (hm : m ≤ n) (hmc : m ≤ c) (hp : ∀ p ∈ l, partB p = true) (hl : l.length ≤ 3) :
    Calls Tryz.prog 128 #[.slice a m c, .string ⟨#[46]⟩] w fun e w' => e = .returned (.string ⟨(joinL (l.take m)).toArray⟩) ∧ X w w' := by
  have hn := hS.1
  obtain ⟨b, off, rfl, _, hb, _, _⟩ := hS.at_ (k := 0) (by omega)
  have hmap : ((l.take m).map fun p => ByteArray.mk p.toArray).map (·.data.toList) = l.take m := by
    rw [List.map_map]
    have : ((fun x : ByteArray => x.data.toList) ∘ fun p : List UInt8 => ByteArray.mk p.toArray) = id := rfl
    rw [this, List.map_id]
  have hlen : ((l.take m).map fun p => ByteArray.mk p.toArray).length = m := by rw [List.length_map, List.length_take]; omega
  have hj := joinL_len (l := l.take m) (fun p h => hp p (List.mem_of_mem_take h))
  have h := Tryz.strings_Join b off c ((l.take m).map fun p => ByteArray.mk p.toArray) ⟨#[46]⟩ w (fun j x hx => by
      have hj : j < m := by
        have := (List.getElem?_eq_some_iff.1 hx).1
        omega
      obtain ⟨b', off', ha, _, _, hc, _⟩ := hS.at_ (k := j) (by omega)
      injection ha with ha
      injection ha with e1 e2
      subst e1 e2
      rw [hc]
      rw [List.getElem?_map, List.getElem?_take, if_pos hj, nth_get? (by omega)] at hx
      simpa using hx) hb (by omega) (by omega) (by
      rw [hmap]
      show (Lib.join (l.take m) [46]).length ≤ _
      rw [join_joinL]
      rw [List.length_take] at hj
      omega)
  rw [hlen, hmap] at h
  refine h.mono ?_
  rintro _ w' ⟨rfl, hb'⟩
  exact ⟨by rw [show Lib.join (l.take m) (ByteArray.mk #[46]).data.toList = joinL (l.take m) from join_joinL _], X.of_below hb'⟩

set_option maxRecDepth 100000 in
set_option maxHeartbeats 1000000 in
theorem NamesAbove_c (s : List UInt8) (w : World) (hs : nameB s = true) (hG : Gm w) : Calls Tryz.prog 75 #[.string ⟨(s).toArray⟩] w fun e w' =>
    ∃ a c, e = .returned (.slice a (splitL 46 s).length c) ∧ w'.ownsRow w.heap.size 9 1 (.slice a (splitL 46 s).length c) (splitL 46 s).length (strs (aboveL s (splitL 46 s).length)) ∧ X w w' := by
  have htn := (nameB_iff.1 hs).2
  have hparts := (nameB_iff.1 hs).1
  go_enter Tryz.func75, Tryz.ntmps75
  go_wp2_with fail
  refine calls_name (fun W hW => ?_)
  obtain ⟨x0, rfl, hrow0⟩ := own_new (size := 1) (n := 0) hW rfl (by omega)
  clear hW
  refine (PartsOf_c s _ hs (hG.mono (by (repeat (first | exact X.refl _ | assumption | refine X.ext ?_ _ | refine X.alloc ?_ _ | refine X.drew ?_))))).mono ?_
  rintro _ _ ⟨ta, tc, rfl, hown, hx⟩
  clear hown
  replace hrow0 := own_fr hrow0 (hx.fr _)
  obtain ⟨x1, rfl⟩ := hx.of_ext
  clear hx
  have Hpf := Lib.hid (fun k => show joinL ((splitL 46 s).take k) = pfx s k from rfl)
  generalize hn : (splitL 46 s).length = tn at *
  have Hn := Lib.hid hn
  clear hn
  go_wp2
  go_loopw [3, 9] (fun v i wr => ∃ (k : Nat) (ra : Option Addr) (rc : Nat) (z : Xt), k ≤ tn ∧ i = .int .i64 k ∧ v = .slice ra k rc ∧ wr = World.ext w z ∧ (World.ext w z).ownsRow w.heap.size 9 1 (.slice ra k rc) k (strs (aboveL s k))) (fun _ i _ => tn - (intOf i).toNat)
  case atStart => exact ⟨0, _, _, x1, by omega, rfl, rfl, rfl, hrow0⟩
  case round =>
    obtain ⟨k, ra, rc, z, hk, rfl, rfl, rfl, hrow⟩ := hrel
    by_cases hlt : k < tn
    · have He := Lib.hid (@aboveL_next s k)
      have q1 : IntKind.i64.wrap ((k : Int) + 1) = (k : Int) + 1 := IntWalk.i64_in _ (by omega)
      have q2 : (0 : Int) ≤ (k : Int) + 1 := by omega
      have q3 : ((k : Int) + 1).toNat = k + 1 := by omega
      go_wp2_with fail
      refine (PartsOf_c s _ hs (hG.mono (by (repeat (first | exact X.refl _ | assumption | refine X.ext ?_ _ | refine X.alloc ?_ _ | refine X.drew ?_))))).mono ?_
      rintro _ _ ⟨ta, tc, rfl, hown, hx⟩
      rw [Hn.out] at hown ⊢
      have htc := own_cap hown
      have hS := StrsAt.of_own (l := splitL 46 s) (by rw [Hn.out]; exact hown) (by rw [Hn.out]; omega) (fun p hp => by have := (partB_len (hparts p hp)).2; omega)
      rw [Hn.out] at hS
      replace hrow := own_fr hrow (hx.fr _)
      obtain ⟨z, rfl⟩ := hx.of_ext
      clear hx hown
      have q4 : (k : Int) + 1 ≤ (tc : Int) := by omega
      have hpk : ¬ tc = 0 := by omega
      go_wp2_with (first
        | (go_at_call 128; (try rw [if_neg hpk]); refine (Join_c (splitL 46 s) _ _ (k + 1) _ _ _ hS (by omega) (by omega) (by omega) hparts (by rw [Hn.out]; omega)).mono ?_; rintro _ _ ⟨rfl, hx⟩; rw [Hpf.out (k + 1)]; replace hrow := own_fr hrow (hx.fr _); obtain ⟨z, rfl⟩ := hx.of_ext)
        | (at_builtin; refine wpList_append_lit str_T rfl _ _ rfl hrow rfl rfl rfl ?_ ?_ ?_ ?_))
      · simp [Value.oneCell']
      · omega
      · omega
      intro a' c' z' hrow'
      go_wp2
      go_roundw
      case rel => exact ⟨k + 1, a', c', z', by omega, by go_num, rfl, rfl, by rw [He.out]; simpa [flat_snoc] using hrow'⟩
      case measure => simp [intOf]; omega
    · obtain rfl : k = tn := by omega
      go_wp2
      go_ret
      exact ⟨ra, rc, by rw [Hn.out]; rfl, by rw [Hn.out]; exact hrow, by (repeat (first | exact X.refl _ | assumption | refine X.ext ?_ _ | refine X.alloc ?_ _ | refine X.drew ?_))⟩


set_option maxHeartbeats 400000 in
theorem PartsOf_n (s : List UInt8) (w : World) (hl : s.length ≤ 4194304) (hs : nameB s = false) (hG : Gm w) : Calls Tryz.prog 127 #[.string ⟨(s).toArray⟩] w fun e w' => ∃ a, e = .returned (.slice a 0 0) ∧ X w w' := by
  go_enter Tryz.func127, Tryz.ntmps127
  go_wp2_with (go_at_call 77; refine (ValidName_c _ _ hl hG).mono ?_; rintro _ _ ⟨rfl, x, rfl⟩; rw [hs])
  go_ret
  exact ⟨_, rfl, by (repeat (first | exact X.refl _ | assumption | refine X.ext ?_ _ | refine X.alloc ?_ _ | refine X.drew ?_))⟩
set_option maxRecDepth 100000 in
set_option maxHeartbeats 1000000 in
theorem NamesAbove_p (s : List UInt8) (w : World) (hl : s.length ≤ 4194304) (hG : Gm w) : Calls Tryz.prog 75 #[.string ⟨(s).toArray⟩] w fun e w' =>
    ∃ a c, e = .returned (.slice a (aboveP s).length c) ∧ w'.ownsRow w.heap.size 9 1 (.slice a (aboveP s).length c) (aboveP s).length (strs (aboveP s)) ∧ X w w' := by
  cases hs : nameB s
  · rw [show aboveP s = [] by rw [aboveP, hs]; rfl]
    go_enter Tryz.func75, Tryz.ntmps75
    go_wp2_with fail
    refine calls_name (fun W hW => ?_)
    have hrow0 : W.ownsRow w.heap.size 9 1 (.slice (some ⟨w.heap.size, 0, none⟩) 0 0) 0 [] := by rw [hW]; exact own_lit (n := 0) (size := 1) rfl (Nat.le_refl _) rfl (by omega)
    have hX0 : X w W := by rw [hW]; (repeat (first | with_reducible exact X.refl _ | with_reducible assumption | with_reducible refine X.setCell ?_ (by first | (simp; done) | (simp; omega)) _ | with_reducible refine X.ext ?_ _ | with_reducible refine X.alloc ?_ _ | with_reducible refine X.drew ?_))
    clear hW
    refine (PartsOf_n s W hl hs (hG.mono hX0)).mono ?_
    rintro _ w1 ⟨ta, rfl, hx1⟩
    replace hrow0 := own_fr hrow0 (hx1.fr _)
    go_wp2
    go_loopw [3, 9] (fun v i wr => i = .int .i64 0 ∧ v = .slice (some ⟨w.heap.size, 0, none⟩) 0 0 ∧ wr = w1) (fun _ _ _ => 0)
    case atStart => exact ⟨rfl, rfl, rfl⟩
    case round =>
      obtain ⟨rfl, rfl, rfl⟩ := hrel
      go_wp2
      go_ret
      exact ⟨_, _, rfl, hrow0, hX0.trans hx1⟩
  · have e : aboveP s = aboveL s (splitL 46 s).length := by rw [aboveP, hs]; rfl
    have e2 : (aboveP s).length = (splitL 46 s).length := by rw [e, aboveL_len]
    rw [e2, e]
    exact NamesAbove_c s w hs hG
set_option maxRecDepth 100000 in
set_option maxHeartbeats 1000000 in
theorem above_s (s : List UInt8) (w : World) (hs : nameB s = true) : Calls Tryz.prog 151 #[.string ⟨(s).toArray⟩] w fun e w' =>
    ∃ a c, e = .returned (.slice a (aboveP s).length c) ∧ w'.ownsRow w.heap.size 9 1 (.slice a (aboveP s).length c) (aboveP s).length (strs (aboveP s)) ∧ X w w' := by
  have e : aboveP s = aboveL s (splitL 46 s).length := by rw [aboveP, hs]; rfl
  have e2 : (aboveP s).length = (splitL 46 s).length := by rw [e, aboveL_len]
  rw [e2, e]
  clear e e2
  have hsl := nameB_len hs
  have htn := (nameB_iff.1 hs).2
  have hparts := (nameB_iff.1 hs).1
  go_enter Tryz.func151, Tryz.ntmps151
  go_wp2_with fail
  refine (splitAt_c s 46 w (by omega)).mono ?_
  rintro _ w1 ⟨ta, tc, rfl, hown, hx1⟩
  have htc := own_cap hown
  have hS := StrsAt.of_own hown (by omega) (fun p hp => by have := (partB_len (hparts p hp)).2; omega)
  clear hown
  have Hj := fun (W : World) (h : X w1 W) (m : Nat) (hm : m ≤ (splitL 46 s).length) => Lib.hid (join_p s ta _ m tc _ W (hS.mono (h.fr _)) hs hm)
  generalize hn : (splitL 46 s).length = tn at *
  have Hn := Lib.hid hn
  clear hn
  have hPL := fun k => pfx_len hs k
  go_wp2
  go_loopw [4, 5] (fun v i wr => ∃ (k : Nat) (ra : Option Addr) (rc : Nat), k ≤ tn ∧ i = .int .i64 (k + 1) ∧ v = .slice ra k rc ∧ wr.ownsRow w1.heap.size 9 1 (.slice ra k rc) k (strs (aboveL s k)) ∧ X w1 wr) (fun _ i _ => tn + 1 - (intOf i).toNat)
  case atStart => exact ⟨0, _, _, by omega, rfl, rfl, own_lit (n := 0) (size := 1) rfl (Nat.le_refl _) rfl (by omega), by (repeat (first | with_reducible exact X.refl _ | with_reducible assumption | with_reducible refine X.setCell ?_ (by first | (simp; done) | (simp; omega)) _ | with_reducible refine X.ext ?_ _ | with_reducible refine X.alloc ?_ _ | with_reducible refine X.drew ?_))⟩
  case round =>
    obtain ⟨k, ra, rc, hk, rfl, rfl, hrow, hX⟩ := hrel
    by_cases hlt : k < tn
    · have He := Lib.hid (@aboveL_next s k)
      have hz := hX.size
      have hz1 := hx1.size
      go_wp2_with fail
      refine ((Hj wr hX (k + 1) (by omega)).out).mono ?_
      rintro _ _ ⟨rfl, rfl⟩
      go_wp2_with (at_builtin; refine wpList_append_g str_T rfl _ _ rfl hrow rfl rfl rfl rfl (by simp [Value.oneCell']) (by omega) (by omega) (by omega) ?_; intro a' c' w6 hO6 hg6)
      go_roundw
      case rel => exact ⟨k + 1, a', c', by omega, by go_num, rfl, by rw [He.out]; simpa [flat_snoc] using hO6, x_ownA (X.alloc hX _) (hrow.alloc _) (Nat.le_refl _) hg6⟩
      case measure => simp [intOf]; omega
    · obtain rfl : k = tn := by omega
      go_wp2
      go_ret
      exact ⟨ra, rc, by rw [Hn.out]; rfl, by rw [Hn.out]; exact own_less hrow hx1.size, hx1.trans hX⟩

end Go.Proofs.YtgjfjjhmgbemcaaGreatDoor
