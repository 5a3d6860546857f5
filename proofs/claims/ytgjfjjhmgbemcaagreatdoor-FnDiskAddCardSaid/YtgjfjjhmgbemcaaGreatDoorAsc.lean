/- Ascending lists of texts: insertion, sorting, each once. Plain, no program in sight. No condition. -/
import Derived.Test.YtgjfjjhmgbemcaaGreatDoorIa
import Derived.Lib.SlicesCompact
import Derived.Sort.Walk0
namespace Go.Proofs.YtgjfjjhmgbemcaaGreatDoor
open Go.RowKit

def gtS (a b : List UInt8) : Bool := !(Op.bytesLess a b || a == b)
theorem bl_tri (a b : List UInt8) : a < b ∨ a = b ∨ b < a := by
  rcases List.le_total a b with h | h
  · rcases (List.le_iff_lt_or_eq).1 h with h | h
    · exact .inl h
    · exact .inr (.inl h)
  · rcases (List.le_iff_lt_or_eq).1 h with h | h
    · exact .inr (.inr h)
    · exact .inr (.inl h.symm)
theorem gtS_iff {a b : List UInt8} : gtS a b = true ↔ b < a := by
  unfold gtS
  rw [bytesLess_eq]
  rcases bl_tri a b with h | h | h
  · have h2 : ¬ b < a := List.lt_asymm h
    simp [h, h2]
  · subst h; simp
  · have h2 : ¬ a < b := List.lt_asymm h
    have h3 : ¬ a = b := fun e => by subst e; exact List.lt_irrefl _ h
    simp [h, h2, h3]
theorem gtS_false {a b : List UInt8} : gtS a b = false ↔ a ≤ b := by
  rw [Bool.eq_false_iff, Ne, gtS_iff, List.not_lt]
/-- Ascending, each once. -/
def asc (l : List (List UInt8)) : Prop := l.Pairwise (· < ·)
theorem asc_nil : asc [] := List.Pairwise.nil
theorem asc_ext : ∀ {l m : List (List UInt8)}, asc l → asc m → (∀ x, x ∈ l ↔ x ∈ m) → l = m
  | [], [], _, _, _ => rfl
  | [], b :: m, _, _, h => by have := (h b).2 (by simp); simp at this
  | a :: l, [], _, _, h => by have := (h a).1 (by simp); simp at this
  | a :: l, b :: m, hl, hm, h => by
    obtain ⟨h1, h2⟩ := List.pairwise_cons.1 hl
    obtain ⟨h3, h4⟩ := List.pairwise_cons.1 hm
    have e : a = b := by
      rcases List.mem_cons.1 ((h a).1 (by simp)) with e | e
      · exact e
      · rcases List.mem_cons.1 ((h b).2 (by simp)) with e2 | e2
        · exact e2.symm
        · exact absurd (h3 a e) (List.lt_asymm (h1 b e2))
    subst e
    rw [asc_ext h2 h4 fun x => ?_]
    constructor
    · intro hx
      rcases List.mem_cons.1 ((h x).1 (List.mem_cons_of_mem _ hx)) with e | e
      · subst e; exact absurd (h1 x hx) (List.lt_irrefl _)
      · exact e
    · intro hx
      rcases List.mem_cons.1 ((h x).2 (List.mem_cons_of_mem _ hx)) with e | e
      · subst e; exact absurd (h3 x hx) (List.lt_irrefl _)
      · exact e

/-! ### Insertion -/
def posS (l : List (List UInt8)) (s : List UInt8) : Nat → Nat
  | 0 => 0
  | n + 1 => if gtS (nth l n) s then posS l s n else n + 1
theorem posS_le (l : List (List UInt8)) (s : List UInt8) : ∀ n, posS l s n ≤ n
  | 0 => Nat.le_refl _
  | n + 1 => by
    unfold posS
    split
    · exact Nat.le_succ_of_le (posS_le l s n)
    · exact Nat.le_refl _
theorem posS_gt (l : List (List UInt8)) (s : List UInt8) : ∀ n j, posS l s n ≤ j → j < n → gtS (nth l j) s = true
  | 0, j, _, hj => absurd hj (by omega)
  | n + 1, j, h, hj => by
    unfold posS at h
    split at h
    · rename_i hg
      rcases Nat.lt_succ_iff_lt_or_eq.1 hj with h2 | rfl
      · exact posS_gt l s n j h h2
      · exact hg
    · omega
theorem posS_le_at (l : List (List UInt8)) (s : List UInt8) : ∀ n, 0 < posS l s n → gtS (nth l (posS l s n - 1)) s = false
  | 0, h => absurd h (by simp [posS])
  | n + 1, h => by
    unfold posS at h ⊢
    split
    · rename_i hg
      rw [if_pos hg] at h
      exact posS_le_at l s n h
    · rename_i hg
      simpa using hg
def hasS (l : List (List UInt8)) (s : List UInt8) : Bool := anyN (fun k => nth l k == s) l.length
theorem hasS_iff {l : List (List UInt8)} {s : List UInt8} : hasS l s = true ↔ s ∈ l := by
  unfold hasS anyN
  rw [List.any_eq_true]
  constructor
  · rintro ⟨k, hk, h⟩
    have hk := List.mem_range.1 hk
    rw [beq_iff_eq] at h
    rw [← h]
    exact nth_mem hk
  · intro h
    obtain ⟨k, hk, rfl⟩ := List.getElem_of_mem h
    exact ⟨k, List.mem_range.2 hk, by rw [nth_eq hk]; simp⟩
def insS (l : List (List UInt8)) (s : List UInt8) : List (List UInt8) := if hasS l s then l else l.take (posS l s l.length) ++ s :: l.drop (posS l s l.length)
theorem mem_insS {l : List (List UInt8)} {s x : List UInt8} : x ∈ insS l s ↔ x ∈ l ∨ x = s := by
  unfold insS
  split
  · rename_i h
    constructor
    · exact .inl
    · rintro (h2 | rfl)
      · exact h2
      · exact hasS_iff.1 h
  · rw [List.mem_append, List.mem_cons]
    constructor
    · rintro (h | h | h)
      · exact .inl (List.mem_of_mem_take h)
      · exact .inr h
      · exact .inl (List.mem_of_mem_drop h)
    · rintro (h | h)
      · rw [← List.take_append_drop (posS l s l.length) l, List.mem_append] at h
        rcases h with h | h
        · exact .inl h
        · exact .inr (.inr h)
      · exact .inr (.inl h)
theorem insS_asc {l : List (List UInt8)} (h : asc l) (s : List UInt8) : asc (insS l s) := by
  unfold insS
  split
  · exact h
  · rename_i hs
    have hs : s ∉ l := fun e => hs (hasS_iff.2 e)
    generalize hp : posS l s l.length = p
    have hpl : p ≤ l.length := by rw [← hp]; exact posS_le _ _ _
    have hlt : ∀ x ∈ l.take p, x < s := by
      intro x hx
      obtain ⟨j, hj, rfl⟩ := List.getElem_of_mem hx
      rw [List.length_take, Nat.min_eq_left hpl] at hj
      rw [List.getElem_take]
      have hl : nth l (p - 1) ≤ s := by
        have := posS_le_at l s l.length (by omega)
        rw [hp] at this
        exact gtS_false.1 this
      have hne : l[j] ≠ s := fun e => hs (e ▸ List.getElem_mem _)
      have hle : l[j] ≤ s := by
        by_cases hj1 : j = p - 1
        · subst hj1
          rw [nth_eq (by omega)] at hl
          exact hl
        · have := List.pairwise_iff_getElem.1 h j (p - 1) (by omega) (by omega) (by omega)
          rw [nth_eq (by omega)] at hl
          exact List.le_trans (List.le_of_lt this) hl
      rcases List.le_iff_lt_or_eq.1 hle with h2 | h2
      · exact h2
      · exact absurd h2 hne
    have hgt : ∀ x ∈ l.drop p, s < x := by
      intro x hx
      obtain ⟨j, hj, rfl⟩ := List.getElem_of_mem hx
      rw [List.length_drop] at hj
      rw [List.getElem_drop]
      have := posS_gt l s l.length (p + j) (by omega) (by omega)
      rw [nth_eq (by omega)] at this
      exact gtS_iff.1 this
    refine List.pairwise_append.2 ⟨h.sublist (List.take_sublist _ _), List.pairwise_cons.2 ⟨hgt, h.sublist (List.drop_sublist _ _)⟩, fun x hx y hy => ?_⟩
    rcases List.mem_cons.1 hy with rfl | hy
    · exact hlt x hx
    · exact List.lt_trans (hlt x hx) (hgt y hy)
def insAll (l : List (List UInt8)) (xs : List (List UInt8)) : List (List UInt8) := xs.foldl insS l
theorem insAll_asc : ∀ {xs l : List (List UInt8)}, asc l → asc (insAll l xs)
  | [], _, h => h
  | y :: xs, l, h => by
    show asc (insAll (insS l y) xs)
    exact insAll_asc (insS_asc h y)
theorem mem_insAll {x : List UInt8} : ∀ {xs l : List (List UInt8)}, x ∈ insAll l xs ↔ x ∈ l ∨ x ∈ xs
  | [], l => by simp [insAll]
  | y :: xs, l => by
    show x ∈ insAll (insS l y) xs ↔ _
    rw [mem_insAll, mem_insS, List.mem_cons, or_assoc]

/-! ### Sorting, each once -/
def sortU (l : List (List UInt8)) : List (List UInt8) := Lib.compact (l.mergeSort fun x y => decide (x ≤ y))
theorem compactUpTo_asc {d : Array (List UInt8)} (h : ∀ i j, i < j → j < d.size → d[i]! ≤ d[j]!) : ∀ m, m ≤ d.size → asc (Lib.compactUpTo d m) ∧ ∀ x, x ∈ Lib.compactUpTo d m ↔ ∃ j, j < m ∧ d[j]! = x
  | 0, _ => ⟨by simpa [Lib.compactUpTo] using asc_nil, fun x => by simp [Lib.compactUpTo]⟩
  | m + 1, hm => by
    obtain ⟨h1, h2⟩ := compactUpTo_asc h m (by omega)
    rw [Lib.compactUpTo_succ]
    have hle : ∀ j, j < m → d[j]! ≤ d[m]! := fun j hj => h j m hj (by omega)
    split
    · rename_i hk
      constructor
      · refine List.pairwise_append.2 ⟨h1, List.pairwise_singleton _ _, fun x hx y hy => ?_⟩
        rw [List.mem_singleton.1 hy]
        obtain ⟨j, hj, rfl⟩ := (h2 x).1 hx
        have hm0 : 0 < m := by omega
        have hne : d[m]! ≠ d[m - 1]! := by
          intro e
          rw [Lib.keeps_neg hm0 e] at hk
          cases hk
        have hl1 : d[j]! ≤ d[m - 1]! := by
          rcases Nat.lt_or_ge j (m - 1) with h3 | h3
          · exact h j (m - 1) h3 (by omega)
          · rw [show j = m - 1 by omega]; exact List.le_refl _
        have hl2 : d[m - 1]! ≤ d[m]! := hle (m - 1) (by omega)
        rcases List.le_iff_lt_or_eq.1 hl2 with h3 | h3
        · rcases List.le_iff_lt_or_eq.1 hl1 with h4 | h4
          · exact List.lt_trans h4 h3
          · rw [h4]; exact h3
        · exact absurd h3.symm hne
      · intro x
        rw [List.mem_append, List.mem_singleton, h2]
        constructor
        · rintro (⟨j, hj, e⟩ | e)
          · exact ⟨j, by omega, e⟩
          · exact ⟨m, by omega, e.symm⟩
        · rintro ⟨j, hj, e⟩
          rcases Nat.lt_succ_iff_lt_or_eq.1 hj with h3 | rfl
          · exact .inl ⟨j, h3, e⟩
          · exact .inr e.symm
    · rename_i hk
      rw [List.append_nil]
      refine ⟨h1, fun x => ?_⟩
      rw [h2]
      have hm0 : m ≠ 0 := fun e => hk (by simp [Lib.keeps, e])
      have he : d[m]! = d[m - 1]! := by
        have := hk
        simp [Lib.keeps, hm0] at this
        exact this
      constructor
      · rintro ⟨j, hj, e⟩
        exact ⟨j, by omega, e⟩
      · rintro ⟨j, hj, e⟩
        rcases Nat.lt_succ_iff_lt_or_eq.1 hj with h3 | rfl
        · exact ⟨j, h3, e⟩
        · exact ⟨j - 1, by omega, he ▸ e⟩
theorem sort_pairwise (l : List (List UInt8)) : (l.mergeSort fun x y => decide (x ≤ y)).Pairwise (· ≤ ·) := by
  have := List.pairwise_mergeSort (le := fun x y : List UInt8 => decide (x ≤ y)) (fun a b c h1 h2 => by
    simp only [decide_eq_true_eq] at h1 h2 ⊢
    exact List.le_trans h1 h2) (fun a b => by
    simp only [Bool.or_eq_true, decide_eq_true_eq]
    exact List.le_total a b) l
  simpa using this
theorem sortU_facts (l : List (List UInt8)) : asc (sortU l) ∧ ∀ x, x ∈ sortU l ↔ x ∈ l := by
  unfold sortU Lib.compact
  have hp := sort_pairwise l
  have hperm := List.mergeSort_perm l fun x y => decide (x ≤ y)
  generalize (l.mergeSort fun x y => decide (x ≤ y)) = m at hp hperm
  obtain ⟨h1, h2⟩ := compactUpTo_asc (d := m.toArray) (fun i j hij hj => by
    simp only [List.size_toArray] at hj
    have := List.pairwise_iff_getElem.1 hp i j (by omega) hj hij
    simpa [hj, show i < m.length by omega] using this) m.length (by simp)
  refine ⟨h1, fun x => ?_⟩
  rw [h2, ← hperm.mem_iff]
  constructor
  · rintro ⟨j, hj, rfl⟩
    simp [hj]
  · intro hx
    obtain ⟨j, hj, rfl⟩ := List.getElem_of_mem hx
    exact ⟨j, hj, by simp [hj]⟩
theorem insAll_sortU (xs : List (List UInt8)) : insAll [] xs = sortU xs :=
  asc_ext (insAll_asc asc_nil) (sortU_facts xs).1 fun x => by rw [mem_insAll, (sortU_facts xs).2]; simp
theorem sortU_len (l : List (List UInt8)) : (sortU l).length ≤ l.length := by
  unfold sortU Lib.compact Lib.compactUpTo
  rw [List.length_map]
  refine Nat.le_trans (List.length_filter_le _ _) ?_
  rw [List.length_range, List.length_mergeSort]
  exact Nat.le_refl _
end Go.Proofs.YtgjfjjhmgbemcaaGreatDoor
