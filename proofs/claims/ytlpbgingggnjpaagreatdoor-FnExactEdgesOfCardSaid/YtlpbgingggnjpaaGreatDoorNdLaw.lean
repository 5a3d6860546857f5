/- Needs and edges: what the program's laws on them rest on: plain, no program in sight. No condition. -/
import Derived.Test.YtlpbgingggnjpaaGreatDoorTrLaw
import Derived.Test.YtlpbgingggnjpaaGreatDoorIc
namespace Go.Proofs.YtlpbgingggnjpaaGreatDoor
open Go.RowKit

/-! ### Each text once, in order -/
def addU (acc : List (List UInt8)) (s : List UInt8) : List (List UInt8) := if hasS acc s then acc else acc ++ [s]
def uniqL (xs : List (List UInt8)) : List (List UInt8) := xs.foldl addU []
theorem uniqL_snoc (xs : List (List UInt8)) (x : List UInt8) : uniqL (xs ++ [x]) = addU (uniqL xs) x := by simp [uniqL]
theorem mem_addU {acc : List (List UInt8)} {s x : List UInt8} : x ∈ addU acc s ↔ x ∈ acc ∨ x = s := by
  unfold addU
  split
  · rename_i h
    constructor
    · exact .inl
    · rintro (h2 | rfl)
      · exact h2
      · exact hasS_iff.1 h
  · simp
theorem addU_len {acc : List (List UInt8)} {s : List UInt8} : (addU acc s).length ≤ acc.length + 1 := by
  unfold addU
  split
  · omega
  · simp
theorem mem_foldU {x : List UInt8} : ∀ {xs acc : List (List UInt8)}, x ∈ xs.foldl addU acc ↔ x ∈ acc ∨ x ∈ xs
  | [], acc => by simp
  | y :: xs, acc => by
    rw [List.foldl_cons, mem_foldU, mem_addU, List.mem_cons, or_assoc]
theorem mem_uniqL {xs : List (List UInt8)} {x : List UInt8} : x ∈ uniqL xs ↔ x ∈ xs := by
  unfold uniqL
  rw [mem_foldU]
  simp
theorem foldU_len : ∀ {xs acc : List (List UInt8)}, (xs.foldl addU acc).length ≤ acc.length + xs.length
  | [], acc => by simp
  | y :: xs, acc => by
    rw [List.foldl_cons]
    have h1 := @foldU_len xs (addU acc y)
    have h2 := @addU_len acc y
    rw [List.length_cons]
    omega
theorem uniqL_len {xs : List (List UInt8)} : (uniqL xs).length ≤ xs.length := by
  have := @foldU_len xs []
  simpa [uniqL] using this
theorem nodup_addU {acc : List (List UInt8)} {s : List UInt8} (h : acc.Nodup) : (addU acc s).Nodup := by
  unfold addU
  split
  · exact h
  · rename_i hs
    refine List.nodup_append.2 ⟨h, List.pairwise_singleton _ _, fun a ha b hb => ?_⟩
    rw [List.mem_singleton.1 hb]
    intro e
    subst e
    exact hs (hasS_iff.2 ha)
theorem nodup_foldU : ∀ {xs acc : List (List UInt8)}, acc.Nodup → (xs.foldl addU acc).Nodup
  | [], _, h => h
  | _ :: _, _, h => by rw [List.foldl_cons]; exact nodup_foldU (nodup_addU h)
theorem nodup_uniqL {xs : List (List UInt8)} : (uniqL xs).Nodup := nodup_foldU List.nodup_nil
/-- Those above come first. -/
def upIn (acc : List (List UInt8)) : Prop := ∀ i, i < acc.length → parentF (nth acc i) ≠ [] → ∃ j, j < i ∧ nth acc j = parentF (nth acc i)
theorem upIn_addU {acc : List (List UInt8)} {s : List UInt8} (h : upIn acc) (hs : parentF s = [] ∨ parentF s ∈ acc) : upIn (addU acc s) := by
  unfold addU
  split
  · exact h
  · intro i hi hp
    rw [List.length_append, List.length_singleton] at hi
    rcases Nat.lt_succ_iff_lt_or_eq.1 hi with h1 | rfl
    · rw [nth_append_left h1] at hp ⊢
      obtain ⟨j, hj, e⟩ := h i h1 hp
      exact ⟨j, hj, by rw [nth_append_left (by omega), e]⟩
    · have e0 : nth (acc ++ [s]) acc.length = s := by
        have := nth_append_right (l := acc) (m := [s]) (k := 0)
        rw [Nat.add_zero] at this
        rw [this]; rfl
      rw [e0] at hp ⊢
      rcases hs with h2 | h2
      · exact absurd h2 hp
      · obtain ⟨j, hj, e⟩ := List.getElem_of_mem h2
        exact ⟨j, hj, by rw [nth_append_left hj, nth_eq hj, e]⟩

/-! ### Names that statements name -/
def upQ (p : List UInt8) : Nat → List UInt8
  | 0 => p
  | k + 1 => upQ (parentF p) k
def resolveL (p : List UInt8) (level : Int) (m : List UInt8) : List UInt8 :=
  if level = 0 then m else if upQ p (level.toNat - 1) = [] then [] else if m = [] then upQ p (level.toNat - 1) else upQ p (level.toNat - 1) ++ 46 :: m
def stNames (p : List UInt8) (s : St) : List (List UInt8) :=
  if s.kind = 0 ∨ s.kind = 2 then [s.mod] else if s.kind = 1 then (if nameB (resolveL p s.level s.mod) then [resolveL p s.level s.mod] else []) else []
def bodyNames (p : List UInt8) (b : List St) : List (List UInt8) := b.flatMap (stNames p)
def pkgOf (o : Sp) (s : List UInt8) : List UInt8 := if o.kind = 1 then parentF s else s
def needN (t : List Fi) (path : List Int) (s : List UInt8) : List (List UInt8) :=
  if (specB t path s).file < 0 then [] else bodyNames (pkgOf (specB t path s) s) (nth t (specB t path s).file.toNat).body
def needsL (t : List Fi) (path : List Int) (s : List UInt8) : List (List UInt8) := uniqL (needN t path s)
def edgesL (t : List Fi) (path : List Int) (s : List UInt8) : List (List UInt8) := uniqL ((needsL t path s).flatMap aboveP)
theorem bodyNames_name {p : List UInt8} {b : List St} (h : bodyB b = true) : ∀ x ∈ bodyNames p b, nameB x = true := by
  intro x hx
  obtain ⟨s, hs, hx⟩ := List.mem_flatMap.1 hx
  unfold bodyB at h
  simp only [Bool.and_eq_true] at h
  obtain ⟨k, hk, e⟩ := List.getElem_of_mem hs
  have h1 := allN_iff.1 h.1 k hk
  rw [nth_eq hk, e] at h1
  unfold stNames at hx
  split at hx
  · rename_i hk2
    rw [List.mem_singleton.1 hx]
    unfold stB at h1
    rw [if_pos hk2] at h1
    simp only [Bool.and_eq_true] at h1
    exact h1.1.1.1
  · split at hx
    · split at hx
      · rename_i h3
        rw [List.mem_singleton.1 hx]
        exact h3
      · simp at hx
    · simp at hx
theorem bodyNames_len {p : List UInt8} : ∀ {b : List St}, (bodyNames p b).length ≤ b.length
  | [] => by simp [bodyNames]
  | s :: b => by
    have h1 := @bodyNames_len p b
    have h2 : (stNames p s).length ≤ 1 := by
      unfold stNames
      split
      · simp
      · split
        · split <;> simp
        · simp
    unfold bodyNames at h1 ⊢
    rw [List.flatMap_cons, List.length_append, List.length_cons]
    omega

/-! ### The laws -/
theorem upIn_above {n : List UInt8} (hn : nameB n = true) {acc : List (List UInt8)} (ha : upIn acc) : ∀ k, k ≤ (splitL 46 n).length → upIn ((aboveL n k).foldl addU acc)
  | 0, _ => by simpa [aboveL] using ha
  | k + 1, hk => by
    rw [aboveL_next, List.foldl_append]
    have ih := upIn_above hn ha k (by omega)
    show upIn (addU ((aboveL n k).foldl addU acc) (pfx n (k + 1)))
    refine upIn_addU ih ?_
    rw [parentF_pfx hn (by omega)]
    cases k with
    | zero => exact .inl pfx_zero
    | succ k =>
      refine .inr (mem_foldU.2 (.inr ?_))
      rw [← aboveL_nth (k := k + 1) (i := k) (by omega)]
      exact nth_mem (by rw [aboveL_len]; omega)
theorem upIn_foldU : ∀ {ns acc : List (List UInt8)}, upIn acc → upIn ((ns.flatMap aboveP).foldl addU acc)
  | [], _, h => by simpa using h
  | n :: ns, acc, h => by
    rw [List.flatMap_cons, List.foldl_append]
    refine upIn_foldU ?_
    cases hn : nameB n
    · rw [aboveP, hn]; simpa using h
    · rw [aboveP, hn, if_pos rfl]
      exact upIn_above hn h _ (Nat.le_refl _)
theorem edges_up {t : List Fi} {path : List Int} {s : List UInt8} : upIn (edgesL t path s) := upIn_foldU fun i hi => absurd hi (by simp)
theorem self_above {s : List UInt8} (h : nameB s = true) : s ∈ aboveP s := by
  have h0 := splitL_pos 46 s
  exact mem_aboveP.2 ⟨h, (splitL 46 s).length - 1, by omega, pfx_all (by omega)⟩
theorem needN_file {t : List Fi} {path : List Int} {s : List UInt8} (h : ¬ (specB t path s).file < 0) : treeB t = true ∧ (specB t path s).file.toNat < t.length ∧ ((specB t path s).file.toNat : Int) = (specB t path s).file := by
  have hle : (specB t path s).file < (t.length : Int) := by
    obtain ⟨j, hj, f1, _⟩ := specFile_law (l := t) (path := path) (s := s) (by omega)
    omega
  refine ⟨?_, by omega, by omega⟩
  cases ht : treeB t with
  | true => rfl
  | false =>
    exfalso
    apply h
    unfold specB
    rw [ht]
    simp [noneSp]
theorem needs_name {t : List Fi} {path : List Int} {s x : List UInt8} (hx : x ∈ needsL t path s) : nameB x = true := by
  unfold needsL at hx
  rw [mem_uniqL] at hx
  unfold needN at hx
  split at hx
  · simp at hx
  · rename_i h
    obtain ⟨h1, h2, _⟩ := needN_file h
    have hf := treeB_file h1 h2
    unfold fileB at hf
    simp only [Bool.and_eq_true] at hf
    exact bodyNames_name hf.1.2 x hx
theorem needs_in_edges {t : List Fi} {path : List Int} {s x : List UInt8} (hx : x ∈ needsL t path s) : x ∈ edgesL t path s := by
  unfold edgesL
  rw [mem_uniqL, List.mem_flatMap]
  exact ⟨x, hx, self_above (needs_name hx)⟩
theorem needs_import {t : List Fi} {path : List Int} {s : List UInt8} (h : ¬ (specB t path s).file < 0) {x : St} (hx : x ∈ (nth t (specB t path s).file.toNat).body) (hk : x.kind = 0 ∨ x.kind = 2) : x.mod ∈ needsL t path s := by
  unfold needsL
  rw [mem_uniqL]
  unfold needN
  rw [if_neg h]
  refine List.mem_flatMap.2 ⟨x, hx, ?_⟩
  unfold stNames
  rw [if_pos hk]
  exact List.mem_singleton.2 rfl
theorem nodup_first {l : List (List UInt8)} (h : l.Nodup) {i : Nat} (hi : i < l.length) : firstN (fun k => nth l k == nth l i) l.length = (i : Int) := by
  rcases firstN_cases (fun k => nth l k == nth l i) l.length with ⟨h1, _⟩ | ⟨k, hk, h1, h2, h3⟩
  · have := anyN_false.1 h1 i hi
    simp at this
  · rw [h3]
    have e : nth l k = nth l i := by simpa using h1
    rw [nth_eq hk, nth_eq hi] at e
    have hpw := List.pairwise_iff_getElem.1 (show l.Pairwise (· ≠ ·) from h)
    rcases Nat.lt_trichotomy k i with h4 | h4 | h4
    · exact absurd e (hpw k i hk hi h4)
    · omega
    · exact absurd e.symm (hpw i k hi hk h4)
end Go.Proofs.YtlpbgingggnjpaaGreatDoor
