/- Reading trees: what a line makes of a tree, and how large trees get. Plain, no program in sight. No condition. -/
import Derived.Test.YtmhcmabiolaoaaaGreatDoorMc
namespace Go.Proofs.YtmhcmabiolaoaaaGreatDoor
open Go.RowKit

/-- At most k files, with at most k statements each. -/
def BdL (t : List Fi) (k : Nat) : Prop := t.length ≤ k ∧ ∀ f ∈ t, f.body.length ≤ k
theorem addSt_set {t : List Fi} (h : t ≠ []) (s : St) : addSt t s = t.set (t.length - 1) { nth t (t.length - 1) with body := (nth t (t.length - 1)).body ++ [s] } := by
  unfold addSt
  have hl : t.length - 1 < t.length := by have := List.length_pos_iff.2 h; omega
  rw [if_neg h, List.set_eq_take_append_cons_drop, if_pos hl, List.drop_eq_nil_of_le (by omega)]
theorem bd_nil : BdL [] 0 := ⟨Nat.le_refl _, fun _ h => by cases h⟩
theorem bd_next {t : List Fi} {k : Nat} (h : BdL t k) : BdL t (k + 1) := ⟨by have := h.1; omega, fun f hf => by have := h.2 f hf; omega⟩
theorem addSt_bd {t : List Fi} {k : Nat} (h : BdL t k) (s : St) : BdL (addSt t s) (k + 1) := by
  by_cases ht : t = []
  · subst ht
    exact bd_next h
  · rw [addSt_set ht]
    have hl : t.length - 1 < t.length := by have := List.length_pos_iff.2 ht; omega
    refine ⟨by rw [List.length_set]; have := h.1; omega, fun f hf => ?_⟩
    rcases List.mem_or_eq_of_mem_set hf with hf | rfl
    · have := h.2 f hf
      omega
    · have := h.2 _ (nth_mem hl)
      show ((nth t (t.length - 1)).body ++ [s]).length ≤ k + 1
      rw [List.length_append, List.length_singleton]
      omega
theorem snoc_bd {t : List Fi} {k : Nat} (h : BdL t k) {f : Fi} (hf : f.body = []) : BdL (t ++ [f]) (k + 1) := by
  refine ⟨by rw [List.length_append, List.length_singleton]; have := h.1; omega, fun g hg => ?_⟩
  rcases List.mem_append.1 hg with hg | hg
  · have := h.2 g hg
    omega
  · rw [List.mem_singleton.1 hg, hf]
    simp
theorem rdI_bd {t : List Fi} {k : Nat} (h : BdL t k) (ws : List (List UInt8)) : BdL (rdI t ws) (k + 1) := by
  unfold rdI
  split
  · exact snoc_bd h rfl
  · exact addSt_bd h _
def foldI (ls : List (List UInt8)) (k : Nat) : List Fi := (ls.take k).foldl (fun t line => rdI t (splitL 32 line)) []
def foldS (ls : List (List UInt8)) (k : Nat) : Option (List Fi) := (ls.take k).foldl (fun t line => rdS t (splitL 32 line)) (some [])
theorem foldI_next {ls : List (List UInt8)} {k : Nat} (hk : k < ls.length) : foldI ls (k + 1) = rdI (foldI ls k) (splitL 32 (nth ls k)) := by
  unfold foldI
  rw [take_succ_nth hk, List.foldl_append]
  rfl
theorem foldS_next {ls : List (List UInt8)} {k : Nat} (hk : k < ls.length) : foldS ls (k + 1) = rdS (foldS ls k) (splitL 32 (nth ls k)) := by
  unfold foldS
  rw [take_succ_nth hk, List.foldl_append]
  rfl
theorem foldI_bd (ls : List (List UInt8)) : ∀ k : Nat, k ≤ ls.length → BdL (foldI ls k) k
  | 0, _ => bd_nil
  | k + 1, h => by
    rw [foldI_next h]
    exact rdI_bd (foldI_bd ls k (by omega)) _
theorem rdS_none (w : List (List UInt8)) : rdS none w = none := rfl
theorem foldS_bd (ls : List (List UInt8)) : ∀ k : Nat, k ≤ ls.length → ∀ t, foldS ls k = some t → BdL t k
  | 0, _, t, e => by
    cases e
    exact bd_nil
  | k + 1, h, t, e => by
    rw [foldS_next h] at e
    cases h1 : foldS ls k with
    | none => rw [h1, rdS_none] at e; cases e
    | some u =>
      have hb := foldS_bd ls k (by omega) u h1
      rw [h1] at e
      unfold rdS at e
      dsimp only at e
      split at e
      · cases e
        exact snoc_bd hb rfl
      · split at e
        · cases e
        · cases e
          exact addSt_bd hb _
theorem foldS_none (ls : List (List UInt8)) {k m : Nat} (hk : k ≤ m) (hm : m ≤ ls.length) (h : foldS ls k = none) : foldS ls m = none := by
  obtain ⟨d, rfl⟩ : ∃ d, m = k + d := ⟨m - k, by omega⟩
  clear hk
  induction d with
  | zero => exact h
  | succ d ih =>
    rw [← Nat.add_assoc, foldS_next (by omega), ih (by omega), rdS_none]
theorem parseI_fold (s : List UInt8) : parseI s = foldI (splitL 10 s) ((splitL 10 s).length - 1) := rfl
theorem parseS_fold (s : List UInt8) : parseS s = foldS (splitL 10 s) ((splitL 10 s).length - 1) := rfl
/-- The reference's reading of a number, from its k-th byte on. -/
theorem numGo_next {s : List UInt8} {k : Nat} {n : Int} (hk : k < s.length) (h1 : 48 ≤ ((nth s k).toNat : Int)) (h2 : ((nth s k).toNat : Int) ≤ 57) (h3 : n ≤ 9) : numGo n (s.drop k) = numGo (10 * n + (((nth s k).toNat : Int) - 48)) (s.drop (k + 1)) := by
  rw [List.drop_eq_getElem_cons hk, numGo, ← nth_eq hk, if_neg (by omega)]
theorem numGo_bad {s : List UInt8} {k : Nat} {n : Int} (hk : k < s.length) (h : ((nth s k).toNat : Int) < 48 ∨ 57 < ((nth s k).toNat : Int) ∨ 9 < n) : numGo n (s.drop k) = none := by
  rw [List.drop_eq_getElem_cons hk, numGo, ← nth_eq hk, if_pos h]

end Go.Proofs.YtmhcmabiolaoaaaGreatDoor
