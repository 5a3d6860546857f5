/- Reading trees: how long the texts of a tree that was read are. Plain, no program in sight. No condition. -/
import Derived.Test.YtmhcmabiolaoaaaGreatDoorParP
namespace Go.Proofs.YtmhcmabiolaoaaaGreatDoor
open Go.RowKit

theorem nth_len {ws : List (List UInt8)} {m : Nat} (h : ∀ x ∈ ws, x.length ≤ m) (k : Nat) : (nth ws k).length ≤ m := by
  rcases Nat.lt_or_ge k ws.length with hk | hk
  · exact h _ (nth_mem hk)
  · have : nth ws k = [] := by
      unfold nth
      rw [List.getD_eq_getElem?_getD, List.getElem?_eq_none hk]
      rfl
    rw [this]
    simp
theorem undash_len {s : List UInt8} {m : Nat} (h : s.length ≤ m) : (undash s).length ≤ m := by
  unfold undash
  split
  · simp
  · exact h
theorem stI_ok {ws : List (List UInt8)} (h : ∀ x ∈ ws, x.length ≤ 1048576) : Oks (stI ws) := by
  unfold stI Oks
  have h1 := nth_len h 1
  have h2 := undash_len (nth_len h 2)
  have h3 := nth_len h 3
  repeat' split
  all_goals exact ⟨by first | assumption | simp, by first | assumption | simp⟩
theorem stS_ok {ws : List (List UInt8)} (h : ∀ x ∈ ws, x.length ≤ 1048576) : Oks (stS ws) := by
  unfold stS Oks
  have h1 := nth_len h 1
  have h2 := undash_len (nth_len h 2)
  have h3 := nth_len h 3
  repeat' split
  all_goals exact ⟨by first | assumption | simp, by first | assumption | simp⟩
theorem fiI_ok {ws : List (List UInt8)} (h : ∀ x ∈ ws, x.length ≤ 1048576) : Okf (fiI ws) := by
  unfold fiI Okf
  refine ⟨undash_len (nth_len h 2), ?_⟩
  dsimp only
  split
  · simp
  · exact nth_len h 3
theorem fiS_ok {ws : List (List UInt8)} (h : ∀ x ∈ ws, x.length ≤ 1048576) : Okf (fiS ws) := by
  unfold fiS Okf
  refine ⟨undash_len (nth_len h 2), ?_⟩
  dsimp only
  split
  · simp
  · exact nth_len h 3
/-- The texts are short. -/
def ShL (t : List Fi) : Prop := ∀ f ∈ t, Okf f ∧ ∀ s ∈ f.body, Oks s
theorem addSt_sh {t : List Fi} {s : St} (h : ShL t) (hs : Oks s) : ShL (addSt t s) := by
  by_cases ht : t = []
  · subst ht
    exact h
  · rw [addSt_set ht]
    have hl : t.length - 1 < t.length := by have := List.length_pos_iff.2 ht; omega
    intro f hf
    rcases List.mem_or_eq_of_mem_set hf with hf | rfl
    · exact h f hf
    · obtain ⟨h1, h2⟩ := h _ (nth_mem hl)
      refine ⟨h1, fun x hx => ?_⟩
      rcases List.mem_append.1 hx with hx | hx
      · exact h2 x hx
      · rw [List.mem_singleton.1 hx]
        exact hs
theorem snoc_sh {t : List Fi} {f : Fi} (h : ShL t) (hf : Okf f) (hb : f.body = []) : ShL (t ++ [f]) := by
  intro g hg
  rcases List.mem_append.1 hg with hg | hg
  · exact h g hg
  · rw [List.mem_singleton.1 hg]
    refine ⟨hf, fun s hs => ?_⟩
    rw [hb] at hs
    cases hs
theorem rdI_sh {t : List Fi} {ws : List (List UInt8)} (h : ShL t) (hw : ∀ x ∈ ws, x.length ≤ 1048576) : ShL (rdI t ws) := by
  unfold rdI
  split
  · exact snoc_sh h (fiI_ok hw) rfl
  · exact addSt_sh h (stI_ok hw)
theorem line_short {ls : List (List UInt8)} (h : ∀ x ∈ ls, x.length ≤ 1048576) {k : Nat} (hk : k < ls.length) : ∀ x ∈ splitL 32 (nth ls k), x.length ≤ 1048576 := fun x hx =>
  Nat.le_trans (splitL_piece_le 32 _ x hx) (h _ (nth_mem hk))
theorem foldI_sh {ls : List (List UInt8)} (h : ∀ x ∈ ls, x.length ≤ 1048576) : ∀ k : Nat, k ≤ ls.length → ShL (foldI ls k)
  | 0, _ => fun _ h => by cases h
  | k + 1, hk => by
    rw [foldI_next hk]
    exact rdI_sh (foldI_sh h k (by omega)) (line_short h hk)
theorem foldS_sh {ls : List (List UInt8)} (h : ∀ x ∈ ls, x.length ≤ 1048576) : ∀ k : Nat, k ≤ ls.length → ∀ t, foldS ls k = some t → ShL t
  | 0, _, t, e => by
    cases e
    exact fun _ h => by cases h
  | k + 1, hk, t, e => by
    rw [foldS_next hk] at e
    have hw := line_short h hk
    cases h1 : foldS ls k with
    | none => rw [h1, rdS_none] at e; cases e
    | some u =>
      have hb := foldS_sh h k (by omega) u h1
      rw [h1] at e
      unfold rdS at e
      dsimp only at e
      split at e
      · cases e
        exact snoc_sh hb (fiS_ok hw) rfl
      · split at e
        · cases e
        · cases e
          exact addSt_sh hb (stS_ok hw)
theorem sh_okL {t : List Fi} {k : Nat} (h : ShL t) (hb : BdL t k) (hk : k ≤ 2097152) : OkL t :=
  ⟨by have := hb.1; omega, fun f hf => ⟨(h f hf).1, by have := hb.2 f hf; omega, (h f hf).2⟩⟩

end Go.Proofs.YtmhcmabiolaoaaaGreatDoor
