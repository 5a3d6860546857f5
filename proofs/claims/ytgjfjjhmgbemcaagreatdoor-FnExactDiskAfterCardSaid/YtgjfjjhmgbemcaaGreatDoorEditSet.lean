/- A file of a table of the call's own gets another stamp and another body: what the table holds then. No condition but lengths. -/
import Derived.Test.YtgjfjjhmgbemcaaGreatDoorIa
namespace Go.Proofs.YtgjfjjhmgbemcaaGreatDoor
open Go.RowKit

theorem fcells_6 (x : Fi × Value) : (fcells x).length = 6 := rfl
theorem flat_set : ∀ {vs : List (Fi × Value)} {k j : Nat} {u : Value} {y : Fi × Value} (hk : k < vs.length), j < 6 → fcells y = (fcells vs[k]).set j u → (vs.flatMap fcells).set (k * 6 + j) u = (vs.set k y).flatMap fcells
  | [], k, j, u, y, hk, _, _ => absurd hk (by simp)
  | x :: vs, 0, j, u, y, hk, hj, h => by
    rw [List.flatMap_cons, List.set_cons_zero, List.flatMap_cons, List.set_append_left _ _ (by rw [fcells_6]; omega)]
    rw [h, Nat.zero_mul, Nat.zero_add]
    rfl
  | x :: vs, k + 1, j, u, y, hk, hj, h => by
    rw [List.flatMap_cons, List.set_cons_succ, List.flatMap_cons, List.set_append_right _ _ (by rw [fcells_6]; omega)]
    congr 1
    rw [fcells_6, show (k + 1) * 6 + j - 6 = k * 6 + j by omega]
    exact flat_set (by simpa using hk) hj (by simpa using h)
theorem pair_set {α : Type} {R : α → α → Prop} : ∀ {l : List α} {k : Nat} {y : α}, l.Pairwise R → (∀ x ∈ l, R x y ∧ R y x) → (l.set k y).Pairwise R
  | [], k, y, _, _ => by simp
  | x :: l, 0, y, h, hy => by
    rw [List.set_cons_zero, List.pairwise_cons]
    rw [List.pairwise_cons] at h
    exact ⟨fun z hz => (hy z (List.mem_cons_of_mem _ hz)).2, h.2⟩
  | x :: l, k + 1, y, h, hy => by
    rw [List.set_cons_succ, List.pairwise_cons]
    rw [List.pairwise_cons] at h
    refine ⟨fun z hz => ?_, pair_set h.2 fun z hz => hy z (List.mem_cons_of_mem _ hz)⟩
    rcases List.mem_or_eq_of_mem_set hz with hz | rfl
    · exact h.1 z hz
    · exact (hy x (List.mem_cons_self ..)).1
theorem sep_same : ∀ {vs : List (Fi × Value)} {k : Nat} {y : Fi × Value} (hk : k < vs.length), y.2 = vs[k].2 → Sep vs → Sep (vs.set k y)
  | [], k, y, hk, _, _ => absurd hk (by simp)
  | x :: vs, 0, y, hk, h, hs => by
    unfold Sep at hs ⊢
    rw [List.set_cons_zero, List.pairwise_cons]
    rw [List.pairwise_cons] at hs
    refine ⟨fun z hz => ?_, hs.2⟩
    have h2 : y.2 = x.2 := h
    rw [h2]
    exact hs.1 z hz
  | x :: vs, k + 1, y, hk, h, hs => by
    unfold Sep at hs ⊢
    rw [List.set_cons_succ, List.pairwise_cons]
    rw [List.pairwise_cons] at hs
    refine ⟨fun z hz => ?_, sep_same (by simpa using hk) (by simpa using h) hs.2⟩
    rcases List.mem_or_eq_of_mem_set hz with hz | rfl
    · exact hs.1 z hz
    · have hk2 : k < vs.length := by simpa using hk
      have := hs.1 vs[k] (List.getElem_mem _)
      have h2 : z.2 = vs[k].2 := by simpa using h
      rw [h2]
      exact this
theorem map_set_fst {vs : List (Fi × Value)} {k : Nat} {y : Fi × Value} : (vs.set k y).map (·.1) = (vs.map (·.1)).set k y.1 := List.map_set ..
theorem nth_fst {vs : List (Fi × Value)} {k : Nat} (hk : k < vs.length) : nth (vs.map (·.1)) k = vs[k].1 := by
  rw [nth_eq (by rw [List.length_map]; exact hk), List.getElem_map]
/-- The stamp is stored. -/
theorem filesO_stamp {w : World} {B g n c k : Nat} {st : Int} {l : List Fi} (h : FilesO w B (some ⟨g, 0, none⟩) n c l) (hk : k < n) :
    FilesO (w.setCell ⟨g, k * 6 + 4, none⟩ (.int .i64 st)) B (some ⟨g, 0, none⟩) n c (l.set k { nth l k with stamp := st }) := by
  obtain ⟨vs, e, h1, h2, hs, h3⟩ := h
  have hkv : k < vs.length := by rw [h1, e, List.length_map] at hk; exact hk
  obtain ⟨cs, hb⟩ := own_block h2
  refine ⟨vs.set k ({ vs[k].1 with stamp := st }, vs[k].2), ?_, by rw [List.length_set]; exact h1, ?_, sep_same hkv rfl hs, fun x hx => ?_⟩
  · rw [map_set_fst, ← e]
    congr 2
    rw [e, nth_fst hkv]
  · rw [← flat_set hkv (show 4 < 6 by omega) (u := .int .i64 st) rfl]
    exact own_set h2 _
  · have key : ∃ ba bc, x.2 = .slice ba x.1.body.length bc ∧ w.ownsRow B 148 5 (.slice ba x.1.body.length bc) x.1.body.length (x.1.body.flatMap scells) := by
      rcases List.mem_or_eq_of_mem_set hx with hx | rfl
      · exact h3 x hx
      · exact h3 vs[k] (List.getElem_mem _)
    obtain ⟨ba, bc, e1, ho⟩ := key
    exact ⟨ba, bc, e1, own_set_far ho hb (by decide) _ _⟩
/-- The body is stored: its row is one of the call's own, made later than the table. -/
theorem filesO_body {w w' : World} {B g n c k rc : Nat} {rb : Option Addr} {l : List Fi} {b : List St} (h : FilesO w B (some ⟨g, 0, none⟩) n c l) (hk : k < n) (hx : X w w') (hO : w'.ownsRow w.heap.size 148 5 (.slice rb b.length rc) b.length (b.flatMap scells)) (hB : B ≤ w.heap.size) :
    FilesO (w'.setCell ⟨g, k * 6 + 5, none⟩ (.slice rb b.length rc)) B (some ⟨g, 0, none⟩) n c (l.set k { nth l k with body := b }) := by
  obtain ⟨vs, e, h1, h2, hs, h3⟩ := h
  have hkv : k < vs.length := by rw [h1, e, List.length_map] at hk; exact hk
  have h2' := own_fr h2 (hx.fr _)
  obtain ⟨cs, hb⟩ := own_block h2'
  refine ⟨vs.set k ({ vs[k].1 with body := b }, .slice rb b.length rc), ?_, by rw [List.length_set]; exact h1, ?_, ?_, fun x hxm => ?_⟩
  · rw [map_set_fst, ← e]
    congr 2
    rw [e, nth_fst hkv]
  · rw [← flat_set hkv (show 5 < 6 by omega) (u := .slice rb b.length rc) rfl]
    exact own_set h2' _
  · refine pair_set hs fun x hxm => ?_
    obtain ⟨ba, bc, e1, ho⟩ := h3 x hxm
    have := row_far ho rfl hO
    rw [e1]
    rcases this with h | h | h
    · exact ⟨.inl h, .inr (.inl h)⟩
    · exact ⟨.inr (.inl h), .inl h⟩
    · exact ⟨.inr (.inr h), .inr (.inr fun e => h e.symm)⟩
  · rcases List.mem_or_eq_of_mem_set hxm with hxm | rfl
    · obtain ⟨ba, bc, e1, ho⟩ := h3 x hxm
      exact ⟨ba, bc, e1, own_set_far (own_fr ho (hx.fr _)) hb (by decide) _ _⟩
    · exact ⟨rb, rc, rfl, own_set_far (own_less hO hB) hb (by decide) _ _⟩
end Go.Proofs.YtgjfjjhmgbemcaaGreatDoor
