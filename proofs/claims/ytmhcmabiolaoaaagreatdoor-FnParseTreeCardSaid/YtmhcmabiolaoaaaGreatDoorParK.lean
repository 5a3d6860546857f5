/- What reading a line leaves as it was; appends with their place; six stores into one box. No condition. -/
import Derived.Test.YtmhcmabiolaoaaaGreatDoorParN
import Derived.Test.YtmhcmabiolaoaaaGreatDoorMd
import Derived.Deep.AppendLies
namespace Go.Proofs.YtmhcmabiolaoaaaGreatDoor
open Go.RowKit

/-- Nothing has changed but the box tb and rows of files and of statements. -/
structure Kt (tb : Nat) (w w' : World) : Prop where
  size : w.heap.size ≤ w'.heap.size
  block : ∀ p cs t fz, w.heap[p]? = some (.cells cs t fz) → p ≠ tb → t ≠ 36 → t ≠ 53 → w'.heap[p]? = some (.cells cs t fz)
theorem Kt.refl (tb : Nat) (w : World) : Kt tb w w := ⟨Nat.le_refl _, fun _ _ _ _ h _ _ _ => h⟩
theorem Kt.trans {tb : Nat} {a b c : World} (h : Kt tb a b) (k : Kt tb b c) : Kt tb a c :=
  ⟨Nat.le_trans h.size k.size, fun p cs t fz hp h1 h2 h3 => k.block p cs t fz (h.block p cs t fz hp h1 h2 h3) h1 h2 h3⟩
theorem Kt.x {tb : Nat} {w w' : World} (h : X w w') : Kt tb w w' :=
  ⟨h.size, fun p _ _ _ hp _ _ _ => (h.below.block p (Array.getElem?_eq_some_iff.1 hp).1).trans hp⟩
theorem Kt.grown {tb g : Nat} {w w' : World} {row : Option Nat} {cs : Array Value} {t : TypeId} {fz : Nat × Nat} (hg : w.grownBy w' row) (hr : row = none ∨ (row = some g ∧ w.heap[g]? = some (.cells cs t fz))) (ht : t = 36 ∨ t = 53) : Kt tb w w' :=
  ⟨hg.size, fun p cs' t' fz' hp _ h2 h3 => (hg.block p (Array.getElem?_eq_some_iff.1 hp).1 (fun e => by
    rcases hr with h | ⟨h, hb⟩
    · rw [h] at e; cases e
    · rw [h] at e
      injection e with e
      subst e
      rw [hb] at hp
      injection hp with hp
      injection hp with _ e2 _
      subst e2
      rcases ht with h | h
      · exact h2 h
      · exact h3 h)).trans hp⟩
theorem Kt.set {tb : Nat} {w : World} {i : Nat} (u : Value) : Kt tb w (w.setCell ⟨tb, i, none⟩ u) :=
  ⟨by simp [World.setCell], fun p cs t fz hp h1 _ _ => by rw [Below.heap_setCell _ _ _ _ (by exact h1)]; exact hp⟩
theorem Kt.setRow {tb g : Nat} {w : World} {i : Nat} {cs : Array Value} {t : TypeId} {fz : Nat × Nat} (hb : w.heap[g]? = some (.cells cs t fz)) (ht : t = 36 ∨ t = 53) (u : Value) : Kt tb w (w.setCell ⟨g, i, none⟩ u) :=
  ⟨by simp [World.setCell], fun p cs' t' fz' hp _ h2 h3 => by
    by_cases e : p = g
    · subst e
      rw [hb] at hp
      injection hp with hp
      injection hp with _ e2 _
      subst e2
      rcases ht with h | h
      · exact absurd h h2
      · exact absurd h h3
    · rw [Below.heap_setCell _ _ _ _ (by exact e)]; exact hp⟩
/-- append of a literal onto an owned slice, in a region that draws its order; where the row lies behind it. -/
theorem step_append_tL {P : Program} {ops : Array Oper} {o : Oper} {a : Act} {K : Act → World → Prop} {Q : Exit → Act → World → Prop} {E : Prop} {t e size bytes : Nat} (hT : AppT P t e size bytes) (hgd : o.guard = none) (s x : Operand)
    (ho : o.op = .call { callee := .builtin .append, args := #[s, x], argTypes := #[t, t] }) {w W : World} (hX : X w W) {B : Nat} {v : Value} {n : Nat} {xs : List Value} {cs : Array Value}
    (hown : w.ownsRow B e size v n xs) (hs : a.eval s = v) {g : Nat} (hx : a.eval x = .slice (some ⟨g, 0, none⟩) 1 1) (hg : W.heap[g]? = some (.cells cs e (0, 0))) (hcs : cs.size = size) (h1 : ∀ u ∈ cs.toList, u.oneCell' = true)
    (hb : (n + 1) * bytes ≤ 140737488355328) (hn : n + 1 ≤ 9223372036854775807) (hBw : B ≤ w.heap.size)
    (h : ∀ g' c' w', w'.ownsRow B e size (.slice (some ⟨g', 0, none⟩) (n + 1) c') (n + 1) (xs ++ cs.toList) → w.grownBy w' v.ownBlock → (v.ownBlock = some g' ∨ w.heap.size ≤ g') → K (a.put o.dst (.slice (some ⟨g', 0, none⟩) (n + 1) c')) w') :
    if Region.wanted o (yielded ops a.tmps) = true then Oper.wp P o a W K Q else E := by
  obtain ⟨i, z, hi, hz, hsize, hby, hzs⟩ := hT.hi
  exact step_append_lies W hgd s x t ho B e i z size bytes hT.ht hi hz hsize hby hzs hT.hsz v n xs hs (own_fr hown (hX.fr _)) ⟨g, 0, none⟩ 1 1 cs.toList hx (by simp [hcs]) (World.news_of_block hg) h1 (by omega) (by unfold maxLen; omega) hb
    (Nat.le_trans hBw hX.size) _ rfl (fun g' cap w' h2 h3 h4 _ => h _ _ w' h2 (hX.grown h3) (h4.imp id (fun e => by rw [e]; exact hX.size)))
theorem x_set6 {A W : World} {b : Nat} (h : X A W) (hb : A.heap.size ≤ b) (v0 v1 v2 v3 v4 v5 : Value) : X A ((((((W.setCell ⟨b, 0, none⟩ v0).setCell ⟨b, 1, none⟩ v1).setCell ⟨b, 2, none⟩ v2).setCell ⟨b, 3, none⟩ v3).setCell ⟨b, 4, none⟩ v4).setCell ⟨b, 5, none⟩ v5) :=
  (((((h.setCell (p := ⟨b, 0, none⟩) hb v0).setCell (p := ⟨b, 1, none⟩) hb v1).setCell (p := ⟨b, 2, none⟩) hb v2).setCell (p := ⟨b, 3, none⟩) hb v3).setCell (p := ⟨b, 4, none⟩) hb v4).setCell (p := ⟨b, 5, none⟩) hb v5
theorem own_far6 {W : World} {B e size n b t : Nat} {v : Value} {xs : List Value} {cs : Array Value} (h : W.ownsRow B e size v n xs) (hb : W.heap[b]? = some (.cells cs t (0, 0))) (hne : e ≠ t) (v0 v1 v2 v3 v4 v5 : Value) :
    ((((((W.setCell ⟨b, 0, none⟩ v0).setCell ⟨b, 1, none⟩ v1).setCell ⟨b, 2, none⟩ v2).setCell ⟨b, 3, none⟩ v3).setCell ⟨b, 4, none⟩ v4).setCell ⟨b, 5, none⟩ v5).ownsRow B e size v n xs := by
  have hs : ∀ (W : World) (i : Nat) (u : Value) (cs : Array Value), W.heap[b]? = some (.cells cs t (0, 0)) → ∃ cs', (W.setCell ⟨b, i, none⟩ u).heap[b]? = some (.cells cs' t (0, 0)) := fun W i u cs h => ⟨_, heap_setCell_same W b i cs t u h⟩
  obtain ⟨c0, h0⟩ := hs _ 0 v0 _ hb
  obtain ⟨c1, h1⟩ := hs _ 1 v1 _ h0
  obtain ⟨c2, h2⟩ := hs _ 2 v2 _ h1
  obtain ⟨c3, h3⟩ := hs _ 3 v3 _ h2
  obtain ⟨c4, h4⟩ := hs _ 4 v4 _ h3
  exact own_set_far (own_set_far (own_set_far (own_set_far (own_set_far (own_set_far h hb hne 0 v0) h0 hne 1 v1) h1 hne 2 v2) h2 hne 3 v3) h3 hne 4 v4) h4 hne 5 v5
theorem heap_set6 {W : World} {b t : Nat} {a0 a1 a2 a3 a4 a5 : Value} (h : W.heap[b]? = some (.cells #[a0, a1, a2, a3, a4, a5] t (0, 0))) (v0 v1 v2 v3 v4 v5 : Value) : ((((((W.setCell ⟨b, 0, none⟩ v0).setCell ⟨b, 1, none⟩ v1).setCell ⟨b, 2, none⟩ v2).setCell ⟨b, 3, none⟩ v3).setCell ⟨b, 4, none⟩ v4).setCell ⟨b, 5, none⟩ v5).heap[b]? = some (.cells #[v0, v1, v2, v3, v4, v5] t (0, 0)) := by
  simpa using heap_setCell_same _ b 5 _ t v5 (heap_setCell_same _ b 4 _ t v4 (heap_setCell_same _ b 3 _ t v3 (heap_setCell_same _ b 2 _ t v2 (heap_setCell_same _ b 1 _ t v1 (heap_setCell_same _ b 0 _ t v0 h)))))
theorem at_x6 {w w' : World} {b : Nat} {o : Obj} (h : w.heap[b]? = some o) (hx : X w w') : w'.heap[b]? = some o := (hx.below.block b (Array.getElem?_eq_some_iff.1 h).1).trans h
theorem below_to {B B' : Nat} {w w' : World} (h : Below B' w w') (hB : B ≤ B') : Below B w w' := ⟨h.os, h.tape, h.output, h.size, fun k hk => h.block k (by omega)⟩
theorem own_ne_new {w W : World} {B B' e e' size size' n n' : Nat} {v v' : Value} {xs xs' : List Value} (h : W.ownsRow B' e size v n xs) (hB : w.heap.size ≤ B') (h' : w.ownsRow B e' size' v' n' xs') : v.ownBlock = none ∨ v'.ownBlock = none ∨ v.ownBlock ≠ v'.ownBlock := by
  cases hv : v.ownBlock with
  | none => exact .inl rfl
  | some g =>
    cases hv' : v'.ownBlock with
    | none => exact .inr (.inl rfl)
    | some g' =>
      refine .inr (.inr fun e => ?_)
      injection e with e
      have h1 := (h.lt g hv).1
      have h2 := (h'.lt g' hv').2
      omega
end Go.Proofs.YtmhcmabiolaoaaaGreatDoor
