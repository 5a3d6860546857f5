/- A finder's directories: one is learnt, in its place or behind the others; what else lies in memory stays. No condition but lengths. -/
import Derived.Test.YtgjfjjhmgbemcaaDoorLd
namespace Go.Proofs.YtgjfjjhmgbemcaaDoor
open Go.RowKit

/-- Only the row of a slice may have changed, and the slice is there, or in a new block. -/
def GrF (w w' : World) (v v' : Value) : Prop := w.grownBy w' v.ownBlock ∧ (v'.ownBlock = none ∨ v'.ownBlock = v.ownBlock ∨ ∃ b, v'.ownBlock = some b ∧ w.heap.size ≤ b)
theorem GrF.refl (w : World) (v : Value) : GrF w w v v := ⟨World.grownBy.refl _ _, .inr (.inl rfl)⟩
theorem GrF.of_x {w w' : World} (v : Value) (h : X w w') : GrF w w' v v := ⟨⟨h.below.os, h.below.tape, h.below.output, h.size, fun k hk _ => h.below.block k hk⟩, .inr (.inl rfl)⟩
theorem GrF.trans {a b c : World} {v v' v'' : Value} (h : GrF a b v v') (k : GrF b c v' v'') : GrF a c v v'' := by
  refine ⟨⟨k.1.os.trans h.1.os, k.1.tape.trans h.1.tape, k.1.output.trans h.1.output, Nat.le_trans h.1.size k.1.size, fun i hi hne => ?_⟩, ?_⟩
  · refine (k.1.block i (Nat.lt_of_lt_of_le hi h.1.size) ?_).trans (h.1.block i hi hne)
    rcases h.2 with e | e | ⟨b, e, hb⟩
    · rw [e]; simp
    · rw [e]; exact hne
    · rw [e]; intro e2; have := Option.some.inj e2; omega
  · rcases k.2 with e | e | ⟨b, e, hb⟩
    · exact .inl e
    · rcases h.2 with e1 | e1 | ⟨b, e1, hb⟩
      · exact .inl (e.trans e1)
      · exact .inr (.inl (e.trans e1))
      · exact .inr (.inr ⟨b, e.trans e1, hb⟩)
    · exact .inr (.inr ⟨b, e, Nat.le_trans h.1.size hb⟩)
theorem GrF.x {a b c : World} {v v' : Value} (h : GrF a b v v') (k : X b c) : GrF a c v v' := h.trans (GrF.of_x _ k)
theorem GrF.of_xl {a b c : World} {v v' : Value} (k : X a b) (h : GrF b c v v') : GrF a c v v' := (GrF.of_x _ k).trans h
theorem GrF.size {w w' : World} {v v' : Value} (h : GrF w w' v v') : w.heap.size ≤ w'.heap.size := h.1.size
theorem GrF.below {B : Nat} {w w' : World} {v v' : Value} (h : GrF w w' v v') (hv : ∀ b, v.ownBlock = some b → B ≤ b) (hB : B ≤ w.heap.size) : Below B w w' :=
  ⟨h.1.os, h.1.tape, h.1.output, h.1.size, fun k hk => h.1.block k (by omega) (fun e => by have := hv k e.symm; omega)⟩
theorem GrF.set {w w' : World} {v v' : Value} (h : GrF w w' v v') (p : Addr) (u : Value) (hp : w.heap.size ≤ p.block) : GrF w (w'.setCell p u) v v' :=
  ⟨⟨h.1.os, h.1.tape, h.1.output, by simpa [World.setCell] using h.1.size, fun k hk hne => (heap_setCell_other w' p k u (by omega)).trans (h.1.block k hk hne)⟩, h.2⟩
/-- Two slices do not lie in one block. -/
def Apt (v u : Value) : Prop := v.ownBlock = none ∨ v.ownBlock ≠ u.ownBlock
theorem Apt.of_lt {v u : Value} {m : Nat} (hv : ∀ b, v.ownBlock = some b → b < m) (hu : ∀ b, u.ownBlock = some b → m ≤ b) : Apt v u := by
  cases h : v.ownBlock with
  | none => exact .inl h
  | some b =>
    refine .inr fun e => ?_
    rw [h] at e
    have h1 := hv b h
    have h2 := hu b e.symm
    omega
theorem Apt.of_gt {v u : Value} {m : Nat} (hv : ∀ b, v.ownBlock = some b → m ≤ b) (hu : ∀ b, u.ownBlock = some b → b < m) : Apt v u := by
  cases h : v.ownBlock with
  | none => exact .inl h
  | some b =>
    refine .inr fun e => ?_
    rw [h] at e
    have h1 := hv b h
    have h2 := hu b e.symm
    omega
theorem Apt.gr {w w' : World} {d v v' : Value} (h : Apt d v) (hg : GrF w w' v v') (hd : ∀ b, d.ownBlock = some b → b < w.heap.size) : Apt d v' := by
  cases e : d.ownBlock with
  | none => exact .inl e
  | some b =>
    refine .inr fun e2 => ?_
    have hb := hd b e
    rw [e] at e2
    rcases hg.2 with e1 | e1 | ⟨b', e1, hb'⟩
    · rw [e1] at e2; cases e2
    · rw [e1] at e2
      rcases h with h | h
      · rw [h] at e; cases e
      · exact h (e.trans e2)
    · rw [e1] at e2
      have := Option.some.inj e2
      omega
theorem DirsO.blk {w : World} {B n c : Nat} {a : Option Addr} {l : List Di} (h : DirsO w B a n c l) : ∀ b, (Value.slice a n c).ownBlock = some b → B ≤ b ∧ b < w.heap.size := by
  obtain ⟨vs, _, _, h2, _⟩ := h
  exact fun b hb => h2.lt b hb
/-- Other directories, and files, stay where a finder's row changes. -/
theorem DirsO.gr {w w' : World} {B B2 n c n2 c2 : Nat} {a a2 : Option Addr} {l l2 : List Di} {v' : Value} (h : DirsO w B a n c l) (hf : DirsO w B2 a2 n2 c2 l2) (hg : GrF w w' (.slice a2 n2 c2) v') (ha : Apt (.slice a n c) (.slice a2 n2 c2)) : DirsO w' B a n c l := by
  obtain ⟨vs, e, h1, h2, hs, h3⟩ := h
  obtain ⟨us, _, _, k2, _, _⟩ := hf
  exact ⟨vs, e, h1, h2.kept hg.1 ha, hs, fun x hx => by
    obtain ⟨ba, bc, e, ho⟩ := h3 x hx
    exact ⟨ba, bc, e, ho.kept hg.1 (row_ne ho k2 (by decide))⟩⟩
theorem FilesO.gr {w w' : World} {B B2 n c n2 c2 : Nat} {a a2 : Option Addr} {l : List Fi} {l2 : List Di} {v' : Value} (h : FilesO w B a n c l) (hf : DirsO w B2 a2 n2 c2 l2) (hg : GrF w w' (.slice a2 n2 c2) v') : FilesO w' B a n c l := by
  obtain ⟨vs, e, h1, h2, hs, h3⟩ := h
  obtain ⟨us, _, _, k2, _, _⟩ := hf
  exact ⟨vs, e, h1, h2.kept hg.1 (row_ne h2 k2 (by decide)), hs, fun x hx => by
    obtain ⟨ba, bc, e, ho⟩ := h3 x hx
    exact ⟨ba, bc, e, ho.kept hg.1 (row_ne ho k2 (by decide))⟩⟩
theorem own_gr {w w' : World} {B B2 e size n n2 c2 : Nat} {v v' : Value} {xs : List Value} {a2 : Option Addr} {l2 : List Di} (h : w.ownsRow B e size v n xs) (hf : DirsO w B2 a2 n2 c2 l2) (hg : GrF w w' (.slice a2 n2 c2) v') (hne : e ≠ 71) : w'.ownsRow B e size v n xs := by
  obtain ⟨us, _, _, k2, _, _⟩ := hf
  exact h.kept hg.1 (row_ne h k2 hne)
theorem at_gr {w w' : World} {b t B2 n2 c2 : Nat} {cs : Array Value} {v' : Value} {a2 : Option Addr} {l2 : List Di} (h : w.heap[b]? = some (.cells cs t (0, 0))) (hf : DirsO w B2 a2 n2 c2 l2) (hg : GrF w w' (.slice a2 n2 c2) v') (hne : 71 ≠ t) : w'.heap[b]? = some (.cells cs t (0, 0)) := by
  obtain ⟨us, _, _, k2, _, _⟩ := hf
  exact at_grown h hg.1 (own_ne_at k2 h hne)

theorem flat_put : ∀ {vs : List (Di × Value)} {k : Nat} {y : Di × Value} {v0 v1 v2 v3 : Value} (_ : k < vs.length), dcells y = [v0, v1, v2, v3] → ((((vs.flatMap dcells).set (k * 4) v0).set (k * 4 + 1) v1).set (k * 4 + 2) v2).set (k * 4 + 3) v3 = (vs.set k y).flatMap dcells
  | [], k, y, _, _, _, _, hk, _ => absurd hk (by simp)
  | x :: vs, 0, y, v0, v1, v2, v3, _, h => by
    rw [List.flatMap_cons, List.set_cons_zero, List.flatMap_cons, h]
    rfl
  | x :: vs, k + 1, y, v0, v1, v2, v3, hk, h => by
    have ih := flat_put (vs := vs) (k := k) (y := y) (by simpa using hk) h
    have e : ∀ (R : List Value) (j : Nat) (v : Value), (dcells x ++ R).set ((k + 1) * 4 + j) v = dcells x ++ R.set (k * 4 + j) v := fun R j v => by
      rw [List.set_append_right _ _ (by rw [dcells_4]; omega)]
      congr 2
      rw [dcells_4]
      omega
    rw [List.flatMap_cons, List.set_cons_succ, List.flatMap_cons, ← ih]
    have e0 := e (vs.flatMap dcells) 0 v0
    rw [Nat.add_zero, Nat.add_zero] at e0
    rw [e0, e, e, e, Nat.add_zero]
theorem pair_setD {α : Type} {R : α → α → Prop} : ∀ {l : List α} {k : Nat} {y : α}, l.Pairwise R → (∀ x ∈ l, R x y ∧ R y x) → (l.set k y).Pairwise R
  | [], k, y, _, _ => by simp
  | x :: l, 0, y, h, hy => by
    rw [List.set_cons_zero, List.pairwise_cons]
    rw [List.pairwise_cons] at h
    exact ⟨fun z hz => (hy z (List.mem_cons_of_mem _ hz)).2, h.2⟩
  | x :: l, k + 1, y, h, hy => by
    rw [List.set_cons_succ, List.pairwise_cons]
    rw [List.pairwise_cons] at h
    refine ⟨fun z hz => ?_, pair_setD h.2 fun z hz => hy z (List.mem_cons_of_mem _ hz)⟩
    rcases List.mem_or_eq_of_mem_set hz with hz | rfl
    · exact h.1 z hz
    · exact (hy x (List.mem_cons_self ..)).1
/-- A directory is stored in the place of another. -/
theorem DirsV.put {w : World} {B g c k bc : Nat} {vs : List (Di × Value)} {d : Di} {ba : Option Addr} (h : DirsV w B (some ⟨g, 0, none⟩) c vs) (hk : k < vs.length)
    (hb : w.ownsRow B 9 1 (.slice ba d.names.length bc) d.names.length (strs d.names))
    (hs : ∀ x ∈ vs, (Value.slice ba d.names.length bc).ownBlock = none ∨ x.2.ownBlock = none ∨ (Value.slice ba d.names.length bc).ownBlock ≠ x.2.ownBlock) :
    DirsV ((((w.setCell ⟨g, k * 4, none⟩ (.int .i64 d.root)).setCell ⟨g, k * 4 + 1, none⟩ (.string ⟨(d.pkg).toArray⟩)).setCell ⟨g, k * 4 + 2, none⟩ (.int .i64 d.stamp)).setCell ⟨g, k * 4 + 3, none⟩ (.slice ba d.names.length bc)) B (some ⟨g, 0, none⟩) c (vs.set k (d, .slice ba d.names.length bc)) := by
  obtain ⟨h2, hp, h3⟩ := h
  obtain ⟨cs, hg⟩ := own_block h2
  have hgr : w.grownBy ((((w.setCell ⟨g, k * 4, none⟩ (.int .i64 d.root)).setCell ⟨g, k * 4 + 1, none⟩ (.string ⟨(d.pkg).toArray⟩)).setCell ⟨g, k * 4 + 2, none⟩ (.int .i64 d.stamp)).setCell ⟨g, k * 4 + 3, none⟩ (.slice ba d.names.length bc)) (some g) :=
    grown_next (grown_next (grown_next (grown_set _ _ _) _ _) _ _) _ _
  refine ⟨?_, ?_, fun x hx => ?_⟩
  · have := own_set4 h2 (k * 4) (.int .i64 d.root) (.string ⟨(d.pkg).toArray⟩) (.int .i64 d.stamp) (.slice ba d.names.length bc)
    rw [flat_put (y := (d, .slice ba d.names.length bc)) hk rfl] at this
    rw [List.length_set]
    exact this
  · exact pair_setD hp fun x hx => by
      rcases hs x hx with e | e | e
      · exact ⟨.inr (.inl e), .inl e⟩
      · exact ⟨.inl e, .inr (.inl e)⟩
      · exact ⟨.inr (.inr e), .inr (.inr (Ne.symm e))⟩
  · rcases List.mem_or_eq_of_mem_set hx with hx | rfl
    · exact (h3 x hx).kept hgr (by
        obtain ⟨p, q, e, ho⟩ := h3 x hx
        rw [e]
        exact .inr (own_ne_at ho hg (by decide)))
    · exact ⟨ba, bc, rfl, hb.kept hgr (.inr (own_ne_at hb hg (by decide)))⟩
/-- What a finder has. -/
def FdV (w : World) (B : Nat) (a : Option Addr) (n c : Nat) (fi hi : Int) (fl : List Di) : Prop :=
  DirsO w B a n c fl ∧ OkD fl ∧ n ≤ 20 ∧ (0 ≤ fi ∧ fi ≤ 1000) ∧ 0 ≤ hi ∧ hi ≤ 1000
theorem FdV.fr {w w' : World} {B n c : Nat} {fi hi : Int} {a : Option Addr} {l : List Di} (h : FdV w B a n c fi hi l) (hx : Fr B w w') : FdV w' B a n c fi hi l := ⟨h.1.fr hx, h.2⟩
theorem FdV.less {w : World} {B B' n c : Nat} {fi hi : Int} {a : Option Addr} {l : List Di} (h : FdV w B a n c fi hi l) (hB : B' ≤ B) : FdV w B' a n c fi hi l := ⟨h.1.less hB, h.2⟩
theorem FdV.at {w : World} {B n c : Nat} {fi hi : Int} {a : Option Addr} {l : List Di} (h : FdV w B a n c fi hi l) : DirsAt w B a n l := h.1.at h.2.1
theorem FdV.far {w : World} {B n c b : Nat} {fi hi : Int} {a : Option Addr} {l : List Di} {cs : Array Value} {t : TypeId} (h : FdV w B a n c fi hi l) (hb : w.heap[b]? = some (.cells cs t (0, 0))) (h1 : 71 ≠ t) (h2 : 9 ≠ t) (i : Nat) (u : Value) : FdV (w.setCell ⟨b, i, none⟩ u) B a n c fi hi l := ⟨h.1.far hb h1 h2 i u, h.2⟩
theorem okD_put {dl : List Di} {d : Di} {k : Nat} (h : OkD dl) (h1 : d.pkg.length ≤ 1048576) (h2 : d.names.length ≤ 8388608) (h3 : ∀ s ∈ d.names, s.length ≤ 4194304) : OkD (dl.set k d) :=
  ⟨by rw [List.length_set]; exact h.1, fun x hx => by
    rcases List.mem_or_eq_of_mem_set hx with hx | rfl
    · exact h.2 x hx
    · exact ⟨h1, h2, h3⟩⟩
theorem okD_more {dl : List Di} {d : Di} (h : OkD dl) (hl : dl.length ≤ 20) (h1 : d.pkg.length ≤ 1048576) (h2 : d.names.length ≤ 8388608) (h3 : ∀ s ∈ d.names, s.length ≤ 4194304) : OkD (dl ++ [d]) :=
  ⟨by rw [List.length_append, List.length_singleton]; omega, fun x hx => by
    rcases List.mem_append.1 hx with hx | hx
    · exact h.2 x hx
    · rw [List.mem_singleton.1 hx]; exact ⟨h1, h2, h3⟩⟩

end Go.Proofs.YtgjfjjhmgbemcaaDoor
