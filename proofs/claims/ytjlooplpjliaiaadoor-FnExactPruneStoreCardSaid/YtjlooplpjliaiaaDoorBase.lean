/- Worlds that have grown: 'w.ext x' is w with blocks more behind the old ones and another count of draws. Plain lemmas on it; no condition. -/
import Derived.WalkKit
import Derived.WalkSpells
import Derived.WalkLawsBesides
import Derived.Deep.QuietTactic
import Derived.BigQuiet
import Derived.Lib.Hide
import Derived.Deep.AppendLies
import Derived.Maps.AppendAt
namespace Go.Proofs.YtjlooplpjliaiaaDoor
open Go.RowKit

structure Xt where
  objs : Array Obj
  n : Nat
instance : Inhabited Xt := ⟨⟨#[], 0⟩⟩
def World.ext (w : World) (x : Xt) : World := { w with heap := w.heap ++ x.objs, drawn := x.n }
section
variable (w : World) (x : Xt)
theorem World.size_ext : (World.ext w x).heap.size = w.heap.size + x.objs.size := by simp [World.ext]
theorem World.heap_ext (k : Nat) (h : k < w.heap.size) : (World.ext w x).heap[k]? = w.heap[k]? := by
  show (w.heap ++ x.objs)[k]? = _
  rw [Array.getElem?_append_left h]
@[go_sem] theorem World.cell?_ext (b o : Nat) (h : b < w.heap.size) : (World.ext w x).cell? ⟨b, o, none⟩ = w.cell? ⟨b, o, none⟩ :=
  World.cell?_of_block (w := w) (World.heap_ext w x b h)
@[go_sem] theorem World.frozen?_ext (b o : Nat) (h : b < w.heap.size) : (World.ext w x).frozen? ⟨b, o, none⟩ = w.frozen? ⟨b, o, none⟩ :=
  World.frozen?_of_block (w := w) (World.heap_ext w x b h)
@[go_sem] theorem World.lt_ext (b : Nat) (h : b < w.heap.size) : b < (World.ext w x).heap.size := by rw [World.size_ext]; omega
@[go_sem] theorem World.ext_drew : World.ext w.drew x = World.ext w x := rfl
@[go_sem] theorem World.tape_ext : (World.ext w x).tape = w.tape := rfl
@[go_sem] theorem World.setCell_ext (b o : Nat) (v : Value) (h : b < w.heap.size) : (World.ext w x).setCell ⟨b, o, none⟩ v = World.ext (w.setCell ⟨b, o, none⟩ v) x := by
  simp only [World.setCell, World.ext]
  congr 1
  apply Array.ext
  · simp
  · intro i h1 h2
    simp only [Array.getElem_modify, Array.getElem_append, Array.size_modify]
    split <;> rename_i hi
    · subst hi; simp [h]
    · split <;> rfl
theorem World.ext_ext (y : Xt) : World.ext (World.ext w x) y = World.ext w ⟨x.objs ++ y.objs, y.n⟩ := by simp [World.ext, Array.append_assoc]
theorem World.ext_refl : World.ext w ⟨#[], w.drawn⟩ = w := by simp [World.ext]
theorem World.alloc_ext (o : Obj) : w.alloc o = World.ext w ⟨#[o], w.drawn⟩ := by
  show _ = ({ w with heap := w.heap ++ #[o] } : World)
  have h : w.heap ++ #[o] = w.heap.push o := by simp
  rw [h]
  rfl
theorem World.below_ext : Below w.heap.size w (World.ext w x) := ⟨rfl, rfl, rfl, by rw [World.size_ext]; omega, fun k hk => World.heap_ext w x k hk⟩
end

/-- w' is w grown. -/
def X (w w' : World) : Prop := ∃ x, w' = World.ext w x
theorem X.refl (w : World) : X w w := ⟨_, (World.ext_refl w).symm⟩
theorem X.ext {a w : World} (h : X a w) (x : Xt) : X a (World.ext w x) := by
  obtain ⟨y, rfl⟩ := h
  exact ⟨_, World.ext_ext a y x⟩
theorem X.trans {a b c : World} (h : X a b) (k : X b c) : X a c := by
  obtain ⟨y, rfl⟩ := k
  exact h.ext y
theorem X.alloc {a w : World} (h : X a w) (o : Obj) : X a (w.alloc o) := by rw [World.alloc_ext]; exact h.ext _
theorem X.drew {a w : World} (h : X a w) : X a w.drew := by
  obtain ⟨y, rfl⟩ := h
  exact ⟨⟨y.objs, y.n + 1⟩, rfl⟩
theorem X.drewN {a w : World} (h : X a w) (n : Nat) : X a (w.drewN n) := by
  obtain ⟨y, rfl⟩ := h
  exact ⟨⟨y.objs, y.n + n⟩, rfl⟩
theorem X.drawn {a w : World} (h : X a w) (n : Nat) : X a { w with drawn := n } := by
  obtain ⟨y, rfl⟩ := h
  exact ⟨⟨y.objs, n⟩, rfl⟩
theorem X.below {w w' : World} (h : X w w') : Below w.heap.size w w' := by
  obtain ⟨x, rfl⟩ := h
  exact World.below_ext w x
theorem X.of_below {w w' : World} (h : Below w.heap.size w w') : X w w' := by
  refine ⟨⟨w'.heap.extract w.heap.size w'.heap.size, w'.drawn⟩, ?_⟩
  have hh : w.heap ++ w'.heap.extract w.heap.size w'.heap.size = w'.heap := by
    apply Array.ext
    · have := h.size
      simp
      omega
    · intro i h1 h2
      rw [Array.getElem_append]
      split
      · rename_i hi
        have := h.block i hi
        rw [Array.getElem?_eq_getElem h2, Array.getElem?_eq_getElem hi] at this
        injection this with this
        exact this.symm
      · rename_i hi
        rw [Array.getElem_extract]
        congr 1
        omega
  have e1 := h.os
  have e2 := h.tape
  have e3 := h.output
  cases w'
  cases w
  simp only [World.ext] at *
  subst e1 e2 e3
  rw [hh]
theorem X.size {w w' : World} (h : X w w') : w.heap.size ≤ w'.heap.size := h.below.size
theorem X.cell {w w' : World} (h : X w w') {p : Addr} (hp : p.block < w.heap.size) : w'.cell? p = w.cell? p := h.below.cell hp

theorem X.setCell {w w' : World} (h : X w w') {p : Addr} (hp : w.heap.size ≤ p.block) (u : Value) : X w (w'.setCell p u) := X.of_below (h.below.setCell hp u)
/-- Gives the world at a point of the code a name. -/
theorem wp_name {P : Program} {c : Code} {Q : Exit → Act → World → Prop} {a : Act} {w : World} (h : ∀ W, W = w → c.wp P Q a W) : c.wp P Q a w := h w rfl

theorem X.of_ext {w w' : World} {x : Xt} (h : X (World.ext w x) w') : ∃ z, w' = World.ext w z := ((X.refl w).ext x).trans h

/-- Block b holds the cells cs. -/
def Box (w : World) (b : Nat) (cs : Array Value) : Prop := b < w.heap.size ∧ ∀ i, w.cell? ⟨b, i, none⟩ = cs[i]?
theorem Box.mono {w w' : World} {b : Nat} {cs : Array Value} (h : Box w b cs) (hx : X w w') : Box w' b cs :=
  ⟨Nat.lt_of_lt_of_le h.1 hx.size, fun i => (hx.cell (p := ⟨b, i, none⟩) h.1).trans (h.2 i)⟩
theorem Box.new (w : World) (cs : Array Value) (t : TypeId) : Box (w.alloc (.cells cs t)) w.heap.size cs :=
  ⟨by simp, fun i => by simp⟩
theorem boxes1 {w W : World} {c1 : Array Value} {t1 : TypeId} (h : W = w.alloc (.cells c1 t1)) : Box W w.heap.size c1 ∧ X w W := by
  subst h
  exact ⟨Box.new _ _ _, (X.refl w).alloc _⟩
theorem boxes1_ext {w W : World} {c1 : Array Value} {t1 : TypeId} {y : Xt} (h : W = World.ext (w.alloc (.cells c1 t1)) y) : Box W w.heap.size c1 ∧ X w W := by
  subst h
  exact ⟨(Box.new _ _ _).mono ((X.refl _).ext _), ((X.refl w).alloc _).ext _⟩
theorem boxes1_X {w W : World} {c1 : Array Value} {t1 : TypeId} (h : X (w.alloc (.cells c1 t1)) W) : Box W w.heap.size c1 ∧ X w W :=
  ⟨(Box.new _ _ _).mono h, ((X.refl w).alloc _).trans h⟩
theorem boxes2 {w W : World} {c1 c2 : Array Value} {t1 t2 : TypeId} (h : W = (w.alloc (.cells c1 t1)).alloc (.cells c2 t2)) : Box W w.heap.size c1 ∧ Box W (w.heap.size + 1) c2 ∧ X w W := by
  subst h
  refine ⟨(Box.new _ _ _).mono ((X.refl _).alloc _), ?_, ((X.refl w).alloc _).alloc _⟩
  have := Box.new (w.alloc (.cells c1 t1)) c2 t2
  simpa using this
theorem boxes3 {w W : World} {c1 c2 c3 : Array Value} {t1 t2 t3 : TypeId} (h : W = ((w.alloc (.cells c1 t1)).alloc (.cells c2 t2)).alloc (.cells c3 t3)) :
    Box W w.heap.size c1 ∧ Box W (w.heap.size + 1) c2 ∧ Box W (w.heap.size + 2) c3 ∧ X w W := by
  subst h
  obtain ⟨h1, h2, h3⟩ := boxes2 (W := (w.alloc (.cells c1 t1)).alloc (.cells c2 t2)) rfl
  refine ⟨h1.mono ((X.refl _).alloc _), h2.mono ((X.refl _).alloc _), ?_, h3.alloc _⟩
  have := Box.new ((w.alloc (.cells c1 t1)).alloc (.cells c2 t2)) c3 t3
  simpa using this

section
variable {P : Program}
/-- A region that draws its order, whose operations only read and whose callees only read and make memory: walked once. -/
theorem wp_region_grow {id : Nat} {Q : Exit → Act → World → Prop} {a : Act} {w : World} {x0 : Xt} {l : List Oper} (hm : P.follows .mixedOrders = true) (hB : Region.lexB .any l.toArray = true)
    (h : wpQuiet P l.toArray (fun w' => ∃ x, w' = World.ext w x) (fun a' => ∀ w', (∃ x, w' = World.ext w x) → Q .normal a' w') l a) : (Code.region id l.toArray true).wp P Q a (World.ext w x0) :=
  wp_region_quiet (C := fun w' => ∃ x, w' = World.ext w x) hm hB (((X.refl w).ext x0).drawn _) (by simpa using h)
theorem wp_region_grow0 {id : Nat} {Q : Exit → Act → World → Prop} {a : Act} {w : World} {l : List Oper} (hm : P.follows .mixedOrders = true) (hB : Region.lexB .any l.toArray = true)
    (h : wpQuiet P l.toArray (fun w' => ∃ x, w' = World.ext w x) (fun a' => ∀ w', (∃ x, w' = World.ext w x) → Q .normal a' w') l a) : (Code.region id l.toArray true).wp P Q a w :=
  wp_region_quiet (C := fun w' => ∃ x, w' = World.ext w x) hm hB ((X.refl w).drawn _) (by simpa using h)
/-- A callee's contract, met in a world of the class. -/
theorem grow_of {f : FuncId} {args : Array Value} {w : World} {x : Xt} {v : Value} (h : Calls P f args (World.ext w x) fun e w' => e = .returned v ∧ X (World.ext w x) w') :
    Calls P f args (World.ext w x) fun e w'' => e = .returned v ∧ ∃ x, w'' = World.ext w x :=
  h.mono fun _ _ ⟨he, hx⟩ => ⟨he, hx.of_ext⟩
end

end Go.Proofs.YtjlooplpjliaiaaDoor
