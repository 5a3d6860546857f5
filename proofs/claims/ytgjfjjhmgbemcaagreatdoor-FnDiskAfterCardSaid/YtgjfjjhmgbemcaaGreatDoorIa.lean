/- Several texts in one: Base, Data, Rw, Raw, Sz, Make, Mk, SzW, EqW, EqS, ToS, ToW, ToT, MkW. No condition but lengths. -/
import Derived.WalkKit
import Derived.WalkSpells
import Derived.WalkLawsBesides
import Derived.Deep.QuietTactic
import Derived.BigQuiet
import Derived.Lib.Hide
import Derived.Deep.AppendLies
import Derived.Maps.AppendAt
import Derived.Deep.Slices
import Derived.Deep.Fields
import Derived.ChangeSame
import Derived.ProofKit
import Derived.OpenShut
import Derived.OwnWalk
import Derived.Test.YtgjfjjhmgbemcaaGreatDoorProg
import Derived.IntWalk
import Derived.Deep.OwnRows
import Derived.Laws.BytesArg
namespace Go.Proofs.YtgjfjjhmgbemcaaGreatDoor
open Go.RowKit

structure Xt where
  objs : Array Obj
  n : Nat
instance : Inhabited Xt := ⟨⟨#[], 0⟩⟩
def World.ext (w : World) (x : Xt) : World := { w with heap := w.heap ++ x.objs, drawn := x.n }
section
variable (w : World) (x : Xt)
theorem World.size_ext : (World.ext w x).heap.size = w.heap.size + x.objs.size := by simp [World.ext]
theorem World.heap_ext (k : Nat) (h : k < w.heap.size) : (World.ext w x).heap[k]? = w.heap[k]? := by
  show (w.heap ++ x.objs)[k]? = _
  rw [Array.getElem?_append_left h]
@[go_sem] theorem World.cell?_ext (b o : Nat) (h : b < w.heap.size) : (World.ext w x).cell? ⟨b, o, none⟩ = w.cell? ⟨b, o, none⟩ :=
  World.cell?_of_block (w := w) (World.heap_ext w x b h)
@[go_sem] theorem World.frozen?_ext (b o : Nat) (h : b < w.heap.size) : (World.ext w x).frozen? ⟨b, o, none⟩ = w.frozen? ⟨b, o, none⟩ :=
  World.frozen?_of_block (w := w) (World.heap_ext w x b h)
@[go_sem] theorem World.lt_ext (b : Nat) (h : b < w.heap.size) : b < (World.ext w x).heap.size := by rw [World.size_ext]; omega
@[go_sem] theorem World.ext_drew : World.ext w.drew x = World.ext w x := rfl
@[go_sem] theorem World.tape_ext : (World.ext w x).tape = w.tape := rfl
@[go_sem] theorem World.setCell_ext (b o : Nat) (v : Value) (h : b < w.heap.size) : (World.ext w x).setCell ⟨b, o, none⟩ v = World.ext (w.setCell ⟨b, o, none⟩ v) x := by
  simp only [World.setCell, World.ext]
  congr 1
  apply Array.ext
  · simp
  · intro i h1 h2
    simp only [Array.getElem_modify, Array.getElem_append, Array.size_modify]
    split <;> rename_i hi
    · subst hi; simp [h]
    · split <;> rfl
theorem World.ext_ext (y : Xt) : World.ext (World.ext w x) y = World.ext w ⟨x.objs ++ y.objs, y.n⟩ := by simp [World.ext, Array.append_assoc]
theorem World.ext_refl : World.ext w ⟨#[], w.drawn⟩ = w := by simp [World.ext]
theorem World.alloc_ext (o : Obj) : w.alloc o = World.ext w ⟨#[o], w.drawn⟩ := by
  show _ = ({ w with heap := w.heap ++ #[o] } : World)
  have h : w.heap ++ #[o] = w.heap.push o := by simp
  rw [h]
  rfl
theorem World.below_ext : Below w.heap.size w (World.ext w x) := ⟨rfl, rfl, rfl, by rw [World.size_ext]; omega, fun k hk => World.heap_ext w x k hk⟩
end

/-- w' is w grown. -/
def X (w w' : World) : Prop := ∃ x, w' = World.ext w x
theorem X.refl (w : World) : X w w := ⟨_, (World.ext_refl w).symm⟩
theorem X.ext {a w : World} (h : X a w) (x : Xt) : X a (World.ext w x) := by
  obtain ⟨y, rfl⟩ := h
  exact ⟨_, World.ext_ext a y x⟩
theorem X.trans {a b c : World} (h : X a b) (k : X b c) : X a c := by
  obtain ⟨y, rfl⟩ := k
  exact h.ext y
theorem X.alloc {a w : World} (h : X a w) (o : Obj) : X a (w.alloc o) := by rw [World.alloc_ext]; exact h.ext _
theorem X.drew {a w : World} (h : X a w) : X a w.drew := by
  obtain ⟨y, rfl⟩ := h
  exact ⟨⟨y.objs, y.n + 1⟩, rfl⟩
theorem X.drewN {a w : World} (h : X a w) (n : Nat) : X a (w.drewN n) := by
  obtain ⟨y, rfl⟩ := h
  exact ⟨⟨y.objs, y.n + n⟩, rfl⟩
theorem X.drawn {a w : World} (h : X a w) (n : Nat) : X a { w with drawn := n } := by
  obtain ⟨y, rfl⟩ := h
  exact ⟨⟨y.objs, n⟩, rfl⟩
theorem X.below {w w' : World} (h : X w w') : Below w.heap.size w w' := by
  obtain ⟨x, rfl⟩ := h
  exact World.below_ext w x
theorem X.of_below {w w' : World} (h : Below w.heap.size w w') : X w w' := by
  refine ⟨⟨w'.heap.extract w.heap.size w'.heap.size, w'.drawn⟩, ?_⟩
  have hh : w.heap ++ w'.heap.extract w.heap.size w'.heap.size = w'.heap := by
    apply Array.ext
    · have := h.size
      simp
      omega
    · intro i h1 h2
      rw [Array.getElem_append]
      split
      · rename_i hi
        have := h.block i hi
        rw [Array.getElem?_eq_getElem h2, Array.getElem?_eq_getElem hi] at this
        injection this with this
        exact this.symm
      · rename_i hi
        rw [Array.getElem_extract]
        congr 1
        omega
  have e1 := h.os
  have e2 := h.tape
  have e3 := h.output
  cases w'
  cases w
  simp only [World.ext] at *
  subst e1 e2 e3
  rw [hh]
theorem X.size {w w' : World} (h : X w w') : w.heap.size ≤ w'.heap.size := h.below.size
theorem X.cell {w w' : World} (h : X w w') {p : Addr} (hp : p.block < w.heap.size) : w'.cell? p = w.cell? p := h.below.cell hp

theorem X.setCell {w w' : World} (h : X w w') {p : Addr} (hp : w.heap.size ≤ p.block) (u : Value) : X w (w'.setCell p u) := X.of_below (h.below.setCell hp u)
/-- Gives the world at a point of the code a name. -/
theorem wp_name {P : Program} {c : Code} {Q : Exit → Act → World → Prop} {a : Act} {w : World} (h : ∀ W, W = w → c.wp P Q a W) : c.wp P Q a w := h w rfl

theorem X.of_ext {w w' : World} {x : Xt} (h : X (World.ext w x) w') : ∃ z, w' = World.ext w z := ((X.refl w).ext x).trans h

/-- Block b holds the cells cs. -/
def Box (w : World) (b : Nat) (cs : Array Value) : Prop := b < w.heap.size ∧ ∀ i, w.cell? ⟨b, i, none⟩ = cs[i]?
theorem Box.mono {w w' : World} {b : Nat} {cs : Array Value} (h : Box w b cs) (hx : X w w') : Box w' b cs :=
  ⟨Nat.lt_of_lt_of_le h.1 hx.size, fun i => (hx.cell (p := ⟨b, i, none⟩) h.1).trans (h.2 i)⟩
theorem Box.new (w : World) (cs : Array Value) (t : TypeId) : Box (w.alloc (.cells cs t)) w.heap.size cs :=
  ⟨by simp, fun i => by simp⟩
theorem boxes1 {w W : World} {c1 : Array Value} {t1 : TypeId} (h : W = w.alloc (.cells c1 t1)) : Box W w.heap.size c1 ∧ X w W := by
  subst h
  exact ⟨Box.new _ _ _, (X.refl w).alloc _⟩
theorem boxes1_X {w W : World} {c1 : Array Value} {t1 : TypeId} (h : X (w.alloc (.cells c1 t1)) W) : Box W w.heap.size c1 ∧ X w W :=
  ⟨(Box.new _ _ _).mono h, ((X.refl w).alloc _).trans h⟩
theorem boxes2 {w W : World} {c1 c2 : Array Value} {t1 t2 : TypeId} (h : W = (w.alloc (.cells c1 t1)).alloc (.cells c2 t2)) : Box W w.heap.size c1 ∧ Box W (w.heap.size + 1) c2 ∧ X w W := by
  subst h
  refine ⟨(Box.new _ _ _).mono ((X.refl _).alloc _), ?_, ((X.refl w).alloc _).alloc _⟩
  have := Box.new (w.alloc (.cells c1 t1)) c2 t2
  simpa using this
section
variable {P : Program}
/-- A region that draws its order, whose operations only read and whose callees only read and make memory: walked once. -/
theorem wp_region_grow {id : Nat} {Q : Exit → Act → World → Prop} {a : Act} {w : World} {x0 : Xt} {l : List Oper} (hm : P.follows .mixedOrders = true) (hB : Region.lexB .any l.toArray = true)
    (h : wpQuiet P l.toArray (fun w' => ∃ x, w' = World.ext w x) (fun a' => ∀ w', (∃ x, w' = World.ext w x) → Q .normal a' w') l a) : (Code.region id l.toArray true).wp P Q a (World.ext w x0) :=
  wp_region_quiet (C := fun w' => ∃ x, w' = World.ext w x) hm hB (((X.refl w).ext x0).drawn _) (by simpa using h)
theorem wp_region_grow0 {id : Nat} {Q : Exit → Act → World → Prop} {a : Act} {w : World} {l : List Oper} (hm : P.follows .mixedOrders = true) (hB : Region.lexB .any l.toArray = true)
    (h : wpQuiet P l.toArray (fun w' => ∃ x, w' = World.ext w x) (fun a' => ∀ w', (∃ x, w' = World.ext w x) → Q .normal a' w') l a) : (Code.region id l.toArray true).wp P Q a w :=
  wp_region_quiet (C := fun w' => ∃ x, w' = World.ext w x) hm hB ((X.refl w).drawn _) (by simpa using h)
/-- A callee's contract, met in a world of the class. -/
theorem grow_of {f : FuncId} {args : Array Value} {w : World} {x : Xt} {v : Value} (h : Calls P f args (World.ext w x) fun e w' => e = .returned v ∧ X (World.ext w x) w') :
    Calls P f args (World.ext w x) fun e w'' => e = .returned v ∧ ∃ x, w'' = World.ext w x :=
  h.mono fun _ _ ⟨he, hx⟩ => ⟨he, hx.of_ext⟩
end

end Go.Proofs.YtgjfjjhmgbemcaaGreatDoor

namespace Go.Proofs.YtgjfjjhmgbemcaaGreatDoor
open Go.RowKit

structure St where
  kind : Int
  mod : List UInt8
  level : Int
  name : List UInt8
  val : Int
deriving DecidableEq, Inhabited
structure Fi where
  root : Int
  pkg : List UInt8
  name : List UInt8
  init : Bool
  stamp : Int
  body : List St
deriving DecidableEq, Inhabited

/-! ### Indices -/
def nth {α : Type} [Inhabited α] (l : List α) (k : Nat) : α := l.getD k default
theorem nth_eq {α : Type} [Inhabited α] {l : List α} {k : Nat} (h : k < l.length) : nth l k = l[k] := by
  simp [nth, h]
theorem nth_get? {α : Type} [Inhabited α] {l : List α} {k : Nat} (h : k < l.length) : l[k]? = some (nth l k) := by
  rw [nth_eq h, List.getElem?_eq_getElem h]
theorem nth_mem {α : Type} [Inhabited α] {l : List α} {k : Nat} (h : k < l.length) : nth l k ∈ l := by
  rw [nth_eq h]; exact List.getElem_mem h
theorem nth_append_left {α : Type} [Inhabited α] {l m : List α} {k : Nat} (h : k < l.length) : nth (l ++ m) k = nth l k := by
  rw [nth_eq (by rw [List.length_append]; omega), nth_eq h, List.getElem_append_left h]
theorem nth_append_right {α : Type} [Inhabited α] {l m : List α} (k : Nat) : nth (l ++ m) (l.length + k) = nth m k := by
  unfold nth
  simp [List.getD_eq_getElem?_getD, List.getElem?_append_right]
theorem nth_take {α : Type} [Inhabited α] {l : List α} {k n : Nat} (h : k < n) : nth (l.take n) k = nth l k := by
  unfold nth; simp [List.getD_eq_getElem?_getD, h]
theorem nth_drop {α : Type} [Inhabited α] {l : List α} {k n : Nat} : nth (l.drop n) k = nth l (n + k) := by
  unfold nth; simp [List.getD_eq_getElem?_getD, List.getElem?_drop]
theorem take_succ_nth {α : Type} [Inhabited α] {l : List α} {k : Nat} (h : k < l.length) : l.take (k + 1) = l.take k ++ [nth l k] := by
  rw [List.take_succ_eq_append_getElem h, nth_eq h]
theorem drop_nth {α : Type} [Inhabited α] {l : List α} {k : Nat} (h : k < l.length) : l.drop k = nth l k :: l.drop (k + 1) := by
  rw [nth_eq h]; exact List.drop_eq_getElem_cons h

def allN (p : Nat → Bool) (n : Nat) : Bool := (List.range n).all p
def anyN (p : Nat → Bool) (n : Nat) : Bool := (List.range n).any p
def firstN (p : Nat → Bool) (n : Nat) : Int := match (List.range n).find? p with | some i => i | none => -1
def colN {α : Type} (g : Nat → List α) (n : Nat) : List α := (List.range n).flatMap g
theorem allN_succ {p : Nat → Bool} {k : Nat} : allN p (k + 1) = (allN p k && p k) := by
  simp [allN, List.range_succ, List.all_append]
theorem anyN_succ {p : Nat → Bool} {k : Nat} : anyN p (k + 1) = (anyN p k || p k) := by
  simp [anyN, List.range_succ, List.any_append]
theorem allN_iff {p : Nat → Bool} {n : Nat} : allN p n = true ↔ ∀ k, k < n → p k = true := by simp [allN]
theorem anyN_iff {p : Nat → Bool} {n : Nat} : anyN p n = true ↔ ∃ k, k < n ∧ p k = true := by simp [anyN]
theorem anyN_false {p : Nat → Bool} {n : Nat} : anyN p n = false ↔ ∀ k, k < n → p k = false := by simp [anyN]
theorem allN_false {p : Nat → Bool} {n : Nat} : allN p n = false ↔ ∃ k, k < n ∧ p k = false := by simp [allN]
theorem allN_not {p : Nat → Bool} {k n : Nat} (h : p k = false) (hk : k < n) : allN p n = false := allN_false.2 ⟨k, hk, h⟩
theorem anyN_yes {p : Nat → Bool} {k n : Nat} (h : p k = true) (hk : k < n) : anyN p n = true := anyN_iff.2 ⟨k, hk, h⟩
theorem allN_next {p : Nat → Bool} {k : Nat} (h : allN p k = true) (hk : p k = true) : allN p (k + 1) = true := by rw [allN_succ, h, hk]; rfl
theorem anyN_next {p : Nat → Bool} {k : Nat} (h : anyN p k = false) (hk : p k = false) : anyN p (k + 1) = false := by rw [anyN_succ, h, hk]; rfl
theorem allN_congr {p q : Nat → Bool} {n : Nat} (h : ∀ k, k < n → p k = q k) : allN p n = allN q n := by
  rw [Bool.eq_iff_iff, allN_iff, allN_iff]
  exact ⟨fun H k hk => by rw [← h k hk]; exact H k hk, fun H k hk => by rw [h k hk]; exact H k hk⟩
theorem anyN_congr {p q : Nat → Bool} {n : Nat} (h : ∀ k, k < n → p k = q k) : anyN p n = anyN q n := by
  rw [Bool.eq_iff_iff, anyN_iff, anyN_iff]
  exact ⟨fun ⟨k, hk, H⟩ => ⟨k, hk, by rw [← h k hk]; exact H⟩, fun ⟨k, hk, H⟩ => ⟨k, hk, by rw [h k hk]; exact H⟩⟩
theorem firstN_some {p : Nat → Bool} {k n : Nat} (hno : anyN p k = false) (h : p k = true) (hk : k < n) : firstN p n = k := by
  have : (List.range n).find? p = some k := by
    rw [List.find?_range_eq_some]
    exact ⟨h, by simpa using hk, fun j hj => by simpa using anyN_false.1 hno j hj⟩
  simp [firstN, this]
theorem firstN_none {p : Nat → Bool} {n : Nat} (hno : anyN p n = false) : firstN p n = -1 := by
  have : (List.range n).find? p = none := by
    rw [List.find?_eq_none]
    intro x hx
    have := anyN_false.1 hno x (by simpa using hx)
    simp [this]
  simp [firstN, this]
theorem firstN_cases (p : Nat → Bool) (n : Nat) : (anyN p n = false ∧ firstN p n = -1) ∨ ∃ k, k < n ∧ p k = true ∧ anyN p k = false ∧ firstN p n = (k : Int) := by
  cases h : (List.range n).find? p with
  | none => exact .inl ⟨by rw [anyN_false]; intro k hk; rw [List.find?_eq_none] at h; simpa using h k (by simpa using hk), by simp [firstN, h]⟩
  | some k =>
    rw [List.find?_range_eq_some] at h
    exact .inr ⟨k, by simpa using h.2.1, h.1, anyN_false.2 fun j hj => by simpa using h.2.2 j hj, by simp [firstN, List.find?_range_eq_some.2 h]⟩
theorem firstN_congr {p q : Nat → Bool} {n : Nat} (h : ∀ k, k < n → p k = q k) : firstN p n = firstN q n := by
  rcases firstN_cases p n with ⟨h1, h2⟩ | ⟨k, hk, h1, h2, h3⟩
  · rw [h2, firstN_none (by rw [← anyN_congr h]; exact h1)]
  · rw [h3, firstN_some (by rw [← anyN_congr (fun j hj => h j (by omega))]; exact h2) (by rw [← h k hk]; exact h1) hk]
theorem firstN_ge {p : Nat → Bool} {n : Nat} : -1 ≤ firstN p n ∧ firstN p n < n := by
  rcases firstN_cases p n with ⟨_, h⟩ | ⟨k, hk, _, _, h⟩ <;> rw [h] <;> omega
theorem firstN_nonneg {p : Nat → Bool} {n : Nat} : (0 ≤ firstN p n) = (anyN p n = true) := by
  apply propext
  rcases firstN_cases p n with ⟨h1, h⟩ | ⟨k, hk, h1, _, h⟩ <;> rw [h]
  · simp [h1]
  · simp [anyN_yes h1 hk]

def rangeB (n lo hi : Int) : Bool := decide (lo ≤ n) && decide (n ≤ hi)
theorem rangeB_iff {n lo hi : Int} : rangeB n lo hi = true ↔ lo ≤ n ∧ n ≤ hi := by simp [rangeB]

/-! ### Slices in memory -/
/-- What was in the blocks from B on is there. -/
structure Fr (B : Nat) (w w' : World) : Prop where
  size : w.heap.size ≤ w'.heap.size
  block : ∀ k, B ≤ k → k < w.heap.size → w'.heap[k]? = w.heap[k]?
theorem Fr.refl (B : Nat) (w : World) : Fr B w w := ⟨Nat.le_refl _, fun _ _ _ => rfl⟩
theorem Fr.trans {B : Nat} {a b c : World} (h : Fr B a b) (k : Fr B b c) : Fr B a c :=
  ⟨Nat.le_trans h.size k.size, fun i hi hl => (k.block i hi (Nat.lt_of_lt_of_le hl h.size)).trans (h.block i hi hl)⟩
theorem X.fr {w w' : World} (h : X w w') (B : Nat) : Fr B w w' := ⟨h.size, fun k _ hk => h.below.block k hk⟩
theorem Fr.cell {B : Nat} {w w' : World} (h : Fr B w w') {b o : Nat} (hB : B ≤ b) (hb : b < w.heap.size) : w'.cell? ⟨b, o, none⟩ = w.cell? ⟨b, o, none⟩ :=
  World.cell?_of_block (w := w) (h.block b hB hb)
theorem Fr.mono {B B' : Nat} {w w' : World} (h : Fr B w w') (hB : B ≤ B') : Fr B' w w' := ⟨h.size, fun k hk => h.block k (by omega)⟩

theorem fr_swap (w : World) (o o' : Obj) (x : Xt) : Fr (w.heap.size + 1) (World.ext (w.alloc o) x) (World.ext (w.alloc o') x) := by
  refine ⟨by simp [World.size_ext], fun k hk hl => ?_⟩
  show ((w.heap.push o') ++ x.objs)[k]? = ((w.heap.push o) ++ x.objs)[k]?
  rw [Array.getElem?_append_right (by simp; omega), Array.getElem?_append_right (by simp; omega)]
  simp
/-- The slice a (n elements) holds the cells cs, in a block from B on. -/
def Sl (w : World) (B : Nat) (a : Option Addr) (n : Nat) (cs : List Value) : Prop :=
  0 < n → ∃ b off, a = some ⟨b, off, none⟩ ∧ B ≤ b ∧ b < w.heap.size ∧ ∀ i (h : i < cs.length), w.cell? ⟨b, off + i, none⟩ = some cs[i]
theorem Sl.mono {w w' : World} {B : Nat} {a : Option Addr} {n : Nat} {cs : List Value} (h : Sl w B a n cs) (hx : Fr B w w') : Sl w' B a n cs := fun hn => by
  obtain ⟨b, off, ha, hB, hb, hc⟩ := h hn
  exact ⟨b, off, ha, hB, Nat.lt_of_lt_of_le hb hx.size, fun i hi => (hx.cell hB hb).trans (hc i hi)⟩
theorem Sl.less {w : World} {B B' : Nat} {a : Option Addr} {n : Nat} {cs : List Value} (h : Sl w B a n cs) (hB : B' ≤ B) : Sl w B' a n cs := fun hn => by
  obtain ⟨b, off, ha, hb, r⟩ := h hn
  exact ⟨b, off, ha, by omega, r⟩
theorem row_cell {w : World} {B e size n c g : Nat} {xs : List Value} (h : w.ownsRow B e size (.slice (some ⟨g, 0, none⟩) n c) n xs) (j : Nat) (u : Value) (hu : xs[j]? = some u) : w.cell? ⟨g, j, none⟩ = some u := by
  have := h.cells (g := g) rfl j u hu
  have hadd : (⟨g, 0, none⟩ : Addr).add j = ⟨g, j, none⟩ := by unfold Addr.add; split <;> simp_all
  rwa [hadd] at this
theorem own_fr {w w' : World} {B e size n : Nat} {v : Value} {xs : List Value} (h : w.ownsRow B e size v n xs) (hx : Fr B w w') : w'.ownsRow B e size v n xs := by
  refine ⟨h.1, ?_⟩
  rcases h.2 with h0 | ⟨g, cap, cur, hv, hB, hg, r⟩
  · exact .inl h0
  · exact .inr ⟨g, cap, cur, hv, hB, (hx.block g hB (Array.getElem?_eq_some_iff.1 hg).1).trans hg, r⟩
theorem own_less {w : World} {B B' e size n : Nat} {v : Value} {xs : List Value} (h : w.ownsRow B e size v n xs) (hB : B' ≤ B) : w.ownsRow B' e size v n xs := by
  refine ⟨h.1, ?_⟩
  rcases h.2 with h0 | ⟨g, cap, cur, hv, hb, r⟩
  · exact .inl h0
  · exact .inr ⟨g, cap, cur, hv, by omega, r⟩
theorem own_slice {w : World} {B e size n : Nat} {v : Value} {xs : List Value} (h : w.ownsRow B e size v n xs) : ∃ a c, v = .slice a n c := by
  rcases h.2 with ⟨rfl, rfl⟩ | ⟨g, cap, cur, rfl, _⟩
  · exact ⟨_, _, rfl⟩
  · exact ⟨_, _, rfl⟩
theorem Sl.of_own {w : World} {B e size n c : Nat} {a : Option Addr} {xs : List Value} (h : w.ownsRow B e size (.slice a n c) n xs) : Sl w B a n xs := fun hn => by
  obtain ⟨g, cap, hv, hB, hlt⟩ := h.form hn
  have ha : a = some ⟨g, 0, none⟩ := by injection hv
  subst ha
  exact ⟨g, 0, rfl, hB, hlt, fun i hi => by rw [Nat.zero_add]; exact row_cell h i _ (List.getElem?_eq_getElem hi)⟩
theorem flat_length {α : Type} (n : Nat) (g : α → List Value) (hg : ∀ a, (g a).length = n) (l : List α) : (l.flatMap g).length = l.length * n := by
  induction l with
  | nil => simp
  | cons a l ih => rw [List.flatMap_cons, List.length_append, hg, ih, List.length_cons, Nat.succ_mul]; omega
theorem flat_get {α : Type} (n : Nat) (g : α → List Value) (hg : ∀ a, (g a).length = n) (l : List α) (i j : Nat) (hi : i < l.length) (hj : j < n) (h : i * n + j < (l.flatMap g).length) :
   (l.flatMap g)[i * n + j] = (g l[i])[j]'(by rw [hg]; exact hj) := by
  induction l generalizing i with
  | nil => cases hi
  | cons a l ih =>
    cases i with
    | zero => simp only [List.flatMap_cons, Nat.zero_mul, Nat.zero_add]; rw [List.getElem_append_left (by rw [hg]; exact hj)]; rfl
    | succ i =>
      simp only [List.flatMap_cons]
      rw [List.getElem_append_right (by rw [hg, Nat.succ_mul]; omega)]
      simp only [List.getElem_cons_succ]
      rw [← ih i (by simpa using hi) (by rw [List.flatMap_cons, List.length_append, hg, Nat.succ_mul] at h; omega)]
      congr 1
      rw [hg, Nat.succ_mul]; omega
/-- The cells of element k. -/
theorem Sl.elem {α : Type} [Inhabited α] {w : World} {B s : Nat} {a : Option Addr} {n : Nat} {g : α → List Value} {l : List α} (h : Sl w B a n (l.flatMap g)) (hg : ∀ a, (g a).length = s) (hl : n = l.length) {k : Nat} (hk : k < n) :
    ∃ b off, a = some ⟨b, off, none⟩ ∧ B ≤ b ∧ b < w.heap.size ∧ ∀ j (hj : j < s), w.cell? ⟨b, off + (k * s + j), none⟩ = some ((g (nth l k))[j]'(by rw [hg]; exact hj)) := by
  obtain ⟨b, off, ha, hB, hb, hc⟩ := h (by omega)
  refine ⟨b, off, ha, hB, hb, fun j hj => ?_⟩
  have hb : k * s + j < (l.flatMap g).length := by
    rw [flat_length s g hg]
    have : (k + 1) * s ≤ l.length * s := Nat.mul_le_mul_right s (by omega)
    rw [Nat.succ_mul] at this
    omega
  rw [hc _ hb, flat_get s g hg l k j (by omega) hj hb]
  simp only [nth_eq (show k < l.length by omega)]

abbrev ints (l : List Int) : List Value := l.flatMap fun x => [.int .i64 x]
abbrev strs (l : List (List UInt8)) : List Value := l.flatMap fun x => [.string ⟨(x).toArray⟩]
theorem flat_snoc {α : Type} (g : α → List Value) (l : List α) (x : α) : (l ++ [x]).flatMap g = l.flatMap g ++ g x := by simp
theorem own_new {w W : World} {cs : Array Value} {e size n : Nat} (h : W = w.alloc (.cells cs e)) (hs : cs.size = n * size) (hn : n ≤ 4611686018427387904) :
    ∃ x, W = World.ext w x ∧ (World.ext w x).ownsRow w.heap.size e size (.slice (some ⟨w.heap.size, 0, none⟩) n n) n cs.toList := by
  obtain ⟨x, hx⟩ := (X.refl w).alloc (.cells cs e)
  refine ⟨x, h.trans hx, ?_⟩
  rw [← hx]
  exact World.ownsRow_lit w cs n (Nat.le_refl _) (by unfold maxLen; omega) hs
theorem own_new_ext {V W : World} {x : Xt} {cs : Array Value} {e size n : Nat} (h : W = (World.ext V x).alloc (.cells cs e)) (hs : cs.size = n * size) (hn : n ≤ 4611686018427387904) :
    ∃ z, W = World.ext V z ∧ (World.ext V z).ownsRow V.heap.size e size (.slice (some ⟨(World.ext V x).heap.size, 0, none⟩) n n) n cs.toList := by
  obtain ⟨z, hz⟩ := ((X.refl V).ext x).alloc (.cells cs e)
  refine ⟨z, h.trans hz, ?_⟩
  rw [← hz]
  exact World.ownsRow_lit (World.ext V x) cs n (by rw [World.size_ext]; omega) (by unfold maxLen; omega) hs
/-- Numbers. -/
def IntsAt (w : World) (B : Nat) (a : Option Addr) (n : Nat) (l : List Int) : Prop :=
  n = l.length ∧ n ≤ 2097152 ∧ Sl w B a n (l.flatMap fun x => [.int .i64 x])
theorem IntsAt.mono {w w' : World} {B : Nat} {a : Option Addr} {n : Nat} {l : List Int} (h : IntsAt w B a n l) (hx : Fr B w w') : IntsAt w' B a n l := ⟨h.1, h.2.1, h.2.2.mono hx⟩
theorem IntsAt.less {w : World} {B B' : Nat} {a : Option Addr} {n : Nat} {l : List Int} (h : IntsAt w B a n l) (hB : B' ≤ B) : IntsAt w B' a n l := ⟨h.1, h.2.1, h.2.2.less hB⟩
theorem IntsAt.at_ {w : World} {B : Nat} {a : Option Addr} {n : Nat} {l : List Int} (h : IntsAt w B a n l) {k : Nat} (hk : k < n) :
    ∃ b off, a = some ⟨b, off, none⟩ ∧ B ≤ b ∧ b < w.heap.size ∧ w.cell? ⟨b, off + k, none⟩ = some (.int .i64 (nth l k)) := by
  obtain ⟨b, off, ha, hB, hb, hc⟩ := h.2.2.elem (s := 1) (fun _ => rfl) h.1 hk
  refine ⟨b, off, ha, hB, hb, ?_⟩
  have := hc 0 (by omega)
  rw [Nat.mul_one, Nat.add_zero] at this
  exact this
/-- Texts. -/
def StrsAt (w : World) (B : Nat) (a : Option Addr) (n : Nat) (l : List (List UInt8)) : Prop :=
  n = l.length ∧ n ≤ 8388608 ∧ (∀ s ∈ l, s.length ≤ 4194304) ∧ Sl w B a n (strs l)
theorem StrsAt.of_own {w : World} {B e c : Nat} {a : Option Addr} {l : List (List UInt8)} (h : w.ownsRow B e 1 (.slice a l.length c) l.length (strs l)) (hl : l.length ≤ 8388608) (hs : ∀ s ∈ l, s.length ≤ 4194304) : StrsAt w B a l.length l :=
  ⟨rfl, hl, hs, Sl.of_own h⟩
theorem StrsAt.mono {w w' : World} {B : Nat} {a : Option Addr} {n : Nat} {l : List (List UInt8)} (h : StrsAt w B a n l) (hx : Fr B w w') : StrsAt w' B a n l := ⟨h.1, h.2.1, h.2.2.1, h.2.2.2.mono hx⟩
theorem StrsAt.less {w : World} {B B' : Nat} {a : Option Addr} {n : Nat} {l : List (List UInt8)} (h : StrsAt w B a n l) (hB : B' ≤ B) : StrsAt w B' a n l := ⟨h.1, h.2.1, h.2.2.1, h.2.2.2.less hB⟩
theorem StrsAt.at_ {w : World} {B : Nat} {a : Option Addr} {n : Nat} {l : List (List UInt8)} (h : StrsAt w B a n l) {k : Nat} (hk : k < n) :
    ∃ b off, a = some ⟨b, off, none⟩ ∧ B ≤ b ∧ b < w.heap.size ∧ w.cell? ⟨b, off + k, none⟩ = some (.string ⟨(nth l k).toArray⟩) ∧ (nth l k).length ≤ 4194304 := by
  obtain ⟨b, off, ha, hB, hb, hc⟩ := h.2.2.2.elem (s := 1) (fun _ => rfl) h.1 hk
  refine ⟨b, off, ha, hB, hb, ?_, h.2.2.1 _ (nth_mem (by have := h.1; omega))⟩
  have := hc 0 (by omega)
  rw [Nat.mul_one, Nat.add_zero] at this
  exact this
/-- Statements. -/
def Oks (s : St) : Prop := s.mod.length ≤ 1048576 ∧ s.name.length ≤ 1048576
def scells (s : St) : List Value := [.int .i64 s.kind, .string ⟨(s.mod).toArray⟩, .int .i64 s.level, .string ⟨(s.name).toArray⟩, .int .i64 s.val]
def StmtsAt (w : World) (B : Nat) (a : Option Addr) (n : Nat) (l : List St) : Prop :=
  n = l.length ∧ n ≤ 2097152 ∧ (∀ s ∈ l, Oks s) ∧ Sl w B a n (l.flatMap scells)
theorem StmtsAt.mono {w w' : World} {B : Nat} {a : Option Addr} {n : Nat} {l : List St} (h : StmtsAt w B a n l) (hx : Fr B w w') : StmtsAt w' B a n l := ⟨h.1, h.2.1, h.2.2.1, h.2.2.2.mono hx⟩
theorem StmtsAt.less {w : World} {B B' : Nat} {a : Option Addr} {n : Nat} {l : List St} (h : StmtsAt w B a n l) (hB : B' ≤ B) : StmtsAt w B' a n l := ⟨h.1, h.2.1, h.2.2.1, h.2.2.2.less hB⟩
theorem StmtsAt.at_ {w : World} {B : Nat} {a : Option Addr} {n : Nat} {l : List St} (h : StmtsAt w B a n l) {k : Nat} (hk : k < n) :
    ∃ b off, a = some ⟨b, off, none⟩ ∧ B ≤ b ∧ b < w.heap.size ∧ Oks (nth l k) ∧ w.cell? ⟨b, off + k * 5, none⟩ = some (.int .i64 (nth l k).kind) ∧ w.cell? ⟨b, off + k * 5 + 1, none⟩ = some (.string ⟨((nth l k).mod).toArray⟩) ∧
      w.cell? ⟨b, off + k * 5 + 2, none⟩ = some (.int .i64 (nth l k).level) ∧ w.cell? ⟨b, off + k * 5 + 3, none⟩ = some (.string ⟨((nth l k).name).toArray⟩) ∧ w.cell? ⟨b, off + k * 5 + 4, none⟩ = some (.int .i64 (nth l k).val) := by
  obtain ⟨b, off, ha, hB, hb, hc⟩ := h.2.2.2.elem (s := 5) (fun _ => rfl) h.1 hk
  exact ⟨b, off, ha, hB, hb, h.2.2.1 _ (nth_mem (by have := h.1; omega)), hc 0 (by omega), hc 1 (by omega), hc 2 (by omega), hc 3 (by omega), hc 4 (by omega)⟩
/-- Files. -/
def Okf (f : Fi) : Prop := f.pkg.length ≤ 1048576 ∧ f.name.length ≤ 1048576
def fcells (f : Fi × Value) : List Value := [.int .i64 f.1.root, .string ⟨(f.1.pkg).toArray⟩, .string ⟨(f.1.name).toArray⟩, .bool f.1.init, .int .i64 f.1.stamp, f.2]
instance : Inhabited (Fi × Value) := ⟨(default, undef)⟩
def FilesAt (w : World) (B : Nat) (a : Option Addr) (n : Nat) (l : List Fi) : Prop :=
  ∃ vs : List (Fi × Value), l = vs.map (·.1) ∧ n = l.length ∧ n ≤ 2097152 ∧ (∀ f ∈ l, Okf f) ∧ Sl w B a n (vs.flatMap fcells) ∧
    ∀ x ∈ vs, ∃ ba bn bc, x.2 = .slice ba bn bc ∧ bn ≤ bc ∧ StmtsAt w B ba bn x.1.body
theorem FilesAt.len {w : World} {B : Nat} {a : Option Addr} {n : Nat} {l : List Fi} (h : FilesAt w B a n l) : n = l.length ∧ n ≤ 2097152 := by
  obtain ⟨vs, _, h1, h2, _⟩ := h; exact ⟨h1, h2⟩
theorem FilesAt.mono {w w' : World} {B : Nat} {a : Option Addr} {n : Nat} {l : List Fi} (h : FilesAt w B a n l) (hx : Fr B w w') : FilesAt w' B a n l := by
  obtain ⟨vs, h0, h1, h2, h3, h4, h5⟩ := h
  exact ⟨vs, h0, h1, h2, h3, h4.mono hx, fun x hm => let ⟨ba, bn, bc, e, hc, hs⟩ := h5 x hm; ⟨ba, bn, bc, e, hc, hs.mono hx⟩⟩
theorem FilesAt.less {w : World} {B B' : Nat} {a : Option Addr} {n : Nat} {l : List Fi} (h : FilesAt w B a n l) (hB : B' ≤ B) : FilesAt w B' a n l := by
  obtain ⟨vs, h0, h1, h2, h3, h4, h5⟩ := h
  exact ⟨vs, h0, h1, h2, h3, h4.less hB, fun x hm => let ⟨ba, bn, bc, e, hc, hs⟩ := h5 x hm; ⟨ba, bn, bc, e, hc, hs.less hB⟩⟩
theorem nth_map_fst {vs : List (Fi × Value)} {k : Nat} (hk : k < vs.length) : nth (vs.map (·.1)) k = (nth vs k).1 := by
  rw [nth_eq (by simpa using hk), nth_eq hk, List.getElem_map]
theorem FilesAt.at_ {w : World} {B : Nat} {a : Option Addr} {n : Nat} {l : List Fi} (h : FilesAt w B a n l) {k : Nat} (hk : k < n) :
    ∃ b off ba bn bc, a = some ⟨b, off, none⟩ ∧ B ≤ b ∧ b < w.heap.size ∧ Okf (nth l k) ∧ bn ≤ bc ∧ StmtsAt w B ba bn (nth l k).body ∧
      w.cell? ⟨b, off + k * 6, none⟩ = some (.int .i64 (nth l k).root) ∧ w.cell? ⟨b, off + k * 6 + 1, none⟩ = some (.string ⟨((nth l k).pkg).toArray⟩) ∧ w.cell? ⟨b, off + k * 6 + 2, none⟩ = some (.string ⟨((nth l k).name).toArray⟩) ∧
      w.cell? ⟨b, off + k * 6 + 3, none⟩ = some (.bool (nth l k).init) ∧ w.cell? ⟨b, off + k * 6 + 4, none⟩ = some (.int .i64 (nth l k).stamp) ∧ w.cell? ⟨b, off + k * 6 + 5, none⟩ = some (.slice ba bn bc) := by
  obtain ⟨vs, rfl, h1, h2, h3, h4, h5⟩ := h
  have hl : k < vs.length := by simpa [h1] using hk
  obtain ⟨b, off, ha, hB, hb, hc⟩ := h4.elem (s := 6) (fun _ => rfl) (by simpa using h1) hk
  obtain ⟨ba, bn, bc, e, hbc, hs⟩ := h5 _ (nth_mem hl)
  rw [nth_map_fst hl]
  refine ⟨b, off, ba, bn, bc, ha, hB, hb, ?_, hbc, hs, hc 0 (by omega), hc 1 (by omega), hc 2 (by omega), hc 3 (by omega), hc 4 (by omega), ?_⟩
  · exact h3 _ (List.mem_map_of_mem (nth_mem hl))
  · rw [← e]; exact hc 5 (by omega)

theorem own_swap {w : World} {o o' : Obj} {x : Xt} {B e size n : Nat} {v : Value} {xs : List Value} (h : (World.ext (w.alloc o) x).ownsRow (w.alloc o).heap.size e size v n xs) (hB : B ≤ w.heap.size) : (World.ext (w.alloc o') x).ownsRow B e size v n xs := by
  rw [World.size_alloc] at h
  exact own_less (own_fr h (fr_swap w o o' x)) (by omega)
theorem own_lit {w : World} {cs : Array Value} {B e size n g : Nat} (hg : g = w.heap.size) (hB : B ≤ w.heap.size) (hs : cs.size = n * size) (hn : n ≤ 4611686018427387904) : (w.alloc (.cells cs e)).ownsRow B e size (.slice (some ⟨g, 0, none⟩) n n) n cs.toList := by
  subst hg
  exact World.ownsRow_lit w cs n hB (by unfold maxLen; omega) hs
/-! ### append of a literal with one element onto a slice of the call's own -/
/-- What append asks of a slice's type: elements of type e, 'size' cells, 'bytes' bytes. -/
structure AppT (P : Program) (t e size bytes : Nat) : Prop where
  ht : P.underlying t = some (.slice e)
  hi : ∃ (i : TypeInfo) (z : Value), P.info? e = some i ∧ i.zero = some z ∧ i.size = size ∧ i.bytes = bytes ∧ z.cells.size = size
  hsz : 0 < size
theorem AppT.of {P : Program} {t e size bytes : Nat} {z : Value} (ht : P.underlying t = some (.slice e)) (h : (P.info? e).map (fun i => (i.zero, i.size, i.bytes)) = some (some z, size, bytes)) (hz : z.cells.size = size) (hsz : 0 < size) : AppT P t e size bytes := by
  cases hi : P.info? e with
  | none => rw [hi] at h; simp at h
  | some i =>
    rw [hi] at h
    simp only [Option.map_some, Option.some.injEq, Prod.mk.injEq] at h
    exact ⟨ht, ⟨i, z, hi, h.1, h.2.1, h.2.2, hz⟩, hsz⟩
theorem wpList_append_lit {P : Program} {ops : Array Oper} {rest : List Oper} {o : Oper} {a : Act} {Q : Exit → Act → World → Prop} {t e size bytes : Nat} (hT : AppT P t e size bytes) (hgd : o.guard = none) (s x : Operand)
    (ho : o.op = .call { callee := .builtin .append, args := #[s, x], argTypes := #[t, t] }) {W : World} {x0 : Xt} {v : Value} {n : Nat} {xs : List Value} {cs : Array Value}
    (hown : (World.ext W x0).ownsRow W.heap.size e size v n xs) (hs : a.eval s = v) (hx : a.eval x = .slice (some ⟨(World.ext W x0).heap.size, 0, none⟩) 1 1) (hcs : cs.size = size) (h1 : ∀ u ∈ cs.toList, u.oneCell' = true)
    (hb : (n + 1) * bytes ≤ 140737488355328) (hn : n + 1 ≤ 9223372036854775807)
    (h : ∀ a' c' z, (World.ext W z).ownsRow W.heap.size e size (.slice a' (n + 1) c') (n + 1) (xs ++ cs.toList) → wpList P ops Q rest (a.put o.dst (.slice a' (n + 1) c')) (World.ext W z)) :
    wpList P ops Q (o :: rest) a ((World.ext W x0).alloc (.cells cs e)) := by
  obtain ⟨i, z, hi, hz, hsize, hby, hzs⟩ := hT.hi
  have hle : W.heap.size ≤ (World.ext W x0).heap.size := by rw [World.size_ext]; omega
  refine wpList_append_own _ hgd s x t ho W.heap.size e i z size bytes hT.ht hi hz hsize hby hzs hT.hsz v n xs hs (hown.alloc _) ⟨(World.ext W x0).heap.size, 0, none⟩ 1 1 cs.toList hx (by simp [hcs])
    (fun j u hu => ?_) h1 (by unfold maxLen; omega) hb (by simp; omega) ?_
  · have hadd : (⟨(World.ext W x0).heap.size, 0, none⟩ : Addr).add j = ⟨(World.ext W x0).heap.size, j, none⟩ := by unfold Addr.add; split <;> simp_all
    rw [hadd, World.cell?_alloc_new]
    simpa using hu
  · intro v' w' hown' hgr _
    obtain ⟨a', c', rfl⟩ := own_slice hown'
    have hB : Below W.heap.size W w' := by
      refine ((World.below_ext W x0).alloc hle _).grown hgr (by simp; omega) (fun k hk => ?_)
      exact (hown.lt k hk).1
    obtain ⟨z, rfl⟩ := X.of_below hB
    exact h a' c' z hown'
end Go.Proofs.YtgjfjjhmgbemcaaGreatDoor

namespace Go.Proofs.YtgjfjjhmgbemcaaGreatDoor
open Go.RowKit

/-- Block b holds the cells cs, and may be written. -/
def Bx (w : World) (b : Nat) (cs : Array Value) : Prop := ∃ t, w.heap[b]? = some (.cells cs t (0, 0))
theorem Bx.lt {w : World} {b : Nat} {cs : Array Value} (h : Bx w b cs) : b < w.heap.size := by
  obtain ⟨t, h⟩ := h
  exact (Array.getElem?_eq_some_iff.1 h).1
theorem Bx.out {w : World} {b : Nat} {cs : Array Value} (h : Bx w b cs) : b < w.heap.size ∧ (∀ i, w.cell? ⟨b, i, none⟩ = cs[i]?) ∧ ∀ i, w.frozen? ⟨b, i, none⟩ = false := by
  have hl := h.lt
  obtain ⟨t, h⟩ := h
  exact ⟨hl, fun i => cell_of_row w b i _ _ (0, 0) h, fun i => by simp [World.frozen?, h]⟩
theorem Bx.new (w : World) (cs : Array Value) (t : TypeId) : Bx (w.alloc (.cells cs t)) w.heap.size cs := ⟨t, heap_alloc_new w _⟩
theorem Bx.x {w w' : World} {b : Nat} {cs : Array Value} (h : Bx w b cs) (hx : X w w') : Bx w' b cs := by
  have hl := h.lt
  obtain ⟨t, h⟩ := h
  exact ⟨t, (hx.below.block b hl).trans h⟩
theorem Bx.set {w : World} {b : Nat} {cs : Array Value} (h : Bx w b cs) (i : Nat) (v : Value) : Bx (w.setCell ⟨b, i, none⟩ v) b (cs.setIfInBounds i v) := by
  obtain ⟨t, h⟩ := h
  exact ⟨t, heap_setCell_same w b i cs t v h⟩
/-- ty is a struct of n cells. -/
structure StrT (P : Program) (ty n : Nat) : Prop where
  hu : ∃ fs, P.underlying ty = some (.struct fs)
  hi : (P.info? ty).map (·.size) = some n
theorem bodyPost_row {P : Program} {fn : Func} {R : Ending → World → Prop} {a : Act} {w : World} {p : Tmp} {ty n g : Nat} {cs : Array Value} (h : fn.results = #[.cell p ty]) (hp : a.tmps.getD p undef = .pointer (some ⟨g, 0, none⟩)) (hB : Bx w g cs) (hS : StrT P ty n) (hn : cs.size = n)
    (hd : a.defers = []) (hR : R (.returned (.agg cs)) w) : bodyPost P fn R .ret a w := by
  obtain ⟨t, hg⟩ := hB
  obtain ⟨d, hu⟩ := hS.hu
  exact bodyPost_ret (results_cell_row h a.tmps w g t cs (0, 0) _ hp hg hu rfl (by rw [hn]; exact hS.hi)) hd hR
theorem Bx.far {w : World} {b : Nat} {cs : Array Value} (h : Bx w b cs) {p : Addr} (hne : b ≠ p.block) (v : Value) : Bx (w.setCell p v) b cs := by
  obtain ⟨t, h⟩ := h
  exact ⟨t, (heap_setCell_other w p b v hne).trans h⟩
theorem Fr.set {B : Nat} {w w' : World} (h : Fr B w w') {p : Addr} (hp : w.heap.size ≤ p.block ∨ p.block < B) (v : Value) : Fr B w (w'.setCell p v) :=
  ⟨by simpa [World.setCell] using h.size, fun k hk hl => (heap_setCell_other w' p k v (by omega)).trans (h.block k hk hl)⟩
theorem row_kind {w : World} {B e size n : Nat} {v : Value} {xs : List Value} (h : w.ownsRow B e size v n xs) : ∀ g, v.ownBlock = some g → ∃ c fz, w.heap[g]? = some (.cells c e fz) := by
  intro g hg
  rcases h.2 with ⟨rfl, _⟩ | ⟨g', cap, cur, rfl, _, hgg, _⟩
  · simp [Value.ownBlock] at hg
  · simp [Value.ownBlock] at hg
    subst hg
    exact ⟨cur, (0, 0), hgg⟩
theorem row_ne {w : World} {B B' e e' size size' n n' : Nat} {v v' : Value} {xs xs' : List Value} (h : w.ownsRow B e size v n xs) (h' : w.ownsRow B' e' size' v' n' xs') (hne : e ≠ e') : v.ownBlock = none ∨ v.ownBlock ≠ v'.ownBlock := by
  cases hv : v.ownBlock with
  | none => exact .inl rfl
  | some g =>
    refine .inr fun he => ?_
    obtain ⟨c, fz, h1⟩ := row_kind h g hv
    obtain ⟨c', fz', h2⟩ := row_kind h' g he.symm
    rw [h1] at h2
    injection h2 with h2
    injection h2 with _ h2
    exact hne h2
theorem own_cap {w : World} {B e size n c : Nat} {a : Option Addr} {xs : List Value} (h : w.ownsRow B e size (.slice a n c) n xs) : n ≤ c := by
  rcases h.2 with ⟨h1, rfl⟩ | ⟨g', cap, cur, h1, _, _, h2, _⟩
  · omega
  · injection h1 with _ _ h1
    omega
theorem grown_set (w : World) (p : Addr) (v : Value) : w.grownBy (w.setCell p v) (some p.block) :=
  ⟨rfl, rfl, rfl, by simp [World.setCell], fun k _ hne => heap_setCell_other w p k v (fun e => hne (by rw [e]))⟩
theorem own_ne_at {w : World} {B e size n t b : Nat} {v : Value} {xs : List Value} {cs : Array Value} {fz : Nat × Nat} (h : w.ownsRow B e size v n xs) (hb : w.heap[b]? = some (.cells cs t fz)) (hne : e ≠ t) : v.ownBlock ≠ some b := by
  intro hv
  obtain ⟨c, fz', h1⟩ := row_kind h b hv
  rw [hb] at h1
  injection h1 with h1
  injection h1 with _ h1
  exact hne h1.symm
theorem own_set_far {w : World} {B e size n t b : Nat} {v : Value} {xs : List Value} {cs : Array Value} {fz : Nat × Nat} (h : w.ownsRow B e size v n xs) (hb : w.heap[b]? = some (.cells cs t fz)) (hne : e ≠ t) (i : Nat) (u : Value) :
    (w.setCell ⟨b, i, none⟩ u).ownsRow B e size v n xs := h.kept (grown_set w _ u) (.inr (own_ne_at h hb hne))
theorem own_set {w : World} {B e size n c g k : Nat} {xs : List Value} (h : w.ownsRow B e size (.slice (some ⟨g, 0, none⟩) n c) n xs) (u : Value) : (w.setCell ⟨g, k, none⟩ u).ownsRow B e size (.slice (some ⟨g, 0, none⟩) n c) n (xs.set k u) := by
  obtain ⟨hl, h | ⟨g', cap, cur, hv, hB, hg, hn, hcap, hsz, hx⟩⟩ := h
  · injection h.1 with h1; cases h1
  · injection hv with h1 _ h2
    injection h1 with h1
    injection h1 with h1
    subst h1 h2
    refine ⟨by simpa using hl, .inr ⟨g, c, cur.setIfInBounds k u, rfl, hB, heap_setCell_same w g k cur e u hg, hn, hcap, by simpa using hsz, ?_⟩⟩
    rw [← hx, Array.toList_setIfInBounds, List.take_set]
/-- append of a literal onto an owned slice: what has changed. -/
theorem wpList_append_g {P : Program} {ops : Array Oper} {rest : List Oper} {o : Oper} {a : Act} {Q : Exit → Act → World → Prop} {t e size bytes : Nat} (hT : AppT P t e size bytes) (hgd : o.guard = none) (s x : Operand)
    (ho : o.op = .call { callee := .builtin .append, args := #[s, x], argTypes := #[t, t] }) {w : World} {B : Nat} {v : Value} {n : Nat} {xs : List Value} {cs : Array Value}
    (hown : w.ownsRow B e size v n xs) (hs : a.eval s = v) {g : Nat} (hx : a.eval x = .slice (some ⟨g, 0, none⟩) 1 1) (hg : g = w.heap.size) (hcs : cs.size = size) (h1 : ∀ u ∈ cs.toList, u.oneCell' = true)
    (hb : (n + 1) * bytes ≤ 140737488355328) (hn : n + 1 ≤ 9223372036854775807) (hBw : B ≤ w.heap.size)
    (h : ∀ a' c' w', w'.ownsRow B e size (.slice a' (n + 1) c') (n + 1) (xs ++ cs.toList) → (w.alloc (.cells cs e)).grownBy w' v.ownBlock → wpList P ops Q rest (a.put o.dst (.slice a' (n + 1) c')) w') :
    wpList P ops Q (o :: rest) a (w.alloc (.cells cs e)) := by
  subst hg
  obtain ⟨i, z, hi, hz, hsize, hby, hzs⟩ := hT.hi
  refine wpList_append_own _ hgd s x t ho B e i z size bytes hT.ht hi hz hsize hby hzs hT.hsz v n xs hs (hown.alloc _) ⟨w.heap.size, 0, none⟩ 1 1 cs.toList hx (by simp [hcs])
    (fun j u hu => ?_) h1 (by unfold maxLen; omega) hb (by simp; omega) ?_
  · have hadd : (⟨w.heap.size, 0, none⟩ : Addr).add j = ⟨w.heap.size, j, none⟩ := by unfold Addr.add; split <;> simp_all
    rw [hadd, World.cell?_alloc_new]
    simpa using hu
  · intro v' w' hown' hgr _
    obtain ⟨a', c', rfl⟩ := own_slice hown'
    exact h a' c' w' hown' hgr
theorem Bx.grown {w w' : World} {b : Nat} {cs : Array Value} {row : Option Nat} (h : Bx w b cs) (hg : w.grownBy w' row) (hr : ∀ k, row = some k → b ≠ k) : Bx w' b cs := by
  have hl := h.lt
  obtain ⟨t, h⟩ := h
  exact ⟨t, (hg.block b hl (fun e => hr b e.symm rfl)).trans h⟩
theorem own_ge {w : World} {B e size n : Nat} {v : Value} {xs : List Value} (h : w.ownsRow B e size v n xs) {b : Nat} (hb : b < B) : ∀ k, v.ownBlock = some k → b ≠ k := fun k hk => by
  have := (h.lt k hk).1; omega
theorem row_far {w w1 : World} {B B' e e' size size' n n' : Nat} {v v' : Value} {xs xs' : List Value} (h : w.ownsRow B e size v n xs) (hB : B' = w.heap.size) (h' : w1.ownsRow B' e' size' v' n' xs') : v.ownBlock = none ∨ v'.ownBlock = none ∨ v'.ownBlock ≠ v.ownBlock := by
  cases hv : v.ownBlock with
  | none => exact .inl rfl
  | some g =>
    cases hv' : v'.ownBlock with
    | none => exact .inr (.inl rfl)
    | some g' =>
      refine .inr (.inr fun he => ?_)
      have h1 := (h.lt g hv).2
      have h2 := (h'.lt g' hv').1
      injection he with he
      omega
theorem X.grown {w W w' : World} {row : Option Nat} (hx : X w W) (hg : W.grownBy w' row) : w.grownBy w' row :=
  ⟨hg.os.trans hx.below.os, hg.tape.trans hx.below.tape, hg.output.trans hx.below.output, Nat.le_trans hx.size hg.size, fun k hk hne => (hg.block k (Nat.lt_of_lt_of_le hk hx.size) hne).trans (hx.below.block k hk)⟩
/-- append of a literal onto an owned slice, in a region that draws its order. -/
theorem step_append_t {P : Program} {ops : Array Oper} {o : Oper} {a : Act} {K : Act → World → Prop} {Q : Exit → Act → World → Prop} {E : Prop} {t e size bytes : Nat} (hT : AppT P t e size bytes) (hgd : o.guard = none) (s x : Operand)
    (ho : o.op = .call { callee := .builtin .append, args := #[s, x], argTypes := #[t, t] }) {w W : World} (hX : X w W) {B : Nat} {v : Value} {n : Nat} {xs : List Value} {cs : Array Value}
    (hown : w.ownsRow B e size v n xs) (hs : a.eval s = v) {g : Nat} (hx : a.eval x = .slice (some ⟨g, 0, none⟩) 1 1) (hg : W.heap[g]? = some (.cells cs e (0, 0))) (hcs : cs.size = size) (h1 : ∀ u ∈ cs.toList, u.oneCell' = true)
    (hb : (n + 1) * bytes ≤ 140737488355328) (hn : n + 1 ≤ 9223372036854775807) (hBw : B ≤ w.heap.size)
    (h : ∀ a' c' w', w'.ownsRow B e size (.slice a' (n + 1) c') (n + 1) (xs ++ cs.toList) → w.grownBy w' v.ownBlock → K (a.put o.dst (.slice a' (n + 1) c')) w') :
    if Region.wanted o (yielded ops a.tmps) = true then Oper.wp P o a W K Q else E := by
  obtain ⟨i, z, hi, hz, hsize, hby, hzs⟩ := hT.hi
  exact step_append_lies W hgd s x t ho B e i z size bytes hT.ht hi hz hsize hby hzs hT.hsz v n xs hs (own_fr hown (hX.fr _)) ⟨g, 0, none⟩ 1 1 cs.toList hx (by simp [hcs]) (World.news_of_block hg) h1 (by omega) (by unfold maxLen; omega) hb
    (Nat.le_trans hBw hX.size) _ rfl (fun g' cap w' h2 h3 _ _ => h _ _ w' h2 (hX.grown h3))
theorem at_grown {w w' : World} {b : Nat} {o : Obj} {row : Option Nat} (h : w.heap[b]? = some o) (hg : w.grownBy w' row) (hne : row ≠ some b) : w'.heap[b]? = some o :=
  (hg.block b (Array.getElem?_eq_some_iff.1 h).1 (Ne.symm hne)).trans h
theorem SpecAt.ints {w : World} {B : Nat} {a : Option Addr} {c : Nat} {r : List Int} (h : w.ownsRow B 3 1 (.slice a r.length c) r.length (ints r)) (hn : r.length ≤ 2097152) : IntsAt w B a r.length r := ⟨rfl, hn, Sl.of_own h⟩
theorem bx3 {w W : World} {c1 c2 c3 : Array Value} {t1 t2 t3 : TypeId} (h : W = ((w.alloc (.cells c1 t1)).alloc (.cells c2 t2)).alloc (.cells c3 t3)) : Bx W w.heap.size c1 ∧ Bx W (w.heap.size + 1) c2 ∧ Bx W (w.heap.size + 2) c3 ∧ X w W := by
  subst h
  refine ⟨(Bx.new w c1 t1).x (by (repeat (first | exact X.refl _ | assumption | refine X.ext ?_ _ | refine X.alloc ?_ _ | refine X.drew ?_))), ?_, ?_, by (repeat (first | exact X.refl _ | assumption | refine X.ext ?_ _ | refine X.alloc ?_ _ | refine X.drew ?_))⟩
  · have := (Bx.new (w.alloc (.cells c1 t1)) c2 t2).x (w' := ((w.alloc (.cells c1 t1)).alloc (.cells c2 t2)).alloc (.cells c3 t3)) (by (repeat (first | exact X.refl _ | assumption | refine X.ext ?_ _ | refine X.alloc ?_ _ | refine X.drew ?_)))
    simpa using this
  · have := Bx.new ((w.alloc (.cells c1 t1)).alloc (.cells c2 t2)) c3 t3
    simpa using this
theorem bx2 {w W : World} {c1 c2 : Array Value} {t1 t2 : TypeId} (h : W = (w.alloc (.cells c1 t1)).alloc (.cells c2 t2)) : Bx W w.heap.size c1 ∧ Bx W (w.heap.size + 1) c2 ∧ X w W := by
  subst h
  refine ⟨(Bx.new w c1 t1).x (by (repeat (first | exact X.refl _ | assumption | refine X.ext ?_ _ | refine X.alloc ?_ _ | refine X.drew ?_))), ?_, by (repeat (first | exact X.refl _ | assumption | refine X.ext ?_ _ | refine X.alloc ?_ _ | refine X.drew ?_))⟩
  have := Bx.new (w.alloc (.cells c1 t1)) c2 t2
  simpa using this
theorem calls_name {P : Program} {f : FuncId} {args : Array Value} {w : World} {Q : Ending → World → Prop} (h : ∀ W, W = w → Calls P f args W Q) : Calls P f args w Q := h w rfl
theorem X.of_grown {w w' : World} (h : w.grownBy w' none) : X w w' := X.of_below ⟨h.os, h.tape, h.output, h.size, fun k hk => h.block k hk (by simp)⟩
theorem fcells6 (x : Fi × Value) : (fcells x).length = 6 := rfl
theorem grown_next {w w' : World} {g : Nat} (h : w.grownBy w' (some g)) (o : Nat) (v : Value) : w.grownBy (w'.setCell ⟨g, o, none⟩ v) (some g) :=
  ⟨h.os, h.tape, h.output, by simpa [World.setCell] using h.size, fun k hk hne => (heap_setCell_other w' _ k v (fun e => hne (by rw [e]))).trans (h.block k hk hne)⟩
theorem own_block {w : World} {B e size n c g : Nat} {xs : List Value} (h : w.ownsRow B e size (.slice (some ⟨g, 0, none⟩) n c) n xs) : ∃ cs, w.heap[g]? = some (.cells cs e (0, 0)) := by
  rcases h.2 with ⟨h1, _⟩ | ⟨g', cap, cur, h1, _, hg, _⟩
  · injection h1 with h1; cases h1
  · injection h1 with h1 _ _
    injection h1 with h1
    injection h1 with h1
    subst h1
    exact ⟨cur, hg⟩
theorem own_form {w : World} {B e size n c : Nat} {a : Option Addr} {xs : List Value} (h : w.ownsRow B e size (.slice a n c) n xs) (hn : 0 < n) : ∃ g, a = some ⟨g, 0, none⟩ ∧ B ≤ g ∧ g < w.heap.size := by
  obtain ⟨g, cap, hv, hB, hlt⟩ := h.form hn
  injection hv with hv
  exact ⟨g, hv, hB, hlt⟩
theorem own_set_at {w W : World} {B e size n c g o : Nat} {xs : List Value} {v : Value} (hW : W = w.setCell ⟨g, o, none⟩ v) (h : w.ownsRow B e size (.slice (some ⟨g, 0, none⟩) n c) n xs) : W.ownsRow B e size (.slice (some ⟨g, 0, none⟩) n c) n (xs.set o v) := by
  subst hW; exact own_set h v
theorem own_set_at2 {w W : World} {B e size n c g o o' : Nat} {xs : List Value} {v v' : Value} (hW : W = (w.setCell ⟨g, o, none⟩ v).setCell ⟨g, o', none⟩ v') (h : w.ownsRow B e size (.slice (some ⟨g, 0, none⟩) n c) n xs) : W.ownsRow B e size (.slice (some ⟨g, 0, none⟩) n c) n ((xs.set o v).set o' v') := by
  subst hW; exact own_set (own_set h v) v'
theorem own_set_at3 {w W : World} {B e size n c g o o' o2 : Nat} {xs : List Value} {v v' v2 : Value} (hW : W = ((w.setCell ⟨g, o, none⟩ v).setCell ⟨g, o', none⟩ v').setCell ⟨g, o2, none⟩ v2) (h : w.ownsRow B e size (.slice (some ⟨g, 0, none⟩) n c) n xs) : W.ownsRow B e size (.slice (some ⟨g, 0, none⟩) n c) n (((xs.set o v).set o' v').set o2 v2) := by
  subst hW; exact own_set (own_set (own_set h v) v') v2
theorem grown_set_at3 {w0 w W : World} {g o o' o2 : Nat} {v v' v2 : Value} (hW : W = ((w.setCell ⟨g, o, none⟩ v).setCell ⟨g, o', none⟩ v').setCell ⟨g, o2, none⟩ v2) (h : w0.grownBy w (some g)) : w0.grownBy W (some g) := by
  subst hW; exact grown_next (grown_next (grown_next h o v) o' v') o2 v2
theorem grown_set_at {w0 w W : World} {g o : Nat} {v : Value} (hW : W = w.setCell ⟨g, o, none⟩ v) (h : w0.grownBy w (some g)) : w0.grownBy W (some g) := by
  subst hW; exact grown_next h o v
theorem grown_set_at2 {w0 w W : World} {g o o' : Nat} {v v' : Value} (hW : W = (w.setCell ⟨g, o, none⟩ v).setCell ⟨g, o', none⟩ v') (h : w0.grownBy w (some g)) : w0.grownBy W (some g) := by
  subst hW; exact grown_next (grown_next h o v) o' v'
theorem grown_x {w0 w w' : World} {row : Option Nat} (h : w0.grownBy w row) (hx : X w w') : w0.grownBy w' row :=
  ⟨hx.below.os.trans h.os, hx.below.tape.trans h.tape, hx.below.output.trans h.output, Nat.le_trans h.size hx.size, fun k hk hne => (hx.below.block k (Nat.lt_of_lt_of_le hk h.size)).trans (h.block k hk hne)⟩

end Go.Proofs.YtgjfjjhmgbemcaaGreatDoor

namespace Go.Proofs.YtgjfjjhmgbemcaaGreatDoor
open Go.ChangeShapes Go.WideShapes Go.ChangeAt Go.RowKit Go.Deep

def inI (n : Int) : Prop := (Lit.int .i64 n).wf = true
/-- Statements of whatever length. -/
def StmtsR (w : World) (a : Option Addr) (n : Nat) (l : List St) : Prop :=
  n = l.length ∧ n ≤ maxLen ∧ (∀ s ∈ l, s.mod.length ≤ maxLen ∧ s.name.length ≤ maxLen ∧ inI s.kind ∧ inI s.level ∧ inI s.val) ∧ Sl w 0 a n (l.flatMap scells)
/-- Files of whatever length. -/
def FilesR (w : World) (a : Option Addr) (n : Nat) (l : List Fi) : Prop :=
  ∃ vs : List (Fi × Value), l = vs.map (·.1) ∧ n = l.length ∧ n ≤ maxLen ∧ (∀ f ∈ l, f.pkg.length ≤ maxLen ∧ f.name.length ≤ maxLen ∧ inI f.root ∧ inI f.stamp) ∧ Sl w 0 a n (vs.flatMap fcells) ∧
    ∀ x ∈ vs, ∃ ba bn bc, x.2 = .slice ba bn bc ∧ bn ≤ bc ∧ StmtsR w ba bn x.1.body

section
variable {H : Type} {enc : TypeId × Value → H} {P : Program} {w : World} {held : Bool}

/-- A field of one cell at its place. -/
def FieldAt (P : Program) (f : Field) (o : Nat) (d : TypeDesc) : Prop := f.offset = o ∧ P.underlying f.type = some d ∧ P.cellsOf f.type = 1
/-- e is a type of statements: of the program's or of the law's own. -/
def StTy (P : Program) (e : TypeId) : Prop := P.cellsOf e = 5 ∧ ∃ f0 f1 f2 f3 f4 : Field, P.underlying e = some (.struct #[f0, f1, f2, f3, f4]) ∧ FieldAt P f0 0 (.int .i64) ∧ FieldAt P f1 1 .string ∧ FieldAt P f2 2 (.int .i64) ∧ FieldAt P f3 3 .string ∧ FieldAt P f4 4 (.int .i64)
/-- t is a type of slices of statements. -/
def StsTy (P : Program) (t : TypeId) : Prop := ∃ e, P.underlying t = some (.slice e) ∧ StTy P e
def FiTy (P : Program) (e : TypeId) : Prop := P.cellsOf e = 6 ∧ ∃ (f0 f1 f2 f3 f4 f5 : Field) (u : TypeId), P.underlying e = some (.struct #[f0, f1, f2, f3, f4, f5]) ∧ FieldAt P f0 0 (.int .i64) ∧ FieldAt P f1 1 .string ∧ FieldAt P f2 2 .string ∧ FieldAt P f3 3 .bool ∧ FieldAt P f4 4 (.int .i64) ∧ FieldAt P f5 5 (.slice u) ∧ StsTy P f5.type
def FisTy (P : Program) (t : TypeId) : Prop := ∃ e, P.underlying t = some (.slice e) ∧ FiTy P e
/-- t is a type of trees: a struct of one field. -/
def TrTy (P : Program) (t : TypeId) : Prop := P.cellsOf t = 1 ∧ ∃ (f : Field) (u : TypeId), P.underlying t = some (.struct #[f]) ∧ FieldAt P f 0 (.slice u) ∧ FisTy P f.type
end

end Go.Proofs.YtgjfjjhmgbemcaaGreatDoor

namespace Go.Proofs.YtgjfjjhmgbemcaaGreatDoor
open Go.RowKit

/-- As the laws count: -1 as soon as too much is there. -/
def szL {α : Type} (f : α → Int → Int) : List α → Int → Int
  | [], n => n
  | x :: xs, n => if f x n < 0 then -1 else szL f xs (f x n)
def szSt (s : St) (n : Int) : Int := if n - (s.mod.length : Int) < 0 then -1 else if n - (s.mod.length : Int) - (s.name.length : Int) < 0 then -1 else n - (s.mod.length : Int) - (s.name.length : Int)
def szSts (l : List St) (n : Int) : Int := if n - (l.length : Int) < 0 then -1 else szL szSt l (n - (l.length : Int))
def szFi (f : Fi) (n : Int) : Int := if n - (f.pkg.length : Int) < 0 then -1 else if n - (f.pkg.length : Int) - (f.name.length : Int) < 0 then -1 else szSts f.body (n - (f.pkg.length : Int) - (f.name.length : Int))
def szFis (l : List Fi) (n : Int) : Int := if n - (l.length : Int) < 0 then -1 else szL szFi l (n - (l.length : Int))
theorem szL_le {α : Type} {f : α → Int → Int} (hf : ∀ x n, 0 ≤ f x n → f x n ≤ n) : ∀ {l : List α} {n : Int}, 0 ≤ szL f l n → szL f l n ≤ n ∧ ∀ x ∈ l, ∃ m, m ≤ n ∧ 0 ≤ f x m
  | [], n, _ => ⟨Int.le_refl _, fun _ h => by cases h⟩
  | x :: xs, n, h => by
    unfold szL at h ⊢
    by_cases h0 : f x n < 0
    · rw [if_pos h0] at h; omega
    · rw [if_neg h0] at h ⊢
      have h1 := hf x n (by omega)
      obtain ⟨h2, h3⟩ := szL_le hf h
      refine ⟨by omega, fun y hy => ?_⟩
      rcases List.mem_cons.1 hy with rfl | hy
      · exact ⟨n, Int.le_refl _, by omega⟩
      · obtain ⟨m, hm, hy⟩ := h3 y hy
        exact ⟨m, by omega, hy⟩
theorem szSt_le (s : St) (n : Int) (h : 0 ≤ szSt s n) : szSt s n ≤ n := by
  unfold szSt at h ⊢
  split at h <;> rename_i h1
  · omega
  · rw [if_neg h1]
    split at h <;> rename_i h2
    · omega
    · rw [if_neg h2]; omega
theorem szSt_ok {s : St} {n : Int} (h : 0 ≤ szSt s n) : (s.mod.length : Int) ≤ n ∧ (s.name.length : Int) ≤ n := by
  unfold szSt at h
  split at h <;> rename_i h1
  · omega
  · split at h <;> rename_i h2
    · omega
    · omega
theorem szSts_le (l : List St) (n : Int) (h : 0 ≤ szSts l n) : szSts l n ≤ n := by
  unfold szSts at h ⊢
  split at h <;> rename_i h1
  · omega
  · rw [if_neg h1]
    have := (szL_le szSt_le h).1
    omega
theorem szSts_ok {l : List St} {n : Int} (h : 0 ≤ szSts l n) : (l.length : Int) ≤ n ∧ ∀ s ∈ l, (s.mod.length : Int) ≤ n ∧ (s.name.length : Int) ≤ n := by
  unfold szSts at h
  split at h <;> rename_i h1
  · omega
  · refine ⟨by omega, fun s hs => ?_⟩
    obtain ⟨m, hm, h2⟩ := (szL_le szSt_le h).2 s hs
    have := szSt_ok h2
    omega
theorem szFi_le (f : Fi) (n : Int) (h : 0 ≤ szFi f n) : szFi f n ≤ n := by
  unfold szFi at h ⊢
  split at h <;> rename_i h1
  · omega
  · rw [if_neg h1]
    split at h <;> rename_i h2
    · omega
    · rw [if_neg h2]
      have := szSts_le _ _ h
      omega
theorem szFi_ok {f : Fi} {n : Int} (h : 0 ≤ szFi f n) : (f.pkg.length : Int) ≤ n ∧ (f.name.length : Int) ≤ n ∧ (f.body.length : Int) ≤ n ∧ ∀ s ∈ f.body, (s.mod.length : Int) ≤ n ∧ (s.name.length : Int) ≤ n := by
  unfold szFi at h
  split at h <;> rename_i h1
  · omega
  · split at h <;> rename_i h2
    · omega
    · obtain ⟨h3, h4⟩ := szSts_ok h
      exact ⟨by omega, by omega, by omega, fun s hs => by have := h4 s hs; omega⟩
theorem szFis_ok {l : List Fi} {n : Int} (h : 0 ≤ szFis l n) : (l.length : Int) ≤ n ∧ ∀ f ∈ l, (f.pkg.length : Int) ≤ n ∧ (f.name.length : Int) ≤ n ∧ (f.body.length : Int) ≤ n ∧ ∀ s ∈ f.body, (s.mod.length : Int) ≤ n ∧ (s.name.length : Int) ≤ n := by
  unfold szFis at h
  split at h <;> rename_i h1
  · omega
  · refine ⟨by omega, fun f hf => ?_⟩
    obtain ⟨m, hm, h2⟩ := (szL_le szFi_le h).2 f hf
    obtain ⟨a1, a2, a3, a4⟩ := szFi_ok h2
    exact ⟨by omega, by omega, by omega, fun s hs => by have := a4 s hs; omega⟩
theorem StmtsR.at {w : World} {a : Option Addr} {n : Nat} {l : List St} (h : StmtsR w a n l) (hl : (l.length : Int) ≤ 1048576) (hs : ∀ s ∈ l, (s.mod.length : Int) ≤ 1048576 ∧ (s.name.length : Int) ≤ 1048576) : StmtsAt w 0 a n l := by
  obtain ⟨h1, _, _, h4⟩ := h
  exact ⟨h1, by omega, fun s hm => by have := hs s hm; exact ⟨by omega, by omega⟩, h4⟩
/-- A tree that is not too large lies as the contracts of the program's functions want it. -/
theorem FilesR.at {w : World} {a : Option Addr} {n : Nat} {l : List Fi} (h : FilesR w a n l) (hz : 0 ≤ szFis l 1048576) : FilesAt w 0 a n l := by
  obtain ⟨z1, z2⟩ := szFis_ok hz
  obtain ⟨vs, e, h1, _, _, h4, h5⟩ := h
  refine ⟨vs, e, h1, by omega, fun f hf => by have := z2 f hf; exact ⟨by omega, by omega⟩, h4, fun x hx => ?_⟩
  obtain ⟨ba, bn, bc, e2, hbc, hS⟩ := h5 x hx
  have hm : x.1 ∈ l := by rw [e]; exact List.mem_map.2 ⟨x, hx, rfl⟩
  obtain ⟨_, _, b3, b4⟩ := z2 x.1 hm
  exact ⟨ba, bn, bc, e2, hbc, hS.at b3 b4⟩

theorem StmtsR.mono {w w' : World} {a : Option Addr} {n : Nat} {l : List St} (h : StmtsR w a n l) (hx : X w w') : StmtsR w' a n l := ⟨h.1, h.2.1, h.2.2.1, h.2.2.2.mono (hx.fr _)⟩
theorem FilesR.mono {w w' : World} {a : Option Addr} {n : Nat} {l : List Fi} (h : FilesR w a n l) (hx : X w w') : FilesR w' a n l := by
  obtain ⟨vs, e, h1, h2, h3, h4, h5⟩ := h
  exact ⟨vs, e, h1, h2, h3, h4.mono (hx.fr _), fun x hm => let ⟨ba, bn, bc, e, hc, hs⟩ := h5 x hm; ⟨ba, bn, bc, e, hc, hs.mono hx⟩⟩
theorem StmtsR.at_ {w : World} {a : Option Addr} {n : Nat} {l : List St} (h : StmtsR w a n l) {k : Nat} (hk : k < n) :
    ∃ b off, a = some ⟨b, off, none⟩ ∧ b < w.heap.size ∧ ((nth l k).mod.length ≤ maxLen ∧ (nth l k).name.length ≤ maxLen) ∧ w.cell? ⟨b, off + k * 5, none⟩ = some (.int .i64 (nth l k).kind) ∧ w.cell? ⟨b, off + k * 5 + 1, none⟩ = some (.string ⟨((nth l k).mod).toArray⟩) ∧
      w.cell? ⟨b, off + k * 5 + 2, none⟩ = some (.int .i64 (nth l k).level) ∧ w.cell? ⟨b, off + k * 5 + 3, none⟩ = some (.string ⟨((nth l k).name).toArray⟩) ∧ w.cell? ⟨b, off + k * 5 + 4, none⟩ = some (.int .i64 (nth l k).val) := by
  obtain ⟨b, off, ha, _, hb, hc⟩ := h.2.2.2.elem (s := 5) (fun _ => rfl) h.1 hk
  have hm := h.2.2.1 _ (nth_mem (l := l) (k := k) (by have := h.1; omega))
  exact ⟨b, off, ha, hb, ⟨hm.1, hm.2.1⟩, hc 0 (by omega), hc 1 (by omega), hc 2 (by omega), hc 3 (by omega), hc 4 (by omega)⟩
theorem FilesR.at_ {w : World} {a : Option Addr} {n : Nat} {l : List Fi} (h : FilesR w a n l) {k : Nat} (hk : k < n) :
    ∃ b off ba bn bc, a = some ⟨b, off, none⟩ ∧ b < w.heap.size ∧ ((nth l k).pkg.length ≤ maxLen ∧ (nth l k).name.length ≤ maxLen) ∧ bn ≤ bc ∧ StmtsR w ba bn (nth l k).body ∧
      w.cell? ⟨b, off + k * 6, none⟩ = some (.int .i64 (nth l k).root) ∧ w.cell? ⟨b, off + k * 6 + 1, none⟩ = some (.string ⟨((nth l k).pkg).toArray⟩) ∧ w.cell? ⟨b, off + k * 6 + 2, none⟩ = some (.string ⟨((nth l k).name).toArray⟩) ∧
      w.cell? ⟨b, off + k * 6 + 3, none⟩ = some (.bool (nth l k).init) ∧ w.cell? ⟨b, off + k * 6 + 4, none⟩ = some (.int .i64 (nth l k).stamp) ∧ w.cell? ⟨b, off + k * 6 + 5, none⟩ = some (.slice ba bn bc) := by
  obtain ⟨vs, rfl, h1, h2, h3, h4, h5⟩ := h
  have hl : k < vs.length := by simpa [h1] using hk
  obtain ⟨b, off, ha, _, hb, hc⟩ := h4.elem (s := 6) (fun _ => rfl) (by simpa using h1) hk
  obtain ⟨ba, bn, bc, e, hbc, hS⟩ := h5 _ (nth_mem hl)
  have hm := h3 _ (List.mem_map.2 ⟨nth vs k, nth_mem hl, rfl⟩)
  rw [nth_map_fst hl]
  have c5 : w.cell? ⟨b, off + (k * 6 + 5), none⟩ = some (nth vs k).2 := hc 5 (by omega)
  rw [e] at c5
  exact ⟨b, off, ba, bn, bc, ha, hb, ⟨hm.1, hm.2.1⟩, hbc, hS, hc 0 (by omega), hc 1 (by omega), hc 2 (by omega), hc 3 (by omega), hc 4 (by omega), c5⟩
end Go.Proofs.YtgjfjjhmgbemcaaGreatDoor

namespace Go.Proofs.YtgjfjjhmgbemcaaGreatDoor
open Go.RowKit

theorem set_off {A Z : List Value} (j : Nat) (v : Value) : (A ++ Z).set (A.length + j) v = A ++ Z.set j v := by
  rw [List.set_append_right _ _ (by omega)]
  congr 2
  omega
theorem fill5 {A Z : List Value} {o : Nat} (ho : o = A.length) (hz : 5 ≤ Z.length) (v0 v1 v2 v3 v4 : Value) :
    (((((A ++ Z).set o v0).set (o + 1) v1).set (o + 2) v2).set (o + 3) v3).set (o + 4) v4 = A ++ ([v0, v1, v2, v3, v4] ++ Z.drop 5) := by
  subst ho
  match Z, hz with
  | a :: b :: c :: d :: e :: Z, _ =>
    have h0 := set_off (A := A) (Z := a :: b :: c :: d :: e :: Z) 0 v0
    rw [Nat.add_zero] at h0
    rw [h0, set_off, set_off, set_off, set_off]
    rfl
/-- The first k elements of l, then what is left of the row z. -/
def mixR {α : Type} (g : α → List Value) (s : Nat) (l : List α) (z : List Value) (k : Nat) : List Value := (l.take k).flatMap g ++ z.drop (k * s)
theorem mixR_zero {α : Type} {g : α → List Value} {s : Nat} {l : List α} {z : List Value} : mixR g s l z 0 = z := by simp [mixR]
theorem mixR_all {α : Type} {g : α → List Value} {s : Nat} {l : List α} {z : List Value} (hz : z.length = l.length * s) : mixR g s l z l.length = l.flatMap g := by
  rw [mixR, List.take_length, List.drop_eq_nil_of_le (by omega), List.append_nil]
theorem mixR_front {α : Type} {g : α → List Value} {s : Nat} (hg : ∀ x, (g x).length = s) {l : List α} {k : Nat} (hk : k ≤ l.length) : ((l.take k).flatMap g).length = k * s := by
  rw [flat_length s g hg, List.length_take, Nat.min_eq_left hk]
theorem mixR_next {α : Type} [Inhabited α] {g : α → List Value} {s : Nat} {l : List α} {z : List Value} {k : Nat} (hk : k < l.length) :
    (l.take k).flatMap g ++ (g (nth l k) ++ (z.drop (k * s)).drop s) = mixR g s l z (k + 1) := by
  rw [mixR, take_succ_nth hk, List.flatMap_append, List.drop_drop, Nat.succ_mul]
  simp
theorem left_len {s n k : Nat} {z : List Value} (hz : z.length = n * s) (hk : k < n) : s ≤ (z.drop (k * s)).length := by
  rw [List.length_drop, hz]
  have : (k + 1) * s ≤ n * s := Nat.mul_le_mul_right s (by omega)
  rw [Nat.succ_mul] at this
  omega
theorem mix_set5 {α : Type} [Inhabited α] {g : α → List Value} (hg : ∀ x, (g x).length = 5) {l : List α} {z : List Value} {k : Nat} (hz : z.length = l.length * 5) (hk : k < l.length) (v0 v1 v2 v3 v4 : Value) (hv : g (nth l k) = [v0, v1, v2, v3, v4]) :
    (((((mixR g 5 l z k).set (k * 5) v0).set (k * 5 + 1) v1).set (k * 5 + 2) v2).set (k * 5 + 3) v3).set (k * 5 + 4) v4 = mixR g 5 l z (k + 1) := by
  rw [mixR, fill5 (mixR_front hg (by omega)).symm (left_len hz hk), ← hv, mixR_next hk]
end Go.Proofs.YtgjfjjhmgbemcaaGreatDoor

namespace Go.Proofs.YtgjfjjhmgbemcaaGreatDoor
open Go.RowKit

/-- Nothing but blocks from B on, and before E, has changed; there may be new ones. -/
structure Keep (B E : Nat) (w w' : World) : Prop where
  os : w'.os = w.os
  tape : w'.tape = w.tape
  output : w'.output = w.output
  size : w.heap.size ≤ w'.heap.size
  block : ∀ k, k < w.heap.size → (k < B ∨ E ≤ k) → w'.heap[k]? = w.heap[k]?
theorem Keep.refl (B E : Nat) (w : World) : Keep B E w w := ⟨rfl, rfl, rfl, Nat.le_refl _, fun _ _ _ => rfl⟩
theorem Keep.trans {B E : Nat} {a b c : World} (h : Keep B E a b) (k : Keep B E b c) : Keep B E a c :=
  ⟨k.os.trans h.os, k.tape.trans h.tape, k.output.trans h.output, Nat.le_trans h.size k.size, fun i hi hB => (k.block i (Nat.lt_of_lt_of_le hi h.size) hB).trans (h.block i hi hB)⟩
theorem Keep.of_x {B E : Nat} {w w' : World} (h : X w w') : Keep B E w w' := ⟨h.below.os, h.below.tape, h.below.output, h.size, fun k hk _ => h.below.block k hk⟩
theorem Keep.of_grown {B E : Nat} {w w' : World} {row : Option Nat} (h : w.grownBy w' row) (hr : ∀ g, row = some g → B ≤ g ∧ g < E) : Keep B E w w' :=
  ⟨h.os, h.tape, h.output, h.size, fun k hk hB => h.block k hk (fun e => by have := hr k e.symm; omega)⟩
/-- What is below is as it was. -/
theorem Keep.below {B E : Nat} {w w' W : World} (h : Keep B E w w') (hB : W.heap.size ≤ B) (hx : Below W.heap.size W w) : Below W.heap.size W w' :=
  ⟨h.os.trans hx.os, h.tape.trans hx.tape, h.output.trans hx.output, Nat.le_trans hx.size h.size, fun k hk => (h.block k (Nat.lt_of_lt_of_le hk hx.size) (.inl (by omega))).trans (hx.block k hk)⟩
/-- What is above is as it was. -/
theorem Keep.fr {B E : Nat} {w w' : World} (h : Keep B E w w') : Fr E w w' := ⟨h.size, fun k hk hl => h.block k hl (.inr hk)⟩
/-! ### Marks -/
def mtD (k : Nat) : List UInt8 := if _h : k = 0 then [] else mtD (k / 10) ++ [UInt8.ofNat (48 + k % 10)]
termination_by k
decreasing_by omega
theorem mtD_zero : mtD 0 = [] := by rw [mtD]; rfl
theorem mtD_pos {k : Nat} (h : k ≠ 0) : mtD k = mtD (k / 10) ++ [UInt8.ofNat (48 + k % 10)] := by rw [mtD, dif_neg h]
theorem mtD_len : ∀ k : Nat, (mtD k).length ≤ k := by
  intro k
  induction k using Nat.strongRecOn with
  | _ k ih =>
    by_cases h : k = 0
    · subst h; rw [mtD_zero]; exact Nat.le_refl _
    · rw [mtD_pos h, List.length_append]
      have := ih (k / 10) (by omega)
      simp
      omega
/-- The text of a mark. -/
def mtxt (k : Nat) : List UInt8 := if k = 0 then [109, 48] else 109 :: mtD k
/-- Marks of numbers, from k on. -/
def upN (k n : Nat) : List Int := (List.range n).map fun i => ((k + i : Nat) : Int)
def stM (k : Nat) : St := ⟨(k : Int), mtxt (k + 1), ((k + 2 : Nat) : Int), mtxt (k + 3), ((k + 4 : Nat) : Int)⟩
def stsM (k n : Nat) : List St := (List.range n).map fun i => stM (k + 5 * i)
theorem stsM_len {k n : Nat} : (stsM k n).length = n := by simp [stsM]
theorem stsM_nth {k n i : Nat} (h : i < n) : nth (stsM k n) i = stM (k + 5 * i) := by
  rw [nth_eq (by rw [stsM_len]; exact h)]
  simp [stsM]
/-- How far the marks of files go. -/
def wtF : List Fi → Nat
  | [] => 0
  | f :: l => 5 + 5 * f.body.length + wtF l
/-- A marked file, marked files. -/
def fiM (k : Nat) (f : Fi) : Fi := ⟨(k : Int), mtxt (k + 1), mtxt (k + 2), decide ((k + 3) % 3 = 0), ((k + 4 : Nat) : Int), stsM (k + 5) f.body.length⟩
def marksF (k : Nat) : List Fi → List Fi
  | [] => []
  | f :: l => fiM k f :: marksF (k + (5 + 5 * f.body.length)) l
end Go.Proofs.YtgjfjjhmgbemcaaGreatDoor

namespace Go.Proofs.YtgjfjjhmgbemcaaGreatDoor
open Go.RowKit

end Go.Proofs.YtgjfjjhmgbemcaaGreatDoor

namespace Go.Proofs.YtgjfjjhmgbemcaaGreatDoor
open Go.RowKit

theorem ret_boolW {a b : Bool} (h : a = b) : Ending.returned (.bool a) = .returned (.bool b) := by rw [h]
theorem nth_ext2 {α : Type} [Inhabited α] {l m : List α} (hl : l.length = m.length) (h : ∀ k, k < l.length → nth l k = nth m k) : l = m := by
  refine List.ext_getElem hl fun k h1 h2 => ?_
  have := h k h1
  rwa [nth_eq h1, nth_eq h2] at this
end Go.Proofs.YtgjfjjhmgbemcaaGreatDoor

namespace Go.Proofs.YtgjfjjhmgbemcaaGreatDoor
open Go.RowKit

end Go.Proofs.YtgjfjjhmgbemcaaGreatDoor

namespace Go.Proofs.YtgjfjjhmgbemcaaGreatDoor
open Go.RowKit

end Go.Proofs.YtgjfjjhmgbemcaaGreatDoor

namespace Go.Proofs.YtgjfjjhmgbemcaaGreatDoor
open Go.RowKit

theorem own_here {w : World} {B e size n c g : Nat} {xs : List Value} (h : w.ownsRow B e size (.slice (some ⟨g, 0, none⟩) n c) n xs) {j : Nat} (hj : j < n * size) : ∃ u, w.cell? ⟨g, j, none⟩ = some u := by
  have hl : j < xs.length := by rw [h.1]; exact hj
  exact ⟨xs[j], row_cell h j _ (List.getElem?_eq_getElem hl)⟩
theorem IntsAt.of_own {w : World} {B e c : Nat} {a : Option Addr} {l : List Int} {n : Nat} (h : w.ownsRow B e 1 (.slice a n c) n (ints l)) (hl : n = l.length) (hn : n ≤ 2097152) : IntsAt w B a n l := ⟨hl, hn, Sl.of_own h⟩

end Go.Proofs.YtgjfjjhmgbemcaaGreatDoor

namespace Go.Proofs.YtgjfjjhmgbemcaaGreatDoor
open Go.RowKit

theorem info_file : (Tryz.prog.info? 44).map (fun i => (i.zero, i.size, i.bytes)) = some (some (.agg #[.int .i64 0, .string ⟨#[]⟩, .string ⟨#[]⟩, .bool false, .int .i64 0, .slice none 0 0]), 6, 80) := by kernel_rfl
theorem tree_S : StrT Tryz.prog 35 1 := ⟨⟨_, Tryz.underlying35⟩, by kernel_rfl⟩
/-- No two bodies lie in one block. -/
def Sep (vs : List (Fi × Value)) : Prop := vs.Pairwise fun x y => x.2.ownBlock = none ∨ y.2.ownBlock = none ∨ y.2.ownBlock ≠ x.2.ownBlock
/-- Files that the call itself has made: the table and each body is a row of its own. -/
def FilesO (w : World) (B : Nat) (a : Option Addr) (n c : Nat) (l : List Fi) : Prop :=
  ∃ vs : List (Fi × Value), l = vs.map (·.1) ∧ n = l.length ∧ w.ownsRow B 44 6 (.slice a n c) n (vs.flatMap fcells) ∧ Sep vs ∧
    ∀ x ∈ vs, ∃ ba bc, x.2 = .slice ba x.1.body.length bc ∧ w.ownsRow B 148 5 (.slice ba x.1.body.length bc) x.1.body.length (x.1.body.flatMap scells)
theorem FilesO.fr {w w' : World} {B n c : Nat} {a : Option Addr} {l : List Fi} (h : FilesO w B a n c l) (hx : Fr B w w') : FilesO w' B a n c l := by
  obtain ⟨vs, e, h1, h2, hs, h3⟩ := h
  exact ⟨vs, e, h1, own_fr h2 hx, hs, fun x hm => let ⟨ba, bc, e, ho⟩ := h3 x hm; ⟨ba, bc, e, own_fr ho hx⟩⟩
theorem FilesO.less {w : World} {B B' n c : Nat} {a : Option Addr} {l : List Fi} (h : FilesO w B a n c l) (hB : B' ≤ B) : FilesO w B' a n c l := by
  obtain ⟨vs, e, h1, h2, hs, h3⟩ := h
  exact ⟨vs, e, h1, own_less h2 hB, hs, fun x hm => let ⟨ba, bc, e, ho⟩ := h3 x hm; ⟨ba, bc, e, own_less ho hB⟩⟩
/-- No text of the files is too long. -/
def OkL (l : List Fi) : Prop := l.length ≤ 2097152 ∧ ∀ f ∈ l, Okf f ∧ f.body.length ≤ 2097152 ∧ ∀ s ∈ f.body, Oks s
theorem FilesAt.okL {w : World} {B n : Nat} {a : Option Addr} {l : List Fi} (h : FilesAt w B a n l) : OkL l := by
  obtain ⟨vs, e, h1, h2, h3, _, h5⟩ := h
  refine ⟨by omega, fun f hf => ⟨h3 f hf, ?_⟩⟩
  rw [e] at hf
  obtain ⟨x, hx, rfl⟩ := List.mem_map.1 hf
  obtain ⟨ba, bn, bc, _, _, hS⟩ := h5 x hx
  exact ⟨by have := hS.1; have := hS.2.1; omega, hS.2.2.1⟩
theorem FilesO.at {w : World} {B n c : Nat} {a : Option Addr} {l : List Fi} (h : FilesO w B a n c l) (hk : OkL l) : FilesAt w B a n l := by
  obtain ⟨vs, e, h1, h2, _, h3⟩ := h
  refine ⟨vs, e, h1, by have := hk.1; omega, fun f hf => (hk.2 f hf).1, Sl.of_own h2, fun x hx => ?_⟩
  obtain ⟨ba, bc, e2, ho⟩ := h3 x hx
  have hm : x.1 ∈ l := by rw [e]; exact List.mem_map.2 ⟨x, hx, rfl⟩
  exact ⟨ba, _, bc, e2, own_cap ho, rfl, (hk.2 _ hm).2.1, (hk.2 _ hm).2.2, Sl.of_own ho⟩

end Go.Proofs.YtgjfjjhmgbemcaaGreatDoor

namespace Go.Proofs.YtgjfjjhmgbemcaaGreatDoor
open Go.RowKit

theorem ret_strW {a b : ByteArray} (h : a = b) : Ending.returned (.string a) = .returned (.string b) := by rw [h]
theorem ba_app (l m : List UInt8) : (⟨l.toArray⟩ : ByteArray) ++ ⟨m.toArray⟩ = ⟨(l ++ m).toArray⟩ := by
  apply ByteArray.ext
  simp
theorem one_byte (j : Nat) (wr : World) : (convert 61 9 (.slice (some ⟨wr.heap.size, 0, none⟩) 1 1)).run Tryz.prog (wr.alloc (.cells #[.int .u8 (48 + (j : Int) % 10)] 5)) =
    .ok (.string ⟨#[UInt8.ofNat (48 + j % 10)]⟩) (wr.alloc (.cells #[.int .u8 (48 + (j : Int) % 10)] 5)) := by
  have h := run_convert_bytes_arg (P := Tryz.prog) (wr.alloc (.cells #[.int .u8 (48 + (j : Int) % 10)] 5)) 61 5 Tryz.underlying61 Tryz.underlying5 wr.heap.size 0 1 1 [48 + (j : Int) % 10] rfl (fun i hi => by
    obtain rfl : i = 0 := by omega
    rw [Nat.add_zero, World.cell?_alloc_new]
    rfl) 9 Tryz.underlying9
  rw [h]
  congr 2

set_option maxRecDepth 100000 in
set_option maxHeartbeats 1000000 in
theorem markText_c (k : Nat) (w : World) (hk : k ≤ 1099511627776) :
    Calls Tryz.prog 67 #[.int .i64 (k : Int)] w fun e w' => e = .returned (.string ⟨(mtxt k).toArray⟩) ∧ X w w' := by
  by_cases h0 : k = 0
  · subst h0
    go_enter Tryz.func67, Tryz.ntmps67
    go_wp2
    go_ret
    exact ⟨rfl, by (repeat (first | with_reducible exact X.refl _ | with_reducible assumption | with_reducible refine X.setCell ?_ (by first | (simp; done) | (simp; omega)) _ | with_reducible refine X.ext ?_ _ | with_reducible refine X.alloc ?_ _ | with_reducible refine X.drew ?_))⟩
  · have hp : (0 : Int) < (k : Int) := by omega
    have Ht := Lib.hid (show mtxt k = 109 :: mtD k by rw [mtxt, if_neg h0])
    have Hlen := Lib.hid (mtD_len k)
    go_enter Tryz.func67, Tryz.ntmps67
    go_wp2
    go_loopw [0, 3] (fun v s wr => ∃ (j : Nat) (out : List UInt8), j ≤ k ∧ v = .int .i64 (j : Int) ∧ s = .string ⟨(out).toArray⟩ ∧ mtD j ++ out = mtD k ∧ X w wr) (fun v _ _ => (intOf v).toNat)
    case atStart => exact ⟨k, [], Nat.le_refl _, rfl, rfl, List.append_nil _, by (repeat (first | with_reducible exact X.refl _ | with_reducible assumption | with_reducible refine X.setCell ?_ (by first | (simp; done) | (simp; omega)) _ | with_reducible refine X.ext ?_ _ | with_reducible refine X.alloc ?_ _ | with_reducible refine X.drew ?_))⟩
    case round =>
      obtain ⟨j, out, hj, rfl, rfl, hd, hX⟩ := hrel
      have hol : out.length ≤ 1099511627776 := by have := congrArg List.length hd; rw [List.length_append] at this; have := Hlen.out; omega
      have Hd := Lib.hid hd
      clear hd
      by_cases hj0 : j = 0
      · subst hj0
        go_wp2
        go_ret
        refine ⟨?_, hX⟩
        have hm := Hd.out
        rw [mtD_zero, List.nil_append] at hm
        rw [Ht.out, ← hm]
        exact ret_strW (ba_app [109] out)
      · have hjp : (0 : Int) < (j : Int) := by omega
        have hcv := one_byte j wr
        go_wp2
        go_roundw
        case rel => exact ⟨j / 10, UInt8.ofNat (48 + j % 10) :: out, by omega, by go_num, by
          rw [show UInt8.ofNat (48 + j % 10) :: out = [UInt8.ofNat (48 + j % 10)] ++ out from rfl, ← ba_app]; simp, by
          rw [← Hd.out, mtD_pos hj0, List.append_assoc]; rfl, by (repeat (first | with_reducible exact X.refl _ | with_reducible assumption | with_reducible refine X.setCell ?_ (by first | (simp; done) | (simp; omega)) _ | with_reducible refine X.ext ?_ _ | with_reducible refine X.alloc ?_ _ | with_reducible refine X.drew ?_))⟩
        case measure => simp [intOf]; omega

theorem markText_v (k : Nat) (v : Int) (w : World) (hv : v = (k : Int)) (hk : k ≤ 1099511627776) :
    Calls Tryz.prog 67 #[.int .i64 v] w fun e w' => e = .returned (.string ⟨(mtxt k).toArray⟩) ∧ X w w' := by
  subst hv
  exact markText_c k w hk
set_option maxRecDepth 100000 in
set_option maxHeartbeats 1000000 in
theorem markStmtS_c (xs : List Value) (a : Option Addr) (n c B k : Nat) (w : World) (hO : w.ownsRow B 148 5 (.slice a n c) n xs) (hn : n ≤ 1073741824) (hk : k ≤ 1073741824) :
    Calls Tryz.prog 53 #[.slice a n c, .int .i64 (k : Int)] w fun e w' => e = .returned (.int .i64 ((k + 5 * n : Nat) : Int)) ∧ w'.ownsRow B 148 5 (.slice a n c) n ((stsM k n).flatMap scells) ∧ w.grownBy w' (Value.slice a n c).ownBlock := by
  have Hx := Lib.hid (show xs.length = (stsM k n).length * 5 by rw [hO.1, stsM_len])
  have Hu := Lib.hid (fun i h => @stsM_nth k n i h)
  have hlu := Lib.hid (@stsM_len k n)
  generalize stsM k n = L at *
  go_enter Tryz.func53, Tryz.ntmps53
  go_wp2
  go_loopw [1, 5] (fun v i wr => ∃ j : Nat, j ≤ n ∧ i = .int .i64 j ∧ v = .int .i64 ((k + 5 * j : Nat) : Int) ∧ wr.ownsRow B 148 5 (.slice a n c) n (mixR scells 5 L xs j) ∧ w.grownBy wr (Value.slice a n c).ownBlock) (fun _ i _ => n - (intOf i).toNat)
  case atStart => exact ⟨0, Nat.zero_le _, rfl, rfl, by rw [mixR_zero]; exact hO, World.grownBy.refl _ _⟩
  case round =>
    obtain ⟨j, hj, rfl, rfl, hOw, hg⟩ := hrel
    clear hO
    by_cases hlt : j < n
    · obtain ⟨g, rfl, hB, hgl⟩ := own_form hOw (by omega)
      have hf0 := (hOw).frozenAt (j * 5); obtain ⟨u0, hu0⟩ := own_here hOw (j := j * 5) (by omega)
      go_wp2_with fail
      refine calls_name (fun W1 hW1 => ?_)
      have hO1 := own_set_at hW1 hOw
      have hg1 := grown_set_at hW1 hg
      clear hW1
      refine (markText_v (k + 5 * j + 1) _ W1 (by omega) (by omega)).mono ?_
      rintro _ w2 ⟨rfl, hx2⟩
      have hO2 := own_fr hO1 (hx2.fr _)
      have hg2 := grown_x hg1 hx2
      have hgl2 := (hO2.lt g rfl).2
      clear hO1 hg1 hx2
      have hf1 := (hO2).frozenAt (j * 5 + 1); obtain ⟨u1, hu1⟩ := own_here hO2 (j := j * 5 + 1) (by omega)
      have hf2 := (hO2).frozenAt (j * 5 + 2); obtain ⟨u2, hu2⟩ := own_here hO2 (j := j * 5 + 2) (by omega)
      go_wp2_with fail
      refine calls_name (fun W3 hW3 => ?_)
      have hO3 := own_set_at2 hW3 hO2
      have hg3 := grown_set_at2 hW3 hg2
      clear hW3
      refine (markText_v (k + 5 * j + 3) _ W3 (by omega) (by omega)).mono ?_
      rintro _ w4 ⟨rfl, hx4⟩
      have hO4 := own_fr hO3 (hx4.fr _)
      have hg4 := grown_x hg3 hx4
      have hgl4 := (hO4.lt g rfl).2
      clear hO3 hg3 hx4
      have hf3 := (hO4).frozenAt (j * 5 + 3); obtain ⟨u3, hu3⟩ := own_here hO4 (j := j * 5 + 3) (by omega)
      have hf4 := (hO4).frozenAt (j * 5 + 4); obtain ⟨u4, hu4⟩ := own_here hO4 (j := j * 5 + 4) (by omega)
      go_wp2
      have hO5 := own_set (own_set hO4 (k := j * 5 + 3) (.string ⟨(mtxt (k + 5 * j + 3)).toArray⟩)) (k := j * 5 + 4) (.int .i64 ((k : Int) + 5 * (j : Int) + 1 + 1 + 1 + 1))
      go_roundw
      case rel => exact ⟨j + 1, by omega, by go_num, by go_num, by
        rw [← mix_set5 (g := scells) (fun _ => rfl) Hx.out (k := j) (by rw [hlu.out]; exact hlt) (.int .i64 ((k : Int) + 5 * (j : Int))) (.string ⟨(mtxt (k + 5 * j + 1)).toArray⟩) (.int .i64 ((k : Int) + 5 * (j : Int) + 1 + 1)) (.string ⟨(mtxt (k + 5 * j + 3)).toArray⟩) (.int .i64 ((k : Int) + 5 * (j : Int) + 1 + 1 + 1 + 1)) (by
          rw [Hu.out j hlt, stM, scells, List.cons.injEq]; simp; omega)]
        exact hO5, grown_next (grown_next hg4 _ _) _ _⟩
      case measure => simp [intOf]; omega
    · obtain rfl : j = n := by omega
      go_wp2
      go_ret
      refine ⟨rfl, ?_, hg⟩
      have h := mixR_all (g := scells) (l := L) (z := xs) Hx.out
      rw [hlu.out] at h
      rw [h] at hOw
      exact hOw

end Go.Proofs.YtgjfjjhmgbemcaaGreatDoor
