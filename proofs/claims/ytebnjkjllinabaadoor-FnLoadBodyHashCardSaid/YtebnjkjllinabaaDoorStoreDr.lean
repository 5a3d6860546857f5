/- The generator of stores with the tree they belong to. No condition but that the reader has not read too far. -/
import Derived.Test.YtebnjkjllinabaaDoorGh
import Derived.Test.YtebnjkjllinabaaDoorHashAny
import Derived.Test.YtebnjkjllinabaaDoorGf
import Derived.Deep.RegionHeld3
namespace Go.Proofs.YtebnjkjllinabaaDoor
open Go.RowKit

structure TreeW (w : World) (B : Nat) (a : Option Addr) (c : Nat) (vs : List (Fi × Value)) : Prop where
  row : w.ownsRow B 43 6 (.slice a vs.length c) vs.length (vs.flatMap fcells)
  small : ∀ x ∈ vs, SmallF x.1
  body : ∀ x ∈ vs, OwnB w B x
theorem TreeO.w {w : World} {B c : Nat} {a : Option Addr} {vs : List (Fi × Value)} (h : TreeO w B a c vs) : TreeW w B a c vs := ⟨h.row, h.small, h.body⟩
theorem TreeW.fr {w w' : World} {B c : Nat} {a : Option Addr} {vs : List (Fi × Value)} (h : TreeW w B a c vs) (hx : Fr B w w') : TreeW w' B a c vs := ⟨own_fr h.row hx, h.small, fun x hm => (h.body x hm).fr hx⟩
theorem OwnB.less {w : World} {B B' : Nat} {x : Fi × Value} (h : OwnB w B x) (hB : B' ≤ B) : OwnB w B' x := let ⟨b, d, h1, h2⟩ := h; ⟨b, d, h1, own_less h2 hB⟩
theorem TreeW.less {w : World} {B B' c : Nat} {a : Option Addr} {vs : List (Fi × Value)} (h : TreeW w B a c vs) (hB : B' ≤ B) : TreeW w B' a c vs := ⟨own_less h.row hB, h.small, fun x hm => (h.body x hm).less hB⟩
theorem TreeW.files {w : World} {B c : Nat} {a : Option Addr} {vs : List (Fi × Value)} (h : TreeW w B a c vs) (hn : vs.length ≤ 100) : FilesAt w B a vs.length (vs.map (·.1)) := files_of h.row h.small h.body hn
/-- A row of another type has grown. -/
theorem TreeW.kept {w w' : World} {B B' e size n c : Nat} {v : Value} {xs : List Value} {a : Option Addr} {vs : List (Fi × Value)} (h : TreeW w B a c vs) (hr : w.ownsRow B' e size v n xs) (hg : w.grownBy w' v.ownBlock) (h1 : 43 ≠ e) (h2 : 66 ≠ e) : TreeW w' B a c vs :=
  ⟨h.row.kept hg (row_ne h.row hr h1), h.small, fun x hm => by
    obtain ⟨b, d, e1, ho⟩ := h.body x hm
    exact ⟨b, d, e1, ho.kept hg (row_ne ho hr h2)⟩⟩
def SmallC (c : Co) : Prop := c.mod.length ≤ 64 ∧ c.body.length ≤ 5 ∧ ∀ s ∈ c.body, s.mod.length ≤ 20 ∧ s.name.length ≤ 20
structure StoreW (w : World) (B : Nat) (a : Option Addr) (c : Nat) (ls : List (Co × Value)) : Prop where
  row : w.ownsRow B 49 8 (.slice a ls.length c) ls.length (ls.flatMap ccells)
  small : ∀ x ∈ ls, SmallC x.1
  body : ∀ x ∈ ls, BodyC w B x
theorem StoreW.fr {w w' : World} {B c : Nat} {a : Option Addr} {ls : List (Co × Value)} (h : StoreW w B a c ls) (hx : Fr B w w') : StoreW w' B a c ls := ⟨own_fr h.row hx, h.small, fun x hm => (h.body x hm).fr hx⟩
theorem StoreW.less {w : World} {B B' c : Nat} {a : Option Addr} {ls : List (Co × Value)} (h : StoreW w B a c ls) (hB : B' ≤ B) : StoreW w B' a c ls := ⟨own_less h.row hB, h.small, fun x hm => (h.body x hm).less hB⟩
theorem StoreW.set_far {w : World} {B c t b : Nat} {a : Option Addr} {ls : List (Co × Value)} {cs : Array Value} {fz : Nat × Nat} (h : StoreW w B a c ls) (hb : w.heap[b]? = some (.cells cs t fz)) (h1 : 49 ≠ t) (h2 : 66 ≠ t) (i : Nat) (u : Value) : StoreW (w.setCell ⟨b, i, none⟩ u) B a c ls :=
  ⟨own_set_far h.row hb h1 i u, h.small, fun x hm => by
    obtain ⟨ba, bc, e, ho⟩ := h.body x hm
    exact ⟨ba, bc, e, own_set_far ho hb h2 i u⟩⟩
theorem StoreW.push {w w' : World} {B c c' : Nat} {a a' : Option Addr} {ls : List (Co × Value)} (h : StoreW w B a c ls) (hg : w.grownBy w' (Value.slice a ls.length c).ownBlock) {x : Co × Value}
    (hrow : w'.ownsRow B 49 8 (.slice a' (ls.length + 1) c') (ls.length + 1) (ls.flatMap ccells ++ ccells x)) (hs : SmallC x.1) (hb : BodyC w B x) : StoreW w' B a' c' (ls ++ [x]) := by
  refine ⟨by rw [flat_snoc, List.length_append]; exact hrow, fun y hy => ?_, fun y hy => ?_⟩
  · rcases List.mem_append.1 hy with hy | hy
    · exact h.small y hy
    · rw [List.mem_singleton.1 hy]; exact hs
  · have : BodyC w B y := by
      rcases List.mem_append.1 hy with hy | hy
      · exact h.body y hy
      · rw [List.mem_singleton.1 hy]; exact hb
    refine this.kept hg ?_
    obtain ⟨ba, bc, e, ho⟩ := this
    rw [e]
    exact row_ne ho h.row (by decide)
theorem StoreW.cos {w : World} {B c : Nat} {a : Option Addr} {ls : List (Co × Value)} (h : StoreW w B a c ls) (hn : ls.length ≤ 100) : CosAt w B a ls.length (ls.map (·.1)) := by
  refine ⟨ls, rfl, by simp, by omega, ?_, Sl.of_own h.row, fun x hx => ?_⟩
  · intro f hf
    obtain ⟨x, hx, rfl⟩ := List.mem_map.1 hf
    have := (h.small x hx).1
    omega
  · obtain ⟨ba, bc, e, ho⟩ := h.body x hx
    have hs := h.small x hx
    exact ⟨ba, _, bc, e, own_cap ho, rfl, by have := hs.2.1; omega, fun s hm => ⟨by have := (hs.2.2 s hm).1; omega, by have := (hs.2.2 s hm).2; omega⟩, Sl.of_own ho⟩
theorem StoreW.nil {w : World} {B c : Nat} {a : Option Addr} (h : w.ownsRow B 49 8 (.slice a 0 c) 0 []) : StoreW w B a c [] := ⟨h, by simp, by simp⟩
/-- Another cell in an element of the table of files. -/
theorem fset {vs : List (Fi × Value)} {k j : Nat} (hk : k < vs.length) (hj : j < 6) {y : Fi × Value} {u : Value} (hv : (fcells (nth vs k)).set j u = fcells y) : (vs.flatMap fcells).set (k * 6 + j) u = (vs.set k y).flatMap fcells := by
  have hA : ((vs.take k).flatMap fcells).length = k * 6 := by rw [flat_length 6 fcells fcells6, List.length_take, Nat.min_eq_left (by omega)]
  have hz : vs.flatMap fcells = (vs.take k).flatMap fcells ++ (fcells (nth vs k) ++ (vs.drop (k + 1)).flatMap fcells) := by
    rw [← List.flatMap_cons, ← drop_nth hk, ← List.flatMap_append, List.take_append_drop]
  have hs : vs.set k y = vs.take k ++ y :: vs.drop (k + 1) := by
    rw [List.set_eq_take_append_cons_drop, if_pos hk]
  have hl : (fcells (nth vs k)).length = 6 := fcells6 _
  rw [hs, List.flatMap_append, List.flatMap_cons, hz, ← hv, ← hA, List.set_append_right _ _ (by omega), show ((vs.take k).flatMap fcells).length + j - ((vs.take k).flatMap fcells).length = j by omega, List.set_append_left _ _ (by omega)]
theorem TreeW.set {w : World} {B g c k j : Nat} {vs : List (Fi × Value)} (h : TreeW w B (some ⟨g, 0, none⟩) c vs) (hk : k < vs.length) (hj : j < 6) {y : Fi × Value} {u : Value} (hv : (fcells (nth vs k)).set j u = fcells y) (hs : SmallF y.1) (hb : OwnB w B y) :
    TreeW (w.setCell ⟨g, k * 6 + j, none⟩ u) B (some ⟨g, 0, none⟩) c (vs.set k y) := by
  obtain ⟨cs, hg⟩ := own_block h.row
  refine ⟨?_, fun x hx => ?_, fun x hx => ?_⟩
  · rw [← fset hk hj hv, List.length_set]
    exact own_set h.row u
  · rcases List.mem_or_eq_of_mem_set hx with hx | rfl
    · exact h.small x hx
    · exact hs
  · have hx' : OwnB w B x := by
      rcases List.mem_or_eq_of_mem_set hx with hx | rfl
      · exact h.body x hx
      · exact hb
    exact hx'.set_far hg (by decide) _ _
theorem TreeW.cells {w : World} {B g c k : Nat} {vs : List (Fi × Value)} (h : TreeW w B (some ⟨g, 0, none⟩) c vs) (hk : k < vs.length) :
    ∃ ba bc, (nth vs k).2 = .slice ba (nth vs k).1.body.length bc ∧ w.ownsRow B 66 5 (.slice ba (nth vs k).1.body.length bc) (nth vs k).1.body.length ((nth vs k).1.body.flatMap scells) ∧ g < w.heap.size ∧ B ≤ g ∧
      w.cell? ⟨g, k * 6, none⟩ = some (.int .i64 (nth vs k).1.root) ∧ w.cell? ⟨g, k * 6 + 1, none⟩ = some (.string ⟨((nth vs k).1.pkg).toArray⟩) ∧ w.cell? ⟨g, k * 6 + 2, none⟩ = some (.string ⟨((nth vs k).1.name).toArray⟩) ∧ w.cell? ⟨g, k * 6 + 3, none⟩ = some (.bool (nth vs k).1.init) ∧
      w.cell? ⟨g, k * 6 + 4, none⟩ = some (.int .i64 (nth vs k).1.stamp) ∧ w.cell? ⟨g, k * 6 + 5, none⟩ = some (.slice ba (nth vs k).1.body.length bc) := by
  obtain ⟨ba, bc, e, ho⟩ := h.body _ (nth_mem hk)
  have hc : ∀ j (hj : j < 6), w.cell? ⟨g, k * 6 + j, none⟩ = some ((fcells (nth vs k))[j]'(by rw [fcells6]; exact hj)) := fun j hj => by
    have hl : k * 6 + j < (vs.flatMap fcells).length := by rw [flat_length 6 fcells fcells6]; omega
    have := row_cell h.row (k * 6 + j) _ (List.getElem?_eq_getElem hl)
    rw [this, flat_get 6 fcells fcells6 vs k j hk hj hl]
    simp only [nth_eq hk]
  have hlt := h.row.lt g rfl
  have c5 := hc 5 (by omega)
  simp only [fcells, e, List.getElem_cons_zero, List.getElem_cons_succ] at c5
  exact ⟨ba, bc, e, ho, hlt.2, hlt.1, hc 0 (by omega), hc 1 (by omega), hc 2 (by omega), hc 3 (by omega), hc 4 (by omega), c5⟩

end Go.Proofs.YtebnjkjllinabaaDoor
