/- Blocks and rows of the call's own: what a store leaves, what an append leaves. No condition. -/
import Derived.Test.YtjlooplpjliaiaaDoorData
namespace Go.Proofs.YtjlooplpjliaiaaDoor
open Go.RowKit

theorem own_cells {w : World} {B e size n c g : Nat} {xs : List Value} (h : w.ownsRow B e size (.slice (some ⟨g, 0, none⟩) n c) n xs) : ∀ j u, xs[j]? = some u → w.cell? ⟨g, j, none⟩ = some u := row_cell h
/-- Block b holds the cells cs, and may be written. -/
def Bx (w : World) (b : Nat) (cs : Array Value) : Prop := ∃ t, w.heap[b]? = some (.cells cs t (0, 0))
theorem Bx.lt {w : World} {b : Nat} {cs : Array Value} (h : Bx w b cs) : b < w.heap.size := by
  obtain ⟨t, h⟩ := h
  exact (Array.getElem?_eq_some_iff.1 h).1
theorem Bx.out {w : World} {b : Nat} {cs : Array Value} (h : Bx w b cs) : b < w.heap.size ∧ (∀ i, w.cell? ⟨b, i, none⟩ = cs[i]?) ∧ ∀ i, w.frozen? ⟨b, i, none⟩ = false := by
  have hl := h.lt
  obtain ⟨t, h⟩ := h
  exact ⟨hl, fun i => cell_of_row w b i _ _ (0, 0) h, fun i => by simp [World.frozen?, h]⟩
theorem Bx.new (w : World) (cs : Array Value) (t : TypeId) : Bx (w.alloc (.cells cs t)) w.heap.size cs := ⟨t, heap_alloc_new w _⟩
theorem Bx.x {w w' : World} {b : Nat} {cs : Array Value} (h : Bx w b cs) (hx : X w w') : Bx w' b cs := by
  have hl := h.lt
  obtain ⟨t, h⟩ := h
  exact ⟨t, (hx.below.block b hl).trans h⟩
theorem Bx.set {w : World} {b : Nat} {cs : Array Value} (h : Bx w b cs) (i : Nat) (v : Value) : Bx (w.setCell ⟨b, i, none⟩ v) b (cs.setIfInBounds i v) := by
  obtain ⟨t, h⟩ := h
  exact ⟨t, heap_setCell_same w b i cs t v h⟩
/-- ty is a struct of n cells. -/
structure StrT (P : Program) (ty n : Nat) : Prop where
  hu : ∃ fs, P.underlying ty = some (.struct fs)
  hi : (P.info? ty).map (·.size) = some n
theorem bodyPost_row {P : Program} {fn : Func} {R : Ending → World → Prop} {a : Act} {w : World} {p : Tmp} {ty n g : Nat} {cs : Array Value} (h : fn.results = #[.cell p ty]) (hp : a.tmps.getD p undef = .pointer (some ⟨g, 0, none⟩)) (hB : Bx w g cs) (hS : StrT P ty n) (hn : cs.size = n)
    (hd : a.defers = []) (hR : R (.returned (.agg cs)) w) : bodyPost P fn R .ret a w := by
  obtain ⟨t, hg⟩ := hB
  obtain ⟨d, hu⟩ := hS.hu
  exact bodyPost_ret (results_cell_row h a.tmps w g t cs (0, 0) _ hp hg hu rfl (by rw [hn]; exact hS.hi)) hd hR
theorem Bx.far {w : World} {b : Nat} {cs : Array Value} (h : Bx w b cs) {p : Addr} (hne : b ≠ p.block) (v : Value) : Bx (w.setCell p v) b cs := by
  obtain ⟨t, h⟩ := h
  exact ⟨t, (heap_setCell_other w p b v hne).trans h⟩
theorem Fr.set {B : Nat} {w w' : World} (h : Fr B w w') {p : Addr} (hp : w.heap.size ≤ p.block ∨ p.block < B) (v : Value) : Fr B w (w'.setCell p v) :=
  ⟨by simpa [World.setCell] using h.size, fun k hk hl => (heap_setCell_other w' p k v (by omega)).trans (h.block k hk hl)⟩
theorem row_kind {w : World} {B e size n : Nat} {v : Value} {xs : List Value} (h : w.ownsRow B e size v n xs) : ∀ g, v.ownBlock = some g → ∃ c fz, w.heap[g]? = some (.cells c e fz) := by
  intro g hg
  rcases h.2 with ⟨rfl, _⟩ | ⟨g', cap, cur, rfl, _, hgg, _⟩
  · simp [Value.ownBlock] at hg
  · simp [Value.ownBlock] at hg
    subst hg
    exact ⟨cur, (0, 0), hgg⟩
theorem row_ne {w : World} {B B' e e' size size' n n' : Nat} {v v' : Value} {xs xs' : List Value} (h : w.ownsRow B e size v n xs) (h' : w.ownsRow B' e' size' v' n' xs') (hne : e ≠ e') : v.ownBlock = none ∨ v.ownBlock ≠ v'.ownBlock := by
  cases hv : v.ownBlock with
  | none => exact .inl rfl
  | some g =>
    refine .inr fun he => ?_
    obtain ⟨c, fz, h1⟩ := row_kind h g hv
    obtain ⟨c', fz', h2⟩ := row_kind h' g he.symm
    rw [h1] at h2
    injection h2 with h2
    injection h2 with _ h2
    exact hne h2
theorem own_cap {w : World} {B e size n c : Nat} {a : Option Addr} {xs : List Value} (h : w.ownsRow B e size (.slice a n c) n xs) : n ≤ c := by
  rcases h.2 with ⟨h1, rfl⟩ | ⟨g', cap, cur, h1, _, _, h2, _⟩
  · omega
  · injection h1 with _ _ h1
    omega
theorem grown_set (w : World) (p : Addr) (v : Value) : w.grownBy (w.setCell p v) (some p.block) :=
  ⟨rfl, rfl, rfl, by simp [World.setCell], fun k _ hne => heap_setCell_other w p k v (fun e => hne (by rw [e]))⟩
theorem own_ne_at {w : World} {B e size n t b : Nat} {v : Value} {xs : List Value} {cs : Array Value} {fz : Nat × Nat} (h : w.ownsRow B e size v n xs) (hb : w.heap[b]? = some (.cells cs t fz)) (hne : e ≠ t) : v.ownBlock ≠ some b := by
  intro hv
  obtain ⟨c, fz', h1⟩ := row_kind h b hv
  rw [hb] at h1
  injection h1 with h1
  injection h1 with _ h1
  exact hne h1.symm
theorem own_set_far {w : World} {B e size n t b : Nat} {v : Value} {xs : List Value} {cs : Array Value} {fz : Nat × Nat} (h : w.ownsRow B e size v n xs) (hb : w.heap[b]? = some (.cells cs t fz)) (hne : e ≠ t) (i : Nat) (u : Value) :
    (w.setCell ⟨b, i, none⟩ u).ownsRow B e size v n xs := h.kept (grown_set w _ u) (.inr (own_ne_at h hb hne))
theorem own_set {w : World} {B e size n c g k : Nat} {xs : List Value} (h : w.ownsRow B e size (.slice (some ⟨g, 0, none⟩) n c) n xs) (u : Value) : (w.setCell ⟨g, k, none⟩ u).ownsRow B e size (.slice (some ⟨g, 0, none⟩) n c) n (xs.set k u) := by
  obtain ⟨hl, h | ⟨g', cap, cur, hv, hB, hg, hn, hcap, hsz, hx⟩⟩ := h
  · injection h.1 with h1; cases h1
  · injection hv with h1 _ h2
    injection h1 with h1
    injection h1 with h1
    subst h1 h2
    refine ⟨by simpa using hl, .inr ⟨g, c, cur.setIfInBounds k u, rfl, hB, heap_setCell_same w g k cur e u hg, hn, hcap, by simpa using hsz, ?_⟩⟩
    rw [← hx, Array.toList_setIfInBounds, List.take_set]
/-- append of a literal onto an owned slice: what has changed. -/
theorem wpList_append_g {P : Program} {ops : Array Oper} {rest : List Oper} {o : Oper} {a : Act} {Q : Exit → Act → World → Prop} {t e size bytes : Nat} (hT : AppT P t e size bytes) (hgd : o.guard = none) (s x : Operand)
    (ho : o.op = .call { callee := .builtin .append, args := #[s, x], argTypes := #[t, t] }) {w : World} {B : Nat} {v : Value} {n : Nat} {xs : List Value} {cs : Array Value}
    (hown : w.ownsRow B e size v n xs) (hs : a.eval s = v) {g : Nat} (hx : a.eval x = .slice (some ⟨g, 0, none⟩) 1 1) (hg : g = w.heap.size) (hcs : cs.size = size) (h1 : ∀ u ∈ cs.toList, u.oneCell' = true)
    (hb : (n + 1) * bytes ≤ 140737488355328) (hn : n + 1 ≤ 9223372036854775807) (hBw : B ≤ w.heap.size)
    (h : ∀ a' c' w', w'.ownsRow B e size (.slice a' (n + 1) c') (n + 1) (xs ++ cs.toList) → (w.alloc (.cells cs e)).grownBy w' v.ownBlock → wpList P ops Q rest (a.put o.dst (.slice a' (n + 1) c')) w') :
    wpList P ops Q (o :: rest) a (w.alloc (.cells cs e)) := by
  subst hg
  obtain ⟨i, z, hi, hz, hsize, hby, hzs⟩ := hT.hi
  refine wpList_append_own _ hgd s x t ho B e i z size bytes hT.ht hi hz hsize hby hzs hT.hsz v n xs hs (hown.alloc _) ⟨w.heap.size, 0, none⟩ 1 1 cs.toList hx (by simp [hcs])
    (fun j u hu => ?_) h1 (by unfold maxLen; omega) hb (by simp; omega) ?_
  · have hadd : (⟨w.heap.size, 0, none⟩ : Addr).add j = ⟨w.heap.size, j, none⟩ := by unfold Addr.add; split <;> simp_all
    rw [hadd, World.cell?_alloc_new]
    simpa using hu
  · intro v' w' hown' hgr _
    obtain ⟨a', c', rfl⟩ := own_slice hown'
    exact h a' c' w' hown' hgr
theorem Bx.grown {w w' : World} {b : Nat} {cs : Array Value} {row : Option Nat} (h : Bx w b cs) (hg : w.grownBy w' row) (hr : ∀ k, row = some k → b ≠ k) : Bx w' b cs := by
  have hl := h.lt
  obtain ⟨t, h⟩ := h
  exact ⟨t, (hg.block b hl (fun e => hr b e.symm rfl)).trans h⟩
theorem own_ge {w : World} {B e size n : Nat} {v : Value} {xs : List Value} (h : w.ownsRow B e size v n xs) {b : Nat} (hb : b < B) : ∀ k, v.ownBlock = some k → b ≠ k := fun k hk => by
  have := (h.lt k hk).1; omega
theorem row_far {w w1 : World} {B B' e e' size size' n n' : Nat} {v v' : Value} {xs xs' : List Value} (h : w.ownsRow B e size v n xs) (hB : B' = w.heap.size) (h' : w1.ownsRow B' e' size' v' n' xs') : v.ownBlock = none ∨ v'.ownBlock = none ∨ v'.ownBlock ≠ v.ownBlock := by
  cases hv : v.ownBlock with
  | none => exact .inl rfl
  | some g =>
    cases hv' : v'.ownBlock with
    | none => exact .inr (.inl rfl)
    | some g' =>
      refine .inr (.inr fun he => ?_)
      have h1 := (h.lt g hv).2
      have h2 := (h'.lt g' hv').1
      injection he with he
      omega
theorem X.grown {w W w' : World} {row : Option Nat} (hx : X w W) (hg : W.grownBy w' row) : w.grownBy w' row :=
  ⟨hg.os.trans hx.below.os, hg.tape.trans hx.below.tape, hg.output.trans hx.below.output, Nat.le_trans hx.size hg.size, fun k hk hne => (hg.block k (Nat.lt_of_lt_of_le hk hx.size) hne).trans (hx.below.block k hk)⟩
/-- append of a literal onto an owned slice, in a region that draws its order. -/
theorem step_append_t {P : Program} {ops : Array Oper} {o : Oper} {a : Act} {K : Act → World → Prop} {Q : Exit → Act → World → Prop} {E : Prop} {t e size bytes : Nat} (hT : AppT P t e size bytes) (hgd : o.guard = none) (s x : Operand)
    (ho : o.op = .call { callee := .builtin .append, args := #[s, x], argTypes := #[t, t] }) {w W : World} (hX : X w W) {B : Nat} {v : Value} {n : Nat} {xs : List Value} {cs : Array Value}
    (hown : w.ownsRow B e size v n xs) (hs : a.eval s = v) {g : Nat} (hx : a.eval x = .slice (some ⟨g, 0, none⟩) 1 1) (hg : W.heap[g]? = some (.cells cs e (0, 0))) (hcs : cs.size = size) (h1 : ∀ u ∈ cs.toList, u.oneCell' = true)
    (hb : (n + 1) * bytes ≤ 140737488355328) (hn : n + 1 ≤ 9223372036854775807) (hBw : B ≤ w.heap.size)
    (h : ∀ a' c' w', w'.ownsRow B e size (.slice a' (n + 1) c') (n + 1) (xs ++ cs.toList) → w.grownBy w' v.ownBlock → K (a.put o.dst (.slice a' (n + 1) c')) w') :
    if Region.wanted o (yielded ops a.tmps) = true then Oper.wp P o a W K Q else E := by
  obtain ⟨i, z, hi, hz, hsize, hby, hzs⟩ := hT.hi
  exact step_append_lies W hgd s x t ho B e i z size bytes hT.ht hi hz hsize hby hzs hT.hsz v n xs hs (own_fr hown (hX.fr _)) ⟨g, 0, none⟩ 1 1 cs.toList hx (by simp [hcs]) (World.news_of_block hg) h1 (by omega) (by unfold maxLen; omega) hb
    (Nat.le_trans hBw hX.size) _ rfl (fun g' cap w' h2 h3 _ _ => h _ _ w' h2 (hX.grown h3))
theorem at_grown {w w' : World} {b : Nat} {o : Obj} {row : Option Nat} (h : w.heap[b]? = some o) (hg : w.grownBy w' row) (hne : row ≠ some b) : w'.heap[b]? = some o :=
  (hg.block b (Array.getElem?_eq_some_iff.1 h).1 (Ne.symm hne)).trans h
theorem nth_ext {α : Type} [Inhabited α] {l m : List α} (hl : l.length = m.length) (h : ∀ k, k < l.length → nth l k = nth m k) : l = m := by
  refine List.ext_getElem hl fun k h1 h2 => ?_
  have := h k h1
  rwa [nth_eq h1, nth_eq h2] at this
theorem SpecAt.ints {w : World} {B : Nat} {a : Option Addr} {c : Nat} {r : List Int} (h : w.ownsRow B 3 1 (.slice a r.length c) r.length (ints r)) (hn : r.length ≤ 2097152) : IntsAt w B a r.length r := ⟨rfl, hn, Sl.of_own h⟩
theorem bx3 {w W : World} {c1 c2 c3 : Array Value} {t1 t2 t3 : TypeId} (h : W = ((w.alloc (.cells c1 t1)).alloc (.cells c2 t2)).alloc (.cells c3 t3)) : Bx W w.heap.size c1 ∧ Bx W (w.heap.size + 1) c2 ∧ Bx W (w.heap.size + 2) c3 ∧ X w W := by
  subst h
  refine ⟨(Bx.new w c1 t1).x (by (repeat (first | exact X.refl _ | assumption | refine X.ext ?_ _ | refine X.alloc ?_ _ | refine X.drew ?_))), ?_, ?_, by (repeat (first | exact X.refl _ | assumption | refine X.ext ?_ _ | refine X.alloc ?_ _ | refine X.drew ?_))⟩
  · have := (Bx.new (w.alloc (.cells c1 t1)) c2 t2).x (w' := ((w.alloc (.cells c1 t1)).alloc (.cells c2 t2)).alloc (.cells c3 t3)) (by (repeat (first | exact X.refl _ | assumption | refine X.ext ?_ _ | refine X.alloc ?_ _ | refine X.drew ?_)))
    simpa using this
  · have := Bx.new ((w.alloc (.cells c1 t1)).alloc (.cells c2 t2)) c3 t3
    simpa using this
theorem bx2 {w W : World} {c1 c2 : Array Value} {t1 t2 : TypeId} (h : W = (w.alloc (.cells c1 t1)).alloc (.cells c2 t2)) : Bx W w.heap.size c1 ∧ Bx W (w.heap.size + 1) c2 ∧ X w W := by
  subst h
  refine ⟨(Bx.new w c1 t1).x (by (repeat (first | exact X.refl _ | assumption | refine X.ext ?_ _ | refine X.alloc ?_ _ | refine X.drew ?_))), ?_, by (repeat (first | exact X.refl _ | assumption | refine X.ext ?_ _ | refine X.alloc ?_ _ | refine X.drew ?_))⟩
  have := Bx.new (w.alloc (.cells c1 t1)) c2 t2
  simpa using this
theorem calls_name {P : Program} {f : FuncId} {args : Array Value} {w : World} {Q : Ending → World → Prop} (h : ∀ W, W = w → Calls P f args W Q) : Calls P f args w Q := h w rfl
theorem X.of_grown {w w' : World} (h : w.grownBy w' none) : X w w' := X.of_below ⟨h.os, h.tape, h.output, h.size, fun k hk => h.block k hk (by simp)⟩
theorem fcells6 (x : Fi × Value) : (fcells x).length = 6 := rfl
theorem grown_next {w w' : World} {g : Nat} (h : w.grownBy w' (some g)) (o : Nat) (v : Value) : w.grownBy (w'.setCell ⟨g, o, none⟩ v) (some g) :=
  ⟨h.os, h.tape, h.output, by simpa [World.setCell] using h.size, fun k hk hne => (heap_setCell_other w' _ k v (fun e => hne (by rw [e]))).trans (h.block k hk hne)⟩
theorem own_block {w : World} {B e size n c g : Nat} {xs : List Value} (h : w.ownsRow B e size (.slice (some ⟨g, 0, none⟩) n c) n xs) : ∃ cs, w.heap[g]? = some (.cells cs e (0, 0)) := by
  rcases h.2 with ⟨h1, _⟩ | ⟨g', cap, cur, h1, _, hg, _⟩
  · injection h1 with h1; cases h1
  · injection h1 with h1 _ _
    injection h1 with h1
    injection h1 with h1
    subst h1
    exact ⟨cur, hg⟩
theorem own_form {w : World} {B e size n c : Nat} {a : Option Addr} {xs : List Value} (h : w.ownsRow B e size (.slice a n c) n xs) (hn : 0 < n) : ∃ g, a = some ⟨g, 0, none⟩ ∧ B ≤ g ∧ g < w.heap.size := by
  obtain ⟨g, cap, hv, hB, hlt⟩ := h.form hn
  injection hv with hv
  exact ⟨g, hv, hB, hlt⟩
theorem own_set_at {w W : World} {B e size n c g o : Nat} {xs : List Value} {v : Value} (hW : W = w.setCell ⟨g, o, none⟩ v) (h : w.ownsRow B e size (.slice (some ⟨g, 0, none⟩) n c) n xs) : W.ownsRow B e size (.slice (some ⟨g, 0, none⟩) n c) n (xs.set o v) := by
  subst hW; exact own_set h v
theorem own_set_at2 {w W : World} {B e size n c g o o' : Nat} {xs : List Value} {v v' : Value} (hW : W = (w.setCell ⟨g, o, none⟩ v).setCell ⟨g, o', none⟩ v') (h : w.ownsRow B e size (.slice (some ⟨g, 0, none⟩) n c) n xs) : W.ownsRow B e size (.slice (some ⟨g, 0, none⟩) n c) n ((xs.set o v).set o' v') := by
  subst hW; exact own_set (own_set h v) v'
theorem own_set_at3 {w W : World} {B e size n c g o o' o2 : Nat} {xs : List Value} {v v' v2 : Value} (hW : W = ((w.setCell ⟨g, o, none⟩ v).setCell ⟨g, o', none⟩ v').setCell ⟨g, o2, none⟩ v2) (h : w.ownsRow B e size (.slice (some ⟨g, 0, none⟩) n c) n xs) : W.ownsRow B e size (.slice (some ⟨g, 0, none⟩) n c) n (((xs.set o v).set o' v').set o2 v2) := by
  subst hW; exact own_set (own_set (own_set h v) v') v2
theorem grown_set_at3 {w0 w W : World} {g o o' o2 : Nat} {v v' v2 : Value} (hW : W = ((w.setCell ⟨g, o, none⟩ v).setCell ⟨g, o', none⟩ v').setCell ⟨g, o2, none⟩ v2) (h : w0.grownBy w (some g)) : w0.grownBy W (some g) := by
  subst hW; exact grown_next (grown_next (grown_next h o v) o' v') o2 v2
theorem grown_set_at {w0 w W : World} {g o : Nat} {v : Value} (hW : W = w.setCell ⟨g, o, none⟩ v) (h : w0.grownBy w (some g)) : w0.grownBy W (some g) := by
  subst hW; exact grown_next h o v
theorem grown_set_at2 {w0 w W : World} {g o o' : Nat} {v v' : Value} (hW : W = (w.setCell ⟨g, o, none⟩ v).setCell ⟨g, o', none⟩ v') (h : w0.grownBy w (some g)) : w0.grownBy W (some g) := by
  subst hW; exact grown_next (grown_next h o v) o' v'
theorem grown_x {w0 w w' : World} {row : Option Nat} (h : w0.grownBy w row) (hx : X w w') : w0.grownBy w' row :=
  ⟨hx.below.os.trans h.os, hx.below.tape.trans h.tape, hx.below.output.trans h.output, Nat.le_trans h.size hx.size, fun k hk hne => (hx.below.block k (Nat.lt_of_lt_of_le hk h.size)).trans (h.block k hk hne)⟩

end Go.Proofs.YtjlooplpjliaiaaDoor
