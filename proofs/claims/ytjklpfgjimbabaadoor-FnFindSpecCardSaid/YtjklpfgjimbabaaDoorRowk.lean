/- A tree whose rows are the call's own: the table of files and the bodies. No condition. -/
import Derived.Test.YtjklpfgjimbabaaDoorFile
namespace Go.Proofs.YtjklpfgjimbabaaDoor
open Go.RowKit

theorem row_kind {w : World} {B e size n : Nat} {v : Value} {xs : List Value} (h : w.ownsRow B e size v n xs) : ∀ g, v.ownBlock = some g → ∃ c fz, w.heap[g]? = some (.cells c e fz) := by
  intro g hg
  rcases h.2 with ⟨rfl, _⟩ | ⟨g', cap, cur, rfl, _, hgg, _⟩
  · simp [Value.ownBlock] at hg
  · simp [Value.ownBlock] at hg
    subst hg
    exact ⟨cur, (0, 0), hgg⟩
theorem row_ne {w : World} {B B' e e' size size' n n' : Nat} {v v' : Value} {xs xs' : List Value} (h : w.ownsRow B e size v n xs) (h' : w.ownsRow B' e' size' v' n' xs') (hne : e ≠ e') : v.ownBlock = none ∨ v.ownBlock ≠ v'.ownBlock := by
  cases hv : v.ownBlock with
  | none => exact .inl rfl
  | some g =>
    refine .inr fun he => ?_
    obtain ⟨c, fz, h1⟩ := row_kind h g hv
    obtain ⟨c', fz', h2⟩ := row_kind h' g he.symm
    rw [h1] at h2
    injection h2 with h2
    injection h2 with _ h2
    exact hne h2
/-- What is drawn as a file. -/
def SmallF (f : Fi) : Prop := f.pkg.length ≤ 20 ∧ f.name.length ≤ 20 ∧ f.body.length ≤ 5 ∧ ∀ s ∈ f.body, s.mod.length ≤ 20 ∧ s.name.length ≤ 20
def OwnB (w : World) (B : Nat) (x : Fi × Value) : Prop := ∃ a c, x.2 = .slice a x.1.body.length c ∧ w.ownsRow B 83 5 (.slice a x.1.body.length c) x.1.body.length (x.1.body.flatMap scells)
structure TreeO (w : World) (B : Nat) (a : Option Addr) (c : Nat) (vs : List (Fi × Value)) : Prop where
  row : w.ownsRow B 39 6 (.slice a vs.length c) vs.length (vs.flatMap fcells)
  small : ∀ x ∈ vs, SmallF x.1
  body : ∀ x ∈ vs, OwnB w B x
  first : ∀ x ∈ vs.tail, x.2.ownBlock = none ∨ x.2.ownBlock ≠ (vs.headD default).2.ownBlock
theorem OwnB.fr {w w' : World} {B : Nat} {x : Fi × Value} (h : OwnB w B x) (hx : Fr B w w') : OwnB w' B x := by
  obtain ⟨a, c, h1, h2⟩ := h
  exact ⟨a, c, h1, own_fr h2 hx⟩
theorem TreeO.fr {w w' : World} {B c : Nat} {a : Option Addr} {vs : List (Fi × Value)} (h : TreeO w B a c vs) (hx : Fr B w w') : TreeO w' B a c vs :=
  ⟨own_fr h.row hx, h.small, fun x hm => (h.body x hm).fr hx, h.first⟩
theorem TreeO.less {w : World} {B B' c : Nat} {a : Option Addr} {vs : List (Fi × Value)} (h : TreeO w B a c vs) (hB : B' ≤ B) : TreeO w B' a c vs :=
  ⟨own_less h.row hB, h.small, fun x hm => let ⟨b, d, h1, h2⟩ := h.body x hm; ⟨b, d, h1, own_less h2 hB⟩, h.first⟩
theorem fcells_length (x : Fi × Value) : (fcells x).length = 6 := rfl
theorem own_cap {w : World} {B e size n c : Nat} {a : Option Addr} {xs : List Value} (h : w.ownsRow B e size (.slice a n c) n xs) : n ≤ c := by
  rcases h.2 with ⟨h1, rfl⟩ | ⟨g', cap, cur, h1, _, _, h2, _⟩
  · omega
  · injection h1 with _ _ h1
    omega
theorem files_of {w : World} {B c : Nat} {a : Option Addr} {vs : List (Fi × Value)} (hrow : w.ownsRow B 39 6 (.slice a vs.length c) vs.length (vs.flatMap fcells)) (hsm : ∀ x ∈ vs, SmallF x.1) (hbd : ∀ x ∈ vs, OwnB w B x)
    (hn : vs.length ≤ 100) : FilesAt w B a vs.length (vs.map (·.1)) := by
  refine ⟨vs, rfl, by simp, by omega, ?_, Sl.of_own hrow, ?_⟩
  · intro f hf
    obtain ⟨x, hx, rfl⟩ := List.mem_map.1 hf
    have := hsm x hx
    exact ⟨by have := this.1; omega, by have := this.2.1; omega⟩
  · intro x hx
    obtain ⟨a', c', h1, h2⟩ := hbd x hx
    have hs := hsm x hx
    exact ⟨a', _, c', h1, own_cap h2, rfl, by have := hs.2.2.1; omega, fun s hm => ⟨by have := (hs.2.2.2 s hm).1; omega, by have := (hs.2.2.2 s hm).2; omega⟩, Sl.of_own h2⟩
theorem TreeO.files {w : World} {B c : Nat} {a : Option Addr} {vs : List (Fi × Value)} (h : TreeO w B a c vs) (hn : vs.length ≤ 100) : FilesAt w B a vs.length (vs.map (·.1)) := files_of h.row h.small h.body hn
theorem grown_set (w : World) (p : Addr) (v : Value) : w.grownBy (w.setCell p v) (some p.block) :=
  ⟨rfl, rfl, rfl, by simp [World.setCell], fun k _ hne => heap_setCell_other w p k v (fun e => hne (by rw [e]))⟩
theorem own_ne_at {w : World} {B e size n t b : Nat} {v : Value} {xs : List Value} {cs : Array Value} {fz : Nat × Nat} (h : w.ownsRow B e size v n xs) (hb : w.heap[b]? = some (.cells cs t fz)) (hne : e ≠ t) : v.ownBlock ≠ some b := by
  intro hv
  obtain ⟨c, fz', h1⟩ := row_kind h b hv
  rw [hb] at h1
  injection h1 with h1
  injection h1 with _ h1
  exact hne h1.symm
theorem own_set_far {w : World} {B e size n t b : Nat} {v : Value} {xs : List Value} {cs : Array Value} {fz : Nat × Nat} (h : w.ownsRow B e size v n xs) (hb : w.heap[b]? = some (.cells cs t fz)) (hne : e ≠ t) (i : Nat) (u : Value) :
    (w.setCell ⟨b, i, none⟩ u).ownsRow B e size v n xs := h.kept (grown_set w _ u) (.inr (own_ne_at h hb hne))
theorem own_set {w : World} {B e size n c g k : Nat} {xs : List Value} (h : w.ownsRow B e size (.slice (some ⟨g, 0, none⟩) n c) n xs) (u : Value) : (w.setCell ⟨g, k, none⟩ u).ownsRow B e size (.slice (some ⟨g, 0, none⟩) n c) n (xs.set k u) := by
  obtain ⟨hl, h | ⟨g', cap, cur, hv, hB, hg, hn, hcap, hsz, hx⟩⟩ := h
  · injection h.1 with h1; cases h1
  · injection hv with h1 _ h2
    injection h1 with h1
    injection h1 with h1
    subst h1 h2
    refine ⟨by simpa using hl, .inr ⟨g, c, cur.setIfInBounds k u, rfl, hB, heap_setCell_same w g k cur e u hg, hn, hcap, by simpa using hsz, ?_⟩⟩
    rw [← hx, Array.toList_setIfInBounds, List.take_set]

theorem TreeO.push {w w' : World} {B c c' : Nat} {a a' : Option Addr} {vs : List (Fi × Value)} (h : TreeO w B a c vs) (hg : w.grownBy w' (Value.slice a vs.length c).ownBlock) {x : Fi × Value}
    (hrow : w'.ownsRow B 39 6 (.slice a' (vs.length + 1) c') (vs.length + 1) (vs.flatMap fcells ++ fcells x)) (hs : SmallF x.1) (hb : OwnB w B x)
    (hne : ∀ y ∈ vs, y.2.ownBlock = none ∨ x.2.ownBlock = none ∨ x.2.ownBlock ≠ y.2.ownBlock) : TreeO w' B a' c' (vs ++ [x]) := by
  refine ⟨?_, ?_, ?_, ?_⟩
  · rw [flat_snoc, List.length_append]; exact hrow
  · intro y hy
    rcases List.mem_append.1 hy with hy | hy
    · exact h.small y hy
    · rw [List.mem_singleton.1 hy]; exact hs
  · intro y hy
    have : OwnB w B y := by
      rcases List.mem_append.1 hy with hy | hy
      · exact h.body y hy
      · rw [List.mem_singleton.1 hy]; exact hb
    obtain ⟨b, d, h1, h2⟩ := this
    exact ⟨b, d, h1, h2.kept hg (row_ne h2 h.row (by decide))⟩
  · intro y hy
    cases vs with
    | nil => simp at hy
    | cons z zs =>
      simp only [List.cons_append, List.tail_cons] at hy
      rcases List.mem_append.1 hy with hy | hy
      · exact h.first y hy
      · rw [List.mem_singleton.1 hy]
        rcases hne z (by simp) with h0 | h0 | h0
        · cases hx : x.2.ownBlock with
          | none => exact .inl rfl
          | some g => exact .inr (by simp [h0])
        · exact .inl h0
        · exact .inr h0
theorem TreeO.nil {w : World} {B : Nat} : TreeO w B none 0 [] := ⟨⟨rfl, .inl ⟨rfl, rfl⟩⟩, by simp, by simp, by simp⟩
/-- append of a literal onto an owned slice: what has changed. -/
theorem wpList_append_g {P : Program} {ops : Array Oper} {rest : List Oper} {o : Oper} {a : Act} {Q : Exit → Act → World → Prop} {t e size bytes : Nat} (hT : AppT P t e size bytes) (hgd : o.guard = none) (s x : Operand)
    (ho : o.op = .call { callee := .builtin .append, args := #[s, x], argTypes := #[t, t] }) {w : World} {B : Nat} {v : Value} {n : Nat} {xs : List Value} {cs : Array Value}
    (hown : w.ownsRow B e size v n xs) (hs : a.eval s = v) {g : Nat} (hx : a.eval x = .slice (some ⟨g, 0, none⟩) 1 1) (hg : g = w.heap.size) (hcs : cs.size = size) (h1 : ∀ u ∈ cs.toList, u.oneCell' = true)
    (hb : (n + 1) * bytes ≤ 140737488355328) (hn : n + 1 ≤ 9223372036854775807) (hBw : B ≤ w.heap.size)
    (h : ∀ a' c' w', w'.ownsRow B e size (.slice a' (n + 1) c') (n + 1) (xs ++ cs.toList) → (w.alloc (.cells cs e)).grownBy w' v.ownBlock → wpList P ops Q rest (a.put o.dst (.slice a' (n + 1) c')) w') :
    wpList P ops Q (o :: rest) a (w.alloc (.cells cs e)) := by
  subst hg
  obtain ⟨i, z, hi, hz, hsize, hby, hzs⟩ := hT.hi
  refine wpList_append_own _ hgd s x t ho B e i z size bytes hT.ht hi hz hsize hby hzs hT.hsz v n xs hs (hown.alloc _) ⟨w.heap.size, 0, none⟩ 1 1 cs.toList hx (by simp [hcs])
    (fun j u hu => ?_) h1 (by unfold maxLen; omega) hb (by simp; omega) ?_
  · have hadd : (⟨w.heap.size, 0, none⟩ : Addr).add j = ⟨w.heap.size, j, none⟩ := by unfold Addr.add; split <;> simp_all
    rw [hadd, World.cell?_alloc_new]
    simpa using hu
  · intro v' w' hown' hgr _
    obtain ⟨a', c', rfl⟩ := own_slice hown'
    exact h a' c' w' hown' hgr
theorem Bx.grown {w w' : World} {b : Nat} {cs : Array Value} {row : Option Nat} (h : Bx w b cs) (hg : w.grownBy w' row) (hr : ∀ k, row = some k → b ≠ k) : Bx w' b cs := by
  have hl := h.lt
  obtain ⟨t, h⟩ := h
  exact ⟨t, (hg.block b hl (fun e => hr b e.symm rfl)).trans h⟩
theorem own_ge {w : World} {B e size n : Nat} {v : Value} {xs : List Value} (h : w.ownsRow B e size v n xs) {b : Nat} (hb : b < B) : ∀ k, v.ownBlock = some k → b ≠ k := fun k hk => by
  have := (h.lt k hk).1; omega
theorem row_far {w w1 : World} {B B' e e' size size' n n' : Nat} {v v' : Value} {xs xs' : List Value} (h : w.ownsRow B e size v n xs) (hB : B' = w.heap.size) (h' : w1.ownsRow B' e' size' v' n' xs') : v.ownBlock = none ∨ v'.ownBlock = none ∨ v'.ownBlock ≠ v.ownBlock := by
  cases hv : v.ownBlock with
  | none => exact .inl rfl
  | some g =>
    cases hv' : v'.ownBlock with
    | none => exact .inr (.inl rfl)
    | some g' =>
      refine .inr (.inr fun he => ?_)
      have h1 := (h.lt g hv).2
      have h2 := (h'.lt g' hv').1
      injection he with he
      omega
theorem X.grown {w W w' : World} {row : Option Nat} (hx : X w W) (hg : W.grownBy w' row) : w.grownBy w' row :=
  ⟨hg.os.trans hx.below.os, hg.tape.trans hx.below.tape, hg.output.trans hx.below.output, Nat.le_trans hx.size hg.size, fun k hk hne => (hg.block k (Nat.lt_of_lt_of_le hk hx.size) hne).trans (hx.below.block k hk)⟩
/-- append of a literal onto an owned slice, in a region that draws its order. -/
theorem step_append_t {P : Program} {ops : Array Oper} {o : Oper} {a : Act} {K : Act → World → Prop} {Q : Exit → Act → World → Prop} {E : Prop} {t e size bytes : Nat} (hT : AppT P t e size bytes) (hgd : o.guard = none) (s x : Operand)
    (ho : o.op = .call { callee := .builtin .append, args := #[s, x], argTypes := #[t, t] }) {w W : World} (hX : X w W) {B : Nat} {v : Value} {n : Nat} {xs : List Value} {cs : Array Value}
    (hown : w.ownsRow B e size v n xs) (hs : a.eval s = v) {g : Nat} (hx : a.eval x = .slice (some ⟨g, 0, none⟩) 1 1) (hg : W.heap[g]? = some (.cells cs e (0, 0))) (hcs : cs.size = size) (h1 : ∀ u ∈ cs.toList, u.oneCell' = true)
    (hb : (n + 1) * bytes ≤ 140737488355328) (hn : n + 1 ≤ 9223372036854775807) (hBw : B ≤ w.heap.size)
    (h : ∀ a' c' w', w'.ownsRow B e size (.slice a' (n + 1) c') (n + 1) (xs ++ cs.toList) → w.grownBy w' v.ownBlock → K (a.put o.dst (.slice a' (n + 1) c')) w') :
    if Region.wanted o (yielded ops a.tmps) = true then Oper.wp P o a W K Q else E := by
  obtain ⟨i, z, hi, hz, hsize, hby, hzs⟩ := hT.hi
  exact step_append_lies W hgd s x t ho B e i z size bytes hT.ht hi hz hsize hby hzs hT.hsz v n xs hs (own_fr hown (hX.fr _)) ⟨g, 0, none⟩ 1 1 cs.toList hx (by simp [hcs]) (World.news_of_block hg) h1 (by omega) (by unfold maxLen; omega) hb
    (Nat.le_trans hBw hX.size) _ rfl (fun g' cap w' h2 h3 _ _ => h _ _ w' h2 (hX.grown h3))
theorem at_grown {w w' : World} {b : Nat} {o : Obj} {row : Option Nat} (h : w.heap[b]? = some o) (hg : w.grownBy w' row) (hne : row ≠ some b) : w'.heap[b]? = some o :=
  (hg.block b (Array.getElem?_eq_some_iff.1 h).1 (Ne.symm hne)).trans h
theorem OwnB.set_far {w : World} {B t b : Nat} {x : Fi × Value} {cs : Array Value} {fz : Nat × Nat} (h : OwnB w B x) (hb : w.heap[b]? = some (.cells cs t fz)) (hne : 83 ≠ t) (i : Nat) (u : Value) : OwnB (w.setCell ⟨b, i, none⟩ u) B x := by
  obtain ⟨a, c, h1, h2⟩ := h
  exact ⟨a, c, h1, own_set_far h2 hb hne i u⟩
theorem TreeO.bodies {w w' : World} {B c : Nat} {a : Option Addr} {vs : List (Fi × Value)} (h : TreeO w B a c vs) (hg : w.grownBy w' (Value.slice a vs.length c).ownBlock) : ∀ x ∈ vs, OwnB w' B x := fun x hx => by
  obtain ⟨b, d, h1, h2⟩ := h.body x hx
  exact ⟨b, d, h1, h2.kept hg (row_ne h2 h.row (by decide))⟩
theorem at_y {rb : Nat} {w w' : World} {b : Nat} {o : Obj} (h : w.heap[b]? = some o) (hy : Y rb w w') (hne : b ≠ rb) : w'.heap[b]? = some o :=
  (hy.block b (Array.getElem?_eq_some_iff.1 h).1 (by simpa using hne)).trans h
theorem tree_set {w : World} {B g c k : Nat} {f f' : Fi} {v0 u : Value} {us : List (Fi × Value)} {cur : Array Value} (hT : TreeO w B (some ⟨g, 0, none⟩) c ((f, v0) :: us)) (hg : w.heap[g]? = some (.cells cur 39 (0, 0)))
    (hcells : (((f, v0) :: us).flatMap fcells).set k u = ((f', v0) :: us).flatMap fcells) (hbody : f'.body = f.body) (hs : SmallF f') :
    (w.setCell ⟨g, k, none⟩ u).ownsRow B 39 6 (.slice (some ⟨g, 0, none⟩) (us.length + 1) c) (us.length + 1) (((f', v0) :: us).flatMap fcells) ∧ (∀ x ∈ (f', v0) :: us, SmallF x.1) ∧ ∀ x ∈ (f', v0) :: us, OwnB (w.setCell ⟨g, k, none⟩ u) B x := by
  refine ⟨?_, ?_, ?_⟩
  · rw [← hcells]
    exact own_set hT.row u
  · intro x hx
    rcases List.mem_cons.1 hx with rfl | hx
    · exact hs
    · exact hT.small x (List.mem_cons_of_mem _ hx)
  · intro x hx
    rcases List.mem_cons.1 hx with rfl | hx
    · obtain ⟨a, d, h1, h2⟩ := hT.body _ (List.mem_cons_self ..)
      simp only at h1 h2
      exact ⟨a, d, by simp only [hbody]; exact h1, by simp only [hbody]; exact own_set_far h2 hg (by decide) _ _⟩
    · exact (hT.body x (List.mem_cons_of_mem _ hx)).set_far hg (by decide) _ _
theorem tree_body {w w' : World} {B g c c' d0 : Nat} {f : Fi} {b0 a' : Option Addr} {us : List (Fi × Value)} {cur : Array Value} {s : St} (hT : TreeO w B (some ⟨g, 0, none⟩) c ((f, .slice b0 f.body.length d0) :: us))
    (hg : w.heap[g]? = some (.cells cur 39 (0, 0))) (hO : w.ownsRow B 83 5 (.slice b0 f.body.length d0) f.body.length (f.body.flatMap scells)) (hgr : w.grownBy w' (Value.slice b0 f.body.length d0).ownBlock)
    (hrow : w'.ownsRow B 83 5 (.slice a' (f.body.length + 1) c') (f.body.length + 1) (f.body.flatMap scells ++ scells s)) (hs : SmallF { f with body := f.body ++ [s] }) :
    (w'.setCell ⟨g, 5, none⟩ (.slice a' (f.body.length + 1) c')).ownsRow B 39 6 (.slice (some ⟨g, 0, none⟩) (us.length + 1) c) (us.length + 1) ((({ f with body := f.body ++ [s] }, .slice a' (f.body.length + 1) c') :: us).flatMap fcells) ∧
      (∀ x ∈ (({ f with body := f.body ++ [s] }, .slice a' (f.body.length + 1) c') :: us : List (Fi × Value)), SmallF x.1) ∧ ∀ x ∈ (({ f with body := f.body ++ [s] }, .slice a' (f.body.length + 1) c') :: us : List (Fi × Value)), OwnB (w'.setCell ⟨g, 5, none⟩ (.slice a' (f.body.length + 1) c')) B x := by
  have hg' := at_grown hg hgr (own_ne_at hO hg (by decide))
  have hrow' := hT.row.kept hgr (row_ne hT.row hO (by decide))
  refine ⟨?_, ?_, ?_⟩
  · exact own_set hrow' _
  · intro x hx
    rcases List.mem_cons.1 hx with rfl | hx
    · exact hs
    · exact hT.small x (List.mem_cons_of_mem _ hx)
  · intro x hx
    rcases List.mem_cons.1 hx with rfl | hx
    · exact ⟨a', c', by simp, by
        simp only [List.length_append, List.length_singleton, flat_snoc]
        exact own_set_far hrow hg' (by decide) _ _⟩
    · obtain ⟨a, d, h1, h2⟩ := hT.body x (List.mem_cons_of_mem _ hx)
      refine ⟨a, d, h1, own_set_far (h2.kept hgr ?_) hg' (by decide) _ _⟩
      have := hT.first x hx
      rw [h1] at this
      exact this
theorem cell_set_far {w : World} {b o : Nat} {p : Addr} {u : Value} {v : Option Value} (h : w.cell? ⟨b, o, none⟩ = v) (hne : b ≠ p.block) : (w.setCell p u).cell? ⟨b, o, none⟩ = v :=
  (World.cell?_of_block (heap_setCell_other w p b u hne)).trans h
theorem tree_S : StrT Tryd.prog 25 1 := ⟨⟨_, Tryd.underlying25⟩, by kernel_rfl⟩
theorem file_T : AppT Tryd.prog 23 39 6 80 := AppT.of (z := .agg #[.int .i64 0, .string ⟨#[]⟩, .string ⟨#[]⟩, .bool false, .int .i64 0, .slice none 0 0]) (by kernel_rfl) (by kernel_rfl) rfl (by omega)

end Go.Proofs.YtjklpfgjimbabaaDoor
