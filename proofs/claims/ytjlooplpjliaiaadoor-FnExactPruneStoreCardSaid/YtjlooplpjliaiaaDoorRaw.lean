/- Arguments that are slices of statements and of files, opened: how they lie in memory, as plain lists. No condition. -/
import Derived.Test.YtjlooplpjliaiaaDoorData
import Derived.Deep.Slices
import Derived.Deep.Fields
import Derived.ChangeSame
import Derived.ProofKit
import Derived.OpenShut
namespace Go.Proofs.YtjlooplpjliaiaaDoor
open Go.ChangeShapes Go.WideShapes Go.ChangeAt Go.RowKit Go.Deep

def inI (n : Int) : Prop := (Lit.int .i64 n).wf = true
/-- Statements of whatever length. -/
def StmtsR (w : World) (a : Option Addr) (n : Nat) (l : List St) : Prop :=
  n = l.length ∧ n ≤ maxLen ∧ (∀ s ∈ l, s.mod.length ≤ maxLen ∧ s.name.length ≤ maxLen ∧ inI s.kind ∧ inI s.level ∧ inI s.val) ∧ Sl w 0 a n (l.flatMap scells)
/-- Files of whatever length. -/
def FilesR (w : World) (a : Option Addr) (n : Nat) (l : List Fi) : Prop :=
  ∃ vs : List (Fi × Value), l = vs.map (·.1) ∧ n = l.length ∧ n ≤ maxLen ∧ (∀ f ∈ l, f.pkg.length ≤ maxLen ∧ f.name.length ≤ maxLen ∧ inI f.root ∧ inI f.stamp) ∧ Sl w 0 a n (vs.flatMap fcells) ∧
    ∀ x ∈ vs, ∃ ba bn bc, x.2 = .slice ba bn bc ∧ bn ≤ bc ∧ StmtsR w ba bn x.1.body

section
variable {H : Type} {enc : TypeId × Value → H} {P : Program} {w : World} {held : Bool}

theorem list_of {α : Type} [Inhabited α] {n : Nat} {p : Nat → α → Prop} (h : ∀ i, i < n → ∃ x, p i x) : ∃ l : List α, l.length = n ∧ ∀ i, i < n → p i (nth l i) := by
  induction n with
  | zero => exact ⟨[], rfl, fun i hi => absurd hi (by omega)⟩
  | succ n ih =>
    obtain ⟨l, hl, hp⟩ := ih fun i hi => h i (by omega)
    obtain ⟨x, hx⟩ := h n (by omega)
    refine ⟨l ++ [x], by simp [hl], fun i hi => ?_⟩
    by_cases hin : i < n
    · rw [nth_append_left (by omega)]; exact hp i hin
    · obtain rfl : i = n := by omega
      have := nth_append_right (l := l) (m := [x]) 0
      rw [Nat.add_zero, hl] at this
      rw [this]; exact hx
/-- Rows of s cells, element by element, are one row. -/
theorem sl_of {α : Type} [Inhabited α] {a : Addr} {n s : Nat} {g : α → List Value} {l : List α} (hl : n = l.length) (hg : ∀ x, (g x).length = s) (hs : 0 < s)
    (h : ∀ i, i < n → ∀ j (hj : j < s), w.cell? (a.add (i * s + j)) = some ((g (nth l i))[j]'(by rw [hg]; exact hj))) : Sl w 0 (some a) n (l.flatMap g) := by
  intro hn
  obtain ⟨b, off, spot⟩ := a
  have hspot : spot = none := by
    have h0 := h 0 hn 0 hs
    simpa [Addr.add] using World.cell?_spot h0
  subst hspot
  have h0 := h 0 hn 0 hs
  rw [add_plain] at h0
  refine ⟨b, off, rfl, Nat.zero_le _, World.block_lt_of_cell? _ _ h0, fun q hq => ?_⟩
  have hq2 : q < n * s := by rw [flat_length s g hg, ← hl] at hq; exact hq
  have hi : q / s < n := (Nat.div_lt_iff_lt_mul hs).2 hq2
  have hj : q % s < s := Nat.mod_lt _ hs
  have hd : q / s * s + q % s = q := by rw [Nat.mul_comm]; exact Nat.div_add_mod q s
  have h1 := h (q / s) hi (q % s) hj
  rw [add_plain, hd] at h1
  rw [h1]
  have h2 := flat_get s g hg l (q / s) (q % s) (by omega) hj (by rw [hd]; exact hq)
  simp only [hd] at h2
  rw [h2]
  simp only [nth_eq (show q / s < l.length by omega)]
/-- A field of one cell at its place. -/
def FieldAt (P : Program) (f : Field) (o : Nat) (d : TypeDesc) : Prop := f.offset = o ∧ P.underlying f.type = some d ∧ P.cellsOf f.type = 1
/-- e is a type of statements: of the program's or of the law's own. -/
def StTy (P : Program) (e : TypeId) : Prop := P.cellsOf e = 5 ∧ ∃ f0 f1 f2 f3 f4 : Field, P.underlying e = some (.struct #[f0, f1, f2, f3, f4]) ∧ FieldAt P f0 0 (.int .i64) ∧ FieldAt P f1 1 .string ∧ FieldAt P f2 2 (.int .i64) ∧ FieldAt P f3 3 .string ∧ FieldAt P f4 4 (.int .i64)
/-- t is a type of slices of statements. -/
def StsTy (P : Program) (t : TypeId) : Prop := ∃ e, P.underlying t = some (.slice e) ∧ StTy P e
def FiTy (P : Program) (e : TypeId) : Prop := P.cellsOf e = 6 ∧ ∃ (f0 f1 f2 f3 f4 f5 : Field) (u : TypeId), P.underlying e = some (.struct #[f0, f1, f2, f3, f4, f5]) ∧ FieldAt P f0 0 (.int .i64) ∧ FieldAt P f1 1 .string ∧ FieldAt P f2 2 .string ∧ FieldAt P f3 3 .bool ∧ FieldAt P f4 4 (.int .i64) ∧ FieldAt P f5 5 (.slice u) ∧ StsTy P f5.type
def FisTy (P : Program) (t : TypeId) : Prop := ∃ e, P.underlying t = some (.slice e) ∧ FiTy P e
theorem field_of {f : Field} {o : Nat} {d : TypeDesc} (h : FieldAt P f o d) {fuel : Nat} {cs : List Value} {xs : List (DataW H × List MemPlace)} {i : Nat} (hi : i < xs.length) (ho : o < cs.length)
    (hf : DataW.trod enc P w 0 (fun _ => true) held fuel f.type ((cs.drop f.offset).take (P.cellsOf f.type)) = xs[i]?) : DataW.trod enc P w 0 (fun _ => true) held fuel f.type [cs[o]] = some xs[i] := by
  obtain ⟨h1, _, h3⟩ := h
  rw [h1, h3, List.drop_eq_getElem_cons ho, List.getElem?_eq_getElem hi] at hf
  exact hf
theorem elem_st {e : TypeId} (he : StTy P e) {fuel : Nat} {cs : List Value} {y : DataW H × List MemPlace} (h : DataW.trod enc P w 0 (fun _ => true) held fuel e cs = some y) :
    ∃ s : St, cs = scells s ∧ s.mod.length ≤ maxLen ∧ s.name.length ≤ maxLen ∧ inI s.kind ∧ inI s.level ∧ inI s.val := by
  obtain ⟨hC, f0, f1, f2, f3, f4, hu, h0, h1, h2, h3, h4⟩ := he
  obtain ⟨xs, n, _, _, hlen, hxl, hf⟩ := DataW.trod_struct hu h
  rw [hC] at hlen
  have hx5 : xs.length = 5 := hxl
  match cs, hlen with
  | [c0, c1, c2, c3, c4], _ =>
    obtain ⟨k, e0, _, b0⟩ := DataW.trod_int h0.2.1 (field_of h0 (i := 0) (by omega) (by simp) (hf 0 f0 rfl))
    obtain ⟨m, e1, _, b1⟩ := DataW.trod_string h1.2.1 (field_of h1 (i := 1) (by omega) (by simp) (hf 1 f1 rfl))
    obtain ⟨lv, e2, _, b2⟩ := DataW.trod_int h2.2.1 (field_of h2 (i := 2) (by omega) (by simp) (hf 2 f2 rfl))
    obtain ⟨nm, e3, _, b3⟩ := DataW.trod_string h3.2.1 (field_of h3 (i := 3) (by omega) (by simp) (hf 3 f3 rfl))
    obtain ⟨v, e4, _, b4⟩ := DataW.trod_int h4.2.1 (field_of h4 (i := 4) (by omega) (by simp) (hf 4 f4 rfl))
    simp only [List.getElem_cons_zero, List.getElem_cons_succ, List.cons.injEq, and_true] at e0 e1 e2 e3 e4
    subst e0 e1 e2 e3 e4
    exact ⟨⟨k, m.data.toList, lv, nm.data.toList, v⟩, rfl, b1, b3, b0, b2, b4⟩
theorem open_stmts {t : TypeId} (ht : StsTy P t) {fuel : Nat} {cs : List Value} {y : DataW H × List MemPlace} (h : DataW.trod enc P w 0 (fun _ => true) held fuel t cs = some y) :
    ∃ a n c l, cs = [.slice a n c] ∧ n ≤ c ∧ StmtsR w a n l := by
  obtain ⟨e, hu, he⟩ := ht
  rcases open_slice hu h with ⟨rfl, _⟩ | ⟨a, len, cap, m, n, D, Pl, rfl, _, hl, hm, hmm, _, hi⟩
  · exact ⟨none, 0, 0, [], rfl, Nat.le_refl _, rfl, Nat.zero_le _, fun _ h => (by cases h), fun h => absurd h (by omega)⟩
  · simp only [if_true] at hmm
    obtain ⟨l, hll, hp⟩ := list_of (n := len) (p := fun i (s : St) => (∀ j (hj : j < 5), w.cell? (a.add (i * 5 + j)) = some ((scells s)[j]'hj)) ∧ s.mod.length ≤ maxLen ∧ s.name.length ≤ maxLen ∧ inI s.kind ∧ inI s.level ∧ inI s.val) (fun i hil => by
      obtain ⟨cs', hc, ht'⟩ := hi i (by omega)
      rw [he.1] at hc
      obtain ⟨s, rfl, hb⟩ := elem_st he ht'
      obtain ⟨_, hcl, hat⟩ := World.cells?_some hc
      refine ⟨s, fun j hj => ?_, hb⟩
      rw [← Go.Deep.add_add]
      have := hat j hj
      rw [this]
      exact List.getElem?_eq_getElem _)
    refine ⟨some a, len, cap, l, rfl, hl, hll.symm, by omega, fun s hs => ?_, sl_of hll.symm (s := 5) (fun _ => rfl) (by omega) (fun i hil j hj => (hp i hil).1 j hj)⟩
    obtain ⟨k, hk, rfl⟩ := List.getElem_of_mem hs
    have := (hp k (by omega)).2
    rwa [nth_eq hk] at this
theorem elem_fi {e : TypeId} (he : FiTy P e) {fuel : Nat} {cs : List Value} {y : DataW H × List MemPlace} (h : DataW.trod enc P w 0 (fun _ => true) held fuel e cs = some y) :
    ∃ x : Fi × Value, cs = fcells x ∧ (x.1.pkg.length ≤ maxLen ∧ x.1.name.length ≤ maxLen ∧ inI x.1.root ∧ inI x.1.stamp) ∧ ∃ ba bn bc, x.2 = .slice ba bn bc ∧ bn ≤ bc ∧ StmtsR w ba bn x.1.body := by
  obtain ⟨hC, f0, f1, f2, f3, f4, f5, u, hu, h0, h1, h2, h3, h4, h5, hb⟩ := he
  obtain ⟨xs, n, _, _, hlen, hxl, hf⟩ := DataW.trod_struct hu h
  rw [hC] at hlen
  have hx6 : xs.length = 6 := hxl
  match cs, hlen with
  | [c0, c1, c2, c3, c4, c5], _ =>
    obtain ⟨r, e0, _, b0⟩ := DataW.trod_int h0.2.1 (field_of h0 (i := 0) (by omega) (by simp) (hf 0 f0 rfl))
    obtain ⟨pk, e1, _, b1⟩ := DataW.trod_string h1.2.1 (field_of h1 (i := 1) (by omega) (by simp) (hf 1 f1 rfl))
    obtain ⟨nm, e2, _, b2⟩ := DataW.trod_string h2.2.1 (field_of h2 (i := 2) (by omega) (by simp) (hf 2 f2 rfl))
    obtain ⟨it, e3, _⟩ := DataW.trod_bool h3.2.1 (field_of h3 (i := 3) (by omega) (by simp) (hf 3 f3 rfl))
    obtain ⟨st, e4, _, b4⟩ := DataW.trod_int h4.2.1 (field_of h4 (i := 4) (by omega) (by simp) (hf 4 f4 rfl))
    obtain ⟨ba, bn, bc, l, e5, hbc, hS⟩ := open_stmts hb (field_of h5 (i := 5) (by omega) (by simp) (hf 5 f5 rfl))
    simp only [List.getElem_cons_zero, List.getElem_cons_succ, List.cons.injEq, and_true] at e0 e1 e2 e3 e4 e5
    subst e0 e1 e2 e3 e4 e5
    exact ⟨(⟨r, pk.data.toList, nm.data.toList, it, st, l⟩, .slice ba bn bc), rfl, ⟨b1, b2, b0, b4⟩, ba, bn, bc, rfl, hbc, hS⟩
theorem open_files {t : TypeId} (ht : FisTy P t) {fuel : Nat} {cs : List Value} {y : DataW H × List MemPlace} (h : DataW.trod enc P w 0 (fun _ => true) held fuel t cs = some y) :
    ∃ a n c l, cs = [.slice a n c] ∧ n ≤ c ∧ FilesR w a n l := by
  obtain ⟨e, hu, he⟩ := ht
  rcases open_slice hu h with ⟨rfl, _⟩ | ⟨a, len, cap, m, n, D, Pl, rfl, _, hl, hm, hmm, _, hi⟩
  · exact ⟨none, 0, 0, [], rfl, Nat.le_refl _, [], rfl, rfl, Nat.zero_le _, fun _ h => (by cases h), fun h => absurd h (by omega), fun _ h => (by cases h)⟩
  · simp only [if_true] at hmm
    obtain ⟨l, hll, hp⟩ := list_of (n := len) (p := fun i (x : Fi × Value) => (∀ j (hj : j < 6), w.cell? (a.add (i * 6 + j)) = some ((fcells x)[j]'hj)) ∧ (x.1.pkg.length ≤ maxLen ∧ x.1.name.length ≤ maxLen ∧ inI x.1.root ∧ inI x.1.stamp) ∧ ∃ ba bn bc, x.2 = .slice ba bn bc ∧ bn ≤ bc ∧ StmtsR w ba bn x.1.body) (fun i hil => by
      obtain ⟨cs', hc, ht'⟩ := hi i (by omega)
      rw [he.1] at hc
      obtain ⟨x, rfl, hb⟩ := elem_fi he ht'
      obtain ⟨_, hcl, hat⟩ := World.cells?_some hc
      refine ⟨x, fun j hj => ?_, hb⟩
      rw [← Go.Deep.add_add]
      have := hat j hj
      rw [this]
      exact List.getElem?_eq_getElem _)
    refine ⟨some a, len, cap, l.map (·.1), rfl, hl, l, rfl, by rw [List.length_map]; exact hll.symm, by omega, fun f hf => ?_, sl_of hll.symm (s := 6) (fun _ => rfl) (by omega) (fun i hil j hj => (hp i hil).1 j hj), fun x hx => ?_⟩
    · obtain ⟨x, hx, rfl⟩ := List.mem_map.1 hf
      obtain ⟨k, hk, rfl⟩ := List.getElem_of_mem hx
      have := (hp k (by omega)).2.1
      rwa [nth_eq hk] at this
    · obtain ⟨k, hk, rfl⟩ := List.getElem_of_mem hx
      have := (hp k (by omega)).2.2
      rwa [nth_eq hk] at this
/-- t is a type of trees: a struct of one field. -/
def TrTy (P : Program) (t : TypeId) : Prop := P.cellsOf t = 1 ∧ ∃ (f : Field) (u : TypeId), P.underlying t = some (.struct #[f]) ∧ FieldAt P f 0 (.slice u) ∧ FisTy P f.type
theorem open_tree {t : TypeId} (ht : TrTy P t) {fuel : Nat} {cs : List Value} {y : DataW H × List MemPlace} (h : DataW.trod enc P w 0 (fun _ => true) held fuel t cs = some y) :
    ∃ a n c l, cs = [.slice a n c] ∧ n ≤ c ∧ FilesR w a n l := by
  obtain ⟨hC, f, u, hu, h0, hf⟩ := ht
  obtain ⟨xs, n, _, _, hlen, hxl, hx⟩ := DataW.trod_struct hu h
  rw [hC] at hlen
  have hx1 : xs.length = 1 := hxl
  match cs, hlen with
  | [c0], _ => exact open_files hf (field_of h0 (i := 0) (by omega) (by simp) (hx 0 f rfl))
/-- A tree as an argument. -/
theorem arg_tree {t : TypeId} (ht : TrTy P t) {r : Reach} {b0 : Nat} {v : Value} {d : DataW H} {p : List MemPlace} (hv : Value.okWide P w r b0 t v) (h : DataW.Trod enc P w 0 (fun _ => true) held t v d p) :
    ∃ a n c l, v = .agg #[.slice a n c] ∧ n ≤ c ∧ FilesR w a n l := by
  have ht' := ht
  obtain ⟨hC, f, u, hu, _, _⟩ := ht'
  obtain ⟨cs, rfl, _⟩ := okWide_struct hu hv
  obtain ⟨fuel, hf⟩ := h
  obtain ⟨a, n, c, l, e, hnc, hR⟩ := open_tree ht hf
  refine ⟨a, n, c, l, ?_, hnc, hR⟩
  have e : cs.toList = [.slice a n c] := e
  rw [show cs = #[.slice a n c] from Array.toList_inj.1 (by simpa using e)]
/-- A slice of statements as an argument. -/
theorem arg_stmts {t : TypeId} (ht : StsTy P t) {r : Reach} {b0 : Nat} {v : Value} {d : DataW H} {p : List MemPlace} (hv : Value.okWide P w r b0 t v) (h : DataW.Trod enc P w 0 (fun _ => true) held t v d p) :
    ∃ a n c l, v = .slice a n c ∧ n ≤ c ∧ StmtsR w a n l := by
  have ht' := ht
  obtain ⟨e, hu, _⟩ := ht'
  obtain ⟨a0, len, cap, rfl⟩ := okWide_slice hu hv
  obtain ⟨fuel, hf⟩ := h
  obtain ⟨a, n, c, l, e, hnc, hR⟩ := open_stmts ht hf
  simp [Value.cells] at e
  obtain ⟨rfl, rfl, rfl⟩ := e
  exact ⟨_, _, _, l, rfl, hnc, hR⟩
end

end Go.Proofs.YtjlooplpjliaiaaDoor
