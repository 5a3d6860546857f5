/- Several texts in one: Clone, Held, Delete, Remove. No condition but lengths. -/
import Derived.Test.YtlpbgingggnjpaaGreatDoorIb
import Derived.Test.YtlpbgingggnjpaaGreatDoorIa
import Derived.Deep.AppendLies
import Derived.Deep.RegionLaw
import Derived.Lib.SliceRun
import Derived.IntWalk
namespace Go.Proofs.YtlpbgingggnjpaaGreatDoor
open Go.RowKit

theorem run_append_none_c {P : Program} {w : World} (base : Nat) (t ty e : TypeId) (i : TypeInfo) (size : Nat) (ht : P.underlying t = some (.slice e)) (hi : P.info? e = some i)
    (v : Value) (n c : Nat) (xs : List Value) (hown : w.ownsRow base e size v n xs) :
    (Builtin.append_ #[t, t] ty #[v, .slice none 0 c]).run P w = .ok v w := by
  rcases hown.2 with ⟨rfl, rfl⟩ | ⟨g, cap, cur, rfl, _, _, hnc, _⟩
  · simp [Builtin.append_, run_underlying ht, sizeOf, typeInfo, hi, Builtin.lenOf, Builtin.firstCells]
  · simp [Builtin.append_, run_underlying ht, sizeOf, typeInfo, hi, Builtin.lenOf, Builtin.firstCells, hnc, storeCells]
theorem wpList_append_none_c {P : Program} {w : World} {ops : Array Oper} {rest : List Oper} {o : Oper} {a : Act} {Q : Exit → Act → World → Prop} (hgd : o.guard = none) (s x : Operand) (t : TypeId)
    (ho : o.op = .call { callee := .builtin .append, args := #[s, x], argTypes := #[t, t] })
    (base : Nat) (e : TypeId) (i : TypeInfo) (size : Nat) (ht : P.underlying t = some (.slice e)) (hi : P.info? e = some i)
    (v : Value) (n c : Nat) (xs : List Value) (hs : a.eval s = v) (hown : w.ownsRow base e size v n xs) (hx : a.eval x = .slice none 0 c)
    (h : wpList P ops Q rest (a.put o.dst v) w) : wpList P ops Q (o :: rest) a w := by
  refine wpList_plain hgd fun K hK => ?_
  have hrun := run_append_none_c (P := P) (w := w) base t o.type e i size ht hi v n c xs hown
  unfold Oper.wp
  simp [execOp, ho, resolve, invoke, builtin, hs, hx, hrun, Result.andThen]
  exact hK _ _ h
/-- append of a whole slice, wherever it lies. -/
theorem wpList_append_sl {P : Program} {ops : Array Oper} {rest : List Oper} {o : Oper} {a : Act} {Q : Exit → Act → World → Prop} {t e size bytes : Nat} (hT : AppT P t e size bytes) (hgd : o.guard = none) (s x : Operand)
    (ho : o.op = .call { callee := .builtin .append, args := #[s, x], argTypes := #[t, t] }) {w : World} {B B' : Nat} {v : Value} {n : Nat} {xs : List Value}
    (hown : w.ownsRow B e size v n xs) (hs : a.eval s = v) {sa : Option Addr} {m c : Nat} {news : List Value} (hx : a.eval x = .slice sa m c) (hsl : Sl w B' sa m news) (hl : news.length = m * size) (h1 : ∀ u ∈ news, u.oneCell' = true)
    (hb : (n + m) * bytes ≤ 140737488355328) (hn : n + m ≤ maxLen) (hBw : B ≤ w.heap.size)
    (h : ∀ a' c' w', w'.ownsRow B e size (.slice a' (n + m) c') (n + m) (xs ++ news) → w.grownBy w' v.ownBlock → wpList P ops Q rest (a.put o.dst (.slice a' (n + m) c')) w') :
    wpList P ops Q (o :: rest) a w := by
  obtain ⟨i, z, hi, hz, hsize, hby, hzs⟩ := hT.hi
  cases sa with
  | none =>
    have hm : m = 0 := by
      rcases Nat.eq_zero_or_pos m with h0 | h0
      · exact h0
      · obtain ⟨b, off, ha, _⟩ := hsl h0; cases ha
    subst hm
    have hnil : news = [] := by rw [Nat.zero_mul] at hl; exact List.length_eq_zero_iff.1 hl
    subst hnil
    obtain ⟨a', c', rfl⟩ := own_slice hown
    exact wpList_append_none_c hgd s x t ho B e i size hT.ht hi _ n c xs hs hown hx (h a' c' w (by simpa using hown) (World.grownBy.refl _ _))
  | some ad =>
    refine wpList_append_own _ hgd s x t ho B e i z size bytes hT.ht hi hz hsize hby hzs hT.hsz v n xs hs hown ad m c news hx hl (fun j u hu => ?_) h1 hn hb hBw ?_
    · have hj : j < news.length := (List.getElem?_eq_some_iff.1 hu).1
      have hm : 0 < m := by
        rcases Nat.eq_zero_or_pos m with h0 | h0
        · subst h0; omega
        · exact h0
      obtain ⟨b, off, ha, _, hb, hc⟩ := hsl hm
      injection ha with ha
      subst ha
      have hadd : (⟨b, off, none⟩ : Addr).add j = ⟨b, off + j, none⟩ := by unfold Addr.add; split <;> simp_all
      rw [hadd, hc j hj, ← hu, List.getElem?_eq_getElem hj]
    · intro v' w' hown' hgr _
      obtain ⟨a', c', rfl⟩ := own_slice hown'
      exact h a' c' w' hown' hgr
theorem X.of_lit {w w1 : World} {o : Obj} (hg : (w.alloc o).grownBy w1 (some w.heap.size)) : X w w1 :=
  X.of_below ((X.below ((X.refl w).alloc o)).grown hg (by simp) (fun k hk => by injection hk with hk; omega))
theorem X.of_litR {w w1 : World} {o : Obj} {row : Option Nat} (hg : (w.alloc o).grownBy w1 row) (hr : row = some w.heap.size) : X w w1 := by
  subst hr; exact X.of_lit hg
theorem bx2_of {w W : World} {c1 c2 : Array Value} {t1 t2 : TypeId} (h : X ((w.alloc (.cells c1 t1)).alloc (.cells c2 t2)) W) : Bx W w.heap.size c1 ∧ Bx W (w.heap.size + 1) c2 ∧ X w W := by
  obtain ⟨h1, h2, h3⟩ := bx2 (W := (w.alloc (.cells c1 t1)).alloc (.cells c2 t2)) rfl
  exact ⟨h1.x h, h2.x h, h3.trans h⟩
theorem scells_one (l : List St) : ∀ u ∈ l.flatMap scells, u.oneCell' = true := by
  intro u hu
  obtain ⟨s, _, hs⟩ := List.mem_flatMap.1 hu
  simp only [scells, List.mem_cons, List.not_mem_nil, or_false] at hs
  rcases hs with rfl | rfl | rfl | rfl | rfl <;> rfl
theorem scells_len (l : List St) : (l.flatMap scells).length = l.length * 5 := flat_length 5 scells (fun _ => rfl) l
theorem stmt_T' : AppT Tryz.prog 58 81 5 56 := AppT.of (z := .agg #[.int .i64 0, .string ⟨#[]⟩, .int .i64 0, .string ⟨#[]⟩, .int .i64 0]) (by kernel_rfl) (by kernel_rfl) rfl (by omega)

theorem file_S2 : StrT Tryz.prog 60 6 := ⟨⟨_, Tryz.underlying60⟩, by kernel_rfl⟩
theorem at_x2' {w w' : World} {b : Nat} {o : Obj} (h : w.heap[b]? = some o) (hx : X w w') : w'.heap[b]? = some o := (hx.below.block b (Array.getElem?_eq_some_iff.1 h).1).trans h
theorem file_T' : AppT Tryz.prog 23 60 6 80 := AppT.of (z := .agg #[.int .i64 0, .string ⟨#[]⟩, .string ⟨#[]⟩, .bool false, .int .i64 0, .slice none 0 0]) (by kernel_rfl) (by kernel_rfl) rfl (by omega)
end Go.Proofs.YtlpbgingggnjpaaGreatDoor

namespace Go.Proofs.YtlpbgingggnjpaaGreatDoor
open Go.RowKit

theorem stsM_at {w : World} {B n k j : Nat} {a : Option Addr} (h : Sl w B a n ((stsM k n).flatMap scells)) (hj : j < n) :
    ∃ b off, a = some ⟨b, off, none⟩ ∧ b < w.heap.size ∧ w.cell? ⟨b, off + j * 5, none⟩ = some (.int .i64 ((k + 5 * j : Nat) : Int)) ∧ w.cell? ⟨b, off + j * 5 + 1, none⟩ = some (.string ⟨(mtxt (k + 5 * j + 1)).toArray⟩) ∧
      w.cell? ⟨b, off + j * 5 + 2, none⟩ = some (.int .i64 ((k + 5 * j + 2 : Nat) : Int)) ∧ w.cell? ⟨b, off + j * 5 + 3, none⟩ = some (.string ⟨(mtxt (k + 5 * j + 3)).toArray⟩) ∧ w.cell? ⟨b, off + j * 5 + 4, none⟩ = some (.int .i64 ((k + 5 * j + 4 : Nat) : Int)) := by
  obtain ⟨b, off, ha, _, hb, hc⟩ := h.elem (s := 5) (fun _ => rfl) stsM_len.symm hj
  rw [stsM_nth hj] at hc
  exact ⟨b, off, ha, hb, hc 0 (by omega), hc 1 (by omega), hc 2 (by omega), hc 3 (by omega), hc 4 (by omega)⟩

theorem marks_at {w : World} {B n c k j : Nat} {a : Option Addr} {l : List Fi} (h : FilesO w B a n c (marksF k l)) (hj : j < n) :
    ∃ b off ba bc, a = some ⟨b, off, none⟩ ∧ b < w.heap.size ∧ Sl w B ba (nth l j).body.length ((stsM (k + wtF (l.take j) + 5) (nth l j).body.length).flatMap scells) ∧
      w.cell? ⟨b, off + j * 6, none⟩ = some (.int .i64 ((k + wtF (l.take j) : Nat) : Int)) ∧ w.cell? ⟨b, off + j * 6 + 1, none⟩ = some (.string ⟨(mtxt (k + wtF (l.take j) + 1)).toArray⟩) ∧ w.cell? ⟨b, off + j * 6 + 2, none⟩ = some (.string ⟨(mtxt (k + wtF (l.take j) + 2)).toArray⟩) ∧
      w.cell? ⟨b, off + j * 6 + 3, none⟩ = some (.bool (decide ((k + wtF (l.take j) + 3) % 3 = 0))) ∧ w.cell? ⟨b, off + j * 6 + 4, none⟩ = some (.int .i64 ((k + wtF (l.take j) + 4 : Nat) : Int)) ∧ w.cell? ⟨b, off + j * 6 + 5, none⟩ = some (.slice ba (nth l j).body.length bc) := by
  obtain ⟨vs, e, h1, h2, _, h3⟩ := h
  have hvl : vs.length = n := by rw [h1, e, List.length_map]
  have hll : n = l.length := by rw [h1, marksF_len]
  obtain ⟨b, off, ha, _, hb, hc⟩ := (Sl.of_own h2).elem (s := 6) (fun _ => rfl) hvl.symm hj
  obtain ⟨ba, bc, e2, ho⟩ := h3 _ (nth_mem (l := vs) (k := j) (by omega))
  have hf : (nth vs j).1 = fiM (k + wtF (l.take j)) (nth l j) := by rw [← nth_map_fst (by omega), ← e, marksF_nth l k j (by omega)]
  have hbl : (nth vs j).1.body.length = (nth l j).body.length := by rw [hf]; exact stsM_len
  rw [hbl] at e2 ho
  have hbo : (nth vs j).1.body = stsM (k + wtF (l.take j) + 5) (nth l j).body.length := by rw [hf]; rfl
  rw [hbo] at ho
  have c0 := hc 0 (by omega)
  have c1 := hc 1 (by omega)
  have c2 := hc 2 (by omega)
  have c3 := hc 3 (by omega)
  have c4 := hc 4 (by omega)
  have c5 := hc 5 (by omega)
  simp only [fcells, hf, fiM, e2, List.getElem_cons_zero, List.getElem_cons_succ] at c0 c1 c2 c3 c4 c5
  exact ⟨b, off, ba, bc, ha, hb, Sl.of_own ho, c0, c1, c2, c3, c4, c5⟩


end Go.Proofs.YtlpbgingggnjpaaGreatDoor

namespace Go.Proofs.YtlpbgingggnjpaaGreatDoor
open Go.RowKit

/-- Cells written one behind the other. -/
def setL : List Value → Nat → List Value → List Value
  | xs, _, [] => xs
  | xs, o, v :: r => setL (xs.set o v) (o + 1) r
theorem own_setCells {B e size n c g : Nat} : ∀ (vs : List Value) (o : Nat) (w : World) (xs : List Value), w.ownsRow B e size (.slice (some ⟨g, 0, none⟩) n c) n xs → (w.setCells g o vs).ownsRow B e size (.slice (some ⟨g, 0, none⟩) n c) n (setL xs o vs)
  | [], _, _, _, h => h
  | v :: r, o, w, xs, h => by
    rw [World.setCells, setL]
    exact own_setCells r (o + 1) _ _ (own_set h v)
theorem grown_setCells {g : Nat} {w0 : World} : ∀ (vs : List Value) (o : Nat) (w : World), w0.grownBy w (some g) → w0.grownBy (w.setCells g o vs) (some g)
  | [], _, _, h => h
  | v :: r, o, w, h => by
    rw [World.setCells]
    exact grown_setCells r (o + 1) _ (grown_next h o v)
theorem setL_mid : ∀ (vs A M R : List Value), M.length = vs.length → setL (A ++ (M ++ R)) A.length vs = A ++ (vs ++ R)
  | [], A, M, R, h => by
    have : M = [] := List.length_eq_zero_iff.1 h
    subst this; rfl
  | v :: vs, A, m :: M, R, h => by
    rw [setL]
    have h0 := set_off (A := A) (Z := (m :: M) ++ R) 0 v
    rw [Nat.add_zero] at h0
    rw [h0]
    have h1 := setL_mid vs (A ++ [v]) M R (by simpa using h)
    simp only [List.length_append, List.length_singleton, List.append_assoc, List.singleton_append] at h1
    simpa using h1
theorem setL_take : ∀ (vs : List Value) (o : Nat) (xs : List Value), (setL xs o vs).take o = xs.take o
  | [], _, _ => rfl
  | v :: r, o, xs => by
    rw [setL]
    have h := setL_take r (o + 1) (xs.set o v)
    have h2 := congrArg (List.take o) h
    rw [List.take_take, List.take_take, Nat.min_eq_left (by omega)] at h2
    rw [h2, List.take_set_of_le (by omega)]
theorem own_short {w : World} {B e size n c g m : Nat} {xs : List Value} (h : w.ownsRow B e size (.slice (some ⟨g, 0, none⟩) n c) n xs) (hm : m ≤ n) : w.ownsRow B e size (.slice (some ⟨g, 0, none⟩) m c) m (xs.take (m * size)) := by
  have hms : m * size ≤ n * size := Nat.mul_le_mul_right size hm
  obtain ⟨hl, h1 | ⟨g', cap, cur, hv, hB, hg, hn, hcap, hsz, hx⟩⟩ := h
  · injection h1.1 with h1; cases h1
  · injection hv with h1 _ h2
    injection h1 with h1
    injection h1 with h1
    subst h1 h2
    refine ⟨by rw [List.length_take, hl]; exact Nat.min_eq_left hms, .inr ⟨g, c, cur, rfl, hB, hg, Nat.le_trans hm hn, hcap, hsz, ?_⟩⟩
    rw [← hx, List.take_take, Nat.min_eq_left hms]
/-- A row without its element i, when the ones behind have been moved. -/
theorem moved {xs : List Value} {n i s : Nat} (hl : xs.length = n * s) (hi : i < n) : (setL xs (i * s) (xs.drop ((i + 1) * s))).take ((n - 1) * s) = xs.take (i * s) ++ xs.drop ((i + 1) * s) := by
  obtain ⟨m, rfl⟩ : ∃ m, n = i + 1 + m := ⟨n - (i + 1), by omega⟩
  have hA : (xs.take (i * s)).length = i * s := by rw [List.length_take, hl]; exact Nat.min_eq_left (Nat.mul_le_mul_right s (by omega))
  have hN : (xs.drop ((i + 1) * s)).length = m * s := by rw [List.length_drop, hl, Nat.add_mul (i + 1) m s]; omega
  have hD : (xs.drop (i * s)).length = s + m * s := by rw [List.length_drop, hl, Nat.add_mul (i + 1) m s, Nat.add_mul i 1 s]; omega
  have e : xs = xs.take (i * s) ++ ((xs.drop (i * s)).take (m * s) ++ (xs.drop (i * s)).drop (m * s)) := by rw [List.take_append_drop, List.take_append_drop]
  have h := setL_mid (xs.drop ((i + 1) * s)) (xs.take (i * s)) ((xs.drop (i * s)).take (m * s)) ((xs.drop (i * s)).drop (m * s)) (by rw [List.length_take, hD, hN]; omega)
  rw [← e, hA] at h
  rw [h, ← List.append_assoc]
  have hL : (xs.take (i * s) ++ xs.drop ((i + 1) * s)).length = (i + 1 + m - 1) * s := by
    rw [List.length_append, hA, hN, ← Nat.add_mul]
    congr 1
    omega
  rw [← hL, List.take_left]
theorem run_clear_one {P : Program} (w : World) (t e ty : TypeId) (z : Value) (ht : P.underlying t = some (.slice e)) (hv : ∀ w, (zeroValue e).run P w = .ok z w) (h1 : ∀ v ∈ z.cells.toList, v.oneCell' = true) (b o c : Nat)
    (hc : ∀ j, j < z.cells.toList.length → (w.cell? ⟨b, o + j, none⟩).isSome = true) (hf : ∀ j, j < z.cells.toList.length → w.frozen? ⟨b, o + j, none⟩ = false) :
    (Builtin.clear_ #[t] ty #[.slice (some ⟨b, o, none⟩) 1 c]).run P w = .ok (.tuple #[]) (w.setCells b o z.cells.toList) := by
  have hzc : (Builtin.zeroCells z.cells 1).toList = z.cells.toList := by
    apply List.ext_getElem
    · simp [Builtin.zeroCells]
    · intro i h1 h2
      have h3 : i < z.cells.size := by simpa using h2
      simp [Builtin.zeroCells, Nat.mod_eq_of_lt h3, getElem!_pos, h3]
  have hst := run_storeCells_cells (P := P) b o z.cells.toList 0 w (by simpa using hc) (by simpa using hf) h1
  simp only [Nat.add_zero] at hst
  simp [Builtin.clear_, run_underlying ht, hv, hzc, hst]

theorem zero_file (w : World) : (zeroValue 60).run Tryz.prog w = .ok (.agg #[.int .i64 0, .string ⟨#[]⟩, .string ⟨#[]⟩, .bool false, .int .i64 0, .slice none 0 0]) w := by kernel_rfl
def zcells : List Value := [.int .i64 0, .string ⟨#[]⟩, .string ⟨#[]⟩, .bool false, .int .i64 0, .slice none 0 0]
theorem row_one {n c g : Nat} {w : World} {B : Nat} {xs : List Value} (h : w.ownsRow B 60 6 (.slice (some ⟨g, 0, none⟩) n c) n xs) {j : Nat} (hj : j < n * 6) : (w.cell? ⟨g, j, none⟩).isSome = true ∧ w.frozen? ⟨g, j, none⟩ = false := by
  obtain ⟨u, hu⟩ := own_here h hj
  exact ⟨by rw [hu]; rfl, h.frozenAt j⟩
end Go.Proofs.YtlpbgingggnjpaaGreatDoor

namespace Go.Proofs.YtlpbgingggnjpaaGreatDoor
open Go.RowKit

def remB (l : List Fi) (i : Int) : Bool := treeB l && rangeB i 0 ((l.length : Int) - 1)
def remL (l : List Fi) (i : Int) : List Fi := if remB l i then l.eraseIdx i.toNat else []
theorem fcells_one {vs : List (Fi × Value)} (h : ∀ x ∈ vs, x.2.oneCell' = true) : ∀ u ∈ vs.flatMap fcells, u.oneCell' = true := by
  intro u hu
  obtain ⟨x, hx, hs⟩ := List.mem_flatMap.1 hu
  simp only [fcells, List.mem_cons, List.not_mem_nil, or_false] at hs
  rcases hs with rfl | rfl | rfl | rfl | rfl | rfl <;> first | rfl | exact h x hx
theorem erase_cells (vs : List (Fi × Value)) (i : Nat) : (vs.flatMap fcells).take (i * 6) ++ (vs.flatMap fcells).drop ((i + 1) * 6) = (vs.eraseIdx i).flatMap fcells := by
  have ht : ∀ (us : List (Fi × Value)) (k : Nat), (us.flatMap fcells).take (k * 6) = (us.take k).flatMap fcells := by
    intro us
    induction us with
    | nil => intro k; simp
    | cons u us ih =>
      intro k
      cases k with
      | zero => simp
      | succ k =>
        rw [List.flatMap_cons, List.take_succ_cons, List.flatMap_cons, Nat.succ_mul, ← ih k, List.take_append, fcells6, List.take_of_length_le (by rw [fcells6]; omega)]
        congr 2
  have hd : ∀ (us : List (Fi × Value)) (k : Nat), (us.flatMap fcells).drop (k * 6) = (us.drop k).flatMap fcells := by
    intro us
    induction us with
    | nil => intro k; simp
    | cons u us ih =>
      intro k
      cases k with
      | zero => simp
      | succ k =>
        rw [List.flatMap_cons, List.drop_succ_cons, Nat.succ_mul, ← ih k, List.drop_append, fcells6, List.drop_eq_nil_of_le (by rw [fcells6]; omega), List.nil_append]
        congr 1
  rw [ht, hd, ← List.flatMap_append, List.eraseIdx_eq_take_drop_succ]
theorem FilesO.nil (w : World) (B : Nat) : FilesO w B none 0 0 [] := ⟨[], rfl, rfl, ⟨rfl, .inl ⟨rfl, rfl⟩⟩, List.Pairwise.nil, fun _ h => by cases h⟩
/-- Bodies of files of the call's own. -/
def BodsO (w : World) (B : Nat) (vs : List (Fi × Value)) : Prop := ∀ x ∈ vs, ∃ ba bc, x.2 = .slice ba x.1.body.length bc ∧ w.ownsRow B 81 5 (.slice ba x.1.body.length bc) x.1.body.length (x.1.body.flatMap scells)
theorem BodsO.one {w : World} {B : Nat} {vs : List (Fi × Value)} (h : BodsO w B vs) : ∀ x ∈ vs, x.2.oneCell' = true := fun x hx => by
  obtain ⟨ba, bc, e, _⟩ := h x hx
  rw [e]; rfl
theorem BodsO.grown {w w' : World} {B g : Nat} {vs : List (Fi × Value)} {cs : Array Value} (h : BodsO w B vs) (hg : w.grownBy w' (some g)) (hb : w.heap[g]? = some (.cells cs 60 (0, 0))) : BodsO w' B vs := fun x hx =>
  BodyO.grown (h x hx) hg hb
theorem BodsO.fr {w w' : World} {B : Nat} {vs : List (Fi × Value)} (h : BodsO w B vs) (hx : Fr B w w') : BodsO w' B vs := fun x hm => let ⟨ba, bc, e, ho⟩ := h x hm; ⟨ba, bc, e, own_fr ho hx⟩
theorem BodsO.erase {w : World} {B : Nat} {vs : List (Fi × Value)} (h : BodsO w B vs) (i : Nat) : BodsO w B (vs.eraseIdx i) := fun x hx => h x (List.mem_of_mem_eraseIdx hx)
theorem map_erase (vs : List (Fi × Value)) (i : Nat) : (vs.eraseIdx i).map (·.1) = (vs.map (·.1)).eraseIdx i := by
  rw [List.eraseIdx_eq_take_drop_succ, List.eraseIdx_eq_take_drop_succ, List.map_append, List.map_take, List.map_drop]

end Go.Proofs.YtlpbgingggnjpaaGreatDoor
