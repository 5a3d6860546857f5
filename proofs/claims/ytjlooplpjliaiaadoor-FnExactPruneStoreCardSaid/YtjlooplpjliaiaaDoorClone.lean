/- append of a whole slice onto one of the call's own; copies of bodies and of files. No condition but lengths. -/
import Derived.Test.YtjlooplpjliaiaaDoorTree
import Derived.Test.YtjlooplpjliaiaaDoorRw
import Derived.Test.YtjlooplpjliaiaaDoorToT
import Derived.Deep.AppendLies
import Derived.Deep.RegionLaw
namespace Go.Proofs.YtjlooplpjliaiaaDoor
open Go.RowKit

theorem run_append_none_c {P : Program} {w : World} (base : Nat) (t ty e : TypeId) (i : TypeInfo) (size : Nat) (ht : P.underlying t = some (.slice e)) (hi : P.info? e = some i)
    (v : Value) (n c : Nat) (xs : List Value) (hown : w.ownsRow base e size v n xs) :
    (Builtin.append_ #[t, t] ty #[v, .slice none 0 c]).run P w = .ok v w := by
  rcases hown.2 with ⟨rfl, rfl⟩ | ⟨g, cap, cur, rfl, _, _, hnc, _⟩
  · simp [Builtin.append_, run_underlying ht, sizeOf, typeInfo, hi, Builtin.lenOf, Builtin.firstCells]
  · simp [Builtin.append_, run_underlying ht, sizeOf, typeInfo, hi, Builtin.lenOf, Builtin.firstCells, hnc, storeCells]
theorem wpList_append_none_c {P : Program} {w : World} {ops : Array Oper} {rest : List Oper} {o : Oper} {a : Act} {Q : Exit → Act → World → Prop} (hgd : o.guard = none) (s x : Operand) (t : TypeId)
    (ho : o.op = .call { callee := .builtin .append, args := #[s, x], argTypes := #[t, t] })
    (base : Nat) (e : TypeId) (i : TypeInfo) (size : Nat) (ht : P.underlying t = some (.slice e)) (hi : P.info? e = some i)
    (v : Value) (n c : Nat) (xs : List Value) (hs : a.eval s = v) (hown : w.ownsRow base e size v n xs) (hx : a.eval x = .slice none 0 c)
    (h : wpList P ops Q rest (a.put o.dst v) w) : wpList P ops Q (o :: rest) a w := by
  refine wpList_plain hgd fun K hK => ?_
  have hrun := run_append_none_c (P := P) (w := w) base t o.type e i size ht hi v n c xs hown
  unfold Oper.wp
  simp [execOp, ho, resolve, invoke, builtin, hs, hx, hrun, Result.andThen]
  exact hK _ _ h
/-- append of a whole slice, wherever it lies. -/
theorem wpList_append_sl {P : Program} {ops : Array Oper} {rest : List Oper} {o : Oper} {a : Act} {Q : Exit → Act → World → Prop} {t e size bytes : Nat} (hT : AppT P t e size bytes) (hgd : o.guard = none) (s x : Operand)
    (ho : o.op = .call { callee := .builtin .append, args := #[s, x], argTypes := #[t, t] }) {w : World} {B B' : Nat} {v : Value} {n : Nat} {xs : List Value}
    (hown : w.ownsRow B e size v n xs) (hs : a.eval s = v) {sa : Option Addr} {m c : Nat} {news : List Value} (hx : a.eval x = .slice sa m c) (hsl : Sl w B' sa m news) (hl : news.length = m * size) (h1 : ∀ u ∈ news, u.oneCell' = true)
    (hb : (n + m) * bytes ≤ 140737488355328) (hn : n + m ≤ maxLen) (hBw : B ≤ w.heap.size)
    (h : ∀ a' c' w', w'.ownsRow B e size (.slice a' (n + m) c') (n + m) (xs ++ news) → w.grownBy w' v.ownBlock → wpList P ops Q rest (a.put o.dst (.slice a' (n + m) c')) w') :
    wpList P ops Q (o :: rest) a w := by
  obtain ⟨i, z, hi, hz, hsize, hby, hzs⟩ := hT.hi
  cases sa with
  | none =>
    have hm : m = 0 := by
      rcases Nat.eq_zero_or_pos m with h0 | h0
      · exact h0
      · obtain ⟨b, off, ha, _⟩ := hsl h0; cases ha
    subst hm
    have hnil : news = [] := by rw [Nat.zero_mul] at hl; exact List.length_eq_zero_iff.1 hl
    subst hnil
    obtain ⟨a', c', rfl⟩ := own_slice hown
    exact wpList_append_none_c hgd s x t ho B e i size hT.ht hi _ n c xs hs hown hx (h a' c' w (by simpa using hown) (World.grownBy.refl _ _))
  | some ad =>
    refine wpList_append_own _ hgd s x t ho B e i z size bytes hT.ht hi hz hsize hby hzs hT.hsz v n xs hs hown ad m c news hx hl (fun j u hu => ?_) h1 hn hb hBw ?_
    · have hj : j < news.length := (List.getElem?_eq_some_iff.1 hu).1
      have hm : 0 < m := by
        rcases Nat.eq_zero_or_pos m with h0 | h0
        · subst h0; omega
        · exact h0
      obtain ⟨b, off, ha, _, hb, hc⟩ := hsl hm
      injection ha with ha
      subst ha
      have hadd : (⟨b, off, none⟩ : Addr).add j = ⟨b, off + j, none⟩ := by unfold Addr.add; split <;> simp_all
      rw [hadd, hc j hj, ← hu, List.getElem?_eq_getElem hj]
    · intro v' w' hown' hgr _
      obtain ⟨a', c', rfl⟩ := own_slice hown'
      exact h a' c' w' hown' hgr
theorem X.of_lit {w w1 : World} {o : Obj} (hg : (w.alloc o).grownBy w1 (some w.heap.size)) : X w w1 :=
  X.of_below ((X.below ((X.refl w).alloc o)).grown hg (by simp) (fun k hk => by injection hk with hk; omega))
theorem X.of_litR {w w1 : World} {o : Obj} {row : Option Nat} (hg : (w.alloc o).grownBy w1 row) (hr : row = some w.heap.size) : X w w1 := by
  subst hr; exact X.of_lit hg
theorem bx2_of {w W : World} {c1 c2 : Array Value} {t1 t2 : TypeId} (h : X ((w.alloc (.cells c1 t1)).alloc (.cells c2 t2)) W) : Bx W w.heap.size c1 ∧ Bx W (w.heap.size + 1) c2 ∧ X w W := by
  obtain ⟨h1, h2, h3⟩ := bx2 (W := (w.alloc (.cells c1 t1)).alloc (.cells c2 t2)) rfl
  exact ⟨h1.x h, h2.x h, h3.trans h⟩
theorem scells_one (l : List St) : ∀ u ∈ l.flatMap scells, u.oneCell' = true := by
  intro u hu
  obtain ⟨s, _, hs⟩ := List.mem_flatMap.1 hu
  simp only [scells, List.mem_cons, List.not_mem_nil, or_false] at hs
  rcases hs with rfl | rfl | rfl | rfl | rfl <;> rfl
theorem scells_len (l : List St) : (l.flatMap scells).length = l.length * 5 := flat_length 5 scells (fun _ => rfl) l
theorem stmt_T' : AppT Tryd.prog 43 88 5 56 := AppT.of (z := .agg #[.int .i64 0, .string ⟨#[]⟩, .int .i64 0, .string ⟨#[]⟩, .int .i64 0]) (by kernel_rfl) (by kernel_rfl) rfl (by omega)

set_option maxRecDepth 100000 in
set_option maxHeartbeats 1000000 in
theorem cloneBody_c (l : List St) (a : Option Addr) (n c B : Nat) (w : World) (hS : StmtsAt w B a n l) :
    Calls Tryd.prog 60 #[.slice a n c] w fun e w' => ∃ ra rc, e = .returned (.slice ra n rc) ∧ w'.ownsRow w.heap.size 88 5 (.slice ra n rc) n (l.flatMap scells) ∧ X w w' := by
  have hn := hS.2.1
  have hl : (l.flatMap scells).length = n * 5 := by rw [scells_len, hS.1]
  have Hl := Lib.hid hl
  clear hl
  go_enter Tryd.func60, Tryd.ntmps60
  go_wp2_with (at_builtin; refine wpList_append_sl stmt_T' rfl _ _ rfl (own_lit (n := 0) (size := 5) rfl (Nat.le_refl _) rfl (by omega)) rfl rfl (hS.mono (X.fr (by (repeat (first | with_reducible exact X.refl _ | with_reducible assumption | with_reducible refine X.setCell ?_ (by first | (simp; done) | (simp; omega)) _ | with_reducible refine X.ext ?_ _ | with_reducible refine X.alloc ?_ _ | with_reducible refine X.drew ?_))) B)).2.2.2 Hl.out (scells_one l) (by omega) (by unfold maxLen; omega) (by simp) ?_; intro a' c' w1 hO1 hg1)
  go_ret
  refine ⟨a', c', rfl, by simpa using hO1, ?_⟩
  exact X.of_lit hg1

theorem file_S2 : StrT Tryd.prog 48 6 := ⟨⟨_, Tryd.underlying48⟩, by kernel_rfl⟩
theorem at_x2' {w w' : World} {b : Nat} {o : Obj} (h : w.heap[b]? = some o) (hx : X w w') : w'.heap[b]? = some o := (hx.below.block b (Array.getElem?_eq_some_iff.1 h).1).trans h
theorem file_T' : AppT Tryd.prog 28 48 6 80 := AppT.of (z := .agg #[.int .i64 0, .string ⟨#[]⟩, .string ⟨#[]⟩, .bool false, .int .i64 0, .slice none 0 0]) (by kernel_rfl) (by kernel_rfl) rfl (by omega)
end Go.Proofs.YtjlooplpjliaiaaDoor
