/- append of a whole slice onto one of the call's own; copies of bodies and of files. No condition but lengths. -/
import Derived.Test.YtcophpiibifhcaaDoorTree
import Derived.Test.YtcophpiibifhcaaDoorRw
import Derived.Test.YtcophpiibifhcaaDoorToT
import Derived.Deep.AppendLies
import Derived.Deep.RegionLaw
namespace Go.Proofs.YtcophpiibifhcaaDoor
open Go.RowKit

theorem run_append_none_c {P : Program} {w : World} (base : Nat) (t ty e : TypeId) (i : TypeInfo) (size : Nat) (ht : P.underlying t = some (.slice e)) (hi : P.info? e = some i)
    (v : Value) (n c : Nat) (xs : List Value) (hown : w.ownsRow base e size v n xs) :
    (Builtin.append_ #[t, t] ty #[v, .slice none 0 c]).run P w = .ok v w := by
  rcases hown.2 with ⟨rfl, rfl⟩ | ⟨g, cap, cur, rfl, _, _, hnc, _⟩
  · simp [Builtin.append_, run_underlying ht, sizeOf, typeInfo, hi, Builtin.lenOf, Builtin.firstCells]
  · simp [Builtin.append_, run_underlying ht, sizeOf, typeInfo, hi, Builtin.lenOf, Builtin.firstCells, hnc, storeCells]
theorem wpList_append_none_c {P : Program} {w : World} {ops : Array Oper} {rest : List Oper} {o : Oper} {a : Act} {Q : Exit → Act → World → Prop} (hgd : o.guard = none) (s x : Operand) (t : TypeId)
    (ho : o.op = .call { callee := .builtin .append, args := #[s, x], argTypes := #[t, t] })
    (base : Nat) (e : TypeId) (i : TypeInfo) (size : Nat) (ht : P.underlying t = some (.slice e)) (hi : P.info? e = some i)
    (v : Value) (n c : Nat) (xs : List Value) (hs : a.eval s = v) (hown : w.ownsRow base e size v n xs) (hx : a.eval x = .slice none 0 c)
    (h : wpList P ops Q rest (a.put o.dst v) w) : wpList P ops Q (o :: rest) a w := by
  refine wpList_plain hgd fun K hK => ?_
  have hrun := run_append_none_c (P := P) (w := w) base t o.type e i size ht hi v n c xs hown
  unfold Oper.wp
  simp [execOp, ho, resolve, invoke, builtin, hs, hx, hrun, Result.andThen]
  exact hK _ _ h
/-- append of a whole slice, wherever it lies. -/
theorem wpList_append_sl {P : Program} {ops : Array Oper} {rest : List Oper} {o : Oper} {a : Act} {Q : Exit → Act → World → Prop} {t e size bytes : Nat} (hT : AppT P t e size bytes) (hgd : o.guard = none) (s x : Operand)
    (ho : o.op = .call { callee := .builtin .append, args := #[s, x], argTypes := #[t, t] }) {w : World} {B B' : Nat} {v : Value} {n : Nat} {xs : List Value}
    (hown : w.ownsRow B e size v n xs) (hs : a.eval s = v) {sa : Option Addr} {m c : Nat} {news : List Value} (hx : a.eval x = .slice sa m c) (hsl : Sl w B' sa m news) (hl : news.length = m * size) (h1 : ∀ u ∈ news, u.oneCell' = true)
    (hb : (n + m) * bytes ≤ 140737488355328) (hn : n + m ≤ maxLen) (hBw : B ≤ w.heap.size)
    (h : ∀ a' c' w', w'.ownsRow B e size (.slice a' (n + m) c') (n + m) (xs ++ news) → w.grownBy w' v.ownBlock → wpList P ops Q rest (a.put o.dst (.slice a' (n + m) c')) w') :
    wpList P ops Q (o :: rest) a w := by
  obtain ⟨i, z, hi, hz, hsize, hby, hzs⟩ := hT.hi
  cases sa with
  | none =>
    have hm : m = 0 := by
      rcases Nat.eq_zero_or_pos m with h0 | h0
      · exact h0
      · obtain ⟨b, off, ha, _⟩ := hsl h0; cases ha
    subst hm
    have hnil : news = [] := by rw [Nat.zero_mul] at hl; exact List.length_eq_zero_iff.1 hl
    subst hnil
    obtain ⟨a', c', rfl⟩ := own_slice hown
    exact wpList_append_none_c hgd s x t ho B e i size hT.ht hi _ n c xs hs hown hx (h a' c' w (by simpa using hown) (World.grownBy.refl _ _))
  | some ad =>
    refine wpList_append_own _ hgd s x t ho B e i z size bytes hT.ht hi hz hsize hby hzs hT.hsz v n xs hs hown ad m c news hx hl (fun j u hu => ?_) h1 hn hb hBw ?_
    · have hj : j < news.length := (List.getElem?_eq_some_iff.1 hu).1
      have hm : 0 < m := by
        rcases Nat.eq_zero_or_pos m with h0 | h0
        · subst h0; omega
        · exact h0
      obtain ⟨b, off, ha, _, hb, hc⟩ := hsl hm
      injection ha with ha
      subst ha
      have hadd : (⟨b, off, none⟩ : Addr).add j = ⟨b, off + j, none⟩ := by unfold Addr.add; split <;> simp_all
      rw [hadd, hc j hj, ← hu, List.getElem?_eq_getElem hj]
    · intro v' w' hown' hgr _
      obtain ⟨a', c', rfl⟩ := own_slice hown'
      exact h a' c' w' hown' hgr
theorem X.of_lit {w w1 : World} {o : Obj} (hg : (w.alloc o).grownBy w1 (some w.heap.size)) : X w w1 :=
  X.of_below ((X.below ((X.refl w).alloc o)).grown hg (by simp) (fun k hk => by injection hk with hk; omega))
theorem X.of_litR {w w1 : World} {o : Obj} {row : Option Nat} (hg : (w.alloc o).grownBy w1 row) (hr : row = some w.heap.size) : X w w1 := by
  subst hr; exact X.of_lit hg
theorem bx2_of {w W : World} {c1 c2 : Array Value} {t1 t2 : TypeId} (h : X ((w.alloc (.cells c1 t1)).alloc (.cells c2 t2)) W) : Bx W w.heap.size c1 ∧ Bx W (w.heap.size + 1) c2 ∧ X w W := by
  obtain ⟨h1, h2, h3⟩ := bx2 (W := (w.alloc (.cells c1 t1)).alloc (.cells c2 t2)) rfl
  exact ⟨h1.x h, h2.x h, h3.trans h⟩
theorem scells_one (l : List St) : ∀ u ∈ l.flatMap scells, u.oneCell' = true := by
  intro u hu
  obtain ⟨s, _, hs⟩ := List.mem_flatMap.1 hu
  simp only [scells, List.mem_cons, List.not_mem_nil, or_false] at hs
  rcases hs with rfl | rfl | rfl | rfl | rfl <;> rfl
theorem scells_len (l : List St) : (l.flatMap scells).length = l.length * 5 := flat_length 5 scells (fun _ => rfl) l
theorem stmt_T' : AppT Tryd.prog 74 125 5 56 := AppT.of (z := .agg #[.int .i64 0, .string ⟨#[]⟩, .int .i64 0, .string ⟨#[]⟩, .int .i64 0]) (by kernel_rfl) (by kernel_rfl) rfl (by omega)

set_option maxRecDepth 100000 in
set_option maxHeartbeats 1000000 in
theorem cloneBody_c (l : List St) (a : Option Addr) (n c B : Nat) (w : World) (hS : StmtsAt w B a n l) :
    Calls Tryd.prog 118 #[.slice a n c] w fun e w' => ∃ ra rc, e = .returned (.slice ra n rc) ∧ w'.ownsRow w.heap.size 125 5 (.slice ra n rc) n (l.flatMap scells) ∧ X w w' := by
  have hn := hS.2.1
  have hl : (l.flatMap scells).length = n * 5 := by rw [scells_len, hS.1]
  have Hl := Lib.hid hl
  clear hl
  go_enter Tryd.func118, Tryd.ntmps118
  go_wp2_with (at_builtin; refine wpList_append_sl stmt_T' rfl _ _ rfl (own_lit (n := 0) (size := 5) rfl (Nat.le_refl _) rfl (by omega)) rfl rfl (hS.mono (X.fr (by (repeat (first | with_reducible exact X.refl _ | with_reducible assumption | with_reducible refine X.setCell ?_ (by first | (simp; done) | (simp; omega)) _ | with_reducible refine X.ext ?_ _ | with_reducible refine X.alloc ?_ _ | with_reducible refine X.drew ?_))) B)).2.2.2 Hl.out (scells_one l) (by omega) (by unfold maxLen; omega) (by simp) ?_; intro a' c' w1 hO1 hg1)
  go_ret
  refine ⟨a', c', rfl, by simpa using hO1, ?_⟩
  exact X.of_lit hg1

theorem file_S2 : StrT Tryd.prog 76 6 := ⟨⟨_, Tryd.underlying76⟩, by kernel_rfl⟩
set_option maxRecDepth 100000 in
set_option maxHeartbeats 1000000 in
theorem cloneFile_c (f : Fi) (ba : Option Addr) (bn bc B : Nat) (w : World) (hS : StmtsAt w B ba bn f.body) :
    Calls Tryd.prog 96 #[.agg #[.int .i64 (f).root, .string ⟨(f).pkg.toArray⟩, .string ⟨(f).name.toArray⟩, .bool (f).init, .int .i64 (f).stamp, .slice ba bn bc]] w fun e w' => ∃ ra rc, e = .returned (.agg #[.int .i64 (f).root, .string ⟨(f).pkg.toArray⟩, .string ⟨(f).name.toArray⟩, .bool (f).init, .int .i64 (f).stamp, .slice ra bn rc]) ∧ w'.ownsRow w.heap.size 125 5 (.slice ra bn rc) bn (f.body.flatMap scells) ∧ X w w' := by
  go_enter Tryd.func96, Tryd.ntmps96
  go_wp2_with fail
  refine calls_name (fun W hW => ?_)
  obtain ⟨hT, hR, hX0⟩ := bx2 hW
  have hsz : W.heap.size = w.heap.size + 2 := by rw [hW]; simp
  clear hW
  refine (cloneBody_c f.body ba bn bc B W (hS.mono (hX0.fr _))).mono ?_
  rintro _ w3 ⟨ra, rc, rfl, hO, hX3⟩
  have hXw := hX0.trans hX3
  replace hR := hR.x hX3
  replace hT := hT.x hX3
  obtain ⟨hbR, hcR, hfR⟩ := hR.out
  obtain ⟨hbT, hcT, hfT⟩ := hT.out
  have r0 := hcR 0
  have r1 := hcR 1
  have r2 := hcR 2
  have r3 := hcR 3
  have r4 := hcR 4
  have r5 := hcR 5
  have t0 := hcT 0
  have t1 := hcT 1
  have t2 := hcT 2
  have t3 := hcT 3
  have t4 := hcT 4
  have t5 := hcT 5
  clear hcR hcT
  go_wp2
  refine bodyPost_row Tryd.results96 rfl (Bx.set (Bx.set (Bx.set (Bx.set (Bx.set (Bx.set (Bx.far hR (by simp) _) 0 _) 1 _) 2 _) 3 _) 4 _) 5 _) file_S2 rfl rfl ?_
  refine ⟨ra, rc, rfl, own_less (own_fr hO (by (repeat (first | with_reducible exact Fr.refl _ _ | with_reducible assumption | with_reducible refine Fr.set ?_ (.inr (by first | (simp; done) | (simp; omega))) _)))) (by omega), by (repeat (first | with_reducible exact X.refl _ | with_reducible assumption | with_reducible refine X.setCell ?_ (by first | (simp; done) | (simp; omega)) _ | with_reducible refine X.ext ?_ _ | with_reducible refine X.alloc ?_ _ | with_reducible refine X.drew ?_))⟩
set_option maxRecDepth 100000 in
set_option maxHeartbeats 1000000 in
theorem copyFile_c (f : Fi) (ba : Option Addr) (bn bc B : Nat) (w : World) (hS : StmtsAt w B ba bn f.body) :
    Calls Tryd.prog 95 #[.agg #[.int .i64 (f).root, .string ⟨(f).pkg.toArray⟩, .string ⟨(f).name.toArray⟩, .bool (f).init, .int .i64 (f).stamp, .slice ba bn bc]] w fun e w' => ∃ ra rc, e = .returned (.agg #[.int .i64 (f).root, .string ⟨(f).pkg.toArray⟩, .string ⟨(f).name.toArray⟩, .bool (f).init, .int .i64 (f).stamp, .slice ra bn rc]) ∧ w'.ownsRow w.heap.size 125 5 (.slice ra bn rc) bn (f.body.flatMap scells) ∧ X w w' := by
  have hn := hS.2.1
  have Hl := Lib.hid (show (f.body.flatMap scells).length = bn * 5 by rw [scells_len, hS.1])
  go_enter Tryd.func95, Tryd.ntmps95
  go_wp2_with (at_builtin; refine wpList_append_sl stmt_T' rfl _ _ rfl (own_lit (B := w.heap.size + 2) (n := 0) (size := 5) (by simp) (by simp) rfl (by omega)) rfl rfl (hS.mono (X.fr (by (repeat (first | with_reducible exact X.refl _ | with_reducible assumption | with_reducible refine X.setCell ?_ (by first | (simp; done) | (simp; omega)) _ | with_reducible refine X.ext ?_ _ | with_reducible refine X.alloc ?_ _ | with_reducible refine X.drew ?_))) B)).2.2.2 Hl.out (scells_one f.body) (by omega) (by unfold maxLen; omega) (by simp) ?_; intro a' c' w1 hO1 hg1; obtain ⟨hT, hR, hX1⟩ := bx2_of (X.of_litR hg1 (by simp [Value.ownBlock])); obtain ⟨hbT, hcT, hfT⟩ := hT.out; obtain ⟨hbR, hcR, hfR⟩ := hR.out; have r0 := hcR 0; have r1 := hcR 1; have r2 := hcR 2; have r3 := hcR 3; have r4 := hcR 4; have r5 := hcR 5; have t0 := hcT 0; have t1 := hcT 1; have t2 := hcT 2; have t3 := hcT 3; have t4 := hcT 4; have t5 := hcT 5; clear hcR hcT)
  refine bodyPost_row Tryd.results95 rfl (Bx.set (Bx.set (Bx.set (Bx.set (Bx.set (Bx.set (Bx.far hR (by simp) _) 0 _) 1 _) 2 _) 3 _) 4 _) 5 _) file_S2 rfl rfl ?_
  rw [List.nil_append, Nat.zero_add] at hO1
  refine ⟨a', c', rfl, ?_, by (repeat (first | with_reducible exact X.refl _ | with_reducible assumption | with_reducible refine X.setCell ?_ (by first | (simp; done) | (simp; omega)) _ | with_reducible refine X.ext ?_ _ | with_reducible refine X.alloc ?_ _ | with_reducible refine X.drew ?_))⟩
  exact own_less (own_fr hO1 (by (repeat (first | with_reducible exact Fr.refl _ _ | with_reducible assumption | with_reducible refine Fr.set ?_ (.inr (by first | (simp; done) | (simp; omega))) _)))) (by omega)

theorem at_x2' {w w' : World} {b : Nat} {o : Obj} (h : w.heap[b]? = some o) (hx : X w w') : w'.heap[b]? = some o := (hx.below.block b (Array.getElem?_eq_some_iff.1 h).1).trans h
theorem file_T' : AppT Tryd.prog 28 76 6 80 := AppT.of (z := .agg #[.int .i64 0, .string ⟨#[]⟩, .string ⟨#[]⟩, .bool false, .int .i64 0, .slice none 0 0]) (by kernel_rfl) (by kernel_rfl) rfl (by omega)
set_option maxRecDepth 100000 in
set_option maxHeartbeats 2000000 in
theorem cloneTree_c (l : List Fi) (a : Option Addr) (n c B : Nat) (w : World) (hF : FilesAt w B a n l) :
    Calls Tryd.prog 61 #[.agg #[.slice a n c]] w fun e w' => ∃ ra rc, e = .returned (.agg #[.slice ra n rc]) ∧ FilesO w' w.heap.size ra n rc l ∧ X w w' := by
  obtain ⟨hl, hn⟩ := hF.len
  have Hl := Lib.hid hl
  clear hl
  go_enter Tryd.func61, Tryd.ntmps61
  go_wp2
  refine wp_name (fun W0 hW0 => ?_)
  have hX0 : X w W0 := by rw [hW0]; (repeat (first | with_reducible exact X.refl _ | with_reducible assumption | with_reducible refine X.setCell ?_ (by first | (simp; done) | (simp; omega)) _ | with_reducible refine X.ext ?_ _ | with_reducible refine X.alloc ?_ _ | with_reducible refine X.drew ?_))
  have hBr : Bx W0 (w.heap.size + 1) #[.slice none 0 0] := by
    rw [hW0]
    exact ((bx2 (w := w) rfl).2.1).x (by (repeat (first | with_reducible exact X.refl _ | with_reducible assumption | with_reducible refine X.setCell ?_ (by first | (simp; done) | (simp; omega)) _ | with_reducible refine X.ext ?_ _ | with_reducible refine X.alloc ?_ _ | with_reducible refine X.drew ?_)))
  have hTb : W0.heap[w.heap.size + 3]? = some (.cells #[.slice (some ⟨w.heap.size + 2, 0, none⟩) 0 0] 30 (0, 0)) := by
    rw [hW0]
    have := heap_alloc_new (((w.alloc (.cells #[.slice a n c] 30)).alloc (.cells #[.slice none 0 0] 30)).alloc (.cells #[] 76)) (.cells #[.slice (some ⟨w.heap.size + 2, 0, none⟩) 0 0] 30)
    simpa using this
  have hrow0 : W0.ownsRow (w.heap.size + 2) 76 6 (.slice (some ⟨w.heap.size + 2, 0, none⟩) 0 0) 0 [] := by
    rw [hW0]
    exact own_fr (own_lit (w := (w.alloc (.cells #[.slice a n c] 30)).alloc (.cells #[.slice none 0 0] 30)) (cs := #[]) (e := 76) (B := w.heap.size + 2) (g := w.heap.size + 2) (size := 6) (n := 0) (by simp) (by simp) rfl (by omega)) (X.fr (by (repeat (first | with_reducible exact X.refl _ | with_reducible assumption | with_reducible refine X.setCell ?_ (by first | (simp; done) | (simp; omega)) _ | with_reducible refine X.ext ?_ _ | with_reducible refine X.alloc ?_ _ | with_reducible refine X.drew ?_))) _)
  clear hW0
  go_loopw [5, 11] (fun _ i wr => ∃ (k : Nat) (vs : List (Fi × Value)) (ra : Option Addr) (rc : Nat), k ≤ n ∧ i = .int .i64 k ∧ vs.map (·.1) = l.take k ∧ wr.ownsRow (w.heap.size + 2) 76 6 (.slice ra k rc) k (vs.flatMap fcells) ∧ Sep vs ∧
      (∀ x ∈ vs, ∃ ba bc, x.2 = .slice ba x.1.body.length bc ∧ wr.ownsRow (w.heap.size + 2) 125 5 (.slice ba x.1.body.length bc) x.1.body.length (x.1.body.flatMap scells)) ∧
      Bx wr (w.heap.size + 1) #[.slice none 0 0] ∧ wr.heap[w.heap.size + 3]? = some (.cells #[.slice ra k rc] 30 (0, 0)) ∧ X w wr) (fun _ i _ => n - (intOf i).toNat)
  case atStart => exact ⟨0, [], _, 0, Nat.zero_le _, rfl, rfl, hrow0, List.Pairwise.nil, (fun _ h => by cases h), hBr, hTb, hX0⟩
  case round =>
    obtain ⟨k, vs, ra, rc, hk, rfl, hvs, hrow, hsep, hbd, hBr, hTb, hX⟩ := hrel
    have Hv := Lib.hid (And.intro hvs (And.intro hsep hbd))
    clear hvs hsep hbd hX0 hrow0
    by_cases hlt : k < n
    · obtain ⟨b, off, ba, bn, bc, rfl, _, hb, hok, hbc, hSb, g0, g1, g2, g3, g4, g5⟩ := (hF.mono (hX.fr _)).at_ hlt
      have Hbn := Lib.hid hSb.1
      go_wp2
      refine wp_name (fun W4 hW4 => ?_)
      have hB4 : Bx W4 wr.heap.size #[.int .i64 (nth l k).root, .string ⟨((nth l k).pkg).toArray⟩, .string ⟨((nth l k).name).toArray⟩, .bool (nth l k).init, .int .i64 (nth l k).stamp, .slice ba bn bc] := by rw [hW4]; first | exact Bx.new _ _ _ | exact Bx.set (Bx.set (Bx.set (Bx.set (Bx.set (Bx.set (Bx.new _ _ _) 0 _) 1 _) 2 _) 3 _) 4 _) 5 _
      have hX4 : X wr W4 := by rw [hW4]; (repeat (first | with_reducible exact X.refl _ | with_reducible assumption | with_reducible refine X.setCell ?_ (by first | (simp; done) | (simp; omega)) _ | with_reducible refine X.ext ?_ _ | with_reducible refine X.alloc ?_ _ | with_reducible refine X.drew ?_))
      clear hW4
      obtain ⟨l4, c4, _⟩ := hB4.out
      have b0 := c4 0
      have b1 := c4 1
      have b2 := c4 2
      have b3 := c4 3
      have b4 := c4 4
      have b5 := c4 5
      clear c4
      have hTb4 := at_x2' hTb hX4
      obtain ⟨lt4, ct4, _⟩ := Bx.out ⟨_, hTb4⟩
      have d0 := ct4 0
      clear ct4
      go_region_law (first
        | (refine step_append_t file_T' rfl _ _ rfl (w := w3) (by (repeat (first | exact X.refl _ | assumption | refine X.ext ?_ _ | refine X.alloc ?_ _ | refine X.drew ?_))) hrow3 rfl rfl (heap_alloc_new w3 _) rfl (by simp [Value.oneCell']) (by omega) (by omega) (by omega) ?_; intro a' c' w' hrow' hg'; have hTb5 := at_grown hTb3 hg' (own_ne_at hrow3 hTb3 (by decide)); obtain ⟨lt5, ct5, ft5⟩ := Bx.out ⟨_, hTb5⟩)
        | (go_simp; go_at_call 96; refine (cloneFile_c (nth l k) ba bn bc B _ (hSb.mono (X.fr (hX4.trans (by (repeat (first | exact X.refl _ | assumption | refine X.ext ?_ _ | refine X.alloc ?_ _ | refine X.drew ?_)))) _))).mono ?_; rintro _ w3 ⟨rb, rcb, rfl, hO3, hx3⟩; have hX3 : X W4 w3 := X.trans (by (repeat (first | exact X.refl _ | assumption | refine X.ext ?_ _ | refine X.alloc ?_ _ | refine X.drew ?_))) hx3; have hTb3 := at_x2' hTb4 hX3; obtain ⟨lt3, ct3, _⟩ := Bx.out ⟨_, hTb3⟩; have d3 := ct3 0; clear ct3; have hrow3 := own_fr hrow (X.fr (hX4.trans hX3) _)))
      all_goals
        have hXw : X w w3 := (hX.trans hX4).trans hX3
        have hX5 : X w w' := X.of_below ((hXw.below).grown hg' hXw.size (fun g hg => by have := (hrow3.lt g hg).1; omega))
        have hBr5 := (hBr.x (hX4.trans hX3)).grown hg' (own_ge hrow3 (by omega))
        go_wp2
        go_roundw
        case rel => exact ⟨k + 1, vs ++ [(nth l k, .slice rb bn rcb)], a', c', by omega, by go_num, by rw [List.map_append, Hv.out.1, take_succ_nth (by rw [← Hl.out]; exact hlt)]; rfl, by
            rw [List.flatMap_append]
            exact own_set_far hrow' hTb5 (by decide) _ _, List.pairwise_append.2 ⟨Hv.out.2.1, List.pairwise_singleton _ _, fun x hx y hy => by
            rw [List.mem_singleton.1 hy]
            obtain ⟨ba', bc', e, ho⟩ := Hv.out.2.2 x hx
            rw [e]
            exact row_far (own_fr ho (hX4.fr _)) rfl hO3⟩, fun x hx => by
            rcases List.mem_append.1 hx with hx | hx
            · obtain ⟨ba', bc', e, ho⟩ := Hv.out.2.2 x hx
              have ho3 := own_fr ho (X.fr (hX4.trans hX3) _)
              exact ⟨ba', bc', e, own_set_far (ho3.kept hg' (row_ne ho3 hrow3 (by decide))) hTb5 (by decide) _ _⟩
            · rw [List.mem_singleton.1 hx]
              have ho3 := own_less hO3 (show w.heap.size + 2 ≤ _ by first | omega | (simp; omega))
              rw [Hbn.out] at ho3 ⊢
              exact ⟨rb, _, rfl, own_set_far (ho3.kept hg' (row_ne ho3 hrow3 (by decide))) hTb5 (by decide) _ _⟩, Bx.far hBr5 (by simp) _, by have := heap_setCell_same w' (w.heap.size + 3) 0 _ _ (.slice a' (k + 1) c') hTb5; simpa using this, X.setCell hX5 (by first | (simp; done) | (simp; omega)) _⟩
        case measure => simp [intOf]; omega
    · obtain rfl : k = n := by omega
      obtain ⟨lT, cT, _⟩ := Bx.out ⟨_, hTb⟩
      have d0 := cT 0
      obtain ⟨lR, cR, fR⟩ := hBr.out
      have r0 := cR 0
      clear cT cR
      go_wp2
      refine bodyPost_row Tryd.results61 rfl (Bx.set hBr 0 _) tree_S rfl rfl ?_
      have hFO : FilesO wr (w.heap.size + 2) ra k rc l := ⟨vs, by rw [Hv.out.1, List.take_of_length_le (by rw [← Hl.out]; omega)], Hl.out, hrow, Hv.out.2.1, Hv.out.2.2⟩
      exact ⟨ra, rc, rfl, (hFO.fr (by (repeat (first | with_reducible exact Fr.refl _ _ | with_reducible assumption | with_reducible refine Fr.set ?_ (.inr (by first | (simp; done) | (simp; omega))) _)))).less (by omega), by (repeat (first | with_reducible exact X.refl _ | with_reducible assumption | with_reducible refine X.setCell ?_ (by first | (simp; done) | (simp; omega)) _ | with_reducible refine X.ext ?_ _ | with_reducible refine X.alloc ?_ _ | with_reducible refine X.drew ?_))⟩

set_option maxRecDepth 100000 in
set_option maxHeartbeats 2000000 in
theorem copyTree_c (l : List Fi) (a : Option Addr) (n c B : Nat) (w : World) (hF : FilesAt w B a n l) :
    Calls Tryd.prog 60 #[.agg #[.slice a n c]] w fun e w' => ∃ ra rc, e = .returned (.agg #[.slice ra n rc]) ∧ FilesO w' w.heap.size ra n rc l ∧ X w w' := by
  obtain ⟨hl, hn⟩ := hF.len
  have Hl := Lib.hid hl
  clear hl
  go_enter Tryd.func60, Tryd.ntmps60
  go_wp2
  refine wp_name (fun W0 hW0 => ?_)
  have hX0 : X w W0 := by rw [hW0]; (repeat (first | with_reducible exact X.refl _ | with_reducible assumption | with_reducible refine X.setCell ?_ (by first | (simp; done) | (simp; omega)) _ | with_reducible refine X.ext ?_ _ | with_reducible refine X.alloc ?_ _ | with_reducible refine X.drew ?_))
  have hBp : Bx W0 w.heap.size #[.slice a n c] := by
    rw [hW0]
    exact ((bx2 (w := w) rfl).1).x (by (repeat (first | with_reducible exact X.refl _ | with_reducible assumption | with_reducible refine X.setCell ?_ (by first | (simp; done) | (simp; omega)) _ | with_reducible refine X.ext ?_ _ | with_reducible refine X.alloc ?_ _ | with_reducible refine X.drew ?_)))
  have hBr : Bx W0 (w.heap.size + 1) #[.slice none 0 0] := by
    rw [hW0]
    exact ((bx2 (w := w) rfl).2.1).x (by (repeat (first | with_reducible exact X.refl _ | with_reducible assumption | with_reducible refine X.setCell ?_ (by first | (simp; done) | (simp; omega)) _ | with_reducible refine X.ext ?_ _ | with_reducible refine X.alloc ?_ _ | with_reducible refine X.drew ?_)))
  have hTb : W0.heap[w.heap.size + 2]? = some (.cells #[.slice none 0 0] 30 (0, 0)) := by
    rw [hW0]
    have := heap_alloc_new ((w.alloc (.cells #[.slice a n c] 30)).alloc (.cells #[.slice none 0 0] 30)) (.cells #[.slice none 0 0] 30)
    simpa using this
  have hrow0 : W0.ownsRow (w.heap.size + 2) 76 6 (.slice none 0 0) 0 [] := ⟨rfl, .inl ⟨rfl, rfl⟩⟩
  clear hW0
  go_loopw [4] (fun i wr => ∃ (k : Nat) (vs : List (Fi × Value)) (ra : Option Addr) (rc : Nat), k ≤ n ∧ i = .int .i64 k ∧ vs.map (·.1) = l.take k ∧ wr.ownsRow (w.heap.size + 2) 76 6 (.slice ra k rc) k (vs.flatMap fcells) ∧ Sep vs ∧
      (∀ x ∈ vs, ∃ ba bc, x.2 = .slice ba x.1.body.length bc ∧ wr.ownsRow (w.heap.size + 2) 125 5 (.slice ba x.1.body.length bc) x.1.body.length (x.1.body.flatMap scells)) ∧
      Bx wr w.heap.size #[.slice a n c] ∧ Bx wr (w.heap.size + 1) #[.slice none 0 0] ∧ wr.heap[w.heap.size + 2]? = some (.cells #[.slice ra k rc] 30 (0, 0)) ∧ X w wr) (fun i _ => n - (intOf i).toNat)
  case atStart => exact ⟨0, [], _, 0, Nat.zero_le _, rfl, rfl, hrow0, List.Pairwise.nil, (fun _ h => by cases h), hBp, hBr, hTb, hX0⟩
  case round =>
    obtain ⟨k, vs, ra, rc, hk, rfl, hvs, hrow, hsep, hbd, hBp, hBr, hTb, hX⟩ := hrel
    have Hv := Lib.hid (And.intro hvs (And.intro hsep hbd))
    clear hvs hsep hbd hX0 hrow0
    by_cases hlt : k < n
    · obtain ⟨b, off, ba, bn, bc, rfl, _, hb, hok, hbc, hSb, g0, g1, g2, g3, g4, g5⟩ := (hF.mono (hX.fr _)).at_ hlt
      have Hbn := Lib.hid hSb.1
      obtain ⟨lp, cp, _⟩ := hBp.out
      have p0 := cp 0
      clear cp
      obtain ⟨lt4, ct4, _⟩ := Bx.out ⟨_, hTb⟩
      have d0 := ct4 0
      clear ct4
      go_wp2
      go_region_law (first
        | (refine step_append_t file_T' rfl _ _ rfl (w := w3) (by (repeat (first | exact X.refl _ | assumption | refine X.ext ?_ _ | refine X.alloc ?_ _ | refine X.drew ?_))) hrow3 rfl rfl (heap_alloc_new w3 _) rfl (by simp [Value.oneCell']) (by omega) (by omega) (by omega) ?_; intro a' c' w' hrow' hg'; have hTb5 := at_grown hTb3 hg' (own_ne_at hrow3 hTb3 (by decide)); obtain ⟨lt5, ct5, ft5⟩ := Bx.out ⟨_, hTb5⟩)
        | (go_simp; go_at_call 95; refine (copyFile_c (nth l k) ba bn bc B _ (hSb.mono (X.fr (by (repeat (first | exact X.refl _ | assumption | refine X.ext ?_ _ | refine X.alloc ?_ _ | refine X.drew ?_))) _))).mono ?_; rintro _ w3 ⟨rb, rcb, rfl, hO3, hx3⟩; have hX3 : X wr w3 := X.trans (by (repeat (first | exact X.refl _ | assumption | refine X.ext ?_ _ | refine X.alloc ?_ _ | refine X.drew ?_))) hx3; have hTb3 := at_x2' hTb hX3; obtain ⟨lt3, ct3, _⟩ := Bx.out ⟨_, hTb3⟩; have d3 := ct3 0; clear ct3; have hrow3 := own_fr hrow (X.fr hX3 _)))
      all_goals
        have hXw : X w w3 := hX.trans hX3
        have hX5 : X w w' := X.of_below ((hXw.below).grown hg' hXw.size (fun g hg => by have := (hrow3.lt g hg).1; omega))
        have hBp5 := (hBp.x hX3).grown hg' (own_ge hrow3 (by omega))
        have hBr5 := (hBr.x hX3).grown hg' (own_ge hrow3 (by omega))
        go_wp2
        go_roundw
        case rel => exact ⟨k + 1, vs ++ [(nth l k, .slice rb bn rcb)], a', c', by omega, by go_num, by rw [List.map_append, Hv.out.1, take_succ_nth (by rw [← Hl.out]; exact hlt)]; rfl, by
            rw [List.flatMap_append]
            exact own_set_far hrow' hTb5 (by decide) _ _, List.pairwise_append.2 ⟨Hv.out.2.1, List.pairwise_singleton _ _, fun x hx y hy => by
            rw [List.mem_singleton.1 hy]
            obtain ⟨ba', bc', e, ho⟩ := Hv.out.2.2 x hx
            rw [e]
            exact row_far (ho) rfl hO3⟩, fun x hx => by
            rcases List.mem_append.1 hx with hx | hx
            · obtain ⟨ba', bc', e, ho⟩ := Hv.out.2.2 x hx
              have ho3 := own_fr ho (X.fr hX3 _)
              exact ⟨ba', bc', e, own_set_far (ho3.kept hg' (row_ne ho3 hrow3 (by decide))) hTb5 (by decide) _ _⟩
            · rw [List.mem_singleton.1 hx]
              have ho3 := own_less hO3 (show w.heap.size + 2 ≤ _ by first | omega | (simp; omega))
              rw [Hbn.out] at ho3 ⊢
              exact ⟨rb, _, rfl, own_set_far (ho3.kept hg' (row_ne ho3 hrow3 (by decide))) hTb5 (by decide) _ _⟩, Bx.far hBp5 (by first | (simp; done) | (simp; omega)) _, Bx.far hBr5 (by simp) _, by have := heap_setCell_same w' (w.heap.size + 2) 0 _ _ (.slice a' (k + 1) c') hTb5; simpa using this, X.setCell hX5 (by first | (simp; done) | (simp; omega)) _⟩
        case measure => simp [intOf]; omega
    · obtain rfl : k = n := by omega
      obtain ⟨lp, cp, _⟩ := hBp.out
      have p0 := cp 0
      clear cp
      obtain ⟨lT, cT, _⟩ := Bx.out ⟨_, hTb⟩
      have d0 := cT 0
      obtain ⟨lR, cR, fR⟩ := hBr.out
      have r0 := cR 0
      clear cT cR
      go_wp2
      refine bodyPost_row Tryd.results60 rfl (Bx.set hBr 0 _) tree_S rfl rfl ?_
      have hFO : FilesO wr (w.heap.size + 2) ra k rc l := ⟨vs, by rw [Hv.out.1, List.take_of_length_le (by rw [← Hl.out]; omega)], Hl.out, hrow, Hv.out.2.1, Hv.out.2.2⟩
      exact ⟨ra, rc, rfl, (hFO.fr (by (repeat (first | with_reducible exact Fr.refl _ _ | with_reducible assumption | with_reducible refine Fr.set ?_ (.inr (by first | (simp; done) | (simp; omega))) _)))).less (by omega), by (repeat (first | with_reducible exact X.refl _ | with_reducible assumption | with_reducible refine X.setCell ?_ (by first | (simp; done) | (simp; omega)) _ | with_reducible refine X.ext ?_ _ | with_reducible refine X.alloc ?_ _ | with_reducible refine X.drew ?_))⟩

end Go.Proofs.YtcophpiibifhcaaDoor
