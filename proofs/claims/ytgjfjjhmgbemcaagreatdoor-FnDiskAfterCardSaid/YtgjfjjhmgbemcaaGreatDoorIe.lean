/- Several texts in one: Clone, Held, Delete, Remove. No condition but lengths. -/
import Derived.Test.YtgjfjjhmgbemcaaGreatDoorIb
import Derived.Test.YtgjfjjhmgbemcaaGreatDoorIa
import Derived.Deep.AppendLies
import Derived.Deep.RegionLaw
import Derived.Lib.SliceRun
import Derived.IntWalk
namespace Go.Proofs.YtgjfjjhmgbemcaaGreatDoor
open Go.RowKit

theorem run_append_none_c {P : Program} {w : World} (base : Nat) (t ty e : TypeId) (i : TypeInfo) (size : Nat) (ht : P.underlying t = some (.slice e)) (hi : P.info? e = some i)
    (v : Value) (n c : Nat) (xs : List Value) (hown : w.ownsRow base e size v n xs) :
    (Builtin.append_ #[t, t] ty #[v, .slice none 0 c]).run P w = .ok v w := by
  rcases hown.2 with ⟨rfl, rfl⟩ | ⟨g, cap, cur, rfl, _, _, hnc, _⟩
  · simp [Builtin.append_, run_underlying ht, sizeOf, typeInfo, hi, Builtin.lenOf, Builtin.firstCells]
  · simp [Builtin.append_, run_underlying ht, sizeOf, typeInfo, hi, Builtin.lenOf, Builtin.firstCells, hnc, storeCells]
theorem wpList_append_none_c {P : Program} {w : World} {ops : Array Oper} {rest : List Oper} {o : Oper} {a : Act} {Q : Exit → Act → World → Prop} (hgd : o.guard = none) (s x : Operand) (t : TypeId)
    (ho : o.op = .call { callee := .builtin .append, args := #[s, x], argTypes := #[t, t] })
    (base : Nat) (e : TypeId) (i : TypeInfo) (size : Nat) (ht : P.underlying t = some (.slice e)) (hi : P.info? e = some i)
    (v : Value) (n c : Nat) (xs : List Value) (hs : a.eval s = v) (hown : w.ownsRow base e size v n xs) (hx : a.eval x = .slice none 0 c)
    (h : wpList P ops Q rest (a.put o.dst v) w) : wpList P ops Q (o :: rest) a w := by
  refine wpList_plain hgd fun K hK => ?_
  have hrun := run_append_none_c (P := P) (w := w) base t o.type e i size ht hi v n c xs hown
  unfold Oper.wp
  simp [execOp, ho, resolve, invoke, builtin, hs, hx, hrun, Result.andThen]
  exact hK _ _ h
/-- append of a whole slice, wherever it lies. -/
theorem wpList_append_sl {P : Program} {ops : Array Oper} {rest : List Oper} {o : Oper} {a : Act} {Q : Exit → Act → World → Prop} {t e size bytes : Nat} (hT : AppT P t e size bytes) (hgd : o.guard = none) (s x : Operand)
    (ho : o.op = .call { callee := .builtin .append, args := #[s, x], argTypes := #[t, t] }) {w : World} {B B' : Nat} {v : Value} {n : Nat} {xs : List Value}
    (hown : w.ownsRow B e size v n xs) (hs : a.eval s = v) {sa : Option Addr} {m c : Nat} {news : List Value} (hx : a.eval x = .slice sa m c) (hsl : Sl w B' sa m news) (hl : news.length = m * size) (h1 : ∀ u ∈ news, u.oneCell' = true)
    (hb : (n + m) * bytes ≤ 140737488355328) (hn : n + m ≤ maxLen) (hBw : B ≤ w.heap.size)
    (h : ∀ a' c' w', w'.ownsRow B e size (.slice a' (n + m) c') (n + m) (xs ++ news) → w.grownBy w' v.ownBlock → wpList P ops Q rest (a.put o.dst (.slice a' (n + m) c')) w') :
    wpList P ops Q (o :: rest) a w := by
  obtain ⟨i, z, hi, hz, hsize, hby, hzs⟩ := hT.hi
  cases sa with
  | none =>
    have hm : m = 0 := by
      rcases Nat.eq_zero_or_pos m with h0 | h0
      · exact h0
      · obtain ⟨b, off, ha, _⟩ := hsl h0; cases ha
    subst hm
    have hnil : news = [] := by rw [Nat.zero_mul] at hl; exact List.length_eq_zero_iff.1 hl
    subst hnil
    obtain ⟨a', c', rfl⟩ := own_slice hown
    exact wpList_append_none_c hgd s x t ho B e i size hT.ht hi _ n c xs hs hown hx (h a' c' w (by simpa using hown) (World.grownBy.refl _ _))
  | some ad =>
    refine wpList_append_own _ hgd s x t ho B e i z size bytes hT.ht hi hz hsize hby hzs hT.hsz v n xs hs hown ad m c news hx hl (fun j u hu => ?_) h1 hn hb hBw ?_
    · have hj : j < news.length := (List.getElem?_eq_some_iff.1 hu).1
      have hm : 0 < m := by
        rcases Nat.eq_zero_or_pos m with h0 | h0
        · subst h0; omega
        · exact h0
      obtain ⟨b, off, ha, _, hb, hc⟩ := hsl hm
      injection ha with ha
      subst ha
      have hadd : (⟨b, off, none⟩ : Addr).add j = ⟨b, off + j, none⟩ := by unfold Addr.add; split <;> simp_all
      rw [hadd, hc j hj, ← hu, List.getElem?_eq_getElem hj]
    · intro v' w' hown' hgr _
      obtain ⟨a', c', rfl⟩ := own_slice hown'
      exact h a' c' w' hown' hgr
theorem X.of_lit {w w1 : World} {o : Obj} (hg : (w.alloc o).grownBy w1 (some w.heap.size)) : X w w1 :=
  X.of_below ((X.below ((X.refl w).alloc o)).grown hg (by simp) (fun k hk => by injection hk with hk; omega))
theorem X.of_litR {w w1 : World} {o : Obj} {row : Option Nat} (hg : (w.alloc o).grownBy w1 row) (hr : row = some w.heap.size) : X w w1 := by
  subst hr; exact X.of_lit hg
theorem bx2_of {w W : World} {c1 c2 : Array Value} {t1 t2 : TypeId} (h : X ((w.alloc (.cells c1 t1)).alloc (.cells c2 t2)) W) : Bx W w.heap.size c1 ∧ Bx W (w.heap.size + 1) c2 ∧ X w W := by
  obtain ⟨h1, h2, h3⟩ := bx2 (W := (w.alloc (.cells c1 t1)).alloc (.cells c2 t2)) rfl
  exact ⟨h1.x h, h2.x h, h3.trans h⟩
theorem scells_one (l : List St) : ∀ u ∈ l.flatMap scells, u.oneCell' = true := by
  intro u hu
  obtain ⟨s, _, hs⟩ := List.mem_flatMap.1 hu
  simp only [scells, List.mem_cons, List.not_mem_nil, or_false] at hs
  rcases hs with rfl | rfl | rfl | rfl | rfl <;> rfl
theorem scells_len (l : List St) : (l.flatMap scells).length = l.length * 5 := flat_length 5 scells (fun _ => rfl) l
theorem stmt_T' : AppT Tryz.prog 42 148 5 56 := AppT.of (z := .agg #[.int .i64 0, .string ⟨#[]⟩, .int .i64 0, .string ⟨#[]⟩, .int .i64 0]) (by kernel_rfl) (by kernel_rfl) rfl (by omega)

set_option maxRecDepth 100000 in
set_option maxHeartbeats 1000000 in
theorem cloneBody_c (l : List St) (a : Option Addr) (n c B : Nat) (w : World) (hS : StmtsAt w B a n l) :
    Calls Tryz.prog 153 #[.slice a n c] w fun e w' => ∃ ra rc, e = .returned (.slice ra n rc) ∧ w'.ownsRow w.heap.size 148 5 (.slice ra n rc) n (l.flatMap scells) ∧ X w w' := by
  have hn := hS.2.1
  have hl : (l.flatMap scells).length = n * 5 := by rw [scells_len, hS.1]
  have Hl := Lib.hid hl
  clear hl
  go_enter Tryz.func153, Tryz.ntmps153
  go_wp2_with (at_builtin; refine wpList_append_sl stmt_T' rfl _ _ rfl (own_lit (n := 0) (size := 5) rfl (Nat.le_refl _) rfl (by omega)) rfl rfl (hS.mono (X.fr (by (repeat (first | with_reducible exact X.refl _ | with_reducible assumption | with_reducible refine X.setCell ?_ (by first | (simp; done) | (simp; omega)) _ | with_reducible refine X.ext ?_ _ | with_reducible refine X.alloc ?_ _ | with_reducible refine X.drew ?_))) B)).2.2.2 Hl.out (scells_one l) (by omega) (by unfold maxLen; omega) (by simp) ?_; intro a' c' w1 hO1 hg1)
  go_ret
  refine ⟨a', c', rfl, by simpa using hO1, ?_⟩
  exact X.of_lit hg1

theorem file_S2 : StrT Tryz.prog 44 6 := ⟨⟨_, Tryz.underlying44⟩, by kernel_rfl⟩
set_option maxRecDepth 100000 in
set_option maxHeartbeats 1000000 in
theorem cloneFile_c (f : Fi) (ba : Option Addr) (bn bc B : Nat) (w : World) (hS : StmtsAt w B ba bn f.body) :
    Calls Tryz.prog 103 #[.agg #[.int .i64 (f).root, .string ⟨(f).pkg.toArray⟩, .string ⟨(f).name.toArray⟩, .bool (f).init, .int .i64 (f).stamp, .slice ba bn bc]] w fun e w' => ∃ ra rc, e = .returned (.agg #[.int .i64 (f).root, .string ⟨(f).pkg.toArray⟩, .string ⟨(f).name.toArray⟩, .bool (f).init, .int .i64 (f).stamp, .slice ra bn rc]) ∧ w'.ownsRow w.heap.size 148 5 (.slice ra bn rc) bn (f.body.flatMap scells) ∧ X w w' := by
  go_enter Tryz.func103, Tryz.ntmps103
  go_wp2_with fail
  refine calls_name (fun W hW => ?_)
  obtain ⟨hT, hR, hX0⟩ := bx2 hW
  have hsz : W.heap.size = w.heap.size + 2 := by rw [hW]; simp
  clear hW
  refine (cloneBody_c f.body ba bn bc B W (hS.mono (hX0.fr _))).mono ?_
  rintro _ w3 ⟨ra, rc, rfl, hO, hX3⟩
  have hXw := hX0.trans hX3
  replace hR := hR.x hX3
  replace hT := hT.x hX3
  obtain ⟨hbR, hcR, hfR⟩ := hR.out
  obtain ⟨hbT, hcT, hfT⟩ := hT.out
  have r0 := hcR 0
  have r1 := hcR 1
  have r2 := hcR 2
  have r3 := hcR 3
  have r4 := hcR 4
  have r5 := hcR 5
  have t0 := hcT 0
  have t1 := hcT 1
  have t2 := hcT 2
  have t3 := hcT 3
  have t4 := hcT 4
  have t5 := hcT 5
  clear hcR hcT
  go_wp2
  refine bodyPost_row Tryz.results103 rfl (Bx.set (Bx.set (Bx.set (Bx.set (Bx.set (Bx.set (Bx.far hR (by simp) _) 0 _) 1 _) 2 _) 3 _) 4 _) 5 _) file_S2 rfl rfl ?_
  refine ⟨ra, rc, rfl, own_less (own_fr hO (by (repeat (first | with_reducible exact Fr.refl _ _ | with_reducible assumption | with_reducible refine Fr.set ?_ (.inr (by first | (simp; done) | (simp; omega))) _)))) (by omega), by (repeat (first | with_reducible exact X.refl _ | with_reducible assumption | with_reducible refine X.setCell ?_ (by first | (simp; done) | (simp; omega)) _ | with_reducible refine X.ext ?_ _ | with_reducible refine X.alloc ?_ _ | with_reducible refine X.drew ?_))⟩
set_option maxRecDepth 100000 in
set_option maxHeartbeats 1000000 in
theorem copyFile_c (f : Fi) (ba : Option Addr) (bn bc B : Nat) (w : World) (hS : StmtsAt w B ba bn f.body) :
    Calls Tryz.prog 96 #[.agg #[.int .i64 (f).root, .string ⟨(f).pkg.toArray⟩, .string ⟨(f).name.toArray⟩, .bool (f).init, .int .i64 (f).stamp, .slice ba bn bc]] w fun e w' => ∃ ra rc, e = .returned (.agg #[.int .i64 (f).root, .string ⟨(f).pkg.toArray⟩, .string ⟨(f).name.toArray⟩, .bool (f).init, .int .i64 (f).stamp, .slice ra bn rc]) ∧ w'.ownsRow w.heap.size 148 5 (.slice ra bn rc) bn (f.body.flatMap scells) ∧ X w w' := by
  have hn := hS.2.1
  have Hl := Lib.hid (show (f.body.flatMap scells).length = bn * 5 by rw [scells_len, hS.1])
  go_enter Tryz.func96, Tryz.ntmps96
  go_wp2_with (at_builtin; refine wpList_append_sl stmt_T' rfl _ _ rfl (own_lit (B := w.heap.size + 2) (n := 0) (size := 5) (by simp) (by simp) rfl (by omega)) rfl rfl (hS.mono (X.fr (by (repeat (first | with_reducible exact X.refl _ | with_reducible assumption | with_reducible refine X.setCell ?_ (by first | (simp; done) | (simp; omega)) _ | with_reducible refine X.ext ?_ _ | with_reducible refine X.alloc ?_ _ | with_reducible refine X.drew ?_))) B)).2.2.2 Hl.out (scells_one f.body) (by omega) (by unfold maxLen; omega) (by simp) ?_; intro a' c' w1 hO1 hg1; obtain ⟨hT, hR, hX1⟩ := bx2_of (X.of_litR hg1 (by simp [Value.ownBlock])); obtain ⟨hbT, hcT, hfT⟩ := hT.out; obtain ⟨hbR, hcR, hfR⟩ := hR.out; have r0 := hcR 0; have r1 := hcR 1; have r2 := hcR 2; have r3 := hcR 3; have r4 := hcR 4; have r5 := hcR 5; have t0 := hcT 0; have t1 := hcT 1; have t2 := hcT 2; have t3 := hcT 3; have t4 := hcT 4; have t5 := hcT 5; clear hcR hcT)
  refine bodyPost_row Tryz.results96 rfl (Bx.set (Bx.set (Bx.set (Bx.set (Bx.set (Bx.set (Bx.far hR (by simp) _) 0 _) 1 _) 2 _) 3 _) 4 _) 5 _) file_S2 rfl rfl ?_
  rw [List.nil_append, Nat.zero_add] at hO1
  refine ⟨a', c', rfl, ?_, by (repeat (first | with_reducible exact X.refl _ | with_reducible assumption | with_reducible refine X.setCell ?_ (by first | (simp; done) | (simp; omega)) _ | with_reducible refine X.ext ?_ _ | with_reducible refine X.alloc ?_ _ | with_reducible refine X.drew ?_))⟩
  exact own_less (own_fr hO1 (by (repeat (first | with_reducible exact Fr.refl _ _ | with_reducible assumption | with_reducible refine Fr.set ?_ (.inr (by first | (simp; done) | (simp; omega))) _)))) (by omega)

theorem at_x2' {w w' : World} {b : Nat} {o : Obj} (h : w.heap[b]? = some o) (hx : X w w') : w'.heap[b]? = some o := (hx.below.block b (Array.getElem?_eq_some_iff.1 h).1).trans h
theorem file_T' : AppT Tryz.prog 33 44 6 80 := AppT.of (z := .agg #[.int .i64 0, .string ⟨#[]⟩, .string ⟨#[]⟩, .bool false, .int .i64 0, .slice none 0 0]) (by kernel_rfl) (by kernel_rfl) rfl (by omega)
set_option maxRecDepth 100000 in
set_option maxHeartbeats 2000000 in
theorem cloneTree_c (l : List Fi) (a : Option Addr) (n c B : Nat) (w : World) (hF : FilesAt w B a n l) :
    Calls Tryz.prog 102 #[.agg #[.slice a n c]] w fun e w' => ∃ ra rc, e = .returned (.agg #[.slice ra n rc]) ∧ FilesO w' w.heap.size ra n rc l ∧ X w w' := by
  obtain ⟨hl, hn⟩ := hF.len
  have Hl := Lib.hid hl
  clear hl
  go_enter Tryz.func102, Tryz.ntmps102
  go_wp2
  refine wp_name (fun W0 hW0 => ?_)
  have hX0 : X w W0 := by rw [hW0]; (repeat (first | with_reducible exact X.refl _ | with_reducible assumption | with_reducible refine X.setCell ?_ (by first | (simp; done) | (simp; omega)) _ | with_reducible refine X.ext ?_ _ | with_reducible refine X.alloc ?_ _ | with_reducible refine X.drew ?_))
  have hBr : Bx W0 (w.heap.size + 1) #[.slice none 0 0] := by
    rw [hW0]
    exact ((bx2 (w := w) rfl).2.1).x (by (repeat (first | with_reducible exact X.refl _ | with_reducible assumption | with_reducible refine X.setCell ?_ (by first | (simp; done) | (simp; omega)) _ | with_reducible refine X.ext ?_ _ | with_reducible refine X.alloc ?_ _ | with_reducible refine X.drew ?_)))
  have hTb : W0.heap[w.heap.size + 3]? = some (.cells #[.slice (some ⟨w.heap.size + 2, 0, none⟩) 0 0] 35 (0, 0)) := by
    rw [hW0]
    have := heap_alloc_new (((w.alloc (.cells #[.slice a n c] 35)).alloc (.cells #[.slice none 0 0] 35)).alloc (.cells #[] 44)) (.cells #[.slice (some ⟨w.heap.size + 2, 0, none⟩) 0 0] 35)
    simpa using this
  have hrow0 : W0.ownsRow (w.heap.size + 2) 44 6 (.slice (some ⟨w.heap.size + 2, 0, none⟩) 0 0) 0 [] := by
    rw [hW0]
    exact own_fr (own_lit (w := (w.alloc (.cells #[.slice a n c] 35)).alloc (.cells #[.slice none 0 0] 35)) (cs := #[]) (e := 44) (B := w.heap.size + 2) (g := w.heap.size + 2) (size := 6) (n := 0) (by simp) (by simp) rfl (by omega)) (X.fr (by (repeat (first | with_reducible exact X.refl _ | with_reducible assumption | with_reducible refine X.setCell ?_ (by first | (simp; done) | (simp; omega)) _ | with_reducible refine X.ext ?_ _ | with_reducible refine X.alloc ?_ _ | with_reducible refine X.drew ?_))) _)
  clear hW0
  go_loopw [5, 11] (fun _ i wr => ∃ (k : Nat) (vs : List (Fi × Value)) (ra : Option Addr) (rc : Nat), k ≤ n ∧ i = .int .i64 k ∧ vs.map (·.1) = l.take k ∧ wr.ownsRow (w.heap.size + 2) 44 6 (.slice ra k rc) k (vs.flatMap fcells) ∧ Sep vs ∧
      (∀ x ∈ vs, ∃ ba bc, x.2 = .slice ba x.1.body.length bc ∧ wr.ownsRow (w.heap.size + 2) 148 5 (.slice ba x.1.body.length bc) x.1.body.length (x.1.body.flatMap scells)) ∧
      Bx wr (w.heap.size + 1) #[.slice none 0 0] ∧ wr.heap[w.heap.size + 3]? = some (.cells #[.slice ra k rc] 35 (0, 0)) ∧ X w wr) (fun _ i _ => n - (intOf i).toNat)
  case atStart => exact ⟨0, [], _, 0, Nat.zero_le _, rfl, rfl, hrow0, List.Pairwise.nil, (fun _ h => by cases h), hBr, hTb, hX0⟩
  case round =>
    obtain ⟨k, vs, ra, rc, hk, rfl, hvs, hrow, hsep, hbd, hBr, hTb, hX⟩ := hrel
    have Hv := Lib.hid (And.intro hvs (And.intro hsep hbd))
    clear hvs hsep hbd hX0 hrow0
    by_cases hlt : k < n
    · obtain ⟨b, off, ba, bn, bc, rfl, _, hb, hok, hbc, hSb, g0, g1, g2, g3, g4, g5⟩ := (hF.mono (hX.fr _)).at_ hlt
      have Hbn := Lib.hid hSb.1
      go_wp2
      refine wp_name (fun W4 hW4 => ?_)
      have hB4 : Bx W4 wr.heap.size #[.int .i64 (nth l k).root, .string ⟨((nth l k).pkg).toArray⟩, .string ⟨((nth l k).name).toArray⟩, .bool (nth l k).init, .int .i64 (nth l k).stamp, .slice ba bn bc] := by rw [hW4]; first | exact Bx.new _ _ _ | exact Bx.set (Bx.set (Bx.set (Bx.set (Bx.set (Bx.set (Bx.new _ _ _) 0 _) 1 _) 2 _) 3 _) 4 _) 5 _
      have hX4 : X wr W4 := by rw [hW4]; (repeat (first | with_reducible exact X.refl _ | with_reducible assumption | with_reducible refine X.setCell ?_ (by first | (simp; done) | (simp; omega)) _ | with_reducible refine X.ext ?_ _ | with_reducible refine X.alloc ?_ _ | with_reducible refine X.drew ?_))
      clear hW4
      obtain ⟨l4, c4, _⟩ := hB4.out
      have b0 := c4 0
      have b1 := c4 1
      have b2 := c4 2
      have b3 := c4 3
      have b4 := c4 4
      have b5 := c4 5
      clear c4
      have hTb4 := at_x2' hTb hX4
      obtain ⟨lt4, ct4, _⟩ := Bx.out ⟨_, hTb4⟩
      have d0 := ct4 0
      clear ct4
      go_region_law (first
        | (refine step_append_t file_T' rfl _ _ rfl (w := w3) (by (repeat (first | exact X.refl _ | assumption | refine X.ext ?_ _ | refine X.alloc ?_ _ | refine X.drew ?_))) hrow3 rfl rfl (heap_alloc_new w3 _) rfl (by simp [Value.oneCell']) (by omega) (by omega) (by omega) ?_; intro a' c' w' hrow' hg'; have hTb5 := at_grown hTb3 hg' (own_ne_at hrow3 hTb3 (by decide)); obtain ⟨lt5, ct5, ft5⟩ := Bx.out ⟨_, hTb5⟩)
        | (go_simp; go_at_call 103; refine (cloneFile_c (nth l k) ba bn bc B _ (hSb.mono (X.fr (hX4.trans (by (repeat (first | exact X.refl _ | assumption | refine X.ext ?_ _ | refine X.alloc ?_ _ | refine X.drew ?_)))) _))).mono ?_; rintro _ w3 ⟨rb, rcb, rfl, hO3, hx3⟩; have hX3 : X W4 w3 := X.trans (by (repeat (first | exact X.refl _ | assumption | refine X.ext ?_ _ | refine X.alloc ?_ _ | refine X.drew ?_))) hx3; have hTb3 := at_x2' hTb4 hX3; obtain ⟨lt3, ct3, _⟩ := Bx.out ⟨_, hTb3⟩; have d3 := ct3 0; clear ct3; have hrow3 := own_fr hrow (X.fr (hX4.trans hX3) _)))
      all_goals
        have hXw : X w w3 := (hX.trans hX4).trans hX3
        have hX5 : X w w' := X.of_below ((hXw.below).grown hg' hXw.size (fun g hg => by have := (hrow3.lt g hg).1; omega))
        have hBr5 := (hBr.x (hX4.trans hX3)).grown hg' (own_ge hrow3 (by omega))
        go_wp2
        go_roundw
        case rel => exact ⟨k + 1, vs ++ [(nth l k, .slice rb bn rcb)], a', c', by omega, by go_num, by rw [List.map_append, Hv.out.1, take_succ_nth (by rw [← Hl.out]; exact hlt)]; rfl, by
            rw [List.flatMap_append]
            exact own_set_far hrow' hTb5 (by decide) _ _, List.pairwise_append.2 ⟨Hv.out.2.1, List.pairwise_singleton _ _, fun x hx y hy => by
            rw [List.mem_singleton.1 hy]
            obtain ⟨ba', bc', e, ho⟩ := Hv.out.2.2 x hx
            rw [e]
            exact row_far (own_fr ho (hX4.fr _)) rfl hO3⟩, fun x hx => by
            rcases List.mem_append.1 hx with hx | hx
            · obtain ⟨ba', bc', e, ho⟩ := Hv.out.2.2 x hx
              have ho3 := own_fr ho (X.fr (hX4.trans hX3) _)
              exact ⟨ba', bc', e, own_set_far (ho3.kept hg' (row_ne ho3 hrow3 (by decide))) hTb5 (by decide) _ _⟩
            · rw [List.mem_singleton.1 hx]
              have ho3 := own_less hO3 (show w.heap.size + 2 ≤ _ by first | omega | (simp; omega))
              rw [Hbn.out] at ho3 ⊢
              exact ⟨rb, _, rfl, own_set_far (ho3.kept hg' (row_ne ho3 hrow3 (by decide))) hTb5 (by decide) _ _⟩, Bx.far hBr5 (by simp) _, by have := heap_setCell_same w' (w.heap.size + 3) 0 _ _ (.slice a' (k + 1) c') hTb5; simpa using this, X.setCell hX5 (by first | (simp; done) | (simp; omega)) _⟩
        case measure => simp [intOf]; omega
    · obtain rfl : k = n := by omega
      obtain ⟨lT, cT, _⟩ := Bx.out ⟨_, hTb⟩
      have d0 := cT 0
      obtain ⟨lR, cR, fR⟩ := hBr.out
      have r0 := cR 0
      clear cT cR
      go_wp2
      refine bodyPost_row Tryz.results102 rfl (Bx.set hBr 0 _) tree_S rfl rfl ?_
      have hFO : FilesO wr (w.heap.size + 2) ra k rc l := ⟨vs, by rw [Hv.out.1, List.take_of_length_le (by rw [← Hl.out]; omega)], Hl.out, hrow, Hv.out.2.1, Hv.out.2.2⟩
      exact ⟨ra, rc, rfl, (hFO.fr (by (repeat (first | with_reducible exact Fr.refl _ _ | with_reducible assumption | with_reducible refine Fr.set ?_ (.inr (by first | (simp; done) | (simp; omega))) _)))).less (by omega), by (repeat (first | with_reducible exact X.refl _ | with_reducible assumption | with_reducible refine X.setCell ?_ (by first | (simp; done) | (simp; omega)) _ | with_reducible refine X.ext ?_ _ | with_reducible refine X.alloc ?_ _ | with_reducible refine X.drew ?_))⟩

set_option maxRecDepth 100000 in
set_option maxHeartbeats 2000000 in
theorem copyTree_c (l : List Fi) (a : Option Addr) (n c B : Nat) (w : World) (hF : FilesAt w B a n l) :
    Calls Tryz.prog 95 #[.agg #[.slice a n c]] w fun e w' => ∃ ra rc, e = .returned (.agg #[.slice ra n rc]) ∧ FilesO w' w.heap.size ra n rc l ∧ X w w' := by
  obtain ⟨hl, hn⟩ := hF.len
  have Hl := Lib.hid hl
  clear hl
  go_enter Tryz.func95, Tryz.ntmps95
  go_wp2
  refine wp_name (fun W0 hW0 => ?_)
  have hX0 : X w W0 := by rw [hW0]; (repeat (first | with_reducible exact X.refl _ | with_reducible assumption | with_reducible refine X.setCell ?_ (by first | (simp; done) | (simp; omega)) _ | with_reducible refine X.ext ?_ _ | with_reducible refine X.alloc ?_ _ | with_reducible refine X.drew ?_))
  have hBp : Bx W0 w.heap.size #[.slice a n c] := by
    rw [hW0]
    exact ((bx2 (w := w) rfl).1).x (by (repeat (first | with_reducible exact X.refl _ | with_reducible assumption | with_reducible refine X.setCell ?_ (by first | (simp; done) | (simp; omega)) _ | with_reducible refine X.ext ?_ _ | with_reducible refine X.alloc ?_ _ | with_reducible refine X.drew ?_)))
  have hBr : Bx W0 (w.heap.size + 1) #[.slice none 0 0] := by
    rw [hW0]
    exact ((bx2 (w := w) rfl).2.1).x (by (repeat (first | with_reducible exact X.refl _ | with_reducible assumption | with_reducible refine X.setCell ?_ (by first | (simp; done) | (simp; omega)) _ | with_reducible refine X.ext ?_ _ | with_reducible refine X.alloc ?_ _ | with_reducible refine X.drew ?_)))
  have hTb : W0.heap[w.heap.size + 2]? = some (.cells #[.slice none 0 0] 35 (0, 0)) := by
    rw [hW0]
    have := heap_alloc_new ((w.alloc (.cells #[.slice a n c] 35)).alloc (.cells #[.slice none 0 0] 35)) (.cells #[.slice none 0 0] 35)
    simpa using this
  have hrow0 : W0.ownsRow (w.heap.size + 2) 44 6 (.slice none 0 0) 0 [] := ⟨rfl, .inl ⟨rfl, rfl⟩⟩
  clear hW0
  go_loopw [4] (fun i wr => ∃ (k : Nat) (vs : List (Fi × Value)) (ra : Option Addr) (rc : Nat), k ≤ n ∧ i = .int .i64 k ∧ vs.map (·.1) = l.take k ∧ wr.ownsRow (w.heap.size + 2) 44 6 (.slice ra k rc) k (vs.flatMap fcells) ∧ Sep vs ∧
      (∀ x ∈ vs, ∃ ba bc, x.2 = .slice ba x.1.body.length bc ∧ wr.ownsRow (w.heap.size + 2) 148 5 (.slice ba x.1.body.length bc) x.1.body.length (x.1.body.flatMap scells)) ∧
      Bx wr w.heap.size #[.slice a n c] ∧ Bx wr (w.heap.size + 1) #[.slice none 0 0] ∧ wr.heap[w.heap.size + 2]? = some (.cells #[.slice ra k rc] 35 (0, 0)) ∧ X w wr) (fun i _ => n - (intOf i).toNat)
  case atStart => exact ⟨0, [], _, 0, Nat.zero_le _, rfl, rfl, hrow0, List.Pairwise.nil, (fun _ h => by cases h), hBp, hBr, hTb, hX0⟩
  case round =>
    obtain ⟨k, vs, ra, rc, hk, rfl, hvs, hrow, hsep, hbd, hBp, hBr, hTb, hX⟩ := hrel
    have Hv := Lib.hid (And.intro hvs (And.intro hsep hbd))
    clear hvs hsep hbd hX0 hrow0
    by_cases hlt : k < n
    · obtain ⟨b, off, ba, bn, bc, rfl, _, hb, hok, hbc, hSb, g0, g1, g2, g3, g4, g5⟩ := (hF.mono (hX.fr _)).at_ hlt
      have Hbn := Lib.hid hSb.1
      obtain ⟨lp, cp, _⟩ := hBp.out
      have p0 := cp 0
      clear cp
      obtain ⟨lt4, ct4, _⟩ := Bx.out ⟨_, hTb⟩
      have d0 := ct4 0
      clear ct4
      go_wp2
      go_region_law (first
        | (refine step_append_t file_T' rfl _ _ rfl (w := w3) (by (repeat (first | exact X.refl _ | assumption | refine X.ext ?_ _ | refine X.alloc ?_ _ | refine X.drew ?_))) hrow3 rfl rfl (heap_alloc_new w3 _) rfl (by simp [Value.oneCell']) (by omega) (by omega) (by omega) ?_; intro a' c' w' hrow' hg'; have hTb5 := at_grown hTb3 hg' (own_ne_at hrow3 hTb3 (by decide)); obtain ⟨lt5, ct5, ft5⟩ := Bx.out ⟨_, hTb5⟩)
        | (go_simp; go_at_call 96; refine (copyFile_c (nth l k) ba bn bc B _ (hSb.mono (X.fr (by (repeat (first | exact X.refl _ | assumption | refine X.ext ?_ _ | refine X.alloc ?_ _ | refine X.drew ?_))) _))).mono ?_; rintro _ w3 ⟨rb, rcb, rfl, hO3, hx3⟩; have hX3 : X wr w3 := X.trans (by (repeat (first | exact X.refl _ | assumption | refine X.ext ?_ _ | refine X.alloc ?_ _ | refine X.drew ?_))) hx3; have hTb3 := at_x2' hTb hX3; obtain ⟨lt3, ct3, _⟩ := Bx.out ⟨_, hTb3⟩; have d3 := ct3 0; clear ct3; have hrow3 := own_fr hrow (X.fr hX3 _)))
      all_goals
        have hXw : X w w3 := hX.trans hX3
        have hX5 : X w w' := X.of_below ((hXw.below).grown hg' hXw.size (fun g hg => by have := (hrow3.lt g hg).1; omega))
        have hBp5 := (hBp.x hX3).grown hg' (own_ge hrow3 (by omega))
        have hBr5 := (hBr.x hX3).grown hg' (own_ge hrow3 (by omega))
        go_wp2
        go_roundw
        case rel => exact ⟨k + 1, vs ++ [(nth l k, .slice rb bn rcb)], a', c', by omega, by go_num, by rw [List.map_append, Hv.out.1, take_succ_nth (by rw [← Hl.out]; exact hlt)]; rfl, by
            rw [List.flatMap_append]
            exact own_set_far hrow' hTb5 (by decide) _ _, List.pairwise_append.2 ⟨Hv.out.2.1, List.pairwise_singleton _ _, fun x hx y hy => by
            rw [List.mem_singleton.1 hy]
            obtain ⟨ba', bc', e, ho⟩ := Hv.out.2.2 x hx
            rw [e]
            exact row_far (ho) rfl hO3⟩, fun x hx => by
            rcases List.mem_append.1 hx with hx | hx
            · obtain ⟨ba', bc', e, ho⟩ := Hv.out.2.2 x hx
              have ho3 := own_fr ho (X.fr hX3 _)
              exact ⟨ba', bc', e, own_set_far (ho3.kept hg' (row_ne ho3 hrow3 (by decide))) hTb5 (by decide) _ _⟩
            · rw [List.mem_singleton.1 hx]
              have ho3 := own_less hO3 (show w.heap.size + 2 ≤ _ by first | omega | (simp; omega))
              rw [Hbn.out] at ho3 ⊢
              exact ⟨rb, _, rfl, own_set_far (ho3.kept hg' (row_ne ho3 hrow3 (by decide))) hTb5 (by decide) _ _⟩, Bx.far hBp5 (by first | (simp; done) | (simp; omega)) _, Bx.far hBr5 (by simp) _, by have := heap_setCell_same w' (w.heap.size + 2) 0 _ _ (.slice a' (k + 1) c') hTb5; simpa using this, X.setCell hX5 (by first | (simp; done) | (simp; omega)) _⟩
        case measure => simp [intOf]; omega
    · obtain rfl : k = n := by omega
      obtain ⟨lp, cp, _⟩ := hBp.out
      have p0 := cp 0
      clear cp
      obtain ⟨lT, cT, _⟩ := Bx.out ⟨_, hTb⟩
      have d0 := cT 0
      obtain ⟨lR, cR, fR⟩ := hBr.out
      have r0 := cR 0
      clear cT cR
      go_wp2
      refine bodyPost_row Tryz.results95 rfl (Bx.set hBr 0 _) tree_S rfl rfl ?_
      have hFO : FilesO wr (w.heap.size + 2) ra k rc l := ⟨vs, by rw [Hv.out.1, List.take_of_length_le (by rw [← Hl.out]; omega)], Hl.out, hrow, Hv.out.2.1, Hv.out.2.2⟩
      exact ⟨ra, rc, rfl, (hFO.fr (by (repeat (first | with_reducible exact Fr.refl _ _ | with_reducible assumption | with_reducible refine Fr.set ?_ (.inr (by first | (simp; done) | (simp; omega))) _)))).less (by omega), by (repeat (first | with_reducible exact X.refl _ | with_reducible assumption | with_reducible refine X.setCell ?_ (by first | (simp; done) | (simp; omega)) _ | with_reducible refine X.ext ?_ _ | with_reducible refine X.alloc ?_ _ | with_reducible refine X.drew ?_))⟩

end Go.Proofs.YtgjfjjhmgbemcaaGreatDoor

namespace Go.Proofs.YtgjfjjhmgbemcaaGreatDoor
open Go.RowKit

end Go.Proofs.YtgjfjjhmgbemcaaGreatDoor

namespace Go.Proofs.YtgjfjjhmgbemcaaGreatDoor
open Go.RowKit

/-- Cells written one behind the other. -/
def setL : List Value → Nat → List Value → List Value
  | xs, _, [] => xs
  | xs, o, v :: r => setL (xs.set o v) (o + 1) r
theorem own_setCells {B e size n c g : Nat} : ∀ (vs : List Value) (o : Nat) (w : World) (xs : List Value), w.ownsRow B e size (.slice (some ⟨g, 0, none⟩) n c) n xs → (w.setCells g o vs).ownsRow B e size (.slice (some ⟨g, 0, none⟩) n c) n (setL xs o vs)
  | [], _, _, _, h => h
  | v :: r, o, w, xs, h => by
    rw [World.setCells, setL]
    exact own_setCells r (o + 1) _ _ (own_set h v)
theorem grown_setCells {g : Nat} {w0 : World} : ∀ (vs : List Value) (o : Nat) (w : World), w0.grownBy w (some g) → w0.grownBy (w.setCells g o vs) (some g)
  | [], _, _, h => h
  | v :: r, o, w, h => by
    rw [World.setCells]
    exact grown_setCells r (o + 1) _ (grown_next h o v)
theorem setL_mid : ∀ (vs A M R : List Value), M.length = vs.length → setL (A ++ (M ++ R)) A.length vs = A ++ (vs ++ R)
  | [], A, M, R, h => by
    have : M = [] := List.length_eq_zero_iff.1 h
    subst this; rfl
  | v :: vs, A, m :: M, R, h => by
    rw [setL]
    have h0 := set_off (A := A) (Z := (m :: M) ++ R) 0 v
    rw [Nat.add_zero] at h0
    rw [h0]
    have h1 := setL_mid vs (A ++ [v]) M R (by simpa using h)
    simp only [List.length_append, List.length_singleton, List.append_assoc, List.singleton_append] at h1
    simpa using h1
theorem setL_take : ∀ (vs : List Value) (o : Nat) (xs : List Value), (setL xs o vs).take o = xs.take o
  | [], _, _ => rfl
  | v :: r, o, xs => by
    rw [setL]
    have h := setL_take r (o + 1) (xs.set o v)
    have h2 := congrArg (List.take o) h
    rw [List.take_take, List.take_take, Nat.min_eq_left (by omega)] at h2
    rw [h2, List.take_set_of_le (by omega)]
theorem own_short {w : World} {B e size n c g m : Nat} {xs : List Value} (h : w.ownsRow B e size (.slice (some ⟨g, 0, none⟩) n c) n xs) (hm : m ≤ n) : w.ownsRow B e size (.slice (some ⟨g, 0, none⟩) m c) m (xs.take (m * size)) := by
  have hms : m * size ≤ n * size := Nat.mul_le_mul_right size hm
  obtain ⟨hl, h1 | ⟨g', cap, cur, hv, hB, hg, hn, hcap, hsz, hx⟩⟩ := h
  · injection h1.1 with h1; cases h1
  · injection hv with h1 _ h2
    injection h1 with h1
    injection h1 with h1
    subst h1 h2
    refine ⟨by rw [List.length_take, hl]; exact Nat.min_eq_left hms, .inr ⟨g, c, cur, rfl, hB, hg, Nat.le_trans hm hn, hcap, hsz, ?_⟩⟩
    rw [← hx, List.take_take, Nat.min_eq_left hms]
/-- A row without its element i, when the ones behind have been moved. -/
theorem moved {xs : List Value} {n i s : Nat} (hl : xs.length = n * s) (hi : i < n) : (setL xs (i * s) (xs.drop ((i + 1) * s))).take ((n - 1) * s) = xs.take (i * s) ++ xs.drop ((i + 1) * s) := by
  obtain ⟨m, rfl⟩ : ∃ m, n = i + 1 + m := ⟨n - (i + 1), by omega⟩
  have hA : (xs.take (i * s)).length = i * s := by rw [List.length_take, hl]; exact Nat.min_eq_left (Nat.mul_le_mul_right s (by omega))
  have hN : (xs.drop ((i + 1) * s)).length = m * s := by rw [List.length_drop, hl, Nat.add_mul (i + 1) m s]; omega
  have hD : (xs.drop (i * s)).length = s + m * s := by rw [List.length_drop, hl, Nat.add_mul (i + 1) m s, Nat.add_mul i 1 s]; omega
  have e : xs = xs.take (i * s) ++ ((xs.drop (i * s)).take (m * s) ++ (xs.drop (i * s)).drop (m * s)) := by rw [List.take_append_drop, List.take_append_drop]
  have h := setL_mid (xs.drop ((i + 1) * s)) (xs.take (i * s)) ((xs.drop (i * s)).take (m * s)) ((xs.drop (i * s)).drop (m * s)) (by rw [List.length_take, hD, hN]; omega)
  rw [← e, hA] at h
  rw [h, ← List.append_assoc]
  have hL : (xs.take (i * s) ++ xs.drop ((i + 1) * s)).length = (i + 1 + m - 1) * s := by
    rw [List.length_append, hA, hN, ← Nat.add_mul]
    congr 1
    omega
  rw [← hL, List.take_left]
theorem run_clear_one {P : Program} (w : World) (t e ty : TypeId) (z : Value) (ht : P.underlying t = some (.slice e)) (hv : ∀ w, (zeroValue e).run P w = .ok z w) (h1 : ∀ v ∈ z.cells.toList, v.oneCell' = true) (b o c : Nat)
    (hc : ∀ j, j < z.cells.toList.length → (w.cell? ⟨b, o + j, none⟩).isSome = true) (hf : ∀ j, j < z.cells.toList.length → w.frozen? ⟨b, o + j, none⟩ = false) :
    (Builtin.clear_ #[t] ty #[.slice (some ⟨b, o, none⟩) 1 c]).run P w = .ok (.tuple #[]) (w.setCells b o z.cells.toList) := by
  have hzc : (Builtin.zeroCells z.cells 1).toList = z.cells.toList := by
    apply List.ext_getElem
    · simp [Builtin.zeroCells]
    · intro i h1 h2
      have h3 : i < z.cells.size := by simpa using h2
      simp [Builtin.zeroCells, Nat.mod_eq_of_lt h3, getElem!_pos, h3]
  have hst := run_storeCells_cells (P := P) b o z.cells.toList 0 w (by simpa using hc) (by simpa using hf) h1
  simp only [Nat.add_zero] at hst
  simp [Builtin.clear_, run_underlying ht, hv, hzc, hst]

theorem zero_file (w : World) : (zeroValue 44).run Tryz.prog w = .ok (.agg #[.int .i64 0, .string ⟨#[]⟩, .string ⟨#[]⟩, .bool false, .int .i64 0, .slice none 0 0]) w := by kernel_rfl
def zcells : List Value := [.int .i64 0, .string ⟨#[]⟩, .string ⟨#[]⟩, .bool false, .int .i64 0, .slice none 0 0]
theorem row_one {n c g : Nat} {w : World} {B : Nat} {xs : List Value} (h : w.ownsRow B 44 6 (.slice (some ⟨g, 0, none⟩) n c) n xs) {j : Nat} (hj : j < n * 6) : (w.cell? ⟨g, j, none⟩).isSome = true ∧ w.frozen? ⟨g, j, none⟩ = false := by
  obtain ⟨u, hu⟩ := own_here h hj
  exact ⟨by rw [hu]; rfl, h.frozenAt j⟩
set_option maxRecDepth 100000 in
set_option maxHeartbeats 2000000 in
theorem Delete_c (xs : List Value) (g n c i B : Nat) (w : World) (h : w.ownsRow B 44 6 (.slice (some ⟨g, 0, none⟩) n c) n xs) (hx1 : ∀ u ∈ xs, u.oneCell' = true) (hi : i < n) (hn : n ≤ 2097152) (hnc : n ≤ c) :
    Calls Tryz.prog 113 #[.slice (some ⟨g, 0, none⟩) n c, .int .i64 (i : Int), .int .i64 ((i : Int) + 1)] w fun e w' => e = .returned (.slice (some ⟨g, 0, none⟩) (n - 1) c) ∧
      w'.ownsRow B 44 6 (.slice (some ⟨g, 0, none⟩) (n - 1) c) (n - 1) (xs.take (i * 6) ++ xs.drop ((i + 1) * 6)) ∧ w.grownBy w' (some g) := by
  have hl := h.1
  obtain ⟨i0, hi0, hz0, hz1, hz2⟩ := info_parts info_file
  obtain ⟨news, hnews⟩ : ∃ news, news = xs.drop ((i + 1) * 6) := ⟨_, rfl⟩
  have hlen : news.length = (n - (i + 1)) * 6 := by rw [hnews, List.length_drop, hl, Nat.sub_mul]
  obtain ⟨A, hA, hsrc0⟩ : ∃ A : Addr, (if c = i + 1 then some (⟨g, 0, none⟩ : Addr) else some ⟨g, (i + 1) * 6, none⟩) = some A ∧ ∀ t u, news[t]? = some u → w.drew.cell? (A.add t) = some u := by
    by_cases hc : c = i + 1
    · refine ⟨⟨g, 0, none⟩, by simp [hc], fun t u hu => ?_⟩
      have h0 : news.length = 0 := by rw [hlen]; omega
      rw [List.length_eq_zero_iff.1 h0] at hu
      simp at hu
    · refine ⟨⟨g, (i + 1) * 6, none⟩, by simp [hc], fun t u hu => ?_⟩
      have hadd : (⟨g, (i + 1) * 6, none⟩ : Addr).add t = ⟨g, (i + 1) * 6 + t, none⟩ := by unfold Addr.add; split <;> simp_all
      rw [hadd]
      show w.cell? _ = _
      rw [hnews, List.getElem?_drop] at hu
      exact row_cell h _ _ hu
  have hsrc := Lib.hid hsrc0
  clear hsrc0
  have s2 := Lib.hid (show ∀ u ∈ news, u.oneCell' = true from fun u hu => hx1 u (by rw [hnews] at hu; exact List.mem_of_mem_drop hu))
  have s3 := Lib.hid (show ∀ t, t < news.length → (w.drew.cell? ⟨g, 0 + i * 6 + t, none⟩).isSome = true ∧ w.drew.frozen? ⟨g, 0 + i * 6 + t, none⟩ = false from fun t ht => by
    rw [Nat.zero_add]
    exact row_one h (by rw [hlen] at ht; omega))
  obtain ⟨W1, hW1⟩ : ∃ W1, W1 = w.drew.setCells g (0 + i * 6) news := ⟨_, rfl⟩
  have hO1 : W1.ownsRow B 44 6 (.slice (some ⟨g, 0, none⟩) n c) n (setL xs (i * 6) news) := by
    rw [hW1, Nat.zero_add]
    exact own_setCells news (i * 6) _ xs h
  have hg1 : w.grownBy W1 (some g) := by
    rw [hW1]
    exact grown_setCells news _ _ ⟨rfl, rfl, rfl, Nat.le_refl _, fun _ _ _ => rfl⟩
  have hcl : ∀ ty cc, (Builtin.clear_ #[33] ty #[.slice (some ⟨g, (n - 1) * 6, none⟩) 1 cc]).run Tryz.prog W1 = .ok (.tuple #[]) (W1.setCells g ((n - 1) * 6) zcells) :=
    fun ty cc => run_clear_one W1 33 44 ty (.agg #[.int .i64 0, .string ⟨#[]⟩, .string ⟨#[]⟩, .bool false, .int .i64 0, .slice none 0 0]) Tryz.underlying33 zero_file (by simp [Value.cells, Value.oneCell']) g ((n - 1) * 6) cc
      (fun j hj => (row_one hO1 (by simp [Value.cells] at hj; omega)).1) (fun j hj => (row_one hO1 (by simp [Value.cells] at hj; omega)).2)
  have hmv := Lib.hid (show (setL xs (i * 6) news).take ((n - 1) * 6) = xs.take (i * 6) ++ xs.drop ((i + 1) * 6) by rw [hnews]; exact moved hl hi)
  have hW := Lib.hid hW1
  clear hW1 hnews
  have hic : i ≤ c := by omega
  have hjc : i + 1 ≤ c := by omega
  have hb0 : (0 : Int) ≤ (i : Int) + 1 := by omega
  have hb1 : (i : Int) + 1 ≤ (n : Int) := by omega
  go_enter Tryz.func113, Tryz.ntmps113
  go_wp2_with fail
  go_region_law (refine step_append_room rfl (.tmp 22) (.tmp 25) 33 rfl 44 i0 6 Tryz.underlying33 hi0 hz1 g 0 i c (by simp [Act.eval, Act.put]) A (n - (i + 1)) (c - (i + 1)) news (by simp [Act.eval, Act.put]) hlen hsrc.out s2.out (by omega) s3.out ?_; rw [← hW.out])
  rw [show i + (n - (i + 1)) = n - 1 by omega]
  have hm1 : n - 1 ≤ n := by omega
  have hm2 : n - 1 ≤ c := by omega
  have hm3 : ¬ c = n - 1 := by omega
  have hm4 : n - (n - 1) = 1 := by omega
  go_wp2
  go_ret
  refine ⟨rfl, ?_, grown_setCells zcells _ W1 hg1⟩
  have hO2 := own_short (own_setCells zcells ((n - 1) * 6) W1 _ hO1) hm1
  rw [setL_take, hmv.out] at hO2
  exact hO2

end Go.Proofs.YtgjfjjhmgbemcaaGreatDoor

namespace Go.Proofs.YtgjfjjhmgbemcaaGreatDoor
open Go.RowKit

def remB (l : List Fi) (i : Int) : Bool := treeB l && rangeB i 0 ((l.length : Int) - 1)
def remL (l : List Fi) (i : Int) : List Fi := if remB l i then l.eraseIdx i.toNat else []
theorem fcells_one {vs : List (Fi × Value)} (h : ∀ x ∈ vs, x.2.oneCell' = true) : ∀ u ∈ vs.flatMap fcells, u.oneCell' = true := by
  intro u hu
  obtain ⟨x, hx, hs⟩ := List.mem_flatMap.1 hu
  simp only [fcells, List.mem_cons, List.not_mem_nil, or_false] at hs
  rcases hs with rfl | rfl | rfl | rfl | rfl | rfl <;> first | rfl | exact h x hx
theorem erase_cells (vs : List (Fi × Value)) (i : Nat) : (vs.flatMap fcells).take (i * 6) ++ (vs.flatMap fcells).drop ((i + 1) * 6) = (vs.eraseIdx i).flatMap fcells := by
  have ht : ∀ (us : List (Fi × Value)) (k : Nat), (us.flatMap fcells).take (k * 6) = (us.take k).flatMap fcells := by
    intro us
    induction us with
    | nil => intro k; simp
    | cons u us ih =>
      intro k
      cases k with
      | zero => simp
      | succ k =>
        rw [List.flatMap_cons, List.take_succ_cons, List.flatMap_cons, Nat.succ_mul, ← ih k, List.take_append, fcells6, List.take_of_length_le (by rw [fcells6]; omega)]
        congr 2
  have hd : ∀ (us : List (Fi × Value)) (k : Nat), (us.flatMap fcells).drop (k * 6) = (us.drop k).flatMap fcells := by
    intro us
    induction us with
    | nil => intro k; simp
    | cons u us ih =>
      intro k
      cases k with
      | zero => simp
      | succ k =>
        rw [List.flatMap_cons, List.drop_succ_cons, Nat.succ_mul, ← ih k, List.drop_append, fcells6, List.drop_eq_nil_of_le (by rw [fcells6]; omega), List.nil_append]
        congr 1
  rw [ht, hd, ← List.flatMap_append, List.eraseIdx_eq_take_drop_succ]
theorem FilesO.nil (w : World) (B : Nat) : FilesO w B none 0 0 [] := ⟨[], rfl, rfl, ⟨rfl, .inl ⟨rfl, rfl⟩⟩, List.Pairwise.nil, fun _ h => by cases h⟩
/-- Bodies of files of the call's own. -/
def BodsO (w : World) (B : Nat) (vs : List (Fi × Value)) : Prop := ∀ x ∈ vs, ∃ ba bc, x.2 = .slice ba x.1.body.length bc ∧ w.ownsRow B 148 5 (.slice ba x.1.body.length bc) x.1.body.length (x.1.body.flatMap scells)
theorem BodsO.one {w : World} {B : Nat} {vs : List (Fi × Value)} (h : BodsO w B vs) : ∀ x ∈ vs, x.2.oneCell' = true := fun x hx => by
  obtain ⟨ba, bc, e, _⟩ := h x hx
  rw [e]; rfl
theorem BodsO.grown {w w' : World} {B g : Nat} {vs : List (Fi × Value)} {cs : Array Value} (h : BodsO w B vs) (hg : w.grownBy w' (some g)) (hb : w.heap[g]? = some (.cells cs 44 (0, 0))) : BodsO w' B vs := fun x hx =>
  BodyO.grown (h x hx) hg hb
theorem BodsO.fr {w w' : World} {B : Nat} {vs : List (Fi × Value)} (h : BodsO w B vs) (hx : Fr B w w') : BodsO w' B vs := fun x hm => let ⟨ba, bc, e, ho⟩ := h x hm; ⟨ba, bc, e, own_fr ho hx⟩
theorem BodsO.erase {w : World} {B : Nat} {vs : List (Fi × Value)} (h : BodsO w B vs) (i : Nat) : BodsO w B (vs.eraseIdx i) := fun x hx => h x (List.mem_of_mem_eraseIdx hx)
theorem map_erase (vs : List (Fi × Value)) (i : Nat) : (vs.eraseIdx i).map (·.1) = (vs.map (·.1)).eraseIdx i := by
  rw [List.eraseIdx_eq_take_drop_succ, List.eraseIdx_eq_take_drop_succ, List.map_append, List.map_take, List.map_drop]

set_option maxRecDepth 100000 in
set_option maxHeartbeats 2000000 in
theorem RemoveFile_i (l : List Fi) (a : Option Addr) (n c B : Nat) (i : Int) (w : World) (hF : FilesAt w B a n l) (hnc : n ≤ c) (hG : Gm w) :
    Calls Tryz.prog 57 #[.agg #[.slice a n c], .int .i64 i] w fun e w' => ∃ ra rc, e = .returned (.tuple #[.agg #[.slice ra (remL l i).length rc], .bool (remB l i)]) ∧ FilesO w' w.heap.size ra (remL l i).length rc (remL l i) ∧ X w w' := by
  obtain ⟨hl, hn⟩ := hF.len
  have q1 : IntKind.i64.wrap ((n : Int) - 1) = (n : Int) - 1 := IntWalk.i64_in _ (by omega)
  cases h1 : treeB l <;> cases h2 : rangeB i 0 ((n : Int) - 1)
  case true.true =>
    obtain ⟨k, rfl⟩ : ∃ k : Nat, i = (k : Int) := ⟨i.toNat, by have := (rangeB_iff.1 h2).1; omega⟩
    have hk : k < n := by have := (rangeB_iff.1 h2).2; omega
    have hrb : remB l (k : Int) = true := by rw [remB, h1, ← hl, h2]; rfl
    rw [show remL l (k : Int) = l.eraseIdx k by rw [remL, hrb]; rfl, hrb]
    have hel : (l.eraseIdx k).length = n - 1 := by rw [List.length_eraseIdx_of_lt (by omega)]; omega
    have Hel := Lib.hid hel
    have Hl := Lib.hid hl
    clear hl hrb hel
    go_enter Tryz.func57, Tryz.ntmps57
    go_wp2_with fail
    refine calls_name (fun W0 hW0 => ?_)
    obtain ⟨hT, hR, hX0⟩ := bx2 hW0
    clear hW0
    refine (ValidTree_c l a n c B W0 (hF.mono (hX0.fr _)) hnc (hG.mono hX0)).mono ?_
    rintro _ w1 ⟨rfl, hx1⟩
    rw [h1]
    obtain ⟨lt1, ct1, _⟩ := (hT.x hx1).out
    have t0 := ct1 0
    clear ct1
    go_wp2_with (go_at_call 80; refine (within_c (k : Int) 0 _ _).mono ?_; rintro _ _ ⟨rfl, rfl⟩; rw [h2])
    refine (cloneTree_c l a n c B w1 (hF.mono ((hX0.trans hx1).fr _))).mono ?_
    rintro _ w2 ⟨ra, rc, rfl, ⟨vs, hvs, hvn, hrow, hsep, hbd⟩, hx2⟩
    obtain ⟨g, rfl, hBg, hgl⟩ := own_form hrow (by omega)
    have hrc := own_cap hrow
    have hX2 := (hX0.trans hx1).trans hx2
    have Hv := Lib.hid (And.intro hvs (And.intro hvn hsep))
    have hvl : vs.length = n := by rw [hvn, hvs, List.length_map]
    have hel2 : (vs.eraseIdx k).length = n - 1 := by rw [List.length_eraseIdx_of_lt (by omega)]; omega
    have Hcl := Lib.hid (show ((vs.eraseIdx k).flatMap fcells).length = (n - 1) * 6 by rw [flat_length 6 fcells fcells6, hel2])
    have hs1 : w.heap.size ≤ w1.heap.size := (hX0.trans hx1).size
    clear hvs hvn hsep hvl hel2
    go_wp2_with fail
    refine calls_name (fun W3 hW3 => ?_)
    have hX3 : X w2 W3 := by rw [hW3]; (repeat (first | with_reducible exact X.refl _ | with_reducible assumption | with_reducible refine X.setCell ?_ (by first | (simp; done) | (simp; omega)) _ | with_reducible refine X.ext ?_ _ | with_reducible refine X.alloc ?_ _ | with_reducible refine X.drew ?_))
    have hTb3 : W3.heap[w2.heap.size]? = some (.cells #[.slice (some ⟨g, 0, none⟩) n rc] 35 (0, 0)) := by
      rw [hW3]
      exact at_x2' (heap_alloc_new w2 _) (by (repeat (first | with_reducible exact X.refl _ | with_reducible assumption | with_reducible refine X.setCell ?_ (by first | (simp; done) | (simp; omega)) _ | with_reducible refine X.ext ?_ _ | with_reducible refine X.alloc ?_ _ | with_reducible refine X.drew ?_)))
    have hL3 : W3.ownsRow w2.heap.size 44 6 (.slice (some ⟨w2.heap.size + 1, 0, none⟩) 0 0) 0 [] := by
      rw [hW3]
      exact own_lit (w := w2.alloc (.cells #[.slice (some ⟨g, 0, none⟩) n rc] 35)) (cs := #[]) (e := 44) (B := w2.heap.size) (g := w2.heap.size + 1) (size := 6) (n := 0) (by simp) (by simp) rfl (by omega)
    clear hW3
    have hO3 := own_fr hrow (hX3.fr _)
    have hb3 := BodsO.fr hbd (hX3.fr _)
    obtain ⟨cs3, hgb⟩ := own_block hO3
    refine (Delete_c _ g n rc k _ W3 hO3 (fcells_one (BodsO.one hbd)) hk hn hrc).mono ?_
    rintro _ w4 ⟨rfl, hO4, hg4⟩
    rw [erase_cells] at hO4
    have hTb4 := at_grown hTb3 hg4 (own_ne_at hO3 hTb3 (by decide))
    have hL4 := hL3.kept hg4 (.inr (by simp [Value.ownBlock]; omega))
    have hb4 := (hb3.grown hg4 hgb).erase k
    have hX4 : X w w4 := X.of_below (((hX2.trans hX3).below).grown hg4 (hX2.trans hX3).size (fun b hb => by injection hb with hb; omega))
    have hR4 : Bx w4 (w.heap.size + 1) #[.slice none 0 0] := (((hR.x hx1).x hx2).x hX3).grown hg4 (fun b hb => by injection hb with hb; have := hR.lt; have := hx1.size; omega)
    have hgs4 : w2.heap.size ≤ w4.heap.size := Nat.le_trans hX3.size hg4.size
    obtain ⟨lt4, ct4, ft4⟩ := Bx.out ⟨_, hTb4⟩
    have d0 := ct4 0
    clear ct4 hb3 hbd hrow hgb
    have hRw := hR.lt
    have hx1s := hx1.size
    have hx2s := hx2.size
    go_wp2_with (at_builtin; refine wpList_append_sl file_T' rfl _ _ rfl hL4 rfl rfl (Sl.of_own hO4) Hcl.out (fcells_one (BodsO.one hb4)) (by omega) (by unfold maxLen; omega) hgs4 ?_; intro a' c' w5 hO5 hg5; have hTb5 := at_grown hTb4 hg5 (own_ne_at hL4 hTb4 (by decide)); have hR5 := hR4.grown hg5 (own_ge hL4 (by omega)); obtain ⟨lt5, ct5, ft5⟩ := Bx.out ⟨_, hTb5⟩; obtain ⟨lr5, cr5, fr5⟩ := hR5.out; have r0 := cr5 0; have e0 := ct5 0; clear cr5 ct5)
    have hne : w.heap.size + 1 ≠ w2.heap.size := by omega
    have hRf := (Bx.set (Bx.far hR5 (p := ⟨w2.heap.size, 0, none⟩) hne (.slice a' (n - 1) c')) 0 (.slice a' (n - 1) c')).out.2.1 0
    refine bodyPost_ret (v := .tuple #[.agg #[.slice a' (n - 1) c'], .bool true]) (by simp [results, Tryz.results57, go_sem, hRf]) rfl ?_
    rw [List.nil_append, Nat.zero_add] at hO5
    obtain ⟨hvs, hvn, hsep⟩ := Hv.out
    obtain ⟨cs4, hlb⟩ := own_block hL4
    have hb5 := hb4.grown hg5 hlb
    have hO6 := own_fr (own_set_far hO5 hTb5 (by decide) 0 (.slice a' (n - 1) c')) (Fr.set (Fr.refl w2.heap.size _) (p := ⟨w.heap.size + 1, 0, none⟩) (.inr (by simp; omega)) (.slice a' (n - 1) c'))
    have hb6 : BodsO ((w5.setCell ⟨w2.heap.size, 0, none⟩ (.slice a' (n - 1) c')).setCell ⟨w.heap.size + 1, 0, none⟩ (.slice a' (n - 1) c')) w1.heap.size (vs.eraseIdx k) := fun x hx => by
      obtain ⟨ba, bc, e, ho⟩ := hb5 x hx
      exact ⟨ba, bc, e, own_fr (own_set_far ho hTb5 (by decide) 0 _) (Fr.set (Fr.refl w1.heap.size _) (p := ⟨w.heap.size + 1, 0, none⟩) (.inr (by simp; omega)) _)⟩
    have hX5 : X w w5 := X.of_below ((hX4.below).grown hg5 hX4.size (fun b hb => by have := (hL4.lt b hb).1; omega))
    refine ⟨a', c', by rw [Hel.out], ⟨vs.eraseIdx k, by rw [map_erase, ← hvs], rfl, ?_, List.Pairwise.sublist (List.eraseIdx_sublist vs k) hsep, fun x hx => ?_⟩, ?_⟩
    · rw [Hel.out]
      exact own_less hO6 (by omega)
    · obtain ⟨ba, bc, e, ho⟩ := hb6 x hx
      exact ⟨ba, bc, e, own_less ho (by omega)⟩
    · exact X.setCell (X.setCell hX5 (by simp; omega) _) (by simp) _
  all_goals
    have hrb : remB l i = false := by rw [remB, h1, ← hl, h2]; rfl
    rw [show remL l i = [] by rw [remL, hrb]; rfl, hrb]
    clear hl hrb
    go_enter Tryz.func57, Tryz.ntmps57
    go_wp2_with fail
    refine calls_name (fun W0 hW0 => ?_)
    obtain ⟨hT, hR, hX0⟩ := bx2 hW0
    clear hW0
    refine (ValidTree_c l a n c B W0 (hF.mono (hX0.fr _)) hnc (hG.mono hX0)).mono ?_
    rintro _ w1 ⟨rfl, hx1⟩
    rw [h1]
    obtain ⟨lt1, ct1, _⟩ := (hT.x hx1).out
    have t0 := ct1 0
    clear ct1
    obtain ⟨lr1, cr1, fr1⟩ := (hR.x hx1).out
    have r0 := cr1 0
    clear cr1
    go_wp2_with (go_at_call 80; refine (within_c i 0 _ _).mono ?_; rintro _ _ ⟨rfl, rfl⟩; rw [h2])
    have hRf := (Bx.set (hR.x hx1) 0 (.slice none 0 0)).out.2.1 0
    refine bodyPost_ret (v := .tuple #[.agg #[.slice none 0 0], .bool false]) (by simp [results, Tryz.results57, go_sem, hRf]) rfl ?_
    exact ⟨none, 0, rfl, FilesO.nil _ _, X.setCell (hX0.trans hx1) (by simp) _⟩

set_option maxRecDepth 100000 in
set_option maxHeartbeats 2000000 in
theorem RemoveFile_s (l : List Fi) (a : Option Addr) (n c B : Nat) (i : Int) (w : World) (hF : FilesAt w B a n l) :
    Calls Tryz.prog 56 #[.agg #[.slice a n c], .int .i64 i] w fun e w' => ∃ ra rc, e = .returned (.tuple #[.agg #[.slice ra (remL l i).length rc], .bool (remB l i)]) ∧ FilesO w' w.heap.size ra (remL l i).length rc (remL l i) ∧ X w w' := by
  obtain ⟨hl, hn⟩ := hF.len
  have q1 : IntKind.i64.wrap ((n : Int) - 1) = (n : Int) - 1 := IntWalk.i64_in _ (by omega)
  cases h1 : treeB l <;> cases h2 : rangeB i 0 ((n : Int) - 1)
  case true.true =>
    obtain ⟨k, rfl⟩ : ∃ k : Nat, i = (k : Int) := ⟨i.toNat, by have := (rangeB_iff.1 h2).1; omega⟩
    have hk : k < n := by have := (rangeB_iff.1 h2).2; omega
    have hrb : remB l (k : Int) = true := by rw [remB, h1, ← hl, h2]; rfl
    rw [show remL l (k : Int) = l.eraseIdx k by rw [remL, hrb]; rfl, hrb]
    have hel : (l.eraseIdx k).length = n - 1 := by rw [List.length_eraseIdx_of_lt (by omega)]; omega
    have Hel := Lib.hid hel
    have Hl := Lib.hid hl
    clear hl hrb hel
    go_enter Tryz.func56, Tryz.ntmps56
    go_wp2_with fail
    refine calls_name (fun W0 hW0 => ?_)
    obtain ⟨hT, hR, hX0⟩ := bx2 hW0
    clear hW0
    refine (validTree_c l a n c B W0 (hF.mono (hX0.fr _))).mono ?_
    rintro _ w1 ⟨rfl, hx1⟩
    rw [h1]
    obtain ⟨lt1, ct1, _⟩ := (hT.x hx1).out
    have t0 := ct1 0
    clear ct1
    go_wp2_with (go_at_call 40; refine (inRange_c (k : Int) 0 _ _).mono ?_; rintro _ _ ⟨rfl, rfl⟩; rw [h2])
    refine (copyTree_c l a n c B w1 (hF.mono ((hX0.trans hx1).fr _))).mono ?_
    rintro _ w2 ⟨ra, rc, rfl, ⟨vs, hvs, hvn, hrow, hsep, hbd⟩, hx2⟩
    obtain ⟨g, rfl, hBg, hgl⟩ := own_form hrow (by omega)
    have hrc := own_cap hrow
    have hX2 := (hX0.trans hx1).trans hx2
    have Hv := Lib.hid (And.intro hvs (And.intro hvn hsep))
    have hs1 : w.heap.size ≤ w1.heap.size := (hX0.trans hx1).size
    clear hvs hvn hsep
    go_wp2
    refine wp_name (fun W3 hW3 => ?_)
    have hX3 : X w2 W3 := by rw [hW3]; (repeat (first | with_reducible exact X.refl _ | with_reducible assumption | with_reducible refine X.setCell ?_ (by first | (simp; done) | (simp; omega)) _ | with_reducible refine X.ext ?_ _ | with_reducible refine X.alloc ?_ _ | with_reducible refine X.drew ?_))
    have hTb3 : W3.heap[w2.heap.size]? = some (.cells #[.slice (some ⟨g, 0, none⟩) n rc] 35 (0, 0)) := by
      rw [hW3]
      exact heap_alloc_new w2 _
    clear hW3
    have hO3 := own_fr hrow (hX3.fr _)
    have hb3 := BodsO.fr hbd (hX3.fr _)
    obtain ⟨cs3, hgb⟩ := own_block hO3
    have hl3 := hO3.1
    obtain ⟨i0, hi0, hz0, hz1, hz2⟩ := info_parts info_file
    obtain ⟨news, hnews⟩ : ∃ news, news = (vs.flatMap fcells).drop ((k + 1) * 6) := ⟨_, rfl⟩
    have hlen : news.length = (n - (k + 1)) * 6 := by rw [hnews, List.length_drop, hl3, Nat.sub_mul]
    obtain ⟨A, hA, hsrc0⟩ : ∃ A : Addr, (if rc = k + 1 then some (⟨g, 0, none⟩ : Addr) else some ⟨g, (k + 1) * 6, none⟩) = some A ∧ ∀ t u, news[t]? = some u → W3.drew.cell? (A.add t) = some u := by
      by_cases hc : rc = k + 1
      · refine ⟨⟨g, 0, none⟩, by simp [hc], fun t u hu => ?_⟩
        have h0 : news.length = 0 := by rw [hlen]; omega
        rw [List.length_eq_zero_iff.1 h0] at hu
        simp at hu
      · refine ⟨⟨g, (k + 1) * 6, none⟩, by simp [hc], fun t u hu => ?_⟩
        have hadd : (⟨g, (k + 1) * 6, none⟩ : Addr).add t = ⟨g, (k + 1) * 6 + t, none⟩ := by unfold Addr.add; split <;> simp_all
        rw [hadd]
        show W3.cell? _ = _
        rw [hnews, List.getElem?_drop] at hu
        exact row_cell hO3 _ _ hu
    have hsrc := Lib.hid hsrc0
    clear hsrc0
    have s2 := Lib.hid (show ∀ u ∈ news, u.oneCell' = true from fun u hu => fcells_one (BodsO.one hbd) u (by rw [hnews] at hu; exact List.mem_of_mem_drop hu))
    have s3 := Lib.hid (show ∀ t, t < news.length → (W3.drew.cell? ⟨g, 0 + k * 6 + t, none⟩).isSome = true ∧ W3.drew.frozen? ⟨g, 0 + k * 6 + t, none⟩ = false from fun t ht => by
      rw [Nat.zero_add]
      exact row_one hO3 (by rw [hlen] at ht; omega))
    obtain ⟨W4, hW4⟩ : ∃ W4, W4 = W3.drew.setCells g (0 + k * 6) news := ⟨_, rfl⟩
    have hg4 : W3.grownBy W4 (some g) := by
      rw [hW4]
      exact grown_setCells news _ _ ⟨rfl, rfl, rfl, Nat.le_refl _, fun _ _ _ => rfl⟩
    have hO4 : W4.ownsRow w1.heap.size 44 6 (.slice (some ⟨g, 0, none⟩) (n - 1) rc) (n - 1) ((vs.eraseIdx k).flatMap fcells) := by
      have h := own_setCells news (k * 6) W3.drew _ hO3
      rw [← Nat.zero_add (k * 6), ← hW4, Nat.zero_add] at h
      have h2 := own_short h (show n - 1 ≤ n by omega)
      rw [hnews, moved hl3 hk, erase_cells] at h2
      exact h2
    have hb4 := (hb3.grown hg4 hgb).erase k
    have hX4 : X w W4 := X.of_below (((hX2.trans hX3).below).grown hg4 (hX2.trans hX3).size (fun b hb => by injection hb with hb; omega))
    have hTb4 := at_grown hTb3 hg4 (own_ne_at hO3 hTb3 (by decide))
    have hR4 : Bx W4 (w.heap.size + 1) #[.slice none 0 0] := (((hR.x hx1).x hx2).x hX3).grown hg4 (fun b hb => by injection hb with hb; have := hR.lt; have := hx1.size; omega)
    have hRw := hR.lt
    have hx1s := hx1.size
    have hx2s := hx2.size
    have hW := Lib.hid hW4
    clear hW4 hnews hbd hrow
    obtain ⟨lt3, ct3, ft3⟩ := Bx.out ⟨_, hTb3⟩
    have d3 := ct3 0
    obtain ⟨lt4, ct4, ft4⟩ := Bx.out ⟨_, hTb4⟩
    have d4 := ct4 0
    obtain ⟨lr4, cr4, fr4⟩ := hR4.out
    have r4 := cr4 0
    clear ct3 ct4 cr4
    have hic : k ≤ rc := by omega
    have hjc : k + 1 ≤ rc := by omega
    have hb0 : (0 : Int) ≤ (k : Int) + 1 := by omega
    have hb1 : (k : Int) + 1 ≤ (n : Int) := by omega
    have hne : w.heap.size + 1 ≠ w2.heap.size := by omega
    have q2 : IntKind.i64.wrap ((k : Int) + 1) = (k : Int) + 1 := IntWalk.i64_in _ (by omega)
    have q3 : ((k : Int) + 1).toNat = k + 1 := by omega
    go_region_law (refine step_append_room rfl (.tmp 25) (.tmp 30) 33 rfl 44 i0 6 Tryz.underlying33 hi0 hz1 g 0 k rc (by simp [Act.eval, Act.put]) A (n - (k + 1)) (rc - (k + 1)) news (by simp [Act.eval, Act.put]) hlen hsrc.out s2.out (by omega) s3.out ?_; rw [← hW.out])
    all_goals
      rw [show k + (n - (k + 1)) = n - 1 by omega]
      go_wp2
      have hRf := (Bx.set (Bx.far hR4 (p := ⟨w2.heap.size, 0, none⟩) hne (.slice (some ⟨g, 0, none⟩) (n - 1) rc)) 0 (.slice (some ⟨g, 0, none⟩) (n - 1) rc)).out.2.1 0
      refine bodyPost_ret (v := .tuple #[.agg #[.slice (some ⟨g, 0, none⟩) (n - 1) rc], .bool true]) (by simp [results, Tryz.results56, go_sem, hRf]) rfl ?_
      obtain ⟨hvs, hvn, hsep⟩ := Hv.out
      have hO6 := own_fr (own_set_far hO4 hTb4 (by decide) 0 (.slice (some ⟨g, 0, none⟩) (n - 1) rc)) (Fr.set (Fr.refl w1.heap.size _) (p := ⟨w.heap.size + 1, 0, none⟩) (.inr (by simp; omega)) (.slice (some ⟨g, 0, none⟩) (n - 1) rc))
      have hb6 : BodsO ((W4.setCell ⟨w2.heap.size, 0, none⟩ (.slice (some ⟨g, 0, none⟩) (n - 1) rc)).setCell ⟨w.heap.size + 1, 0, none⟩ (.slice (some ⟨g, 0, none⟩) (n - 1) rc)) w1.heap.size (vs.eraseIdx k) := fun x hx => by
        obtain ⟨ba, bc, e, ho⟩ := hb4 x hx
        exact ⟨ba, bc, e, own_fr (own_set_far ho hTb4 (by decide) 0 _) (Fr.set (Fr.refl w1.heap.size _) (p := ⟨w.heap.size + 1, 0, none⟩) (.inr (by simp; omega)) _)⟩
      refine ⟨some ⟨g, 0, none⟩, rc, by rw [Hel.out], ⟨vs.eraseIdx k, by rw [map_erase, ← hvs], rfl, ?_, List.Pairwise.sublist (List.eraseIdx_sublist vs k) hsep, fun x hx => ?_⟩, ?_⟩
      · rw [Hel.out]
        exact own_less hO6 (by omega)
      · obtain ⟨ba, bc, e, ho⟩ := hb6 x hx
        exact ⟨ba, bc, e, own_less ho (by omega)⟩
      · exact X.setCell (X.setCell hX4 (by simp; omega) _) (by simp) _
  all_goals
    have hrb : remB l i = false := by rw [remB, h1, ← hl, h2]; rfl
    rw [show remL l i = [] by rw [remL, hrb]; rfl, hrb]
    clear hl hrb
    go_enter Tryz.func56, Tryz.ntmps56
    go_wp2_with fail
    refine calls_name (fun W0 hW0 => ?_)
    obtain ⟨hT, hR, hX0⟩ := bx2 hW0
    clear hW0
    refine (validTree_c l a n c B W0 (hF.mono (hX0.fr _))).mono ?_
    rintro _ w1 ⟨rfl, hx1⟩
    rw [h1]
    obtain ⟨lt1, ct1, _⟩ := (hT.x hx1).out
    have t0 := ct1 0
    clear ct1
    obtain ⟨lr1, cr1, fr1⟩ := (hR.x hx1).out
    have r0 := cr1 0
    clear cr1
    go_wp2_with (go_at_call 40; refine (inRange_c i 0 _ _).mono ?_; rintro _ _ ⟨rfl, rfl⟩; rw [h2])
    have hRf := (Bx.set (hR.x hx1) 0 (.slice none 0 0)).out.2.1 0
    refine bodyPost_ret (v := .tuple #[.agg #[.slice none 0 0], .bool false]) (by simp [results, Tryz.results56, go_sem, hRf]) rfl ?_
    exact ⟨none, 0, rfl, FilesO.nil _ _, X.setCell (hX0.trans hx1) (by simp) _⟩

end Go.Proofs.YtgjfjjhmgbemcaaGreatDoor
