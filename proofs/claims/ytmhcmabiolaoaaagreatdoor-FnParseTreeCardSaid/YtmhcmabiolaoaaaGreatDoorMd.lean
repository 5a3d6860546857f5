/- Several texts in one: Clone, Held, Delete, Remove, EditSet, ParO. No condition but lengths. -/
import Derived.Test.YtmhcmabiolaoaaaGreatDoorMb
import Derived.Test.YtmhcmabiolaoaaaGreatDoorMa
import Derived.Deep.AppendLies
import Derived.Deep.RegionLaw
import Derived.Lib.SliceRun
import Derived.IntWalk
namespace Go.Proofs.YtmhcmabiolaoaaaGreatDoor
open Go.RowKit

theorem run_append_none_c {P : Program} {w : World} (base : Nat) (t ty e : TypeId) (i : TypeInfo) (size : Nat) (ht : P.underlying t = some (.slice e)) (hi : P.info? e = some i)
    (v : Value) (n c : Nat) (xs : List Value) (hown : w.ownsRow base e size v n xs) :
    (Builtin.append_ #[t, t] ty #[v, .slice none 0 c]).run P w = .ok v w := by
  rcases hown.2 with ⟨rfl, rfl⟩ | ⟨g, cap, cur, rfl, _, _, hnc, _⟩
  · simp [Builtin.append_, run_underlying ht, sizeOf, typeInfo, hi, Builtin.lenOf, Builtin.firstCells]
  · simp [Builtin.append_, run_underlying ht, sizeOf, typeInfo, hi, Builtin.lenOf, Builtin.firstCells, hnc, storeCells]
theorem wpList_append_none_c {P : Program} {w : World} {ops : Array Oper} {rest : List Oper} {o : Oper} {a : Act} {Q : Exit → Act → World → Prop} (hgd : o.guard = none) (s x : Operand) (t : TypeId)
    (ho : o.op = .call { callee := .builtin .append, args := #[s, x], argTypes := #[t, t] })
    (base : Nat) (e : TypeId) (i : TypeInfo) (size : Nat) (ht : P.underlying t = some (.slice e)) (hi : P.info? e = some i)
    (v : Value) (n c : Nat) (xs : List Value) (hs : a.eval s = v) (hown : w.ownsRow base e size v n xs) (hx : a.eval x = .slice none 0 c)
    (h : wpList P ops Q rest (a.put o.dst v) w) : wpList P ops Q (o :: rest) a w := by
  refine wpList_plain hgd fun K hK => ?_
  have hrun := run_append_none_c (P := P) (w := w) base t o.type e i size ht hi v n c xs hown
  unfold Oper.wp
  simp [execOp, ho, resolve, invoke, builtin, hs, hx, hrun, Result.andThen]
  exact hK _ _ h
/-- append of a whole slice, wherever it lies. -/
theorem wpList_append_sl {P : Program} {ops : Array Oper} {rest : List Oper} {o : Oper} {a : Act} {Q : Exit → Act → World → Prop} {t e size bytes : Nat} (hT : AppT P t e size bytes) (hgd : o.guard = none) (s x : Operand)
    (ho : o.op = .call { callee := .builtin .append, args := #[s, x], argTypes := #[t, t] }) {w : World} {B B' : Nat} {v : Value} {n : Nat} {xs : List Value}
    (hown : w.ownsRow B e size v n xs) (hs : a.eval s = v) {sa : Option Addr} {m c : Nat} {news : List Value} (hx : a.eval x = .slice sa m c) (hsl : Sl w B' sa m news) (hl : news.length = m * size) (h1 : ∀ u ∈ news, u.oneCell' = true)
    (hb : (n + m) * bytes ≤ 140737488355328) (hn : n + m ≤ maxLen) (hBw : B ≤ w.heap.size)
    (h : ∀ a' c' w', w'.ownsRow B e size (.slice a' (n + m) c') (n + m) (xs ++ news) → w.grownBy w' v.ownBlock → wpList P ops Q rest (a.put o.dst (.slice a' (n + m) c')) w') :
    wpList P ops Q (o :: rest) a w := by
  obtain ⟨i, z, hi, hz, hsize, hby, hzs⟩ := hT.hi
  cases sa with
  | none =>
    have hm : m = 0 := by
      rcases Nat.eq_zero_or_pos m with h0 | h0
      · exact h0
      · obtain ⟨b, off, ha, _⟩ := hsl h0; cases ha
    subst hm
    have hnil : news = [] := by rw [Nat.zero_mul] at hl; exact List.length_eq_zero_iff.1 hl
    subst hnil
    obtain ⟨a', c', rfl⟩ := own_slice hown
    exact wpList_append_none_c hgd s x t ho B e i size hT.ht hi _ n c xs hs hown hx (h a' c' w (by simpa using hown) (World.grownBy.refl _ _))
  | some ad =>
    refine wpList_append_own _ hgd s x t ho B e i z size bytes hT.ht hi hz hsize hby hzs hT.hsz v n xs hs hown ad m c news hx hl (fun j u hu => ?_) h1 hn hb hBw ?_
    · have hj : j < news.length := (List.getElem?_eq_some_iff.1 hu).1
      have hm : 0 < m := by
        rcases Nat.eq_zero_or_pos m with h0 | h0
        · subst h0; omega
        · exact h0
      obtain ⟨b, off, ha, _, hb, hc⟩ := hsl hm
      injection ha with ha
      subst ha
      have hadd : (⟨b, off, none⟩ : Addr).add j = ⟨b, off + j, none⟩ := by unfold Addr.add; split <;> simp_all
      rw [hadd, hc j hj, ← hu, List.getElem?_eq_getElem hj]
    · intro v' w' hown' hgr _
      obtain ⟨a', c', rfl⟩ := own_slice hown'
      exact h a' c' w' hown' hgr
theorem X.of_lit {w w1 : World} {o : Obj} (hg : (w.alloc o).grownBy w1 (some w.heap.size)) : X w w1 :=
  X.of_below ((X.below ((X.refl w).alloc o)).grown hg (by simp) (fun k hk => by injection hk with hk; omega))
theorem X.of_litR {w w1 : World} {o : Obj} {row : Option Nat} (hg : (w.alloc o).grownBy w1 row) (hr : row = some w.heap.size) : X w w1 := by
  subst hr; exact X.of_lit hg
theorem bx2_of {w W : World} {c1 c2 : Array Value} {t1 t2 : TypeId} (h : X ((w.alloc (.cells c1 t1)).alloc (.cells c2 t2)) W) : Bx W w.heap.size c1 ∧ Bx W (w.heap.size + 1) c2 ∧ X w W := by
  obtain ⟨h1, h2, h3⟩ := bx2 (W := (w.alloc (.cells c1 t1)).alloc (.cells c2 t2)) rfl
  exact ⟨h1.x h, h2.x h, h3.trans h⟩
theorem scells_one (l : List St) : ∀ u ∈ l.flatMap scells, u.oneCell' = true := by
  intro u hu
  obtain ⟨s, _, hs⟩ := List.mem_flatMap.1 hu
  simp only [scells, List.mem_cons, List.not_mem_nil, or_false] at hs
  rcases hs with rfl | rfl | rfl | rfl | rfl <;> rfl
theorem scells_len (l : List St) : (l.flatMap scells).length = l.length * 5 := flat_length 5 scells (fun _ => rfl) l
theorem stmt_T' : AppT Tryz.prog 34 53 5 56 := AppT.of (z := .agg #[.int .i64 0, .string ⟨#[]⟩, .int .i64 0, .string ⟨#[]⟩, .int .i64 0]) (by kernel_rfl) (by kernel_rfl) rfl (by omega)

theorem file_S2 : StrT Tryz.prog 36 6 := ⟨⟨_, Tryz.underlying36⟩, by kernel_rfl⟩
theorem at_x2' {w w' : World} {b : Nat} {o : Obj} (h : w.heap[b]? = some o) (hx : X w w') : w'.heap[b]? = some o := (hx.below.block b (Array.getElem?_eq_some_iff.1 h).1).trans h
theorem file_T' : AppT Tryz.prog 22 36 6 80 := AppT.of (z := .agg #[.int .i64 0, .string ⟨#[]⟩, .string ⟨#[]⟩, .bool false, .int .i64 0, .slice none 0 0]) (by kernel_rfl) (by kernel_rfl) rfl (by omega)
end Go.Proofs.YtmhcmabiolaoaaaGreatDoor

namespace Go.Proofs.YtmhcmabiolaoaaaGreatDoor
open Go.RowKit

theorem stsM_at {w : World} {B n k j : Nat} {a : Option Addr} (h : Sl w B a n ((stsM k n).flatMap scells)) (hj : j < n) :
    ∃ b off, a = some ⟨b, off, none⟩ ∧ b < w.heap.size ∧ w.cell? ⟨b, off + j * 5, none⟩ = some (.int .i64 ((k + 5 * j : Nat) : Int)) ∧ w.cell? ⟨b, off + j * 5 + 1, none⟩ = some (.string ⟨(mtxt (k + 5 * j + 1)).toArray⟩) ∧
      w.cell? ⟨b, off + j * 5 + 2, none⟩ = some (.int .i64 ((k + 5 * j + 2 : Nat) : Int)) ∧ w.cell? ⟨b, off + j * 5 + 3, none⟩ = some (.string ⟨(mtxt (k + 5 * j + 3)).toArray⟩) ∧ w.cell? ⟨b, off + j * 5 + 4, none⟩ = some (.int .i64 ((k + 5 * j + 4 : Nat) : Int)) := by
  obtain ⟨b, off, ha, _, hb, hc⟩ := h.elem (s := 5) (fun _ => rfl) stsM_len.symm hj
  rw [stsM_nth hj] at hc
  exact ⟨b, off, ha, hb, hc 0 (by omega), hc 1 (by omega), hc 2 (by omega), hc 3 (by omega), hc 4 (by omega)⟩

set_option maxRecDepth 100000 in
set_option maxHeartbeats 2000000 in
theorem heldStmtS_c (a : Option Addr) (n c B k : Nat) (w : World) (hS : Sl w B a n ((stsM k n).flatMap scells)) (hn : n ≤ 1073741824) (hk : k ≤ 1073741824) :
    Calls Tryz.prog 47 #[.slice a n c, .int .i64 (k : Int)] w fun e w' => e = .returned (.int .i64 ((k + 5 * n : Nat) : Int)) ∧ X w w' := by
  go_enter Tryz.func47, Tryz.ntmps47
  go_wp2
  go_loopw [1, 5] (fun v i wr => ∃ (j q : Nat) (x : Xt), j ≤ n ∧ i = .int .i64 j ∧ v = .int .i64 (q : Int) ∧ q = k + 5 * j ∧ wr = World.ext w x) (fun _ i _ => n - (intOf i).toNat)
  case atStart => exact ⟨0, k, _, Nat.zero_le _, rfl, rfl, rfl, (World.ext_refl w).symm⟩
  case round =>
    obtain ⟨j, q, x, hj, rfl, rfl, hq, rfl⟩ := hrel
    by_cases hlt : j < n
    · obtain ⟨b, off, rfl, hb, g0, g1, g2, g3, g4⟩ := stsM_at hS hlt
      rw [← hq] at g0 g1 g2 g3 g4
      have hqb : q ≤ 6442450944 := by omega
      have Hq := Lib.hid hq
      clear hq
      have e2 : ((q + 2 : Nat) : Int) = (q : Int) + 1 + 1 := by omega
      have e4 : ((q + 4 : Nat) : Int) = (q : Int) + 1 + 1 + 1 + 1 := by omega
      rw [e2] at g2
      rw [e4] at g4
      clear e2 e4
      go_wp2
      refine wp_region_grow (by kernel_rfl) (by kernel_rfl) ?_
      repeat (go_big_quiet_step (((go_at_call 45; refine grow_of (markText_v (q + 1) _ _ (by omega) (by omega))))))
      refine wpQuiet_nil ?_
      rintro _ ⟨y, rfl⟩
      go_wp2
      refine wp_region_grow (by kernel_rfl) (by kernel_rfl) ?_
      repeat (go_big_quiet_step (((go_at_call 45; refine grow_of (markText_v (q + 3) _ _ (by omega) (by omega))))))
      refine wpQuiet_nil ?_
      rintro _ ⟨y, rfl⟩
      go_wp2
      go_roundw
      case rel => exact ⟨j + 1, q + 5, _, by omega, by go_num, by go_num, by have := Hq.out; omega, rfl⟩
      case measure => simp [intOf]; omega
    · obtain rfl : j = n := by omega
      go_wp2
      go_ret
      exact ⟨ret_intW (by omega), by (repeat (first | exact X.refl _ | assumption | refine X.ext ?_ _ | refine X.alloc ?_ _ | refine X.drew ?_))⟩

theorem heldStmtS_v (a : Option Addr) (n c B k : Nat) (v : Int) (w : World) (hv : v = (k : Int)) (hS : Sl w B a n ((stsM k n).flatMap scells)) (hn : n ≤ 1073741824) (hk : k ≤ 1073741824) :
    Calls Tryz.prog 47 #[.slice a n c, .int .i64 v] w fun e w' => e = .returned (.int .i64 ((k + 5 * n : Nat) : Int)) ∧ X w w' := by
  subst hv
  exact heldStmtS_c a n c B k w hS hn hk
theorem marks_at {w : World} {B n c k j : Nat} {a : Option Addr} {l : List Fi} (h : FilesO w B a n c (marksF k l)) (hj : j < n) :
    ∃ b off ba bc, a = some ⟨b, off, none⟩ ∧ b < w.heap.size ∧ Sl w B ba (nth l j).body.length ((stsM (k + wtF (l.take j) + 5) (nth l j).body.length).flatMap scells) ∧
      w.cell? ⟨b, off + j * 6, none⟩ = some (.int .i64 ((k + wtF (l.take j) : Nat) : Int)) ∧ w.cell? ⟨b, off + j * 6 + 1, none⟩ = some (.string ⟨(mtxt (k + wtF (l.take j) + 1)).toArray⟩) ∧ w.cell? ⟨b, off + j * 6 + 2, none⟩ = some (.string ⟨(mtxt (k + wtF (l.take j) + 2)).toArray⟩) ∧
      w.cell? ⟨b, off + j * 6 + 3, none⟩ = some (.bool (decide ((k + wtF (l.take j) + 3) % 3 = 0))) ∧ w.cell? ⟨b, off + j * 6 + 4, none⟩ = some (.int .i64 ((k + wtF (l.take j) + 4 : Nat) : Int)) ∧ w.cell? ⟨b, off + j * 6 + 5, none⟩ = some (.slice ba (nth l j).body.length bc) := by
  obtain ⟨vs, e, h1, h2, _, h3⟩ := h
  have hvl : vs.length = n := by rw [h1, e, List.length_map]
  have hll : n = l.length := by rw [h1, marksF_len]
  obtain ⟨b, off, ha, _, hb, hc⟩ := (Sl.of_own h2).elem (s := 6) (fun _ => rfl) hvl.symm hj
  obtain ⟨ba, bc, e2, ho⟩ := h3 _ (nth_mem (l := vs) (k := j) (by omega))
  have hf : (nth vs j).1 = fiM (k + wtF (l.take j)) (nth l j) := by rw [← nth_map_fst (by omega), ← e, marksF_nth l k j (by omega)]
  have hbl : (nth vs j).1.body.length = (nth l j).body.length := by rw [hf]; exact stsM_len
  rw [hbl] at e2 ho
  have hbo : (nth vs j).1.body = stsM (k + wtF (l.take j) + 5) (nth l j).body.length := by rw [hf]; rfl
  rw [hbo] at ho
  have c0 := hc 0 (by omega)
  have c1 := hc 1 (by omega)
  have c2 := hc 2 (by omega)
  have c3 := hc 3 (by omega)
  have c4 := hc 4 (by omega)
  have c5 := hc 5 (by omega)
  simp only [fcells, hf, fiM, e2, List.getElem_cons_zero, List.getElem_cons_succ] at c0 c1 c2 c3 c4 c5
  exact ⟨b, off, ba, bc, ha, hb, Sl.of_own ho, c0, c1, c2, c3, c4, c5⟩

set_option maxRecDepth 100000 in
set_option maxHeartbeats 2000000 in
theorem heldFileS_c (l : List Fi) (a : Option Addr) (n c B k : Nat) (w : World) (hF : FilesO w B a n c (marksF k l)) (hn : n ≤ 2097152) (hk : k + wtF l ≤ 1073741824) :
    Calls Tryz.prog 23 #[.slice a n c, .int .i64 (k : Int)] w fun e w' => e = .returned (.int .i64 ((k + wtF l : Nat) : Int)) ∧ X w w' := by
  have hnl : n = l.length := by obtain ⟨_, _, h1, _⟩ := hF; rw [h1, marksF_len]
  have Hw := Lib.hid (fun j h => @wtF_next l j h)
  have Ht := Lib.hid (wtF_take l)
  have Hnl := Lib.hid hnl
  clear hnl
  go_enter Tryz.func23, Tryz.ntmps23
  go_wp2
  go_loopw [1, 5] (fun v i wr => ∃ (j q : Nat), j ≤ n ∧ i = .int .i64 j ∧ v = .int .i64 (q : Int) ∧ q = k + wtF (l.take j) ∧ X w wr) (fun _ i _ => n - (intOf i).toNat)
  case atStart => exact ⟨0, k, Nat.zero_le _, rfl, rfl, by simp [wtF], X.refl _⟩
  case round =>
    obtain ⟨j, q, hj, rfl, rfl, hq, hX⟩ := hrel
    by_cases hlt : j < n
    · obtain ⟨b, off, ba, bc, rfl, hb, hSb, g0, g1, g2, g3, g4, g5⟩ := marks_at (hF.fr (hX.fr _)) hlt
      rw [← hq] at g0 g1 g2 g3 g4 hSb
      have hqn : q + (5 + 5 * (nth l j).body.length) ≤ 1073741824 := by
        have h1 := Hw.out j (by rw [← Hnl.out]; exact hlt)
        have h2 := Ht.out (j + 1)
        omega
      have Hq := Lib.hid hq
      clear hq
      have e4 : ((q + 4 : Nat) : Int) = (q : Int) + 1 + 1 + 1 + 1 := by omega
      have e3 : decide ((q + 3) % 3 = 0) = (((q : Int) + 1 + 1 + 1) % 3 == 0) := by rw [Bool.eq_iff_iff]; simp; omega
      rw [e3] at g3
      rw [e4] at g4
      clear e3 e4
      obtain ⟨x0, hx0⟩ : ∃ x, wr = World.ext wr x := ⟨_, (World.ext_refl wr).symm⟩
      clear hx0 x0
      go_wp2
      refine wp_region_grow0 (by kernel_rfl) (by kernel_rfl) ?_
      repeat (go_big_quiet_step (((go_at_call 45; refine grow_of (markText_v (q + 1) _ _ (by omega) (by omega))))))
      refine wpQuiet_nil ?_
      rintro _ ⟨y, rfl⟩
      go_wp2
      refine wp_region_grow (by kernel_rfl) (by kernel_rfl) ?_
      repeat (go_big_quiet_step (((go_at_call 45; refine grow_of (markText_v (q + 2) _ _ (by omega) (by omega))))))
      refine wpQuiet_nil ?_
      rintro _ ⟨y, rfl⟩
      go_wp2_with fail
      refine calls_name (fun W5 hW5 => ?_)
      have hX5 : X wr W5 := by rw [hW5]; (repeat (first | exact X.refl _ | assumption | refine X.ext ?_ _ | refine X.alloc ?_ _ | refine X.drew ?_))
      clear hW5
      refine (heldStmtS_v ba _ bc B (q + 5) _ W5 (by omega) (hSb.mono (hX5.fr _)) (by omega) (by omega)).mono ?_
      rintro _ w6 ⟨rfl, hx6⟩
      go_wp2
      go_roundw
      case rel => exact ⟨j + 1, q + 5 + 5 * (nth l j).body.length, by omega, by go_num, by go_num, by have := Hq.out; rw [Hw.out j (by rw [← Hnl.out]; exact hlt)]; omega, (hX.trans hX5).trans hx6⟩
      case measure => simp [intOf]; omega
    · obtain rfl : j = n := by omega
      have hqe : q = k + wtF l := by rw [hq, List.take_of_length_le (by rw [← Hnl.out]; omega)]
      have Hqe := Lib.hid hqe
      clear hqe hq
      go_wp2
      go_ret
      exact ⟨ret_intW (a := (q : Int)) (by have := Hqe.out; omega), hX⟩
set_option maxRecDepth 100000 in
set_option maxHeartbeats 1000000 in
theorem heldTree_c (l : List Fi) (a : Option Addr) (n c B k : Nat) (w : World) (hF : FilesO w B a n c (marksF k l)) (hn : n ≤ 2097152) (hk : k + wtF l ≤ 1073741824) :
    Calls Tryz.prog 10 #[.agg #[.slice a n c], .int .i64 (k : Int)] w fun e w' => e = .returned (.int .i64 ((k + wtF l : Nat) : Int)) ∧ X w w' := by
  go_enter Tryz.func10, Tryz.ntmps10
  go_wp2_with fail
  refine calls_name (fun W hW => ?_)
  have hX0 : X w W := by rw [hW]; (repeat (first | with_reducible exact X.refl _ | with_reducible assumption | with_reducible refine X.setCell ?_ (by first | (simp; done) | (simp; omega)) _ | with_reducible refine X.ext ?_ _ | with_reducible refine X.alloc ?_ _ | with_reducible refine X.drew ?_))
  clear hW
  refine (heldFileS_c l a n c B k W (hF.fr (hX0.fr _)) hn hk).mono ?_
  rintro _ w2 ⟨rfl, hx2⟩
  go_wp2
  go_ret
  exact ⟨rfl, hX0.trans hx2⟩

end Go.Proofs.YtmhcmabiolaoaaaGreatDoor

namespace Go.Proofs.YtmhcmabiolaoaaaGreatDoor
open Go.RowKit

/-- Cells written one behind the other. -/
def setL : List Value → Nat → List Value → List Value
  | xs, _, [] => xs
  | xs, o, v :: r => setL (xs.set o v) (o + 1) r
theorem own_setCells {B e size n c g : Nat} : ∀ (vs : List Value) (o : Nat) (w : World) (xs : List Value), w.ownsRow B e size (.slice (some ⟨g, 0, none⟩) n c) n xs → (w.setCells g o vs).ownsRow B e size (.slice (some ⟨g, 0, none⟩) n c) n (setL xs o vs)
  | [], _, _, _, h => h
  | v :: r, o, w, xs, h => by
    rw [World.setCells, setL]
    exact own_setCells r (o + 1) _ _ (own_set h v)
theorem grown_setCells {g : Nat} {w0 : World} : ∀ (vs : List Value) (o : Nat) (w : World), w0.grownBy w (some g) → w0.grownBy (w.setCells g o vs) (some g)
  | [], _, _, h => h
  | v :: r, o, w, h => by
    rw [World.setCells]
    exact grown_setCells r (o + 1) _ (grown_next h o v)
theorem setL_mid : ∀ (vs A M R : List Value), M.length = vs.length → setL (A ++ (M ++ R)) A.length vs = A ++ (vs ++ R)
  | [], A, M, R, h => by
    have : M = [] := List.length_eq_zero_iff.1 h
    subst this; rfl
  | v :: vs, A, m :: M, R, h => by
    rw [setL]
    have h0 := set_off (A := A) (Z := (m :: M) ++ R) 0 v
    rw [Nat.add_zero] at h0
    rw [h0]
    have h1 := setL_mid vs (A ++ [v]) M R (by simpa using h)
    simp only [List.length_append, List.length_singleton, List.append_assoc, List.singleton_append] at h1
    simpa using h1
theorem setL_take : ∀ (vs : List Value) (o : Nat) (xs : List Value), (setL xs o vs).take o = xs.take o
  | [], _, _ => rfl
  | v :: r, o, xs => by
    rw [setL]
    have h := setL_take r (o + 1) (xs.set o v)
    have h2 := congrArg (List.take o) h
    rw [List.take_take, List.take_take, Nat.min_eq_left (by omega)] at h2
    rw [h2, List.take_set_of_le (by omega)]
theorem own_short {w : World} {B e size n c g m : Nat} {xs : List Value} (h : w.ownsRow B e size (.slice (some ⟨g, 0, none⟩) n c) n xs) (hm : m ≤ n) : w.ownsRow B e size (.slice (some ⟨g, 0, none⟩) m c) m (xs.take (m * size)) := by
  have hms : m * size ≤ n * size := Nat.mul_le_mul_right size hm
  obtain ⟨hl, h1 | ⟨g', cap, cur, hv, hB, hg, hn, hcap, hsz, hx⟩⟩ := h
  · injection h1.1 with h1; cases h1
  · injection hv with h1 _ h2
    injection h1 with h1
    injection h1 with h1
    subst h1 h2
    refine ⟨by rw [List.length_take, hl]; exact Nat.min_eq_left hms, .inr ⟨g, c, cur, rfl, hB, hg, Nat.le_trans hm hn, hcap, hsz, ?_⟩⟩
    rw [← hx, List.take_take, Nat.min_eq_left hms]
/-- A row without its element i, when the ones behind have been moved. -/
theorem moved {xs : List Value} {n i s : Nat} (hl : xs.length = n * s) (hi : i < n) : (setL xs (i * s) (xs.drop ((i + 1) * s))).take ((n - 1) * s) = xs.take (i * s) ++ xs.drop ((i + 1) * s) := by
  obtain ⟨m, rfl⟩ : ∃ m, n = i + 1 + m := ⟨n - (i + 1), by omega⟩
  have hA : (xs.take (i * s)).length = i * s := by rw [List.length_take, hl]; exact Nat.min_eq_left (Nat.mul_le_mul_right s (by omega))
  have hN : (xs.drop ((i + 1) * s)).length = m * s := by rw [List.length_drop, hl, Nat.add_mul (i + 1) m s]; omega
  have hD : (xs.drop (i * s)).length = s + m * s := by rw [List.length_drop, hl, Nat.add_mul (i + 1) m s, Nat.add_mul i 1 s]; omega
  have e : xs = xs.take (i * s) ++ ((xs.drop (i * s)).take (m * s) ++ (xs.drop (i * s)).drop (m * s)) := by rw [List.take_append_drop, List.take_append_drop]
  have h := setL_mid (xs.drop ((i + 1) * s)) (xs.take (i * s)) ((xs.drop (i * s)).take (m * s)) ((xs.drop (i * s)).drop (m * s)) (by rw [List.length_take, hD, hN]; omega)
  rw [← e, hA] at h
  rw [h, ← List.append_assoc]
  have hL : (xs.take (i * s) ++ xs.drop ((i + 1) * s)).length = (i + 1 + m - 1) * s := by
    rw [List.length_append, hA, hN, ← Nat.add_mul]
    congr 1
    omega
  rw [← hL, List.take_left]
theorem run_clear_one {P : Program} (w : World) (t e ty : TypeId) (z : Value) (ht : P.underlying t = some (.slice e)) (hv : ∀ w, (zeroValue e).run P w = .ok z w) (h1 : ∀ v ∈ z.cells.toList, v.oneCell' = true) (b o c : Nat)
    (hc : ∀ j, j < z.cells.toList.length → (w.cell? ⟨b, o + j, none⟩).isSome = true) (hf : ∀ j, j < z.cells.toList.length → w.frozen? ⟨b, o + j, none⟩ = false) :
    (Builtin.clear_ #[t] ty #[.slice (some ⟨b, o, none⟩) 1 c]).run P w = .ok (.tuple #[]) (w.setCells b o z.cells.toList) := by
  have hzc : (Builtin.zeroCells z.cells 1).toList = z.cells.toList := by
    apply List.ext_getElem
    · simp [Builtin.zeroCells]
    · intro i h1 h2
      have h3 : i < z.cells.size := by simpa using h2
      simp [Builtin.zeroCells, Nat.mod_eq_of_lt h3, getElem!_pos, h3]
  have hst := run_storeCells_cells (P := P) b o z.cells.toList 0 w (by simpa using hc) (by simpa using hf) h1
  simp only [Nat.add_zero] at hst
  simp [Builtin.clear_, run_underlying ht, hv, hzc, hst]

theorem zero_file (w : World) : (zeroValue 36).run Tryz.prog w = .ok (.agg #[.int .i64 0, .string ⟨#[]⟩, .string ⟨#[]⟩, .bool false, .int .i64 0, .slice none 0 0]) w := by kernel_rfl
def zcells : List Value := [.int .i64 0, .string ⟨#[]⟩, .string ⟨#[]⟩, .bool false, .int .i64 0, .slice none 0 0]
theorem row_one {n c g : Nat} {w : World} {B : Nat} {xs : List Value} (h : w.ownsRow B 36 6 (.slice (some ⟨g, 0, none⟩) n c) n xs) {j : Nat} (hj : j < n * 6) : (w.cell? ⟨g, j, none⟩).isSome = true ∧ w.frozen? ⟨g, j, none⟩ = false := by
  obtain ⟨u, hu⟩ := own_here h hj
  exact ⟨by rw [hu]; rfl, h.frozenAt j⟩
end Go.Proofs.YtmhcmabiolaoaaaGreatDoor

namespace Go.Proofs.YtmhcmabiolaoaaaGreatDoor
open Go.RowKit

def remB (l : List Fi) (i : Int) : Bool := treeB l && rangeB i 0 ((l.length : Int) - 1)
def remL (l : List Fi) (i : Int) : List Fi := if remB l i then l.eraseIdx i.toNat else []
theorem fcells_one {vs : List (Fi × Value)} (h : ∀ x ∈ vs, x.2.oneCell' = true) : ∀ u ∈ vs.flatMap fcells, u.oneCell' = true := by
  intro u hu
  obtain ⟨x, hx, hs⟩ := List.mem_flatMap.1 hu
  simp only [fcells, List.mem_cons, List.not_mem_nil, or_false] at hs
  rcases hs with rfl | rfl | rfl | rfl | rfl | rfl <;> first | rfl | exact h x hx
theorem erase_cells (vs : List (Fi × Value)) (i : Nat) : (vs.flatMap fcells).take (i * 6) ++ (vs.flatMap fcells).drop ((i + 1) * 6) = (vs.eraseIdx i).flatMap fcells := by
  have ht : ∀ (us : List (Fi × Value)) (k : Nat), (us.flatMap fcells).take (k * 6) = (us.take k).flatMap fcells := by
    intro us
    induction us with
    | nil => intro k; simp
    | cons u us ih =>
      intro k
      cases k with
      | zero => simp
      | succ k =>
        rw [List.flatMap_cons, List.take_succ_cons, List.flatMap_cons, Nat.succ_mul, ← ih k, List.take_append, fcells6, List.take_of_length_le (by rw [fcells6]; omega)]
        congr 2
  have hd : ∀ (us : List (Fi × Value)) (k : Nat), (us.flatMap fcells).drop (k * 6) = (us.drop k).flatMap fcells := by
    intro us
    induction us with
    | nil => intro k; simp
    | cons u us ih =>
      intro k
      cases k with
      | zero => simp
      | succ k =>
        rw [List.flatMap_cons, List.drop_succ_cons, Nat.succ_mul, ← ih k, List.drop_append, fcells6, List.drop_eq_nil_of_le (by rw [fcells6]; omega), List.nil_append]
        congr 1
  rw [ht, hd, ← List.flatMap_append, List.eraseIdx_eq_take_drop_succ]
theorem FilesO.nil (w : World) (B : Nat) : FilesO w B none 0 0 [] := ⟨[], rfl, rfl, ⟨rfl, .inl ⟨rfl, rfl⟩⟩, List.Pairwise.nil, fun _ h => by cases h⟩
/-- Bodies of files of the call's own. -/
def BodsO (w : World) (B : Nat) (vs : List (Fi × Value)) : Prop := ∀ x ∈ vs, ∃ ba bc, x.2 = .slice ba x.1.body.length bc ∧ w.ownsRow B 53 5 (.slice ba x.1.body.length bc) x.1.body.length (x.1.body.flatMap scells)
theorem BodsO.one {w : World} {B : Nat} {vs : List (Fi × Value)} (h : BodsO w B vs) : ∀ x ∈ vs, x.2.oneCell' = true := fun x hx => by
  obtain ⟨ba, bc, e, _⟩ := h x hx
  rw [e]; rfl
theorem BodsO.grown {w w' : World} {B g : Nat} {vs : List (Fi × Value)} {cs : Array Value} (h : BodsO w B vs) (hg : w.grownBy w' (some g)) (hb : w.heap[g]? = some (.cells cs 36 (0, 0))) : BodsO w' B vs := fun x hx =>
  BodyO.grown (h x hx) hg hb
theorem BodsO.fr {w w' : World} {B : Nat} {vs : List (Fi × Value)} (h : BodsO w B vs) (hx : Fr B w w') : BodsO w' B vs := fun x hm => let ⟨ba, bc, e, ho⟩ := h x hm; ⟨ba, bc, e, own_fr ho hx⟩
theorem BodsO.erase {w : World} {B : Nat} {vs : List (Fi × Value)} (h : BodsO w B vs) (i : Nat) : BodsO w B (vs.eraseIdx i) := fun x hx => h x (List.mem_of_mem_eraseIdx hx)
theorem map_erase (vs : List (Fi × Value)) (i : Nat) : (vs.eraseIdx i).map (·.1) = (vs.map (·.1)).eraseIdx i := by
  rw [List.eraseIdx_eq_take_drop_succ, List.eraseIdx_eq_take_drop_succ, List.map_append, List.map_take, List.map_drop]

end Go.Proofs.YtmhcmabiolaoaaaGreatDoor

namespace Go.Proofs.YtmhcmabiolaoaaaGreatDoor
open Go.RowKit

theorem fcells_6 (x : Fi × Value) : (fcells x).length = 6 := rfl
theorem flat_set : ∀ {vs : List (Fi × Value)} {k j : Nat} {u : Value} {y : Fi × Value} (hk : k < vs.length), j < 6 → fcells y = (fcells vs[k]).set j u → (vs.flatMap fcells).set (k * 6 + j) u = (vs.set k y).flatMap fcells
  | [], k, j, u, y, hk, _, _ => absurd hk (by simp)
  | x :: vs, 0, j, u, y, hk, hj, h => by
    rw [List.flatMap_cons, List.set_cons_zero, List.flatMap_cons, List.set_append_left _ _ (by rw [fcells_6]; omega)]
    rw [h, Nat.zero_mul, Nat.zero_add]
    rfl
  | x :: vs, k + 1, j, u, y, hk, hj, h => by
    rw [List.flatMap_cons, List.set_cons_succ, List.flatMap_cons, List.set_append_right _ _ (by rw [fcells_6]; omega)]
    congr 1
    rw [fcells_6, show (k + 1) * 6 + j - 6 = k * 6 + j by omega]
    exact flat_set (by simpa using hk) hj (by simpa using h)
theorem pair_set {α : Type} {R : α → α → Prop} : ∀ {l : List α} {k : Nat} {y : α}, l.Pairwise R → (∀ x ∈ l, R x y ∧ R y x) → (l.set k y).Pairwise R
  | [], k, y, _, _ => by simp
  | x :: l, 0, y, h, hy => by
    rw [List.set_cons_zero, List.pairwise_cons]
    rw [List.pairwise_cons] at h
    exact ⟨fun z hz => (hy z (List.mem_cons_of_mem _ hz)).2, h.2⟩
  | x :: l, k + 1, y, h, hy => by
    rw [List.set_cons_succ, List.pairwise_cons]
    rw [List.pairwise_cons] at h
    refine ⟨fun z hz => ?_, pair_set h.2 fun z hz => hy z (List.mem_cons_of_mem _ hz)⟩
    rcases List.mem_or_eq_of_mem_set hz with hz | rfl
    · exact h.1 z hz
    · exact (hy x (List.mem_cons_self ..)).1
theorem sep_same : ∀ {vs : List (Fi × Value)} {k : Nat} {y : Fi × Value} (hk : k < vs.length), y.2 = vs[k].2 → Sep vs → Sep (vs.set k y)
  | [], k, y, hk, _, _ => absurd hk (by simp)
  | x :: vs, 0, y, hk, h, hs => by
    unfold Sep at hs ⊢
    rw [List.set_cons_zero, List.pairwise_cons]
    rw [List.pairwise_cons] at hs
    refine ⟨fun z hz => ?_, hs.2⟩
    have h2 : y.2 = x.2 := h
    rw [h2]
    exact hs.1 z hz
  | x :: vs, k + 1, y, hk, h, hs => by
    unfold Sep at hs ⊢
    rw [List.set_cons_succ, List.pairwise_cons]
    rw [List.pairwise_cons] at hs
    refine ⟨fun z hz => ?_, sep_same (by simpa using hk) (by simpa using h) hs.2⟩
    rcases List.mem_or_eq_of_mem_set hz with hz | rfl
    · exact hs.1 z hz
    · have hk2 : k < vs.length := by simpa using hk
      have := hs.1 vs[k] (List.getElem_mem _)
      have h2 : z.2 = vs[k].2 := by simpa using h
      rw [h2]
      exact this
theorem map_set_fst {vs : List (Fi × Value)} {k : Nat} {y : Fi × Value} : (vs.set k y).map (·.1) = (vs.map (·.1)).set k y.1 := List.map_set ..
theorem nth_fst {vs : List (Fi × Value)} {k : Nat} (hk : k < vs.length) : nth (vs.map (·.1)) k = vs[k].1 := by
  rw [nth_eq (by rw [List.length_map]; exact hk), List.getElem_map]
/-- The stamp is stored. -/
theorem filesO_stamp {w : World} {B g n c k : Nat} {st : Int} {l : List Fi} (h : FilesO w B (some ⟨g, 0, none⟩) n c l) (hk : k < n) :
    FilesO (w.setCell ⟨g, k * 6 + 4, none⟩ (.int .i64 st)) B (some ⟨g, 0, none⟩) n c (l.set k { nth l k with stamp := st }) := by
  obtain ⟨vs, e, h1, h2, hs, h3⟩ := h
  have hkv : k < vs.length := by rw [h1, e, List.length_map] at hk; exact hk
  obtain ⟨cs, hb⟩ := own_block h2
  refine ⟨vs.set k ({ vs[k].1 with stamp := st }, vs[k].2), ?_, by rw [List.length_set]; exact h1, ?_, sep_same hkv rfl hs, fun x hx => ?_⟩
  · rw [map_set_fst, ← e]
    congr 2
    rw [e, nth_fst hkv]
  · rw [← flat_set hkv (show 4 < 6 by omega) (u := .int .i64 st) rfl]
    exact own_set h2 _
  · have key : ∃ ba bc, x.2 = .slice ba x.1.body.length bc ∧ w.ownsRow B 53 5 (.slice ba x.1.body.length bc) x.1.body.length (x.1.body.flatMap scells) := by
      rcases List.mem_or_eq_of_mem_set hx with hx | rfl
      · exact h3 x hx
      · exact h3 vs[k] (List.getElem_mem _)
    obtain ⟨ba, bc, e1, ho⟩ := key
    exact ⟨ba, bc, e1, own_set_far ho hb (by decide) _ _⟩
/-- The body is stored: its row is one of the call's own, made later than the table. -/
theorem filesO_body {w w' : World} {B g n c k rc : Nat} {rb : Option Addr} {l : List Fi} {b : List St} (h : FilesO w B (some ⟨g, 0, none⟩) n c l) (hk : k < n) (hx : X w w') (hO : w'.ownsRow w.heap.size 53 5 (.slice rb b.length rc) b.length (b.flatMap scells)) (hB : B ≤ w.heap.size) :
    FilesO (w'.setCell ⟨g, k * 6 + 5, none⟩ (.slice rb b.length rc)) B (some ⟨g, 0, none⟩) n c (l.set k { nth l k with body := b }) := by
  obtain ⟨vs, e, h1, h2, hs, h3⟩ := h
  have hkv : k < vs.length := by rw [h1, e, List.length_map] at hk; exact hk
  have h2' := own_fr h2 (hx.fr _)
  obtain ⟨cs, hb⟩ := own_block h2'
  refine ⟨vs.set k ({ vs[k].1 with body := b }, .slice rb b.length rc), ?_, by rw [List.length_set]; exact h1, ?_, ?_, fun x hxm => ?_⟩
  · rw [map_set_fst, ← e]
    congr 2
    rw [e, nth_fst hkv]
  · rw [← flat_set hkv (show 5 < 6 by omega) (u := .slice rb b.length rc) rfl]
    exact own_set h2' _
  · refine pair_set hs fun x hxm => ?_
    obtain ⟨ba, bc, e1, ho⟩ := h3 x hxm
    have := row_far ho rfl hO
    rw [e1]
    rcases this with h | h | h
    · exact ⟨.inl h, .inr (.inl h)⟩
    · exact ⟨.inr (.inl h), .inl h⟩
    · exact ⟨.inr (.inr h), .inr (.inr fun e => h e.symm)⟩
  · rcases List.mem_or_eq_of_mem_set hxm with hxm | rfl
    · obtain ⟨ba, bc, e1, ho⟩ := h3 x hxm
      exact ⟨ba, bc, e1, own_set_far (own_fr ho (hx.fr _)) hb (by decide) _ _⟩
    · exact ⟨rb, rc, rfl, own_set_far (own_less hO hB) hb (by decide) _ _⟩
end Go.Proofs.YtmhcmabiolaoaaaGreatDoor

namespace Go.Proofs.YtmhcmabiolaoaaaGreatDoor
open Go.RowKit

theorem pair_set2 {α : Type} {R : α → α → Prop} {l : List α} {k : Nat} {y : α} (h : l.Pairwise R) (hlt : ∀ (i : Nat) (hi : i < l.length), i < k → R l[i] y) (hgt : ∀ (i : Nat) (hi : i < l.length), k < i → R y l[i]) : (l.set k y).Pairwise R := by
  rw [List.pairwise_iff_getElem] at h ⊢
  intro i j hi hj hij
  rw [List.length_set] at hi hj
  rw [List.getElem_set, List.getElem_set]
  by_cases h1 : k = i
  · subst h1
    rw [if_pos rfl, if_neg (by omega)]
    exact hgt j hj hij
  · rw [if_neg h1]
    by_cases h2 : k = j
    · subst h2
      rw [if_pos rfl]
      exact hlt i hi hij
    · rw [if_neg h2]
      exact h i j hi hj hij
/-- Files of the call's own, their bodies' values told. -/
def FilesV (w : World) (B : Nat) (a : Option Addr) (c : Nat) (vs : List (Fi × Value)) : Prop :=
  w.ownsRow B 36 6 (.slice a vs.length c) vs.length (vs.flatMap fcells) ∧ Sep vs ∧ BodsO w B vs
theorem FilesV.o {w : World} {B c : Nat} {a : Option Addr} {vs : List (Fi × Value)} (h : FilesV w B a c vs) : FilesO w B a vs.length c (vs.map (·.1)) :=
  ⟨vs, rfl, (List.length_map _).symm, h.1, h.2.1, h.2.2⟩
theorem FilesV.fr {w w' : World} {B c : Nat} {a : Option Addr} {vs : List (Fi × Value)} (h : FilesV w B a c vs) (hx : Fr B w w') : FilesV w' B a c vs :=
  ⟨own_fr h.1 hx, h.2.1, h.2.2.fr hx⟩
theorem FilesV.nil (w : World) (B : Nat) : FilesV w B none 0 [] := ⟨⟨rfl, .inl ⟨rfl, rfl⟩⟩, List.Pairwise.nil, fun _ h => by cases h⟩
/-- Another kind of block is stored into. -/
theorem FilesV.far {w : World} {B c b : Nat} {a : Option Addr} {vs : List (Fi × Value)} {cs : Array Value} {t : TypeId} (h : FilesV w B a c vs) (hb : w.heap[b]? = some (.cells cs t (0, 0))) (h1 : 36 ≠ t) (h2 : 53 ≠ t) (i : Nat) (u : Value) : FilesV (w.setCell ⟨b, i, none⟩ u) B a c vs :=
  ⟨own_set_far h.1 hb h1 _ _, h.2.1, fun x hx => by
    obtain ⟨ba, bc, e, ho⟩ := h.2.2 x hx
    exact ⟨ba, bc, e, own_set_far ho hb h2 _ _⟩⟩
/-- A file more. -/
theorem FilesV.snoc {w w' : World} {B c c' : Nat} {a a' : Option Addr} {vs : List (Fi × Value)} {f : Fi} {ba : Option Addr} {bc : Nat} (h : FilesV w B a c vs)
    (hO : w'.ownsRow B 36 6 (.slice a' (vs.length + 1) c') (vs.length + 1) (vs.flatMap fcells ++ fcells (f, .slice ba f.body.length bc)))
    (hg : w.grownBy w' (Value.slice a vs.length c).ownBlock) (hb : w.ownsRow B 53 5 (.slice ba f.body.length bc) f.body.length (f.body.flatMap scells))
    (hs : ∀ x ∈ vs, (Value.slice ba f.body.length bc).ownBlock = none ∨ x.2.ownBlock = none ∨ (Value.slice ba f.body.length bc).ownBlock ≠ x.2.ownBlock) : FilesV w' B a' c' (vs ++ [(f, .slice ba f.body.length bc)]) := by
  have hk : ∀ {v : Value} {m : Nat} {xs : List Value}, w.ownsRow B 53 5 v m xs → w'.ownsRow B 53 5 v m xs := fun ho => ho.kept hg (row_ne ho h.1 (by decide))
  refine ⟨?_, ?_, fun x hx => ?_⟩
  · rw [List.length_append, List.flatMap_append]
    simpa using hO
  · refine List.pairwise_append.2 ⟨h.2.1, List.pairwise_singleton _ _, fun x hx y hy => ?_⟩
    rw [List.mem_singleton.1 hy]
    rcases hs x hx with e | e | e
    · exact .inr (.inl e)
    · exact .inl e
    · exact .inr (.inr e)
  · rcases List.mem_append.1 hx with hx | hx
    · obtain ⟨p, q, e, ho⟩ := h.2.2 x hx
      exact ⟨p, q, e, hk ho⟩
    · rw [List.mem_singleton.1 hx]
      exact ⟨ba, bc, rfl, hk hb⟩
/-- A statement more in file k. -/
theorem FilesV.body {w w' : World} {B g c k rc : Nat} {ra : Option Addr} {vs : List (Fi × Value)} {s : St} (h : FilesV w B (some ⟨g, 0, none⟩) c vs) (hk : k < vs.length) {m : Nat} (hm : m = (nth vs k).1.body.length)
    (hO : w'.ownsRow B 53 5 (.slice ra (m + 1) rc) (m + 1) ((nth vs k).1.body.flatMap scells ++ scells s))
    (hg : w.grownBy w' (nth vs k).2.ownBlock) (hat : (Value.slice ra (m + 1) rc).ownBlock = (nth vs k).2.ownBlock ∨ ∃ q, (Value.slice ra (m + 1) rc).ownBlock = some q ∧ w.heap.size ≤ q) :
    FilesV (w'.setCell ⟨g, k * 6 + 5, none⟩ (.slice ra (m + 1) rc)) B (some ⟨g, 0, none⟩) c (vs.set k ({ (nth vs k).1 with body := (nth vs k).1.body ++ [s] }, .slice ra (m + 1) rc)) := by
  obtain ⟨h1, h2, h3⟩ := h
  have hkb := h3 (nth vs k) (nth_mem hk)
  obtain ⟨ba, bc, eb, hb⟩ := hkb
  rw [eb] at hg hat
  have h1' : w'.ownsRow B 36 6 (.slice (some ⟨g, 0, none⟩) vs.length c) vs.length (vs.flatMap fcells) := h1.kept hg (by
    rcases row_ne h1 hb (by decide) with e | e
    · exact .inl e
    · exact .inr e)
  obtain ⟨cs, hgb⟩ := own_block h1'
  have hne : ∀ x ∈ vs, ∀ p, x.2.ownBlock = some p → p < w.heap.size := fun x hx p hp => by
    obtain ⟨p1, q1, e, ho⟩ := h3 x hx
    rw [e] at hp
    exact (ho.lt p hp).2
  have hpair : ∀ (i : Nat) (hi : i < vs.length), i ≠ k → vs[i].2.ownBlock = none ∨ (nth vs k).2.ownBlock = none ∨ (nth vs k).2.ownBlock ≠ vs[i].2.ownBlock := fun i hi hik => by
    have hp := h2
    unfold Sep at hp
    rw [List.pairwise_iff_getElem] at hp
    rw [nth_eq hk]
    rcases Nat.lt_or_gt_of_ne hik with hlt | hlt
    · exact hp i k hi hk hlt
    · rcases hp k i hk hi hlt with e | e | e
      · exact .inr (.inl e)
      · exact .inl e
      · exact .inr (.inr fun e2 => e e2.symm)
  have hnew : ∀ (i : Nat) (hi : i < vs.length), i ≠ k → vs[i].2.ownBlock = none ∨ (Value.slice ra (m + 1) rc).ownBlock = none ∨ (Value.slice ra (m + 1) rc).ownBlock ≠ vs[i].2.ownBlock := fun i hi hik => by
    rcases hat with e | ⟨q, e, hq⟩
    · have := hpair i hi hik
      rw [eb] at this
      rw [e]
      exact this
    · cases hv : vs[i].2.ownBlock with
      | none => exact .inl rfl
      | some p =>
        have := hne vs[i] (List.getElem_mem _) p hv
        refine .inr (.inr ?_)
        rw [e]
        intro e2
        injection e2 with e2
        omega
  have hkept : ∀ (i : Nat) (hi : i < vs.length), i ≠ k → ∃ p q, vs[i].2 = .slice p vs[i].1.body.length q ∧ (w'.setCell ⟨g, k * 6 + 5, none⟩ (.slice ra (m + 1) rc)).ownsRow B 53 5 (.slice p vs[i].1.body.length q) vs[i].1.body.length (vs[i].1.body.flatMap scells) := fun i hi hik => by
    obtain ⟨p, q, e, ho⟩ := h3 vs[i] (List.getElem_mem _)
    refine ⟨p, q, e, own_set_far (ho.kept hg ?_) hgb (by decide) _ _⟩
    have := hpair i hi hik
    rw [eb, e] at this
    rcases this with e1 | e1 | e1
    · exact .inl e1
    · rw [e1]
      cases hq : (Value.slice p vs[i].1.body.length q).ownBlock with
      | none => exact .inl rfl
      | some z => exact .inr (by simp)
    · exact .inr (fun e2 => e1 e2.symm)
  refine ⟨?_, ?_, fun x hx => ?_⟩
  · rw [List.length_set, ← flat_set hk (show 5 < 6 by omega) (u := .slice ra (m + 1) rc) (y := ({ (nth vs k).1 with body := (nth vs k).1.body ++ [s] }, .slice ra (m + 1) rc)) (by rw [nth_eq hk]; rfl)]
    exact own_set h1' _
  · unfold Sep
    refine pair_set2 h2 (fun i hi hik => hnew i hi (by omega)) (fun i hi hik => ?_)
    rcases hnew i hi (by omega) with e | e | e
    · exact .inr (.inl e)
    · exact .inl e
    · exact .inr (.inr fun e2 => e e2.symm)
  · obtain ⟨i, hi, e⟩ := List.getElem_of_mem hx
    rw [List.length_set] at hi
    rw [List.getElem_set] at e
    by_cases hik : k = i
    · rw [if_pos hik] at e
      subst e
      refine ⟨ra, rc, by simp [hm], own_set_far ?_ hgb (by decide) _ _⟩
      simp only [List.length_append, List.length_singleton, List.flatMap_append, List.flatMap_cons, List.flatMap_nil, List.append_nil, ← hm]
      exact hO
    · rw [if_neg hik] at e
      subst e
      exact hkept i hi (fun e => hik e.symm)
end Go.Proofs.YtmhcmabiolaoaaaGreatDoor
