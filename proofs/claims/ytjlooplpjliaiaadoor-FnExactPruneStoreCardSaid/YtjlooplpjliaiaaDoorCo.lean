/- What is compiled of modules, as plain data; how slices of it lie in memory; the laws' own comparing of it. No condition but lengths. -/
import Derived.Test.YtjlooplpjliaiaaDoorMkF
import Derived.Test.YtjlooplpjliaiaaDoorEqS
namespace Go.Proofs.YtjlooplpjliaiaaDoor
open Go.RowKit

structure Co where
  root : Int
  mod : List UInt8
  init : Bool
  mode : Int
  stamp : Int
  size : Int
  hash : Int
  body : List St
deriving DecidableEq, Inhabited
def ccells (x : Co × Value) : List Value := [.int .i64 x.1.root, .string ⟨(x.1.mod).toArray⟩, .bool x.1.init, .int .i64 x.1.mode, .int .i64 x.1.stamp, .int .i64 x.1.size, .int .i64 x.1.hash, x.2]
instance : Inhabited (Co × Value) := ⟨(default, undef)⟩
theorem ccells8 (x : Co × Value) : (ccells x).length = 8 := rfl
def CosAt (w : World) (B : Nat) (a : Option Addr) (n : Nat) (l : List Co) : Prop :=
  ∃ vs : List (Co × Value), l = vs.map (·.1) ∧ n = l.length ∧ n ≤ 2097152 ∧ (∀ c ∈ l, c.mod.length ≤ 4194304) ∧ Sl w B a n (vs.flatMap ccells) ∧
    ∀ x ∈ vs, ∃ ba bn bc, x.2 = .slice ba bn bc ∧ bn ≤ bc ∧ StmtsAt w B ba bn x.1.body
theorem CosAt.len {w : World} {B : Nat} {a : Option Addr} {n : Nat} {l : List Co} (h : CosAt w B a n l) : n = l.length ∧ n ≤ 2097152 := by
  obtain ⟨vs, _, h1, h2, _⟩ := h; exact ⟨h1, h2⟩
theorem CosAt.mono {w w' : World} {B : Nat} {a : Option Addr} {n : Nat} {l : List Co} (h : CosAt w B a n l) (hx : Fr B w w') : CosAt w' B a n l := by
  obtain ⟨vs, h0, h1, h2, h3, h4, h5⟩ := h
  exact ⟨vs, h0, h1, h2, h3, h4.mono hx, fun x hm => let ⟨ba, bn, bc, e, hc, hs⟩ := h5 x hm; ⟨ba, bn, bc, e, hc, hs.mono hx⟩⟩
theorem CosAt.less {w : World} {B B' : Nat} {a : Option Addr} {n : Nat} {l : List Co} (h : CosAt w B a n l) (hB : B' ≤ B) : CosAt w B' a n l := by
  obtain ⟨vs, h0, h1, h2, h3, h4, h5⟩ := h
  exact ⟨vs, h0, h1, h2, h3, h4.less hB, fun x hm => let ⟨ba, bn, bc, e, hc, hs⟩ := h5 x hm; ⟨ba, bn, bc, e, hc, hs.less hB⟩⟩
theorem nth_map_fstC {vs : List (Co × Value)} {k : Nat} (hk : k < vs.length) : nth (vs.map (·.1)) k = (nth vs k).1 := by
  rw [nth_eq (by simpa using hk), nth_eq hk, List.getElem_map]
theorem CosAt.at_ {w : World} {B : Nat} {a : Option Addr} {n : Nat} {l : List Co} (h : CosAt w B a n l) {k : Nat} (hk : k < n) :
    ∃ b off ba bn bc, a = some ⟨b, off, none⟩ ∧ B ≤ b ∧ b < w.heap.size ∧ (nth l k).mod.length ≤ 4194304 ∧ bn ≤ bc ∧ StmtsAt w B ba bn (nth l k).body ∧
      w.cell? ⟨b, off + k * 8, none⟩ = some (.int .i64 (nth l k).root) ∧ w.cell? ⟨b, off + k * 8 + 1, none⟩ = some (.string ⟨((nth l k).mod).toArray⟩) ∧ w.cell? ⟨b, off + k * 8 + 2, none⟩ = some (.bool (nth l k).init) ∧
      w.cell? ⟨b, off + k * 8 + 3, none⟩ = some (.int .i64 (nth l k).mode) ∧ w.cell? ⟨b, off + k * 8 + 4, none⟩ = some (.int .i64 (nth l k).stamp) ∧ w.cell? ⟨b, off + k * 8 + 5, none⟩ = some (.int .i64 (nth l k).size) ∧
      w.cell? ⟨b, off + k * 8 + 6, none⟩ = some (.int .i64 (nth l k).hash) ∧ w.cell? ⟨b, off + k * 8 + 7, none⟩ = some (.slice ba bn bc) := by
  obtain ⟨vs, rfl, h1, h2, h3, h4, h5⟩ := h
  have hl : k < vs.length := by simpa [h1] using hk
  obtain ⟨b, off, ha, hB, hb, hc⟩ := h4.elem (s := 8) (fun _ => rfl) (by simpa using h1) hk
  obtain ⟨ba, bn, bc, e, hbc, hs⟩ := h5 _ (nth_mem hl)
  rw [nth_map_fstC hl]
  refine ⟨b, off, ba, bn, bc, ha, hB, hb, ?_, hbc, hs, hc 0 (by omega), hc 1 (by omega), hc 2 (by omega), hc 3 (by omega), hc 4 (by omega), hc 5 (by omega), hc 6 (by omega), ?_⟩
  · exact h3 _ (List.mem_map_of_mem (nth_mem hl))
  · rw [← e]; exact hc 7 (by omega)

/-! ### The call's own -/
def SepC (vs : List (Co × Value)) : Prop := vs.Pairwise fun x y => x.2.ownBlock = none ∨ y.2.ownBlock = none ∨ y.2.ownBlock ≠ x.2.ownBlock
def BodyC (w : World) (B : Nat) (x : Co × Value) : Prop := ∃ ba bc, x.2 = .slice ba x.1.body.length bc ∧ w.ownsRow B 88 5 (.slice ba x.1.body.length bc) x.1.body.length (x.1.body.flatMap scells)
theorem BodyC.grown {w w' : World} {B g : Nat} {x : Co × Value} {cs : Array Value} (h : BodyC w B x) (hg : w.grownBy w' (some g)) (hb : w.heap[g]? = some (.cells cs 65 (0, 0))) : BodyC w' B x := by
  obtain ⟨ba, bc, e, ho⟩ := h
  exact ⟨ba, bc, e, ho.kept hg (.inr (own_ne_at ho hb (by decide)))⟩
theorem BodyC.kept {w w' : World} {B : Nat} {x : Co × Value} {row : Option Nat} (h : BodyC w B x) (hg : w.grownBy w' row) (hr : x.2.ownBlock = none ∨ x.2.ownBlock ≠ row) : BodyC w' B x := by
  obtain ⟨ba, bc, e, ho⟩ := h
  rw [e] at hr
  exact ⟨ba, bc, e, ho.kept hg hr⟩
theorem BodyC.fr {w w' : World} {B : Nat} {x : Co × Value} (h : BodyC w B x) (hx : Fr B w w') : BodyC w' B x := by
  obtain ⟨ba, bc, e, ho⟩ := h
  exact ⟨ba, bc, e, own_fr ho hx⟩
theorem BodyC.less {w : World} {B B' : Nat} {x : Co × Value} (h : BodyC w B x) (hB : B' ≤ B) : BodyC w B' x := by
  obtain ⟨ba, bc, e, ho⟩ := h
  exact ⟨ba, bc, e, own_less ho hB⟩
/-- A store of the call's own: the table and each body is a row of its own. -/
def CosO (w : World) (B : Nat) (a : Option Addr) (n c : Nat) (l : List Co) : Prop :=
  ∃ vs : List (Co × Value), l = vs.map (·.1) ∧ n = l.length ∧ w.ownsRow B 65 8 (.slice a n c) n (vs.flatMap ccells) ∧ SepC vs ∧ ∀ x ∈ vs, BodyC w B x
theorem CosO.fr {w w' : World} {B n c : Nat} {a : Option Addr} {l : List Co} (h : CosO w B a n c l) (hx : Fr B w w') : CosO w' B a n c l := by
  obtain ⟨vs, e, h1, h2, hs, h3⟩ := h
  exact ⟨vs, e, h1, own_fr h2 hx, hs, fun x hm => (h3 x hm).fr hx⟩
theorem CosO.less {w : World} {B B' n c : Nat} {a : Option Addr} {l : List Co} (h : CosO w B a n c l) (hB : B' ≤ B) : CosO w B' a n c l := by
  obtain ⟨vs, e, h1, h2, hs, h3⟩ := h
  exact ⟨vs, e, h1, own_less h2 hB, hs, fun x hm => (h3 x hm).less hB⟩
def OkC (l : List Co) : Prop := l.length ≤ 2097152 ∧ ∀ c ∈ l, c.mod.length ≤ 4194304 ∧ c.body.length ≤ 2097152 ∧ ∀ s ∈ c.body, Oks s
theorem CosAt.okC {w : World} {B n : Nat} {a : Option Addr} {l : List Co} (h : CosAt w B a n l) : OkC l := by
  obtain ⟨vs, e, h1, h2, h3, _, h5⟩ := h
  refine ⟨by omega, fun f hf => ⟨h3 f hf, ?_⟩⟩
  rw [e] at hf
  obtain ⟨x, hx, rfl⟩ := List.mem_map.1 hf
  obtain ⟨ba, bn, bc, _, _, hS⟩ := h5 x hx
  exact ⟨by have := hS.1; have := hS.2.1; omega, hS.2.2.1⟩
theorem CosO.at {w : World} {B n c : Nat} {a : Option Addr} {l : List Co} (h : CosO w B a n c l) (hk : OkC l) : CosAt w B a n l := by
  obtain ⟨vs, e, h1, h2, _, h3⟩ := h
  refine ⟨vs, e, h1, by have := hk.1; omega, fun f hf => (hk.2 f hf).1, Sl.of_own h2, fun x hx => ?_⟩
  obtain ⟨ba, bc, e2, ho⟩ := h3 x hx
  have hm : x.1 ∈ l := by rw [e]; exact List.mem_map.2 ⟨x, hx, rfl⟩
  exact ⟨ba, _, bc, e2, own_cap ho, rfl, (hk.2 _ hm).2.1, (hk.2 _ hm).2.2, Sl.of_own ho⟩
/-- A store of the call's own, in blocks before E. -/
def CosE (w : World) (B E : Nat) (a : Option Addr) (n c : Nat) (l : List Co) : Prop :=
  ∃ vs : List (Co × Value), l = vs.map (·.1) ∧ n = l.length ∧ w.ownsRow B 65 8 (.slice a n c) n (vs.flatMap ccells) ∧ SepC vs ∧ (∀ x ∈ vs, BodyC w B x) ∧
    (∀ b, (Value.slice a n c).ownBlock = some b → b < E) ∧ ∀ x ∈ vs, ∀ b, x.2.ownBlock = some b → b < E
theorem CosO.e {w : World} {B n c : Nat} {a : Option Addr} {l : List Co} (h : CosO w B a n c l) : CosE w B w.heap.size a n c l := by
  obtain ⟨vs, e, h1, h2, hs, h3⟩ := h
  exact ⟨vs, e, h1, h2, hs, h3, fun b hb => (h2.lt b hb).2, fun x hx b hb => by obtain ⟨ba, bc, e, ho⟩ := h3 x hx; rw [e] at hb; exact (ho.lt b hb).2⟩
theorem CosE.fr {w w' : World} {B E n c : Nat} {a : Option Addr} {l : List Co} (h : CosE w B E a n c l) (hx : Fr B w w') : CosE w' B E a n c l := by
  obtain ⟨vs, e, h1, h2, hs, h3, h4, h5⟩ := h
  exact ⟨vs, e, h1, own_fr h2 hx, hs, fun x hm => (h3 x hm).fr hx, h4, h5⟩
theorem CosE.o {w : World} {B E n c : Nat} {a : Option Addr} {l : List Co} (h : CosE w B E a n c l) : CosO w B a n c l := by
  obtain ⟨vs, e, h1, h2, hs, h3, _⟩ := h
  exact ⟨vs, e, h1, h2, hs, h3⟩
theorem sepC_at {vs : List (Co × Value)} (h : SepC vs) {i j : Nat} (hi : i < vs.length) (hj : j < vs.length) (hne : i ≠ j) : (nth vs i).2.ownBlock = none ∨ (nth vs j).2.ownBlock = none ∨ (nth vs i).2.ownBlock ≠ (nth vs j).2.ownBlock := by
  unfold SepC at h
  rw [List.pairwise_iff_getElem] at h
  rw [nth_eq hi, nth_eq hj]
  rcases Nat.lt_or_ge i j with h1 | h1
  · rcases h i j hi hj h1 with h | h | h
    · exact .inl h
    · exact .inr (.inl h)
    · exact .inr (.inr (Ne.symm h))
  · rcases h j i hj hi (by omega) with h | h | h
    · exact .inr (.inl h)
    · exact .inl h
    · exact .inr (.inr h)
theorem ccells_last {zs : List (Co × Value)} {j : Nat} (hj : j < zs.length) : (zs.flatMap ccells)[j * 8 + 7]? = some (nth zs j).2 := by
  have hl : j * 8 + 7 < (zs.flatMap ccells).length := by rw [flat_length 8 ccells ccells8]; omega
  rw [List.getElem?_eq_getElem hl, flat_get 8 ccells ccells8 zs j 7 hj (by omega) hl, nth_eq hj]
  rfl
theorem map_snd_setC {zs : List (Co × Value)} {j : Nat} (hj : j < zs.length) {f' : Co} {v : Value} (hv : (nth zs j).2 = v) : (zs.set j (f', v)).map (·.2) = zs.map (·.2) := by
  rw [List.map_set]
  refine List.ext_getElem (by simp) fun i h1 h2 => ?_
  rw [List.getElem_set]
  split
  · rename_i h
    subst h
    rw [List.getElem_map, ← nth_eq hj, hv]
  · rfl
theorem sepC_of {vs zs : List (Co × Value)} (h : SepC vs) (hz : zs.map (·.2) = vs.map (·.2)) : SepC zs := by
  have h1 : (vs.map (·.2)).Pairwise (fun x y : Value => x.ownBlock = none ∨ y.ownBlock = none ∨ y.ownBlock ≠ x.ownBlock) := List.pairwise_map.2 h
  rw [← hz] at h1
  exact List.pairwise_map.1 h1
theorem sndC_nth {vs zs : List (Co × Value)} {n i : Nat} (hz : zs.map (·.2) = vs.map (·.2)) (hv : vs.length = n) (hl : zs.length = n) (hi : i < n) : (nth zs i).2 = (nth vs i).2 := by
  have h1 : (zs.map (·.2))[i]? = (vs.map (·.2))[i]? := by rw [hz]
  rw [List.getElem?_map, List.getElem?_map, List.getElem?_eq_getElem (by omega), List.getElem?_eq_getElem (by omega)] at h1
  rw [nth_eq (by omega), nth_eq (by omega)]
  simpa using h1

/-! ### Marks -/
def wtC : List Co → Nat
  | [] => 0
  | f :: l => 7 + 5 * f.body.length + wtC l
theorem wtC_append (l m : List Co) : wtC (l ++ m) = wtC l + wtC m := by
  induction l with
  | nil => simp [wtC]
  | cons f l ih => simp only [List.cons_append, wtC, ih]; omega
theorem wtC_next {l : List Co} {k : Nat} (hk : k < l.length) : wtC (l.take (k + 1)) = wtC (l.take k) + (7 + 5 * (nth l k).body.length) := by
  rw [take_succ_nth hk, wtC_append]; simp [wtC]
theorem wtC_take (l : List Co) (k : Nat) : wtC (l.take k) ≤ wtC l := by
  have h := wtC_append (l.take k) (l.drop k)
  rw [List.take_append_drop] at h
  omega
def coM (k : Nat) (f : Co) : Co := ⟨(k : Int), mtxt (k + 1), decide ((k + 2) % 3 = 0), ((k + 3 : Nat) : Int), ((k + 4 : Nat) : Int), ((k + 5 : Nat) : Int), ((k + 6 : Nat) : Int), stsM (k + 7) f.body.length⟩
def marksC (k : Nat) : List Co → List Co
  | [] => []
  | f :: l => coM k f :: marksC (k + (7 + 5 * f.body.length)) l
theorem marksC_len : ∀ (l : List Co) (k : Nat), (marksC k l).length = l.length
  | [], _ => rfl
  | f :: l, k => by rw [marksC, List.length_cons, marksC_len l, List.length_cons]
theorem marksC_nth : ∀ (l : List Co) (k j : Nat), j < l.length → nth (marksC k l) j = coM (k + wtC (l.take j)) (nth l j)
  | [], _, _, h => absurd h (by simp)
  | f :: l, k, 0, _ => by simp [marksC, nth, wtC]
  | f :: l, k, j + 1, h => by
    have := marksC_nth l (k + (7 + 5 * f.body.length)) j (by simpa using h)
    rw [marksC, List.take_succ_cons, wtC, show ∀ (x : Co) (m : List Co), nth (x :: m) (j + 1) = nth m j from fun _ _ => rfl, show nth (f :: l) (j + 1) = nth l j from rfl, this, Nat.add_assoc, Nat.add_assoc]
theorem ccells_set {zs : List (Co × Value)} {j : Nat} (hj : j < zs.length) {x : Co × Value} (hx : nth zs j = x) (f' : Co) (v0 v1 v2 v3 v4 v5 v6 : Value) (hv : ccells (f', x.2) = [v0, v1, v2, v3, v4, v5, v6, x.2]) :
    ((((((((zs.flatMap ccells).set (j * 8) v0).set (j * 8 + 1) v1).set (j * 8 + 2) v2).set (j * 8 + 3) v3).set (j * 8 + 4) v4).set (j * 8 + 5) v5).set (j * 8 + 6) v6) = (zs.set j (f', x.2)).flatMap ccells := by
  have hA : ((zs.take j).flatMap ccells).length = j * 8 := by rw [flat_length 8 ccells ccells8, List.length_take, Nat.min_eq_left (by omega)]
  have hz : zs.flatMap ccells = (zs.take j).flatMap ccells ++ (ccells x ++ (zs.drop (j + 1)).flatMap ccells) := by
    rw [← hx, ← List.flatMap_cons, ← drop_nth hj, ← List.flatMap_append, List.take_append_drop]
  have hs : zs.set j (f', x.2) = zs.take j ++ (f', x.2) :: zs.drop (j + 1) := by
    rw [List.set_eq_take_append_cons_drop, if_pos hj]
  rw [hs, List.flatMap_append, List.flatMap_cons, hv, hz]
  generalize (zs.take j).flatMap ccells = A at *
  generalize (zs.drop (j + 1)).flatMap ccells = R at *
  have h0 := set_off (A := A) (Z := ccells x ++ R) 0 v0
  rw [Nat.add_zero] at h0
  rw [← hA, h0, set_off, set_off, set_off, set_off, set_off, set_off]
  rfl

/-! ### Comparing -/
set_option maxRecDepth 100000 in
set_option maxHeartbeats 1000000 in
theorem eqCompiled_c (f g : Co) (ba ba' : Option Addr) (bn bc bn' bc' B B' : Nat) (w : World) (hS : StmtsAt w B ba bn f.body) (hS' : StmtsAt w B' ba' bn' g.body) :
    Calls Tryd.prog 42 #[.agg #[.int .i64 (f).root, .string ⟨(f).mod.toArray⟩, .bool (f).init, .int .i64 (f).mode, .int .i64 (f).stamp, .int .i64 (f).size, .int .i64 (f).hash, .slice ba bn bc], .agg #[.int .i64 (g).root, .string ⟨(g).mod.toArray⟩, .bool (g).init, .int .i64 (g).mode, .int .i64 (g).stamp, .int .i64 (g).size, .int .i64 (g).hash, .slice ba' bn' bc']] w fun e w' => e = .returned (.bool (decide (f = g))) ∧ X w w' := by
  obtain ⟨r, pk, it, mo, st, sz, hs, bo⟩ := f
  obtain ⟨r', pk', it', mo', st', sz', hs', bo'⟩ := g
  have hR : decide ((⟨r, pk, it, mo, st, sz, hs, bo⟩ : Co) = ⟨r', pk', it', mo', st', sz', hs', bo'⟩) = ((r == r') && (pk == pk') && (it == it') && (mo == mo') && (st == st') && (sz == sz') && (hs == hs') && decide (bo = bo')) := by
    rw [Bool.eq_iff_iff]; simp [and_assoc]
  rw [hR]
  clear hR
  cases h1 : r == r'
  · go_enter Tryd.func42, Tryd.ntmps42
    go_wp2
    go_ret
    exact ⟨by simp, by (repeat (first | exact X.refl _ | assumption | refine X.ext ?_ _ | refine X.alloc ?_ _ | refine X.drew ?_))⟩
  cases h2 : pk == pk'
  · go_enter Tryd.func42, Tryd.ntmps42
    go_wp2
    go_ret
    exact ⟨by simp, by (repeat (first | exact X.refl _ | assumption | refine X.ext ?_ _ | refine X.alloc ?_ _ | refine X.drew ?_))⟩
  cases h3 : it == it'
  · go_enter Tryd.func42, Tryd.ntmps42
    go_wp2
    go_ret
    exact ⟨by simp, by (repeat (first | exact X.refl _ | assumption | refine X.ext ?_ _ | refine X.alloc ?_ _ | refine X.drew ?_))⟩
  cases h4 : mo == mo'
  · go_enter Tryd.func42, Tryd.ntmps42
    go_wp2
    go_ret
    exact ⟨by simp, by (repeat (first | exact X.refl _ | assumption | refine X.ext ?_ _ | refine X.alloc ?_ _ | refine X.drew ?_))⟩
  cases h5 : st == st'
  · go_enter Tryd.func42, Tryd.ntmps42
    go_wp2
    go_ret
    exact ⟨by simp, by (repeat (first | exact X.refl _ | assumption | refine X.ext ?_ _ | refine X.alloc ?_ _ | refine X.drew ?_))⟩
  cases h7 : sz == sz'
  · go_enter Tryd.func42, Tryd.ntmps42
    go_wp2
    go_ret
    exact ⟨by simp, by (repeat (first | exact X.refl _ | assumption | refine X.ext ?_ _ | refine X.alloc ?_ _ | refine X.drew ?_))⟩
  cases h8 : hs == hs'
  · go_enter Tryd.func42, Tryd.ntmps42
    go_wp2
    go_ret
    exact ⟨by simp, by (repeat (first | exact X.refl _ | assumption | refine X.ext ?_ _ | refine X.alloc ?_ _ | refine X.drew ?_))⟩
  cases h6 : decide (bo = bo')
  all_goals
    go_enter Tryd.func42, Tryd.ntmps42
    go_wp2_with (go_at_call 22; refine (eqStmtS_c bo bo' _ _ _ _ _ _ _ _ _ (hS.mono (X.fr (by (repeat (first | exact X.refl _ | assumption | refine X.ext ?_ _ | refine X.alloc ?_ _ | refine X.drew ?_))) _)) (hS'.mono (X.fr (by (repeat (first | exact X.refl _ | assumption | refine X.ext ?_ _ | refine X.alloc ?_ _ | refine X.drew ?_))) _))).mono ?_; rintro _ _ ⟨rfl, hx⟩; replace hx := X.trans (a := w) (by (repeat (first | exact X.refl _ | assumption | refine X.ext ?_ _ | refine X.alloc ?_ _ | refine X.drew ?_))) hx; obtain ⟨x, rfl⟩ := hx; rw [h6])
    go_ret
    exact ⟨by simp, by (repeat (first | exact X.refl _ | assumption | refine X.ext ?_ _ | refine X.alloc ?_ _ | refine X.drew ?_))⟩

set_option maxRecDepth 100000 in
set_option maxHeartbeats 1000000 in
theorem eqCompiledS_c (l m : List Co) (a a' : Option Addr) (n n' c c' B B' : Nat) (w : World) (hL : CosAt w B a n l) (hM : CosAt w B' a' n' m) :
    Calls Tryd.prog 11 #[.slice a n c, .slice a' n' c'] w fun e w' => e = .returned (.bool (decide (l = m))) ∧ X w w' := by
  have h1 := hL.len.1
  have h2 := hM.len.1
  have hn := hL.len.2
  have Hl := Lib.hid h1
  have Hm := Lib.hid h2
  by_cases hne : n = n'
  · subst hne
    clear h1 h2
    go_enter Tryd.func11, Tryd.ntmps11
    go_wp2
    go_loopw [5] (fun i wr => ∃ k : Nat, k ≤ n ∧ i = .int .i64 k ∧ allN (fun k => decide (nth l k = nth m k)) k = true ∧ ∃ x, wr = World.ext w x) (fun i _ => n - (intOf i).toNat)
    case atStart => exact ⟨0, by omega, rfl, rfl, X.refl _⟩
    case round =>
      obtain ⟨k, hk, rfl, hall, x, rfl⟩ := hrel
      by_cases hlt : k < n
      · obtain ⟨b, off, ba, bn, bc, rfl, _, hb, _, _, hS, g0, g1, g2, g3, g4, g5, g6, g7⟩ := hL.at_ hlt
        obtain ⟨b', off', ba', bn', bc', rfl, _, hb', _, _, hS', u0, u1, u2, u3, u4, u5, u6, u7⟩ := hM.at_ hlt
        cases hd : decide (nth l k = nth m k)
        all_goals
          go_wp2
          refine wp_region_grow (by kernel_rfl) (by kernel_rfl) ?_
          repeat (go_big_quiet_step (((go_at_call 42; refine grow_of (eqCompiled_c (nth l k) (nth m k) ba ba' bn bc bn' bc' _ _ _ (hS.mono (X.fr (by (repeat (first | exact X.refl _ | assumption | refine X.ext ?_ _ | refine X.alloc ?_ _ | refine X.drew ?_))) _)) (hS'.mono (X.fr (by (repeat (first | exact X.refl _ | assumption | refine X.ext ?_ _ | refine X.alloc ?_ _ | refine X.drew ?_))) _)))))))
          refine wpQuiet_nil ?_
          rintro _ ⟨y, rfl⟩
          go_wp2
        · go_ret
          have hs : ¬ nth l k = nth m k := of_decide_eq_false hd
          exact ⟨ret_boolW (by rw [decide_eq_false]; intro e; exact hs (by rw [e])), by (repeat (first | exact X.refl _ | assumption | refine X.ext ?_ _ | refine X.alloc ?_ _ | refine X.drew ?_))⟩
        · go_roundw
          case rel => exact ⟨k + 1, by omega, by go_num, allN_next hall hd, _, rfl⟩
          case measure => simp [intOf]; omega
      · obtain rfl : k = n := by omega
        go_wp2
        go_ret
        refine ⟨ret_boolW ?_, by (repeat (first | exact X.refl _ | assumption | refine X.ext ?_ _ | refine X.alloc ?_ _ | refine X.drew ?_))⟩
        rw [decide_eq_true]
        exact nth_ext2 (by rw [← Hl.out, ← Hm.out]) fun j hj => of_decide_eq_true (allN_iff.1 hall j (by rw [Hl.out]; exact hj))
  · go_enter Tryd.func11, Tryd.ntmps11
    go_wp2
    go_ret
    exact ⟨ret_boolW (by rw [decide_eq_false]; intro e; apply hne; rw [h1, h2, e]), by (repeat (first | exact X.refl _ | assumption | refine X.ext ?_ _ | refine X.alloc ?_ _ | refine X.drew ?_))⟩

end Go.Proofs.YtjlooplpjliaiaaDoor
