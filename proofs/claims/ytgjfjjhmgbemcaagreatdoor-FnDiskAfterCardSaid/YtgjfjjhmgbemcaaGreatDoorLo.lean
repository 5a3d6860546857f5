/- Several texts in one: MaD, MaN, MaC, MaE, MaF, MaG. No condition but lengths. -/
import Derived.Test.YtgjfjjhmgbemcaaGreatDoorIe
import Derived.Test.YtgjfjjhmgbemcaaGreatDoorIb
import Derived.Test.YtgjfjjhmgbemcaaGreatDoorLe
import Derived.Test.YtgjfjjhmgbemcaaGreatDoorLn
namespace Go.Proofs.YtgjfjjhmgbemcaaGreatDoor
open Go.RowKit

structure At where
  name : List UInt8
  kind : Int
  num : Int
deriving DecidableEq, Inhabited
def atcells (x : At) : List Value := [.string ⟨(x.name).toArray⟩, .int .i64 x.kind, .int .i64 x.num]
structure Mo where
  name : List UInt8
  kind : Int
  roots : List Int
  cached : Bool
  done : Bool
  attrs : List At
deriving DecidableEq, Inhabited
/-- A module with the places of its box, its roots and its attributes. -/
structure Mp where
  b : Nat
  mo : Mo
  rv : Value
  av : Value
deriving Inhabited
def mocells (x : Mp) : Array Value := #[.string ⟨(x.mo.name).toArray⟩, .int .i64 x.mo.kind, x.rv, .bool x.mo.cached, .bool x.mo.done, x.av]
/-- What is true of every module: a valid name, attributes whose names are parts, each once. -/
def Mo.ok (x : Mo) : Prop := nameB x.name = true ∧ x.roots.length ≤ 2097152 ∧ (∀ a ∈ x.attrs, partB a.name = true) ∧ (x.attrs.map (·.name)).Nodup

/-! ### Different parts are few -/
theorem nodup_lt : ∀ (N : Nat) (l : List Nat), l.Nodup → (∀ x ∈ l, x < N) → l.length ≤ N
  | 0, l, _, h => by
    cases l with
    | nil => exact Nat.le_refl _
    | cons x l => exact absurd (h x List.mem_cons_self) (by omega)
  | N + 1, l, hn, h => by
    by_cases hm : N ∈ l
    · have h1 := nodup_lt N (l.erase N) (hn.erase N) (fun x hx => by
        have h2 := (List.Nodup.mem_erase_iff hn).1 hx
        have := h x h2.2
        omega)
      rw [List.length_erase_of_mem hm] at h1
      omega
    · exact Nat.le_succ_of_le (nodup_lt N l hn fun x hx => by
        have := h x hx
        have : x ≠ N := fun e => hm (e ▸ hx)
        omega)
def codeN : List UInt8 → Nat
  | [] => 0
  | b :: l => b.toNat + 1 + 257 * codeN l
theorem codeN_inj : ∀ {l m : List UInt8}, codeN l = codeN m → l = m
  | [], [], _ => rfl
  | [], b :: m, h => by simp only [codeN] at h; omega
  | a :: l, [], h => by simp only [codeN] at h; omega
  | a :: l, b :: m, h => by
    simp only [codeN] at h
    have ha := a.toNat_lt
    have hb := b.toNat_lt
    have h1 : codeN l = codeN m := by omega
    have h2 : a = b := UInt8.toNat_inj.1 (by omega)
    rw [h2, codeN_inj h1]
theorem codeN_lt {l : List UInt8} (h : partB l = true) : codeN l < 16974593 := by
  unfold partB at h
  obtain ⟨h1, h3⟩ := rangeB_iff.1 (Bool.and_eq_true _ _ ▸ h).1
  match l, h3 with
  | [], _ => decide
  | [a], _ =>
    have := a.toNat_lt
    simp only [codeN]
    omega
  | [a, b], _ =>
    have := a.toNat_lt
    have := b.toNat_lt
    simp only [codeN]
    omega
  | [a, b, c], _ =>
    have := a.toNat_lt
    have := b.toNat_lt
    have := c.toNat_lt
    simp only [codeN]
    omega
  | a :: b :: c :: d :: l, h3 => simp only [List.length_cons] at h3; omega
theorem Mo.ok.few {x : Mo} (h : x.ok) : x.attrs.length ≤ 16974593 := by
  obtain ⟨_, _, h3, h4⟩ := h
  have h5 : ((x.attrs.map (·.name)).map codeN).Nodup := by
    unfold List.Nodup at h4 ⊢
    rw [List.pairwise_map]
    exact h4.imp fun hne e => hne (codeN_inj e)
  have := nodup_lt 16974593 _ h5 (fun k hk => by
    obtain ⟨s, hs, rfl⟩ := List.mem_map.1 hk
    obtain ⟨a, ha, rfl⟩ := List.mem_map.1 hs
    exact codeN_lt (h3 a ha))
  simpa using this

/-! ### In memory -/
/-- Two slices do not lie in one block. -/
def Apm (v u : Value) : Prop := v.ownBlock = none ∨ v.ownBlock ≠ u.ownBlock
theorem Apm.symm {v u : Value} (h : Apm v u) : Apm u v := by
  unfold Apm at *
  cases e : u.ownBlock with
  | none => exact .inl rfl
  | some b =>
    refine .inr fun e2 => ?_
    rcases h with h | h
    · rw [h] at e2; cases e2
    · exact h (by rw [e, e2])
/-- Where a slice lies behind an append: in its own block or in a new one. -/
def Mv (w : World) (v v' : Value) : Prop := v'.ownBlock = none ∨ v'.ownBlock = v.ownBlock ∨ ∃ b, v'.ownBlock = some b ∧ w.heap.size ≤ b
theorem Apm.mv {w : World} {d v v' : Value} (h : Apm d v) (hm : Mv w v v') (hd : ∀ b, d.ownBlock = some b → b < w.heap.size) : Apm d v' := by
  cases e : d.ownBlock with
  | none => exact .inl e
  | some b =>
    refine .inr fun e2 => ?_
    have hb := hd b e
    rw [e] at e2
    rcases hm with e1 | e1 | ⟨b', e1, hb'⟩
    · rw [e1] at e2; cases e2
    · rw [e1] at e2
      rcases h with h | h
      · rw [h] at e; cases e
      · exact h (e.trans e2)
    · rw [e1] at e2
      have := Option.some.inj e2
      omega
theorem Apm.new {w : World} {d v : Value} (hd : ∀ b, d.ownBlock = some b → b < w.heap.size) (hv : ∀ b, v.ownBlock = some b → w.heap.size ≤ b) : Apm d v := by
  cases e : d.ownBlock with
  | none => exact .inl e
  | some b =>
    refine .inr fun e2 => ?_
    have h1 := hd b e
    have h2 := hv b (e2 ▸ e)
    omega

/-- A module in memory: its box, its attributes' row, its roots' row. -/
structure MoW (W : World) (B : Nat) (x : Mp) : Prop where
  box : W.heap[x.b]? = some (.cells (mocells x) 178 (0, 0))
  lo : B ≤ x.b
  atr : ∃ a c, x.av = .slice a x.mo.attrs.length c ∧ W.ownsRow B 213 3 x.av x.mo.attrs.length (x.mo.attrs.flatMap atcells)
  rts : ∃ a c, x.rv = .slice a x.mo.roots.length c ∧ W.ownsRow B 3 1 x.rv x.mo.roots.length (ints x.mo.roots)
  ok : x.mo.ok
def macells (tv pv mv ov lv qv : Value) (left : Nat) : Array Value := #[tv, pv, .nilFunc, .func (.func 139) #[] #[], mv, ov, lv, qv, .int .i64 (left : Int)]
def mptrs (ms : List Mp) : List Value := ms.map fun x => .pointer (some ⟨x.b, 0, none⟩)
/-- The machine's state: ms its modules; what it has printed, logged and seen in part is at most q; B the size of the memory ahead of it. -/
structure MaX (W : World) (B mb : Nat) (tv pv : Value) (left q : Nat) (ms : List Mp) (mv ov lv qv : Value) : Prop where
  box : W.heap[mb]? = some (.cells (macells tv pv mv ov lv qv left) 132 (0, 0))
  lo : B ≤ mb
  len : ms.length ≤ q
  mrow : ∃ a c, mv = .slice a ms.length c ∧ W.ownsRow B 175 1 mv ms.length (mptrs ms)
  orow : ∃ (out : List Int) (a : Option Addr) (c : Nat), ov = .slice a out.length c ∧ out.length ≤ q ∧ W.ownsRow B 3 1 ov out.length (ints out)
  lrow : ∃ (a : Option Addr) (k c : Nat) (es : List Value), lv = .slice a k c ∧ k ≤ q ∧ W.ownsRow B 230 2 lv k es
  prow : ∃ (qs : List (List UInt8)) (a : Option Addr) (c : Nat), qv = .slice a qs.length c ∧ qs.length ≤ q ∧ (∀ s ∈ qs, s.length ≤ 1048576) ∧ W.ownsRow B 9 1 qv qs.length (strs qs)
  mods : ∀ i, i < ms.length → MoW W B (nth ms i)
  sepA : ∀ i j, i < ms.length → j < ms.length → i ≠ j → (nth ms i).b ≠ (nth ms j).b ∧ Apm (nth ms i).av (nth ms j).av
  sepO : ∀ i, i < ms.length → Apm (nth ms i).rv ov
def MaW (W : World) (B mb : Nat) (tv pv : Value) (left q : Nat) (ms : List Mp) : Prop := ∃ mv ov lv qv, MaX W B mb tv pv left q ms mv ov lv qv

theorem MoW.cells {W : World} {B : Nat} {x : Mp} (h : MoW W B x) : x.b < W.heap.size ∧ W.cell? ⟨x.b, 0, none⟩ = some (.string ⟨(x.mo.name).toArray⟩) ∧ W.cell? ⟨x.b, 1, none⟩ = some (.int .i64 x.mo.kind) ∧ W.cell? ⟨x.b, 2, none⟩ = some x.rv ∧ W.cell? ⟨x.b, 3, none⟩ = some (.bool x.mo.cached) ∧ W.cell? ⟨x.b, 4, none⟩ = some (.bool x.mo.done) ∧ W.cell? ⟨x.b, 5, none⟩ = some x.av := by
  obtain ⟨l, c, _⟩ := Bx.out ⟨_, h.box⟩
  exact ⟨l, c 0, c 1, c 2, c 3, c 4, c 5⟩
theorem MaX.cells {W : World} {B mb left q : Nat} {tv pv mv ov lv qv : Value} {ms : List Mp} (h : MaX W B mb tv pv left q ms mv ov lv qv) : mb < W.heap.size ∧ W.cell? ⟨mb, 0, none⟩ = some tv ∧ W.cell? ⟨mb, 1, none⟩ = some pv ∧ W.cell? ⟨mb, 2, none⟩ = some .nilFunc ∧ W.cell? ⟨mb, 3, none⟩ = some (.func (.func 139) #[] #[]) ∧ W.cell? ⟨mb, 4, none⟩ = some mv ∧ W.cell? ⟨mb, 5, none⟩ = some ov ∧ W.cell? ⟨mb, 6, none⟩ = some lv ∧ W.cell? ⟨mb, 7, none⟩ = some qv ∧ W.cell? ⟨mb, 8, none⟩ = some (.int .i64 (left : Int)) := by
  obtain ⟨l, c, _⟩ := Bx.out ⟨_, h.box⟩
  exact ⟨l, c 0, c 1, c 2, c 3, c 4, c 5, c 6, c 7, c 8⟩
theorem MoW.x {W W' : World} {B : Nat} {x : Mp} (h : MoW W B x) (hx : X W W') : MoW W' B x := by
  obtain ⟨h1, h2, ⟨a, c, e, ho⟩, ⟨a2, c2, e2, ho2⟩, h5⟩ := h
  exact ⟨at_x2' h1 hx, h2, ⟨a, c, e, own_fr ho (hx.fr _)⟩, ⟨a2, c2, e2, own_fr ho2 (hx.fr _)⟩, h5⟩
theorem MaX.x {W W' : World} {B mb left q : Nat} {tv pv mv ov lv qv : Value} {ms : List Mp} (h : MaX W B mb tv pv left q ms mv ov lv qv) (hx : X W W') : MaX W' B mb tv pv left q ms mv ov lv qv := by
  obtain ⟨h1, h2, h3, ⟨a1, c1, e1, o1⟩, ⟨p2, a2, c2, e2, l2, o2⟩, ⟨a3, k3, c3, p3, e3, l3, o3⟩, ⟨p4, a4, c4, e4, l4, m4, o4⟩, h8, h9, h10⟩ := h
  exact ⟨at_x2' h1 hx, h2, h3, ⟨a1, c1, e1, own_fr o1 (hx.fr _)⟩, ⟨p2, a2, c2, e2, l2, own_fr o2 (hx.fr _)⟩, ⟨a3, k3, c3, p3, e3, l3, own_fr o3 (hx.fr _)⟩, ⟨p4, a4, c4, e4, l4, m4, own_fr o4 (hx.fr _)⟩, fun i hi => (h8 i hi).x hx, h9, h10⟩
theorem MaW.x {W W' : World} {B mb left q : Nat} {tv pv : Value} {ms : List Mp} (h : MaW W B mb tv pv left q ms) (hx : X W W') : MaW W' B mb tv pv left q ms := by
  obtain ⟨mv, ov, lv, qv, h⟩ := h
  exact ⟨mv, ov, lv, qv, h.x hx⟩
theorem MaX.more {W : World} {B mb left q q' : Nat} {tv pv mv ov lv qv : Value} {ms : List Mp} (h : MaX W B mb tv pv left q ms mv ov lv qv) (hq : q ≤ q') : MaX W B mb tv pv left q' ms mv ov lv qv := by
  obtain ⟨h1, h2, h3, h4, ⟨p2, a2, c2, e2, l2, o2⟩, ⟨a3, k3, c3, p3, e3, l3, o3⟩, ⟨p4, a4, c4, e4, l4, m4, o4⟩, h8, h9, h10⟩ := h
  exact ⟨h1, h2, by omega, h4, ⟨p2, a2, c2, e2, by omega, o2⟩, ⟨a3, k3, c3, p3, e3, by omega, o3⟩, ⟨p4, a4, c4, e4, by omega, m4, o4⟩, h8, h9, h10⟩
theorem MaW.more {W : World} {B mb left q q' : Nat} {tv pv : Value} {ms : List Mp} (h : MaW W B mb tv pv left q ms) (hq : q ≤ q') : MaW W B mb tv pv left q' ms := by
  obtain ⟨mv, ov, lv, qv, h⟩ := h
  exact ⟨mv, ov, lv, qv, h.more hq⟩

/-! ### What a step of the machine keeps -/
def KT (t : Nat) : Prop := t = 148 ∨ t = 182 ∨ t = 173
/-- Memory below B stays, and so do the boxes of statements, values and specs. -/
def Kp (B : Nat) (W W' : World) : Prop := Below B W W' ∧ ∀ (b : Nat) (cs : Array Value) (t : TypeId), KT t → W.heap[b]? = some (.cells cs t (0, 0)) → W'.heap[b]? = some (.cells cs t (0, 0))
theorem Kp.refl (B : Nat) (W : World) : Kp B W W := ⟨Below.refl _ _, fun _ _ _ _ h => h⟩
theorem Kp.trans {B : Nat} {a b c : World} (h : Kp B a b) (k : Kp B b c) : Kp B a c :=
  ⟨⟨k.1.os.trans h.1.os, k.1.tape.trans h.1.tape, k.1.output.trans h.1.output, Nat.le_trans h.1.size k.1.size, fun i hi => (k.1.block i hi).trans (h.1.block i hi)⟩, fun b cs t ht hb => k.2 b cs t ht (h.2 b cs t ht hb)⟩
theorem Kp.of_x {B : Nat} {W W' : World} (hx : X W W') (hB : B ≤ W.heap.size) : Kp B W W' :=
  ⟨⟨hx.below.os, hx.below.tape, hx.below.output, hx.size, fun k hk => hx.below.block k (by omega)⟩, fun _ _ _ _ hb => at_x2' hb hx⟩
theorem Kp.size {B : Nat} {W W' : World} (h : Kp B W W') : W.heap.size ≤ W'.heap.size := h.1.size
theorem Kp.grown {B B2 e size n : Nat} {w w' : World} {v : Value} {xs : List Value} (hg : w.grownBy w' v.ownBlock) (ho : w.ownsRow B e size v n xs) (he : ¬ KT e) (hB : B2 ≤ B) (hs : B2 ≤ w.heap.size) : Kp B2 w w' :=
  ⟨⟨hg.os, hg.tape, hg.output, hg.size, fun k hk => hg.block k (by omega) (fun h => by have := (ho.lt k h.symm).1; omega)⟩, fun b cs t ht hb => at_grown hb hg (own_ne_at ho hb (fun h => he (h ▸ ht)))⟩
theorem Kp.set {B b t : Nat} {w : World} {cs : Array Value} (hb : w.heap[b]? = some (.cells cs t (0, 0))) (hB : B ≤ b) (ht : ¬ KT t) (i : Nat) (u : Value) : Kp B w (w.setCell ⟨b, i, none⟩ u) :=
  ⟨⟨rfl, rfl, rfl, by simp [World.setCell], fun k hk => heap_setCell_other w ⟨b, i, none⟩ k u (by show k ≠ b; omega)⟩, fun b' cs' t' ht' hb' => (heap_setCell_other w ⟨b, i, none⟩ b' u (fun e => by
    have e : b' = b := e
    rw [e, hb] at hb'
    injection hb' with hb'
    injection hb' with _ hb'
    exact ht (hb' ▸ ht'))).trans hb'⟩
theorem Kp.X {w0 a b : World} (h : Kp w0.heap.size a b) (hx : X w0 a) : X w0 b := X.of_below ⟨h.1.os.trans hx.below.os, h.1.tape.trans hx.below.tape, h.1.output.trans hx.below.output, Nat.le_trans hx.size h.1.size, fun k hk => (h.1.block k hk).trans (hx.below.block k hk)⟩

end Go.Proofs.YtgjfjjhmgbemcaaGreatDoor

namespace Go.Proofs.YtgjfjjhmgbemcaaGreatDoor
open Go.RowKit

set_option maxRecDepth 100000 in
set_option maxHeartbeats 2000000 in
theorem newMachine_c (a : Option Addr) (n c : Nat) (pa : Option Addr) (pn pc : Nat) (left : Nat) (w : World) :
    Calls Tryz.prog 88 #[.agg #[.slice a n c], .slice pa pn pc, .int .i64 (left : Int)] w fun e w' => ∃ mb, e = .returned (.pointer (some ⟨mb, 0, none⟩)) ∧ MaW w' w.heap.size mb (.slice a n c) (.slice pa pn pc) left 0 [] ∧ X w w' := by
  go_enter Tryz.func88, Tryz.ntmps88
  go_upto_region 1 with fail
  refine wp_name (fun W0 hW0 => ?_)
  have hB0 : Bx W0 w.heap.size #[.slice a n c] := by rw [hW0]; exact Bx.new _ _ _
  have hX0 : X w W0 := by rw [hW0]; (repeat (first | with_reducible exact X.refl _ | with_reducible assumption | with_reducible refine X.setCell ?_ (by first | (simp; done) | (simp; omega)) _ | with_reducible refine X.ext ?_ _ | with_reducible refine X.alloc ?_ _ | with_reducible refine X.drew ?_))
  clear hW0
  obtain ⟨lt, ct, _⟩ := hB0.out
  have t0 := ct 0
  clear ct
  go_wp2
  go_ret
  exact ⟨W0.heap.size, rfl, ⟨.slice none 0 0, .slice none 0 0, .slice none 0 0, .slice none 0 0, heap_alloc_new _ _, hX0.size, Nat.le_refl _, ⟨none, 0, rfl, ⟨rfl, .inl ⟨rfl, rfl⟩⟩⟩, ⟨[], none, 0, rfl, Nat.le_refl _, ⟨rfl, .inl ⟨rfl, rfl⟩⟩⟩, ⟨none, 0, 0, [], rfl, Nat.le_refl _, ⟨rfl, .inl ⟨rfl, rfl⟩⟩⟩, ⟨[], none, 0, rfl, Nat.le_refl _, (fun _ h => by cases h), ⟨rfl, .inl ⟨rfl, rfl⟩⟩⟩, (fun i h => absurd h (Nat.not_lt_zero i)), (fun i _ h => absurd h (Nat.not_lt_zero i)), (fun i h => absurd h (Nat.not_lt_zero i))⟩, hX0.alloc _⟩

end Go.Proofs.YtgjfjjhmgbemcaaGreatDoor

namespace Go.Proofs.YtgjfjjhmgbemcaaGreatDoor
open Go.RowKit

set_option maxRecDepth 100000 in
set_option maxHeartbeats 2000000 in
theorem cachedF_c (x : Mp) (B : Nat) (nm : List UInt8) (nb : Nat) (w : World) (hM : MoW w B x) (hb : Bx w nb #[.string ⟨(nm).toArray⟩]) :
    Calls Tryz.prog 176 #[.pointer (some ⟨x.b, 0, none⟩), .pointer (some ⟨nb, 0, none⟩)] w fun e w' => e = .returned (.bool (x.mo.cached && x.mo.name == nm)) ∧ X w w' := by
  obtain ⟨l, m0, _, _, m3, _, _⟩ := hM.cells
  obtain ⟨ln, cn, _⟩ := hb.out
  have n0 := cn 0
  clear cn
  cases c1 : x.mo.cached <;> cases c2 : x.mo.name == nm
  ·
    rw [c1] at m3
    go_enter Tryz.func176, Tryz.ntmps176
    go_wp2_with fail
    refine wp_region_invG (fun L v W => X w W
        ∧ (L 0 = true → v 0 = .pointer (some ⟨x.b, 0, none⟩))
        ∧ (L 1 = true → v 1 = .pointer (some ⟨x.b, 0, none⟩))
        ∧ (L 2 = true → v 2 = .pointer (some ⟨x.b, 3, none⟩))
        ∧ (L 3 = true → v 3 = .bool false)
        ∧ (L 4 = true → v 4 = .bool false)
        ∧ (L 11 = true → v 11 = .bool false)
        ∧ (L 12 = true → v 12 = .bool false)) (by kernel_rfl) (by kernel_rfl) ?_ ?_ (l := [(4, 0), (5, 1), (6, 2), (7, 3), (8, 4), (9, 5), (10, 6), (11, 7), (12, 8), (13, 9), (14, 10), (15, 11), (3, 12)]) (by kernel_rfl) (n := 13) rfl ?_
    · intro v
      exact ⟨(X.refl _).drew, fun h => Bool.noConfusion h, fun h => Bool.noConfusion h, fun h => Bool.noConfusion h, fun h => Bool.noConfusion h, fun h => Bool.noConfusion h, fun h => Bool.noConfusion h, fun h => Bool.noConfusion h⟩
    · intro i hi
      have hi' : i = 0 ∨ i = 1 ∨ i = 2 ∨ i = 3 ∨ i = 4 ∨ i = 5 ∨ i = 6 ∨ i = 7 ∨ i = 8 ∨ i = 9 ∨ i = 10 ∨ i = 11 ∨ i = 12 := by
        have : i < 13 := hi
        omega
      clear hi
      rcases hi' with rfl | rfl | rfl | rfl | rfl | rfl | rfl | rfl | rfl | rfl | rfl | rfl | rfl
      all_goals
        intro o ho L v aa W hI hS hL hA K hK
        cases (show some _ = some o from ho)
        obtain ⟨xx, v0, v1, v2, v3, v4, v11, v12⟩ := hI
      · have o0 := hS.old 0 (by kernel_rfl) rfl
        have m3w := (xx.cell (p := ⟨x.b, 3, none⟩) l).trans m3
        have m0w := (xx.cell (p := ⟨x.b, 0, none⟩) l).trans m0
        have n0w := (xx.cell (p := ⟨nb, 0, none⟩) ln).trans n0
        have lw := Nat.lt_of_lt_of_le l xx.size
        have lnw := Nat.lt_of_lt_of_le ln xx.size
        refine wantY (by exact rfl) ?_
        clear hS ho hA
        go_simp
        exact hK _ W ⟨xx, fun _ => rfl, v1, v2, v3, v4, v11, v12⟩
      · have l0 : L 0 = true := hA ⟨0, .data⟩ (by simp) rfl
        have g0 := hS.get 0 4 rfl l0 (v0 l0)
        have m3w := (xx.cell (p := ⟨x.b, 3, none⟩) l).trans m3
        have m0w := (xx.cell (p := ⟨x.b, 0, none⟩) l).trans m0
        have n0w := (xx.cell (p := ⟨nb, 0, none⟩) ln).trans n0
        have lw := Nat.lt_of_lt_of_le l xx.size
        have lnw := Nat.lt_of_lt_of_le ln xx.size
        refine wantY (by exact rfl) ?_
        clear hS ho hA
        go_simp
        exact hK _ W ⟨xx, v0, fun _ => rfl, v2, v3, v4, v11, v12⟩
      · have l1 : L 1 = true := hA ⟨1, .data⟩ (by simp) rfl
        have g1 := hS.get 1 5 rfl l1 (v1 l1)
        have m3w := (xx.cell (p := ⟨x.b, 3, none⟩) l).trans m3
        have m0w := (xx.cell (p := ⟨x.b, 0, none⟩) l).trans m0
        have n0w := (xx.cell (p := ⟨nb, 0, none⟩) ln).trans n0
        have lw := Nat.lt_of_lt_of_le l xx.size
        have lnw := Nat.lt_of_lt_of_le ln xx.size
        refine wantY (by exact rfl) ?_
        clear hS ho hA
        go_simp
        exact hK _ W ⟨xx, v0, v1, fun _ => rfl, v3, v4, v11, v12⟩
      · have l2 : L 2 = true := hA ⟨2, .data⟩ (by simp) rfl
        have g2 := hS.get 2 6 rfl l2 (v2 l2)
        have m3w := (xx.cell (p := ⟨x.b, 3, none⟩) l).trans m3
        have m0w := (xx.cell (p := ⟨x.b, 0, none⟩) l).trans m0
        have n0w := (xx.cell (p := ⟨nb, 0, none⟩) ln).trans n0
        have lw := Nat.lt_of_lt_of_le l xx.size
        have lnw := Nat.lt_of_lt_of_le ln xx.size
        refine wantY (by exact rfl) ?_
        clear hS ho hA
        go_simp
        exact hK _ W ⟨xx, v0, v1, v2, fun _ => rfl, v4, v11, v12⟩
      · have l3 : L 3 = true := hA ⟨3, .data⟩ (by simp) rfl
        have g3 := hS.get 3 7 rfl l3 (v3 l3)
        have m3w := (xx.cell (p := ⟨x.b, 3, none⟩) l).trans m3
        have m0w := (xx.cell (p := ⟨x.b, 0, none⟩) l).trans m0
        have n0w := (xx.cell (p := ⟨nb, 0, none⟩) ln).trans n0
        have lw := Nat.lt_of_lt_of_le l xx.size
        have lnw := Nat.lt_of_lt_of_le ln xx.size
        refine wantY (by exact rfl) ?_
        clear hS ho hA
        go_simp
        exact hK _ W ⟨xx, v0, v1, v2, v3, fun _ => rfl, v11, v12⟩
      · have l4 : L 4 = true := hA ⟨4, .guard⟩ (by simp) rfl
        refine wantN (by rw [wanted_of rfl (hS.yield 4 8 rfl l4 (v4 l4))]; decide) ?_
        exact hK _ W ⟨xx, v0, v1, v2, v3, v4, v11, v12⟩
      · have l4 : L 4 = true := hA ⟨4, .guard⟩ (by simp) rfl
        refine wantN (by rw [wanted_of rfl (hS.yield 4 8 rfl l4 (v4 l4))]; decide) ?_
        exact hK _ W ⟨xx, v0, v1, v2, v3, v4, v11, v12⟩
      · have l4 : L 4 = true := hA ⟨4, .guard⟩ (by simp) rfl
        refine wantN (by rw [wanted_of rfl (hS.yield 4 8 rfl l4 (v4 l4))]; decide) ?_
        exact hK _ W ⟨xx, v0, v1, v2, v3, v4, v11, v12⟩
      · have l4 : L 4 = true := hA ⟨4, .guard⟩ (by simp) rfl
        refine wantN (by rw [wanted_of rfl (hS.yield 4 8 rfl l4 (v4 l4))]; decide) ?_
        exact hK _ W ⟨xx, v0, v1, v2, v3, v4, v11, v12⟩
      · have l4 : L 4 = true := hA ⟨4, .guard⟩ (by simp) rfl
        refine wantN (by rw [wanted_of rfl (hS.yield 4 8 rfl l4 (v4 l4))]; decide) ?_
        exact hK _ W ⟨xx, v0, v1, v2, v3, v4, v11, v12⟩
      · have l4 : L 4 = true := hA ⟨4, .guard⟩ (by simp) rfl
        refine wantN (by rw [wanted_of rfl (hS.yield 4 8 rfl l4 (v4 l4))]; decide) ?_
        exact hK _ W ⟨xx, v0, v1, v2, v3, v4, v11, v12⟩
      · have l4 : L 4 = true := hA ⟨4, .data⟩ (by simp) rfl
        have g4 := hS.get 4 8 rfl l4 (v4 l4)
        have m3w := (xx.cell (p := ⟨x.b, 3, none⟩) l).trans m3
        have m0w := (xx.cell (p := ⟨x.b, 0, none⟩) l).trans m0
        have n0w := (xx.cell (p := ⟨nb, 0, none⟩) ln).trans n0
        have lw := Nat.lt_of_lt_of_le l xx.size
        have lnw := Nat.lt_of_lt_of_le ln xx.size
        refine wantY (by exact rfl) ?_
        clear hS ho hA
        go_simp
        exact hK _ W ⟨xx, v0, v1, v2, v3, v4, fun _ => rfl, v12⟩
      · have l11 : L 11 = true := hA ⟨11, .data⟩ (by simp) rfl
        have g11 := hS.get 11 15 rfl l11 (v11 l11)
        have m3w := (xx.cell (p := ⟨x.b, 3, none⟩) l).trans m3
        have m0w := (xx.cell (p := ⟨x.b, 0, none⟩) l).trans m0
        have n0w := (xx.cell (p := ⟨nb, 0, none⟩) ln).trans n0
        have lw := Nat.lt_of_lt_of_le l xx.size
        have lnw := Nat.lt_of_lt_of_le ln xx.size
        refine wantY (by exact rfl) ?_
        clear hS ho hA
        go_simp
        exact hK _ W ⟨xx, v0, v1, v2, v3, v4, v11, fun _ => rfl⟩
    intro v W9 hI
    obtain ⟨xx, v0, v1, v2, v3, v4, v11, v12⟩ := hI
    have e0 := v0 rfl
    have e1 := v1 rfl
    have e2 := v2 rfl
    have e3 := v3 rfl
    have e4 := v4 rfl
    have e11 := v11 rfl
    have e12 := v12 rfl
    clear v0 v1 v2 v3 v4 v11 v12
    simp only [putL, List.foldl, List.setIfInBounds_toArray, List.set_cons_zero, List.set_cons_succ, e0, e1, e2, e3, e4, e11, e12]
    clear e0 e1 e2 e3 e4 e11 e12
    go_wp2
    go_ret
    exact ⟨by simp, xx⟩
  ·
    rw [c1] at m3
    go_enter Tryz.func176, Tryz.ntmps176
    go_wp2_with fail
    refine wp_region_invG (fun L v W => X w W
        ∧ (L 0 = true → v 0 = .pointer (some ⟨x.b, 0, none⟩))
        ∧ (L 1 = true → v 1 = .pointer (some ⟨x.b, 0, none⟩))
        ∧ (L 2 = true → v 2 = .pointer (some ⟨x.b, 3, none⟩))
        ∧ (L 3 = true → v 3 = .bool false)
        ∧ (L 4 = true → v 4 = .bool false)
        ∧ (L 11 = true → v 11 = .bool false)
        ∧ (L 12 = true → v 12 = .bool false)) (by kernel_rfl) (by kernel_rfl) ?_ ?_ (l := [(4, 0), (5, 1), (6, 2), (7, 3), (8, 4), (9, 5), (10, 6), (11, 7), (12, 8), (13, 9), (14, 10), (15, 11), (3, 12)]) (by kernel_rfl) (n := 13) rfl ?_
    · intro v
      exact ⟨(X.refl _).drew, fun h => Bool.noConfusion h, fun h => Bool.noConfusion h, fun h => Bool.noConfusion h, fun h => Bool.noConfusion h, fun h => Bool.noConfusion h, fun h => Bool.noConfusion h, fun h => Bool.noConfusion h⟩
    · intro i hi
      have hi' : i = 0 ∨ i = 1 ∨ i = 2 ∨ i = 3 ∨ i = 4 ∨ i = 5 ∨ i = 6 ∨ i = 7 ∨ i = 8 ∨ i = 9 ∨ i = 10 ∨ i = 11 ∨ i = 12 := by
        have : i < 13 := hi
        omega
      clear hi
      rcases hi' with rfl | rfl | rfl | rfl | rfl | rfl | rfl | rfl | rfl | rfl | rfl | rfl | rfl
      all_goals
        intro o ho L v aa W hI hS hL hA K hK
        cases (show some _ = some o from ho)
        obtain ⟨xx, v0, v1, v2, v3, v4, v11, v12⟩ := hI
      · have o0 := hS.old 0 (by kernel_rfl) rfl
        have m3w := (xx.cell (p := ⟨x.b, 3, none⟩) l).trans m3
        have m0w := (xx.cell (p := ⟨x.b, 0, none⟩) l).trans m0
        have n0w := (xx.cell (p := ⟨nb, 0, none⟩) ln).trans n0
        have lw := Nat.lt_of_lt_of_le l xx.size
        have lnw := Nat.lt_of_lt_of_le ln xx.size
        refine wantY (by exact rfl) ?_
        clear hS ho hA
        go_simp
        exact hK _ W ⟨xx, fun _ => rfl, v1, v2, v3, v4, v11, v12⟩
      · have l0 : L 0 = true := hA ⟨0, .data⟩ (by simp) rfl
        have g0 := hS.get 0 4 rfl l0 (v0 l0)
        have m3w := (xx.cell (p := ⟨x.b, 3, none⟩) l).trans m3
        have m0w := (xx.cell (p := ⟨x.b, 0, none⟩) l).trans m0
        have n0w := (xx.cell (p := ⟨nb, 0, none⟩) ln).trans n0
        have lw := Nat.lt_of_lt_of_le l xx.size
        have lnw := Nat.lt_of_lt_of_le ln xx.size
        refine wantY (by exact rfl) ?_
        clear hS ho hA
        go_simp
        exact hK _ W ⟨xx, v0, fun _ => rfl, v2, v3, v4, v11, v12⟩
      · have l1 : L 1 = true := hA ⟨1, .data⟩ (by simp) rfl
        have g1 := hS.get 1 5 rfl l1 (v1 l1)
        have m3w := (xx.cell (p := ⟨x.b, 3, none⟩) l).trans m3
        have m0w := (xx.cell (p := ⟨x.b, 0, none⟩) l).trans m0
        have n0w := (xx.cell (p := ⟨nb, 0, none⟩) ln).trans n0
        have lw := Nat.lt_of_lt_of_le l xx.size
        have lnw := Nat.lt_of_lt_of_le ln xx.size
        refine wantY (by exact rfl) ?_
        clear hS ho hA
        go_simp
        exact hK _ W ⟨xx, v0, v1, fun _ => rfl, v3, v4, v11, v12⟩
      · have l2 : L 2 = true := hA ⟨2, .data⟩ (by simp) rfl
        have g2 := hS.get 2 6 rfl l2 (v2 l2)
        have m3w := (xx.cell (p := ⟨x.b, 3, none⟩) l).trans m3
        have m0w := (xx.cell (p := ⟨x.b, 0, none⟩) l).trans m0
        have n0w := (xx.cell (p := ⟨nb, 0, none⟩) ln).trans n0
        have lw := Nat.lt_of_lt_of_le l xx.size
        have lnw := Nat.lt_of_lt_of_le ln xx.size
        refine wantY (by exact rfl) ?_
        clear hS ho hA
        go_simp
        exact hK _ W ⟨xx, v0, v1, v2, fun _ => rfl, v4, v11, v12⟩
      · have l3 : L 3 = true := hA ⟨3, .data⟩ (by simp) rfl
        have g3 := hS.get 3 7 rfl l3 (v3 l3)
        have m3w := (xx.cell (p := ⟨x.b, 3, none⟩) l).trans m3
        have m0w := (xx.cell (p := ⟨x.b, 0, none⟩) l).trans m0
        have n0w := (xx.cell (p := ⟨nb, 0, none⟩) ln).trans n0
        have lw := Nat.lt_of_lt_of_le l xx.size
        have lnw := Nat.lt_of_lt_of_le ln xx.size
        refine wantY (by exact rfl) ?_
        clear hS ho hA
        go_simp
        exact hK _ W ⟨xx, v0, v1, v2, v3, fun _ => rfl, v11, v12⟩
      · have l4 : L 4 = true := hA ⟨4, .guard⟩ (by simp) rfl
        refine wantN (by rw [wanted_of rfl (hS.yield 4 8 rfl l4 (v4 l4))]; decide) ?_
        exact hK _ W ⟨xx, v0, v1, v2, v3, v4, v11, v12⟩
      · have l4 : L 4 = true := hA ⟨4, .guard⟩ (by simp) rfl
        refine wantN (by rw [wanted_of rfl (hS.yield 4 8 rfl l4 (v4 l4))]; decide) ?_
        exact hK _ W ⟨xx, v0, v1, v2, v3, v4, v11, v12⟩
      · have l4 : L 4 = true := hA ⟨4, .guard⟩ (by simp) rfl
        refine wantN (by rw [wanted_of rfl (hS.yield 4 8 rfl l4 (v4 l4))]; decide) ?_
        exact hK _ W ⟨xx, v0, v1, v2, v3, v4, v11, v12⟩
      · have l4 : L 4 = true := hA ⟨4, .guard⟩ (by simp) rfl
        refine wantN (by rw [wanted_of rfl (hS.yield 4 8 rfl l4 (v4 l4))]; decide) ?_
        exact hK _ W ⟨xx, v0, v1, v2, v3, v4, v11, v12⟩
      · have l4 : L 4 = true := hA ⟨4, .guard⟩ (by simp) rfl
        refine wantN (by rw [wanted_of rfl (hS.yield 4 8 rfl l4 (v4 l4))]; decide) ?_
        exact hK _ W ⟨xx, v0, v1, v2, v3, v4, v11, v12⟩
      · have l4 : L 4 = true := hA ⟨4, .guard⟩ (by simp) rfl
        refine wantN (by rw [wanted_of rfl (hS.yield 4 8 rfl l4 (v4 l4))]; decide) ?_
        exact hK _ W ⟨xx, v0, v1, v2, v3, v4, v11, v12⟩
      · have l4 : L 4 = true := hA ⟨4, .data⟩ (by simp) rfl
        have g4 := hS.get 4 8 rfl l4 (v4 l4)
        have m3w := (xx.cell (p := ⟨x.b, 3, none⟩) l).trans m3
        have m0w := (xx.cell (p := ⟨x.b, 0, none⟩) l).trans m0
        have n0w := (xx.cell (p := ⟨nb, 0, none⟩) ln).trans n0
        have lw := Nat.lt_of_lt_of_le l xx.size
        have lnw := Nat.lt_of_lt_of_le ln xx.size
        refine wantY (by exact rfl) ?_
        clear hS ho hA
        go_simp
        exact hK _ W ⟨xx, v0, v1, v2, v3, v4, fun _ => rfl, v12⟩
      · have l11 : L 11 = true := hA ⟨11, .data⟩ (by simp) rfl
        have g11 := hS.get 11 15 rfl l11 (v11 l11)
        have m3w := (xx.cell (p := ⟨x.b, 3, none⟩) l).trans m3
        have m0w := (xx.cell (p := ⟨x.b, 0, none⟩) l).trans m0
        have n0w := (xx.cell (p := ⟨nb, 0, none⟩) ln).trans n0
        have lw := Nat.lt_of_lt_of_le l xx.size
        have lnw := Nat.lt_of_lt_of_le ln xx.size
        refine wantY (by exact rfl) ?_
        clear hS ho hA
        go_simp
        exact hK _ W ⟨xx, v0, v1, v2, v3, v4, v11, fun _ => rfl⟩
    intro v W9 hI
    obtain ⟨xx, v0, v1, v2, v3, v4, v11, v12⟩ := hI
    have e0 := v0 rfl
    have e1 := v1 rfl
    have e2 := v2 rfl
    have e3 := v3 rfl
    have e4 := v4 rfl
    have e11 := v11 rfl
    have e12 := v12 rfl
    clear v0 v1 v2 v3 v4 v11 v12
    simp only [putL, List.foldl, List.setIfInBounds_toArray, List.set_cons_zero, List.set_cons_succ, e0, e1, e2, e3, e4, e11, e12]
    clear e0 e1 e2 e3 e4 e11 e12
    go_wp2
    go_ret
    exact ⟨by simp, xx⟩
  ·
    rw [c1] at m3
    go_enter Tryz.func176, Tryz.ntmps176
    go_wp2_with fail
    refine wp_region_invG (fun L v W => X w W
        ∧ (L 0 = true → v 0 = .pointer (some ⟨x.b, 0, none⟩))
        ∧ (L 1 = true → v 1 = .pointer (some ⟨x.b, 0, none⟩))
        ∧ (L 2 = true → v 2 = .pointer (some ⟨x.b, 3, none⟩))
        ∧ (L 3 = true → v 3 = .bool true)
        ∧ (L 4 = true → v 4 = .bool true)
        ∧ (L 5 = true → v 5 = .pointer (some ⟨x.b, 0, none⟩))
        ∧ (L 6 = true → v 6 = .pointer (some ⟨x.b, 0, none⟩))
        ∧ (L 7 = true → v 7 = .pointer (some ⟨x.b, 0, none⟩))
        ∧ (L 8 = true → v 8 = .string ⟨(x.mo.name).toArray⟩)
        ∧ (L 9 = true → v 9 = .string ⟨(nm).toArray⟩)
        ∧ (L 10 = true → v 10 = .bool false)
        ∧ (L 11 = true → v 11 = .bool false)
        ∧ (L 12 = true → v 12 = .bool false)) (by kernel_rfl) (by kernel_rfl) ?_ ?_ (l := [(4, 0), (5, 1), (6, 2), (7, 3), (8, 4), (9, 5), (10, 6), (11, 7), (12, 8), (13, 9), (14, 10), (15, 11), (3, 12)]) (by kernel_rfl) (n := 13) rfl ?_
    · intro v
      exact ⟨(X.refl _).drew, fun h => Bool.noConfusion h, fun h => Bool.noConfusion h, fun h => Bool.noConfusion h, fun h => Bool.noConfusion h, fun h => Bool.noConfusion h, fun h => Bool.noConfusion h, fun h => Bool.noConfusion h, fun h => Bool.noConfusion h, fun h => Bool.noConfusion h, fun h => Bool.noConfusion h, fun h => Bool.noConfusion h, fun h => Bool.noConfusion h, fun h => Bool.noConfusion h⟩
    · intro i hi
      have hi' : i = 0 ∨ i = 1 ∨ i = 2 ∨ i = 3 ∨ i = 4 ∨ i = 5 ∨ i = 6 ∨ i = 7 ∨ i = 8 ∨ i = 9 ∨ i = 10 ∨ i = 11 ∨ i = 12 := by
        have : i < 13 := hi
        omega
      clear hi
      rcases hi' with rfl | rfl | rfl | rfl | rfl | rfl | rfl | rfl | rfl | rfl | rfl | rfl | rfl
      all_goals
        intro o ho L v aa W hI hS hL hA K hK
        cases (show some _ = some o from ho)
        obtain ⟨xx, v0, v1, v2, v3, v4, v5, v6, v7, v8, v9, v10, v11, v12⟩ := hI
      · have o0 := hS.old 0 (by kernel_rfl) rfl
        have m3w := (xx.cell (p := ⟨x.b, 3, none⟩) l).trans m3
        have m0w := (xx.cell (p := ⟨x.b, 0, none⟩) l).trans m0
        have n0w := (xx.cell (p := ⟨nb, 0, none⟩) ln).trans n0
        have lw := Nat.lt_of_lt_of_le l xx.size
        have lnw := Nat.lt_of_lt_of_le ln xx.size
        refine wantY (by exact rfl) ?_
        clear hS ho hA
        go_simp
        exact hK _ W ⟨xx, fun _ => rfl, v1, v2, v3, v4, v5, v6, v7, v8, v9, v10, v11, v12⟩
      · have l0 : L 0 = true := hA ⟨0, .data⟩ (by simp) rfl
        have g0 := hS.get 0 4 rfl l0 (v0 l0)
        have m3w := (xx.cell (p := ⟨x.b, 3, none⟩) l).trans m3
        have m0w := (xx.cell (p := ⟨x.b, 0, none⟩) l).trans m0
        have n0w := (xx.cell (p := ⟨nb, 0, none⟩) ln).trans n0
        have lw := Nat.lt_of_lt_of_le l xx.size
        have lnw := Nat.lt_of_lt_of_le ln xx.size
        refine wantY (by exact rfl) ?_
        clear hS ho hA
        go_simp
        exact hK _ W ⟨xx, v0, fun _ => rfl, v2, v3, v4, v5, v6, v7, v8, v9, v10, v11, v12⟩
      · have l1 : L 1 = true := hA ⟨1, .data⟩ (by simp) rfl
        have g1 := hS.get 1 5 rfl l1 (v1 l1)
        have m3w := (xx.cell (p := ⟨x.b, 3, none⟩) l).trans m3
        have m0w := (xx.cell (p := ⟨x.b, 0, none⟩) l).trans m0
        have n0w := (xx.cell (p := ⟨nb, 0, none⟩) ln).trans n0
        have lw := Nat.lt_of_lt_of_le l xx.size
        have lnw := Nat.lt_of_lt_of_le ln xx.size
        refine wantY (by exact rfl) ?_
        clear hS ho hA
        go_simp
        exact hK _ W ⟨xx, v0, v1, fun _ => rfl, v3, v4, v5, v6, v7, v8, v9, v10, v11, v12⟩
      · have l2 : L 2 = true := hA ⟨2, .data⟩ (by simp) rfl
        have g2 := hS.get 2 6 rfl l2 (v2 l2)
        have m3w := (xx.cell (p := ⟨x.b, 3, none⟩) l).trans m3
        have m0w := (xx.cell (p := ⟨x.b, 0, none⟩) l).trans m0
        have n0w := (xx.cell (p := ⟨nb, 0, none⟩) ln).trans n0
        have lw := Nat.lt_of_lt_of_le l xx.size
        have lnw := Nat.lt_of_lt_of_le ln xx.size
        refine wantY (by exact rfl) ?_
        clear hS ho hA
        go_simp
        exact hK _ W ⟨xx, v0, v1, v2, fun _ => rfl, v4, v5, v6, v7, v8, v9, v10, v11, v12⟩
      · have l3 : L 3 = true := hA ⟨3, .data⟩ (by simp) rfl
        have g3 := hS.get 3 7 rfl l3 (v3 l3)
        have m3w := (xx.cell (p := ⟨x.b, 3, none⟩) l).trans m3
        have m0w := (xx.cell (p := ⟨x.b, 0, none⟩) l).trans m0
        have n0w := (xx.cell (p := ⟨nb, 0, none⟩) ln).trans n0
        have lw := Nat.lt_of_lt_of_le l xx.size
        have lnw := Nat.lt_of_lt_of_le ln xx.size
        refine wantY (by exact rfl) ?_
        clear hS ho hA
        go_simp
        exact hK _ W ⟨xx, v0, v1, v2, v3, fun _ => rfl, v5, v6, v7, v8, v9, v10, v11, v12⟩
      · have l4 : L 4 = true := hA ⟨4, .guard⟩ (by simp) rfl
        have o0 := hS.old 0 (by kernel_rfl) rfl
        have m3w := (xx.cell (p := ⟨x.b, 3, none⟩) l).trans m3
        have m0w := (xx.cell (p := ⟨x.b, 0, none⟩) l).trans m0
        have n0w := (xx.cell (p := ⟨nb, 0, none⟩) ln).trans n0
        have lw := Nat.lt_of_lt_of_le l xx.size
        have lnw := Nat.lt_of_lt_of_le ln xx.size
        refine wantY (by rw [wanted_of rfl (hS.yield 4 8 rfl l4 (v4 l4))]; rfl) ?_
        clear hS ho hA
        go_simp
        exact hK _ W ⟨xx, v0, v1, v2, v3, v4, fun _ => rfl, v6, v7, v8, v9, v10, v11, v12⟩
      · have l4 : L 4 = true := hA ⟨4, .guard⟩ (by simp) rfl
        have l5 : L 5 = true := hA ⟨5, .data⟩ (by simp) rfl
        have g5 := hS.get 5 9 rfl l5 (v5 l5)
        have m3w := (xx.cell (p := ⟨x.b, 3, none⟩) l).trans m3
        have m0w := (xx.cell (p := ⟨x.b, 0, none⟩) l).trans m0
        have n0w := (xx.cell (p := ⟨nb, 0, none⟩) ln).trans n0
        have lw := Nat.lt_of_lt_of_le l xx.size
        have lnw := Nat.lt_of_lt_of_le ln xx.size
        refine wantY (by rw [wanted_of rfl (hS.yield 4 8 rfl l4 (v4 l4))]; rfl) ?_
        clear hS ho hA
        go_simp
        exact hK _ W ⟨xx, v0, v1, v2, v3, v4, v5, fun _ => rfl, v7, v8, v9, v10, v11, v12⟩
      · have l4 : L 4 = true := hA ⟨4, .guard⟩ (by simp) rfl
        have l6 : L 6 = true := hA ⟨6, .data⟩ (by simp) rfl
        have g6 := hS.get 6 10 rfl l6 (v6 l6)
        have m3w := (xx.cell (p := ⟨x.b, 3, none⟩) l).trans m3
        have m0w := (xx.cell (p := ⟨x.b, 0, none⟩) l).trans m0
        have n0w := (xx.cell (p := ⟨nb, 0, none⟩) ln).trans n0
        have lw := Nat.lt_of_lt_of_le l xx.size
        have lnw := Nat.lt_of_lt_of_le ln xx.size
        refine wantY (by rw [wanted_of rfl (hS.yield 4 8 rfl l4 (v4 l4))]; rfl) ?_
        clear hS ho hA
        go_simp
        exact hK _ W ⟨xx, v0, v1, v2, v3, v4, v5, v6, fun _ => rfl, v8, v9, v10, v11, v12⟩
      · have l4 : L 4 = true := hA ⟨4, .guard⟩ (by simp) rfl
        have l7 : L 7 = true := hA ⟨7, .data⟩ (by simp) rfl
        have g7 := hS.get 7 11 rfl l7 (v7 l7)
        have m3w := (xx.cell (p := ⟨x.b, 3, none⟩) l).trans m3
        have m0w := (xx.cell (p := ⟨x.b, 0, none⟩) l).trans m0
        have n0w := (xx.cell (p := ⟨nb, 0, none⟩) ln).trans n0
        have lw := Nat.lt_of_lt_of_le l xx.size
        have lnw := Nat.lt_of_lt_of_le ln xx.size
        refine wantY (by rw [wanted_of rfl (hS.yield 4 8 rfl l4 (v4 l4))]; rfl) ?_
        clear hS ho hA
        go_simp
        exact hK _ W ⟨xx, v0, v1, v2, v3, v4, v5, v6, v7, fun _ => rfl, v9, v10, v11, v12⟩
      · have l4 : L 4 = true := hA ⟨4, .guard⟩ (by simp) rfl
        have o1 := hS.old 1 (by kernel_rfl) rfl
        have m3w := (xx.cell (p := ⟨x.b, 3, none⟩) l).trans m3
        have m0w := (xx.cell (p := ⟨x.b, 0, none⟩) l).trans m0
        have n0w := (xx.cell (p := ⟨nb, 0, none⟩) ln).trans n0
        have lw := Nat.lt_of_lt_of_le l xx.size
        have lnw := Nat.lt_of_lt_of_le ln xx.size
        refine wantY (by rw [wanted_of rfl (hS.yield 4 8 rfl l4 (v4 l4))]; rfl) ?_
        clear hS ho hA
        go_simp
        exact hK _ W ⟨xx, v0, v1, v2, v3, v4, v5, v6, v7, v8, fun _ => rfl, v10, v11, v12⟩
      · have l4 : L 4 = true := hA ⟨4, .guard⟩ (by simp) rfl
        have l8 : L 8 = true := hA ⟨8, .data⟩ (by simp) rfl
        have g8 := hS.get 8 12 rfl l8 (v8 l8)
        have l9 : L 9 = true := hA ⟨9, .data⟩ (by simp) rfl
        have g9 := hS.get 9 13 rfl l9 (v9 l9)
        have m3w := (xx.cell (p := ⟨x.b, 3, none⟩) l).trans m3
        have m0w := (xx.cell (p := ⟨x.b, 0, none⟩) l).trans m0
        have n0w := (xx.cell (p := ⟨nb, 0, none⟩) ln).trans n0
        have lw := Nat.lt_of_lt_of_le l xx.size
        have lnw := Nat.lt_of_lt_of_le ln xx.size
        refine wantY (by rw [wanted_of rfl (hS.yield 4 8 rfl l4 (v4 l4))]; rfl) ?_
        clear hS ho hA
        go_simp
        exact hK _ W ⟨xx, v0, v1, v2, v3, v4, v5, v6, v7, v8, v9, fun _ => rfl, v11, v12⟩
      · have l4 : L 4 = true := hA ⟨4, .data⟩ (by simp) rfl
        have g4 := hS.get 4 8 rfl l4 (v4 l4)
        have l10 : L 10 = true := hA ⟨10, .data⟩ (by simp) rfl
        have g10 := hS.get 10 14 rfl l10 (v10 l10)
        have m3w := (xx.cell (p := ⟨x.b, 3, none⟩) l).trans m3
        have m0w := (xx.cell (p := ⟨x.b, 0, none⟩) l).trans m0
        have n0w := (xx.cell (p := ⟨nb, 0, none⟩) ln).trans n0
        have lw := Nat.lt_of_lt_of_le l xx.size
        have lnw := Nat.lt_of_lt_of_le ln xx.size
        refine wantY (by exact rfl) ?_
        clear hS ho hA
        go_simp
        exact hK _ W ⟨xx, v0, v1, v2, v3, v4, v5, v6, v7, v8, v9, v10, fun _ => rfl, v12⟩
      · have l11 : L 11 = true := hA ⟨11, .data⟩ (by simp) rfl
        have g11 := hS.get 11 15 rfl l11 (v11 l11)
        have m3w := (xx.cell (p := ⟨x.b, 3, none⟩) l).trans m3
        have m0w := (xx.cell (p := ⟨x.b, 0, none⟩) l).trans m0
        have n0w := (xx.cell (p := ⟨nb, 0, none⟩) ln).trans n0
        have lw := Nat.lt_of_lt_of_le l xx.size
        have lnw := Nat.lt_of_lt_of_le ln xx.size
        refine wantY (by exact rfl) ?_
        clear hS ho hA
        go_simp
        exact hK _ W ⟨xx, v0, v1, v2, v3, v4, v5, v6, v7, v8, v9, v10, v11, fun _ => rfl⟩
    intro v W9 hI
    obtain ⟨xx, v0, v1, v2, v3, v4, v5, v6, v7, v8, v9, v10, v11, v12⟩ := hI
    have e0 := v0 rfl
    have e1 := v1 rfl
    have e2 := v2 rfl
    have e3 := v3 rfl
    have e4 := v4 rfl
    have e5 := v5 rfl
    have e6 := v6 rfl
    have e7 := v7 rfl
    have e8 := v8 rfl
    have e9 := v9 rfl
    have e10 := v10 rfl
    have e11 := v11 rfl
    have e12 := v12 rfl
    clear v0 v1 v2 v3 v4 v5 v6 v7 v8 v9 v10 v11 v12
    simp only [putL, List.foldl, List.setIfInBounds_toArray, List.set_cons_zero, List.set_cons_succ, e0, e1, e2, e3, e4, e5, e6, e7, e8, e9, e10, e11, e12]
    clear e0 e1 e2 e3 e4 e5 e6 e7 e8 e9 e10 e11 e12
    go_wp2
    go_ret
    exact ⟨by simp, xx⟩
  ·
    rw [c1] at m3
    go_enter Tryz.func176, Tryz.ntmps176
    go_wp2_with fail
    refine wp_region_invG (fun L v W => X w W
        ∧ (L 0 = true → v 0 = .pointer (some ⟨x.b, 0, none⟩))
        ∧ (L 1 = true → v 1 = .pointer (some ⟨x.b, 0, none⟩))
        ∧ (L 2 = true → v 2 = .pointer (some ⟨x.b, 3, none⟩))
        ∧ (L 3 = true → v 3 = .bool true)
        ∧ (L 4 = true → v 4 = .bool true)
        ∧ (L 5 = true → v 5 = .pointer (some ⟨x.b, 0, none⟩))
        ∧ (L 6 = true → v 6 = .pointer (some ⟨x.b, 0, none⟩))
        ∧ (L 7 = true → v 7 = .pointer (some ⟨x.b, 0, none⟩))
        ∧ (L 8 = true → v 8 = .string ⟨(x.mo.name).toArray⟩)
        ∧ (L 9 = true → v 9 = .string ⟨(nm).toArray⟩)
        ∧ (L 10 = true → v 10 = .bool true)
        ∧ (L 11 = true → v 11 = .bool true)
        ∧ (L 12 = true → v 12 = .bool true)) (by kernel_rfl) (by kernel_rfl) ?_ ?_ (l := [(4, 0), (5, 1), (6, 2), (7, 3), (8, 4), (9, 5), (10, 6), (11, 7), (12, 8), (13, 9), (14, 10), (15, 11), (3, 12)]) (by kernel_rfl) (n := 13) rfl ?_
    · intro v
      exact ⟨(X.refl _).drew, fun h => Bool.noConfusion h, fun h => Bool.noConfusion h, fun h => Bool.noConfusion h, fun h => Bool.noConfusion h, fun h => Bool.noConfusion h, fun h => Bool.noConfusion h, fun h => Bool.noConfusion h, fun h => Bool.noConfusion h, fun h => Bool.noConfusion h, fun h => Bool.noConfusion h, fun h => Bool.noConfusion h, fun h => Bool.noConfusion h, fun h => Bool.noConfusion h⟩
    · intro i hi
      have hi' : i = 0 ∨ i = 1 ∨ i = 2 ∨ i = 3 ∨ i = 4 ∨ i = 5 ∨ i = 6 ∨ i = 7 ∨ i = 8 ∨ i = 9 ∨ i = 10 ∨ i = 11 ∨ i = 12 := by
        have : i < 13 := hi
        omega
      clear hi
      rcases hi' with rfl | rfl | rfl | rfl | rfl | rfl | rfl | rfl | rfl | rfl | rfl | rfl | rfl
      all_goals
        intro o ho L v aa W hI hS hL hA K hK
        cases (show some _ = some o from ho)
        obtain ⟨xx, v0, v1, v2, v3, v4, v5, v6, v7, v8, v9, v10, v11, v12⟩ := hI
      · have o0 := hS.old 0 (by kernel_rfl) rfl
        have m3w := (xx.cell (p := ⟨x.b, 3, none⟩) l).trans m3
        have m0w := (xx.cell (p := ⟨x.b, 0, none⟩) l).trans m0
        have n0w := (xx.cell (p := ⟨nb, 0, none⟩) ln).trans n0
        have lw := Nat.lt_of_lt_of_le l xx.size
        have lnw := Nat.lt_of_lt_of_le ln xx.size
        refine wantY (by exact rfl) ?_
        clear hS ho hA
        go_simp
        exact hK _ W ⟨xx, fun _ => rfl, v1, v2, v3, v4, v5, v6, v7, v8, v9, v10, v11, v12⟩
      · have l0 : L 0 = true := hA ⟨0, .data⟩ (by simp) rfl
        have g0 := hS.get 0 4 rfl l0 (v0 l0)
        have m3w := (xx.cell (p := ⟨x.b, 3, none⟩) l).trans m3
        have m0w := (xx.cell (p := ⟨x.b, 0, none⟩) l).trans m0
        have n0w := (xx.cell (p := ⟨nb, 0, none⟩) ln).trans n0
        have lw := Nat.lt_of_lt_of_le l xx.size
        have lnw := Nat.lt_of_lt_of_le ln xx.size
        refine wantY (by exact rfl) ?_
        clear hS ho hA
        go_simp
        exact hK _ W ⟨xx, v0, fun _ => rfl, v2, v3, v4, v5, v6, v7, v8, v9, v10, v11, v12⟩
      · have l1 : L 1 = true := hA ⟨1, .data⟩ (by simp) rfl
        have g1 := hS.get 1 5 rfl l1 (v1 l1)
        have m3w := (xx.cell (p := ⟨x.b, 3, none⟩) l).trans m3
        have m0w := (xx.cell (p := ⟨x.b, 0, none⟩) l).trans m0
        have n0w := (xx.cell (p := ⟨nb, 0, none⟩) ln).trans n0
        have lw := Nat.lt_of_lt_of_le l xx.size
        have lnw := Nat.lt_of_lt_of_le ln xx.size
        refine wantY (by exact rfl) ?_
        clear hS ho hA
        go_simp
        exact hK _ W ⟨xx, v0, v1, fun _ => rfl, v3, v4, v5, v6, v7, v8, v9, v10, v11, v12⟩
      · have l2 : L 2 = true := hA ⟨2, .data⟩ (by simp) rfl
        have g2 := hS.get 2 6 rfl l2 (v2 l2)
        have m3w := (xx.cell (p := ⟨x.b, 3, none⟩) l).trans m3
        have m0w := (xx.cell (p := ⟨x.b, 0, none⟩) l).trans m0
        have n0w := (xx.cell (p := ⟨nb, 0, none⟩) ln).trans n0
        have lw := Nat.lt_of_lt_of_le l xx.size
        have lnw := Nat.lt_of_lt_of_le ln xx.size
        refine wantY (by exact rfl) ?_
        clear hS ho hA
        go_simp
        exact hK _ W ⟨xx, v0, v1, v2, fun _ => rfl, v4, v5, v6, v7, v8, v9, v10, v11, v12⟩
      · have l3 : L 3 = true := hA ⟨3, .data⟩ (by simp) rfl
        have g3 := hS.get 3 7 rfl l3 (v3 l3)
        have m3w := (xx.cell (p := ⟨x.b, 3, none⟩) l).trans m3
        have m0w := (xx.cell (p := ⟨x.b, 0, none⟩) l).trans m0
        have n0w := (xx.cell (p := ⟨nb, 0, none⟩) ln).trans n0
        have lw := Nat.lt_of_lt_of_le l xx.size
        have lnw := Nat.lt_of_lt_of_le ln xx.size
        refine wantY (by exact rfl) ?_
        clear hS ho hA
        go_simp
        exact hK _ W ⟨xx, v0, v1, v2, v3, fun _ => rfl, v5, v6, v7, v8, v9, v10, v11, v12⟩
      · have l4 : L 4 = true := hA ⟨4, .guard⟩ (by simp) rfl
        have o0 := hS.old 0 (by kernel_rfl) rfl
        have m3w := (xx.cell (p := ⟨x.b, 3, none⟩) l).trans m3
        have m0w := (xx.cell (p := ⟨x.b, 0, none⟩) l).trans m0
        have n0w := (xx.cell (p := ⟨nb, 0, none⟩) ln).trans n0
        have lw := Nat.lt_of_lt_of_le l xx.size
        have lnw := Nat.lt_of_lt_of_le ln xx.size
        refine wantY (by rw [wanted_of rfl (hS.yield 4 8 rfl l4 (v4 l4))]; rfl) ?_
        clear hS ho hA
        go_simp
        exact hK _ W ⟨xx, v0, v1, v2, v3, v4, fun _ => rfl, v6, v7, v8, v9, v10, v11, v12⟩
      · have l4 : L 4 = true := hA ⟨4, .guard⟩ (by simp) rfl
        have l5 : L 5 = true := hA ⟨5, .data⟩ (by simp) rfl
        have g5 := hS.get 5 9 rfl l5 (v5 l5)
        have m3w := (xx.cell (p := ⟨x.b, 3, none⟩) l).trans m3
        have m0w := (xx.cell (p := ⟨x.b, 0, none⟩) l).trans m0
        have n0w := (xx.cell (p := ⟨nb, 0, none⟩) ln).trans n0
        have lw := Nat.lt_of_lt_of_le l xx.size
        have lnw := Nat.lt_of_lt_of_le ln xx.size
        refine wantY (by rw [wanted_of rfl (hS.yield 4 8 rfl l4 (v4 l4))]; rfl) ?_
        clear hS ho hA
        go_simp
        exact hK _ W ⟨xx, v0, v1, v2, v3, v4, v5, fun _ => rfl, v7, v8, v9, v10, v11, v12⟩
      · have l4 : L 4 = true := hA ⟨4, .guard⟩ (by simp) rfl
        have l6 : L 6 = true := hA ⟨6, .data⟩ (by simp) rfl
        have g6 := hS.get 6 10 rfl l6 (v6 l6)
        have m3w := (xx.cell (p := ⟨x.b, 3, none⟩) l).trans m3
        have m0w := (xx.cell (p := ⟨x.b, 0, none⟩) l).trans m0
        have n0w := (xx.cell (p := ⟨nb, 0, none⟩) ln).trans n0
        have lw := Nat.lt_of_lt_of_le l xx.size
        have lnw := Nat.lt_of_lt_of_le ln xx.size
        refine wantY (by rw [wanted_of rfl (hS.yield 4 8 rfl l4 (v4 l4))]; rfl) ?_
        clear hS ho hA
        go_simp
        exact hK _ W ⟨xx, v0, v1, v2, v3, v4, v5, v6, fun _ => rfl, v8, v9, v10, v11, v12⟩
      · have l4 : L 4 = true := hA ⟨4, .guard⟩ (by simp) rfl
        have l7 : L 7 = true := hA ⟨7, .data⟩ (by simp) rfl
        have g7 := hS.get 7 11 rfl l7 (v7 l7)
        have m3w := (xx.cell (p := ⟨x.b, 3, none⟩) l).trans m3
        have m0w := (xx.cell (p := ⟨x.b, 0, none⟩) l).trans m0
        have n0w := (xx.cell (p := ⟨nb, 0, none⟩) ln).trans n0
        have lw := Nat.lt_of_lt_of_le l xx.size
        have lnw := Nat.lt_of_lt_of_le ln xx.size
        refine wantY (by rw [wanted_of rfl (hS.yield 4 8 rfl l4 (v4 l4))]; rfl) ?_
        clear hS ho hA
        go_simp
        exact hK _ W ⟨xx, v0, v1, v2, v3, v4, v5, v6, v7, fun _ => rfl, v9, v10, v11, v12⟩
      · have l4 : L 4 = true := hA ⟨4, .guard⟩ (by simp) rfl
        have o1 := hS.old 1 (by kernel_rfl) rfl
        have m3w := (xx.cell (p := ⟨x.b, 3, none⟩) l).trans m3
        have m0w := (xx.cell (p := ⟨x.b, 0, none⟩) l).trans m0
        have n0w := (xx.cell (p := ⟨nb, 0, none⟩) ln).trans n0
        have lw := Nat.lt_of_lt_of_le l xx.size
        have lnw := Nat.lt_of_lt_of_le ln xx.size
        refine wantY (by rw [wanted_of rfl (hS.yield 4 8 rfl l4 (v4 l4))]; rfl) ?_
        clear hS ho hA
        go_simp
        exact hK _ W ⟨xx, v0, v1, v2, v3, v4, v5, v6, v7, v8, fun _ => rfl, v10, v11, v12⟩
      · have l4 : L 4 = true := hA ⟨4, .guard⟩ (by simp) rfl
        have l8 : L 8 = true := hA ⟨8, .data⟩ (by simp) rfl
        have g8 := hS.get 8 12 rfl l8 (v8 l8)
        have l9 : L 9 = true := hA ⟨9, .data⟩ (by simp) rfl
        have g9 := hS.get 9 13 rfl l9 (v9 l9)
        have m3w := (xx.cell (p := ⟨x.b, 3, none⟩) l).trans m3
        have m0w := (xx.cell (p := ⟨x.b, 0, none⟩) l).trans m0
        have n0w := (xx.cell (p := ⟨nb, 0, none⟩) ln).trans n0
        have lw := Nat.lt_of_lt_of_le l xx.size
        have lnw := Nat.lt_of_lt_of_le ln xx.size
        refine wantY (by rw [wanted_of rfl (hS.yield 4 8 rfl l4 (v4 l4))]; rfl) ?_
        clear hS ho hA
        go_simp
        exact hK _ W ⟨xx, v0, v1, v2, v3, v4, v5, v6, v7, v8, v9, fun _ => rfl, v11, v12⟩
      · have l4 : L 4 = true := hA ⟨4, .data⟩ (by simp) rfl
        have g4 := hS.get 4 8 rfl l4 (v4 l4)
        have l10 : L 10 = true := hA ⟨10, .data⟩ (by simp) rfl
        have g10 := hS.get 10 14 rfl l10 (v10 l10)
        have m3w := (xx.cell (p := ⟨x.b, 3, none⟩) l).trans m3
        have m0w := (xx.cell (p := ⟨x.b, 0, none⟩) l).trans m0
        have n0w := (xx.cell (p := ⟨nb, 0, none⟩) ln).trans n0
        have lw := Nat.lt_of_lt_of_le l xx.size
        have lnw := Nat.lt_of_lt_of_le ln xx.size
        refine wantY (by exact rfl) ?_
        clear hS ho hA
        go_simp
        exact hK _ W ⟨xx, v0, v1, v2, v3, v4, v5, v6, v7, v8, v9, v10, fun _ => rfl, v12⟩
      · have l11 : L 11 = true := hA ⟨11, .data⟩ (by simp) rfl
        have g11 := hS.get 11 15 rfl l11 (v11 l11)
        have m3w := (xx.cell (p := ⟨x.b, 3, none⟩) l).trans m3
        have m0w := (xx.cell (p := ⟨x.b, 0, none⟩) l).trans m0
        have n0w := (xx.cell (p := ⟨nb, 0, none⟩) ln).trans n0
        have lw := Nat.lt_of_lt_of_le l xx.size
        have lnw := Nat.lt_of_lt_of_le ln xx.size
        refine wantY (by exact rfl) ?_
        clear hS ho hA
        go_simp
        exact hK _ W ⟨xx, v0, v1, v2, v3, v4, v5, v6, v7, v8, v9, v10, v11, fun _ => rfl⟩
    intro v W9 hI
    obtain ⟨xx, v0, v1, v2, v3, v4, v5, v6, v7, v8, v9, v10, v11, v12⟩ := hI
    have e0 := v0 rfl
    have e1 := v1 rfl
    have e2 := v2 rfl
    have e3 := v3 rfl
    have e4 := v4 rfl
    have e5 := v5 rfl
    have e6 := v6 rfl
    have e7 := v7 rfl
    have e8 := v8 rfl
    have e9 := v9 rfl
    have e10 := v10 rfl
    have e11 := v11 rfl
    have e12 := v12 rfl
    clear v0 v1 v2 v3 v4 v5 v6 v7 v8 v9 v10 v11 v12
    simp only [putL, List.foldl, List.setIfInBounds_toArray, List.set_cons_zero, List.set_cons_succ, e0, e1, e2, e3, e4, e5, e6, e7, e8, e9, e10, e11, e12]
    clear e0 e1 e2 e3 e4 e5 e6 e7 e8 e9 e10 e11 e12
    go_wp2
    go_ret
    exact ⟨by simp, xx⟩
def midx (ms : List Mp) (nm : List UInt8) (m : Nat) : Int := firstN (fun k => (nth ms k).mo.cached && (nth ms k).mo.name == nm) m
set_option maxRecDepth 100000 in
set_option maxHeartbeats 2000000 in
theorem IndexFuncM_c (ms : List Mp) (a : Option Addr) (c B nb : Nat) (nm : List UInt8) (w : World) (hO : w.ownsRow B 175 1 (.slice a ms.length c) ms.length (mptrs ms)) (hM : ∀ i, i < ms.length → MoW w B (nth ms i)) (hb : Bx w nb #[.string ⟨(nm).toArray⟩]) (hl : ms.length ≤ 1073741824) :
    Calls Tryz.prog 175 #[.slice a ms.length c, .func (.func 176) #[] #[.pointer (some ⟨nb, 0, none⟩)]] w fun e w' => e = .returned (.int .i64 (midx ms nm ms.length)) ∧ X w w' := by
  obtain ⟨m, hm⟩ : ∃ m, ms.length = m := ⟨_, rfl⟩
  rw [hm] at hO ⊢
  have Hm := Lib.hid hm
  have hl' : m ≤ 1073741824 := by omega
  clear hm hl
  go_enter Tryz.func175, Tryz.ntmps175
  go_wp2
  go_loopw [8] (fun i wr => ∃ k : Nat, k ≤ m ∧ i = .int .i64 k ∧ anyN (fun k => (nth ms k).mo.cached && (nth ms k).mo.name == nm) k = false ∧ X w wr) (fun i _ => m - (intOf i).toNat)
  case atStart => exact ⟨0, by omega, rfl, rfl, X.refl _⟩
  case round =>
    obtain ⟨k, hk, rfl, hno, hX⟩ := hrel
    by_cases hlt : k < m
    · obtain ⟨g, rfl, _, hgl⟩ := own_form (own_fr hO (hX.fr _)) (by omega)
      have hlt2 : k < ms.length := by have := Hm.out; omega
      have ck := row_cell (own_fr hO (hX.fr _)) k (.pointer (some ⟨(nth ms k).b, 0, none⟩)) (by unfold mptrs; rw [List.getElem?_map, List.getElem?_eq_getElem hlt2, nth_eq hlt2]; rfl)
      cases hs : (nth ms k).mo.cached && (nth ms k).mo.name == nm
      all_goals
        go_wp2_with (go_at_call 176; refine (cachedF_c (nth ms k) B nm nb _ ((hM _ hlt2).x hX) (hb.x hX)).mono ?_; rintro _ w3 ⟨rfl, hx3⟩; rw [hs])
      · go_roundw
        case rel => exact ⟨k + 1, by omega, by go_num, anyN_next hno hs, hX.trans hx3⟩
        case measure => simp [intOf]; omega
      · go_ret
        exact ⟨ret_int (firstN_some (p := fun k => (nth ms k).mo.cached && (nth ms k).mo.name == nm) hno hs hlt).symm, hX.trans hx3⟩
    · obtain rfl : k = m := by omega
      go_wp2
      go_ret
      exact ⟨ret_int (firstN_none (p := fun k => (nth ms k).mo.cached && (nth ms k).mo.name == nm) hno).symm, hX⟩
set_option maxRecDepth 100000 in
set_option maxHeartbeats 2000000 in
theorem cached_c (B mb : Nat) (tv pv : Value) (left q : Nat) (ms : List Mp) (nm : List UInt8) (w : World) (hS : MaW w B mb tv pv left q ms) (hl : q ≤ 1000000) :
    Calls Tryz.prog 140 #[.pointer (some ⟨mb, 0, none⟩), .string ⟨(nm).toArray⟩] w fun e w' => e = .returned (.int .i64 (midx ms nm ms.length)) ∧ X w w' := by
  obtain ⟨mv, ov, lv, qv, hX⟩ := hS
  obtain ⟨a, c, rfl, hO⟩ := hX.mrow
  have hlen := hX.len
  have hl2 : ms.length ≤ 1073741824 := by omega
  have hB : Bx w mb _ := ⟨_, hX.box⟩
  unfold macells at hB
  have hmods := hX.mods
  clear hX hl hlen
  go_enter Tryz.func140, Tryz.ntmps140
  go_upto_region 1 with fail
  refine wp_name (fun W0 hW0 => ?_)
  have hN : Bx W0 w.heap.size #[.string ⟨(nm).toArray⟩] := by rw [hW0]; exact Bx.new _ _ _
  have hX0 : X w W0 := by rw [hW0]; (repeat (first | with_reducible exact X.refl _ | with_reducible assumption | with_reducible refine X.setCell ?_ (by first | (simp; done) | (simp; omega)) _ | with_reducible refine X.ext ?_ _ | with_reducible refine X.alloc ?_ _ | with_reducible refine X.drew ?_))
  clear hW0
  obtain ⟨lt, ct, _⟩ := (hB.x hX0).out
  have t4 := ct 4
  clear ct
  go_wp2_with fail
  refine (IndexFuncM_c ms a c B w.heap.size nm W0 (own_fr hO (hX0.fr _)) (fun i hi => (hmods i hi).x hX0) hN hl2).mono ?_
  rintro _ w1 ⟨rfl, hx1⟩
  go_wp2
  go_ret
  exact ⟨rfl, hX0.trans hx1⟩

end Go.Proofs.YtgjfjjhmgbemcaaGreatDoor

namespace Go.Proofs.YtgjfjjhmgbemcaaGreatDoor
open Go.RowKit

theorem ev_T : AppT Tryz.prog 130 230 2 24 := AppT.of (z := .agg #[.int .i64 0, .string ⟨#[]⟩]) (by kernel_rfl) (by kernel_rfl) rfl (by omega)
theorem mp_T : AppT Tryz.prog 129 175 1 8 := AppT.of (z := .pointer none) (by kernel_rfl) (by kernel_rfl) rfl (by omega)
theorem at_T : AppT Tryz.prog 176 213 3 32 := AppT.of (z := .agg #[.string ⟨#[]⟩, .int .i64 0, .int .i64 0]) (by kernel_rfl) (by kernel_rfl) rfl (by omega)

theorem ma_out {W : World} {mb left : Nat} {tv pv mv ov lv qv : Value} (h : W.heap[mb]? = some (.cells (macells tv pv mv ov lv qv left) 132 (0, 0))) : mb < W.heap.size ∧ (∀ i, W.frozen? ⟨mb, i, none⟩ = false) ∧ W.cell? ⟨mb, 0, none⟩ = some tv ∧ W.cell? ⟨mb, 1, none⟩ = some pv ∧ W.cell? ⟨mb, 2, none⟩ = some .nilFunc ∧ W.cell? ⟨mb, 3, none⟩ = some (.func (.func 139) #[] #[]) ∧ W.cell? ⟨mb, 4, none⟩ = some mv ∧ W.cell? ⟨mb, 5, none⟩ = some ov ∧ W.cell? ⟨mb, 6, none⟩ = some lv ∧ W.cell? ⟨mb, 7, none⟩ = some qv ∧ W.cell? ⟨mb, 8, none⟩ = some (.int .i64 (left : Int)) := by
  obtain ⟨l, c, f⟩ := Bx.out ⟨_, h⟩
  exact ⟨l, f, c 0, c 1, c 2, c 3, c 4, c 5, c 6, c 7, c 8⟩
theorem mo_out {W : World} {x : Mp} (h : W.heap[x.b]? = some (.cells (mocells x) 178 (0, 0))) : x.b < W.heap.size ∧ (∀ i, W.frozen? ⟨x.b, i, none⟩ = false) ∧ W.cell? ⟨x.b, 0, none⟩ = some (.string ⟨(x.mo.name).toArray⟩) ∧ W.cell? ⟨x.b, 1, none⟩ = some (.int .i64 x.mo.kind) ∧ W.cell? ⟨x.b, 2, none⟩ = some x.rv ∧ W.cell? ⟨x.b, 3, none⟩ = some (.bool x.mo.cached) ∧ W.cell? ⟨x.b, 4, none⟩ = some (.bool x.mo.done) ∧ W.cell? ⟨x.b, 5, none⟩ = some x.av := by
  obtain ⟨l, c, f⟩ := Bx.out ⟨_, h⟩
  exact ⟨l, f, c 0, c 1, c 2, c 3, c 4, c 5⟩
theorem own_same {w w' : World} {B e size n : Nat} {v : Value} {xs : List Value} (h : w.ownsRow B e size v n xs) (hb : ∀ g, v.ownBlock = some g → w'.heap[g]? = w.heap[g]?) : w'.ownsRow B e size v n xs := by
  obtain ⟨hl, h | ⟨g, cap, cur, hv, hB, hg, hr⟩⟩ := h
  · exact ⟨hl, .inl h⟩
  · exact ⟨hl, .inr ⟨g, cap, cur, hv, hB, (hb g (by rw [hv]; rfl)).trans hg, hr⟩⟩
theorem own_blk {w : World} {B e size n : Nat} {v : Value} {xs : List Value} (h : w.ownsRow B e size v n xs) : ∀ b, v.ownBlock = some b → b < w.heap.size := fun b hb => (h.lt b hb).2
/-- A row does not lie in a block of another type. -/
theorem own_not {w : World} {B e size n t b : Nat} {v : Value} {xs : List Value} {cs : Array Value} {fz : Nat × Nat} (h : w.ownsRow B e size v n xs) (hb : w.heap[b]? = some (.cells cs t fz)) (hne : e ≠ t) : ∀ g, v.ownBlock = some g → g ≠ b := fun _ hg e => own_ne_at h hb hne (e ▸ hg)
theorem own_nor {w : World} {B B' e e' size size' n n' : Nat} {v v' : Value} {xs xs' : List Value} (h : w.ownsRow B e size v n xs) (h' : w.ownsRow B' e' size' v' n' xs') (hne : e ≠ e') : ∀ g, v.ownBlock = some g → v'.ownBlock ≠ some g := fun g hg e => by
  rcases row_ne h h' hne with h | h
  · rw [h] at hg; cases hg
  · exact h (hg.trans e.symm)
theorem apm_nor {v u : Value} (h : Apm v u) : ∀ g, v.ownBlock = some g → u.ownBlock ≠ some g := fun g hg e => by
  rcases h with h | h
  · rw [h] at hg; cases hg
  · exact h (hg.trans e.symm)

theorem MoW.same {w w' : World} {B : Nat} {x : Mp} (h : MoW w B x) (h1 : w'.heap[x.b]? = w.heap[x.b]?) (h2 : ∀ g, x.av.ownBlock = some g → w'.heap[g]? = w.heap[g]?) (h3 : ∀ g, x.rv.ownBlock = some g → w'.heap[g]? = w.heap[g]?) : MoW w' B x := by
  obtain ⟨k1, k2, ⟨a, c, e1, k3⟩, ⟨a2, c2, e2, k4⟩, k5⟩ := h
  exact ⟨h1.trans k1, k2, ⟨a, c, e1, own_same k3 h2⟩, ⟨a2, c2, e2, own_same k4 h3⟩, k5⟩
theorem MoW.arow {w : World} {B : Nat} {x : Mp} (h : MoW w B x) : w.ownsRow B 213 3 x.av x.mo.attrs.length (x.mo.attrs.flatMap atcells) := let ⟨_, _, _, h⟩ := h.atr; h
theorem MoW.rrow {w : World} {B : Nat} {x : Mp} (h : MoW w B x) : w.ownsRow B 3 1 x.rv x.mo.roots.length (ints x.mo.roots) := let ⟨_, _, _, h⟩ := h.rts; h
/-- A module keeps when a row of another type grows. -/
theorem MoW.own {w w' : World} {B B2 e size m : Nat} {x : Mp} {u : Value} {xs : List Value} (h : MoW w B x) (hg : w.grownBy w' u.ownBlock) (ho : w.ownsRow B2 e size u m xs) (h1 : e ≠ 178) (h2 : 213 ≠ e) (h3 : 3 ≠ e ∨ Apm x.rv u) : MoW w' B x := by
  have hl := (Bx.out ⟨_, h.box⟩).1
  refine h.same (hg.block _ hl fun e => own_ne_at ho h.box h1 e.symm) (fun g hgg => hg.block g (own_blk h.arow g hgg) fun e => own_nor h.arow ho h2 g hgg e.symm) (fun g hgg => hg.block g (own_blk h.rrow g hgg) fun e => ?_)
  rcases h3 with h3 | h3
  · exact own_nor h.rrow ho h3 g hgg e.symm
  · exact apm_nor h3 g hgg e.symm
/-- A module keeps when a cell of a box of another type is written. -/
theorem MoW.far {w : World} {B b : Nat} {x : Mp} {cs : Array Value} {t : TypeId} (h : MoW w B x) (hb : w.heap[b]? = some (.cells cs t (0, 0))) (h1 : 178 ≠ t) (h2 : 213 ≠ t) (h3 : 3 ≠ t) (i : Nat) (u : Value) : MoW (w.setCell ⟨b, i, none⟩ u) B x := by
  have hne : x.b ≠ b := fun e => by
    have hx := h.box
    rw [e, hb] at hx
    injection hx with hx
    injection hx with _ hx
    exact h1 hx.symm
  exact h.same (heap_setCell_other w ⟨b, i, none⟩ x.b u hne) (fun g hg => heap_setCell_other w ⟨b, i, none⟩ g u (own_not h.arow hb h2 g hg)) (fun g hg => heap_setCell_other w ⟨b, i, none⟩ g u (own_not h.rrow hb h3 g hg))

section
variable {w w' : World} {B mb left q : Nat} {tv pv mv ov lv qv : Value} {ms : List Mp}
/-- A cell of the machine's box is written; what lies elsewhere stays. -/
theorem MaX.cell (h : MaX w B mb tv pv left q ms mv ov lv qv) (i : Nat) (u : Value) :
    (w.setCell ⟨mb, i, none⟩ u).heap[mb]? = some (.cells ((macells tv pv mv ov lv qv left).setIfInBounds i u) 132 (0, 0)) := heap_setCell_same w mb i _ 132 u h.box
/-- The log has grown. -/
theorem MaX.log (h : MaX w B mb tv pv left q ms mv ov lv qv) {a' : Option Addr} {k' c' : Nat} {es' : List Value} (hg : w.grownBy w' lv.ownBlock) (hL : w'.ownsRow B 230 2 (.slice a' k' c') k' es') (hk : k' ≤ q + 1) :
    MaX (w'.setCell ⟨mb, 6, none⟩ (.slice a' k' c')) B mb tv pv left (q + 1) ms mv ov (.slice a' k' c') qv := by
  obtain ⟨h1, h2, h3, ⟨a1, c1, e1, o1⟩, ⟨p2, a2, c2, e2, l2, o2⟩, ⟨a3, k3, c3, p3, e3, l3, o3⟩, ⟨p4, a4, c4, e4, l4, m4, o4⟩, h8, h9, h10⟩ := h
  have hb' := at_grown h1 hg (own_ne_at o3 h1 (by decide))
  refine ⟨heap_setCell_same _ mb 6 _ 132 (.slice a' k' c') hb', h2, by omega, ⟨a1, c1, e1, own_set_far (o1.kept hg (row_ne o1 o3 (by decide))) hb' (by decide) _ _⟩, ⟨p2, a2, c2, e2, by omega, own_set_far (o2.kept hg (row_ne o2 o3 (by decide))) hb' (by decide) _ _⟩, ⟨a', k', c', es', rfl, hk, own_set_far hL hb' (by decide) _ _⟩, ⟨p4, a4, c4, e4, by omega, m4, own_set_far (o4.kept hg (row_ne o4 o3 (by decide))) hb' (by decide) _ _⟩, fun i hi => ?_, h9, h10⟩
  exact ((h8 i hi).own hg o3 (by decide) (by decide) (.inl (by decide))).far hb' (by decide) (by decide) (by decide) _ _
/-- The names seen in part have grown. -/
theorem MaX.part (h : MaX w B mb tv pv left q ms mv ov lv qv) {a' : Option Addr} {c' : Nat} {qs : List (List UInt8)} (hg : w.grownBy w' qv.ownBlock) (hL : w'.ownsRow B 9 1 (.slice a' qs.length c') qs.length (strs qs)) (hk : qs.length ≤ q + 1) (hs : ∀ s ∈ qs, s.length ≤ 1048576) :
    MaX (w'.setCell ⟨mb, 7, none⟩ (.slice a' qs.length c')) B mb tv pv left (q + 1) ms mv ov lv (.slice a' qs.length c') := by
  obtain ⟨h1, h2, h3, ⟨a1, c1, e1, o1⟩, ⟨p2, a2, c2, e2, l2, o2⟩, ⟨a3, k3, c3, p3, e3, l3, o3⟩, ⟨p4, a4, c4, e4, l4, m4, o4⟩, h8, h9, h10⟩ := h
  have hb' := at_grown h1 hg (own_ne_at o4 h1 (by decide))
  refine ⟨heap_setCell_same _ mb 7 _ 132 (.slice a' qs.length c') hb', h2, by omega, ⟨a1, c1, e1, own_set_far (o1.kept hg (row_ne o1 o4 (by decide))) hb' (by decide) _ _⟩, ⟨p2, a2, c2, e2, by omega, own_set_far (o2.kept hg (row_ne o2 o4 (by decide))) hb' (by decide) _ _⟩, ⟨a3, k3, c3, p3, e3, by omega, own_set_far (o3.kept hg (row_ne o3 o4 (by decide))) hb' (by decide) _ _⟩, ⟨qs, a', c', rfl, hk, hs, own_set_far hL hb' (by decide) _ _⟩, fun i hi => ?_, h9, h10⟩
  exact ((h8 i hi).own hg o4 (by decide) (by decide) (.inl (by decide))).far hb' (by decide) (by decide) (by decide) _ _
/-- What is printed has grown. -/
theorem MaX.out (h : MaX w B mb tv pv left q ms mv ov lv qv) {a' : Option Addr} {c' : Nat} {out : List Int} (hg : w.grownBy w' ov.ownBlock) (hL : w'.ownsRow B 3 1 (.slice a' out.length c') out.length (ints out)) (hk : out.length ≤ q + 1) (hm : Mv w ov (.slice a' out.length c')) :
    MaX (w'.setCell ⟨mb, 5, none⟩ (.slice a' out.length c')) B mb tv pv left (q + 1) ms mv (.slice a' out.length c') lv qv := by
  obtain ⟨h1, h2, h3, ⟨a1, c1, e1, o1⟩, ⟨p2, a2, c2, e2, l2, o2⟩, ⟨a3, k3, c3, p3, e3, l3, o3⟩, ⟨p4, a4, c4, e4, l4, m4, o4⟩, h8, h9, h10⟩ := h
  have hb' := at_grown h1 hg (own_ne_at o2 h1 (by decide))
  refine ⟨heap_setCell_same _ mb 5 _ 132 (.slice a' out.length c') hb', h2, by omega, ⟨a1, c1, e1, own_set_far (o1.kept hg (row_ne o1 o2 (by decide))) hb' (by decide) _ _⟩, ⟨out, a', c', rfl, hk, own_set_far hL hb' (by decide) _ _⟩, ⟨a3, k3, c3, p3, e3, by omega, own_set_far (o3.kept hg (row_ne o3 o2 (by decide))) hb' (by decide) _ _⟩, ⟨p4, a4, c4, e4, by omega, m4, own_set_far (o4.kept hg (row_ne o4 o2 (by decide))) hb' (by decide) _ _⟩, fun i hi => ?_, h9, fun i hi => ?_⟩
  · exact ((h8 i hi).own hg o2 (by decide) (by decide) (.inr (h10 i hi))).far hb' (by decide) (by decide) (by decide) _ _
  · exact (h10 i hi).mv hm (own_blk (h8 i hi).rrow)
/-- The fuel is another. -/
theorem MaX.fuel (h : MaX w B mb tv pv left q ms mv ov lv qv) (left' : Nat) : MaX (w.setCell ⟨mb, 8, none⟩ (.int .i64 (left' : Int))) B mb tv pv left' q ms mv ov lv qv := by
  obtain ⟨h1, h2, h3, ⟨a1, c1, e1, o1⟩, ⟨p2, a2, c2, e2, l2, o2⟩, ⟨a3, k3, c3, p3, e3, l3, o3⟩, ⟨p4, a4, c4, e4, l4, m4, o4⟩, h8, h9, h10⟩ := h
  exact ⟨heap_setCell_same _ mb 8 _ 132 (.int .i64 (left' : Int)) h1, h2, h3, ⟨a1, c1, e1, own_set_far o1 h1 (by decide) _ _⟩, ⟨p2, a2, c2, e2, l2, own_set_far o2 h1 (by decide) _ _⟩, ⟨a3, k3, c3, p3, e3, l3, own_set_far o3 h1 (by decide) _ _⟩, ⟨p4, a4, c4, e4, l4, m4, own_set_far o4 h1 (by decide) _ _⟩, fun i hi => (h8 i hi).far h1 (by decide) (by decide) (by decide) _ _, h9, h10⟩
theorem nth_snoc (ms : List Mp) (x : Mp) : nth (ms ++ [x]) ms.length = x := by
  have := nth_append_right (l := ms) (m := [x]) 0
  rw [Nat.add_zero] at this
  exact this
/-- A module more. -/
theorem MaX.snoc (h : MaX w B mb tv pv left q ms mv ov lv qv) {a' : Option Addr} {c' : Nat} {x : Mp} (hg : w.grownBy w' mv.ownBlock) (hL : w'.ownsRow B 175 1 (.slice a' (ms ++ [x]).length c') (ms ++ [x]).length (mptrs (ms ++ [x])))
    (hx : MoW w B x) (hb : ∀ i, i < ms.length → (nth ms i).b ≠ x.b ∧ Apm (nth ms i).av x.av) (ho : Apm x.rv ov) :
    MaX (w'.setCell ⟨mb, 4, none⟩ (.slice a' (ms ++ [x]).length c')) B mb tv pv left (q + 1) (ms ++ [x]) (.slice a' (ms ++ [x]).length c') ov lv qv := by
  obtain ⟨h1, h2, h3, ⟨a1, c1, e1, o1⟩, ⟨p2, a2, c2, e2, l2, o2⟩, ⟨a3, k3, c3, p3, e3, l3, o3⟩, ⟨p4, a4, c4, e4, l4, m4, o4⟩, h8, h9, h10⟩ := h
  have hb' := at_grown h1 hg (own_ne_at o1 h1 (by decide))
  have hlen : (ms ++ [x]).length = ms.length + 1 := by simp
  refine ⟨heap_setCell_same _ mb 4 _ 132 (.slice a' (ms ++ [x]).length c') hb', h2, by omega, ⟨a', c', rfl, own_set_far hL hb' (by decide) _ _⟩, ⟨p2, a2, c2, e2, by omega, own_set_far (o2.kept hg (row_ne o2 o1 (by decide))) hb' (by decide) _ _⟩, ⟨a3, k3, c3, p3, e3, by omega, own_set_far (o3.kept hg (row_ne o3 o1 (by decide))) hb' (by decide) _ _⟩, ⟨p4, a4, c4, e4, by omega, m4, own_set_far (o4.kept hg (row_ne o4 o1 (by decide))) hb' (by decide) _ _⟩, fun i hi => ?_, fun i j hi hj hij => ?_, fun i hi => ?_⟩
  · by_cases hil : i < ms.length
    · rw [nth_append_left hil]
      exact ((h8 i hil).own hg o1 (by decide) (by decide) (.inl (by decide))).far hb' (by decide) (by decide) (by decide) _ _
    · obtain rfl : i = ms.length := by omega
      rw [nth_snoc]
      exact (hx.own hg o1 (by decide) (by decide) (.inl (by decide))).far hb' (by decide) (by decide) (by decide) _ _
  · by_cases hil : i < ms.length <;> by_cases hjl : j < ms.length
    · rw [nth_append_left hil, nth_append_left hjl]
      exact h9 i j hil hjl hij
    · obtain rfl : j = ms.length := by omega
      rw [nth_append_left hil, nth_snoc]
      exact hb i hil
    · obtain rfl : i = ms.length := by omega
      rw [nth_append_left hjl, nth_snoc]
      exact ⟨(hb j hjl).1.symm, (hb j hjl).2.symm⟩
    · omega
  · by_cases hil : i < ms.length
    · rw [nth_append_left hil]
      exact h10 i hil
    · obtain rfl : i = ms.length := by omega
      rw [nth_snoc]
      exact ho
/-- Only a module's box and the row of its attributes may have changed. -/
structure ChM (w w' : World) (x : Mp) : Prop where
  os : w'.os = w.os
  tape : w'.tape = w.tape
  output : w'.output = w.output
  size : w.heap.size ≤ w'.heap.size
  block : ∀ b, b < w.heap.size → b ≠ x.b → x.av.ownBlock ≠ some b → w'.heap[b]? = w.heap[b]?
theorem ChM.kp {x : Mp} (h : ChM w w' x) (hM : MoW w B x) (hB : B ≤ w.heap.size) : Kp B w w' :=
  ⟨⟨h.os, h.tape, h.output, h.size, fun k hk => h.block k (by omega) (by have := hM.lo; omega) (fun e => by have := (hM.arow.lt k e).1; omega)⟩, fun b cs t ht hb => (h.block b (Bx.out ⟨_, hb⟩).1 (fun e => by
    have := hM.box
    rw [← e, hb] at this
    injection this with this
    injection this with _ this
    rw [this] at ht
    exact absurd ht (by unfold KT; decide)) (own_ne_at hM.arow hb (fun e => by
    rw [← e] at ht
    exact absurd ht (by unfold KT; decide)))).trans hb⟩
theorem nth_setM {ms : List Mp} {k : Nat} (hk : k < ms.length) (x : Mp) (i : Nat) : nth (ms.set k x) i = if i = k then x else nth ms i := by
  unfold nth
  rw [List.getD_eq_getElem?_getD, List.getD_eq_getElem?_getD, List.getElem?_set]
  by_cases h : i = k
  · subst h
    simp [hk]
  · rw [if_neg h, if_neg (Ne.symm h)]
theorem mptrs_set {ms : List Mp} {k : Nat} (hk : k < ms.length) {x : Mp} (hb : x.b = (nth ms k).b) : mptrs (ms.set k x) = mptrs ms := by
  unfold mptrs
  rw [List.map_set, hb, nth_eq hk]
  apply List.ext_getElem
  · simp
  · intro i h1 h2
    rw [List.getElem_set]
    split
    · rename_i e
      subst e
      simp
    · rfl
/-- A module has changed. -/
theorem MaX.mod (h : MaX w B mb tv pv left q ms mv ov lv qv) {k : Nat} (hk : k < ms.length) {x : Mp} (hc : ChM w w' (nth ms k)) (hx : MoW w' B x) (hb : x.b = (nth ms k).b) (hr : x.rv = (nth ms k).rv) (hm : Mv w (nth ms k).av x.av) :
    MaX w' B mb tv pv left q (ms.set k x) mv ov lv qv := by
  obtain ⟨h1, h2, h3, ⟨a1, c1, e1, o1⟩, ⟨p2, a2, c2, e2, l2, o2⟩, ⟨a3, k3, c3, p3, e3, l3, o3⟩, ⟨p4, a4, c4, e4, l4, m4, o4⟩, h8, h9, h10⟩ := h
  have hK := h8 k hk
  have hrow : ∀ {B2 e size n : Nat} {v : Value} {xs : List Value}, w.ownsRow B2 e size v n xs → e ≠ 178 → e ≠ 213 → w'.ownsRow B2 e size v n xs := fun ho n1 n2 =>
    own_same ho fun g hg => hc.block g (own_blk ho g hg) (own_not ho hK.box n1 g hg) (own_nor ho hK.arow n2 g hg)
  refine ⟨(hc.block mb (Bx.out ⟨_, h1⟩).1 (fun e => ?_) (own_ne_at hK.arow h1 (by decide))).trans h1, h2, by rw [List.length_set]; exact h3, ⟨a1, c1, by rw [List.length_set]; exact e1, by rw [List.length_set, mptrs_set hk hb]; exact hrow o1 (by decide) (by decide)⟩, ⟨p2, a2, c2, e2, l2, hrow o2 (by decide) (by decide)⟩, ⟨a3, k3, c3, p3, e3, l3, hrow o3 (by decide) (by decide)⟩, ⟨p4, a4, c4, e4, l4, m4, hrow o4 (by decide) (by decide)⟩, fun i hi => ?_, fun i j hi hj hij => ?_, fun i hi => ?_⟩
  · have := hK.box
    rw [← e, h1] at this
    injection this with this
    injection this with _ this
    exact absurd this (by decide)
  · rw [List.length_set] at hi
    rw [nth_setM hk]
    split
    · exact hx
    · rename_i hik
      have hs := h9 i k hi hk hik
      exact (h8 i hi).same (hc.block _ (Bx.out ⟨_, (h8 i hi).box⟩).1 hs.1 (own_ne_at hK.arow (h8 i hi).box (by decide))) (fun g hg => hc.block g (own_blk (h8 i hi).arow g hg) (own_not (h8 i hi).arow hK.box (by decide) g hg) (apm_nor hs.2 g hg)) (fun g hg => hc.block g (own_blk (h8 i hi).rrow g hg) (own_not (h8 i hi).rrow hK.box (by decide) g hg) (own_nor (h8 i hi).rrow hK.arow (by decide) g hg))
  · rw [List.length_set] at hi hj
    rw [nth_setM hk, nth_setM hk]
    by_cases e1 : i = k <;> by_cases e2 : j = k
    · omega
    · rw [if_pos e1, if_neg e2, hb]
      have hs := h9 j k hj hk e2
      exact ⟨hs.1.symm, (hs.2.mv hm (own_blk (h8 j hj).arow)).symm⟩
    · rw [if_neg e1, if_pos e2, hb]
      have hs := h9 i k hi hk e1
      exact ⟨hs.1, hs.2.mv hm (own_blk (h8 i hi).arow)⟩
    · rw [if_neg e1, if_neg e2]
      exact h9 i j hi hj hij
  · rw [List.length_set] at hi
    rw [nth_setM hk]
    split
    · rw [hr]; exact h10 k hk
    · exact h10 i hi
end

theorem unwantM {o : Oper} {y : Nat → Option Bool} {A E : Prop} (hg : Region.wanted o y = true) (h : if Region.wanted o y = true then A else E) : A := by rwa [if_pos hg] at h
theorem mv_of {w W : World} {v : Value} {g n c : Nat} (hx : w.heap.size ≤ W.heap.size) (h : v.ownBlock = some g ∨ g = W.heap.size) : Mv w v (.slice (some ⟨g, 0, none⟩) n c) := by
  rcases h with h | h
  · exact .inr (.inl h.symm)
  · exact .inr (.inr ⟨g, rfl, by omega⟩)
/-- append of a literal onto an owned slice, in a region that draws its order: where the row lies, too. -/
theorem step_append_m {P : Program} {ops : Array Oper} {o : Oper} {a : Act} {K : Act → World → Prop} {Q : Exit → Act → World → Prop} {E : Prop} {t e size bytes : Nat} (hT : AppT P t e size bytes) (hgd : o.guard = none) (s x : Operand)
    (ho : o.op = .call { callee := .builtin .append, args := #[s, x], argTypes := #[t, t] }) {w W : World} (hX : X w W) {B : Nat} {v : Value} {n : Nat} {xs : List Value} {cs : Array Value}
    (hown : w.ownsRow B e size v n xs) (hs : a.eval s = v) {g : Nat} (hx : a.eval x = .slice (some ⟨g, 0, none⟩) 1 1) (hg : W.heap[g]? = some (.cells cs e (0, 0))) (hcs : cs.size = size) (h1 : ∀ u ∈ cs.toList, u.oneCell' = true)
    (hb : (n + 1) * bytes ≤ 140737488355328) (hn : n + 1 ≤ 9223372036854775807) (hBw : B ≤ w.heap.size)
    (h : ∀ g' c' w', w'.ownsRow B e size (.slice (some ⟨g', 0, none⟩) (n + 1) c') (n + 1) (xs ++ cs.toList) → w.grownBy w' v.ownBlock → Mv w v (.slice (some ⟨g', 0, none⟩) (n + 1) c') → K (a.put o.dst (.slice (some ⟨g', 0, none⟩) (n + 1) c')) w') :
    if Region.wanted o (yielded ops a.tmps) = true then Oper.wp P o a W K Q else E := by
  obtain ⟨i, z, hi, hz, hsize, hby, hzs⟩ := hT.hi
  exact step_append_lies W hgd s x t ho B e i z size bytes hT.ht hi hz hsize hby hzs hT.hsz v n xs hs (own_fr hown (hX.fr _)) ⟨g, 0, none⟩ 1 1 cs.toList hx (by simp [hcs]) (World.news_of_block hg) h1 (by omega) (by unfold maxLen; omega) hb
    (Nat.le_trans hBw hX.size) _ rfl (fun g' cap w' h2 h3 h4 _ => h _ _ w' h2 (hX.grown h3) (mv_of hX.size h4))
/-- append of a literal onto an owned slice: where the row lies, too. -/
theorem wpList_append_m {P : Program} {ops : Array Oper} {rest : List Oper} {o : Oper} {a : Act} {Q : Exit → Act → World → Prop} {t e size bytes : Nat} (hT : AppT P t e size bytes) (hgd : o.guard = none) (s x : Operand)
    (ho : o.op = .call { callee := .builtin .append, args := #[s, x], argTypes := #[t, t] }) {w : World} {B : Nat} {v : Value} {n : Nat} {xs : List Value} {cs : Array Value}
    (hown : w.ownsRow B e size v n xs) (hs : a.eval s = v) {g : Nat} (hx : a.eval x = .slice (some ⟨g, 0, none⟩) 1 1) (hg : g = w.heap.size) (hcs : cs.size = size) (h1 : ∀ u ∈ cs.toList, u.oneCell' = true)
    (hb : (n + 1) * bytes ≤ 140737488355328) (hn : n + 1 ≤ 9223372036854775807) (hBw : B ≤ w.heap.size)
    (h : ∀ a' c' w', w'.ownsRow B e size (.slice a' (n + 1) c') (n + 1) (xs ++ cs.toList) → w.grownBy w' v.ownBlock → Mv w v (.slice a' (n + 1) c') → wpList P ops Q rest (a.put o.dst (.slice a' (n + 1) c')) w') :
    wpList P ops Q (o :: rest) a (w.alloc (.cells cs e)) := by
  subst hg
  obtain ⟨i, z, hi, hz, hsize, hby, hzs⟩ := hT.hi
  refine wpList_append_own_at _ hgd s x t ho B e i z size bytes hT.ht hi hz hsize hby hzs hT.hsz v n xs hs (hown.alloc _) ⟨w.heap.size, 0, none⟩ 1 1 cs.toList hx (by simp [hcs])
    (fun j u hu => ?_) h1 (by unfold maxLen; omega) hb (by simp; omega) ?_
  · have hadd : (⟨w.heap.size, 0, none⟩ : Addr).add j = ⟨w.heap.size, j, none⟩ := by unfold Addr.add; split <;> simp_all
    rw [hadd, World.cell?_alloc_new]
    simpa using hu
  · intro v' w' hown' hgr _ hat
    obtain ⟨a', c', rfl⟩ := own_slice hown'
    refine h a' c' w' hown' (X.grown ((X.refl w).alloc _) hgr) ?_
    rcases hat with hat | hat
    · exact .inr (.inl hat)
    · exact .inr (.inr ⟨_, hat, by simp⟩)
theorem atcells_3 (x : At) : (atcells x).length = 3 := rfl
/-- An attribute in memory. -/
theorem MoW.at_ {W : World} {B : Nat} {x : Mp} (h : MoW W B x) {k : Nat} (hk : k < x.mo.attrs.length) : ∃ g c, x.av = .slice (some ⟨g, 0, none⟩) x.mo.attrs.length c ∧ x.mo.attrs.length ≤ c ∧ B ≤ g ∧ g < W.heap.size ∧ (∀ i, W.frozen? ⟨g, i, none⟩ = false) ∧
    W.cell? ⟨g, k * 3, none⟩ = some (.string ⟨((nth x.mo.attrs k).name).toArray⟩) ∧ W.cell? ⟨g, k * 3 + 1, none⟩ = some (.int .i64 (nth x.mo.attrs k).kind) ∧ W.cell? ⟨g, k * 3 + 2, none⟩ = some (.int .i64 (nth x.mo.attrs k).num) := by
  obtain ⟨a, c, e, ho⟩ := h.atr
  rw [e] at ho
  obtain ⟨g, rfl, hB, hl⟩ := own_form ho (by omega)
  obtain ⟨cs, hb⟩ := own_block ho
  have hc : ∀ j, j < 3 → W.cell? ⟨g, k * 3 + j, none⟩ = (atcells (nth x.mo.attrs k))[j]? := fun j hj => by
    have h1 : k * 3 + j < (x.mo.attrs.flatMap atcells).length := by rw [flat_length 3 atcells atcells_3]; omega
    have h2 := flat_get 3 atcells atcells_3 x.mo.attrs k j hk hj h1
    rw [nth_eq hk, List.getElem?_eq_getElem (by rw [atcells_3]; exact hj), ← h2]
    exact row_cell ho _ _ (List.getElem?_eq_getElem h1)
  exact ⟨g, c, e, own_cap ho, hB, hl, (Bx.out ⟨_, hb⟩).2.2, hc 0 (by omega), hc 1 (by omega), hc 2 (by omega)⟩
theorem MaX.at_ {w : World} {B mb left q : Nat} {tv pv mv ov lv qv : Value} {ms : List Mp} (h : MaX w B mb tv pv left q ms mv ov lv qv) {k : Nat} (hk : k < ms.length) : ∃ g c, mv = .slice (some ⟨g, 0, none⟩) ms.length c ∧ k < c ∧ g < w.heap.size ∧ w.cell? ⟨g, k, none⟩ = some (.pointer (some ⟨(nth ms k).b, 0, none⟩)) ∧ MoW w B (nth ms k) := by
  obtain ⟨ma, mc, rfl, hO⟩ := h.mrow
  obtain ⟨g, rfl, hBg, hgl⟩ := own_form hO (by omega)
  exact ⟨g, mc, rfl, Nat.lt_of_lt_of_le hk (own_cap hO), hgl, row_cell hO k _ (by
    unfold mptrs
    rw [List.getElem?_map, List.getElem?_eq_getElem hk, nth_eq hk]
    rfl), h.mods k hk⟩
theorem ch_set (w : World) (x : Mp) (i : Nat) (u : Value) : ChM w (w.setCell ⟨x.b, i, none⟩ u) x := ⟨rfl, rfl, rfl, by simp [World.setCell], fun b _ n1 _ => heap_setCell_other w ⟨x.b, i, none⟩ b u n1⟩
theorem MoW.cachedF {w : World} {B : Nat} {x : Mp} (h : MoW w B x) (b : Bool) : MoW (w.setCell ⟨x.b, 3, none⟩ (.bool b)) B { x with mo := { x.mo with cached := b } } := by
  obtain ⟨k1, k2, ⟨a, c, e1, k3⟩, ⟨a2, c2, e2, k4⟩, k5⟩ := h
  exact ⟨heap_setCell_same w x.b 3 _ 178 (.bool b) k1, k2, ⟨a, c, e1, own_set_far k3 k1 (by decide) _ _⟩, ⟨a2, c2, e2, own_set_far k4 k1 (by decide) _ _⟩, k5⟩
theorem MoW.doneF {w : World} {B : Nat} {x : Mp} (h : MoW w B x) (b : Bool) : MoW (w.setCell ⟨x.b, 4, none⟩ (.bool b)) B { x with mo := { x.mo with done := b } } := by
  obtain ⟨k1, k2, ⟨a, c, e1, k3⟩, ⟨a2, c2, e2, k4⟩, k5⟩ := h
  exact ⟨heap_setCell_same w x.b 4 _ 178 (.bool b) k1, k2, ⟨a, c, e1, own_set_far k3 k1 (by decide) _ _⟩, ⟨a2, c2, e2, own_set_far k4 k1 (by decide) _ _⟩, k5⟩
/-- The modules that were there are there. -/
def Ext (ms ms' : List Mp) : Prop := ms.length ≤ ms'.length ∧ ∀ i, i < ms.length → (nth ms' i).b = (nth ms i).b
theorem Ext.refl (ms : List Mp) : Ext ms ms := ⟨Nat.le_refl _, fun _ _ => rfl⟩
theorem Ext.trans {a b c : List Mp} (h : Ext a b) (k : Ext b c) : Ext a c := ⟨Nat.le_trans h.1 k.1, fun i hi => (k.2 i (Nat.lt_of_lt_of_le hi h.1)).trans (h.2 i hi)⟩
theorem Ext.snoc (ms : List Mp) (x : Mp) : Ext ms (ms ++ [x]) := ⟨by simp, fun i hi => by rw [nth_append_left hi]⟩
theorem Ext.set {ms : List Mp} {k : Nat} (hk : k < ms.length) {x : Mp} (hb : x.b = (nth ms k).b) : Ext ms (ms.set k x) := ⟨by simp, fun i _ => by
  rw [nth_setM hk]
  split
  · rename_i e; rw [hb, e]
  · rfl⟩
section
variable {w : World} {B mb left q : Nat} {tv pv mv ov lv qv : Value} {ms : List Mp}
theorem MaX.cachedF (h : MaX w B mb tv pv left q ms mv ov lv qv) {k : Nat} (hk : k < ms.length) (b : Bool) : ∃ ms', MaX (w.setCell ⟨(nth ms k).b, 3, none⟩ (.bool b)) B mb tv pv left q ms' mv ov lv qv ∧ Ext ms ms' :=
  ⟨_, h.mod hk (ch_set w (nth ms k) 3 (.bool b)) ((h.mods k hk).cachedF b) rfl rfl (.inr (.inl rfl)), Ext.set hk rfl⟩
theorem MaX.doneF (h : MaX w B mb tv pv left q ms mv ov lv qv) {k : Nat} (hk : k < ms.length) (b : Bool) : ∃ ms', MaX (w.setCell ⟨(nth ms k).b, 4, none⟩ (.bool b)) B mb tv pv left q ms' mv ov lv qv ∧ Ext ms ms' :=
  ⟨_, h.mod hk (ch_set w (nth ms k) 4 (.bool b)) ((h.mods k hk).doneF b) rfl rfl (.inr (.inl rfl)), Ext.set hk rfl⟩
end
end Go.Proofs.YtgjfjjhmgbemcaaGreatDoor

namespace Go.Proofs.YtgjfjjhmgbemcaaGreatDoor
open Go.RowKit

set_option maxRecDepth 100000 in
set_option maxHeartbeats 2000000 in
theorem event_c (B mb left q : Nat) (tv pv : Value) (ms : List Mp) (kind : Int) (nm : List UInt8) (w : World) (hS : MaW w B mb tv pv left q ms) (hq : q ≤ 1000000) (hB : B ≤ w.heap.size) :
    Calls Tryz.prog 177 #[.pointer (some ⟨mb, 0, none⟩), .int .i64 kind, .string ⟨(nm).toArray⟩] w fun e w' => e = .returned (.tuple #[]) ∧ MaW w' B mb tv pv left (q + 1) ms ∧ Kp B w w' := by
  obtain ⟨mv, ov, lv, qv, hX⟩ := hS
  obtain ⟨la, lk, lc, es, rfl, hlk, hL⟩ := hX.lrow
  obtain ⟨lt, -, -, -, -, -, -, c6, -, -⟩ := hX.cells
  go_enter Tryz.func177, Tryz.ntmps177
  go_wp2_with (at_builtin; refine wpList_append_g ev_T rfl _ _ rfl hL rfl rfl rfl rfl (by simp [Value.oneCell']) (by omega) (by omega) (by omega) ?_; intro a' c' w6 hO6 hg6; have hg := X.grown ((X.refl w).alloc _) hg6; have hb6 := at_grown hX.box hg (own_ne_at hL hX.box (by decide)); obtain ⟨l6, f6, -, -, -, -, -, -, k6, -, -⟩ := ma_out hb6)
  refine bodyPost_end (results_none Tryz.results177 _ _ _) rfl ?_
  exact ⟨rfl, ⟨_, _, _, _, hX.log hg hO6 (by omega)⟩, (Kp.grown hg hL (by unfold KT; decide) (Nat.le_refl _) hB).trans (Kp.set hb6 hX.lo (by unfold KT; decide) _ _)⟩
def pkgF (x : Mp) : List UInt8 := if x.mo.kind = 1 then parentF x.mo.name else x.mo.name
theorem pkgF_pkg {x : Mp} (h : x.mo.ok) : pkgB (pkgF x) = true := by
  unfold pkgF
  split
  · exact parentF_pkg _
  · rw [pkgB, h.1, Bool.or_true]
set_option maxRecDepth 100000 in
set_option maxHeartbeats 2000000 in
theorem packageOf_c (x : Mp) (B : Nat) (w : World) (hM : MoW w B x) (hG : Gm w) : Calls Tryz.prog 207 #[.pointer (some ⟨x.b, 0, none⟩)] w fun e w' => e = .returned (.string ⟨(pkgF x).toArray⟩) ∧ X w w' := by
  obtain ⟨l, -, m0, m1, -, -, -, -⟩ := mo_out hM.box
  have hlen := nameB_len hM.ok.1
  by_cases h1 : x.mo.kind = 1
  · have hp : pkgF x = parentF x.mo.name := if_pos h1
    rw [hp]
    rw [h1] at m1
    go_enter Tryz.func207, Tryz.ntmps207
    go_wp2_with (go_at_call 142; refine (ParentOf_c x.mo.name _ (by omega) hG).mono ?_; rintro _ w3 ⟨rfl, hx3⟩)
    go_ret
    exact ⟨rfl, hx3⟩
  · have hp : pkgF x = x.mo.name := if_neg h1
    rw [hp]
    go_enter Tryz.func207, Tryz.ntmps207
    go_wp2
    go_ret
    exact ⟨rfl, X.refl _⟩
/-- The attribute of a name: its value's two fields, and whether there is one. -/
def attrG (x : Mp) (nm : List UInt8) : Int × Int × Bool :=
  match firstN (fun j => (nth x.mo.attrs j).name == nm) x.mo.attrs.length with
  | .ofNat k => ((nth x.mo.attrs k).kind, (nth x.mo.attrs k).num, true)
  | .negSucc _ => (0, 0, false)
set_option maxRecDepth 100000 in
set_option maxHeartbeats 2000000 in
theorem attr_c (x : Mp) (B : Nat) (nm : List UInt8) (w : World) (hM : MoW w B x) : Calls Tryz.prog 208 #[.pointer (some ⟨x.b, 0, none⟩), .string ⟨(nm).toArray⟩] w fun e w' => e = .returned (.tuple #[.agg #[.int .i64 (attrG x nm).1, .int .i64 (attrG x nm).2.1], .bool (attrG x nm).2.2]) ∧ X w w' := by
  have hfew := hM.ok.few
  obtain ⟨a, c, hav, -⟩ := hM.atr
  obtain ⟨n, hn⟩ : ∃ n, x.mo.attrs.length = n := ⟨_, rfl⟩
  rw [hn] at hav hfew
  have Hn := Lib.hid hn
  clear hn
  obtain ⟨l, -, -, -, -, -, -, m5⟩ := mo_out hM.box
  rw [hav] at m5
  go_enter Tryz.func208, Tryz.ntmps208
  go_upto_region 1 with fail
  refine wp_name (fun W0 hW0 => ?_)
  have hR0 : Bx W0 w.heap.size #[.int .i64 0, .int .i64 0] := by rw [hW0]; exact Bx.new _ _ _
  have hX0 : X w W0 := by rw [hW0]; (repeat (first | with_reducible exact X.refl _ | with_reducible assumption | with_reducible refine X.setCell ?_ (by first | (simp; done) | (simp; omega)) _ | with_reducible refine X.ext ?_ _ | with_reducible refine X.alloc ?_ _ | with_reducible refine X.drew ?_))
  clear hW0
  have m5' := (hX0.cell (p := ⟨x.b, 5, none⟩) l).trans m5
  have l' := Nat.lt_of_lt_of_le l hX0.size
  go_wp2
  go_loopw [13] (fun i wr => ∃ k : Nat, k ≤ n ∧ i = .int .i64 k ∧ X W0 wr ∧ anyN (fun j => (nth x.mo.attrs j).name == nm) k = false) (fun i _ => n - (intOf i).toNat)
  case atStart => exact ⟨0, by omega, rfl, X.refl _, rfl⟩
  case round =>
    obtain ⟨k, hk, rfl, hX, hno⟩ := hrel
    obtain ⟨lr, cr, fr⟩ := (hR0.x hX).out
    have r0 := cr 0
    have r1 := cr 1
    clear cr
    by_cases hlt : k < n
    · obtain ⟨g, c', e, hcap, hBg, hgl, -, g0, g1, g2⟩ := (hM.x (hX0.trans hX)).at_ (k := k) (by have := Hn.out; omega)
      rw [hav] at e
      injection e with e1 e2 e3
      subst e1
      have hcn : n ≤ c := by have := Hn.out; omega
      clear e2 e3 hcap
      cases hs : (nth x.mo.attrs k).name == nm
      all_goals go_wp2
      · go_roundw
        case rel => exact ⟨k + 1, by omega, by go_num, (hX.alloc _), anyN_next hno hs⟩
        case measure => simp [intOf]; omega
      · refine act_name (fun W hW => ?_)
        have hR : Bx W w.heap.size #[.int .i64 (nth x.mo.attrs k).kind, .int .i64 (nth x.mo.attrs k).num] := by rw [hW]; exact (Bx.set (Bx.set (hR0.x hX) 0 _) 1 _).x ((X.refl _).alloc _)
        have hXW : X w W := by rw [hW]; exact (X.setCell (X.setCell (hX0.trans hX) (Nat.le_refl _) _) (Nat.le_refl _) _).alloc _
        have q0 := hR.out.2.1 0
        have q1 := hR.out.2.1 1
        refine bodyPost_ret (v := .tuple #[.agg #[.int .i64 (nth x.mo.attrs k).kind, .int .i64 (nth x.mo.attrs k).num], .bool true]) (by simp [results, Tryz.results208, go_sem, Result.andThen, q0, q1]) rfl ?_
        have hat : attrG x nm = ((nth x.mo.attrs k).kind, (nth x.mo.attrs k).num, true) := by
          unfold attrG
          rw [firstN_some hno hs (by have := Hn.out; omega)]
        rw [hat]
        exact ⟨rfl, hXW⟩
    · obtain rfl : k = n := by omega
      go_wp2
      refine act_name (fun W hW => ?_)
      have hR : Bx W w.heap.size #[.int .i64 0, .int .i64 0] := by rw [hW]; exact Bx.set (Bx.set (hR0.x hX) 0 _) 1 _
      have hXW : X w W := by rw [hW]; exact X.setCell (X.setCell (hX0.trans hX) (Nat.le_refl _) _) (Nat.le_refl _) _
      have q0 := hR.out.2.1 0
      have q1 := hR.out.2.1 1
      refine bodyPost_ret (v := .tuple #[.agg #[.int .i64 0, .int .i64 0], .bool false]) (by simp [results, Tryz.results208, go_sem, Result.andThen, q0, q1]) rfl ?_
      have hat : attrG x nm = (0, 0, false) := by
        unfold attrG
        rw [firstN_none (by rw [Hn.out]; exact hno)]
        rfl
      rw [hat]
      exact ⟨rfl, hXW⟩

end Go.Proofs.YtgjfjjhmgbemcaaGreatDoor

namespace Go.Proofs.YtgjfjjhmgbemcaaGreatDoor
open Go.RowKit

theorem flat_at : ∀ {l : List At} {k : Nat} {kd vn : Int} (_ : k < l.length), ((l.flatMap atcells).set (k * 3 + 1) (.int .i64 kd)).set (k * 3 + 2) (.int .i64 vn) = (l.set k ⟨(nth l k).name, kd, vn⟩).flatMap atcells
  | [], k, _, _, hk => absurd hk (by simp)
  | x :: l, 0, _, _, _ => by
    rw [List.flatMap_cons, List.set_cons_zero, List.flatMap_cons]
    rfl
  | x :: l, k + 1, kd, vn, hk => by
    have ih := flat_at (l := l) (k := k) (kd := kd) (vn := vn) (by simpa using hk)
    have e : ∀ (R : List Value) (j : Nat) (v : Value), (atcells x ++ R).set ((k + 1) * 3 + j) v = atcells x ++ R.set (k * 3 + j) v := fun R j v => by
      rw [List.set_append_right _ _ (by rw [atcells_3]; omega)]
      congr 2
      rw [atcells_3]
      omega
    have hn : nth (x :: l) (k + 1) = nth l k := rfl
    rw [List.flatMap_cons, List.set_cons_succ, List.flatMap_cons, hn, ← ih, e, e]
/-- What a module's being given an attribute leaves. -/
def GivP (w w' : World) (B : Nat) (x : Mp) : Prop := ∃ x' : Mp, x'.b = x.b ∧ x'.rv = x.rv ∧ MoW w' B x' ∧ ChM w w' x ∧ Mv w x.av x'.av
theorem GivP.of_x {w wr w' : World} {B : Nat} {x : Mp} (hX : X w wr) (h : GivP wr w' B x) : GivP w w' B x := by
  obtain ⟨x', h1, h2, h3, h4, h5⟩ := h
  refine ⟨x', h1, h2, h3, ⟨h4.os.trans hX.below.os, h4.tape.trans hX.below.tape, h4.output.trans hX.below.output, Nat.le_trans hX.size h4.size, fun b hb n1 n2 => (h4.block b (Nat.lt_of_lt_of_le hb hX.size) n1 n2).trans (hX.below.block b hb)⟩, ?_⟩
  rcases h5 with e | e | ⟨b, e, hb⟩
  · exact .inl e
  · exact .inr (.inl e)
  · exact .inr (.inr ⟨b, e, Nat.le_trans hX.size hb⟩)
theorem GivP.x {w w' w2 : World} {B : Nat} {x : Mp} (h : GivP w w' B x) (hX : X w' w2) : GivP w w2 B x := by
  obtain ⟨x', h1, h2, h3, h4, h5⟩ := h
  exact ⟨x', h1, h2, h3.x hX, ⟨hX.below.os.trans h4.os, hX.below.tape.trans h4.tape, hX.below.output.trans h4.output, Nat.le_trans h4.size hX.size, fun b hb n1 n2 => (hX.below.block b (Nat.lt_of_lt_of_le hb h4.size)).trans (h4.block b hb n1 n2)⟩, h5⟩
/-- An attribute that was there. -/
theorem giv_set {w : World} {B : Nat} {x : Mp} (h : MoW w B x) {k g c : Nat} (hk : k < x.mo.attrs.length) (hav : x.av = .slice (some ⟨g, 0, none⟩) x.mo.attrs.length c) (kd vn : Int) : GivP w ((w.setCell ⟨g, k * 3 + 1, none⟩ (.int .i64 kd)).setCell ⟨g, k * 3 + 2, none⟩ (.int .i64 vn)) B x := by
  have hrow := h.arow
  rw [hav] at hrow
  have hne : x.b ≠ g := fun e => own_ne_at hrow h.box (by decide) (by rw [e]; rfl)
  have hoth : ∀ b, b ≠ g → ((w.setCell ⟨g, k * 3 + 1, none⟩ (.int .i64 kd)).setCell ⟨g, k * 3 + 2, none⟩ (.int .i64 vn)).heap[b]? = w.heap[b]? := fun b hb =>
    (heap_setCell_other _ ⟨g, k * 3 + 2, none⟩ b _ hb).trans (heap_setCell_other w ⟨g, k * 3 + 1, none⟩ b _ hb)
  obtain ⟨o1, o2, o3, o4⟩ := h.ok
  have hnames : (x.mo.attrs.set k ⟨(nth x.mo.attrs k).name, kd, vn⟩).map (·.name) = x.mo.attrs.map (·.name) := by
    rw [List.map_set, nth_eq hk]
    apply List.ext_getElem
    · simp
    · intro i h1 h2
      rw [List.getElem_set]
      split
      · rename_i e
        subst e
        simp
      · rfl
  refine ⟨{ x with mo := { x.mo with attrs := x.mo.attrs.set k ⟨(nth x.mo.attrs k).name, kd, vn⟩ } }, rfl, rfl, ⟨(hoth _ hne).trans h.box, h.lo, ⟨some ⟨g, 0, none⟩, c, by simp only [List.length_set]; exact hav, ?_⟩, ?_, o1, o2, fun a ha => ?_, ?_⟩, ⟨rfl, rfl, rfl, by simp [World.setCell], fun b _ _ n2 => hoth b (fun e => n2 (by rw [hav, e]; rfl))⟩, .inr (.inl rfl)⟩
  · have := own_set (own_set hrow (k := k * 3 + 1) (.int .i64 kd)) (k := k * 3 + 2) (.int .i64 vn)
    rw [flat_at hk] at this
    simp only [List.length_set]
    rw [hav]
    exact this
  · obtain ⟨a2, c2, e2, ho2⟩ := h.rts
    exact ⟨a2, c2, e2, own_same ho2 fun g2 hg2 => hoth g2 (fun e => own_nor ho2 hrow (by decide) g2 hg2 (by rw [e]; rfl))⟩
  · rcases List.mem_or_eq_of_mem_set ha with ha | rfl
    · exact o3 a ha
    · exact o3 (nth x.mo.attrs k) (nth_mem hk)
  · show ((x.mo.attrs.set k ⟨(nth x.mo.attrs k).name, kd, vn⟩).map (·.name)).Nodup
    rw [hnames]
    exact o4
/-- A new attribute. -/
theorem giv_app {w w8 : World} {B : Nat} {x : Mp} (h : MoW w B x) {nm : List UInt8} (hno : anyN (fun j => (nth x.mo.attrs j).name == nm) x.mo.attrs.length = false) (hp : partB nm = true) {g8 c8 : Nat} {kd vn : Int}
    (hO : w8.ownsRow B 213 3 (.slice (some ⟨g8, 0, none⟩) (x.mo.attrs.length + 1) c8) (x.mo.attrs.length + 1) (x.mo.attrs.flatMap atcells ++ [.string ⟨(nm).toArray⟩, .int .i64 kd, .int .i64 vn])) (hg : w.grownBy w8 x.av.ownBlock) (hm : Mv w x.av (.slice (some ⟨g8, 0, none⟩) (x.mo.attrs.length + 1) c8)) :
    GivP w (w8.setCell ⟨x.b, 5, none⟩ (.slice (some ⟨g8, 0, none⟩) (x.mo.attrs.length + 1) c8)) B x := by
  have hrow := h.arow
  have hb8 := at_grown h.box hg (own_ne_at hrow h.box (by decide))
  obtain ⟨o1, o2, o3, o4⟩ := h.ok
  have hlen : (x.mo.attrs ++ [(⟨nm, kd, vn⟩ : At)]).length = x.mo.attrs.length + 1 := by simp
  refine ⟨{ x with mo := { x.mo with attrs := x.mo.attrs ++ [⟨nm, kd, vn⟩] }, av := .slice (some ⟨g8, 0, none⟩) (x.mo.attrs.length + 1) c8 }, rfl, rfl, ⟨heap_setCell_same _ x.b 5 _ 178 _ hb8, h.lo, ⟨some ⟨g8, 0, none⟩, c8, by simp only [hlen], ?_⟩, ?_, o1, o2, fun a ha => ?_, ?_⟩, ⟨hg.os, hg.tape, hg.output, by simpa [World.setCell] using hg.size, fun b hb n1 n2 => (heap_setCell_other w8 ⟨x.b, 5, none⟩ b _ n1).trans (hg.block b hb (Ne.symm n2))⟩, hm⟩
  · simp only [hlen, List.flatMap_append]
    exact own_set_far hO hb8 (by decide) 5 _
  · obtain ⟨a2, c2, e2, ho2⟩ := h.rts
    exact ⟨a2, c2, e2, own_set_far (ho2.kept hg (row_ne ho2 hrow (by decide))) hb8 (by decide) _ _⟩
  · rcases List.mem_append.1 ha with ha | ha
    · exact o3 a ha
    · rw [List.mem_singleton.1 ha]; exact hp
  · show ((x.mo.attrs ++ [(⟨nm, kd, vn⟩ : At)]).map (fun (a : At) => a.name)).Nodup
    rw [List.map_append]
    unfold List.Nodup at o4 ⊢
    refine List.pairwise_append.2 ⟨o4, List.pairwise_singleton _ _, fun s hs t ht => ?_⟩
    obtain ⟨a, ha, rfl⟩ := List.mem_map.1 hs
    have ht : t = nm := List.mem_singleton.1 ht
    subst ht
    obtain ⟨j, hj, rfl⟩ := List.getElem_of_mem ha
    have := anyN_false.1 hno j hj
    rw [nth_eq hj] at this
    simpa using this
set_option maxRecDepth 100000 in
set_option maxHeartbeats 4000000 in
theorem give_c (x : Mp) (B : Nat) (nm : List UInt8) (kd vn : Int) (w : World) (hM : MoW w B x) (hp : partB nm = true) (hBw0 : B ≤ w.heap.size) : Calls Tryz.prog 145 #[.pointer (some ⟨x.b, 0, none⟩), .string ⟨(nm).toArray⟩, .agg #[.int .i64 kd, .int .i64 vn]] w fun e w' => e = .returned (.tuple #[]) ∧ GivP w w' B x := by
  have hfew := hM.ok.few
  obtain ⟨a, c, hav, -⟩ := hM.atr
  obtain ⟨n, hn⟩ : ∃ n, x.mo.attrs.length = n := ⟨_, rfl⟩
  rw [hn] at hav hfew
  have Hn := Lib.hid hn
  clear hn
  obtain ⟨l, -, -, -, -, -, -, m5⟩ := mo_out hM.box
  rw [hav] at m5
  go_enter Tryz.func145, Tryz.ntmps145
  go_upto_region 1 with fail
  refine wp_name (fun W0 hW0 => ?_)
  have hR0 : Bx W0 w.heap.size #[.int .i64 kd, .int .i64 vn] := by rw [hW0]; exact Bx.new _ _ _
  have hX0 : X w W0 := by rw [hW0]; (repeat (first | with_reducible exact X.refl _ | with_reducible assumption | with_reducible refine X.setCell ?_ (by first | (simp; done) | (simp; omega)) _ | with_reducible refine X.ext ?_ _ | with_reducible refine X.alloc ?_ _ | with_reducible refine X.drew ?_))
  clear hW0
  have m50 := (hX0.cell (p := ⟨x.b, 5, none⟩) l).trans m5
  have l0 := Nat.lt_of_lt_of_le l hX0.size
  go_wp2
  go_loopw [12] (fun i wr => ∃ k : Nat, k ≤ n ∧ i = .int .i64 k ∧ X W0 wr ∧ anyN (fun j => (nth x.mo.attrs j).name == nm) k = false) (fun i _ => n - (intOf i).toNat)
  case atStart => exact ⟨0, by omega, rfl, X.refl _, rfl⟩
  case round =>
    obtain ⟨k, hk, rfl, hX, hno⟩ := hrel
    have hXw := hX0.trans hX
    have hMr := hM.x hXw
    obtain ⟨lb, cb, fb⟩ := (hR0.x hX).out
    have b0 := cb 0
    have b1 := cb 1
    clear cb
    have lx := Nat.lt_of_lt_of_le l hXw.size
    have m5r := (hXw.cell (p := ⟨x.b, 5, none⟩) l).trans m5
    by_cases hlt : k < n
    · obtain ⟨g, c', e, hcap, hBg, hgl, hgf, g0, g1, g2⟩ := hMr.at_ (k := k) (by have := Hn.out; omega)
      rw [hav] at e
      injection e with e1 e2 e3
      subst e1
      have hcn : n ≤ c := by have := Hn.out; omega
      clear e2 e3 hcap
      cases hs : (nth x.mo.attrs k).name == nm
      · go_wp2
        go_roundw
        case rel => exact ⟨k + 1, by omega, by go_num, hX, anyN_next hno hs⟩
        case measure => simp [intOf]; omega
      · go_wp2
        go_region
        go_wp2
        refine bodyPost_ret (results_none Tryz.results145 _ _ _) rfl ?_
        have hav2 : x.av = .slice (some ⟨g, 0, none⟩) x.mo.attrs.length c := by rw [Hn.out]; exact hav
        exact ⟨rfl, GivP.x (GivP.of_x hXw (giv_set hMr (by have := Hn.out; omega) hav2 kd vn)) ((X.refl _).drew)⟩
    · obtain rfl : n = k := by omega
      have hrow := hMr.arow
      rw [hav, Hn.out] at hrow
      have hbx := hMr.box
      have hBw : B ≤ wr.heap.size := Nat.le_trans hBw0 hXw.size
      go_wp2
      refine wp_region_inv (fun L v W => (L 9 = false → X wr W)
          ∧ (L 9 = true → L 12 = false → ∃ g8 c8, v 9 = .slice (some ⟨g8, 0, none⟩) (n + 1) c8 ∧ W.ownsRow B 213 3 (.slice (some ⟨g8, 0, none⟩) (n + 1) c8) (n + 1) (x.mo.attrs.flatMap atcells ++ [.string ⟨(nm).toArray⟩, .int .i64 kd, .int .i64 vn]) ∧ wr.grownBy W (.slice a n c : Value).ownBlock ∧ Mv wr (.slice a n c) (.slice (some ⟨g8, 0, none⟩) (n + 1) c8))
          ∧ (L 12 = true → L 9 = true)
          ∧ (L 9 = true → L 4 = true ∧ L 8 = true)
          ∧ (L 8 = true → L 7 = true)
          ∧ (L 7 = true → L 6 = true)
          ∧ (L 0 = true → v 0 = .pointer (some ⟨x.b, 0, none⟩))
          ∧ (L 1 = true → v 1 = .pointer (some ⟨x.b, 0, none⟩))
          ∧ (L 2 = true → v 2 = .pointer (some ⟨x.b, 0, none⟩))
          ∧ (L 3 = true → v 3 = .pointer (some ⟨x.b, 5, none⟩))
          ∧ (L 4 = true → v 4 = .slice a n c)
          ∧ (L 5 = true → v 5 = .string ⟨(nm).toArray⟩)
          ∧ (L 6 = true → v 6 = .agg #[.int .i64 kd, .int .i64 vn])
          ∧ (L 7 = true → v 7 = .agg #[.string ⟨(nm).toArray⟩, .int .i64 kd, .int .i64 vn])
          ∧ (L 8 = true → ∃ g, v 8 = .slice (some ⟨g, 0, none⟩) 1 1 ∧ (L 9 = false → W.heap[g]? = some (.cells #[.string ⟨(nm).toArray⟩, .int .i64 kd, .int .i64 vn] 213 (0, 0))))
          ∧ (L 10 = true → v 10 = .pointer (some ⟨x.b, 0, none⟩))
          ∧ (L 11 = true → v 11 = .pointer (some ⟨x.b, 5, none⟩))
          ∧ (L 12 = true → ∃ w8 g8 c8, W = w8.setCell ⟨x.b, 5, none⟩ (.slice (some ⟨g8, 0, none⟩) (n + 1) c8) ∧ w8.ownsRow B 213 3 (.slice (some ⟨g8, 0, none⟩) (n + 1) c8) (n + 1) (x.mo.attrs.flatMap atcells ++ [.string ⟨(nm).toArray⟩, .int .i64 kd, .int .i64 vn]) ∧ wr.grownBy w8 (.slice a n c : Value).ownBlock ∧ Mv wr (.slice a n c) (.slice (some ⟨g8, 0, none⟩) (n + 1) c8))) (by kernel_rfl) (by kernel_rfl) ?_ ?_ (l := [(34, 0), (35, 1), (36, 2), (37, 3), (38, 4), (39, 5), (40, 6), (41, 7), (42, 8), (43, 9), (44, 10), (45, 11)]) (by kernel_rfl) (n := 13) rfl ?_
      · intro v
        exact ⟨fun _ => (X.refl _).drew, fun h => Bool.noConfusion h, fun h => Bool.noConfusion h, fun h => Bool.noConfusion h, fun h => Bool.noConfusion h, fun h => Bool.noConfusion h, fun h => Bool.noConfusion h, fun h => Bool.noConfusion h, fun h => Bool.noConfusion h, fun h => Bool.noConfusion h, fun h => Bool.noConfusion h, fun h => Bool.noConfusion h, fun h => Bool.noConfusion h, fun h => Bool.noConfusion h, fun h => Bool.noConfusion h, fun h => Bool.noConfusion h, fun h => Bool.noConfusion h, fun h => Bool.noConfusion h⟩
      · intro i hi
        have hi' : i = 0 ∨ i = 1 ∨ i = 2 ∨ i = 3 ∨ i = 4 ∨ i = 5 ∨ i = 6 ∨ i = 7 ∨ i = 8 ∨ i = 9 ∨ i = 10 ∨ i = 11 ∨ i = 12 := by
          have : i < 13 := hi
          omega
        clear hi
        rcases hi' with rfl | rfl | rfl | rfl | rfl | rfl | rfl | rfl | rfl | rfl | rfl | rfl | rfl
        all_goals
          intro o ho L v aa W hI hS hL hA K hK
          cases (show some _ = some o from ho)
          obtain ⟨xx, ap, dS, dA, dL, dB, v0, v1, v2, v3, v4, v5, v6, v7, v8, v10, v11, fin⟩ := hI
        · have a0 := hS.old 0 (by kernel_rfl) rfl
          clear hS ho hA
          go_simp
          exact hK _ W ⟨xx, ap, dS, dA, dL, dB, fun _ => rfl, v1, v2, v3, v4, v5, v6, v7, v8, v10, v11, fin⟩
        · have a0 := hS.old 0 (by kernel_rfl) rfl
          clear hS ho hA
          go_simp
          exact hK _ W ⟨xx, ap, dS, dA, dL, dB, v0, fun _ => rfl, v2, v3, v4, v5, v6, v7, v8, v10, v11, fin⟩
        · have l1 : L 1 = true := hA ⟨1, .data⟩ (by simp) rfl
          have a1 := hS.get 1 35 rfl l1 (v1 l1)
          clear hS ho hA
          go_simp
          exact hK _ W ⟨xx, ap, dS, dA, dL, dB, v0, v1, fun _ => rfl, v3, v4, v5, v6, v7, v8, v10, v11, fin⟩
        · have l2 : L 2 = true := hA ⟨2, .data⟩ (by simp) rfl
          have a2 := hS.get 2 36 rfl l2 (v2 l2)
          clear hS ho hA
          go_simp
          exact hK _ W ⟨xx, ap, dS, dA, dL, dB, v0, v1, v2, fun _ => rfl, v4, v5, v6, v7, v8, v10, v11, fin⟩
        · have l3 : L 3 = true := hA ⟨3, .data⟩ (by simp) rfl
          have a3 := hS.get 3 37 rfl l3 (v3 l3)
          have n9 : L 9 = false := by rcases h : L 9 with _ | _; (· rfl); (· have := (dA h).1; simp [hL] at this)
          have XW := xx n9
          have cW := (XW.cell (p := ⟨x.b, 5, none⟩) lx).trans m5r
          have lW := Nat.lt_of_lt_of_le lx XW.size
          clear hS ho hA
          go_simp
          exact hK _ W ⟨xx, ap, dS, fun h => ⟨rfl, (dA h).2⟩, dL, dB, v0, v1, v2, v3, fun _ => rfl, v5, v6, v7, v8, v10, v11, fin⟩
        · have a0 := hS.old 1 (by kernel_rfl) rfl
          clear hS ho hA
          go_simp
          exact hK _ W ⟨xx, ap, dS, dA, dL, dB, v0, v1, v2, v3, v4, fun _ => rfl, v6, v7, v8, v10, v11, fin⟩
        · have ao := hS.old 5 (by kernel_rfl) rfl
          have n9 : L 9 = false := by rcases h : L 9 with _ | _; (· rfl); (· have := (dB (dL (dA h).2)); simp [hL] at this)
          have XW := xx n9
          have cW0 := (XW.cell (p := ⟨w.heap.size, 0, none⟩) lb).trans b0
          have cW1 := (XW.cell (p := ⟨w.heap.size, 1, none⟩) lb).trans b1
          have lW := Nat.lt_of_lt_of_le lb XW.size
          clear hS ho hA
          go_simp
          exact hK _ W ⟨xx, ap, dS, dA, dL, fun _ => rfl, v0, v1, v2, v3, v4, v5, fun _ => rfl, v7, v8, v10, v11, fin⟩
        · have l5 : L 5 = true := hA ⟨5, .data⟩ (by simp) rfl
          have a5 := hS.get 5 39 rfl l5 (v5 l5)
          have l6 : L 6 = true := hA ⟨6, .data⟩ (by simp) rfl
          have a6 := hS.get 6 40 rfl l6 (v6 l6)
          clear hS ho hA
          go_simp
          exact hK _ W ⟨xx, ap, dS, dA, fun _ => rfl, fun _ => l6, v0, v1, v2, v3, v4, v5, v6, fun _ => rfl, v8, v10, v11, fin⟩
        · have l7 : L 7 = true := hA ⟨7, .data⟩ (by simp) rfl
          have a7 := hS.get 7 41 rfl l7 (v7 l7)
          have n9 : L 9 = false := by rcases h : L 9 with _ | _; (· rfl); (· have := (dA h).2; simp [hL] at this)
          have n12 : L 12 = false := by rcases h : L 12 with _ | _; (· rfl); (· have := (dA (dS h)).2; simp [hL] at this)
          clear hS ho hA
          go_simp
          exact hK _ _ ⟨fun h => (xx h).alloc _, fun h => Bool.noConfusion (n9.symm.trans h), dS, fun h => ⟨(dA h).1, rfl⟩, fun _ => l7, dB, v0, v1, v2, v3, v4, v5, v6, v7, fun _ => ⟨_, rfl, fun _ => heap_alloc_new _ _⟩, v10, v11, fun h => Bool.noConfusion (n12.symm.trans h)⟩
        · have l4 : L 4 = true := hA ⟨4, .data⟩ (by simp) rfl
          have l8 : L 8 = true := hA ⟨8, .data⟩ (by simp) rfl
          have n12 : L 12 = false := by rcases h : L 12 with _ | _; (· rfl); (· have := dS h; simp [hL] at this)
          obtain ⟨gl, el, hgl⟩ := v8 l8
          refine unwantM (E := True) (by exact rfl) (step_append_m (ops := #[]) at_T rfl _ _ rfl (xx hL) hrow ((hS.eval_on 4 38 rfl l4).trans (v4 l4)) ((hS.eval_on 8 42 rfl l8).trans el) (hgl hL) rfl (by simp [Value.oneCell']) (by omega) (by omega) hBw ?_)
          intro g8 c8 w8 hO8 hg8 hm8
          exact hK _ w8 ⟨fun h => Bool.noConfusion h, fun _ _ => ⟨g8, c8, rfl, hO8, hg8, hm8⟩, fun _ => rfl, fun _ => ⟨l4, l8⟩, dL, dB, v0, v1, v2, v3, v4, v5, v6, v7, fun h => let ⟨g, e, _⟩ := v8 h; ⟨g, e, fun h => Bool.noConfusion h⟩, v10, v11, fun h => Bool.noConfusion (n12.symm.trans h)⟩
        · have l0 : L 0 = true := hA ⟨0, .data⟩ (by simp) rfl
          have a0 := hS.get 0 34 rfl l0 (v0 l0)
          clear hS ho hA
          go_simp
          exact hK _ W ⟨xx, ap, dS, dA, dL, dB, v0, v1, v2, v3, v4, v5, v6, v7, v8, fun _ => rfl, v11, fin⟩
        · have l10 : L 10 = true := hA ⟨10, .data⟩ (by simp) rfl
          have a10 := hS.get 10 44 rfl l10 (v10 l10)
          clear hS ho hA
          go_simp
          exact hK _ W ⟨xx, ap, dS, dA, dL, dB, v0, v1, v2, v3, v4, v5, v6, v7, v8, v10, fun _ => rfl, fin⟩
        · have l11 : L 11 = true := hA ⟨11, .data⟩ (by simp) rfl
          have l9 : L 9 = true := hA ⟨9, .data⟩ (by simp) rfl
          have a11 := hS.get 11 45 rfl l11 (v11 l11)
          obtain ⟨g8, c8, e8, hO8, hg8, hm8⟩ := ap l9 hL
          have a8 := hS.get 9 43 rfl l9 e8
          obtain ⟨lt, ct, ft⟩ := Bx.out ⟨_, at_grown hbx hg8 (own_ne_at hrow hbx (by decide))⟩
          have cst := ct 5
          clear ct
          clear hS ho hA
          go_simp
          exact hK undef _ ⟨fun h => Bool.noConfusion (l9.symm.trans h), fun _ h => Bool.noConfusion h, fun _ => l9, dA, dL, dB, v0, v1, v2, v3, v4, v5, v6, v7, fun h => let ⟨g, e, _⟩ := v8 h; ⟨g, e, fun h => Bool.noConfusion (l9.symm.trans h)⟩, v10, v11, fun _ => ⟨W, g8, c8, rfl, hO8, hg8, hm8⟩⟩
      intro v W9 hI
      obtain ⟨xx, ap, dS, dA, dL, dB, v0, v1, v2, v3, v4, v5, v6, v7, v8, v10, v11, fin⟩ := hI
      obtain ⟨w8, g8, c8, rfl, hO8, hg8, hm8⟩ := fin rfl
      clear fin xx ap dS dA dL dB v0 v1 v2 v3 v4 v5 v6 v7 v8 v10 v11
      simp only [putL, List.foldl, List.setIfInBounds_toArray, List.set_cons_zero, List.set_cons_succ]
      go_wp2
      refine bodyPost_end (results_none Tryz.results145 _ _ _) rfl ?_
      refine ⟨rfl, ?_⟩
      rw [← Hn.out] at hno hO8 hm8 ⊢
      rw [← hav] at hg8
      refine GivP.of_x hXw (giv_app hMr hno hp hO8 hg8 ?_)
      rw [hav, Hn.out]
      rw [Hn.out] at hm8
      exact hm8

end Go.Proofs.YtgjfjjhmgbemcaaGreatDoor
