/- Several texts in one: Opx, ExL, MkStr, MkE, DiM, CloneD. No condition but lengths. -/
import Derived.Test.YtgjfjjhmgbemcaaGreatDoorIb
import Derived.Test.YtgjfjjhmgbemcaaGreatDoorIa
import Derived.Test.YtgjfjjhmgbemcaaGreatDoorTie
import Derived.Test.YtgjfjjhmgbemcaaGreatDoorCards
import Derived.ProofKit
import Derived.SizedLaws
import Derived.OpenShut
import Derived.ChangeMaps5
import Derived.Deep.DeepHandedRow
import Derived.Lib.LaidTab
import Derived.Lay
import Derived.Deep.RegionHeld3
import Derived.Test.YtgjfjjhmgbemcaaGreatDoorLa
import Derived.Test.YtgjfjjhmgbemcaaGreatDoorIe
namespace Go.Proofs.YtgjfjjhmgbemcaaGreatDoor
open Go.ChangeShapes Go.WideShapes Go.ChangeAt Go.RowKit

theorem own : ownKnob Tryz.prog.godebug = none := by kernel_rfl
theorem laidOut : laidOutB Tryz.prog = true := by kernel_rfl
set_option maxRecDepth 100000 in
theorem gm_of {W : World} (h : W.ShapedOpen Tryz.prog) : Gm W := by
  obtain ⟨m, hm⟩ := Go.Proofs.cell_of_shapedOpen_int (g := 0) (zero := #[.int .i64 0]) (t := 3) h (of_decide_eq_true (by kernel_rfl)) (by kernel_rfl) rfl (by kernel_rfl) (by kernel_rfl) Tryz.underlying3
  exact ⟨m, hm, World.block_lt_of_cell? _ _ hm⟩
/-- Numbers of whatever length. -/
def IntsR (w : World) (a : Option Addr) (n : Nat) (l : List Int) : Prop := n = l.length ∧ n ≤ maxLen ∧ Sl w 0 a n (ints l)
theorem IntsR.at {w : World} {a : Option Addr} {n : Nat} {l : List Int} (h : IntsR w a n l) (hn : n ≤ 2097152) : IntsAt w 0 a n l := ⟨h.1, hn, h.2.2⟩
end Go.Proofs.YtgjfjjhmgbemcaaGreatDoor

namespace Go.Proofs.YtgjfjjhmgbemcaaGreatDoor
open Go.RowKit

end Go.Proofs.YtgjfjjhmgbemcaaGreatDoor

namespace Go.Proofs.YtgjfjjhmgbemcaaGreatDoor
open Go.RowKit

def mtxN (k n : Nat) : List (List UInt8) := (List.range n).map fun i => mtxt (k + i)
theorem strsAt_of {w : World} {B e n c : Nat} {a : Option Addr} {l : List (List UInt8)} (h : w.ownsRow B e 1 (.slice a n c) n (strs l)) (hn : l.length = n) (hl : n ≤ 8388608) (hs : ∀ s ∈ l, s.length ≤ 4194304) : StrsAt w B a n l := by
  subst hn
  exact StrsAt.of_own h hl hs
end Go.Proofs.YtgjfjjhmgbemcaaGreatDoor

namespace Go.Proofs.YtgjfjjhmgbemcaaGreatDoor
open Go.RowKit

/-- A row whose block has not changed. -/
theorem own_same {w w' : World} {B e size n : Nat} {v : Value} {xs : List Value} (h : w.ownsRow B e size v n xs) (hb : ∀ b, v.ownBlock = some b → w'.heap[b]? = w.heap[b]?) : w'.ownsRow B e size v n xs := by
  refine ⟨h.1, ?_⟩
  rcases h.2 with h0 | ⟨g, cap, cur, hv, hB, hg, r⟩
  · exact .inl h0
  · exact .inr ⟨g, cap, cur, hv, hB, (hb g (by rw [hv]; rfl)).trans hg, r⟩
end Go.Proofs.YtgjfjjhmgbemcaaGreatDoor

namespace Go.Proofs.YtgjfjjhmgbemcaaGreatDoor
open Go.RowKit

def BodyD (w : World) (B : Nat) (x : Di × Value) : Prop := ∃ ba bc, x.2 = .slice ba x.1.names.length bc ∧ w.ownsRow B 9 1 (.slice ba x.1.names.length bc) x.1.names.length (strs x.1.names)
theorem BodyD.grown {w w' : World} {B g : Nat} {x : Di × Value} {cs : Array Value} (h : BodyD w B x) (hg : w.grownBy w' (some g)) (hb : w.heap[g]? = some (.cells cs 140 (0, 0))) : BodyD w' B x := by
  obtain ⟨ba, bc, e, ho⟩ := h
  exact ⟨ba, bc, e, ho.kept hg (.inr (own_ne_at ho hb (by decide)))⟩
theorem BodyD.kept {w w' : World} {B : Nat} {x : Di × Value} {row : Option Nat} (h : BodyD w B x) (hg : w.grownBy w' row) (hr : x.2.ownBlock = none ∨ x.2.ownBlock ≠ row) : BodyD w' B x := by
  obtain ⟨ba, bc, e, ho⟩ := h
  rw [e] at hr
  exact ⟨ba, bc, e, ho.kept hg hr⟩
theorem BodyD.fr {w w' : World} {B : Nat} {x : Di × Value} (h : BodyD w B x) (hx : Fr B w w') : BodyD w' B x := by
  obtain ⟨ba, bc, e, ho⟩ := h
  exact ⟨ba, bc, e, own_fr ho hx⟩
/-- Directories of the call's own, in blocks before E. -/
def DirsE (w : World) (B E : Nat) (a : Option Addr) (n c : Nat) (l : List Di) : Prop :=
  ∃ vs : List (Di × Value), l = vs.map (·.1) ∧ n = l.length ∧ w.ownsRow B 140 4 (.slice a n c) n (vs.flatMap dcells) ∧ SepD vs ∧ (∀ x ∈ vs, BodyD w B x) ∧
    (∀ b, (Value.slice a n c).ownBlock = some b → b < E) ∧ ∀ x ∈ vs, ∀ b, x.2.ownBlock = some b → b < E
theorem DirsO.e {w : World} {B n c : Nat} {a : Option Addr} {l : List Di} (h : DirsO w B a n c l) : DirsE w B w.heap.size a n c l := by
  obtain ⟨vs, e, h1, h2, hs, h3⟩ := h
  exact ⟨vs, e, h1, h2, hs, h3, fun b hb => (h2.lt b hb).2, fun x hx b hb => by obtain ⟨ba, bc, e, ho⟩ := h3 x hx; rw [e] at hb; exact (ho.lt b hb).2⟩
theorem DirsE.fr {w w' : World} {B E n c : Nat} {a : Option Addr} {l : List Di} (h : DirsE w B E a n c l) (hx : Fr B w w') : DirsE w' B E a n c l := by
  obtain ⟨vs, e, h1, h2, hs, h3, h4, h5⟩ := h
  exact ⟨vs, e, h1, own_fr h2 hx, hs, fun x hm => (h3 x hm).fr hx, h4, h5⟩
theorem DirsE.o {w : World} {B E n c : Nat} {a : Option Addr} {l : List Di} (h : DirsE w B E a n c l) : DirsO w B a n c l := by
  obtain ⟨vs, e, h1, h2, hs, h3, _⟩ := h
  exact ⟨vs, e, h1, h2, hs, h3⟩
/-! ### A directory more, a stamp -/
/-- Directories of the call's own, their names' values told. -/
def DirsV (w : World) (B : Nat) (a : Option Addr) (c : Nat) (vs : List (Di × Value)) : Prop :=
  w.ownsRow B 140 4 (.slice a vs.length c) vs.length (vs.flatMap dcells) ∧ SepD vs ∧ ∀ x ∈ vs, BodyD w B x
theorem DirsV.o {w : World} {B c : Nat} {a : Option Addr} {vs : List (Di × Value)} (h : DirsV w B a c vs) : DirsO w B a vs.length c (vs.map (·.1)) :=
  ⟨vs, rfl, (List.length_map _).symm, h.1, h.2.1, h.2.2⟩
theorem DirsO.v {w : World} {B n c : Nat} {a : Option Addr} {l : List Di} (h : DirsO w B a n c l) : ∃ vs, n = vs.length ∧ vs.map (·.1) = l ∧ DirsV w B a c vs := by
  obtain ⟨vs, e, h1, h2, hs, h3⟩ := h
  have hn : n = vs.length := by rw [h1, e, List.length_map]
  subst hn
  exact ⟨vs, rfl, e.symm, h2, hs, h3⟩
theorem DirsV.fr {w w' : World} {B c : Nat} {a : Option Addr} {vs : List (Di × Value)} (h : DirsV w B a c vs) (hx : Fr B w w') : DirsV w' B a c vs :=
  ⟨own_fr h.1 hx, h.2.1, fun x hm => (h.2.2 x hm).fr hx⟩
theorem DirsV.nil (w : World) (B : Nat) : DirsV w B none 0 [] := ⟨⟨rfl, .inl ⟨rfl, rfl⟩⟩, List.Pairwise.nil, fun _ h => by cases h⟩
theorem DirsV.snoc {w w' : World} {B c c' : Nat} {a a' : Option Addr} {vs : List (Di × Value)} {d : Di} {ba : Option Addr} {bc : Nat} (h : DirsV w B a c vs)
    (hO : w'.ownsRow B 140 4 (.slice a' (vs.length + 1) c') (vs.length + 1) (vs.flatMap dcells ++ dcells (d, .slice ba d.names.length bc)))
    (hg : w.grownBy w' (Value.slice a vs.length c).ownBlock) (hb : w.ownsRow B 9 1 (.slice ba d.names.length bc) d.names.length (strs d.names))
    (hs : ∀ x ∈ vs, (Value.slice ba d.names.length bc).ownBlock = none ∨ x.2.ownBlock = none ∨ (Value.slice ba d.names.length bc).ownBlock ≠ x.2.ownBlock) : DirsV w' B a' c' (vs ++ [(d, .slice ba d.names.length bc)]) := by
  have hk : ∀ {v : Value} {m : Nat} {xs : List Value}, w.ownsRow B 9 1 v m xs → w'.ownsRow B 9 1 v m xs := fun ho => ho.kept hg (row_ne ho h.1 (by decide))
  refine ⟨?_, ?_, fun x hx => ?_⟩
  · rw [List.length_append, List.flatMap_append]
    simpa using hO
  · refine List.pairwise_append.2 ⟨h.2.1, List.pairwise_singleton _ _, fun x hx y hy => ?_⟩
    rw [List.mem_singleton.1 hy]
    rcases hs x hx with e | e | e
    · exact .inr (.inl e)
    · exact .inl e
    · exact .inr (.inr e)
  · rcases List.mem_append.1 hx with hx | hx
    · obtain ⟨p, q, e, ho⟩ := h.2.2 x hx
      exact ⟨p, q, e, hk ho⟩
    · rw [List.mem_singleton.1 hx]
      exact ⟨ba, bc, rfl, hk hb⟩
theorem DirsV.far {w : World} {B c b : Nat} {a : Option Addr} {vs : List (Di × Value)} {cs : Array Value} {t : TypeId} (h : DirsV w B a c vs) (hb : w.heap[b]? = some (.cells cs t (0, 0))) (h1 : 140 ≠ t) (h2 : 9 ≠ t) (i : Nat) (u : Value) : DirsV (w.setCell ⟨b, i, none⟩ u) B a c vs :=
  ⟨own_set_far h.1 hb h1 _ _, h.2.1, fun x hx => by
    obtain ⟨ba, bc, e, ho⟩ := h.2.2 x hx
    exact ⟨ba, bc, e, own_set_far ho hb h2 _ _⟩⟩
theorem DirsV.stamp {w : World} {B g c k : Nat} {vs : List (Di × Value)} (h : DirsV w B (some ⟨g, 0, none⟩) c vs) (hk : k < vs.length) (st : Int) :
    DirsV (w.setCell ⟨g, k * 4 + 2, none⟩ (.int .i64 st)) B (some ⟨g, 0, none⟩) c (vs.set k ({ (nth vs k).1 with stamp := st }, (nth vs k).2)) := by
  obtain ⟨h2, hs, h3⟩ := h
  obtain ⟨cs, hb⟩ := own_block h2
  rw [nth_eq hk]
  refine ⟨?_, sep_sameD hk rfl hs, fun x hx => ?_⟩
  · rw [List.length_set, ← flat_setD hk (show 2 < 4 by omega) (u := .int .i64 st) rfl]
    exact own_set h2 _
  · have key : BodyD w B x := by
      rcases List.mem_or_eq_of_mem_set hx with hx | rfl
      · exact h3 x hx
      · exact h3 vs[k] (List.getElem_mem _)
    obtain ⟨ba, bc, e1, ho⟩ := key
    exact ⟨ba, bc, e1, own_set_far ho hb (by decide) _ _⟩

/-! ### Marks -/
def wtD : List Di → Nat
  | [] => 0
  | f :: l => 3 + f.names.length + wtD l
def diM (k : Nat) (f : Di) : Di := ⟨(k : Int), mtxt (k + 1), ((k + 2 : Nat) : Int), mtxN (k + 3) f.names.length⟩
def marksD (k : Nat) : List Di → List Di
  | [] => []
  | f :: l => diM k f :: marksD (k + (3 + f.names.length)) l
/-! ### Disks -/
end Go.Proofs.YtgjfjjhmgbemcaaGreatDoor

namespace Go.Proofs.YtgjfjjhmgbemcaaGreatDoor
open Go.RowKit

theorem dir_T' : AppT Tryz.prog 36 140 4 56 := AppT.of (z := .agg #[.int .i64 0, .string ⟨#[]⟩, .int .i64 0, .slice none 0 0]) (by kernel_rfl) (by kernel_rfl) rfl (by omega)
theorem strs_oneD (l : List (List UInt8)) : ∀ u ∈ strs l, u.oneCell' = true := by
  intro u hu
  rw [strs_eq] at hu
  obtain ⟨x, _, rfl⟩ := List.mem_map.1 hu
  rfl
theorem strs_lenD (l : List (List UInt8)) : (strs l).length = l.length := by rw [strs_eq, List.length_map]
set_option maxRecDepth 100000 in
set_option maxHeartbeats 2000000 in
theorem cloneDirs_c (l : List Di) (a : Option Addr) (n c B : Nat) (w : World) (hD : DirsAt w B a n l) :
    Calls Tryz.prog 104 #[.slice a n c] w fun e w' => ∃ ra rc, e = .returned (.slice ra n rc) ∧ DirsO w' w.heap.size ra n rc l ∧ X w w' := by
  obtain ⟨hl, hn⟩ := hD.len
  have Hl := Lib.hid hl
  clear hl
  go_enter Tryz.func104, Tryz.ntmps104
  go_wp2
  refine wp_name (fun W0 hW0 => ?_)
  have hX0 : X w W0 := by rw [hW0]; (repeat (first | with_reducible exact X.refl _ | with_reducible assumption | with_reducible refine X.setCell ?_ (by first | (simp; done) | (simp; omega)) _ | with_reducible refine X.ext ?_ _ | with_reducible refine X.alloc ?_ _ | with_reducible refine X.drew ?_))
  have hrow0 : W0.ownsRow w.heap.size 140 4 (.slice (some ⟨w.heap.size, 0, none⟩) 0 0) 0 [] := by
    rw [hW0]
    exact own_fr (own_lit (w := w) (cs := #[]) (e := 140) (B := w.heap.size) (g := w.heap.size) (size := 4) (n := 0) rfl (Nat.le_refl _) rfl (by omega)) (X.fr (by (repeat (first | with_reducible exact X.refl _ | with_reducible assumption | with_reducible refine X.setCell ?_ (by first | (simp; done) | (simp; omega)) _ | with_reducible refine X.ext ?_ _ | with_reducible refine X.alloc ?_ _ | with_reducible refine X.drew ?_))) _)
  clear hW0
  go_loopw [3, 5, 9] (fun v _ i wr => ∃ (k : Nat) (vs : List (Di × Value)) (ra : Option Addr) (rc : Nat), k ≤ n ∧ i = .int .i64 k ∧ v = .slice ra k rc ∧ vs.length = k ∧ vs.map (·.1) = l.take k ∧ wr.ownsRow w.heap.size 140 4 (.slice ra k rc) k (vs.flatMap dcells) ∧ SepD vs ∧ (∀ x ∈ vs, BodyD wr w.heap.size x) ∧ X w wr) (fun _ _ i _ => n - (intOf i).toNat)
  case atStart => exact ⟨0, [], _, 0, Nat.zero_le _, rfl, rfl, rfl, rfl, hrow0, List.Pairwise.nil, (fun _ h => by cases h), hX0⟩
  case round =>
    obtain ⟨k, vs, ra, rc, hk, rfl, rfl, hvl, hvs, hrow, hsep, hbd, hX⟩ := hrel
    have Hv := Lib.hid (And.intro hvs (And.intro hsep (And.intro hbd hvl)))
    clear hvs hsep hbd hvl hX0 hrow0
    by_cases hlt : k < n
    · obtain ⟨b, off, ba, bn, bc, rfl, _, hb, hpk, hbc, hSb, g0, g1, g2, g3⟩ := (hD.mono (hX.fr _)).at_ hlt
      have Hbn := Lib.hid hSb.1
      have hbn := hSb.2.1
      have hsz := hX.size
      go_wp2_with (first
        | (at_builtin; refine wpList_append_sl str_T rfl _ _ rfl (own_lit (B := wr.heap.size + 1) (n := 0) (size := 1) (by simp) (by simp) rfl (by omega)) rfl rfl (hSb.mono (X.fr (by (repeat (first | with_reducible exact X.refl _ | with_reducible assumption | with_reducible refine X.setCell ?_ (by first | (simp; done) | (simp; omega)) _ | with_reducible refine X.ext ?_ _ | with_reducible refine X.alloc ?_ _ | with_reducible refine X.drew ?_))) _)).2.2.2 (by rw [strs_lenD, Nat.mul_one]; exact Hbn.out.symm) (strs_oneD _) (by omega) (by unfold maxLen; omega) (by simp) ?_; intro a1 c1 w1 hO1 hg1; have hX41 := X.of_litR hg1 (by simp [Value.ownBlock]); have hB1 := (Bx.new wr #[.int .i64 (nth l k).root, .string ⟨((nth l k).pkg).toArray⟩, .int .i64 (nth l k).stamp, .slice ba bn bc] 140).x hX41; have hX1 : X wr w1 := X.trans (by (repeat (first | with_reducible exact X.refl _ | with_reducible assumption | with_reducible refine X.setCell ?_ (by first | (simp; done) | (simp; omega)) _ | with_reducible refine X.ext ?_ _ | with_reducible refine X.alloc ?_ _ | with_reducible refine X.drew ?_))) hX41; have hT1 := at_x2' (heap_alloc_new wr (.cells #[.int .i64 (nth l k).root, .string ⟨((nth l k).pkg).toArray⟩, .int .i64 (nth l k).stamp, .slice ba bn bc] 140)) hX41; obtain ⟨lb1, cb1, fb1⟩ := hB1.out; have e0 := cb1 0; have e1 := cb1 1; have e2 := cb1 2; have e3 := cb1 3; clear cb1)
        | (at_builtin; refine wpList_append_g dir_T' rfl _ _ rfl (own_fr hrow (X.fr (by (repeat (first | with_reducible exact X.refl _ | with_reducible assumption | with_reducible refine X.setCell ?_ (by first | (simp; done) | (simp; omega)) _ | with_reducible refine X.ext ?_ _ | with_reducible refine X.alloc ?_ _ | with_reducible refine X.drew ?_))) _)) rfl rfl (by simp) rfl (by simp [Value.oneCell']) (by omega) (by omega) (by first | omega | (simp; omega)) ?_; intro a2 c2 w2 hO2 hg2))
      go_roundw
      case rel =>
        rw [List.nil_append, Nat.zero_add] at hO1
        obtain ⟨hvs, hsep, hbd, hvl⟩ := Hv.out
        have hbe := Hbn.out
        subst hbe hvl
        have hX6 : X wr (w1.setCell ⟨wr.heap.size, 3, none⟩ (.slice a1 (nth l vs.length).names.length c1)) := hX1.setCell (Nat.le_refl _) _
        have hO6 := own_less (own_set_far hO1 hT1 (by decide) 3 (.slice a1 (nth l vs.length).names.length c1)) (show w.heap.size ≤ wr.heap.size + 1 by omega)
        have hXA := hX6.alloc (.cells #[.int .i64 (nth l vs.length).root, .string ⟨((nth l vs.length).pkg).toArray⟩, .int .i64 (nth l vs.length).stamp, .slice a1 (nth l vs.length).names.length c1] 140)
        have hrA := own_fr hrow (hXA.fr _)
        have H := DirsV.snoc (d := nth l vs.length) (ba := a1) (bc := c1) ⟨hrA, hsep, fun x hx => (hbd x hx).fr (hXA.fr _)⟩ hO2 hg2 (hO6.alloc _) (fun x hx => by
          obtain ⟨p, q, e, ho⟩ := hbd x hx
          rw [e]
          rcases row_far ho rfl (own_less hO1 (Nat.le_succ _)) with e | e | e
          · exact .inr (.inl e)
          · exact .inl e
          · exact .inr (.inr e))
        obtain ⟨h1, h2, h3⟩ := H
        rw [List.length_append, List.length_singleton] at h1
        exact ⟨vs.length + 1, _, a2, c2, by omega, by go_num, rfl, by rw [List.length_append, List.length_singleton], by rw [List.map_append, hvs, take_succ_nth (by rw [← Hl.out]; exact hlt)]; rfl, h1, h2, h3, X.of_below ((hX.trans hXA).below.grown hg2 (hX.trans hXA).size (fun g hg => (hrA.lt g hg).1))⟩
      case measure => simp [intOf]; omega
    · obtain rfl : k = n := by omega
      go_wp2
      go_ret
      refine ⟨ra, rc, rfl, ⟨vs, by rw [Hv.out.1, List.take_of_length_le (by rw [← Hl.out]; omega)], Hl.out, hrow, Hv.out.2.1, Hv.out.2.2.1⟩, hX⟩
set_option maxRecDepth 100000 in
set_option maxHeartbeats 2000000 in
theorem copyDirs_c (l : List Di) (a : Option Addr) (n c B : Nat) (w : World) (hD : DirsAt w B a n l) :
    Calls Tryz.prog 97 #[.slice a n c] w fun e w' => ∃ ra rc, e = .returned (.slice ra n rc) ∧ DirsO w' w.heap.size ra n rc l ∧ X w w' := by
  obtain ⟨hl, hn⟩ := hD.len
  have Hl := Lib.hid hl
  clear hl
  go_enter Tryz.func97, Tryz.ntmps97
  go_wp2
  refine wp_name (fun W0 hW0 => ?_)
  have hX0 : X w W0 := by rw [hW0]; (repeat (first | with_reducible exact X.refl _ | with_reducible assumption | with_reducible refine X.setCell ?_ (by first | (simp; done) | (simp; omega)) _ | with_reducible refine X.ext ?_ _ | with_reducible refine X.alloc ?_ _ | with_reducible refine X.drew ?_))
  have hrow0 : W0.ownsRow w.heap.size 140 4 (.slice (some ⟨w.heap.size, 0, none⟩) 0 0) 0 [] := by
    rw [hW0]
    exact own_fr (own_lit (w := w) (cs := #[]) (e := 140) (B := w.heap.size) (g := w.heap.size) (size := 4) (n := 0) rfl (Nat.le_refl _) rfl (by omega)) (X.fr (by (repeat (first | with_reducible exact X.refl _ | with_reducible assumption | with_reducible refine X.setCell ?_ (by first | (simp; done) | (simp; omega)) _ | with_reducible refine X.ext ?_ _ | with_reducible refine X.alloc ?_ _ | with_reducible refine X.drew ?_))) _)
  clear hW0
  go_loopw [3, 4, 5] (fun v i _ wr => ∃ (k : Nat) (vs : List (Di × Value)) (ra : Option Addr) (rc : Nat), k ≤ n ∧ i = .int .i64 k ∧ v = .slice ra k rc ∧ vs.length = k ∧ vs.map (·.1) = l.take k ∧ wr.ownsRow w.heap.size 140 4 (.slice ra k rc) k (vs.flatMap dcells) ∧ SepD vs ∧ (∀ x ∈ vs, BodyD wr w.heap.size x) ∧ X w wr) (fun _ i _ _ => n - (intOf i).toNat)
  case atStart => exact ⟨0, [], _, 0, Nat.zero_le _, rfl, rfl, rfl, rfl, hrow0, List.Pairwise.nil, (fun _ h => by cases h), hX0⟩
  case round =>
    obtain ⟨k, vs, ra, rc, hk, rfl, rfl, hvl, hvs, hrow, hsep, hbd, hX⟩ := hrel
    have Hv := Lib.hid (And.intro hvs (And.intro hsep (And.intro hbd hvl)))
    clear hvs hsep hbd hvl hX0 hrow0
    by_cases hlt : k < n
    · obtain ⟨b, off, ba, bn, bc, rfl, _, hb, hpk, hbc, hSb, g0, g1, g2, g3⟩ := (hD.mono (hX.fr _)).at_ hlt
      have Hbn := Lib.hid hSb.1
      have hbn := hSb.2.1
      have hsz := hX.size
      go_wp2_with (first
        | (at_builtin; refine wpList_append_sl str_T rfl _ _ rfl (own_lit (B := wr.heap.size + 1) (n := 0) (size := 1) (by simp) (by simp) rfl (by omega)) rfl rfl (hSb.mono (X.fr (by (repeat (first | with_reducible exact X.refl _ | with_reducible assumption | with_reducible refine X.setCell ?_ (by first | (simp; done) | (simp; omega)) _ | with_reducible refine X.ext ?_ _ | with_reducible refine X.alloc ?_ _ | with_reducible refine X.drew ?_))) _)).2.2.2 (by rw [strs_lenD, Nat.mul_one]; exact Hbn.out.symm) (strs_oneD _) (by omega) (by unfold maxLen; omega) (by simp) ?_; intro a1 c1 w1 hO1 hg1; have hX41 := X.of_litR hg1 (by simp [Value.ownBlock]); have hB1 := (Bx.new wr #[.int .i64 (nth l k).root, .string ⟨((nth l k).pkg).toArray⟩, .int .i64 (nth l k).stamp, .slice ba bn bc] 140).x hX41; have hX1 : X wr w1 := X.trans (by (repeat (first | with_reducible exact X.refl _ | with_reducible assumption | with_reducible refine X.setCell ?_ (by first | (simp; done) | (simp; omega)) _ | with_reducible refine X.ext ?_ _ | with_reducible refine X.alloc ?_ _ | with_reducible refine X.drew ?_))) hX41; have hT1 := at_x2' (heap_alloc_new wr (.cells #[.int .i64 (nth l k).root, .string ⟨((nth l k).pkg).toArray⟩, .int .i64 (nth l k).stamp, .slice ba bn bc] 140)) hX41; obtain ⟨lb1, cb1, fb1⟩ := hB1.out; have e0 := cb1 0; have e1 := cb1 1; have e2 := cb1 2; have e3 := cb1 3; clear cb1)
        | (at_builtin; refine wpList_append_g dir_T' rfl _ _ rfl (own_fr hrow (X.fr (by (repeat (first | with_reducible exact X.refl _ | with_reducible assumption | with_reducible refine X.setCell ?_ (by first | (simp; done) | (simp; omega)) _ | with_reducible refine X.ext ?_ _ | with_reducible refine X.alloc ?_ _ | with_reducible refine X.drew ?_))) _)) rfl rfl (by simp) rfl (by simp [Value.oneCell']) (by omega) (by omega) (by first | omega | (simp; omega)) ?_; intro a2 c2 w2 hO2 hg2))
      go_roundw
      case rel =>
        rw [List.nil_append, Nat.zero_add] at hO1
        obtain ⟨hvs, hsep, hbd, hvl⟩ := Hv.out
        have hbe := Hbn.out
        subst hbe hvl
        have hX6 : X wr (w1.setCell ⟨wr.heap.size, 3, none⟩ (.slice a1 (nth l vs.length).names.length c1)) := hX1.setCell (Nat.le_refl _) _
        have hO6 := own_less (own_set_far hO1 hT1 (by decide) 3 (.slice a1 (nth l vs.length).names.length c1)) (show w.heap.size ≤ wr.heap.size + 1 by omega)
        have hXA := hX6.alloc (.cells #[.int .i64 (nth l vs.length).root, .string ⟨((nth l vs.length).pkg).toArray⟩, .int .i64 (nth l vs.length).stamp, .slice a1 (nth l vs.length).names.length c1] 140)
        have hrA := own_fr hrow (hXA.fr _)
        have H := DirsV.snoc (d := nth l vs.length) (ba := a1) (bc := c1) ⟨hrA, hsep, fun x hx => (hbd x hx).fr (hXA.fr _)⟩ hO2 hg2 (hO6.alloc _) (fun x hx => by
          obtain ⟨p, q, e, ho⟩ := hbd x hx
          rw [e]
          rcases row_far ho rfl (own_less hO1 (Nat.le_succ _)) with e | e | e
          · exact .inr (.inl e)
          · exact .inl e
          · exact .inr (.inr e))
        obtain ⟨h1, h2, h3⟩ := H
        rw [List.length_append, List.length_singleton] at h1
        exact ⟨vs.length + 1, _, a2, c2, by omega, by go_num, rfl, by rw [List.length_append, List.length_singleton], by rw [List.map_append, hvs, take_succ_nth (by rw [← Hl.out]; exact hlt)]; rfl, h1, h2, h3, X.of_below ((hX.trans hXA).below.grown hg2 (hX.trans hXA).size (fun g hg => (hrA.lt g hg).1))⟩
      case measure => simp [intOf]; omega
    · obtain rfl : k = n := by omega
      go_wp2
      go_ret
      refine ⟨ra, rc, rfl, ⟨vs, by rw [Hv.out.1, List.take_of_length_le (by rw [← Hl.out]; omega)], Hl.out, hrow, Hv.out.2.1, Hv.out.2.2.1⟩, hX⟩

end Go.Proofs.YtgjfjjhmgbemcaaGreatDoor
