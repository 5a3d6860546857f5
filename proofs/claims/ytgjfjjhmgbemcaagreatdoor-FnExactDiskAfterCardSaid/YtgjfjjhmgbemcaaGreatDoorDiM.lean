/- Directories of the call's own: a directory more, a stamp; the laws' own marks on directories and disks, written and read again: the walks. No condition but sizes. -/
import Derived.Test.YtgjfjjhmgbemcaaGreatDoorLa
import Derived.Test.YtgjfjjhmgbemcaaGreatDoorIe
import Derived.Test.YtgjfjjhmgbemcaaGreatDoorMkStr
import Derived.Test.YtgjfjjhmgbemcaaGreatDoorMkE
namespace Go.Proofs.YtgjfjjhmgbemcaaGreatDoor
open Go.RowKit

def BodyD (w : World) (B : Nat) (x : Di × Value) : Prop := ∃ ba bc, x.2 = .slice ba x.1.names.length bc ∧ w.ownsRow B 9 1 (.slice ba x.1.names.length bc) x.1.names.length (strs x.1.names)
theorem BodyD.grown {w w' : World} {B g : Nat} {x : Di × Value} {cs : Array Value} (h : BodyD w B x) (hg : w.grownBy w' (some g)) (hb : w.heap[g]? = some (.cells cs 140 (0, 0))) : BodyD w' B x := by
  obtain ⟨ba, bc, e, ho⟩ := h
  exact ⟨ba, bc, e, ho.kept hg (.inr (own_ne_at ho hb (by decide)))⟩
theorem BodyD.kept {w w' : World} {B : Nat} {x : Di × Value} {row : Option Nat} (h : BodyD w B x) (hg : w.grownBy w' row) (hr : x.2.ownBlock = none ∨ x.2.ownBlock ≠ row) : BodyD w' B x := by
  obtain ⟨ba, bc, e, ho⟩ := h
  rw [e] at hr
  exact ⟨ba, bc, e, ho.kept hg hr⟩
theorem BodyD.fr {w w' : World} {B : Nat} {x : Di × Value} (h : BodyD w B x) (hx : Fr B w w') : BodyD w' B x := by
  obtain ⟨ba, bc, e, ho⟩ := h
  exact ⟨ba, bc, e, own_fr ho hx⟩
/-- Directories of the call's own, in blocks before E. -/
def DirsE (w : World) (B E : Nat) (a : Option Addr) (n c : Nat) (l : List Di) : Prop :=
  ∃ vs : List (Di × Value), l = vs.map (·.1) ∧ n = l.length ∧ w.ownsRow B 140 4 (.slice a n c) n (vs.flatMap dcells) ∧ SepD vs ∧ (∀ x ∈ vs, BodyD w B x) ∧
    (∀ b, (Value.slice a n c).ownBlock = some b → b < E) ∧ ∀ x ∈ vs, ∀ b, x.2.ownBlock = some b → b < E
theorem DirsO.e {w : World} {B n c : Nat} {a : Option Addr} {l : List Di} (h : DirsO w B a n c l) : DirsE w B w.heap.size a n c l := by
  obtain ⟨vs, e, h1, h2, hs, h3⟩ := h
  exact ⟨vs, e, h1, h2, hs, h3, fun b hb => (h2.lt b hb).2, fun x hx b hb => by obtain ⟨ba, bc, e, ho⟩ := h3 x hx; rw [e] at hb; exact (ho.lt b hb).2⟩
theorem DirsE.fr {w w' : World} {B E n c : Nat} {a : Option Addr} {l : List Di} (h : DirsE w B E a n c l) (hx : Fr B w w') : DirsE w' B E a n c l := by
  obtain ⟨vs, e, h1, h2, hs, h3, h4, h5⟩ := h
  exact ⟨vs, e, h1, own_fr h2 hx, hs, fun x hm => (h3 x hm).fr hx, h4, h5⟩
theorem DirsE.o {w : World} {B E n c : Nat} {a : Option Addr} {l : List Di} (h : DirsE w B E a n c l) : DirsO w B a n c l := by
  obtain ⟨vs, e, h1, h2, hs, h3, _⟩ := h
  exact ⟨vs, e, h1, h2, hs, h3⟩
theorem sepD_at {vs : List (Di × Value)} (h : SepD vs) {i j : Nat} (hi : i < vs.length) (hj : j < vs.length) (hne : i ≠ j) : (nth vs i).2.ownBlock = none ∨ (nth vs j).2.ownBlock = none ∨ (nth vs i).2.ownBlock ≠ (nth vs j).2.ownBlock := by
  unfold SepD at h
  rw [List.pairwise_iff_getElem] at h
  rw [nth_eq hi, nth_eq hj]
  rcases Nat.lt_or_ge i j with h1 | h1
  · rcases h i j hi hj h1 with h | h | h
    · exact .inl h
    · exact .inr (.inl h)
    · exact .inr (.inr (Ne.symm h))
  · rcases h j i hj hi (by omega) with h | h | h
    · exact .inr (.inl h)
    · exact .inl h
    · exact .inr (.inr h)
theorem dcells_last {zs : List (Di × Value)} {j : Nat} (hj : j < zs.length) : (zs.flatMap dcells)[j * 4 + 3]? = some (nth zs j).2 := by
  have hl : j * 4 + 3 < (zs.flatMap dcells).length := by rw [flat_length 4 dcells dcells4]; omega
  rw [List.getElem?_eq_getElem hl, flat_get 4 dcells dcells4 zs j 3 hj (by omega) hl, nth_eq hj]
  rfl
theorem map_snd_setD {zs : List (Di × Value)} {j : Nat} (hj : j < zs.length) {f' : Di} {v : Value} (hv : (nth zs j).2 = v) : (zs.set j (f', v)).map (·.2) = zs.map (·.2) := by
  rw [List.map_set]
  refine List.ext_getElem (by simp) fun i h1 h2 => ?_
  rw [List.getElem_set]
  split
  · rename_i h
    subst h
    rw [List.getElem_map, ← nth_eq hj, hv]
  · rfl
theorem sepD_of {vs zs : List (Di × Value)} (h : SepD vs) (hz : zs.map (·.2) = vs.map (·.2)) : SepD zs := by
  have h1 : (vs.map (·.2)).Pairwise (fun x y : Value => x.ownBlock = none ∨ y.ownBlock = none ∨ y.ownBlock ≠ x.ownBlock) := List.pairwise_map.2 h
  rw [← hz] at h1
  exact List.pairwise_map.1 h1
theorem sndD_nth {vs zs : List (Di × Value)} {n i : Nat} (hz : zs.map (·.2) = vs.map (·.2)) (hv : vs.length = n) (hl : zs.length = n) (hi : i < n) : (nth zs i).2 = (nth vs i).2 := by
  have h1 : (zs.map (·.2))[i]? = (vs.map (·.2))[i]? := by rw [hz]
  rw [List.getElem?_map, List.getElem?_map, List.getElem?_eq_getElem (by omega), List.getElem?_eq_getElem (by omega)] at h1
  rw [nth_eq (by omega), nth_eq (by omega)]
  simpa using h1

/-! ### A directory more, a stamp -/
/-- Directories of the call's own, their names' values told. -/
def DirsV (w : World) (B : Nat) (a : Option Addr) (c : Nat) (vs : List (Di × Value)) : Prop :=
  w.ownsRow B 140 4 (.slice a vs.length c) vs.length (vs.flatMap dcells) ∧ SepD vs ∧ ∀ x ∈ vs, BodyD w B x
theorem DirsV.o {w : World} {B c : Nat} {a : Option Addr} {vs : List (Di × Value)} (h : DirsV w B a c vs) : DirsO w B a vs.length c (vs.map (·.1)) :=
  ⟨vs, rfl, (List.length_map _).symm, h.1, h.2.1, h.2.2⟩
theorem DirsO.v {w : World} {B n c : Nat} {a : Option Addr} {l : List Di} (h : DirsO w B a n c l) : ∃ vs, n = vs.length ∧ vs.map (·.1) = l ∧ DirsV w B a c vs := by
  obtain ⟨vs, e, h1, h2, hs, h3⟩ := h
  have hn : n = vs.length := by rw [h1, e, List.length_map]
  subst hn
  exact ⟨vs, rfl, e.symm, h2, hs, h3⟩
theorem DirsV.fr {w w' : World} {B c : Nat} {a : Option Addr} {vs : List (Di × Value)} (h : DirsV w B a c vs) (hx : Fr B w w') : DirsV w' B a c vs :=
  ⟨own_fr h.1 hx, h.2.1, fun x hm => (h.2.2 x hm).fr hx⟩
theorem DirsV.nil (w : World) (B : Nat) : DirsV w B none 0 [] := ⟨⟨rfl, .inl ⟨rfl, rfl⟩⟩, List.Pairwise.nil, fun _ h => by cases h⟩
theorem DirsV.snoc {w w' : World} {B c c' : Nat} {a a' : Option Addr} {vs : List (Di × Value)} {d : Di} {ba : Option Addr} {bc : Nat} (h : DirsV w B a c vs)
    (hO : w'.ownsRow B 140 4 (.slice a' (vs.length + 1) c') (vs.length + 1) (vs.flatMap dcells ++ dcells (d, .slice ba d.names.length bc)))
    (hg : w.grownBy w' (Value.slice a vs.length c).ownBlock) (hb : w.ownsRow B 9 1 (.slice ba d.names.length bc) d.names.length (strs d.names))
    (hs : ∀ x ∈ vs, (Value.slice ba d.names.length bc).ownBlock = none ∨ x.2.ownBlock = none ∨ (Value.slice ba d.names.length bc).ownBlock ≠ x.2.ownBlock) : DirsV w' B a' c' (vs ++ [(d, .slice ba d.names.length bc)]) := by
  have hk : ∀ {v : Value} {m : Nat} {xs : List Value}, w.ownsRow B 9 1 v m xs → w'.ownsRow B 9 1 v m xs := fun ho => ho.kept hg (row_ne ho h.1 (by decide))
  refine ⟨?_, ?_, fun x hx => ?_⟩
  · rw [List.length_append, List.flatMap_append]
    simpa using hO
  · refine List.pairwise_append.2 ⟨h.2.1, List.pairwise_singleton _ _, fun x hx y hy => ?_⟩
    rw [List.mem_singleton.1 hy]
    rcases hs x hx with e | e | e
    · exact .inr (.inl e)
    · exact .inl e
    · exact .inr (.inr e)
  · rcases List.mem_append.1 hx with hx | hx
    · obtain ⟨p, q, e, ho⟩ := h.2.2 x hx
      exact ⟨p, q, e, hk ho⟩
    · rw [List.mem_singleton.1 hx]
      exact ⟨ba, bc, rfl, hk hb⟩
theorem DirsV.far {w : World} {B c b : Nat} {a : Option Addr} {vs : List (Di × Value)} {cs : Array Value} {t : TypeId} (h : DirsV w B a c vs) (hb : w.heap[b]? = some (.cells cs t (0, 0))) (h1 : 140 ≠ t) (h2 : 9 ≠ t) (i : Nat) (u : Value) : DirsV (w.setCell ⟨b, i, none⟩ u) B a c vs :=
  ⟨own_set_far h.1 hb h1 _ _, h.2.1, fun x hx => by
    obtain ⟨ba, bc, e, ho⟩ := h.2.2 x hx
    exact ⟨ba, bc, e, own_set_far ho hb h2 _ _⟩⟩
theorem DirsV.stamp {w : World} {B g c k : Nat} {vs : List (Di × Value)} (h : DirsV w B (some ⟨g, 0, none⟩) c vs) (hk : k < vs.length) (st : Int) :
    DirsV (w.setCell ⟨g, k * 4 + 2, none⟩ (.int .i64 st)) B (some ⟨g, 0, none⟩) c (vs.set k ({ (nth vs k).1 with stamp := st }, (nth vs k).2)) := by
  obtain ⟨h2, hs, h3⟩ := h
  obtain ⟨cs, hb⟩ := own_block h2
  rw [nth_eq hk]
  refine ⟨?_, sep_sameD hk rfl hs, fun x hx => ?_⟩
  · rw [List.length_set, ← flat_setD hk (show 2 < 4 by omega) (u := .int .i64 st) rfl]
    exact own_set h2 _
  · have key : BodyD w B x := by
      rcases List.mem_or_eq_of_mem_set hx with hx | rfl
      · exact h3 x hx
      · exact h3 vs[k] (List.getElem_mem _)
    obtain ⟨ba, bc, e1, ho⟩ := key
    exact ⟨ba, bc, e1, own_set_far ho hb (by decide) _ _⟩

/-! ### Marks -/
def wtD : List Di → Nat
  | [] => 0
  | f :: l => 3 + f.names.length + wtD l
theorem wtD_append (l m : List Di) : wtD (l ++ m) = wtD l + wtD m := by
  induction l with
  | nil => simp [wtD]
  | cons f l ih => simp only [List.cons_append, wtD, ih]; omega
theorem wtD_next {l : List Di} {k : Nat} (hk : k < l.length) : wtD (l.take (k + 1)) = wtD (l.take k) + (3 + (nth l k).names.length) := by
  rw [take_succ_nth hk, wtD_append]; simp [wtD]
theorem wtD_take (l : List Di) (k : Nat) : wtD (l.take k) ≤ wtD l := by
  have h := wtD_append (l.take k) (l.drop k)
  rw [List.take_append_drop] at h
  omega
def diM (k : Nat) (f : Di) : Di := ⟨(k : Int), mtxt (k + 1), ((k + 2 : Nat) : Int), mtxN (k + 3) f.names.length⟩
def marksD (k : Nat) : List Di → List Di
  | [] => []
  | f :: l => diM k f :: marksD (k + (3 + f.names.length)) l
theorem marksD_len : ∀ (l : List Di) (k : Nat), (marksD k l).length = l.length
  | [], _ => rfl
  | f :: l, k => by rw [marksD, List.length_cons, marksD_len l, List.length_cons]
theorem marksD_nth : ∀ (l : List Di) (k j : Nat), j < l.length → nth (marksD k l) j = diM (k + wtD (l.take j)) (nth l j)
  | [], _, _, h => absurd h (by simp)
  | f :: l, k, 0, _ => by simp [marksD, nth, wtD]
  | f :: l, k, j + 1, h => by
    have := marksD_nth l (k + (3 + f.names.length)) j (by simpa using h)
    rw [marksD, List.take_succ_cons, wtD, show ∀ (x : Di) (m : List Di), nth (x :: m) (j + 1) = nth m j from fun _ _ => rfl, show nth (f :: l) (j + 1) = nth l j from rfl, this, Nat.add_assoc, Nat.add_assoc]
theorem dcells_set {zs : List (Di × Value)} {j : Nat} (hj : j < zs.length) {x : Di × Value} (hx : nth zs j = x) (f' : Di) (v0 v1 v2 : Value) (hv : dcells (f', x.2) = [v0, v1, v2, x.2]) :
    ((((zs.flatMap dcells).set (j * 4) v0).set (j * 4 + 1) v1).set (j * 4 + 2) v2) = (zs.set j (f', x.2)).flatMap dcells := by
  have hA : ((zs.take j).flatMap dcells).length = j * 4 := by rw [flat_length 4 dcells dcells4, List.length_take, Nat.min_eq_left (by omega)]
  have hz : zs.flatMap dcells = (zs.take j).flatMap dcells ++ (dcells x ++ (zs.drop (j + 1)).flatMap dcells) := by
    rw [← hx, ← List.flatMap_cons, ← drop_nth hj, ← List.flatMap_append, List.take_append_drop]
  have hs : zs.set j (f', x.2) = zs.take j ++ (f', x.2) :: zs.drop (j + 1) := by
    rw [List.set_eq_take_append_cons_drop, if_pos hj]
  rw [hs, List.flatMap_append, List.flatMap_cons, hv, hz]
  generalize (zs.take j).flatMap dcells = A at *
  generalize (zs.drop (j + 1)).flatMap dcells = R at *
  have h0 := set_off (A := A) (Z := dcells x ++ R) 0 v0
  rw [Nat.add_zero] at h0
  rw [← hA, h0, set_off, set_off]
  rfl
theorem own_set_atD2 {w W : World} {B e size n c g o0 o1 : Nat} {xs : List Value} {v0 v1 : Value}
    (hW : W = (w.setCell ⟨g, o0, none⟩ v0).setCell ⟨g, o1, none⟩ v1) (h : w.ownsRow B e size (.slice (some ⟨g, 0, none⟩) n c) n xs) :
    W.ownsRow B e size (.slice (some ⟨g, 0, none⟩) n c) n ((xs.set o0 v0).set o1 v1) := by
  subst hW; exact own_set (own_set h v0) v1
theorem grown_set_atD2 {w0 w W : World} {g o0 o1 : Nat} {v0 v1 : Value}
    (hW : W = (w.setCell ⟨g, o0, none⟩ v0).setCell ⟨g, o1, none⟩ v1) (h : w0.grownBy w (some g)) : w0.grownBy W (some g) := by
  subst hW; exact grown_next (grown_next h o0 v0) o1 v1

set_option maxRecDepth 100000 in
set_option maxHeartbeats 2000000 in
theorem markDirS_e (l : List Di) (a : Option Addr) (n c B E k : Nat) (v0 : Int) (w : World) (hv0 : v0 = (k : Int)) (hF : DirsE w B E a n c l) (hn : n ≤ 2097152) (hk : k + wtD l ≤ 1073741824) :
    Calls Tryz.prog 52 #[.slice a n c, .int .i64 v0] w fun e w' => e = .returned (.int .i64 ((k + wtD l : Nat) : Int)) ∧ DirsO w' B a n c (marksD k l) ∧ Keep B E w w' := by
  subst hv0
  obtain ⟨vs, hvl, hnl, hO0, hsep, hbd0, hEr, hEb⟩ := hF
  have hbl : ∀ x ∈ vs, ∀ b, x.2.ownBlock = some b → B ≤ b ∧ b < E := fun x hx b hb => by
    obtain ⟨ba, bc, e, ho⟩ := hbd0 x hx
    have h2 := hEb x hx b hb
    rw [e] at hb
    exact ⟨(ho.lt b hb).1, h2⟩
  have hvn : vs.length = n := by rw [hnl, hvl, List.length_map]
  have Hw := Lib.hid (fun j h => @wtD_next l j h)
  have Ht := Lib.hid (wtD_take l)
  have Hvn := Lib.hid hvn
  have Hnl := Lib.hid hnl
  have Hvl := Lib.hid hvl
  have Hbl := Lib.hid hbl
  have hgw : ∀ g, a = some ⟨g, 0, none⟩ → B ≤ g ∧ g < E := fun g hg => ⟨(hO0.lt _ (by rw [hg]; rfl)).1, hEr g (by rw [hg]; rfl)⟩
  clear hvn hnl hvl hbl
  go_enter Tryz.func52, Tryz.ntmps52
  go_wp2
  go_loopw [1, 5] (fun v i wr => ∃ (j q : Nat) (zs : List (Di × Value)), j ≤ n ∧ i = .int .i64 j ∧ v = .int .i64 (q : Int) ∧ q ≤ 1073741824 ∧ q = k + wtD (l.take j) ∧ zs.length = n ∧ zs.map (·.2) = vs.map (·.2) ∧ (∀ i, i < n → (nth zs i).1 = if i < j then nth (marksD k l) i else nth l i) ∧
    wr.ownsRow B 140 4 (.slice a n c) n (zs.flatMap dcells) ∧ (∀ i, i < n → BodyD wr B (nth zs i)) ∧ Keep B E w wr) (fun _ i _ => n - (intOf i).toNat)
  case atStart => exact ⟨0, k, vs, Nat.zero_le _, rfl, rfl, by omega, by simp [wtD], Hvn.out, rfl, fun i hi => by rw [if_neg (by omega), Hvl.out]; exact (nth_map_fstD (by rw [Hvn.out]; exact hi)).symm, hO0, fun i hi => hbd0 _ (nth_mem (by rw [Hvn.out]; exact hi)), Keep.refl _ _ _⟩
  case round =>
    obtain ⟨j, q, zs, hj, rfl, rfl, hq, hqe, hzl, hz2, hz1, hO, hbd, hK⟩ := hrel
    have Hz := Lib.hid (And.intro hzl (And.intro hz2 (And.intro hz1 hqe)))
    clear hzl hz2 hz1 hqe hO0
    by_cases hlt : j < n
    · obtain ⟨g, rfl, hB, hgl⟩ := own_form hO (by omega)
      have hgE := hgw g rfl
      have hqn : q + (3 + (nth l j).names.length) ≤ 1073741824 := by
        have h1 := Hw.out j (by rw [← Hnl.out]; exact hlt)
        have h2 := Ht.out (j + 1)
        have h3 := Hz.out.2.2.2
        omega
      obtain ⟨ba, bc, hbv, hob⟩ := hbd j hlt
      have hfj : (nth zs j).1 = nth l j := by rw [Hz.out.2.2.1 j hlt, if_neg (by omega)]
      rw [hfj] at hbv hob
      have Hfj := Lib.hid hfj
      clear hfj
      have hf0 := (hO).frozenAt (j * 4); obtain ⟨u0, hu0⟩ := own_here hO (j := j * 4) (by omega)
      go_wp2_with fail
      refine calls_name (fun W1 hW1 => ?_)
      have hO1 := own_set_at hW1 hO
      have hg1 : wr.grownBy W1 (some g) := grown_set_at hW1 (World.grownBy.refl _ _)
      clear hW1
      refine (markText_v (q + 1) _ W1 (by omega) (by omega)).mono ?_
      rintro _ w2 ⟨rfl, hx2⟩
      have hO2 := own_fr hO1 (hx2.fr _)
      have hg2 := grown_x hg1 hx2
      have hgl2 := (hO2.lt g rfl).2
      clear hO1 hg1 hx2
      have hf1 := (hO2).frozenAt (j * 4 + 1); obtain ⟨u1, hu1⟩ := own_here hO2 (j := j * 4 + 1) (by omega)
      have hf2 := (hO2).frozenAt (j * 4 + 2); obtain ⟨u2, hu2⟩ := own_here hO2 (j := j * 4 + 2) (by omega)
      have h5 : w2.cell? ⟨g, j * 4 + 3, none⟩ = some (.slice ba (nth l j).names.length bc) := by
        refine row_cell hO2 _ _ ?_
        rw [List.getElem?_set_ne (by omega), dcells_last (by rw [Hz.out.1]; exact hlt), hbv]
      obtain ⟨cs0, hb0⟩ := own_block hO
      go_wp2_with fail
      refine calls_name (fun W5 hW5 => ?_)
      have hO5 := own_set_atD2 hW5 hO2
      have hg5 := grown_set_atD2 hW5 hg2
      clear hW5
      rw [dcells_set (zs := zs) (x := nth zs j) (by rw [Hz.out.1]; exact hlt) rfl (diM q (nth l j)) _ _ _ (by
        rw [dcells, diM]
        simp only [List.cons.injEq, Value.int.injEq, and_true, true_and]
        omega)] at hO5
      refine (markStringS_v _ ba _ bc B (q + 3) _ W5 (by omega) (hob.kept hg5 (.inr (own_ne_at hob hb0 (by decide)))) (by omega) (by omega)).mono ?_
      rintro _ w6 ⟨rfl, hob6, hg6⟩
      have hO6 := hO5.kept hg6 (row_ne hO5 (hob.kept hg5 (.inr (own_ne_at hob hb0 (by decide)))) (by decide))
      clear hO5 hO2 hg2 h5
      have hgl6 := (hO6.lt g rfl).2
      go_wp2
      go_roundw
      case rel =>
        obtain ⟨hzl, hz2, hz1, hqe⟩ := Hz.out
        refine ⟨j + 1, q + 3 + (nth l j).names.length, zs.set j (diM q (nth l j), (nth zs j).2), by omega, by go_num, by go_num, by omega, ?_, by rw [List.length_set]; exact hzl, ?_, ?_, hO6, ?_, ?_⟩
        · rw [Hw.out j (by rw [← Hnl.out]; exact hlt)]; omega
        · rw [map_snd_setD (by omega) rfl]; exact hz2
        · intro i hi
          rw [nth_set (by omega)]
          by_cases hij : i = j
          · subst hij
            rw [if_pos rfl, if_pos (by omega), marksD_nth l k i (by rw [← Hnl.out]; exact hi), ← hqe]
          · rw [if_neg hij, hz1 i hi]
            by_cases h : i < j
            · rw [if_pos h, if_pos (by omega)]
            · rw [if_neg h, if_neg (by omega)]
        · intro i hi
          rw [nth_set (by omega)]
          by_cases hij : i = j
          · subst hij
            rw [if_pos rfl]
            refine ⟨ba, bc, ?_, ?_⟩
            · rw [hbv]; simp only [diM, mtxN_len]
            · simp only [diM, mtxN_len]; exact hob6
          · rw [if_neg hij]
            refine ((hbd i hi).grown hg5 hb0).kept hg6 ?_
            have hs := sepD_at (sepD_of hsep hz2) (i := i) (j := j) (by omega) (by omega) hij
            rw [hbv] at hs
            rcases hs with h | h | h
            · exact .inl h
            · rw [h]
              cases hx : (nth zs i).2.ownBlock with
              | none => exact .inl rfl
              | some _ => exact .inr (by simp)
            · exact .inr h
        · refine (hK.trans (Keep.of_grown hg5 (fun b hb => ?_))).trans (Keep.of_grown hg6 (fun b hb => ?_))
          · injection hb with hb; subst hb; exact hgE
          · rw [← hbv] at hb
            rw [sndD_nth hz2 Hvn.out hzl hlt] at hb
            exact Hbl.out _ (nth_mem (by rw [Hvn.out]; exact hlt)) b hb
      case measure => simp [intOf]; omega
    · obtain rfl : j = n := by omega
      obtain ⟨hzl, hz2, hz1, hqe⟩ := Hz.out
      have Hq := Lib.hid (show q = k + wtD l by rw [hqe, List.take_of_length_le (by rw [← Hnl.out]; omega)])
      clear hzl hz2 hz1 hqe
      go_wp2
      go_ret
      obtain ⟨hzl, hz2, hz1, hqe⟩ := Hz.out
      refine ⟨ret_intW (a := (q : Int)) (by have := Hq.out; omega), ⟨zs, ?_, by rw [marksD_len]; exact Hnl.out, hO, sepD_of hsep hz2, fun x hx => ?_⟩, hK⟩
      · refine (nth_ext (by rw [List.length_map, marksD_len, hzl]; exact Hnl.out) fun i hi => ?_).symm
        rw [List.length_map, hzl] at hi
        rw [nth_map_fstD (by omega), hz1 i hi, if_pos hi]
      · obtain ⟨i, hi, rfl⟩ := List.getElem_of_mem hx
        have := hbd i (by omega)
        rwa [nth_eq hi] at this
theorem marksD_at {w : World} {B n c k j : Nat} {a : Option Addr} {l : List Di} (h : DirsO w B a n c (marksD k l)) (hj : j < n) :
    ∃ b off ba bc, a = some ⟨b, off, none⟩ ∧ b < w.heap.size ∧ w.ownsRow B 9 1 (.slice ba (nth l j).names.length bc) (nth l j).names.length (strs (mtxN (k + wtD (l.take j) + 3) (nth l j).names.length)) ∧
      w.cell? ⟨b, off + j * 4, none⟩ = some (.int .i64 ((k + wtD (l.take j) : Nat) : Int)) ∧ w.cell? ⟨b, off + j * 4 + 1, none⟩ = some (.string ⟨(mtxt (k + wtD (l.take j) + 1)).toArray⟩) ∧
      w.cell? ⟨b, off + j * 4 + 2, none⟩ = some (.int .i64 ((k + wtD (l.take j) + 2 : Nat) : Int)) ∧ w.cell? ⟨b, off + j * 4 + 3, none⟩ = some (.slice ba (nth l j).names.length bc) := by
  obtain ⟨vs, e, h1, h2, _, h3⟩ := h
  have hvl : vs.length = n := by rw [h1, e, List.length_map]
  have hll : n = l.length := by rw [h1, marksD_len]
  obtain ⟨b, off, ha, _, hb, hc⟩ := (Sl.of_own h2).elem (s := 4) (fun _ => rfl) hvl.symm hj
  obtain ⟨ba, bc, e2, ho⟩ := h3 _ (nth_mem (l := vs) (k := j) (by omega))
  have hf : (nth vs j).1 = diM (k + wtD (l.take j)) (nth l j) := by rw [← nth_map_fstD (by omega), ← e, marksD_nth l k j (by omega)]
  have hbl : (nth vs j).1.names.length = (nth l j).names.length := by rw [hf]; exact mtxN_len
  rw [hbl] at e2 ho
  have hbo : (nth vs j).1.names = mtxN (k + wtD (l.take j) + 3) (nth l j).names.length := by rw [hf]; rfl
  rw [hbo] at ho
  have c0 := hc 0 (by omega)
  have c1 := hc 1 (by omega)
  have c2 := hc 2 (by omega)
  have c3 := hc 3 (by omega)
  simp only [dcells, hf, diM, e2, List.getElem_cons_zero, List.getElem_cons_succ] at c0 c1 c2 c3
  exact ⟨b, off, ba, bc, ha, hb, ho, c0, c1, c2, c3⟩
theorem heldStringS_v (a : Option Addr) (n c B k : Nat) (v : Int) (w : World) (hv : v = (k : Int)) (hI : StrsAt w B a n (mtxN k n)) (hk : k ≤ 1073741824) :
    Calls Tryz.prog 112 #[.slice a n c, .int .i64 v] w fun e w' => e = .returned (.int .i64 ((k + n : Nat) : Int)) ∧ X w w' := by
  subst hv
  exact heldStringS_c a n c B k w hI hk
set_option maxRecDepth 100000 in
set_option maxHeartbeats 2000000 in
theorem heldDirS_c (l : List Di) (a : Option Addr) (n c B k : Nat) (v0 : Int) (w : World) (hv0 : v0 = (k : Int)) (hF : DirsO w B a n c (marksD k l)) (hn : n ≤ 2097152) (hk : k + wtD l ≤ 4000000) :
    Calls Tryz.prog 55 #[.slice a n c, .int .i64 v0] w fun e w' => e = .returned (.int .i64 ((k + wtD l : Nat) : Int)) ∧ X w w' := by
  subst hv0
  have hnl : n = l.length := by obtain ⟨_, _, h1, _⟩ := hF; rw [h1, marksD_len]
  have Hw := Lib.hid (fun j h => @wtD_next l j h)
  have Ht := Lib.hid (wtD_take l)
  have Hnl := Lib.hid hnl
  clear hnl
  go_enter Tryz.func55, Tryz.ntmps55
  go_wp2
  go_loopw [1, 5] (fun v i wr => ∃ (j q : Nat), j ≤ n ∧ i = .int .i64 j ∧ v = .int .i64 (q : Int) ∧ q = k + wtD (l.take j) ∧ X w wr) (fun _ i _ => n - (intOf i).toNat)
  case atStart => exact ⟨0, k, Nat.zero_le _, rfl, rfl, by simp [wtD], X.refl _⟩
  case round =>
    obtain ⟨j, q, hj, rfl, rfl, hq, hX⟩ := hrel
    by_cases hlt : j < n
    · obtain ⟨b, off, ba, bc, rfl, hb, hob, g0, g1, g2, g3⟩ := marksD_at (hF.fr (hX.fr _)) hlt
      rw [← hq] at g0 g1 g2 hob
      have hqn : q + (3 + (nth l j).names.length) ≤ 4000000 := by
        have h1 := Hw.out j (by rw [← Hnl.out]; exact hlt)
        have h2 := Ht.out (j + 1)
        omega
      have hSb := strsAt_of hob mtxN_len (by omega) (mtxN_short (by omega))
      clear hob
      have Hq := Lib.hid hq
      clear hq
      have e2 : ((q + 2 : Nat) : Int) = (q : Int) + 1 + 1 := by omega
      rw [e2] at g2
      clear e2
      go_wp2
      refine wp_region_grow0 (by kernel_rfl) (by kernel_rfl) ?_
      repeat (go_big_quiet_step (((go_at_call 67; refine grow_of (markText_v (q + 1) _ _ (by omega) (by omega))))))
      refine wpQuiet_nil ?_
      rintro _ ⟨y, rfl⟩
      go_wp2_with fail
      refine calls_name (fun W5 hW5 => ?_)
      have hX5 : X wr W5 := by rw [hW5]; (repeat (first | exact X.refl _ | assumption | refine X.ext ?_ _ | refine X.alloc ?_ _ | refine X.drew ?_))
      clear hW5
      refine (heldStringS_v ba _ bc B (q + 3) _ W5 (by omega) (hSb.mono (hX5.fr _)) (by omega)).mono ?_
      rintro _ w6 ⟨rfl, hx6⟩
      go_wp2
      go_roundw
      case rel => exact ⟨j + 1, q + 3 + (nth l j).names.length, by omega, by go_num, by go_num, by have := Hq.out; rw [Hw.out j (by rw [← Hnl.out]; exact hlt)]; omega, (hX.trans hX5).trans hx6⟩
      case measure => simp [intOf]; omega
    · obtain rfl : j = n := by omega
      have hqe : q = k + wtD l := by rw [hq, List.take_of_length_le (by rw [← Hnl.out]; omega)]
      have Hqe := Lib.hid hqe
      clear hqe hq
      go_wp2
      go_ret
      exact ⟨ret_intW (a := (q : Int)) (by have := Hqe.out; omega), hX⟩

/-! ### Disks -/
set_option maxRecDepth 100000 in
set_option maxHeartbeats 2000000 in
theorem markDisk_e (l : List Fi) (dl : List Di) (kk : Int) (a da : Option Addr) (n c dn dc B E1 E k : Nat) (w : World) (hF : FilesE w B E1 a n c l) (hD : DirsE w E1 E da dn dc dl) (hB : B ≤ E1) (hE : E1 ≤ E) (hEw : E ≤ w.heap.size) (hn : n ≤ 2097152) (hdn : dn ≤ 2097152) (hk : k + wtF l + wtD dl ≤ 1073741824) :
    Calls Tryz.prog 16 #[.agg #[.slice a n c, .int .i64 kk, .slice da dn dc], .int .i64 (k : Int)] w fun e w' => e = .returned (.int .i64 ((k + wtF l + wtD dl : Nat) : Int)) ∧ FilesO w' B a n c (marksF k l) ∧ DirsO w' E1 da dn dc (marksD (k + wtF l) dl) ∧ Keep B E w w' := by
  go_enter Tryz.func16, Tryz.ntmps16
  go_wp2_with fail
  refine calls_name (fun W0 hW0 => ?_)
  have hB0 : Bx W0 w.heap.size #[.slice a n c, .int .i64 kk, .slice da dn dc] := by rw [hW0]; exact Bx.new _ _ _
  have hX0 : X w W0 := by rw [hW0]; (repeat (first | with_reducible exact X.refl _ | with_reducible assumption | with_reducible refine X.setCell ?_ (by first | (simp; done) | (simp; omega)) _ | with_reducible refine X.ext ?_ _ | with_reducible refine X.alloc ?_ _ | with_reducible refine X.drew ?_))
  clear hW0
  refine (markTree_x l a n c B E1 k W0 (hF.fr (hX0.fr _)) hn (by omega)).mono ?_
  rintro _ w1 ⟨rfl, hF1, hK1⟩
  have B1 := hB0.keep hK1 (.inr (by omega))
  obtain ⟨l1, c1, _⟩ := B1.out
  have e2 := c1 2
  clear c1
  go_wp2_with fail
  refine calls_name (fun W2 hW2 => ?_)
  have hX2 : X w1 W2 := by rw [hW2]; (repeat (first | with_reducible exact X.refl _ | with_reducible assumption | with_reducible refine X.setCell ?_ (by first | (simp; done) | (simp; omega)) _ | with_reducible refine X.ext ?_ _ | with_reducible refine X.alloc ?_ _ | with_reducible refine X.drew ?_))
  clear hW2
  refine (markDirS_e dl da dn dc E1 E (k + wtF l) _ W2 rfl (((hD.fr (hX0.fr _)).fr hK1.fr).fr (hX2.fr _)) hdn (by omega)).mono ?_
  rintro _ w2 ⟨rfl, hD2, hK2⟩
  go_wp2
  go_ret
  exact ⟨rfl, ((hF1.fr (hX2.fr _)).keepE hK2).o, hD2, (((Keep.of_x hX0).trans (hK1.wide (Nat.le_refl _) hE)).trans (Keep.of_x hX2)).trans (hK2.wide hB (Nat.le_refl _))⟩
set_option maxRecDepth 100000 in
set_option maxHeartbeats 2000000 in
theorem heldDisk_c (l : List Fi) (dl : List Di) (kk : Int) (a da : Option Addr) (n c dn dc B E1 k : Nat) (w : World) (hF : FilesO w B a n c (marksF k l)) (hD : DirsO w E1 da dn dc (marksD (k + wtF l) dl)) (hn : n ≤ 2097152) (hdn : dn ≤ 2097152) (hk : k + wtF l + wtD dl ≤ 4000000) :
    Calls Tryz.prog 18 #[.agg #[.slice a n c, .int .i64 kk, .slice da dn dc], .int .i64 (k : Int)] w fun e w' => e = .returned (.int .i64 ((k + wtF l + wtD dl : Nat) : Int)) ∧ X w w' := by
  go_enter Tryz.func18, Tryz.ntmps18
  go_wp2_with fail
  refine calls_name (fun W0 hW0 => ?_)
  have hB0 : Bx W0 w.heap.size #[.slice a n c, .int .i64 kk, .slice da dn dc] := by rw [hW0]; exact Bx.new _ _ _
  have hX0 : X w W0 := by rw [hW0]; (repeat (first | with_reducible exact X.refl _ | with_reducible assumption | with_reducible refine X.setCell ?_ (by first | (simp; done) | (simp; omega)) _ | with_reducible refine X.ext ?_ _ | with_reducible refine X.alloc ?_ _ | with_reducible refine X.drew ?_))
  clear hW0
  refine (heldTree_c l a n c B k W0 (hF.fr (hX0.fr _)) hn (by omega)).mono ?_
  rintro _ w1 ⟨rfl, hx1⟩
  have B1 := hB0.x hx1
  obtain ⟨l1, c1, _⟩ := B1.out
  have e2 := c1 2
  clear c1
  go_wp2_with fail
  refine calls_name (fun W2 hW2 => ?_)
  have hX2 : X w1 W2 := by rw [hW2]; (repeat (first | with_reducible exact X.refl _ | with_reducible assumption | with_reducible refine X.setCell ?_ (by first | (simp; done) | (simp; omega)) _ | with_reducible refine X.ext ?_ _ | with_reducible refine X.alloc ?_ _ | with_reducible refine X.drew ?_))
  clear hW2
  refine (heldDirS_c dl da dn dc E1 (k + wtF l) _ W2 rfl (hD.fr (X.fr ((hX0.trans hx1).trans hX2) _)) hdn (by omega)).mono ?_
  rintro _ w2 ⟨rfl, hx2⟩
  go_wp2
  go_ret
  exact ⟨rfl, ((hX0.trans hx1).trans hX2).trans hx2⟩

end Go.Proofs.YtgjfjjhmgbemcaaGreatDoor
