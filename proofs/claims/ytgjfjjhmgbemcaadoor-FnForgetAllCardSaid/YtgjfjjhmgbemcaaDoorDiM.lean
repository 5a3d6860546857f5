/- Directories of the call's own: a directory more, a stamp; the laws' own marks on directories and disks, written and read again: the walks. No condition but sizes. -/
import Derived.Test.YtgjfjjhmgbemcaaDoorLa
import Derived.Test.YtgjfjjhmgbemcaaDoorIe
import Derived.Test.YtgjfjjhmgbemcaaDoorMkStr
import Derived.Test.YtgjfjjhmgbemcaaDoorMkE
namespace Go.Proofs.YtgjfjjhmgbemcaaDoor
open Go.RowKit

def BodyD (w : World) (B : Nat) (x : Di × Value) : Prop := ∃ ba bc, x.2 = .slice ba x.1.names.length bc ∧ w.ownsRow B 9 1 (.slice ba x.1.names.length bc) x.1.names.length (strs x.1.names)
theorem BodyD.grown {w w' : World} {B g : Nat} {x : Di × Value} {cs : Array Value} (h : BodyD w B x) (hg : w.grownBy w' (some g)) (hb : w.heap[g]? = some (.cells cs 71 (0, 0))) : BodyD w' B x := by
  obtain ⟨ba, bc, e, ho⟩ := h
  exact ⟨ba, bc, e, ho.kept hg (.inr (own_ne_at ho hb (by decide)))⟩
theorem BodyD.kept {w w' : World} {B : Nat} {x : Di × Value} {row : Option Nat} (h : BodyD w B x) (hg : w.grownBy w' row) (hr : x.2.ownBlock = none ∨ x.2.ownBlock ≠ row) : BodyD w' B x := by
  obtain ⟨ba, bc, e, ho⟩ := h
  rw [e] at hr
  exact ⟨ba, bc, e, ho.kept hg hr⟩
theorem BodyD.fr {w w' : World} {B : Nat} {x : Di × Value} (h : BodyD w B x) (hx : Fr B w w') : BodyD w' B x := by
  obtain ⟨ba, bc, e, ho⟩ := h
  exact ⟨ba, bc, e, own_fr ho hx⟩
/-- Directories of the call's own, in blocks before E. -/
def DirsE (w : World) (B E : Nat) (a : Option Addr) (n c : Nat) (l : List Di) : Prop :=
  ∃ vs : List (Di × Value), l = vs.map (·.1) ∧ n = l.length ∧ w.ownsRow B 71 4 (.slice a n c) n (vs.flatMap dcells) ∧ SepD vs ∧ (∀ x ∈ vs, BodyD w B x) ∧
    (∀ b, (Value.slice a n c).ownBlock = some b → b < E) ∧ ∀ x ∈ vs, ∀ b, x.2.ownBlock = some b → b < E
theorem DirsO.e {w : World} {B n c : Nat} {a : Option Addr} {l : List Di} (h : DirsO w B a n c l) : DirsE w B w.heap.size a n c l := by
  obtain ⟨vs, e, h1, h2, hs, h3⟩ := h
  exact ⟨vs, e, h1, h2, hs, h3, fun b hb => (h2.lt b hb).2, fun x hx b hb => by obtain ⟨ba, bc, e, ho⟩ := h3 x hx; rw [e] at hb; exact (ho.lt b hb).2⟩
theorem DirsE.fr {w w' : World} {B E n c : Nat} {a : Option Addr} {l : List Di} (h : DirsE w B E a n c l) (hx : Fr B w w') : DirsE w' B E a n c l := by
  obtain ⟨vs, e, h1, h2, hs, h3, h4, h5⟩ := h
  exact ⟨vs, e, h1, own_fr h2 hx, hs, fun x hm => (h3 x hm).fr hx, h4, h5⟩
theorem DirsE.o {w : World} {B E n c : Nat} {a : Option Addr} {l : List Di} (h : DirsE w B E a n c l) : DirsO w B a n c l := by
  obtain ⟨vs, e, h1, h2, hs, h3, _⟩ := h
  exact ⟨vs, e, h1, h2, hs, h3⟩
theorem sepD_at {vs : List (Di × Value)} (h : SepD vs) {i j : Nat} (hi : i < vs.length) (hj : j < vs.length) (hne : i ≠ j) : (nth vs i).2.ownBlock = none ∨ (nth vs j).2.ownBlock = none ∨ (nth vs i).2.ownBlock ≠ (nth vs j).2.ownBlock := by
  unfold SepD at h
  rw [List.pairwise_iff_getElem] at h
  rw [nth_eq hi, nth_eq hj]
  rcases Nat.lt_or_ge i j with h1 | h1
  · rcases h i j hi hj h1 with h | h | h
    · exact .inl h
    · exact .inr (.inl h)
    · exact .inr (.inr (Ne.symm h))
  · rcases h j i hj hi (by omega) with h | h | h
    · exact .inr (.inl h)
    · exact .inl h
    · exact .inr (.inr h)
theorem dcells_last {zs : List (Di × Value)} {j : Nat} (hj : j < zs.length) : (zs.flatMap dcells)[j * 4 + 3]? = some (nth zs j).2 := by
  have hl : j * 4 + 3 < (zs.flatMap dcells).length := by rw [flat_length 4 dcells dcells4]; omega
  rw [List.getElem?_eq_getElem hl, flat_get 4 dcells dcells4 zs j 3 hj (by omega) hl, nth_eq hj]
  rfl
theorem map_snd_setD {zs : List (Di × Value)} {j : Nat} (hj : j < zs.length) {f' : Di} {v : Value} (hv : (nth zs j).2 = v) : (zs.set j (f', v)).map (·.2) = zs.map (·.2) := by
  rw [List.map_set]
  refine List.ext_getElem (by simp) fun i h1 h2 => ?_
  rw [List.getElem_set]
  split
  · rename_i h
    subst h
    rw [List.getElem_map, ← nth_eq hj, hv]
  · rfl
theorem sepD_of {vs zs : List (Di × Value)} (h : SepD vs) (hz : zs.map (·.2) = vs.map (·.2)) : SepD zs := by
  have h1 : (vs.map (·.2)).Pairwise (fun x y : Value => x.ownBlock = none ∨ y.ownBlock = none ∨ y.ownBlock ≠ x.ownBlock) := List.pairwise_map.2 h
  rw [← hz] at h1
  exact List.pairwise_map.1 h1
theorem sndD_nth {vs zs : List (Di × Value)} {n i : Nat} (hz : zs.map (·.2) = vs.map (·.2)) (hv : vs.length = n) (hl : zs.length = n) (hi : i < n) : (nth zs i).2 = (nth vs i).2 := by
  have h1 : (zs.map (·.2))[i]? = (vs.map (·.2))[i]? := by rw [hz]
  rw [List.getElem?_map, List.getElem?_map, List.getElem?_eq_getElem (by omega), List.getElem?_eq_getElem (by omega)] at h1
  rw [nth_eq (by omega), nth_eq (by omega)]
  simpa using h1

/-! ### A directory more, a stamp -/
/-- Directories of the call's own, their names' values told. -/
def DirsV (w : World) (B : Nat) (a : Option Addr) (c : Nat) (vs : List (Di × Value)) : Prop :=
  w.ownsRow B 71 4 (.slice a vs.length c) vs.length (vs.flatMap dcells) ∧ SepD vs ∧ ∀ x ∈ vs, BodyD w B x
theorem DirsV.o {w : World} {B c : Nat} {a : Option Addr} {vs : List (Di × Value)} (h : DirsV w B a c vs) : DirsO w B a vs.length c (vs.map (·.1)) :=
  ⟨vs, rfl, (List.length_map _).symm, h.1, h.2.1, h.2.2⟩
theorem DirsO.v {w : World} {B n c : Nat} {a : Option Addr} {l : List Di} (h : DirsO w B a n c l) : ∃ vs, n = vs.length ∧ vs.map (·.1) = l ∧ DirsV w B a c vs := by
  obtain ⟨vs, e, h1, h2, hs, h3⟩ := h
  have hn : n = vs.length := by rw [h1, e, List.length_map]
  subst hn
  exact ⟨vs, rfl, e.symm, h2, hs, h3⟩
theorem DirsV.fr {w w' : World} {B c : Nat} {a : Option Addr} {vs : List (Di × Value)} (h : DirsV w B a c vs) (hx : Fr B w w') : DirsV w' B a c vs :=
  ⟨own_fr h.1 hx, h.2.1, fun x hm => (h.2.2 x hm).fr hx⟩
theorem DirsV.nil (w : World) (B : Nat) : DirsV w B none 0 [] := ⟨⟨rfl, .inl ⟨rfl, rfl⟩⟩, List.Pairwise.nil, fun _ h => by cases h⟩
theorem DirsV.snoc {w w' : World} {B c c' : Nat} {a a' : Option Addr} {vs : List (Di × Value)} {d : Di} {ba : Option Addr} {bc : Nat} (h : DirsV w B a c vs)
    (hO : w'.ownsRow B 71 4 (.slice a' (vs.length + 1) c') (vs.length + 1) (vs.flatMap dcells ++ dcells (d, .slice ba d.names.length bc)))
    (hg : w.grownBy w' (Value.slice a vs.length c).ownBlock) (hb : w.ownsRow B 9 1 (.slice ba d.names.length bc) d.names.length (strs d.names))
    (hs : ∀ x ∈ vs, (Value.slice ba d.names.length bc).ownBlock = none ∨ x.2.ownBlock = none ∨ (Value.slice ba d.names.length bc).ownBlock ≠ x.2.ownBlock) : DirsV w' B a' c' (vs ++ [(d, .slice ba d.names.length bc)]) := by
  have hk : ∀ {v : Value} {m : Nat} {xs : List Value}, w.ownsRow B 9 1 v m xs → w'.ownsRow B 9 1 v m xs := fun ho => ho.kept hg (row_ne ho h.1 (by decide))
  refine ⟨?_, ?_, fun x hx => ?_⟩
  · rw [List.length_append, List.flatMap_append]
    simpa using hO
  · refine List.pairwise_append.2 ⟨h.2.1, List.pairwise_singleton _ _, fun x hx y hy => ?_⟩
    rw [List.mem_singleton.1 hy]
    rcases hs x hx with e | e | e
    · exact .inr (.inl e)
    · exact .inl e
    · exact .inr (.inr e)
  · rcases List.mem_append.1 hx with hx | hx
    · obtain ⟨p, q, e, ho⟩ := h.2.2 x hx
      exact ⟨p, q, e, hk ho⟩
    · rw [List.mem_singleton.1 hx]
      exact ⟨ba, bc, rfl, hk hb⟩
theorem DirsV.far {w : World} {B c b : Nat} {a : Option Addr} {vs : List (Di × Value)} {cs : Array Value} {t : TypeId} (h : DirsV w B a c vs) (hb : w.heap[b]? = some (.cells cs t (0, 0))) (h1 : 71 ≠ t) (h2 : 9 ≠ t) (i : Nat) (u : Value) : DirsV (w.setCell ⟨b, i, none⟩ u) B a c vs :=
  ⟨own_set_far h.1 hb h1 _ _, h.2.1, fun x hx => by
    obtain ⟨ba, bc, e, ho⟩ := h.2.2 x hx
    exact ⟨ba, bc, e, own_set_far ho hb h2 _ _⟩⟩
theorem DirsV.stamp {w : World} {B g c k : Nat} {vs : List (Di × Value)} (h : DirsV w B (some ⟨g, 0, none⟩) c vs) (hk : k < vs.length) (st : Int) :
    DirsV (w.setCell ⟨g, k * 4 + 2, none⟩ (.int .i64 st)) B (some ⟨g, 0, none⟩) c (vs.set k ({ (nth vs k).1 with stamp := st }, (nth vs k).2)) := by
  obtain ⟨h2, hs, h3⟩ := h
  obtain ⟨cs, hb⟩ := own_block h2
  rw [nth_eq hk]
  refine ⟨?_, sep_sameD hk rfl hs, fun x hx => ?_⟩
  · rw [List.length_set, ← flat_setD hk (show 2 < 4 by omega) (u := .int .i64 st) rfl]
    exact own_set h2 _
  · have key : BodyD w B x := by
      rcases List.mem_or_eq_of_mem_set hx with hx | rfl
      · exact h3 x hx
      · exact h3 vs[k] (List.getElem_mem _)
    obtain ⟨ba, bc, e1, ho⟩ := key
    exact ⟨ba, bc, e1, own_set_far ho hb (by decide) _ _⟩

/-! ### Marks -/
def wtD : List Di → Nat
  | [] => 0
  | f :: l => 3 + f.names.length + wtD l
theorem wtD_append (l m : List Di) : wtD (l ++ m) = wtD l + wtD m := by
  induction l with
  | nil => simp [wtD]
  | cons f l ih => simp only [List.cons_append, wtD, ih]; omega
theorem wtD_next {l : List Di} {k : Nat} (hk : k < l.length) : wtD (l.take (k + 1)) = wtD (l.take k) + (3 + (nth l k).names.length) := by
  rw [take_succ_nth hk, wtD_append]; simp [wtD]
theorem wtD_take (l : List Di) (k : Nat) : wtD (l.take k) ≤ wtD l := by
  have h := wtD_append (l.take k) (l.drop k)
  rw [List.take_append_drop] at h
  omega
def diM (k : Nat) (f : Di) : Di := ⟨(k : Int), mtxt (k + 1), ((k + 2 : Nat) : Int), mtxN (k + 3) f.names.length⟩
def marksD (k : Nat) : List Di → List Di
  | [] => []
  | f :: l => diM k f :: marksD (k + (3 + f.names.length)) l
theorem marksD_len : ∀ (l : List Di) (k : Nat), (marksD k l).length = l.length
  | [], _ => rfl
  | f :: l, k => by rw [marksD, List.length_cons, marksD_len l, List.length_cons]
theorem marksD_nth : ∀ (l : List Di) (k j : Nat), j < l.length → nth (marksD k l) j = diM (k + wtD (l.take j)) (nth l j)
  | [], _, _, h => absurd h (by simp)
  | f :: l, k, 0, _ => by simp [marksD, nth, wtD]
  | f :: l, k, j + 1, h => by
    have := marksD_nth l (k + (3 + f.names.length)) j (by simpa using h)
    rw [marksD, List.take_succ_cons, wtD, show ∀ (x : Di) (m : List Di), nth (x :: m) (j + 1) = nth m j from fun _ _ => rfl, show nth (f :: l) (j + 1) = nth l j from rfl, this, Nat.add_assoc, Nat.add_assoc]
theorem dcells_set {zs : List (Di × Value)} {j : Nat} (hj : j < zs.length) {x : Di × Value} (hx : nth zs j = x) (f' : Di) (v0 v1 v2 : Value) (hv : dcells (f', x.2) = [v0, v1, v2, x.2]) :
    ((((zs.flatMap dcells).set (j * 4) v0).set (j * 4 + 1) v1).set (j * 4 + 2) v2) = (zs.set j (f', x.2)).flatMap dcells := by
  have hA : ((zs.take j).flatMap dcells).length = j * 4 := by rw [flat_length 4 dcells dcells4, List.length_take, Nat.min_eq_left (by omega)]
  have hz : zs.flatMap dcells = (zs.take j).flatMap dcells ++ (dcells x ++ (zs.drop (j + 1)).flatMap dcells) := by
    rw [← hx, ← List.flatMap_cons, ← drop_nth hj, ← List.flatMap_append, List.take_append_drop]
  have hs : zs.set j (f', x.2) = zs.take j ++ (f', x.2) :: zs.drop (j + 1) := by
    rw [List.set_eq_take_append_cons_drop, if_pos hj]
  rw [hs, List.flatMap_append, List.flatMap_cons, hv, hz]
  generalize (zs.take j).flatMap dcells = A at *
  generalize (zs.drop (j + 1)).flatMap dcells = R at *
  have h0 := set_off (A := A) (Z := dcells x ++ R) 0 v0
  rw [Nat.add_zero] at h0
  rw [← hA, h0, set_off, set_off]
  rfl
theorem own_set_atD2 {w W : World} {B e size n c g o0 o1 : Nat} {xs : List Value} {v0 v1 : Value}
    (hW : W = (w.setCell ⟨g, o0, none⟩ v0).setCell ⟨g, o1, none⟩ v1) (h : w.ownsRow B e size (.slice (some ⟨g, 0, none⟩) n c) n xs) :
    W.ownsRow B e size (.slice (some ⟨g, 0, none⟩) n c) n ((xs.set o0 v0).set o1 v1) := by
  subst hW; exact own_set (own_set h v0) v1
theorem grown_set_atD2 {w0 w W : World} {g o0 o1 : Nat} {v0 v1 : Value}
    (hW : W = (w.setCell ⟨g, o0, none⟩ v0).setCell ⟨g, o1, none⟩ v1) (h : w0.grownBy w (some g)) : w0.grownBy W (some g) := by
  subst hW; exact grown_next (grown_next h o0 v0) o1 v1

theorem marksD_at {w : World} {B n c k j : Nat} {a : Option Addr} {l : List Di} (h : DirsO w B a n c (marksD k l)) (hj : j < n) :
    ∃ b off ba bc, a = some ⟨b, off, none⟩ ∧ b < w.heap.size ∧ w.ownsRow B 9 1 (.slice ba (nth l j).names.length bc) (nth l j).names.length (strs (mtxN (k + wtD (l.take j) + 3) (nth l j).names.length)) ∧
      w.cell? ⟨b, off + j * 4, none⟩ = some (.int .i64 ((k + wtD (l.take j) : Nat) : Int)) ∧ w.cell? ⟨b, off + j * 4 + 1, none⟩ = some (.string ⟨(mtxt (k + wtD (l.take j) + 1)).toArray⟩) ∧
      w.cell? ⟨b, off + j * 4 + 2, none⟩ = some (.int .i64 ((k + wtD (l.take j) + 2 : Nat) : Int)) ∧ w.cell? ⟨b, off + j * 4 + 3, none⟩ = some (.slice ba (nth l j).names.length bc) := by
  obtain ⟨vs, e, h1, h2, _, h3⟩ := h
  have hvl : vs.length = n := by rw [h1, e, List.length_map]
  have hll : n = l.length := by rw [h1, marksD_len]
  obtain ⟨b, off, ha, _, hb, hc⟩ := (Sl.of_own h2).elem (s := 4) (fun _ => rfl) hvl.symm hj
  obtain ⟨ba, bc, e2, ho⟩ := h3 _ (nth_mem (l := vs) (k := j) (by omega))
  have hf : (nth vs j).1 = diM (k + wtD (l.take j)) (nth l j) := by rw [← nth_map_fstD (by omega), ← e, marksD_nth l k j (by omega)]
  have hbl : (nth vs j).1.names.length = (nth l j).names.length := by rw [hf]; exact mtxN_len
  rw [hbl] at e2 ho
  have hbo : (nth vs j).1.names = mtxN (k + wtD (l.take j) + 3) (nth l j).names.length := by rw [hf]; rfl
  rw [hbo] at ho
  have c0 := hc 0 (by omega)
  have c1 := hc 1 (by omega)
  have c2 := hc 2 (by omega)
  have c3 := hc 3 (by omega)
  simp only [dcells, hf, diM, e2, List.getElem_cons_zero, List.getElem_cons_succ] at c0 c1 c2 c3
  exact ⟨b, off, ba, bc, ha, hb, ho, c0, c1, c2, c3⟩
/-! ### Disks -/
end Go.Proofs.YtgjfjjhmgbemcaaDoor
