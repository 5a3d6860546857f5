/- What the exact laws write over a tree and read again: plain. What is kept while it is written. No condition. -/
import Derived.Test.YtjlooplpjliaiaaDoorMake
import Derived.Test.YtjlooplpjliaiaaDoorSz
namespace Go.Proofs.YtjlooplpjliaiaaDoor
open Go.RowKit

/-- Nothing but blocks from B on, and before E, has changed; there may be new ones. -/
structure Keep (B E : Nat) (w w' : World) : Prop where
  os : w'.os = w.os
  tape : w'.tape = w.tape
  output : w'.output = w.output
  size : w.heap.size ≤ w'.heap.size
  block : ∀ k, k < w.heap.size → (k < B ∨ E ≤ k) → w'.heap[k]? = w.heap[k]?
theorem Keep.refl (B E : Nat) (w : World) : Keep B E w w := ⟨rfl, rfl, rfl, Nat.le_refl _, fun _ _ _ => rfl⟩
theorem Keep.trans {B E : Nat} {a b c : World} (h : Keep B E a b) (k : Keep B E b c) : Keep B E a c :=
  ⟨k.os.trans h.os, k.tape.trans h.tape, k.output.trans h.output, Nat.le_trans h.size k.size, fun i hi hB => (k.block i (Nat.lt_of_lt_of_le hi h.size) hB).trans (h.block i hi hB)⟩
theorem Keep.of_x {B E : Nat} {w w' : World} (h : X w w') : Keep B E w w' := ⟨h.below.os, h.below.tape, h.below.output, h.size, fun k hk _ => h.below.block k hk⟩
theorem Keep.of_grown {B E : Nat} {w w' : World} {row : Option Nat} (h : w.grownBy w' row) (hr : ∀ g, row = some g → B ≤ g ∧ g < E) : Keep B E w w' :=
  ⟨h.os, h.tape, h.output, h.size, fun k hk hB => h.block k hk (fun e => by have := hr k e.symm; omega)⟩
theorem Keep.wide {B E B' E' : Nat} {w w' : World} (h : Keep B E w w') (hB : B' ≤ B) (hE : E ≤ E') : Keep B' E' w w' :=
  ⟨h.os, h.tape, h.output, h.size, fun k hk hh => h.block k hk (by omega)⟩
/-- What is below is as it was. -/
theorem Keep.below {B E : Nat} {w w' W : World} (h : Keep B E w w') (hB : W.heap.size ≤ B) (hx : Below W.heap.size W w) : Below W.heap.size W w' :=
  ⟨h.os.trans hx.os, h.tape.trans hx.tape, h.output.trans hx.output, Nat.le_trans hx.size h.size, fun k hk => (h.block k (Nat.lt_of_lt_of_le hk hx.size) (.inl (by omega))).trans (hx.block k hk)⟩
theorem below_fr0 {w w' : World} (h : Below w.heap.size w w') : Fr 0 w w' := ⟨h.size, fun k _ hk => h.block k hk⟩
theorem below_then {a b c : World} (h : Below a.heap.size a b) (k : Below b.heap.size b c) : Below a.heap.size a c :=
  ⟨k.os.trans h.os, k.tape.trans h.tape, k.output.trans h.output, Nat.le_trans h.size k.size, fun i hi => (k.block i (Nat.lt_of_lt_of_le hi h.size)).trans (h.block i hi)⟩
theorem below_x {a b c : World} (h : Below a.heap.size a b) (k : X b c) : Below a.heap.size a c := below_then h k.below
/-- What is above is as it was. -/
theorem Keep.fr {B E : Nat} {w w' : World} (h : Keep B E w w') : Fr E w w' := ⟨h.size, fun k hk hl => h.block k hl (.inr hk)⟩
theorem X.belowW {w w' : World} (h : X w w') : Below w.heap.size w w' := h.below
theorem Bx.keep {B E : Nat} {w w' : World} {b : Nat} {cs : Array Value} (h : Bx w b cs) (hK : Keep B E w w') (hb : b < B ∨ E ≤ b) : Bx w' b cs := by
  have hl := h.lt
  obtain ⟨t, h⟩ := h
  exact ⟨t, (hK.block b hl hb).trans h⟩
theorem own_keep {B E B' e size n : Nat} {w w' : World} {v : Value} {xs : List Value} (h : w.ownsRow B' e size v n xs) (hK : Keep B E w w') (hE : E ≤ B') : w'.ownsRow B' e size v n xs := own_fr h (hK.fr.mono hE)

/-! ### Marks -/
def mtD (k : Nat) : List UInt8 := if _h : k = 0 then [] else mtD (k / 10) ++ [UInt8.ofNat (48 + k % 10)]
termination_by k
decreasing_by omega
theorem mtD_zero : mtD 0 = [] := by rw [mtD]; rfl
theorem mtD_pos {k : Nat} (h : k ≠ 0) : mtD k = mtD (k / 10) ++ [UInt8.ofNat (48 + k % 10)] := by rw [mtD, dif_neg h]
theorem mtD_len : ∀ k : Nat, (mtD k).length ≤ k := by
  intro k
  induction k using Nat.strongRecOn with
  | _ k ih =>
    by_cases h : k = 0
    · subst h; rw [mtD_zero]; exact Nat.le_refl _
    · rw [mtD_pos h, List.length_append]
      have := ih (k / 10) (by omega)
      simp
      omega
/-- The text of a mark. -/
def mtxt (k : Nat) : List UInt8 := if k = 0 then [109, 48] else 109 :: mtD k
/-- Marks of numbers, from k on. -/
def upN (k n : Nat) : List Int := (List.range n).map fun i => ((k + i : Nat) : Int)
theorem upN_len {k n : Nat} : (upN k n).length = n := by simp [upN]
theorem upN_nth {k n i : Nat} (h : i < n) : nth (upN k n) i = ((k + i : Nat) : Int) := by
  rw [nth_eq (by rw [upN_len]; exact h)]
  simp [upN]
def stM (k : Nat) : St := ⟨(k : Int), mtxt (k + 1), ((k + 2 : Nat) : Int), mtxt (k + 3), ((k + 4 : Nat) : Int)⟩
def stsM (k n : Nat) : List St := (List.range n).map fun i => stM (k + 5 * i)
theorem stsM_len {k n : Nat} : (stsM k n).length = n := by simp [stsM]
theorem stsM_nth {k n i : Nat} (h : i < n) : nth (stsM k n) i = stM (k + 5 * i) := by
  rw [nth_eq (by rw [stsM_len]; exact h)]
  simp [stsM]
/-- How far the marks of files go. -/
def wtF : List Fi → Nat
  | [] => 0
  | f :: l => 5 + 5 * f.body.length + wtF l
theorem wtF_append (l m : List Fi) : wtF (l ++ m) = wtF l + wtF m := by
  induction l with
  | nil => simp [wtF]
  | cons f l ih => simp only [List.cons_append, wtF, ih]; omega
theorem wtF_next {l : List Fi} {k : Nat} (hk : k < l.length) : wtF (l.take (k + 1)) = wtF (l.take k) + (5 + 5 * (nth l k).body.length) := by
  rw [take_succ_nth hk, wtF_append]; simp [wtF]
theorem wtF_take (l : List Fi) (k : Nat) : wtF (l.take k) ≤ wtF l := by
  have h := wtF_append (l.take k) (l.drop k)
  rw [List.take_append_drop] at h
  omega
/-- A marked file, marked files. -/
def fiM (k : Nat) (f : Fi) : Fi := ⟨(k : Int), mtxt (k + 1), mtxt (k + 2), decide ((k + 3) % 3 = 0), ((k + 4 : Nat) : Int), stsM (k + 5) f.body.length⟩
def marksF (k : Nat) : List Fi → List Fi
  | [] => []
  | f :: l => fiM k f :: marksF (k + (5 + 5 * f.body.length)) l
theorem marksF_len : ∀ (l : List Fi) (k : Nat), (marksF k l).length = l.length
  | [], _ => rfl
  | f :: l, k => by rw [marksF, List.length_cons, marksF_len l, List.length_cons]
theorem marksF_nth : ∀ (l : List Fi) (k j : Nat), j < l.length → nth (marksF k l) j = fiM (k + wtF (l.take j)) (nth l j)
  | [], _, _, h => absurd h (by simp)
  | f :: l, k, 0, _ => by simp [marksF, nth, wtF]
  | f :: l, k, j + 1, h => by
    have := marksF_nth l (k + (5 + 5 * f.body.length)) j (by simpa using h)
    rw [marksF, List.take_succ_cons, wtF, show ∀ (x : Fi) (m : List Fi), nth (x :: m) (j + 1) = nth m j from fun _ _ => rfl, show nth (f :: l) (j + 1) = nth l j from rfl, this, Nat.add_assoc, Nat.add_assoc]
theorem fcells_set {zs : List (Fi × Value)} {j : Nat} (hj : j < zs.length) {x : Fi × Value} (hx : nth zs j = x) (f' : Fi) (v0 v1 v2 v3 v4 : Value) (hv : fcells (f', x.2) = [v0, v1, v2, v3, v4, x.2]) :
    ((((((zs.flatMap fcells).set (j * 6) v0).set (j * 6 + 1) v1).set (j * 6 + 2) v2).set (j * 6 + 3) v3).set (j * 6 + 4) v4) = (zs.set j (f', x.2)).flatMap fcells := by
  have hA : ((zs.take j).flatMap fcells).length = j * 6 := by rw [flat_length 6 fcells fcells6, List.length_take, Nat.min_eq_left (by omega)]
  have hz : zs.flatMap fcells = (zs.take j).flatMap fcells ++ (fcells x ++ (zs.drop (j + 1)).flatMap fcells) := by
    rw [← hx, ← List.flatMap_cons, ← drop_nth hj, ← List.flatMap_append, List.take_append_drop]
  have hs : zs.set j (f', x.2) = zs.take j ++ (f', x.2) :: zs.drop (j + 1) := by
    rw [List.set_eq_take_append_cons_drop, if_pos hj]
  rw [hs, List.flatMap_append, List.flatMap_cons, hv, hz]
  generalize (zs.take j).flatMap fcells = A at *
  generalize (zs.drop (j + 1)).flatMap fcells = R at *
  have h0 := set_off (A := A) (Z := fcells x ++ R) 0 v0
  rw [Nat.add_zero] at h0
  rw [← hA, h0, set_off, set_off, set_off, set_off]
  rfl
theorem szSts_wt {l : List St} {n : Int} (h : 0 ≤ szSts l n) : szSts l n ≤ n - l.length := by
  unfold szSts at h ⊢
  split at h <;> rename_i h1
  · omega
  · rw [if_neg h1]
    have := (szL_le szSt_le h).1
    omega
theorem szFi_wt {f : Fi} {n : Int} (h : 0 ≤ szFi f n) : szFi f n ≤ n - f.body.length := by
  unfold szFi at h ⊢
  split at h <;> rename_i h1
  · omega
  · rw [if_neg h1]
    split at h <;> rename_i h2
    · omega
    · rw [if_neg h2]
      have := szSts_wt h
      omega
theorem szL_wt : ∀ {l : List Fi} {n : Int}, 0 ≤ szL szFi l n → (wtF l : Int) ≤ 5 * (n - szL szFi l n) + 5 * l.length
  | [], n, _ => by simp [wtF, szL]
  | f :: l, n, h => by
    unfold szL at h ⊢
    by_cases h0 : szFi f n < 0
    · rw [if_pos h0] at h; omega
    · rw [if_neg h0] at h ⊢
      have h1 := szL_wt h
      have h2 := szFi_wt (f := f) (n := n) (by omega)
      simp only [wtF, List.length_cons]
      omega
/-- The marks of a tree that is not too large stay small. -/
theorem szFis_wt {l : List Fi} (h : 0 ≤ szFis l 1048576) : wtF l ≤ 5242880 := by
  unfold szFis at h
  split at h <;> rename_i h1
  · omega
  · have := szL_wt h
    omega

end Go.Proofs.YtjlooplpjliaiaaDoor
