/- The data of the program as plain lists and structures, how slices of them lie in memory, and small laws on indices. No condition. -/
import Derived.Test.YtjlooplpjliaiaaDoorBase
namespace Go.Proofs.YtjlooplpjliaiaaDoor
open Go.RowKit

structure St where
  kind : Int
  mod : List UInt8
  level : Int
  name : List UInt8
  val : Int
deriving DecidableEq, Inhabited
structure Fi where
  root : Int
  pkg : List UInt8
  name : List UInt8
  init : Bool
  stamp : Int
  body : List St
deriving DecidableEq, Inhabited

/-! ### Indices -/
def nth {α : Type} [Inhabited α] (l : List α) (k : Nat) : α := l.getD k default
theorem nth_eq {α : Type} [Inhabited α] {l : List α} {k : Nat} (h : k < l.length) : nth l k = l[k] := by
  simp [nth, h]
theorem nth_get? {α : Type} [Inhabited α] {l : List α} {k : Nat} (h : k < l.length) : l[k]? = some (nth l k) := by
  rw [nth_eq h, List.getElem?_eq_getElem h]
theorem nth_mem {α : Type} [Inhabited α] {l : List α} {k : Nat} (h : k < l.length) : nth l k ∈ l := by
  rw [nth_eq h]; exact List.getElem_mem h
theorem nth_append_left {α : Type} [Inhabited α] {l m : List α} {k : Nat} (h : k < l.length) : nth (l ++ m) k = nth l k := by
  rw [nth_eq (by rw [List.length_append]; omega), nth_eq h, List.getElem_append_left h]
theorem nth_append_right {α : Type} [Inhabited α] {l m : List α} (k : Nat) : nth (l ++ m) (l.length + k) = nth m k := by
  unfold nth
  simp [List.getD_eq_getElem?_getD, List.getElem?_append_right]
theorem nth_take {α : Type} [Inhabited α] {l : List α} {k n : Nat} (h : k < n) : nth (l.take n) k = nth l k := by
  unfold nth; simp [List.getD_eq_getElem?_getD, h]
theorem nth_drop {α : Type} [Inhabited α] {l : List α} {k n : Nat} : nth (l.drop n) k = nth l (n + k) := by
  unfold nth; simp [List.getD_eq_getElem?_getD, List.getElem?_drop]
theorem take_succ_nth {α : Type} [Inhabited α] {l : List α} {k : Nat} (h : k < l.length) : l.take (k + 1) = l.take k ++ [nth l k] := by
  rw [List.take_succ_eq_append_getElem h, nth_eq h]
theorem drop_nth {α : Type} [Inhabited α] {l : List α} {k : Nat} (h : k < l.length) : l.drop k = nth l k :: l.drop (k + 1) := by
  rw [nth_eq h]; exact List.drop_eq_getElem_cons h

def allN (p : Nat → Bool) (n : Nat) : Bool := (List.range n).all p
def anyN (p : Nat → Bool) (n : Nat) : Bool := (List.range n).any p
def firstN (p : Nat → Bool) (n : Nat) : Int := match (List.range n).find? p with | some i => i | none => -1
def colN {α : Type} (g : Nat → List α) (n : Nat) : List α := (List.range n).flatMap g
theorem allN_zero {p : Nat → Bool} : allN p 0 = true := rfl
theorem anyN_zero {p : Nat → Bool} : anyN p 0 = false := rfl
theorem allN_succ {p : Nat → Bool} {k : Nat} : allN p (k + 1) = (allN p k && p k) := by
  simp [allN, List.range_succ, List.all_append]
theorem anyN_succ {p : Nat → Bool} {k : Nat} : anyN p (k + 1) = (anyN p k || p k) := by
  simp [anyN, List.range_succ, List.any_append]
theorem colN_zero {α : Type} {g : Nat → List α} : colN g 0 = [] := rfl
theorem colN_succ {α : Type} {g : Nat → List α} {k : Nat} : colN g (k + 1) = colN g k ++ g k := by
  simp [colN, List.range_succ, List.flatMap_append]
theorem allN_iff {p : Nat → Bool} {n : Nat} : allN p n = true ↔ ∀ k, k < n → p k = true := by simp [allN]
theorem anyN_iff {p : Nat → Bool} {n : Nat} : anyN p n = true ↔ ∃ k, k < n ∧ p k = true := by simp [anyN]
theorem anyN_false {p : Nat → Bool} {n : Nat} : anyN p n = false ↔ ∀ k, k < n → p k = false := by simp [anyN]
theorem allN_false {p : Nat → Bool} {n : Nat} : allN p n = false ↔ ∃ k, k < n ∧ p k = false := by simp [allN]
theorem allN_not {p : Nat → Bool} {k n : Nat} (h : p k = false) (hk : k < n) : allN p n = false := allN_false.2 ⟨k, hk, h⟩
theorem anyN_yes {p : Nat → Bool} {k n : Nat} (h : p k = true) (hk : k < n) : anyN p n = true := anyN_iff.2 ⟨k, hk, h⟩
theorem allN_next {p : Nat → Bool} {k : Nat} (h : allN p k = true) (hk : p k = true) : allN p (k + 1) = true := by rw [allN_succ, h, hk]; rfl
theorem anyN_next {p : Nat → Bool} {k : Nat} (h : anyN p k = false) (hk : p k = false) : anyN p (k + 1) = false := by rw [anyN_succ, h, hk]; rfl
theorem allN_congr {p q : Nat → Bool} {n : Nat} (h : ∀ k, k < n → p k = q k) : allN p n = allN q n := by
  rw [Bool.eq_iff_iff, allN_iff, allN_iff]
  exact ⟨fun H k hk => by rw [← h k hk]; exact H k hk, fun H k hk => by rw [h k hk]; exact H k hk⟩
theorem anyN_congr {p q : Nat → Bool} {n : Nat} (h : ∀ k, k < n → p k = q k) : anyN p n = anyN q n := by
  rw [Bool.eq_iff_iff, anyN_iff, anyN_iff]
  exact ⟨fun ⟨k, hk, H⟩ => ⟨k, hk, by rw [← h k hk]; exact H⟩, fun ⟨k, hk, H⟩ => ⟨k, hk, by rw [h k hk]; exact H⟩⟩
theorem firstN_some {p : Nat → Bool} {k n : Nat} (hno : anyN p k = false) (h : p k = true) (hk : k < n) : firstN p n = k := by
  have : (List.range n).find? p = some k := by
    rw [List.find?_range_eq_some]
    exact ⟨h, by simpa using hk, fun j hj => by simpa using anyN_false.1 hno j hj⟩
  simp [firstN, this]
theorem firstN_none {p : Nat → Bool} {n : Nat} (hno : anyN p n = false) : firstN p n = -1 := by
  have : (List.range n).find? p = none := by
    rw [List.find?_eq_none]
    intro x hx
    have := anyN_false.1 hno x (by simpa using hx)
    simp [this]
  simp [firstN, this]
theorem firstN_cases (p : Nat → Bool) (n : Nat) : (anyN p n = false ∧ firstN p n = -1) ∨ ∃ k, k < n ∧ p k = true ∧ anyN p k = false ∧ firstN p n = (k : Int) := by
  cases h : (List.range n).find? p with
  | none => exact .inl ⟨by rw [anyN_false]; intro k hk; rw [List.find?_eq_none] at h; simpa using h k (by simpa using hk), by simp [firstN, h]⟩
  | some k =>
    rw [List.find?_range_eq_some] at h
    exact .inr ⟨k, by simpa using h.2.1, h.1, anyN_false.2 fun j hj => by simpa using h.2.2 j hj, by simp [firstN, List.find?_range_eq_some.2 h]⟩
theorem firstN_congr {p q : Nat → Bool} {n : Nat} (h : ∀ k, k < n → p k = q k) : firstN p n = firstN q n := by
  rcases firstN_cases p n with ⟨h1, h2⟩ | ⟨k, hk, h1, h2, h3⟩
  · rw [h2, firstN_none (by rw [← anyN_congr h]; exact h1)]
  · rw [h3, firstN_some (by rw [← anyN_congr (fun j hj => h j (by omega))]; exact h2) (by rw [← h k hk]; exact h1) hk]
theorem firstN_ge {p : Nat → Bool} {n : Nat} : -1 ≤ firstN p n ∧ firstN p n < n := by
  rcases firstN_cases p n with ⟨_, h⟩ | ⟨k, hk, _, _, h⟩ <;> rw [h] <;> omega
theorem firstN_nonneg {p : Nat → Bool} {n : Nat} : (0 ≤ firstN p n) = (anyN p n = true) := by
  apply propext
  rcases firstN_cases p n with ⟨h1, h⟩ | ⟨k, hk, h1, _, h⟩ <;> rw [h]
  · simp [h1]
  · simp [anyN_yes h1 hk]

def rangeB (n lo hi : Int) : Bool := decide (lo ≤ n) && decide (n ≤ hi)
theorem rangeB_iff {n lo hi : Int} : rangeB n lo hi = true ↔ lo ≤ n ∧ n ≤ hi := by simp [rangeB]

/-! ### Slices in memory -/
/-- What was in the blocks from B on is there. -/
structure Fr (B : Nat) (w w' : World) : Prop where
  size : w.heap.size ≤ w'.heap.size
  block : ∀ k, B ≤ k → k < w.heap.size → w'.heap[k]? = w.heap[k]?
theorem Fr.refl (B : Nat) (w : World) : Fr B w w := ⟨Nat.le_refl _, fun _ _ _ => rfl⟩
theorem Fr.trans {B : Nat} {a b c : World} (h : Fr B a b) (k : Fr B b c) : Fr B a c :=
  ⟨Nat.le_trans h.size k.size, fun i hi hl => (k.block i hi (Nat.lt_of_lt_of_le hl h.size)).trans (h.block i hi hl)⟩
theorem X.fr {w w' : World} (h : X w w') (B : Nat) : Fr B w w' := ⟨h.size, fun k _ hk => h.below.block k hk⟩
theorem Fr.cell {B : Nat} {w w' : World} (h : Fr B w w') {b o : Nat} (hB : B ≤ b) (hb : b < w.heap.size) : w'.cell? ⟨b, o, none⟩ = w.cell? ⟨b, o, none⟩ :=
  World.cell?_of_block (w := w) (h.block b hB hb)
theorem Fr.mono {B B' : Nat} {w w' : World} (h : Fr B w w') (hB : B ≤ B') : Fr B' w w' := ⟨h.size, fun k hk => h.block k (by omega)⟩

theorem fr_swap (w : World) (o o' : Obj) (x : Xt) : Fr (w.heap.size + 1) (World.ext (w.alloc o) x) (World.ext (w.alloc o') x) := by
  refine ⟨by simp [World.size_ext], fun k hk hl => ?_⟩
  show ((w.heap.push o') ++ x.objs)[k]? = ((w.heap.push o) ++ x.objs)[k]?
  rw [Array.getElem?_append_right (by simp; omega), Array.getElem?_append_right (by simp; omega)]
  simp
/-- The slice a (n elements) holds the cells cs, in a block from B on. -/
def Sl (w : World) (B : Nat) (a : Option Addr) (n : Nat) (cs : List Value) : Prop :=
  0 < n → ∃ b off, a = some ⟨b, off, none⟩ ∧ B ≤ b ∧ b < w.heap.size ∧ ∀ i (h : i < cs.length), w.cell? ⟨b, off + i, none⟩ = some cs[i]
theorem Sl.mono {w w' : World} {B : Nat} {a : Option Addr} {n : Nat} {cs : List Value} (h : Sl w B a n cs) (hx : Fr B w w') : Sl w' B a n cs := fun hn => by
  obtain ⟨b, off, ha, hB, hb, hc⟩ := h hn
  exact ⟨b, off, ha, hB, Nat.lt_of_lt_of_le hb hx.size, fun i hi => (hx.cell hB hb).trans (hc i hi)⟩
theorem Sl.less {w : World} {B B' : Nat} {a : Option Addr} {n : Nat} {cs : List Value} (h : Sl w B a n cs) (hB : B' ≤ B) : Sl w B' a n cs := fun hn => by
  obtain ⟨b, off, ha, hb, r⟩ := h hn
  exact ⟨b, off, ha, by omega, r⟩
theorem row_cell {w : World} {B e size n c g : Nat} {xs : List Value} (h : w.ownsRow B e size (.slice (some ⟨g, 0, none⟩) n c) n xs) (j : Nat) (u : Value) (hu : xs[j]? = some u) : w.cell? ⟨g, j, none⟩ = some u := by
  have := h.cells (g := g) rfl j u hu
  have hadd : (⟨g, 0, none⟩ : Addr).add j = ⟨g, j, none⟩ := by unfold Addr.add; split <;> simp_all
  rwa [hadd] at this
theorem own_fr {w w' : World} {B e size n : Nat} {v : Value} {xs : List Value} (h : w.ownsRow B e size v n xs) (hx : Fr B w w') : w'.ownsRow B e size v n xs := by
  refine ⟨h.1, ?_⟩
  rcases h.2 with h0 | ⟨g, cap, cur, hv, hB, hg, r⟩
  · exact .inl h0
  · exact .inr ⟨g, cap, cur, hv, hB, (hx.block g hB (Array.getElem?_eq_some_iff.1 hg).1).trans hg, r⟩
theorem own_less {w : World} {B B' e size n : Nat} {v : Value} {xs : List Value} (h : w.ownsRow B e size v n xs) (hB : B' ≤ B) : w.ownsRow B' e size v n xs := by
  refine ⟨h.1, ?_⟩
  rcases h.2 with h0 | ⟨g, cap, cur, hv, hb, r⟩
  · exact .inl h0
  · exact .inr ⟨g, cap, cur, hv, by omega, r⟩
theorem own_slice {w : World} {B e size n : Nat} {v : Value} {xs : List Value} (h : w.ownsRow B e size v n xs) : ∃ a c, v = .slice a n c := by
  rcases h.2 with ⟨rfl, rfl⟩ | ⟨g, cap, cur, rfl, _⟩
  · exact ⟨_, _, rfl⟩
  · exact ⟨_, _, rfl⟩
theorem Sl.of_own {w : World} {B e size n c : Nat} {a : Option Addr} {xs : List Value} (h : w.ownsRow B e size (.slice a n c) n xs) : Sl w B a n xs := fun hn => by
  obtain ⟨g, cap, hv, hB, hlt⟩ := h.form hn
  have ha : a = some ⟨g, 0, none⟩ := by injection hv
  subst ha
  exact ⟨g, 0, rfl, hB, hlt, fun i hi => by rw [Nat.zero_add]; exact row_cell h i _ (List.getElem?_eq_getElem hi)⟩
theorem flat_length {α : Type} (n : Nat) (g : α → List Value) (hg : ∀ a, (g a).length = n) (l : List α) : (l.flatMap g).length = l.length * n := by
  induction l with
  | nil => simp
  | cons a l ih => rw [List.flatMap_cons, List.length_append, hg, ih, List.length_cons, Nat.succ_mul]; omega
theorem flat_get {α : Type} (n : Nat) (g : α → List Value) (hg : ∀ a, (g a).length = n) (l : List α) (i j : Nat) (hi : i < l.length) (hj : j < n) (h : i * n + j < (l.flatMap g).length) :
   (l.flatMap g)[i * n + j] = (g l[i])[j]'(by rw [hg]; exact hj) := by
  induction l generalizing i with
  | nil => cases hi
  | cons a l ih =>
    cases i with
    | zero => simp only [List.flatMap_cons, Nat.zero_mul, Nat.zero_add]; rw [List.getElem_append_left (by rw [hg]; exact hj)]; rfl
    | succ i =>
      simp only [List.flatMap_cons]
      rw [List.getElem_append_right (by rw [hg, Nat.succ_mul]; omega)]
      simp only [List.getElem_cons_succ]
      rw [← ih i (by simpa using hi) (by rw [List.flatMap_cons, List.length_append, hg, Nat.succ_mul] at h; omega)]
      congr 1
      rw [hg, Nat.succ_mul]; omega
/-- The cells of element k. -/
theorem Sl.elem {α : Type} [Inhabited α] {w : World} {B s : Nat} {a : Option Addr} {n : Nat} {g : α → List Value} {l : List α} (h : Sl w B a n (l.flatMap g)) (hg : ∀ a, (g a).length = s) (hl : n = l.length) {k : Nat} (hk : k < n) :
    ∃ b off, a = some ⟨b, off, none⟩ ∧ B ≤ b ∧ b < w.heap.size ∧ ∀ j (hj : j < s), w.cell? ⟨b, off + (k * s + j), none⟩ = some ((g (nth l k))[j]'(by rw [hg]; exact hj)) := by
  obtain ⟨b, off, ha, hB, hb, hc⟩ := h (by omega)
  refine ⟨b, off, ha, hB, hb, fun j hj => ?_⟩
  have hb : k * s + j < (l.flatMap g).length := by
    rw [flat_length s g hg]
    have : (k + 1) * s ≤ l.length * s := Nat.mul_le_mul_right s (by omega)
    rw [Nat.succ_mul] at this
    omega
  rw [hc _ hb, flat_get s g hg l k j (by omega) hj hb]
  simp only [nth_eq (show k < l.length by omega)]

abbrev ints (l : List Int) : List Value := l.flatMap fun x => [.int .i64 x]
abbrev strs (l : List (List UInt8)) : List Value := l.flatMap fun x => [.string ⟨(x).toArray⟩]
theorem flat_snoc {α : Type} (g : α → List Value) (l : List α) (x : α) : (l ++ [x]).flatMap g = l.flatMap g ++ g x := by simp
theorem own_new {w W : World} {cs : Array Value} {e size n : Nat} (h : W = w.alloc (.cells cs e)) (hs : cs.size = n * size) (hn : n ≤ 4611686018427387904) :
    ∃ x, W = World.ext w x ∧ (World.ext w x).ownsRow w.heap.size e size (.slice (some ⟨w.heap.size, 0, none⟩) n n) n cs.toList := by
  obtain ⟨x, hx⟩ := (X.refl w).alloc (.cells cs e)
  refine ⟨x, h.trans hx, ?_⟩
  rw [← hx]
  exact World.ownsRow_lit w cs n (Nat.le_refl _) (by unfold maxLen; omega) hs
theorem own_new_ext {V W : World} {x : Xt} {cs : Array Value} {e size n : Nat} (h : W = (World.ext V x).alloc (.cells cs e)) (hs : cs.size = n * size) (hn : n ≤ 4611686018427387904) :
    ∃ z, W = World.ext V z ∧ (World.ext V z).ownsRow V.heap.size e size (.slice (some ⟨(World.ext V x).heap.size, 0, none⟩) n n) n cs.toList := by
  obtain ⟨z, hz⟩ := ((X.refl V).ext x).alloc (.cells cs e)
  refine ⟨z, h.trans hz, ?_⟩
  rw [← hz]
  exact World.ownsRow_lit (World.ext V x) cs n (by rw [World.size_ext]; omega) (by unfold maxLen; omega) hs
/-- Numbers. -/
def IntsAt (w : World) (B : Nat) (a : Option Addr) (n : Nat) (l : List Int) : Prop :=
  n = l.length ∧ n ≤ 2097152 ∧ Sl w B a n (l.flatMap fun x => [.int .i64 x])
theorem IntsAt.mono {w w' : World} {B : Nat} {a : Option Addr} {n : Nat} {l : List Int} (h : IntsAt w B a n l) (hx : Fr B w w') : IntsAt w' B a n l := ⟨h.1, h.2.1, h.2.2.mono hx⟩
theorem IntsAt.less {w : World} {B B' : Nat} {a : Option Addr} {n : Nat} {l : List Int} (h : IntsAt w B a n l) (hB : B' ≤ B) : IntsAt w B' a n l := ⟨h.1, h.2.1, h.2.2.less hB⟩
theorem IntsAt.at_ {w : World} {B : Nat} {a : Option Addr} {n : Nat} {l : List Int} (h : IntsAt w B a n l) {k : Nat} (hk : k < n) :
    ∃ b off, a = some ⟨b, off, none⟩ ∧ B ≤ b ∧ b < w.heap.size ∧ w.cell? ⟨b, off + k, none⟩ = some (.int .i64 (nth l k)) := by
  obtain ⟨b, off, ha, hB, hb, hc⟩ := h.2.2.elem (s := 1) (fun _ => rfl) h.1 hk
  refine ⟨b, off, ha, hB, hb, ?_⟩
  have := hc 0 (by omega)
  rw [Nat.mul_one, Nat.add_zero] at this
  exact this
/-- Texts. -/
def StrsAt (w : World) (B : Nat) (a : Option Addr) (n : Nat) (l : List (List UInt8)) : Prop :=
  n = l.length ∧ n ≤ 8388608 ∧ (∀ s ∈ l, s.length ≤ 4194304) ∧ Sl w B a n (strs l)
theorem StrsAt.of_own {w : World} {B e c : Nat} {a : Option Addr} {l : List (List UInt8)} (h : w.ownsRow B e 1 (.slice a l.length c) l.length (strs l)) (hl : l.length ≤ 8388608) (hs : ∀ s ∈ l, s.length ≤ 4194304) : StrsAt w B a l.length l :=
  ⟨rfl, hl, hs, Sl.of_own h⟩
theorem StrsAt.mono {w w' : World} {B : Nat} {a : Option Addr} {n : Nat} {l : List (List UInt8)} (h : StrsAt w B a n l) (hx : Fr B w w') : StrsAt w' B a n l := ⟨h.1, h.2.1, h.2.2.1, h.2.2.2.mono hx⟩
theorem StrsAt.less {w : World} {B B' : Nat} {a : Option Addr} {n : Nat} {l : List (List UInt8)} (h : StrsAt w B a n l) (hB : B' ≤ B) : StrsAt w B' a n l := ⟨h.1, h.2.1, h.2.2.1, h.2.2.2.less hB⟩
theorem StrsAt.at_ {w : World} {B : Nat} {a : Option Addr} {n : Nat} {l : List (List UInt8)} (h : StrsAt w B a n l) {k : Nat} (hk : k < n) :
    ∃ b off, a = some ⟨b, off, none⟩ ∧ B ≤ b ∧ b < w.heap.size ∧ w.cell? ⟨b, off + k, none⟩ = some (.string ⟨(nth l k).toArray⟩) ∧ (nth l k).length ≤ 4194304 := by
  obtain ⟨b, off, ha, hB, hb, hc⟩ := h.2.2.2.elem (s := 1) (fun _ => rfl) h.1 hk
  refine ⟨b, off, ha, hB, hb, ?_, h.2.2.1 _ (nth_mem (by have := h.1; omega))⟩
  have := hc 0 (by omega)
  rw [Nat.mul_one, Nat.add_zero] at this
  exact this
/-- Statements. -/
def Oks (s : St) : Prop := s.mod.length ≤ 1048576 ∧ s.name.length ≤ 1048576
def scells (s : St) : List Value := [.int .i64 s.kind, .string ⟨(s.mod).toArray⟩, .int .i64 s.level, .string ⟨(s.name).toArray⟩, .int .i64 s.val]
def StmtsAt (w : World) (B : Nat) (a : Option Addr) (n : Nat) (l : List St) : Prop :=
  n = l.length ∧ n ≤ 2097152 ∧ (∀ s ∈ l, Oks s) ∧ Sl w B a n (l.flatMap scells)
theorem StmtsAt.mono {w w' : World} {B : Nat} {a : Option Addr} {n : Nat} {l : List St} (h : StmtsAt w B a n l) (hx : Fr B w w') : StmtsAt w' B a n l := ⟨h.1, h.2.1, h.2.2.1, h.2.2.2.mono hx⟩
theorem StmtsAt.less {w : World} {B B' : Nat} {a : Option Addr} {n : Nat} {l : List St} (h : StmtsAt w B a n l) (hB : B' ≤ B) : StmtsAt w B' a n l := ⟨h.1, h.2.1, h.2.2.1, h.2.2.2.less hB⟩
theorem StmtsAt.at_ {w : World} {B : Nat} {a : Option Addr} {n : Nat} {l : List St} (h : StmtsAt w B a n l) {k : Nat} (hk : k < n) :
    ∃ b off, a = some ⟨b, off, none⟩ ∧ B ≤ b ∧ b < w.heap.size ∧ Oks (nth l k) ∧ w.cell? ⟨b, off + k * 5, none⟩ = some (.int .i64 (nth l k).kind) ∧ w.cell? ⟨b, off + k * 5 + 1, none⟩ = some (.string ⟨((nth l k).mod).toArray⟩) ∧
      w.cell? ⟨b, off + k * 5 + 2, none⟩ = some (.int .i64 (nth l k).level) ∧ w.cell? ⟨b, off + k * 5 + 3, none⟩ = some (.string ⟨((nth l k).name).toArray⟩) ∧ w.cell? ⟨b, off + k * 5 + 4, none⟩ = some (.int .i64 (nth l k).val) := by
  obtain ⟨b, off, ha, hB, hb, hc⟩ := h.2.2.2.elem (s := 5) (fun _ => rfl) h.1 hk
  exact ⟨b, off, ha, hB, hb, h.2.2.1 _ (nth_mem (by have := h.1; omega)), hc 0 (by omega), hc 1 (by omega), hc 2 (by omega), hc 3 (by omega), hc 4 (by omega)⟩
/-- Files. -/
def Okf (f : Fi) : Prop := f.pkg.length ≤ 1048576 ∧ f.name.length ≤ 1048576
def fcells (f : Fi × Value) : List Value := [.int .i64 f.1.root, .string ⟨(f.1.pkg).toArray⟩, .string ⟨(f.1.name).toArray⟩, .bool f.1.init, .int .i64 f.1.stamp, f.2]
instance : Inhabited (Fi × Value) := ⟨(default, undef)⟩
def FilesAt (w : World) (B : Nat) (a : Option Addr) (n : Nat) (l : List Fi) : Prop :=
  ∃ vs : List (Fi × Value), l = vs.map (·.1) ∧ n = l.length ∧ n ≤ 2097152 ∧ (∀ f ∈ l, Okf f) ∧ Sl w B a n (vs.flatMap fcells) ∧
    ∀ x ∈ vs, ∃ ba bn bc, x.2 = .slice ba bn bc ∧ bn ≤ bc ∧ StmtsAt w B ba bn x.1.body
theorem FilesAt.len {w : World} {B : Nat} {a : Option Addr} {n : Nat} {l : List Fi} (h : FilesAt w B a n l) : n = l.length ∧ n ≤ 2097152 := by
  obtain ⟨vs, _, h1, h2, _⟩ := h; exact ⟨h1, h2⟩
theorem FilesAt.mono {w w' : World} {B : Nat} {a : Option Addr} {n : Nat} {l : List Fi} (h : FilesAt w B a n l) (hx : Fr B w w') : FilesAt w' B a n l := by
  obtain ⟨vs, h0, h1, h2, h3, h4, h5⟩ := h
  exact ⟨vs, h0, h1, h2, h3, h4.mono hx, fun x hm => let ⟨ba, bn, bc, e, hc, hs⟩ := h5 x hm; ⟨ba, bn, bc, e, hc, hs.mono hx⟩⟩
theorem FilesAt.less {w : World} {B B' : Nat} {a : Option Addr} {n : Nat} {l : List Fi} (h : FilesAt w B a n l) (hB : B' ≤ B) : FilesAt w B' a n l := by
  obtain ⟨vs, h0, h1, h2, h3, h4, h5⟩ := h
  exact ⟨vs, h0, h1, h2, h3, h4.less hB, fun x hm => let ⟨ba, bn, bc, e, hc, hs⟩ := h5 x hm; ⟨ba, bn, bc, e, hc, hs.less hB⟩⟩
theorem nth_map_fst {vs : List (Fi × Value)} {k : Nat} (hk : k < vs.length) : nth (vs.map (·.1)) k = (nth vs k).1 := by
  rw [nth_eq (by simpa using hk), nth_eq hk, List.getElem_map]
theorem FilesAt.at_ {w : World} {B : Nat} {a : Option Addr} {n : Nat} {l : List Fi} (h : FilesAt w B a n l) {k : Nat} (hk : k < n) :
    ∃ b off ba bn bc, a = some ⟨b, off, none⟩ ∧ B ≤ b ∧ b < w.heap.size ∧ Okf (nth l k) ∧ bn ≤ bc ∧ StmtsAt w B ba bn (nth l k).body ∧
      w.cell? ⟨b, off + k * 6, none⟩ = some (.int .i64 (nth l k).root) ∧ w.cell? ⟨b, off + k * 6 + 1, none⟩ = some (.string ⟨((nth l k).pkg).toArray⟩) ∧ w.cell? ⟨b, off + k * 6 + 2, none⟩ = some (.string ⟨((nth l k).name).toArray⟩) ∧
      w.cell? ⟨b, off + k * 6 + 3, none⟩ = some (.bool (nth l k).init) ∧ w.cell? ⟨b, off + k * 6 + 4, none⟩ = some (.int .i64 (nth l k).stamp) ∧ w.cell? ⟨b, off + k * 6 + 5, none⟩ = some (.slice ba bn bc) := by
  obtain ⟨vs, rfl, h1, h2, h3, h4, h5⟩ := h
  have hl : k < vs.length := by simpa [h1] using hk
  obtain ⟨b, off, ha, hB, hb, hc⟩ := h4.elem (s := 6) (fun _ => rfl) (by simpa using h1) hk
  obtain ⟨ba, bn, bc, e, hbc, hs⟩ := h5 _ (nth_mem hl)
  rw [nth_map_fst hl]
  refine ⟨b, off, ba, bn, bc, ha, hB, hb, ?_, hbc, hs, hc 0 (by omega), hc 1 (by omega), hc 2 (by omega), hc 3 (by omega), hc 4 (by omega), ?_⟩
  · exact h3 _ (List.mem_map_of_mem (nth_mem hl))
  · rw [← e]; exact hc 5 (by omega)

theorem own_swap {w : World} {o o' : Obj} {x : Xt} {B e size n : Nat} {v : Value} {xs : List Value} (h : (World.ext (w.alloc o) x).ownsRow (w.alloc o).heap.size e size v n xs) (hB : B ≤ w.heap.size) : (World.ext (w.alloc o') x).ownsRow B e size v n xs := by
  rw [World.size_alloc] at h
  exact own_less (own_fr h (fr_swap w o o' x)) (by omega)
theorem own_lit {w : World} {cs : Array Value} {B e size n g : Nat} (hg : g = w.heap.size) (hB : B ≤ w.heap.size) (hs : cs.size = n * size) (hn : n ≤ 4611686018427387904) : (w.alloc (.cells cs e)).ownsRow B e size (.slice (some ⟨g, 0, none⟩) n n) n cs.toList := by
  subst hg
  exact World.ownsRow_lit w cs n hB (by unfold maxLen; omega) hs
/-! ### append of a literal with one element onto a slice of the call's own -/
/-- What append asks of a slice's type: elements of type e, 'size' cells, 'bytes' bytes. -/
structure AppT (P : Program) (t e size bytes : Nat) : Prop where
  ht : P.underlying t = some (.slice e)
  hi : ∃ (i : TypeInfo) (z : Value), P.info? e = some i ∧ i.zero = some z ∧ i.size = size ∧ i.bytes = bytes ∧ z.cells.size = size
  hsz : 0 < size
theorem AppT.of {P : Program} {t e size bytes : Nat} {z : Value} (ht : P.underlying t = some (.slice e)) (h : (P.info? e).map (fun i => (i.zero, i.size, i.bytes)) = some (some z, size, bytes)) (hz : z.cells.size = size) (hsz : 0 < size) : AppT P t e size bytes := by
  cases hi : P.info? e with
  | none => rw [hi] at h; simp at h
  | some i =>
    rw [hi] at h
    simp only [Option.map_some, Option.some.injEq, Prod.mk.injEq] at h
    exact ⟨ht, ⟨i, z, hi, h.1, h.2.1, h.2.2, hz⟩, hsz⟩
theorem wpList_append_lit {P : Program} {ops : Array Oper} {rest : List Oper} {o : Oper} {a : Act} {Q : Exit → Act → World → Prop} {t e size bytes : Nat} (hT : AppT P t e size bytes) (hgd : o.guard = none) (s x : Operand)
    (ho : o.op = .call { callee := .builtin .append, args := #[s, x], argTypes := #[t, t] }) {W : World} {x0 : Xt} {v : Value} {n : Nat} {xs : List Value} {cs : Array Value}
    (hown : (World.ext W x0).ownsRow W.heap.size e size v n xs) (hs : a.eval s = v) (hx : a.eval x = .slice (some ⟨(World.ext W x0).heap.size, 0, none⟩) 1 1) (hcs : cs.size = size) (h1 : ∀ u ∈ cs.toList, u.oneCell' = true)
    (hb : (n + 1) * bytes ≤ 140737488355328) (hn : n + 1 ≤ 9223372036854775807)
    (h : ∀ a' c' z, (World.ext W z).ownsRow W.heap.size e size (.slice a' (n + 1) c') (n + 1) (xs ++ cs.toList) → wpList P ops Q rest (a.put o.dst (.slice a' (n + 1) c')) (World.ext W z)) :
    wpList P ops Q (o :: rest) a ((World.ext W x0).alloc (.cells cs e)) := by
  obtain ⟨i, z, hi, hz, hsize, hby, hzs⟩ := hT.hi
  have hle : W.heap.size ≤ (World.ext W x0).heap.size := by rw [World.size_ext]; omega
  refine wpList_append_own _ hgd s x t ho W.heap.size e i z size bytes hT.ht hi hz hsize hby hzs hT.hsz v n xs hs (hown.alloc _) ⟨(World.ext W x0).heap.size, 0, none⟩ 1 1 cs.toList hx (by simp [hcs])
    (fun j u hu => ?_) h1 (by unfold maxLen; omega) hb (by simp; omega) ?_
  · have hadd : (⟨(World.ext W x0).heap.size, 0, none⟩ : Addr).add j = ⟨(World.ext W x0).heap.size, j, none⟩ := by unfold Addr.add; split <;> simp_all
    rw [hadd, World.cell?_alloc_new]
    simpa using hu
  · intro v' w' hown' hgr _
    obtain ⟨a', c', rfl⟩ := own_slice hown'
    have hB : Below W.heap.size W w' := by
      refine ((World.below_ext W x0).alloc hle _).grown hgr (by simp; omega) (fun k hk => ?_)
      exact (hown.lt k hk).1
    obtain ⟨z, rfl⟩ := X.of_below hB
    exact h a' c' z hown'
theorem own_ext {W : World} {x z : Xt} {e size n : Nat} {v : Value} {xs : List Value} (h : (World.ext W x).ownsRow W.heap.size e size v n xs) (hx : X (World.ext W x) (World.ext W z)) :
    (World.ext W z).ownsRow W.heap.size e size v n xs := own_fr h (hx.fr _)

end Go.Proofs.YtjlooplpjliaiaaDoor
