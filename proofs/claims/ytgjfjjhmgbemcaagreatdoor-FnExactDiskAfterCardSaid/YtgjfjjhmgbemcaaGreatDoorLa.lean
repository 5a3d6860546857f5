/- Several texts in one: Dir, DirW, DirT, DirSet. No condition but lengths. -/
import Derived.Test.YtgjfjjhmgbemcaaGreatDoorIa
import Derived.Test.YtgjfjjhmgbemcaaGreatDoorProg
namespace Go.Proofs.YtgjfjjhmgbemcaaGreatDoor
open Go.ChangeShapes Go.WideShapes Go.ChangeAt Go.RowKit Go.Deep

structure Di where
  root : Int
  pkg : List UInt8
  stamp : Int
  names : List (List UInt8)
deriving DecidableEq, Inhabited
def dcells (x : Di × Value) : List Value := [.int .i64 x.1.root, .string ⟨(x.1.pkg).toArray⟩, .int .i64 x.1.stamp, x.2]
instance : Inhabited (Di × Value) := ⟨(default, undef)⟩
/-- Texts, directories, of whatever length. -/
def StrsR (w : World) (a : Option Addr) (n : Nat) (l : List (List UInt8)) : Prop := n = l.length ∧ n ≤ maxLen ∧ (∀ s ∈ l, s.length ≤ maxLen) ∧ Sl w 0 a n (strs l)
def DirsR (w : World) (a : Option Addr) (n : Nat) (l : List Di) : Prop :=
  ∃ vs : List (Di × Value), l = vs.map (·.1) ∧ n = l.length ∧ n ≤ maxLen ∧ (∀ d ∈ l, d.pkg.length ≤ maxLen) ∧ Sl w 0 a n (vs.flatMap dcells) ∧
    ∀ x ∈ vs, ∃ ba bn bc, x.2 = .slice ba bn bc ∧ bn ≤ bc ∧ StrsR w ba bn x.1.names
def DirsAt (w : World) (B : Nat) (a : Option Addr) (n : Nat) (l : List Di) : Prop :=
  ∃ vs : List (Di × Value), l = vs.map (·.1) ∧ n = l.length ∧ n ≤ 2097152 ∧ (∀ d ∈ l, d.pkg.length ≤ 1048576) ∧ Sl w B a n (vs.flatMap dcells) ∧
    ∀ x ∈ vs, ∃ ba bn bc, x.2 = .slice ba bn bc ∧ bn ≤ bc ∧ StrsAt w B ba bn x.1.names
theorem StrsR.mono {w w' : World} {a : Option Addr} {n : Nat} {l : List (List UInt8)} (h : StrsR w a n l) (hx : X w w') : StrsR w' a n l := ⟨h.1, h.2.1, h.2.2.1, h.2.2.2.mono (hx.fr _)⟩
theorem StrsR.at_ {w : World} {a : Option Addr} {n : Nat} {l : List (List UInt8)} (h : StrsR w a n l) {k : Nat} (hk : k < n) :
    ∃ b off, a = some ⟨b, off, none⟩ ∧ b < w.heap.size ∧ w.cell? ⟨b, off + k, none⟩ = some (.string ⟨(nth l k).toArray⟩) ∧ (nth l k).length ≤ maxLen := by
  obtain ⟨b, off, ha, hB, hb, hc⟩ := h.2.2.2.elem (s := 1) (fun _ => rfl) h.1 hk
  refine ⟨b, off, ha, hb, ?_, h.2.2.1 _ (nth_mem (by have := h.1; omega))⟩
  have := hc 0 (by omega)
  rw [Nat.mul_one, Nat.add_zero] at this
  exact this
theorem DirsR.mono {w w' : World} {a : Option Addr} {n : Nat} {l : List Di} (h : DirsR w a n l) (hx : X w w') : DirsR w' a n l := by
  obtain ⟨vs, e, h1, h2, h3, h4, h5⟩ := h
  exact ⟨vs, e, h1, h2, h3, h4.mono (hx.fr _), fun x hm => let ⟨ba, bn, bc, e, hc, hs⟩ := h5 x hm; ⟨ba, bn, bc, e, hc, hs.mono hx⟩⟩
theorem DirsAt.mono {w w' : World} {B : Nat} {a : Option Addr} {n : Nat} {l : List Di} (h : DirsAt w B a n l) (hx : Fr B w w') : DirsAt w' B a n l := by
  obtain ⟨vs, h0, h1, h2, h3, h4, h5⟩ := h
  exact ⟨vs, h0, h1, h2, h3, h4.mono hx, fun x hm => let ⟨ba, bn, bc, e, hc, hs⟩ := h5 x hm; ⟨ba, bn, bc, e, hc, hs.mono hx⟩⟩
theorem DirsAt.less {w : World} {B B' : Nat} {a : Option Addr} {n : Nat} {l : List Di} (h : DirsAt w B a n l) (hB : B' ≤ B) : DirsAt w B' a n l := by
  obtain ⟨vs, h0, h1, h2, h3, h4, h5⟩ := h
  exact ⟨vs, h0, h1, h2, h3, h4.less hB, fun x hm => let ⟨ba, bn, bc, e, hc, hs⟩ := h5 x hm; ⟨ba, bn, bc, e, hc, hs.less hB⟩⟩
theorem DirsAt.len {w : World} {B : Nat} {a : Option Addr} {n : Nat} {l : List Di} (h : DirsAt w B a n l) : n = l.length ∧ n ≤ 2097152 := by
  obtain ⟨vs, _, h1, h2, _⟩ := h; exact ⟨h1, h2⟩
theorem nth_map_fstD {vs : List (Di × Value)} {k : Nat} (hk : k < vs.length) : nth (vs.map (·.1)) k = (nth vs k).1 := by
  rw [nth_eq (by simpa using hk), nth_eq hk, List.getElem_map]
theorem DirsR.at_ {w : World} {a : Option Addr} {n : Nat} {l : List Di} (h : DirsR w a n l) {k : Nat} (hk : k < n) :
    ∃ b off ba bn bc, a = some ⟨b, off, none⟩ ∧ b < w.heap.size ∧ (nth l k).pkg.length ≤ maxLen ∧ bn ≤ bc ∧ StrsR w ba bn (nth l k).names ∧
      w.cell? ⟨b, off + k * 4, none⟩ = some (.int .i64 (nth l k).root) ∧ w.cell? ⟨b, off + k * 4 + 1, none⟩ = some (.string ⟨((nth l k).pkg).toArray⟩) ∧ w.cell? ⟨b, off + k * 4 + 2, none⟩ = some (.int .i64 (nth l k).stamp) ∧ w.cell? ⟨b, off + k * 4 + 3, none⟩ = some (.slice ba bn bc) := by
  obtain ⟨vs, rfl, h1, h2, h3, h4, h5⟩ := h
  have hl : k < vs.length := by simpa [h1] using hk
  obtain ⟨b, off, ha, _, hb, hc⟩ := h4.elem (s := 4) (fun _ => rfl) (by simpa using h1) hk
  obtain ⟨ba, bn, bc, e, hbc, hS⟩ := h5 _ (nth_mem hl)
  have hm := h3 _ (List.mem_map.2 ⟨nth vs k, nth_mem hl, rfl⟩)
  rw [nth_map_fstD hl]
  have c3 : w.cell? ⟨b, off + (k * 4 + 3), none⟩ = some (nth vs k).2 := hc 3 (by omega)
  rw [e] at c3
  exact ⟨b, off, ba, bn, bc, ha, hb, hm, hbc, hS, hc 0 (by omega), hc 1 (by omega), hc 2 (by omega), c3⟩
theorem DirsAt.at_ {w : World} {B : Nat} {a : Option Addr} {n : Nat} {l : List Di} (h : DirsAt w B a n l) {k : Nat} (hk : k < n) :
    ∃ b off ba bn bc, a = some ⟨b, off, none⟩ ∧ B ≤ b ∧ b < w.heap.size ∧ (nth l k).pkg.length ≤ 1048576 ∧ bn ≤ bc ∧ StrsAt w B ba bn (nth l k).names ∧
      w.cell? ⟨b, off + k * 4, none⟩ = some (.int .i64 (nth l k).root) ∧ w.cell? ⟨b, off + k * 4 + 1, none⟩ = some (.string ⟨((nth l k).pkg).toArray⟩) ∧ w.cell? ⟨b, off + k * 4 + 2, none⟩ = some (.int .i64 (nth l k).stamp) ∧ w.cell? ⟨b, off + k * 4 + 3, none⟩ = some (.slice ba bn bc) := by
  obtain ⟨vs, rfl, h1, h2, h3, h4, h5⟩ := h
  have hl : k < vs.length := by simpa [h1] using hk
  obtain ⟨b, off, ha, hB, hb, hc⟩ := h4.elem (s := 4) (fun _ => rfl) (by simpa using h1) hk
  obtain ⟨ba, bn, bc, e, hbc, hS⟩ := h5 _ (nth_mem hl)
  have hm := h3 _ (List.mem_map.2 ⟨nth vs k, nth_mem hl, rfl⟩)
  rw [nth_map_fstD hl]
  have c3 : w.cell? ⟨b, off + (k * 4 + 3), none⟩ = some (nth vs k).2 := hc 3 (by omega)
  rw [e] at c3
  exact ⟨b, off, ba, bn, bc, ha, hB, hb, hm, hbc, hS, hc 0 (by omega), hc 1 (by omega), hc 2 (by omega), c3⟩

/-! ### Sizes -/
def szStr (s : List UInt8) (n : Int) : Int := if n - (s.length : Int) < 0 then -1 else n - (s.length : Int)
def szStrs (l : List (List UInt8)) (n : Int) : Int := if n - (l.length : Int) < 0 then -1 else szL szStr l (n - (l.length : Int))
def szDi (d : Di) (n : Int) : Int := if n - (d.pkg.length : Int) < 0 then -1 else szStrs d.names (n - (d.pkg.length : Int))
def szDis (l : List Di) (n : Int) : Int := if n - (l.length : Int) < 0 then -1 else szL szDi l (n - (l.length : Int))
theorem szStr_le (s : List UInt8) (n : Int) (h : 0 ≤ szStr s n) : szStr s n ≤ n := by
  unfold szStr at h ⊢
  split at h <;> rename_i h1
  · omega
  · rw [if_neg h1]; omega
theorem szStrs_le (l : List (List UInt8)) (n : Int) (h : 0 ≤ szStrs l n) : szStrs l n ≤ n := by
  unfold szStrs at h ⊢
  split at h <;> rename_i h1
  · omega
  · rw [if_neg h1]
    have := (szL_le szStr_le h).1
    omega
theorem szStrs_ok {l : List (List UInt8)} {n : Int} (h : 0 ≤ szStrs l n) : (l.length : Int) ≤ n ∧ ∀ s ∈ l, (s.length : Int) ≤ n := by
  unfold szStrs at h
  split at h <;> rename_i h1
  · omega
  · refine ⟨by omega, fun s hs => ?_⟩
    obtain ⟨m, hm, h2⟩ := (szL_le szStr_le h).2 s hs
    unfold szStr at h2
    split at h2 <;> omega
theorem szDi_le (d : Di) (n : Int) (h : 0 ≤ szDi d n) : szDi d n ≤ n := by
  unfold szDi at h ⊢
  split at h <;> rename_i h1
  · omega
  · rw [if_neg h1]
    have := szStrs_le _ _ h
    omega
theorem szDis_le (l : List Di) (n : Int) (h : 0 ≤ szDis l n) : szDis l n ≤ n := by
  unfold szDis at h ⊢
  split at h <;> rename_i h1
  · omega
  · rw [if_neg h1]
    have := (szL_le szDi_le h).1
    omega
theorem szDis_ok {l : List Di} {n : Int} (h : 0 ≤ szDis l n) : (l.length : Int) ≤ n ∧ ∀ d ∈ l, (d.pkg.length : Int) ≤ n ∧ (d.names.length : Int) ≤ n ∧ ∀ s ∈ d.names, (s.length : Int) ≤ n := by
  unfold szDis at h
  split at h <;> rename_i h1
  · omega
  · refine ⟨by omega, fun d hd => ?_⟩
    obtain ⟨m, hm, h2⟩ := (szL_le szDi_le h).2 d hd
    unfold szDi at h2
    split at h2 <;> rename_i h3
    · omega
    · obtain ⟨h4, h5⟩ := szStrs_ok h2
      exact ⟨by omega, by omega, fun s hs => by have := h5 s hs; omega⟩
theorem szStrs_neg {l : List (List UInt8)} {n : Int} (h : szStrs l n < 0) : szStrs l n = -1 := by
  unfold szStrs at h ⊢
  by_cases h0 : n - (l.length : Int) < 0
  · rw [if_pos h0]
  · rw [if_neg h0] at h ⊢
    exact szL_neg (by omega) h
theorem szDis_neg {l : List Di} {n : Int} (h : szDis l n < 0) : szDis l n = -1 := by
  unfold szDis at h ⊢
  by_cases h0 : n - (l.length : Int) < 0
  · rw [if_pos h0]
  · rw [if_neg h0] at h ⊢
    exact szL_neg (by omega) h
theorem szFis_le (l : List Fi) (n : Int) (h : 0 ≤ szFis l n) : szFis l n ≤ n := by
  unfold szFis at h ⊢
  split at h <;> rename_i h1
  · omega
  · rw [if_neg h1]
    have := (szL_le szFi_le h).1
    omega
theorem StrsR.at {w : World} {a : Option Addr} {n : Nat} {l : List (List UInt8)} (h : StrsR w a n l) (hl : (l.length : Int) ≤ 1048576) (hs : ∀ s ∈ l, (s.length : Int) ≤ 1048576) : StrsAt w 0 a n l :=
  ⟨h.1, by have := h.1; omega, fun s hm => by have := hs s hm; omega, h.2.2.2⟩
theorem DirsR.at {w : World} {a : Option Addr} {n : Nat} {l : List Di} (h : DirsR w a n l) {m : Int} (hm : m ≤ 1048576) (hz : 0 ≤ szDis l m) : DirsAt w 0 a n l := by
  obtain ⟨z1, z2⟩ := szDis_ok hz
  obtain ⟨vs, e, h1, _, _, h4, h5⟩ := h
  refine ⟨vs, e, h1, by omega, fun d hd => by have := (z2 d hd).1; omega, h4, fun x hx => ?_⟩
  obtain ⟨ba, bn, bc, e2, hbc, hS⟩ := h5 x hx
  obtain ⟨_, b3, b4⟩ := z2 x.1 (by rw [e]; exact List.mem_map.2 ⟨x, hx, rfl⟩)
  exact ⟨ba, bn, bc, e2, hbc, hS.at (by omega) (fun s hs => by have := b4 s hs; omega)⟩
theorem FilesR.at2 {w : World} {a : Option Addr} {n : Nat} {l : List Fi} (h : FilesR w a n l) (hz : 0 ≤ szFis l 1048576) : FilesAt w 0 a n l := h.at hz

/-! ### Arguments -/
section
variable {H : Type} {enc : TypeId × Value → H} {P : Program} {w : World} {held : Bool}
def SsTy (P : Program) (t : TypeId) : Prop := ∃ e, P.underlying t = some (.slice e) ∧ P.cellsOf e = 1 ∧ P.underlying e = some .string
def DiTy (P : Program) (e : TypeId) : Prop := P.cellsOf e = 4 ∧ ∃ (f0 f1 f2 f3 : Field) (u : TypeId), P.underlying e = some (.struct #[f0, f1, f2, f3]) ∧ FieldAt P f0 0 (.int .i64) ∧ FieldAt P f1 1 .string ∧ FieldAt P f2 2 (.int .i64) ∧ FieldAt P f3 3 (.slice u) ∧ SsTy P f3.type
def DisTy (P : Program) (t : TypeId) : Prop := ∃ e, P.underlying t = some (.slice e) ∧ DiTy P e
theorem open_strs {t : TypeId} (ht : SsTy P t) {fuel : Nat} {cs : List Value} {y : DataW H × List MemPlace} (h : DataW.trod enc P w 0 (fun _ => true) held fuel t cs = some y) :
    ∃ a n c l, cs = [.slice a n c] ∧ n ≤ c ∧ StrsR w a n l := by
  obtain ⟨e, hu, he1, he2⟩ := ht
  rcases open_slice hu h with ⟨rfl, _⟩ | ⟨a, len, cap, m, n, D, Pl, rfl, _, hl, hm, hmm, _, hi⟩
  · exact ⟨none, 0, 0, [], rfl, Nat.le_refl _, rfl, Nat.zero_le _, fun _ h => (by cases h), fun h => absurd h (by omega)⟩
  · simp only [if_true] at hmm
    obtain ⟨l, hll, hp⟩ := list_of (n := len) (p := fun i (s : List UInt8) => (∀ j (hj : j < 1), w.cell? (a.add (i * 1 + j)) = some (([.string ⟨(s).toArray⟩] : List Value)[j]'hj)) ∧ s.length ≤ maxLen) (fun i hil => by
      obtain ⟨cs', hc, ht'⟩ := hi i (by omega)
      rw [he1] at hc
      obtain ⟨s, rfl, _, hb⟩ := DataW.trod_string he2 ht'
      obtain ⟨_, hcl, hat⟩ := World.cells?_some hc
      refine ⟨s.data.toList, fun j hj => ?_, hb⟩
      rw [← Go.Deep.add_add]
      have := hat j hj
      rw [this]
      exact List.getElem?_eq_getElem _)
    refine ⟨some a, len, cap, l, rfl, hl, hll.symm, by omega, fun s hs => ?_, sl_of hll.symm (s := 1) (fun _ => rfl) (by omega) (fun i hil j hj => (hp i hil).1 j hj)⟩
    obtain ⟨k, hk, rfl⟩ := List.getElem_of_mem hs
    have := (hp k (by omega)).2
    rwa [nth_eq hk] at this
theorem elem_di {e : TypeId} (he : DiTy P e) {fuel : Nat} {cs : List Value} {y : DataW H × List MemPlace} (h : DataW.trod enc P w 0 (fun _ => true) held fuel e cs = some y) :
    ∃ x : Di × Value, cs = dcells x ∧ x.1.pkg.length ≤ maxLen ∧ ∃ ba bn bc, x.2 = .slice ba bn bc ∧ bn ≤ bc ∧ StrsR w ba bn x.1.names := by
  obtain ⟨hC, f0, f1, f2, f3, u, hu, h0, h1, h2, h3, hb⟩ := he
  obtain ⟨xs, n, _, _, hlen, hxl, hf⟩ := DataW.trod_struct hu h
  rw [hC] at hlen
  have hx4 : xs.length = 4 := hxl
  match cs, hlen with
  | [c0, c1, c2, c3], _ =>
    obtain ⟨r, e0, _, b0⟩ := DataW.trod_int h0.2.1 (field_of h0 (i := 0) (by omega) (by simp) (hf 0 f0 rfl))
    obtain ⟨pk, e1, _, b1⟩ := DataW.trod_string h1.2.1 (field_of h1 (i := 1) (by omega) (by simp) (hf 1 f1 rfl))
    obtain ⟨st, e2, _, b2⟩ := DataW.trod_int h2.2.1 (field_of h2 (i := 2) (by omega) (by simp) (hf 2 f2 rfl))
    obtain ⟨ba, bn, bc, l, e3, hbc, hS⟩ := open_strs hb (field_of h3 (i := 3) (by omega) (by simp) (hf 3 f3 rfl))
    simp only [List.getElem_cons_zero, List.getElem_cons_succ, List.cons.injEq, and_true] at e0 e1 e2 e3
    subst e0 e1 e2 e3
    exact ⟨(⟨r, pk.data.toList, st, l⟩, .slice ba bn bc), rfl, b1, ba, bn, bc, rfl, hbc, hS⟩
theorem open_dirs {t : TypeId} (ht : DisTy P t) {fuel : Nat} {cs : List Value} {y : DataW H × List MemPlace} (h : DataW.trod enc P w 0 (fun _ => true) held fuel t cs = some y) :
    ∃ a n c l, cs = [.slice a n c] ∧ n ≤ c ∧ DirsR w a n l := by
  obtain ⟨e, hu, he⟩ := ht
  rcases open_slice hu h with ⟨rfl, _⟩ | ⟨a, len, cap, m, n, D, Pl, rfl, _, hl, hm, hmm, _, hi⟩
  · exact ⟨none, 0, 0, [], rfl, Nat.le_refl _, [], rfl, rfl, Nat.zero_le _, fun _ h => (by cases h), fun h => absurd h (by omega), fun _ h => (by cases h)⟩
  · simp only [if_true] at hmm
    obtain ⟨l, hll, hp⟩ := list_of (n := len) (p := fun i (x : Di × Value) => (∀ j (hj : j < 4), w.cell? (a.add (i * 4 + j)) = some ((dcells x)[j]'hj)) ∧ x.1.pkg.length ≤ maxLen ∧ ∃ ba bn bc, x.2 = .slice ba bn bc ∧ bn ≤ bc ∧ StrsR w ba bn x.1.names) (fun i hil => by
      obtain ⟨cs', hc, ht'⟩ := hi i (by omega)
      rw [he.1] at hc
      obtain ⟨x, rfl, hb⟩ := elem_di he ht'
      obtain ⟨_, hcl, hat⟩ := World.cells?_some hc
      refine ⟨x, fun j hj => ?_, hb⟩
      rw [← Go.Deep.add_add]
      have := hat j hj
      rw [this]
      exact List.getElem?_eq_getElem _)
    refine ⟨some a, len, cap, l.map (·.1), rfl, hl, l, rfl, by rw [List.length_map]; exact hll.symm, by omega, fun f hf => ?_, sl_of hll.symm (s := 4) (fun _ => rfl) (by omega) (fun i hil j hj => (hp i hil).1 j hj), fun x hx => ?_⟩
    · obtain ⟨x, hx, rfl⟩ := List.mem_map.1 hf
      obtain ⟨k, hk, rfl⟩ := List.getElem_of_mem hx
      have := (hp k (by omega)).2.1
      rwa [nth_eq hk] at this
    · obtain ⟨k, hk, rfl⟩ := List.getElem_of_mem hx
      have := (hp k (by omega)).2.2
      rwa [nth_eq hk] at this
/-- t is a type of disks. -/
def DkTy (P : Program) (t : TypeId) : Prop := P.cellsOf t = 3 ∧ ∃ (f0 f1 f2 : Field), P.underlying t = some (.struct #[f0, f1, f2]) ∧ f0.offset = 0 ∧ P.cellsOf f0.type = 1 ∧ TrTy P f0.type ∧ FieldAt P f1 1 (.int .i64) ∧ f2.offset = 2 ∧ P.cellsOf f2.type = 1 ∧ DisTy P f2.type
/-- A disk as an argument. -/
theorem arg_disk {t : TypeId} (ht : DkTy P t) {r : Reach} {b0 : Nat} {v : Value} {d : DataW H} {p : List MemPlace} (hv : Value.okWide P w r b0 t v) (h : DataW.Trod enc P w 0 (fun _ => true) held t v d p) :
    ∃ a n c l k da dn dc dl, v = .agg #[.slice a n c, .int .i64 k, .slice da dn dc] ∧ n ≤ c ∧ dn ≤ dc ∧ FilesR w a n l ∧ DirsR w da dn dl := by
  obtain ⟨hC, f0, f1, f2, hu, ho0, hc0, ht0, h1, ho2, hc2, ht2⟩ := ht
  obtain ⟨cs, rfl, hsz⟩ := okWide_struct hu hv
  obtain ⟨fuel, hf⟩ := h
  obtain ⟨xs, n, _, _, hlen, hxl, hx⟩ := DataW.trod_struct hu hf
  rw [hC] at hlen
  have hx3 : xs.length = 3 := hxl
  have hcs : ∃ c0 c1 c2, cs = #[c0, c1, c2] := by
    have : cs.toList.length = 3 := hlen
    match hcl : cs.toList, this with
    | [c0, c1, c2], _ => exact ⟨c0, c1, c2, Array.toList_inj.1 (by simpa using hcl)⟩
  obtain ⟨c0, c1, c2, rfl⟩ := hcs
  have e0 := hx 0 f0 rfl
  have e2 := hx 2 f2 rfl
  rw [ho0, hc0, List.getElem?_eq_getElem (show 0 < xs.length by omega)] at e0
  rw [ho2, hc2, List.getElem?_eq_getElem (show 2 < xs.length by omega)] at e2
  obtain ⟨a, n, c, l, q0, hnc, hR⟩ := open_tree ht0 e0
  obtain ⟨k, q1, _, _⟩ := DataW.trod_int h1.2.1 (field_of (cs := [c0, c1, c2]) h1 (i := 1) (by omega) (by simp) (hx 1 f1 rfl))
  obtain ⟨da, dn, dc, dl, q2, hdc, hD⟩ := open_dirs ht2 e2
  have q0' : c0 = .slice a n c := by simpa [Value.cells] using q0
  have q2' : c2 = .slice da dn dc := by simpa [Value.cells] using q2
  simp only [List.getElem_cons_zero, List.getElem_cons_succ, List.cons.injEq, and_true] at q1
  subst q0' q1 q2'
  exact ⟨a, n, c, l, k, da, dn, dc, dl, rfl, hnc, hdc, hR, hD⟩
end

end Go.Proofs.YtgjfjjhmgbemcaaGreatDoor

namespace Go.Proofs.YtgjfjjhmgbemcaaGreatDoor
open Go.RowKit

set_option maxRecDepth 100000 in
set_option maxHeartbeats 1000000 in
theorem szStringS_c (l : List (List UInt8)) (a : Option Addr) (n c : Nat) (m0 : Int) (w : World) (hS : StrsR w a n l) (h0 : 0 ≤ m0) (h1 : m0 ≤ 1048576) :
    Calls Tryz.prog 147 #[.slice a n c, .int .i64 m0] w fun e w' => e = .returned (.int .i64 (szStrs l m0)) ∧ X w w' := by
  have hl := hS.1
  have hn := hS.2.1
  have q1 := i64_sub m0 n h0 h1 hn
  by_cases c1 : m0 - (n : Int) < 0
  · rw [show szStrs l m0 = -1 by rw [szStrs, ← hl, if_pos c1]]
    clear hl
    go_enter Tryz.func147, Tryz.ntmps147
    go_wp2
    go_ret
    exact ⟨by simp, by (repeat (first | with_reducible exact X.refl _ | with_reducible assumption | with_reducible refine X.setCell ?_ (by first | (simp; done) | (simp; omega)) _ | with_reducible refine X.ext ?_ _ | with_reducible refine X.alloc ?_ _ | with_reducible refine X.drew ?_))⟩
  · rw [show szStrs l m0 = szL szStr l (m0 - (n : Int)) by rw [szStrs, ← hl, if_neg c1]]
    have Hl := Lib.hid hl
    clear hl
    go_enter Tryz.func147, Tryz.ntmps147
    go_wp2
    go_loopw [1, 5] (fun v i wr => ∃ (k : Nat) (m : Int), k ≤ n ∧ i = .int .i64 k ∧ v = .int .i64 m ∧ 0 ≤ m ∧ m ≤ 1048576 ∧ szL szStr (l.drop k) m = szL szStr l (m0 - (n : Int)) ∧ wr = w) (fun _ i _ => n - (intOf i).toNat)
    case atStart => exact ⟨0, m0 - (n : Int), by omega, rfl, rfl, by omega, by omega, rfl, rfl⟩
    case round =>
      obtain ⟨k, m, hk, rfl, rfl, hm0, hm1, hz, rfl⟩ := hrel
      by_cases hlt : k < n
      · obtain ⟨b, off, rfl, hb, hc, hcl⟩ := hS.at_ hlt
        rw [szL_round (by rw [← Hl.out]; exact hlt), szStr] at hz
        have q2 := i64_sub m (nth l k).length hm0 hm1 hcl
        by_cases c2 : m - ((nth l k).length : Int) < 0
        · rw [if_pos c2, if_pos (by omega)] at hz
          have Hz := Lib.hid hz
          clear hz
          go_wp2
          go_ret
          exact ⟨by rw [← Hz.out]; simp, by (repeat (first | with_reducible exact X.refl _ | with_reducible assumption | with_reducible refine X.setCell ?_ (by first | (simp; done) | (simp; omega)) _ | with_reducible refine X.ext ?_ _ | with_reducible refine X.alloc ?_ _ | with_reducible refine X.drew ?_))⟩
        · rw [if_neg c2, if_neg (by omega)] at hz
          have Hz := Lib.hid hz
          clear hz
          go_wp2
          go_roundw
          case rel => exact ⟨k + 1, m - ((nth l k).length : Int), by omega, by go_num, rfl, by omega, by omega, Hz.out, trivial⟩
          case measure => simp [intOf]; omega
      · obtain rfl : k = n := by omega
        have he : m = szL szStr l (m0 - (k : Int)) := by rw [← hz, List.drop_eq_nil_of_le (by rw [← Hl.out]; omega), szL]
        have He := Lib.hid he
        clear he hz
        go_wp2
        go_ret
        exact ⟨by rw [← He.out]; rfl, by (repeat (first | with_reducible exact X.refl _ | with_reducible assumption | with_reducible refine X.setCell ?_ (by first | (simp; done) | (simp; omega)) _ | with_reducible refine X.ext ?_ _ | with_reducible refine X.alloc ?_ _ | with_reducible refine X.drew ?_))⟩

set_option maxRecDepth 100000 in
set_option maxHeartbeats 1000000 in
theorem szDir_c (d : Di) (ba : Option Addr) (bn bc : Nat) (n : Int) (w : World) (hm : d.pkg.length ≤ maxLen) (hS : StrsR w ba bn d.names) (h0 : 0 ≤ n) (h1 : n ≤ 1048576) :
    Calls Tryz.prog 91 #[.agg #[.int .i64 (d).root, .string ⟨(d).pkg.toArray⟩, .int .i64 (d).stamp, .slice ba bn bc], .int .i64 n] w fun e w' => e = .returned (.int .i64 (szDi d n)) ∧ X w w' := by
  have q1 := i64_sub n d.pkg.length h0 h1 hm
  by_cases c1 : n - (d.pkg.length : Int) < 0
  · rw [show szDi d n = -1 by rw [szDi, if_pos c1]]
    go_enter Tryz.func91, Tryz.ntmps91
    go_wp2
    go_ret
    exact ⟨by simp, by (repeat (first | with_reducible exact X.refl _ | with_reducible assumption | with_reducible refine X.setCell ?_ (by first | (simp; done) | (simp; omega)) _ | with_reducible refine X.ext ?_ _ | with_reducible refine X.alloc ?_ _ | with_reducible refine X.drew ?_))⟩
  · rw [show szDi d n = szStrs d.names (n - (d.pkg.length : Int)) by rw [szDi, if_neg c1]]
    have hneg : szStrs d.names (n - (d.pkg.length : Int)) < 0 → szStrs d.names (n - (d.pkg.length : Int)) = -1 := szStrs_neg
    have Hneg := Lib.hid hneg
    clear hneg
    by_cases c3 : szStrs d.names (n - (d.pkg.length : Int)) < 0
    all_goals
      go_enter Tryz.func91, Tryz.ntmps91
      go_wp2_with (go_at_call 147; refine (szStringS_c d.names _ _ _ _ _ (hS.mono (by (repeat (first | exact X.refl _ | assumption | refine X.ext ?_ _ | refine X.alloc ?_ _ | refine X.drew ?_)))) (by omega) (by omega)).mono ?_; rintro _ _ ⟨rfl, hx⟩; replace hx := X.trans (a := w) (by (repeat (first | exact X.refl _ | assumption | refine X.ext ?_ _ | refine X.alloc ?_ _ | refine X.drew ?_))) hx; obtain ⟨x, rfl⟩ := hx)
      go_ret
    · exact ⟨by rw [Hneg.out c3]; rfl, by (repeat (first | exact X.refl _ | assumption | refine X.ext ?_ _ | refine X.alloc ?_ _ | refine X.drew ?_))⟩
    · exact ⟨rfl, by (repeat (first | exact X.refl _ | assumption | refine X.ext ?_ _ | refine X.alloc ?_ _ | refine X.drew ?_))⟩
set_option maxRecDepth 100000 in
set_option maxHeartbeats 1000000 in
theorem szDirS_c (l : List Di) (a : Option Addr) (n c : Nat) (m0 : Int) (w : World) (hS : DirsR w a n l) (h0 : 0 ≤ m0) (h1 : m0 ≤ 1048576) :
    Calls Tryz.prog 37 #[.slice a n c, .int .i64 m0] w fun e w' => e = .returned (.int .i64 (szDis l m0)) ∧ X w w' := by
  have hl : n = l.length := by obtain ⟨_, _, h, _⟩ := hS; exact h
  have hn : n ≤ maxLen := by obtain ⟨_, _, _, h, _⟩ := hS; exact h
  have q1 := i64_sub m0 n h0 h1 hn
  by_cases c1 : m0 - (n : Int) < 0
  · rw [show szDis l m0 = -1 by rw [szDis, ← hl, if_pos c1]]
    clear hl
    go_enter Tryz.func37, Tryz.ntmps37
    go_wp2
    go_ret
    exact ⟨by simp, by (repeat (first | with_reducible exact X.refl _ | with_reducible assumption | with_reducible refine X.setCell ?_ (by first | (simp; done) | (simp; omega)) _ | with_reducible refine X.ext ?_ _ | with_reducible refine X.alloc ?_ _ | with_reducible refine X.drew ?_))⟩
  · rw [show szDis l m0 = szL szDi l (m0 - (n : Int)) by rw [szDis, ← hl, if_neg c1]]
    have Hl := Lib.hid hl
    clear hl
    go_enter Tryz.func37, Tryz.ntmps37
    go_wp2
    go_loopw [1, 5] (fun v i wr => ∃ (k : Nat) (m : Int) (x : Xt), k ≤ n ∧ i = .int .i64 k ∧ v = .int .i64 m ∧ 0 ≤ m ∧ m ≤ 1048576 ∧ szL szDi (l.drop k) m = szL szDi l (m0 - (n : Int)) ∧ wr = World.ext w x) (fun _ i _ => n - (intOf i).toNat)
    case atStart => exact ⟨0, m0 - (n : Int), _, by omega, rfl, rfl, by omega, by omega, rfl, (World.ext_refl w).symm⟩
    case round =>
      obtain ⟨k, m, x, hk, rfl, rfl, hm0, hm1, hz, rfl⟩ := hrel
      by_cases hlt : k < n
      · obtain ⟨b, off, ba, bn, bc, rfl, hb, hb2, _, hSb, g0, g1, g2, g3⟩ := hS.at_ hlt
        rw [szL_round (by rw [← Hl.out]; exact hlt)] at hz
        have hle := szDi_le (nth l k) m
        by_cases c2 : szDi (nth l k) m < 0
        · rw [if_pos c2] at hz
          have Hz := Lib.hid hz
          clear hz
          go_wp2_with (go_at_call 91; refine (szDir_c (nth l k) ba bn bc m _ hb2 (hSb.mono (by (repeat (first | exact X.refl _ | assumption | refine X.ext ?_ _ | refine X.alloc ?_ _ | refine X.drew ?_)))) hm0 hm1).mono ?_; rintro _ _ ⟨rfl, hx⟩; obtain ⟨x, rfl⟩ := hx.of_ext)
          go_ret
          exact ⟨by rw [← Hz.out]; simp, by (repeat (first | exact X.refl _ | assumption | refine X.ext ?_ _ | refine X.alloc ?_ _ | refine X.drew ?_))⟩
        · rw [if_neg c2] at hz
          have Hz := Lib.hid hz
          clear hz
          go_wp2_with (go_at_call 91; refine (szDir_c (nth l k) ba bn bc m _ hb2 (hSb.mono (by (repeat (first | exact X.refl _ | assumption | refine X.ext ?_ _ | refine X.alloc ?_ _ | refine X.drew ?_)))) hm0 hm1).mono ?_; rintro _ _ ⟨rfl, hx⟩; obtain ⟨x, rfl⟩ := hx.of_ext)
          go_roundw
          case rel => exact ⟨k + 1, szDi (nth l k) m, x, by omega, by go_num, rfl, by omega, by have := hle (by omega); omega, Hz.out, rfl⟩
          case measure => simp [intOf]; omega
      · obtain rfl : k = n := by omega
        have he : m = szL szDi l (m0 - (k : Int)) := by rw [← hz, List.drop_eq_nil_of_le (by rw [← Hl.out]; omega), szL]
        have He := Lib.hid he
        clear he hz
        go_wp2
        go_ret
        exact ⟨by rw [← He.out]; rfl, by (repeat (first | exact X.refl _ | assumption | refine X.ext ?_ _ | refine X.alloc ?_ _ | refine X.drew ?_))⟩
/-- The size of a disk. -/
def szDk (l : List Fi) (dl : List Di) (n : Int) : Int := if szFis l n < 0 then -1 else if szDis dl (szFis l n) < 0 then -1 else szDis dl (szFis l n)
set_option maxRecDepth 100000 in
set_option maxHeartbeats 1000000 in
theorem szDisk_c (l : List Fi) (a : Option Addr) (n c : Nat) (kk : Int) (dl : List Di) (da : Option Addr) (dn dc : Nat) (m0 : Int) (w : World) (hS : FilesR w a n l) (hD : DirsR w da dn dl) (h0 : 0 ≤ m0) (h1 : m0 ≤ 1048576) :
    Calls Tryz.prog 8 #[.agg #[.slice a n c, .int .i64 kk, .slice da dn dc], .int .i64 m0] w fun e w' => e = .returned (.int .i64 (szDk l dl m0)) ∧ X w w' := by
  have hle := szFis_le l m0
  by_cases c1 : szFis l m0 < 0
  · rw [show szDk l dl m0 = -1 by rw [szDk, if_pos c1]]
    go_enter Tryz.func8, Tryz.ntmps8
    go_wp2_with (go_at_call 36; refine (szTree_c l _ _ _ _ _ (hS.mono (by (repeat (first | exact X.refl _ | assumption | refine X.ext ?_ _ | refine X.alloc ?_ _ | refine X.drew ?_)))) (by omega) (by omega)).mono ?_; rintro _ _ ⟨rfl, hx⟩; replace hx := X.trans (a := w) (by (repeat (first | exact X.refl _ | assumption | refine X.ext ?_ _ | refine X.alloc ?_ _ | refine X.drew ?_))) hx; obtain ⟨x, rfl⟩ := hx)
    go_ret
    exact ⟨rfl, by (repeat (first | exact X.refl _ | assumption | refine X.ext ?_ _ | refine X.alloc ?_ _ | refine X.drew ?_))⟩
  · have hz0 : 0 ≤ szFis l m0 := by omega
    have hz1 := hle hz0
    have hneg : szDis dl (szFis l m0) < 0 → szDis dl (szFis l m0) = -1 := szDis_neg
    have Hneg := Lib.hid hneg
    clear hneg
    rw [show szDk l dl m0 = szDis dl (szFis l m0) by rw [szDk, if_neg c1]; split <;> rename_i h <;> first | rfl | exact (Hneg.out h).symm]
    by_cases c2 : szDis dl (szFis l m0) < 0
    all_goals
      go_enter Tryz.func8, Tryz.ntmps8
      go_wp2_with fail
      refine calls_name (fun W0 hW0 => ?_)
      have hB0 : Bx W0 w.heap.size #[.slice a n c, .int .i64 kk, .slice da dn dc] := by rw [hW0]; exact Bx.new _ _ _
      have hX0 : X w W0 := by rw [hW0]; (repeat (first | with_reducible exact X.refl _ | with_reducible assumption | with_reducible refine X.setCell ?_ (by first | (simp; done) | (simp; omega)) _ | with_reducible refine X.ext ?_ _ | with_reducible refine X.alloc ?_ _ | with_reducible refine X.drew ?_))
      clear hW0
      refine (szTree_c l a n c _ W0 (hS.mono hX0) h0 h1).mono ?_
      rintro _ w1 ⟨rfl, hx1⟩
      have b2 := (hx1.cell (p := ⟨w.heap.size, 2, none⟩) hB0.lt).trans (hB0.out.2.1 2)
      go_wp2_with fail
      refine calls_name (fun W2 hW2 => ?_)
      have hX2 : X w1 W2 := by rw [hW2]; (repeat (first | with_reducible exact X.refl _ | with_reducible assumption | with_reducible refine X.setCell ?_ (by first | (simp; done) | (simp; omega)) _ | with_reducible refine X.ext ?_ _ | with_reducible refine X.alloc ?_ _ | with_reducible refine X.drew ?_))
      clear hW2
      refine (szDirS_c dl da dn dc _ W2 (hD.mono ((hX0.trans hx1).trans hX2)) hz0 (by omega)).mono ?_
      rintro _ w3 ⟨rfl, hx3⟩
      go_wp2
      go_ret
    · exact ⟨by rw [Hneg.out c2]; rfl, ((hX0.trans hx1).trans hX2).trans hx3⟩
    · exact ⟨rfl, ((hX0.trans hx1).trans hX2).trans hx3⟩

/-! ### Comparing -/
set_option maxRecDepth 100000 in
set_option maxHeartbeats 1000000 in
theorem eqStringS_c (l m : List (List UInt8)) (a a' : Option Addr) (n n' c c' B B' : Nat) (w : World) (hL : StrsAt w B a n l) (hM : StrsAt w B' a' n' m) :
    Calls Tryz.prog 156 #[.slice a n c, .slice a' n' c'] w fun e w' => e = .returned (.bool (decide (l = m))) ∧ X w w' := by
  have h1 := hL.1
  have h2 := hM.1
  have hn := hL.2.1
  have Hl := Lib.hid h1
  have Hm := Lib.hid h2
  by_cases hne : n = n'
  · subst hne
    clear h1 h2
    go_enter Tryz.func156, Tryz.ntmps156
    go_wp2
    go_loopw [5] (fun i wr => ∃ k : Nat, k ≤ n ∧ i = .int .i64 k ∧ allN (fun k => nth l k == nth m k) k = true ∧ ∃ x, wr = World.ext w x) (fun i _ => n - (intOf i).toNat)
    case atStart => exact ⟨0, by omega, rfl, rfl, X.refl _⟩
    case round =>
      obtain ⟨k, hk, rfl, hall, x, rfl⟩ := hrel
      by_cases hlt : k < n
      · obtain ⟨b, off, rfl, _, hb, hc, _⟩ := hL.at_ hlt
        obtain ⟨b', off', rfl, _, hb', hc', _⟩ := hM.at_ hlt
        go_wp2
        refine wp_region_grow (by kernel_rfl) (by kernel_rfl) ?_
        repeat (go_big_quiet_step ((fail)))
        refine wpQuiet_nil ?_
        rintro _ ⟨y, rfl⟩
        go_wp2
        · go_ret
          have h0 : (nth l k != nth m k) = true := by first | assumption | (simp; assumption) | (simp; omega)
          have hs : ¬ nth l k = nth m k := by simpa using h0
          exact ⟨ret_boolW (by rw [decide_eq_false]; intro e; exact hs (by rw [e])), by (repeat (first | exact X.refl _ | assumption | refine X.ext ?_ _ | refine X.alloc ?_ _ | refine X.drew ?_))⟩
        · have h0 : (nth l k != nth m k) = false := by first | assumption | (simp; assumption) | (simp; omega)
          have hs : nth l k = nth m k := by simpa using h0
          go_roundw
          case rel => exact ⟨k + 1, by omega, by go_num, allN_next hall (by simp [hs]), _, rfl⟩
          case measure => simp [intOf]; omega
      · obtain rfl : k = n := by omega
        go_wp2
        go_ret
        refine ⟨ret_boolW ?_, by (repeat (first | exact X.refl _ | assumption | refine X.ext ?_ _ | refine X.alloc ?_ _ | refine X.drew ?_))⟩
        rw [decide_eq_true]
        exact nth_ext2 (by rw [← Hl.out, ← Hm.out]) fun j hj => by simpa using allN_iff.1 hall j (by rw [Hl.out]; exact hj)
  · go_enter Tryz.func156, Tryz.ntmps156
    go_wp2
    go_ret
    exact ⟨ret_boolW (by rw [decide_eq_false]; intro e; apply hne; rw [h1, h2, e]), by (repeat (first | exact X.refl _ | assumption | refine X.ext ?_ _ | refine X.alloc ?_ _ | refine X.drew ?_))⟩

set_option maxRecDepth 100000 in
set_option maxHeartbeats 1000000 in
theorem eqDir_c (d e : Di) (ba ba' : Option Addr) (bn bc bn' bc' B B' : Nat) (w : World) (hS : StrsAt w B ba bn d.names) (hS' : StrsAt w B' ba' bn' e.names) :
    Calls Tryz.prog 107 #[.agg #[.int .i64 (d).root, .string ⟨(d).pkg.toArray⟩, .int .i64 (d).stamp, .slice ba bn bc], .agg #[.int .i64 (e).root, .string ⟨(e).pkg.toArray⟩, .int .i64 (e).stamp, .slice ba' bn' bc']] w fun e_1 w' => e_1 = .returned (.bool (decide (d = e))) ∧ X w w' := by
  obtain ⟨r, pk, st, nm⟩ := d
  obtain ⟨r', pk', st', nm'⟩ := e
  have hR : decide ((⟨r, pk, st, nm⟩ : Di) = ⟨r', pk', st', nm'⟩) = ((r == r') && (pk == pk') && (st == st') && decide (nm = nm')) := by
    rw [Bool.eq_iff_iff]; simp [and_assoc]
  rw [hR]
  clear hR
  cases h1 : r == r'
  · go_enter Tryz.func107, Tryz.ntmps107
    go_wp2
    go_ret
    exact ⟨by simp, by (repeat (first | exact X.refl _ | assumption | refine X.ext ?_ _ | refine X.alloc ?_ _ | refine X.drew ?_))⟩
  cases h2 : pk == pk'
  · go_enter Tryz.func107, Tryz.ntmps107
    go_wp2
    go_ret
    exact ⟨by simp, by (repeat (first | exact X.refl _ | assumption | refine X.ext ?_ _ | refine X.alloc ?_ _ | refine X.drew ?_))⟩
  cases h3 : st == st'
  · go_enter Tryz.func107, Tryz.ntmps107
    go_wp2
    go_ret
    exact ⟨by simp, by (repeat (first | exact X.refl _ | assumption | refine X.ext ?_ _ | refine X.alloc ?_ _ | refine X.drew ?_))⟩
  cases h6 : decide (nm = nm')
  all_goals
    go_enter Tryz.func107, Tryz.ntmps107
    go_wp2_with (go_at_call 156; refine (eqStringS_c nm nm' _ _ _ _ _ _ _ _ _ (hS.mono (X.fr (by (repeat (first | exact X.refl _ | assumption | refine X.ext ?_ _ | refine X.alloc ?_ _ | refine X.drew ?_))) _)) (hS'.mono (X.fr (by (repeat (first | exact X.refl _ | assumption | refine X.ext ?_ _ | refine X.alloc ?_ _ | refine X.drew ?_))) _))).mono ?_; rintro _ _ ⟨rfl, hx⟩; replace hx := X.trans (a := w) (by (repeat (first | exact X.refl _ | assumption | refine X.ext ?_ _ | refine X.alloc ?_ _ | refine X.drew ?_))) hx; obtain ⟨x, rfl⟩ := hx; rw [h6])
    go_ret
    exact ⟨by simp, by (repeat (first | exact X.refl _ | assumption | refine X.ext ?_ _ | refine X.alloc ?_ _ | refine X.drew ?_))⟩
set_option maxRecDepth 100000 in
set_option maxHeartbeats 1000000 in
theorem eqDirS_c (l m : List Di) (a a' : Option Addr) (n n' c c' B B' : Nat) (w : World) (hL : DirsAt w B a n l) (hM : DirsAt w B' a' n' m) :
    Calls Tryz.prog 49 #[.slice a n c, .slice a' n' c'] w fun e w' => e = .returned (.bool (decide (l = m))) ∧ X w w' := by
  have h1 := hL.len.1
  have h2 := hM.len.1
  have hn := hL.len.2
  have Hl := Lib.hid h1
  have Hm := Lib.hid h2
  by_cases hne : n = n'
  · subst hne
    clear h1 h2
    go_enter Tryz.func49, Tryz.ntmps49
    go_wp2
    go_loopw [5] (fun i wr => ∃ k : Nat, k ≤ n ∧ i = .int .i64 k ∧ allN (fun k => decide (nth l k = nth m k)) k = true ∧ ∃ x, wr = World.ext w x) (fun i _ => n - (intOf i).toNat)
    case atStart => exact ⟨0, by omega, rfl, rfl, X.refl _⟩
    case round =>
      obtain ⟨k, hk, rfl, hall, x, rfl⟩ := hrel
      by_cases hlt : k < n
      · obtain ⟨b, off, ba, bn, bc, rfl, _, hb, _, _, hS, g0, g1, g2, g3⟩ := hL.at_ hlt
        obtain ⟨b', off', ba', bn', bc', rfl, _, hb', _, _, hS', u0, u1, u2, u3⟩ := hM.at_ hlt
        cases hd : decide (nth l k = nth m k)
        all_goals
          go_wp2
          refine wp_region_grow (by kernel_rfl) (by kernel_rfl) ?_
          repeat (go_big_quiet_step (((go_at_call 107; refine grow_of (eqDir_c (nth l k) (nth m k) ba ba' bn bc bn' bc' _ _ _ (hS.mono (X.fr (by (repeat (first | exact X.refl _ | assumption | refine X.ext ?_ _ | refine X.alloc ?_ _ | refine X.drew ?_))) _)) (hS'.mono (X.fr (by (repeat (first | exact X.refl _ | assumption | refine X.ext ?_ _ | refine X.alloc ?_ _ | refine X.drew ?_))) _)))))))
          refine wpQuiet_nil ?_
          rintro _ ⟨y, rfl⟩
          go_wp2
        · go_ret
          have hs : ¬ nth l k = nth m k := of_decide_eq_false hd
          exact ⟨ret_boolW (by rw [decide_eq_false]; intro e; exact hs (by rw [e])), by (repeat (first | exact X.refl _ | assumption | refine X.ext ?_ _ | refine X.alloc ?_ _ | refine X.drew ?_))⟩
        · go_roundw
          case rel => exact ⟨k + 1, by omega, by go_num, allN_next hall hd, _, rfl⟩
          case measure => simp [intOf]; omega
      · obtain rfl : k = n := by omega
        go_wp2
        go_ret
        refine ⟨ret_boolW ?_, by (repeat (first | exact X.refl _ | assumption | refine X.ext ?_ _ | refine X.alloc ?_ _ | refine X.drew ?_))⟩
        rw [decide_eq_true]
        exact nth_ext2 (by rw [← Hl.out, ← Hm.out]) fun j hj => of_decide_eq_true (allN_iff.1 hall j (by rw [Hl.out]; exact hj))
  · go_enter Tryz.func49, Tryz.ntmps49
    go_wp2
    go_ret
    exact ⟨ret_boolW (by rw [decide_eq_false]; intro e; apply hne; rw [h1, h2, e]), by (repeat (first | exact X.refl _ | assumption | refine X.ext ?_ _ | refine X.alloc ?_ _ | refine X.drew ?_))⟩
set_option maxRecDepth 100000 in
set_option maxHeartbeats 1000000 in
/-- Two disks with the same content. -/
theorem eqDisk_c (l : List Fi) (a a' : Option Addr) (n n' c c' : Nat) (kk : Int) (dl : List Di) (da da' : Option Addr) (dn dn' dc dc' B B' : Nat) (w : World) (hL : FilesAt w B a n l) (hM : FilesAt w B' a' n' l) (hD : DirsAt w B da dn dl) (hE : DirsAt w B' da' dn' dl) :
    Calls Tryz.prog 14 #[.agg #[.slice a n c, .int .i64 kk, .slice da dn dc], .agg #[.slice a' n' c', .int .i64 kk, .slice da' dn' dc']] w fun e w' => e = .returned (.bool true) ∧ X w w' := by
  go_enter Tryz.func14, Tryz.ntmps14
  go_wp2_with fail
  refine calls_name (fun W0 hW0 => ?_)
  obtain ⟨hB0, hB1, hX0⟩ := bx2 hW0
  clear hW0
  refine (eqTree_c l l a a' n n' c c' _ _ W0 (hL.mono (hX0.fr _)) (hM.mono (hX0.fr _))).mono ?_
  rintro _ w1 ⟨rfl, hx1⟩
  rw [decide_eq_true (rfl : l = l)]
  have b1 := (hx1.cell (p := ⟨w.heap.size, 1, none⟩) hB0.lt).trans (hB0.out.2.1 1)
  have b2 := (hx1.cell (p := ⟨w.heap.size, 2, none⟩) hB0.lt).trans (hB0.out.2.1 2)
  have c1 := (hx1.cell (p := ⟨w.heap.size + 1, 1, none⟩) hB1.lt).trans (hB1.out.2.1 1)
  have c2 := (hx1.cell (p := ⟨w.heap.size + 1, 2, none⟩) hB1.lt).trans (hB1.out.2.1 2)
  go_wp2_with fail
  refine calls_name (fun W2 hW2 => ?_)
  have hX2 : X w1 W2 := by rw [hW2]; (repeat (first | with_reducible exact X.refl _ | with_reducible assumption | with_reducible refine X.setCell ?_ (by first | (simp; done) | (simp; omega)) _ | with_reducible refine X.ext ?_ _ | with_reducible refine X.alloc ?_ _ | with_reducible refine X.drew ?_))
  clear hW2
  have hXX := (hX0.trans hx1).trans hX2
  refine (eqDirS_c dl dl da da' dn dn' dc dc' _ _ W2 (hD.mono (hXX.fr _)) (hE.mono (hXX.fr _))).mono ?_
  rintro _ w3 ⟨rfl, hx3⟩
  rw [decide_eq_true (rfl : dl = dl)]
  go_wp2
  go_ret
  exact ⟨rfl, hXX.trans hx3⟩

end Go.Proofs.YtgjfjjhmgbemcaaGreatDoor

namespace Go.Proofs.YtgjfjjhmgbemcaaGreatDoor
open Go.RowKit

theorem dcells4 (x : Di × Value) : (dcells x).length = 4 := rfl
theorem info_dir : (Tryz.prog.info? 140).map (fun i => (i.zero, i.size, i.bytes)) = some (some (.agg #[.int .i64 0, .string ⟨#[]⟩, .int .i64 0, .slice none 0 0]), 4, 56) := by kernel_rfl
theorem dir_S : StrT Tryz.prog 140 4 := ⟨⟨_, Tryz.underlying140⟩, by kernel_rfl⟩
theorem disk_S : StrT Tryz.prog 38 3 := ⟨⟨_, Tryz.underlying38⟩, by kernel_rfl⟩
theorem fill4 {A Z : List Value} {o : Nat} (ho : o = A.length) (hz : 4 ≤ Z.length) (v0 v1 v2 v3 : Value) :
    ((((A ++ Z).set o v0).set (o + 1) v1).set (o + 2) v2).set (o + 3) v3 = A ++ ([v0, v1, v2, v3] ++ Z.drop 4) := by
  subst ho
  match Z, hz with
  | a :: b :: c :: d :: Z, _ =>
    have h0 := set_off (A := A) (Z := a :: b :: c :: d :: Z) 0 v0
    rw [Nat.add_zero] at h0
    rw [h0, set_off, set_off, set_off]
    rfl
theorem own_set4 {w : World} {B e size n c g : Nat} {xs : List Value} (h : w.ownsRow B e size (.slice (some ⟨g, 0, none⟩) n c) n xs) (o : Nat) (v0 v1 v2 v3 : Value) :
    ((((w.setCell ⟨g, o, none⟩ v0).setCell ⟨g, o + 1, none⟩ v1).setCell ⟨g, o + 2, none⟩ v2).setCell ⟨g, o + 3, none⟩ v3).ownsRow B e size (.slice (some ⟨g, 0, none⟩) n c) n
      ((((xs.set o v0).set (o + 1) v1).set (o + 2) v2).set (o + 3) v3) := own_set (own_set (own_set (own_set h v0) v1) v2) v3

set_option maxRecDepth 100000 in
set_option maxHeartbeats 1000000 in
theorem toStringS_c (l : List (List UInt8)) (a : Option Addr) (n c B : Nat) (w : World) (hI : StrsAt w B a n l) :
    Calls Tryz.prog 152 #[.slice a n c] w fun e w' => ∃ ra, e = .returned (.slice ra n n) ∧ w'.ownsRow w.heap.size 9 1 (.slice ra n n) n (strs l) ∧ X w w' := by
  have hn := hI.2.1
  have hl := hI.1
  have hmk := fun w => run_make_row' (P := Tryz.prog) 64 9 (.string ⟨#[]⟩) 16 Tryz.underlying64 (by kernel_rfl) rfl .i64 .i64 n (by omega) (by omega) w
  have hz : (madeCells #[.string ⟨#[]⟩] n).toList.length = l.length * 1 := by rw [Array.length_toList, size_madeCells, Nat.mul_one]; exact hI.1
  have hX0 : X w (w.alloc (.cells (madeCells #[.string ⟨#[]⟩] n) 9)) := (X.refl w).alloc _
  have hO0 : (w.alloc (.cells (madeCells #[.string ⟨#[]⟩] n) 9)).ownsRow w.heap.size 9 1 (.slice (some ⟨w.heap.size, 0, none⟩) n n) n (madeCells #[.string ⟨#[]⟩] n).toList := World.ownsRow_lit w _ n (Nat.le_refl _) (by unfold maxLen; omega) (by rw [size_madeCells, Nat.mul_one])
  have Hl := Lib.hid hl
  clear hl
  have Hz := Lib.hid hz
  clear hz
  generalize hC : madeCells #[.string ⟨#[]⟩] n = C at *
  clear hC
  go_enter Tryz.func152, Tryz.ntmps152
  go_wp2
  go_loopw [4] (fun i wr => ∃ k : Nat, k ≤ n ∧ i = .int .i64 k ∧ X w wr ∧ wr.ownsRow w.heap.size 9 1 (.slice (some ⟨w.heap.size, 0, none⟩) n n) n (mixR (fun x => [.string ⟨(x).toArray⟩]) 1 l C.toList k)) (fun i _ => n - (intOf i).toNat)
  case atStart => exact ⟨0, Nat.zero_le _, rfl, hX0, by rw [mixR_zero]; exact hO0⟩
  case round =>
    obtain ⟨k, hk, rfl, hX, hO⟩ := hrel
    clear hX0 hO0 hmk
    by_cases hlt : k < n
    · obtain ⟨b, off, rfl, _, hb, hc, _⟩ := (hI.mono (hX.fr _)).at_ hlt
      obtain ⟨u, hu⟩ := own_here hO (j := k) (by omega)
      have hfz := hO.frozenAt k
      have hg := (hO.lt w.heap.size rfl).2
      have hne : w.heap.size ≠ b ∨ True := .inr trivial
      go_wp2
      go_roundw
      case rel => exact ⟨k + 1, by omega, by go_num, X.setCell hX (Nat.le_refl _) _, by
        have := own_set hO (k := k) (.string ⟨(nth l k).toArray⟩)
        rw [show (mixR (fun x => [.string ⟨(x).toArray⟩]) 1 l C.toList k).set k (.string ⟨(nth l k).toArray⟩) = mixR (fun x => [.string ⟨(x).toArray⟩]) 1 l C.toList (k + 1) from by
          have h2 := mix_set1 (g := fun x => [.string ⟨(x).toArray⟩]) (fun _ => rfl) Hz.out (k := k) (by rw [← Hl.out]; exact hlt) (.string ⟨(nth l k).toArray⟩) rfl
          rwa [Nat.mul_one] at h2] at this
        exact this⟩
      case measure => simp [intOf]; omega
    · obtain rfl : k = n := by omega
      go_wp2
      go_ret
      refine ⟨_, rfl, ?_, hX⟩
      rw [Hl.out, mixR_all Hz.out] at hO
      rw [Hl.out]
      exact hO

set_option maxRecDepth 100000 in
set_option maxHeartbeats 1000000 in
theorem toDir_c (f : Di) (ba : Option Addr) (bn bc B : Nat) (w : World) (hS : StrsAt w B ba bn f.names) :
    Calls Tryz.prog 100 #[.agg #[.int .i64 (f).root, .string ⟨(f).pkg.toArray⟩, .int .i64 (f).stamp, .slice ba bn bc]] w fun e w' => ∃ ra, e = .returned (.agg #[.int .i64 (f).root, .string ⟨(f).pkg.toArray⟩, .int .i64 (f).stamp, .slice ra bn bn]) ∧ w'.ownsRow w.heap.size 9 1 (.slice ra bn bn) bn (strs f.names) ∧ X w w' := by
  go_enter Tryz.func100, Tryz.ntmps100
  go_wp2_with fail
  refine calls_name (fun W hW => ?_)
  obtain ⟨_, hR, hT, hX0⟩ := bx3 hW
  have hsz : W.heap.size = w.heap.size + 3 := by rw [hW]; simp
  clear hW
  refine (toStringS_c f.names ba bn bc _ W (hS.mono (hX0.fr _))).mono ?_
  rintro _ w3 ⟨ra, rfl, hO, hX3⟩
  have hXw := hX0.trans hX3
  replace hR := hR.x hX3
  replace hT := hT.x hX3
  obtain ⟨hbR, hcR, hfR⟩ := hR.out
  obtain ⟨hbT, hcT, hfT⟩ := hT.out
  have r0 := hcR 0
  have r1 := hcR 1
  have r2 := hcR 2
  have r3 := hcR 3
  have t0 := hcT 0
  have t1 := hcT 1
  have t2 := hcT 2
  have t3 := hcT 3
  clear hcR hcT
  go_wp2
  refine bodyPost_row Tryz.results100 rfl (Bx.set (Bx.set (Bx.set (Bx.set (Bx.far hR (by simp) _) 0 _) 1 _) 2 _) 3 _) dir_S rfl rfl ?_
  refine ⟨ra, rfl, own_less (own_fr hO (by (repeat (first | with_reducible exact Fr.refl _ _ | with_reducible assumption | with_reducible refine Fr.set ?_ (.inr (by first | (simp; done) | (simp; omega))) _)))) (by omega), by (repeat (first | with_reducible exact X.refl _ | with_reducible assumption | with_reducible refine X.setCell ?_ (by first | (simp; done) | (simp; omega)) _ | with_reducible refine X.ext ?_ _ | with_reducible refine X.alloc ?_ _ | with_reducible refine X.drew ?_))⟩

/-- No two lists of names lie in one block. -/
def SepD (vs : List (Di × Value)) : Prop := vs.Pairwise fun x y => x.2.ownBlock = none ∨ y.2.ownBlock = none ∨ y.2.ownBlock ≠ x.2.ownBlock
/-- Directories that the call itself has made: the table and each body is a row of its own. -/
def DirsO (w : World) (B : Nat) (a : Option Addr) (n c : Nat) (l : List Di) : Prop :=
  ∃ vs : List (Di × Value), l = vs.map (·.1) ∧ n = l.length ∧ w.ownsRow B 140 4 (.slice a n c) n (vs.flatMap dcells) ∧ SepD vs ∧
    ∀ x ∈ vs, ∃ ba bc, x.2 = .slice ba x.1.names.length bc ∧ w.ownsRow B 9 1 (.slice ba x.1.names.length bc) x.1.names.length (strs x.1.names)
theorem DirsO.fr {w w' : World} {B n c : Nat} {a : Option Addr} {l : List Di} (h : DirsO w B a n c l) (hx : Fr B w w') : DirsO w' B a n c l := by
  obtain ⟨vs, e, h1, h2, hs, h3⟩ := h
  exact ⟨vs, e, h1, own_fr h2 hx, hs, fun x hm => let ⟨ba, bc, e, ho⟩ := h3 x hm; ⟨ba, bc, e, own_fr ho hx⟩⟩
theorem DirsO.less {w : World} {B B' n c : Nat} {a : Option Addr} {l : List Di} (h : DirsO w B a n c l) (hB : B' ≤ B) : DirsO w B' a n c l := by
  obtain ⟨vs, e, h1, h2, hs, h3⟩ := h
  exact ⟨vs, e, h1, own_less h2 hB, hs, fun x hm => let ⟨ba, bc, e, ho⟩ := h3 x hm; ⟨ba, bc, e, own_less ho hB⟩⟩
/-- No text of the directories is too long. -/
def OkD (l : List Di) : Prop := l.length ≤ 2097152 ∧ ∀ f ∈ l, f.pkg.length ≤ 1048576 ∧ f.names.length ≤ 8388608 ∧ ∀ s ∈ f.names, s.length ≤ 4194304
theorem DirsAt.okD {w : World} {B n : Nat} {a : Option Addr} {l : List Di} (h : DirsAt w B a n l) : OkD l := by
  obtain ⟨vs, e, h1, h2, h3, _, h5⟩ := h
  refine ⟨by omega, fun f hf => ⟨h3 f hf, ?_⟩⟩
  rw [e] at hf
  obtain ⟨x, hx, rfl⟩ := List.mem_map.1 hf
  obtain ⟨ba, bn, bc, _, _, hS⟩ := h5 x hx
  exact ⟨by have := hS.1; have := hS.2.1; omega, hS.2.2.1⟩
theorem DirsO.at {w : World} {B n c : Nat} {a : Option Addr} {l : List Di} (h : DirsO w B a n c l) (hk : OkD l) : DirsAt w B a n l := by
  obtain ⟨vs, e, h1, h2, _, h3⟩ := h
  refine ⟨vs, e, h1, by have := hk.1; omega, fun f hf => (hk.2 f hf).1, Sl.of_own h2, fun x hx => ?_⟩
  obtain ⟨ba, bc, e2, ho⟩ := h3 x hx
  have hm : x.1 ∈ l := by rw [e]; exact List.mem_map.2 ⟨x, hx, rfl⟩
  exact ⟨ba, _, bc, e2, own_cap ho, rfl, (hk.2 _ hm).2.1, (hk.2 _ hm).2.2, Sl.of_own ho⟩

set_option maxRecDepth 100000 in
set_option maxHeartbeats 1000000 in
theorem toDirS_c (l : List Di) (a : Option Addr) (n c B : Nat) (w : World) (hF : DirsAt w B a n l) :
    Calls Tryz.prog 44 #[.slice a n c] w fun e w' => ∃ ra, e = .returned (.slice ra n n) ∧ DirsO w' w.heap.size ra n n l ∧ X w w' := by
  obtain ⟨hl, hn⟩ := hF.len
  obtain ⟨i0, hi, hz0, hz1, hz2⟩ := info_parts info_dir
  have hz : (madeCells (Value.agg #[.int .i64 0, .string ⟨#[]⟩, .int .i64 0, .slice none 0 0]).cells (n * 4)).toList.length = n * 4 := by rw [Array.length_toList, size_madeCells]
  have Hz := Lib.hid hz
  have Hl := Lib.hid hl
  clear hl hz
  generalize hZ : (madeCells (Value.agg #[.int .i64 0, .string ⟨#[]⟩, .int .i64 0, .slice none 0 0]).cells (n * 4)).toList = Z at *
  go_enter Tryz.func44, Tryz.ntmps44
  go_wp2_with (at_make; refine wpList_make_full _ rfl _ _ 36 rfl w.heap.size 140 i0 (.agg #[.int .i64 0, .string ⟨#[]⟩, .int .i64 0, .slice none 0 0]) 4 Tryz.underlying36 hi hz0 hz1 _ _ _ _ n rfl rfl rfl rfl (by rw [hz2]; omega) (by unfold maxLen; omega) (Nat.le_refl _) ?_; intro w1 hO1 hg1; rw [hZ] at hO1; clear hZ)
  have hX0 : X w w1 := X.of_grown hg1
  clear hg1
  go_loopw [4] (fun i wr => ∃ (k : Nat) (vs : List (Di × Value)), k ≤ n ∧ i = .int .i64 k ∧ X w wr ∧ vs.map (·.1) = l.take k ∧ wr.ownsRow w.heap.size 140 4 (.slice (some ⟨w.heap.size, 0, none⟩) n n) n (vs.flatMap dcells ++ Z.drop (k * 4)) ∧ SepD vs ∧
    ∀ x ∈ vs, ∃ ba bc, x.2 = .slice ba x.1.names.length bc ∧ wr.ownsRow w.heap.size 9 1 (.slice ba x.1.names.length bc) x.1.names.length (strs x.1.names)) (fun i _ => n - (intOf i).toNat)
  case atStart => exact ⟨0, [], Nat.zero_le _, rfl, hX0, rfl, by rw [Nat.zero_mul]; exact hO1, List.Pairwise.nil, fun _ h => by cases h⟩
  case round =>
    obtain ⟨k, vs, hk, rfl, hX, hvs, hO, hsep, hbd⟩ := hrel
    have Hsep := Lib.hid hsep
    clear hsep
    clear hX0 hO1
    have Hvs := Lib.hid hvs
    clear hvs
    have Hbd := Lib.hid hbd
    clear hbd
    have hvl : vs.length = k := by have := congrArg List.length Hvs.out; rw [List.length_map, List.length_take, ← Hl.out] at this; omega
    have Hvl := Lib.hid hvl
    clear hvl
    by_cases hlt : k < n
    · obtain ⟨b, off, ba, bn, bc, rfl, _, hb, hok, hbc, hSb, g0, g1, g2, g3⟩ := (hF.mono (hX.fr _)).at_ hlt
      have hbn := hSb.1
      have Hbn := Lib.hid hbn
      clear hbn
      go_wp2_with (go_at_call 100; refine (toDir_c (nth l k) ba bn bc _ _ hSb).mono ?_; rintro _ w3 ⟨ra, rfl, hOb, hx3⟩; have hO3 := own_fr hO (hx3.fr _); have hX3 := hX.trans hx3; have hg3 := (hO3.lt w.heap.size rfl).2; have hf0 := (hO3).frozenAt (k * 4); obtain ⟨u0, hu0⟩ := own_here hO3 (j := k * 4) (by omega); have hf1 := (hO3).frozenAt (k * 4 + 1); obtain ⟨u1, hu1⟩ := own_here hO3 (j := k * 4 + 1) (by omega); have hf2 := (hO3).frozenAt (k * 4 + 2); obtain ⟨u2, hu2⟩ := own_here hO3 (j := k * 4 + 2) (by omega); have hf3 := (hO3).frozenAt (k * 4 + 3); obtain ⟨u3, hu3⟩ := own_here hO3 (j := k * 4 + 3) (by omega))
      have hgr : ∀ v0 v1 v2 v3, w3.grownBy ((((w3.setCell ⟨w.heap.size, k * 4, none⟩ v0).setCell ⟨w.heap.size, k * 4 + 1, none⟩ v1).setCell ⟨w.heap.size, k * 4 + 2, none⟩ v2).setCell ⟨w.heap.size, k * 4 + 3, none⟩ v3) (some w.heap.size) :=
        fun v0 v1 v2 v3 => grown_next (grown_next (grown_next (grown_set _ _ _) _ _) _ _) _ _
      obtain ⟨cs3, hb3⟩ := own_block hO3
      go_roundw
      case rel => exact ⟨k + 1, vs ++ [(nth l k, .slice ra bn bn)], by omega, by go_num, by (repeat (first | with_reducible exact X.refl _ | with_reducible assumption | with_reducible refine X.setCell ?_ (by first | (simp; done) | (simp; omega)) _ | with_reducible refine X.ext ?_ _ | with_reducible refine X.alloc ?_ _ | with_reducible refine X.drew ?_)), by rw [List.map_append, Hvs.out, take_succ_nth (by rw [← Hl.out]; exact hlt)]; rfl, by
          have h6 := own_set4 hO3 (k * 4) (.int .i64 (nth l k).root) (.string ⟨((nth l k).pkg).toArray⟩) (.int .i64 (nth l k).stamp) (.slice ra bn bn)
          rw [fill4 (by rw [flat_length 4 dcells dcells4, Hvl.out]) (left_len Hz.out hlt), List.drop_drop] at h6
          rw [List.flatMap_append, List.append_assoc, Nat.succ_mul]
          exact h6, List.pairwise_append.2 ⟨Hsep.out, List.pairwise_singleton _ _, fun x hx y hy => by
            rw [List.mem_singleton.1 hy]
            obtain ⟨ba', bc', e, ho⟩ := Hbd.out x hx
            rw [e]
            exact row_far ho rfl hOb⟩, fun x hx => by
          rcases List.mem_append.1 hx with hx | hx
          · obtain ⟨ba', bc', e, ho⟩ := Hbd.out x hx
            have ho3 := own_fr ho (hx3.fr _)
            exact ⟨ba', bc', e, ho3.kept (hgr _ _ _ _) (.inr (own_ne_at ho3 hb3 (by decide)))⟩
          · rw [List.mem_singleton.1 hx]
            have ho3 := own_less hOb hX.size
            rw [Hbn.out] at ho3 ⊢
            exact ⟨ra, _, rfl, ho3.kept (hgr _ _ _ _) (.inr (own_ne_at ho3 hb3 (by decide)))⟩⟩
      case measure => simp [intOf]; omega
    · obtain rfl : k = n := by omega
      go_wp2
      go_ret
      refine ⟨_, rfl, ⟨vs, by rw [Hvs.out, List.take_of_length_le (by rw [← Hl.out]; omega)], Hl.out, ?_, Hsep.out, Hbd.out⟩, hX⟩
      rw [List.drop_eq_nil_of_le (by rw [Hz.out]; omega), List.append_nil] at hO
      exact hO

set_option maxRecDepth 100000 in
set_option maxHeartbeats 1000000 in
theorem toDisk_c (l : List Fi) (a : Option Addr) (n c : Nat) (kk : Int) (dl : List Di) (da : Option Addr) (dn dc B : Nat) (w : World) (hF : FilesAt w B a n l) (hD : DirsAt w B da dn dl) :
    Calls Tryz.prog 11 #[.agg #[.slice a n c, .int .i64 kk, .slice da dn dc]] w fun e w' => ∃ ra rd, e = .returned (.agg #[.slice ra n n, .int .i64 kk, .slice rd dn dn]) ∧ FilesO w' w.heap.size ra n n l ∧ DirsO w' w.heap.size rd dn dn dl ∧ X w w' := by
  go_enter Tryz.func11, Tryz.ntmps11
  go_wp2_with fail
  refine calls_name (fun W hW => ?_)
  obtain ⟨hA, hR, hT, hX0⟩ := bx3 hW
  have hsz : W.heap.size = w.heap.size + 3 := by rw [hW]; simp
  clear hW
  refine (toTree_c l a n c B W (hF.mono (hX0.fr _))).mono ?_
  rintro _ w3 ⟨ra, rfl, hO, hX3⟩
  have hXw := hX0.trans hX3
  replace hA := hA.x hX3
  replace hR := hR.x hX3
  replace hT := hT.x hX3
  obtain ⟨hbA, hcA, hfA⟩ := hA.out
  obtain ⟨hbT, hcT, hfT⟩ := hT.out
  have a1 := hcA 1
  have a2 := hcA 2
  have t0 := hcT 0
  have t1 := hcT 1
  clear hcA hcT
  go_wp2_with fail
  refine calls_name (fun W4 hW4 => ?_)
  have hT4 : Bx W4 (w.heap.size + 2) #[.slice ra n n, .int .i64 kk, .slice none 0 0] := by rw [hW4]; exact Bx.set (Bx.set hT 0 _) 1 _
  have hR4 : Bx W4 (w.heap.size + 1) #[.slice none 0 0, .int .i64 0, .slice none 0 0] := by rw [hW4]; exact Bx.far (Bx.far hR (by simp) _) (by simp) _
  have hX4 : X w W4 := by rw [hW4]; (repeat (first | with_reducible exact X.refl _ | with_reducible assumption | with_reducible refine X.setCell ?_ (by first | (simp; done) | (simp; omega)) _ | with_reducible refine X.ext ?_ _ | with_reducible refine X.alloc ?_ _ | with_reducible refine X.drew ?_))
  have hO4 := hO.fr (w' := W4) (by rw [hW4]; (repeat (first | with_reducible exact Fr.refl _ _ | with_reducible assumption | with_reducible refine Fr.set ?_ (.inr (by first | (simp; done) | (simp; omega))) _)))
  have hs4 : w3.heap.size ≤ W4.heap.size := by rw [hW4]; simp [World.setCell]
  have hs3 := hX3.size
  clear hW4
  refine (toDirS_c dl da dn dc B W4 (hD.mono (hX4.fr _))).mono ?_
  rintro _ w5 ⟨rd, rfl, hQ, hX5⟩
  have hXz := hX4.trans hX5
  replace hR4 := hR4.x hX5
  replace hT4 := hT4.x hX5
  replace hO4 := hO4.fr (hX5.fr _)
  obtain ⟨hbR, hcR, hfR⟩ := hR4.out
  obtain ⟨hbT, hcT, hfT⟩ := hT4.out
  have r0 := hcR 0
  have r1 := hcR 1
  have r2 := hcR 2
  have t0 := hcT 0
  have t1 := hcT 1
  have t2 := hcT 2
  clear hcR hcT
  go_wp2
  refine bodyPost_row Tryz.results11 rfl (Bx.set (Bx.set (Bx.set (Bx.far hR4 (by simp) _) 0 _) 1 _) 2 _) disk_S rfl rfl ?_
  exact ⟨ra, rd, rfl, (hO4.fr (by (repeat (first | with_reducible exact Fr.refl _ _ | with_reducible assumption | with_reducible refine Fr.set ?_ (.inr (by first | (simp; done) | (simp; omega))) _)))).less (by omega), (hQ.fr (by (repeat (first | with_reducible exact Fr.refl _ _ | with_reducible assumption | with_reducible refine Fr.set ?_ (.inr (by first | (simp; done) | (simp; omega))) _)))).less (by omega), by (repeat (first | with_reducible exact X.refl _ | with_reducible assumption | with_reducible refine X.setCell ?_ (by first | (simp; done) | (simp; omega)) _ | with_reducible refine X.ext ?_ _ | with_reducible refine X.alloc ?_ _ | with_reducible refine X.drew ?_))⟩

end Go.Proofs.YtgjfjjhmgbemcaaGreatDoor

namespace Go.Proofs.YtgjfjjhmgbemcaaGreatDoor
open Go.RowKit

theorem dcells_4 (x : Di × Value) : (dcells x).length = 4 := rfl
theorem flat_setD : ∀ {vs : List (Di × Value)} {k j : Nat} {u : Value} {y : Di × Value} (hk : k < vs.length), j < 4 → dcells y = (dcells vs[k]).set j u → (vs.flatMap dcells).set (k * 4 + j) u = (vs.set k y).flatMap dcells
  | [], k, j, u, y, hk, _, _ => absurd hk (by simp)
  | x :: vs, 0, j, u, y, hk, hj, h => by
    rw [List.flatMap_cons, List.set_cons_zero, List.flatMap_cons, List.set_append_left _ _ (by rw [dcells_4]; omega)]
    rw [h, Nat.zero_mul, Nat.zero_add]
    rfl
  | x :: vs, k + 1, j, u, y, hk, hj, h => by
    rw [List.flatMap_cons, List.set_cons_succ, List.flatMap_cons, List.set_append_right _ _ (by rw [dcells_4]; omega)]
    congr 1
    rw [dcells_4, show (k + 1) * 4 + j - 4 = k * 4 + j by omega]
    exact flat_setD (by simpa using hk) hj (by simpa using h)
theorem sep_sameD : ∀ {vs : List (Di × Value)} {k : Nat} {y : Di × Value} (hk : k < vs.length), y.2 = vs[k].2 → SepD vs → SepD (vs.set k y)
  | [], k, y, hk, _, _ => absurd hk (by simp)
  | x :: vs, 0, y, hk, h, hs => by
    unfold SepD at hs ⊢
    rw [List.set_cons_zero, List.pairwise_cons]
    rw [List.pairwise_cons] at hs
    refine ⟨fun z hz => ?_, hs.2⟩
    have h2 : y.2 = x.2 := h
    rw [h2]
    exact hs.1 z hz
  | x :: vs, k + 1, y, hk, h, hs => by
    unfold SepD at hs ⊢
    rw [List.set_cons_succ, List.pairwise_cons]
    rw [List.pairwise_cons] at hs
    refine ⟨fun z hz => ?_, sep_sameD (by simpa using hk) (by simpa using h) hs.2⟩
    rcases List.mem_or_eq_of_mem_set hz with hz | rfl
    · exact hs.1 z hz
    · have hk2 : k < vs.length := by simpa using hk
      have := hs.1 vs[k] (List.getElem_mem _)
      have h2 : z.2 = vs[k].2 := by simpa using h
      rw [h2]
      exact this
theorem map_set_fstD {vs : List (Di × Value)} {k : Nat} {y : Di × Value} : (vs.set k y).map (·.1) = (vs.map (·.1)).set k y.1 := List.map_set ..
theorem nth_fstD {vs : List (Di × Value)} {k : Nat} (hk : k < vs.length) : nth (vs.map (·.1)) k = vs[k].1 := by
  rw [nth_eq (by rw [List.length_map]; exact hk), List.getElem_map]
/-- The stamp is stored. -/
theorem dirsO_stamp {w : World} {B g n c k : Nat} {st : Int} {l : List Di} (h : DirsO w B (some ⟨g, 0, none⟩) n c l) (hk : k < n) :
    DirsO (w.setCell ⟨g, k * 4 + 2, none⟩ (.int .i64 st)) B (some ⟨g, 0, none⟩) n c (l.set k { nth l k with stamp := st }) := by
  obtain ⟨vs, e, h1, h2, hs, h3⟩ := h
  have hkv : k < vs.length := by rw [h1, e, List.length_map] at hk; exact hk
  obtain ⟨cs, hb⟩ := own_block h2
  refine ⟨vs.set k ({ vs[k].1 with stamp := st }, vs[k].2), ?_, by rw [List.length_set]; exact h1, ?_, sep_sameD hkv rfl hs, fun x hx => ?_⟩
  · rw [map_set_fstD, ← e]
    congr 2
    rw [e, nth_fstD hkv]
  · rw [← flat_setD hkv (show 2 < 4 by omega) (u := .int .i64 st) rfl]
    exact own_set h2 _
  · have key : ∃ ba bc, x.2 = .slice ba x.1.names.length bc ∧ w.ownsRow B 9 1 (.slice ba x.1.names.length bc) x.1.names.length (strs x.1.names) := by
      rcases List.mem_or_eq_of_mem_set hx with hx | rfl
      · exact h3 x hx
      · exact h3 vs[k] (List.getElem_mem _)
    obtain ⟨ba, bc, e1, ho⟩ := key
    exact ⟨ba, bc, e1, own_set_far ho hb (by decide) _ _⟩

end Go.Proofs.YtgjfjjhmgbemcaaGreatDoor
