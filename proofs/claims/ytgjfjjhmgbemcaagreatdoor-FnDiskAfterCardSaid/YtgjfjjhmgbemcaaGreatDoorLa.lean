/- Several texts in one: Dir, DirW, DirT, DirSet. No condition but lengths. -/
import Derived.Test.YtgjfjjhmgbemcaaGreatDoorIa
import Derived.Test.YtgjfjjhmgbemcaaGreatDoorProg
namespace Go.Proofs.YtgjfjjhmgbemcaaGreatDoor
open Go.ChangeShapes Go.WideShapes Go.ChangeAt Go.RowKit Go.Deep

structure Di where
  root : Int
  pkg : List UInt8
  stamp : Int
  names : List (List UInt8)
deriving DecidableEq, Inhabited
def dcells (x : Di × Value) : List Value := [.int .i64 x.1.root, .string ⟨(x.1.pkg).toArray⟩, .int .i64 x.1.stamp, x.2]
instance : Inhabited (Di × Value) := ⟨(default, undef)⟩
/-- Texts, directories, of whatever length. -/
def StrsR (w : World) (a : Option Addr) (n : Nat) (l : List (List UInt8)) : Prop := n = l.length ∧ n ≤ maxLen ∧ (∀ s ∈ l, s.length ≤ maxLen) ∧ Sl w 0 a n (strs l)
def DirsR (w : World) (a : Option Addr) (n : Nat) (l : List Di) : Prop :=
  ∃ vs : List (Di × Value), l = vs.map (·.1) ∧ n = l.length ∧ n ≤ maxLen ∧ (∀ d ∈ l, d.pkg.length ≤ maxLen) ∧ Sl w 0 a n (vs.flatMap dcells) ∧
    ∀ x ∈ vs, ∃ ba bn bc, x.2 = .slice ba bn bc ∧ bn ≤ bc ∧ StrsR w ba bn x.1.names
def DirsAt (w : World) (B : Nat) (a : Option Addr) (n : Nat) (l : List Di) : Prop :=
  ∃ vs : List (Di × Value), l = vs.map (·.1) ∧ n = l.length ∧ n ≤ 2097152 ∧ (∀ d ∈ l, d.pkg.length ≤ 1048576) ∧ Sl w B a n (vs.flatMap dcells) ∧
    ∀ x ∈ vs, ∃ ba bn bc, x.2 = .slice ba bn bc ∧ bn ≤ bc ∧ StrsAt w B ba bn x.1.names
theorem StrsR.mono {w w' : World} {a : Option Addr} {n : Nat} {l : List (List UInt8)} (h : StrsR w a n l) (hx : X w w') : StrsR w' a n l := ⟨h.1, h.2.1, h.2.2.1, h.2.2.2.mono (hx.fr _)⟩
theorem StrsR.at_ {w : World} {a : Option Addr} {n : Nat} {l : List (List UInt8)} (h : StrsR w a n l) {k : Nat} (hk : k < n) :
    ∃ b off, a = some ⟨b, off, none⟩ ∧ b < w.heap.size ∧ w.cell? ⟨b, off + k, none⟩ = some (.string ⟨(nth l k).toArray⟩) ∧ (nth l k).length ≤ maxLen := by
  obtain ⟨b, off, ha, hB, hb, hc⟩ := h.2.2.2.elem (s := 1) (fun _ => rfl) h.1 hk
  refine ⟨b, off, ha, hb, ?_, h.2.2.1 _ (nth_mem (by have := h.1; omega))⟩
  have := hc 0 (by omega)
  rw [Nat.mul_one, Nat.add_zero] at this
  exact this
theorem DirsR.mono {w w' : World} {a : Option Addr} {n : Nat} {l : List Di} (h : DirsR w a n l) (hx : X w w') : DirsR w' a n l := by
  obtain ⟨vs, e, h1, h2, h3, h4, h5⟩ := h
  exact ⟨vs, e, h1, h2, h3, h4.mono (hx.fr _), fun x hm => let ⟨ba, bn, bc, e, hc, hs⟩ := h5 x hm; ⟨ba, bn, bc, e, hc, hs.mono hx⟩⟩
theorem DirsAt.mono {w w' : World} {B : Nat} {a : Option Addr} {n : Nat} {l : List Di} (h : DirsAt w B a n l) (hx : Fr B w w') : DirsAt w' B a n l := by
  obtain ⟨vs, h0, h1, h2, h3, h4, h5⟩ := h
  exact ⟨vs, h0, h1, h2, h3, h4.mono hx, fun x hm => let ⟨ba, bn, bc, e, hc, hs⟩ := h5 x hm; ⟨ba, bn, bc, e, hc, hs.mono hx⟩⟩
theorem DirsAt.less {w : World} {B B' : Nat} {a : Option Addr} {n : Nat} {l : List Di} (h : DirsAt w B a n l) (hB : B' ≤ B) : DirsAt w B' a n l := by
  obtain ⟨vs, h0, h1, h2, h3, h4, h5⟩ := h
  exact ⟨vs, h0, h1, h2, h3, h4.less hB, fun x hm => let ⟨ba, bn, bc, e, hc, hs⟩ := h5 x hm; ⟨ba, bn, bc, e, hc, hs.less hB⟩⟩
theorem DirsAt.len {w : World} {B : Nat} {a : Option Addr} {n : Nat} {l : List Di} (h : DirsAt w B a n l) : n = l.length ∧ n ≤ 2097152 := by
  obtain ⟨vs, _, h1, h2, _⟩ := h; exact ⟨h1, h2⟩
theorem nth_map_fstD {vs : List (Di × Value)} {k : Nat} (hk : k < vs.length) : nth (vs.map (·.1)) k = (nth vs k).1 := by
  rw [nth_eq (by simpa using hk), nth_eq hk, List.getElem_map]
theorem DirsR.at_ {w : World} {a : Option Addr} {n : Nat} {l : List Di} (h : DirsR w a n l) {k : Nat} (hk : k < n) :
    ∃ b off ba bn bc, a = some ⟨b, off, none⟩ ∧ b < w.heap.size ∧ (nth l k).pkg.length ≤ maxLen ∧ bn ≤ bc ∧ StrsR w ba bn (nth l k).names ∧
      w.cell? ⟨b, off + k * 4, none⟩ = some (.int .i64 (nth l k).root) ∧ w.cell? ⟨b, off + k * 4 + 1, none⟩ = some (.string ⟨((nth l k).pkg).toArray⟩) ∧ w.cell? ⟨b, off + k * 4 + 2, none⟩ = some (.int .i64 (nth l k).stamp) ∧ w.cell? ⟨b, off + k * 4 + 3, none⟩ = some (.slice ba bn bc) := by
  obtain ⟨vs, rfl, h1, h2, h3, h4, h5⟩ := h
  have hl : k < vs.length := by simpa [h1] using hk
  obtain ⟨b, off, ha, _, hb, hc⟩ := h4.elem (s := 4) (fun _ => rfl) (by simpa using h1) hk
  obtain ⟨ba, bn, bc, e, hbc, hS⟩ := h5 _ (nth_mem hl)
  have hm := h3 _ (List.mem_map.2 ⟨nth vs k, nth_mem hl, rfl⟩)
  rw [nth_map_fstD hl]
  have c3 : w.cell? ⟨b, off + (k * 4 + 3), none⟩ = some (nth vs k).2 := hc 3 (by omega)
  rw [e] at c3
  exact ⟨b, off, ba, bn, bc, ha, hb, hm, hbc, hS, hc 0 (by omega), hc 1 (by omega), hc 2 (by omega), c3⟩
theorem DirsAt.at_ {w : World} {B : Nat} {a : Option Addr} {n : Nat} {l : List Di} (h : DirsAt w B a n l) {k : Nat} (hk : k < n) :
    ∃ b off ba bn bc, a = some ⟨b, off, none⟩ ∧ B ≤ b ∧ b < w.heap.size ∧ (nth l k).pkg.length ≤ 1048576 ∧ bn ≤ bc ∧ StrsAt w B ba bn (nth l k).names ∧
      w.cell? ⟨b, off + k * 4, none⟩ = some (.int .i64 (nth l k).root) ∧ w.cell? ⟨b, off + k * 4 + 1, none⟩ = some (.string ⟨((nth l k).pkg).toArray⟩) ∧ w.cell? ⟨b, off + k * 4 + 2, none⟩ = some (.int .i64 (nth l k).stamp) ∧ w.cell? ⟨b, off + k * 4 + 3, none⟩ = some (.slice ba bn bc) := by
  obtain ⟨vs, rfl, h1, h2, h3, h4, h5⟩ := h
  have hl : k < vs.length := by simpa [h1] using hk
  obtain ⟨b, off, ha, hB, hb, hc⟩ := h4.elem (s := 4) (fun _ => rfl) (by simpa using h1) hk
  obtain ⟨ba, bn, bc, e, hbc, hS⟩ := h5 _ (nth_mem hl)
  have hm := h3 _ (List.mem_map.2 ⟨nth vs k, nth_mem hl, rfl⟩)
  rw [nth_map_fstD hl]
  have c3 : w.cell? ⟨b, off + (k * 4 + 3), none⟩ = some (nth vs k).2 := hc 3 (by omega)
  rw [e] at c3
  exact ⟨b, off, ba, bn, bc, ha, hB, hb, hm, hbc, hS, hc 0 (by omega), hc 1 (by omega), hc 2 (by omega), c3⟩

/-! ### Sizes -/
def szStr (s : List UInt8) (n : Int) : Int := if n - (s.length : Int) < 0 then -1 else n - (s.length : Int)
def szStrs (l : List (List UInt8)) (n : Int) : Int := if n - (l.length : Int) < 0 then -1 else szL szStr l (n - (l.length : Int))
def szDi (d : Di) (n : Int) : Int := if n - (d.pkg.length : Int) < 0 then -1 else szStrs d.names (n - (d.pkg.length : Int))
def szDis (l : List Di) (n : Int) : Int := if n - (l.length : Int) < 0 then -1 else szL szDi l (n - (l.length : Int))
theorem szStr_le (s : List UInt8) (n : Int) (h : 0 ≤ szStr s n) : szStr s n ≤ n := by
  unfold szStr at h ⊢
  split at h <;> rename_i h1
  · omega
  · rw [if_neg h1]; omega
theorem szStrs_le (l : List (List UInt8)) (n : Int) (h : 0 ≤ szStrs l n) : szStrs l n ≤ n := by
  unfold szStrs at h ⊢
  split at h <;> rename_i h1
  · omega
  · rw [if_neg h1]
    have := (szL_le szStr_le h).1
    omega
theorem szStrs_ok {l : List (List UInt8)} {n : Int} (h : 0 ≤ szStrs l n) : (l.length : Int) ≤ n ∧ ∀ s ∈ l, (s.length : Int) ≤ n := by
  unfold szStrs at h
  split at h <;> rename_i h1
  · omega
  · refine ⟨by omega, fun s hs => ?_⟩
    obtain ⟨m, hm, h2⟩ := (szL_le szStr_le h).2 s hs
    unfold szStr at h2
    split at h2 <;> omega
theorem szDi_le (d : Di) (n : Int) (h : 0 ≤ szDi d n) : szDi d n ≤ n := by
  unfold szDi at h ⊢
  split at h <;> rename_i h1
  · omega
  · rw [if_neg h1]
    have := szStrs_le _ _ h
    omega
theorem szDis_ok {l : List Di} {n : Int} (h : 0 ≤ szDis l n) : (l.length : Int) ≤ n ∧ ∀ d ∈ l, (d.pkg.length : Int) ≤ n ∧ (d.names.length : Int) ≤ n ∧ ∀ s ∈ d.names, (s.length : Int) ≤ n := by
  unfold szDis at h
  split at h <;> rename_i h1
  · omega
  · refine ⟨by omega, fun d hd => ?_⟩
    obtain ⟨m, hm, h2⟩ := (szL_le szDi_le h).2 d hd
    unfold szDi at h2
    split at h2 <;> rename_i h3
    · omega
    · obtain ⟨h4, h5⟩ := szStrs_ok h2
      exact ⟨by omega, by omega, fun s hs => by have := h5 s hs; omega⟩
theorem StrsR.at {w : World} {a : Option Addr} {n : Nat} {l : List (List UInt8)} (h : StrsR w a n l) (hl : (l.length : Int) ≤ 1048576) (hs : ∀ s ∈ l, (s.length : Int) ≤ 1048576) : StrsAt w 0 a n l :=
  ⟨h.1, by have := h.1; omega, fun s hm => by have := hs s hm; omega, h.2.2.2⟩
theorem DirsR.at {w : World} {a : Option Addr} {n : Nat} {l : List Di} (h : DirsR w a n l) {m : Int} (hm : m ≤ 1048576) (hz : 0 ≤ szDis l m) : DirsAt w 0 a n l := by
  obtain ⟨z1, z2⟩ := szDis_ok hz
  obtain ⟨vs, e, h1, _, _, h4, h5⟩ := h
  refine ⟨vs, e, h1, by omega, fun d hd => by have := (z2 d hd).1; omega, h4, fun x hx => ?_⟩
  obtain ⟨ba, bn, bc, e2, hbc, hS⟩ := h5 x hx
  obtain ⟨_, b3, b4⟩ := z2 x.1 (by rw [e]; exact List.mem_map.2 ⟨x, hx, rfl⟩)
  exact ⟨ba, bn, bc, e2, hbc, hS.at (by omega) (fun s hs => by have := b4 s hs; omega)⟩
/-! ### Arguments -/
section
variable {H : Type} {enc : TypeId × Value → H} {P : Program} {w : World} {held : Bool}
def SsTy (P : Program) (t : TypeId) : Prop := ∃ e, P.underlying t = some (.slice e) ∧ P.cellsOf e = 1 ∧ P.underlying e = some .string
def DiTy (P : Program) (e : TypeId) : Prop := P.cellsOf e = 4 ∧ ∃ (f0 f1 f2 f3 : Field) (u : TypeId), P.underlying e = some (.struct #[f0, f1, f2, f3]) ∧ FieldAt P f0 0 (.int .i64) ∧ FieldAt P f1 1 .string ∧ FieldAt P f2 2 (.int .i64) ∧ FieldAt P f3 3 (.slice u) ∧ SsTy P f3.type
def DisTy (P : Program) (t : TypeId) : Prop := ∃ e, P.underlying t = some (.slice e) ∧ DiTy P e
/-- t is a type of disks. -/
def DkTy (P : Program) (t : TypeId) : Prop := P.cellsOf t = 3 ∧ ∃ (f0 f1 f2 : Field), P.underlying t = some (.struct #[f0, f1, f2]) ∧ f0.offset = 0 ∧ P.cellsOf f0.type = 1 ∧ TrTy P f0.type ∧ FieldAt P f1 1 (.int .i64) ∧ f2.offset = 2 ∧ P.cellsOf f2.type = 1 ∧ DisTy P f2.type
end

end Go.Proofs.YtgjfjjhmgbemcaaGreatDoor

namespace Go.Proofs.YtgjfjjhmgbemcaaGreatDoor
open Go.RowKit

/-- The size of a disk. -/
def szDk (l : List Fi) (dl : List Di) (n : Int) : Int := if szFis l n < 0 then -1 else if szDis dl (szFis l n) < 0 then -1 else szDis dl (szFis l n)
/-! ### Comparing -/
end Go.Proofs.YtgjfjjhmgbemcaaGreatDoor

namespace Go.Proofs.YtgjfjjhmgbemcaaGreatDoor
open Go.RowKit

theorem disk_S : StrT Tryz.prog 38 3 := ⟨⟨_, Tryz.underlying38⟩, by kernel_rfl⟩
/-- No two lists of names lie in one block. -/
def SepD (vs : List (Di × Value)) : Prop := vs.Pairwise fun x y => x.2.ownBlock = none ∨ y.2.ownBlock = none ∨ y.2.ownBlock ≠ x.2.ownBlock
/-- Directories that the call itself has made: the table and each body is a row of its own. -/
def DirsO (w : World) (B : Nat) (a : Option Addr) (n c : Nat) (l : List Di) : Prop :=
  ∃ vs : List (Di × Value), l = vs.map (·.1) ∧ n = l.length ∧ w.ownsRow B 140 4 (.slice a n c) n (vs.flatMap dcells) ∧ SepD vs ∧
    ∀ x ∈ vs, ∃ ba bc, x.2 = .slice ba x.1.names.length bc ∧ w.ownsRow B 9 1 (.slice ba x.1.names.length bc) x.1.names.length (strs x.1.names)
theorem DirsO.fr {w w' : World} {B n c : Nat} {a : Option Addr} {l : List Di} (h : DirsO w B a n c l) (hx : Fr B w w') : DirsO w' B a n c l := by
  obtain ⟨vs, e, h1, h2, hs, h3⟩ := h
  exact ⟨vs, e, h1, own_fr h2 hx, hs, fun x hm => let ⟨ba, bc, e, ho⟩ := h3 x hm; ⟨ba, bc, e, own_fr ho hx⟩⟩
theorem DirsO.less {w : World} {B B' n c : Nat} {a : Option Addr} {l : List Di} (h : DirsO w B a n c l) (hB : B' ≤ B) : DirsO w B' a n c l := by
  obtain ⟨vs, e, h1, h2, hs, h3⟩ := h
  exact ⟨vs, e, h1, own_less h2 hB, hs, fun x hm => let ⟨ba, bc, e, ho⟩ := h3 x hm; ⟨ba, bc, e, own_less ho hB⟩⟩
/-- No text of the directories is too long. -/
def OkD (l : List Di) : Prop := l.length ≤ 2097152 ∧ ∀ f ∈ l, f.pkg.length ≤ 1048576 ∧ f.names.length ≤ 8388608 ∧ ∀ s ∈ f.names, s.length ≤ 4194304
theorem DirsAt.okD {w : World} {B n : Nat} {a : Option Addr} {l : List Di} (h : DirsAt w B a n l) : OkD l := by
  obtain ⟨vs, e, h1, h2, h3, _, h5⟩ := h
  refine ⟨by omega, fun f hf => ⟨h3 f hf, ?_⟩⟩
  rw [e] at hf
  obtain ⟨x, hx, rfl⟩ := List.mem_map.1 hf
  obtain ⟨ba, bn, bc, _, _, hS⟩ := h5 x hx
  exact ⟨by have := hS.1; have := hS.2.1; omega, hS.2.2.1⟩
theorem DirsO.at {w : World} {B n c : Nat} {a : Option Addr} {l : List Di} (h : DirsO w B a n c l) (hk : OkD l) : DirsAt w B a n l := by
  obtain ⟨vs, e, h1, h2, _, h3⟩ := h
  refine ⟨vs, e, h1, by have := hk.1; omega, fun f hf => (hk.2 f hf).1, Sl.of_own h2, fun x hx => ?_⟩
  obtain ⟨ba, bc, e2, ho⟩ := h3 x hx
  have hm : x.1 ∈ l := by rw [e]; exact List.mem_map.2 ⟨x, hx, rfl⟩
  exact ⟨ba, _, bc, e2, own_cap ho, rfl, (hk.2 _ hm).2.1, (hk.2 _ hm).2.2, Sl.of_own ho⟩

end Go.Proofs.YtgjfjjhmgbemcaaGreatDoor

namespace Go.Proofs.YtgjfjjhmgbemcaaGreatDoor
open Go.RowKit

theorem dcells_4 (x : Di × Value) : (dcells x).length = 4 := rfl
theorem flat_setD : ∀ {vs : List (Di × Value)} {k j : Nat} {u : Value} {y : Di × Value} (hk : k < vs.length), j < 4 → dcells y = (dcells vs[k]).set j u → (vs.flatMap dcells).set (k * 4 + j) u = (vs.set k y).flatMap dcells
  | [], k, j, u, y, hk, _, _ => absurd hk (by simp)
  | x :: vs, 0, j, u, y, hk, hj, h => by
    rw [List.flatMap_cons, List.set_cons_zero, List.flatMap_cons, List.set_append_left _ _ (by rw [dcells_4]; omega)]
    rw [h, Nat.zero_mul, Nat.zero_add]
    rfl
  | x :: vs, k + 1, j, u, y, hk, hj, h => by
    rw [List.flatMap_cons, List.set_cons_succ, List.flatMap_cons, List.set_append_right _ _ (by rw [dcells_4]; omega)]
    congr 1
    rw [dcells_4, show (k + 1) * 4 + j - 4 = k * 4 + j by omega]
    exact flat_setD (by simpa using hk) hj (by simpa using h)
theorem sep_sameD : ∀ {vs : List (Di × Value)} {k : Nat} {y : Di × Value} (hk : k < vs.length), y.2 = vs[k].2 → SepD vs → SepD (vs.set k y)
  | [], k, y, hk, _, _ => absurd hk (by simp)
  | x :: vs, 0, y, hk, h, hs => by
    unfold SepD at hs ⊢
    rw [List.set_cons_zero, List.pairwise_cons]
    rw [List.pairwise_cons] at hs
    refine ⟨fun z hz => ?_, hs.2⟩
    have h2 : y.2 = x.2 := h
    rw [h2]
    exact hs.1 z hz
  | x :: vs, k + 1, y, hk, h, hs => by
    unfold SepD at hs ⊢
    rw [List.set_cons_succ, List.pairwise_cons]
    rw [List.pairwise_cons] at hs
    refine ⟨fun z hz => ?_, sep_sameD (by simpa using hk) (by simpa using h) hs.2⟩
    rcases List.mem_or_eq_of_mem_set hz with hz | rfl
    · exact hs.1 z hz
    · have hk2 : k < vs.length := by simpa using hk
      have := hs.1 vs[k] (List.getElem_mem _)
      have h2 : z.2 = vs[k].2 := by simpa using h
      rw [h2]
      exact this
end Go.Proofs.YtgjfjjhmgbemcaaGreatDoor
