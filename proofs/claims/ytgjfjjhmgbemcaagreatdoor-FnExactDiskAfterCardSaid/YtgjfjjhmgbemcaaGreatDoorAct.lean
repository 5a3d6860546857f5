/- Acts as plain data; how slices of them lie in memory; arguments that hold them, opened; the sizes that an exact law allows. No condition. -/
import Derived.Test.YtgjfjjhmgbemcaaGreatDoorIa
import Derived.Test.YtgjfjjhmgbemcaaGreatDoorProg
namespace Go.Proofs.YtgjfjjhmgbemcaaGreatDoor
open Go.ChangeShapes Go.WideShapes Go.ChangeAt Go.RowKit Go.Deep

structure Ac where
  kind : Int
  file : Fi
  idx : Int
  name : List UInt8
deriving DecidableEq, Inhabited
def acells (x : Ac × Value) : List Value := [.int .i64 x.1.kind, .int .i64 x.1.file.root, .string ⟨(x.1.file.pkg).toArray⟩, .string ⟨(x.1.file.name).toArray⟩, .bool x.1.file.init, .int .i64 x.1.file.stamp, x.2, .int .i64 x.1.idx, .string ⟨(x.1.name).toArray⟩]
instance : Inhabited (Ac × Value) := ⟨(default, undef)⟩
/-- Acts of whatever length. -/
def ActsR (w : World) (a : Option Addr) (n : Nat) (l : List Ac) : Prop :=
  ∃ vs : List (Ac × Value), l = vs.map (·.1) ∧ n = l.length ∧ n ≤ maxLen ∧ (∀ f ∈ l, f.file.pkg.length ≤ maxLen ∧ f.file.name.length ≤ maxLen ∧ f.name.length ≤ maxLen) ∧ Sl w 0 a n (vs.flatMap acells) ∧
    ∀ x ∈ vs, ∃ ba bn bc, x.2 = .slice ba bn bc ∧ bn ≤ bc ∧ StmtsR w ba bn x.1.file.body
def ActsAt (w : World) (B : Nat) (a : Option Addr) (n : Nat) (l : List Ac) : Prop :=
  ∃ vs : List (Ac × Value), l = vs.map (·.1) ∧ n = l.length ∧ n ≤ 2097152 ∧ (∀ f ∈ l, Okf f.file ∧ f.name.length ≤ 1048576) ∧ Sl w B a n (vs.flatMap acells) ∧
    ∀ x ∈ vs, ∃ ba bn bc, x.2 = .slice ba bn bc ∧ bn ≤ bc ∧ StmtsAt w B ba bn x.1.file.body
theorem ActsR.mono {w w' : World} {a : Option Addr} {n : Nat} {l : List Ac} (h : ActsR w a n l) (hx : X w w') : ActsR w' a n l := by
  obtain ⟨vs, e, h1, h2, h3, h4, h5⟩ := h
  exact ⟨vs, e, h1, h2, h3, h4.mono (hx.fr _), fun x hm => let ⟨ba, bn, bc, e, hc, hs⟩ := h5 x hm; ⟨ba, bn, bc, e, hc, hs.mono hx⟩⟩
theorem ActsAt.mono {w w' : World} {B : Nat} {a : Option Addr} {n : Nat} {l : List Ac} (h : ActsAt w B a n l) (hx : Fr B w w') : ActsAt w' B a n l := by
  obtain ⟨vs, h0, h1, h2, h3, h4, h5⟩ := h
  exact ⟨vs, h0, h1, h2, h3, h4.mono hx, fun x hm => let ⟨ba, bn, bc, e, hc, hs⟩ := h5 x hm; ⟨ba, bn, bc, e, hc, hs.mono hx⟩⟩
theorem ActsAt.less {w : World} {B B' : Nat} {a : Option Addr} {n : Nat} {l : List Ac} (h : ActsAt w B a n l) (hB : B' ≤ B) : ActsAt w B' a n l := by
  obtain ⟨vs, h0, h1, h2, h3, h4, h5⟩ := h
  exact ⟨vs, h0, h1, h2, h3, h4.less hB, fun x hm => let ⟨ba, bn, bc, e, hc, hs⟩ := h5 x hm; ⟨ba, bn, bc, e, hc, hs.less hB⟩⟩
theorem ActsAt.len {w : World} {B : Nat} {a : Option Addr} {n : Nat} {l : List Ac} (h : ActsAt w B a n l) : n = l.length ∧ n ≤ 2097152 := by
  obtain ⟨vs, _, h1, h2, _⟩ := h; exact ⟨h1, h2⟩
theorem nth_map_fstA {vs : List (Ac × Value)} {k : Nat} (hk : k < vs.length) : nth (vs.map (·.1)) k = (nth vs k).1 := by
  rw [nth_eq (by simpa using hk), nth_eq hk, List.getElem_map]
theorem ActsR.at_ {w : World} {a : Option Addr} {n : Nat} {l : List Ac} (h : ActsR w a n l) {k : Nat} (hk : k < n) :
    ∃ b off ba bn bc, a = some ⟨b, off, none⟩ ∧ b < w.heap.size ∧ ((nth l k).file.pkg.length ≤ maxLen ∧ (nth l k).file.name.length ≤ maxLen ∧ (nth l k).name.length ≤ maxLen) ∧ bn ≤ bc ∧ StmtsR w ba bn (nth l k).file.body ∧
      w.cell? ⟨b, off + k * 9, none⟩ = some (.int .i64 (nth l k).kind) ∧ w.cell? ⟨b, off + k * 9 + 1, none⟩ = some (.int .i64 (nth l k).file.root) ∧ w.cell? ⟨b, off + k * 9 + 2, none⟩ = some (.string ⟨((nth l k).file.pkg).toArray⟩) ∧ w.cell? ⟨b, off + k * 9 + 3, none⟩ = some (.string ⟨((nth l k).file.name).toArray⟩) ∧
      w.cell? ⟨b, off + k * 9 + 4, none⟩ = some (.bool (nth l k).file.init) ∧ w.cell? ⟨b, off + k * 9 + 5, none⟩ = some (.int .i64 (nth l k).file.stamp) ∧ w.cell? ⟨b, off + k * 9 + 6, none⟩ = some (.slice ba bn bc) ∧ w.cell? ⟨b, off + k * 9 + 7, none⟩ = some (.int .i64 (nth l k).idx) ∧ w.cell? ⟨b, off + k * 9 + 8, none⟩ = some (.string ⟨((nth l k).name).toArray⟩) := by
  obtain ⟨vs, rfl, h1, h2, h3, h4, h5⟩ := h
  have hl : k < vs.length := by simpa [h1] using hk
  obtain ⟨b, off, ha, _, hb, hc⟩ := h4.elem (s := 9) (fun _ => rfl) (by simpa using h1) hk
  obtain ⟨ba, bn, bc, e, hbc, hS⟩ := h5 _ (nth_mem hl)
  have hm := h3 _ (List.mem_map.2 ⟨nth vs k, nth_mem hl, rfl⟩)
  rw [nth_map_fstA hl]
  have c6 : w.cell? ⟨b, off + (k * 9 + 6), none⟩ = some (nth vs k).2 := hc 6 (by omega)
  rw [e] at c6
  exact ⟨b, off, ba, bn, bc, ha, hb, hm, hbc, hS, hc 0 (by omega), hc 1 (by omega), hc 2 (by omega), hc 3 (by omega), hc 4 (by omega), hc 5 (by omega), c6, hc 7 (by omega), hc 8 (by omega)⟩
theorem ActsAt.at_ {w : World} {B : Nat} {a : Option Addr} {n : Nat} {l : List Ac} (h : ActsAt w B a n l) {k : Nat} (hk : k < n) :
    ∃ b off ba bn bc, a = some ⟨b, off, none⟩ ∧ B ≤ b ∧ b < w.heap.size ∧ (Okf (nth l k).file ∧ (nth l k).name.length ≤ 1048576) ∧ bn ≤ bc ∧ StmtsAt w B ba bn (nth l k).file.body ∧
      w.cell? ⟨b, off + k * 9, none⟩ = some (.int .i64 (nth l k).kind) ∧ w.cell? ⟨b, off + k * 9 + 1, none⟩ = some (.int .i64 (nth l k).file.root) ∧ w.cell? ⟨b, off + k * 9 + 2, none⟩ = some (.string ⟨((nth l k).file.pkg).toArray⟩) ∧ w.cell? ⟨b, off + k * 9 + 3, none⟩ = some (.string ⟨((nth l k).file.name).toArray⟩) ∧
      w.cell? ⟨b, off + k * 9 + 4, none⟩ = some (.bool (nth l k).file.init) ∧ w.cell? ⟨b, off + k * 9 + 5, none⟩ = some (.int .i64 (nth l k).file.stamp) ∧ w.cell? ⟨b, off + k * 9 + 6, none⟩ = some (.slice ba bn bc) ∧ w.cell? ⟨b, off + k * 9 + 7, none⟩ = some (.int .i64 (nth l k).idx) ∧ w.cell? ⟨b, off + k * 9 + 8, none⟩ = some (.string ⟨((nth l k).name).toArray⟩) := by
  obtain ⟨vs, rfl, h1, h2, h3, h4, h5⟩ := h
  have hl : k < vs.length := by simpa [h1] using hk
  obtain ⟨b, off, ha, hB, hb, hc⟩ := h4.elem (s := 9) (fun _ => rfl) (by simpa using h1) hk
  obtain ⟨ba, bn, bc, e, hbc, hS⟩ := h5 _ (nth_mem hl)
  have hm := h3 _ (List.mem_map.2 ⟨nth vs k, nth_mem hl, rfl⟩)
  rw [nth_map_fstA hl]
  have c6 : w.cell? ⟨b, off + (k * 9 + 6), none⟩ = some (nth vs k).2 := hc 6 (by omega)
  rw [e] at c6
  exact ⟨b, off, ba, bn, bc, ha, hB, hb, hm, hbc, hS, hc 0 (by omega), hc 1 (by omega), hc 2 (by omega), hc 3 (by omega), hc 4 (by omega), hc 5 (by omega), c6, hc 7 (by omega), hc 8 (by omega)⟩

/-! ### Sizes -/
def szAc (a : Ac) (n : Int) : Int := if szFi a.file n < 0 then -1 else if szFi a.file n - (a.name.length : Int) < 0 then -1 else szFi a.file n - (a.name.length : Int)
def szAcs (l : List Ac) (n : Int) : Int := if n - (l.length : Int) < 0 then -1 else szL szAc l (n - (l.length : Int))
theorem szAc_le (d : Ac) (n : Int) (h : 0 ≤ szAc d n) : szAc d n ≤ n := by
  unfold szAc at h ⊢
  split at h <;> rename_i h1
  · omega
  · rw [if_neg h1]
    split at h <;> rename_i h2
    · omega
    · rw [if_neg h2]
      have := szFi_le d.file n (by omega)
      omega
theorem szAcs_le (l : List Ac) (n : Int) (h : 0 ≤ szAcs l n) : szAcs l n ≤ n := by
  unfold szAcs at h ⊢
  split at h <;> rename_i h1
  · omega
  · rw [if_neg h1]
    have := (szL_le szAc_le h).1
    omega
theorem szAcs_ok {l : List Ac} {n : Int} (h : 0 ≤ szAcs l n) : (l.length : Int) ≤ n ∧ ∀ d ∈ l, (d.file.pkg.length : Int) ≤ n ∧ (d.file.name.length : Int) ≤ n ∧ (d.file.body.length : Int) ≤ n ∧ (∀ s ∈ d.file.body, (s.mod.length : Int) ≤ n ∧ (s.name.length : Int) ≤ n) ∧ (d.name.length : Int) ≤ n := by
  unfold szAcs at h
  split at h <;> rename_i h1
  · omega
  · refine ⟨by omega, fun d hd => ?_⟩
    obtain ⟨m, hm, h2⟩ := (szL_le szAc_le h).2 d hd
    unfold szAc at h2
    split at h2 <;> rename_i h3
    · omega
    · split at h2 <;> rename_i h4
      · omega
      · have h5 : 0 ≤ szFi d.file m := by omega
        have h6 := szFi_le d.file m h5
        obtain ⟨a1, a2, a3, a4⟩ := szFi_ok h5
        exact ⟨by omega, by omega, by omega, fun s hs => by have := a4 s hs; omega, by omega⟩
theorem szAcs_neg {l : List Ac} {n : Int} (h : szAcs l n < 0) : szAcs l n = -1 := by
  unfold szAcs at h ⊢
  by_cases h0 : n - (l.length : Int) < 0
  · rw [if_pos h0]
  · rw [if_neg h0] at h ⊢
    exact szL_neg (by omega) h
theorem ActsR.at {w : World} {a : Option Addr} {n : Nat} {l : List Ac} (h : ActsR w a n l) (hz : 0 ≤ szAcs l 1048576) : ActsAt w 0 a n l := by
  obtain ⟨z1, z2⟩ := szAcs_ok hz
  obtain ⟨vs, e, h1, _, _, h4, h5⟩ := h
  refine ⟨vs, e, h1, by omega, fun f hf => by have := z2 f hf; exact ⟨⟨by omega, by omega⟩, by omega⟩, h4, fun x hx => ?_⟩
  obtain ⟨ba, bn, bc, e2, hbc, hS⟩ := h5 x hx
  have hm : x.1 ∈ l := by rw [e]; exact List.mem_map.2 ⟨x, hx, rfl⟩
  obtain ⟨_, _, b3, b4, _⟩ := z2 x.1 hm
  exact ⟨ba, bn, bc, e2, hbc, hS.at b3 b4⟩

/-! ### Arguments -/
section
variable {H : Type} {enc : TypeId × Value → H} {P : Program} {w : World} {held : Bool}

def AcTy (P : Program) (e : TypeId) : Prop := P.cellsOf e = 9 ∧ ∃ (f0 f1 f2 f3 : Field), P.underlying e = some (.struct #[f0, f1, f2, f3]) ∧ FieldAt P f0 0 (.int .i64) ∧ f1.offset = 1 ∧ P.cellsOf f1.type = 6 ∧ FiTy P f1.type ∧ FieldAt P f2 7 (.int .i64) ∧ FieldAt P f3 8 .string
def AcsTy (P : Program) (t : TypeId) : Prop := ∃ e, P.underlying t = some (.slice e) ∧ AcTy P e
theorem elem_ac {e : TypeId} (he : AcTy P e) {fuel : Nat} {cs : List Value} {y : DataW H × List MemPlace} (h : DataW.trod enc P w 0 (fun _ => true) held fuel e cs = some y) :
    ∃ x : Ac × Value, cs = acells x ∧ (x.1.file.pkg.length ≤ maxLen ∧ x.1.file.name.length ≤ maxLen ∧ x.1.name.length ≤ maxLen) ∧ ∃ ba bn bc, x.2 = .slice ba bn bc ∧ bn ≤ bc ∧ StmtsR w ba bn x.1.file.body := by
  obtain ⟨hC, f0, f1, f2, f3, hu, h0, g1, g2, g3, h2, h3⟩ := he
  obtain ⟨xs, n, _, _, hlen, hxl, hf⟩ := DataW.trod_struct hu h
  rw [hC] at hlen
  have hx4 : xs.length = 4 := hxl
  match cs, hlen with
  | [c0, c1, c2, c3, c4, c5, c6, c7, c8], _ =>
    obtain ⟨k, e0, _, _⟩ := DataW.trod_int h0.2.1 (field_of h0 (i := 0) (by omega) (by simp) (hf 0 f0 rfl))
    have hf1 := hf 1 f1 rfl
    rw [g1, g2, List.getElem?_eq_getElem (by omega)] at hf1
    obtain ⟨x, e1, ⟨b1, b2, _, _⟩, ba, bn, bc, ex, hbc, hS⟩ := elem_fi (cs := [c1, c2, c3, c4, c5, c6]) g3 hf1
    obtain ⟨ix, e2, _, _⟩ := DataW.trod_int h2.2.1 (field_of h2 (i := 2) (by omega) (by simp) (hf 2 f2 rfl))
    obtain ⟨nm, e3, _, b3⟩ := DataW.trod_string h3.2.1 (field_of h3 (i := 3) (by omega) (by simp) (hf 3 f3 rfl))
    obtain ⟨f, bv⟩ := x
    simp only [fcells, List.cons.injEq, and_true] at e1
    obtain ⟨e10, e11, e12, e13, e14, e15⟩ := e1
    simp only [List.getElem_cons_zero, List.getElem_cons_succ, List.cons.injEq, and_true] at e0 e2 e3
    subst e0 e2 e3 e10 e11 e12 e13 e14 e15
    exact ⟨(⟨k, f, ix, nm.data.toList⟩, c6), rfl, ⟨b1, b2, b3⟩, ba, bn, bc, ex, hbc, hS⟩
theorem open_acts {t : TypeId} (ht : AcsTy P t) {fuel : Nat} {cs : List Value} {y : DataW H × List MemPlace} (h : DataW.trod enc P w 0 (fun _ => true) held fuel t cs = some y) :
    ∃ a n c l, cs = [.slice a n c] ∧ n ≤ c ∧ ActsR w a n l := by
  obtain ⟨e, hu, he⟩ := ht
  rcases open_slice hu h with ⟨rfl, _⟩ | ⟨a, len, cap, m, n, D, Pl, rfl, _, hl, hm, hmm, _, hi⟩
  · exact ⟨none, 0, 0, [], rfl, Nat.le_refl _, [], rfl, rfl, Nat.zero_le _, fun _ h => (by cases h), fun h => absurd h (by omega), fun _ h => (by cases h)⟩
  · simp only [if_true] at hmm
    obtain ⟨l, hll, hp⟩ := list_of (n := len) (p := fun i (x : Ac × Value) => (∀ j (hj : j < 9), w.cell? (a.add (i * 9 + j)) = some ((acells x)[j]'hj)) ∧ (x.1.file.pkg.length ≤ maxLen ∧ x.1.file.name.length ≤ maxLen ∧ x.1.name.length ≤ maxLen) ∧ ∃ ba bn bc, x.2 = .slice ba bn bc ∧ bn ≤ bc ∧ StmtsR w ba bn x.1.file.body) (fun i hil => by
      obtain ⟨cs', hc, ht'⟩ := hi i (by omega)
      rw [he.1] at hc
      obtain ⟨x, rfl, hb⟩ := elem_ac he ht'
      obtain ⟨_, hcl, hat⟩ := World.cells?_some hc
      refine ⟨x, fun j hj => ?_, hb⟩
      rw [← Go.Deep.add_add]
      have := hat j hj
      rw [this]
      exact List.getElem?_eq_getElem _)
    refine ⟨some a, len, cap, l.map (·.1), rfl, hl, l, rfl, by rw [List.length_map]; exact hll.symm, by omega, fun f hf => ?_, sl_of hll.symm (s := 9) (fun _ => rfl) (by omega) (fun i hil j hj => (hp i hil).1 j hj), fun x hx => ?_⟩
    · obtain ⟨x, hx, rfl⟩ := List.mem_map.1 hf
      obtain ⟨k, hk, rfl⟩ := List.getElem_of_mem hx
      have := (hp k (by omega)).2.1
      rwa [nth_eq hk] at this
    · obtain ⟨k, hk, rfl⟩ := List.getElem_of_mem hx
      have := (hp k (by omega)).2.2
      rwa [nth_eq hk] at this
/-- A slice of acts as an argument. -/
theorem arg_acts {t : TypeId} (ht : AcsTy P t) {r : Reach} {b0 : Nat} {v : Value} {d : DataW H} {p : List MemPlace} (hv : Value.okWide P w r b0 t v) (h : DataW.Trod enc P w 0 (fun _ => true) held t v d p) :
    ∃ a n c l, v = .slice a n c ∧ n ≤ c ∧ ActsR w a n l := by
  have ht' := ht
  obtain ⟨e, hu, _⟩ := ht'
  obtain ⟨a0, len, cap, rfl⟩ := okWide_slice hu hv
  obtain ⟨fuel, hf⟩ := h
  obtain ⟨a, n, c, l, e, hnc, hR⟩ := open_acts ht hf
  simp [Value.cells] at e
  obtain ⟨rfl, rfl, rfl⟩ := e
  exact ⟨_, _, _, l, rfl, hnc, hR⟩
end

end Go.Proofs.YtgjfjjhmgbemcaaGreatDoor
