/- Several texts in one: Act, ActW, ActM, SameLaw, EditLaw, AfterLaw, EditSet. No condition but lengths. -/
import Derived.Test.YtgjfjjhmgbemcaaGreatDoorIa
import Derived.Test.YtgjfjjhmgbemcaaGreatDoorProg
import Derived.Deep.CutRange
import Derived.Test.YtgjfjjhmgbemcaaGreatDoorIb
import Derived.Test.YtgjfjjhmgbemcaaGreatDoorLc
import Derived.Test.YtgjfjjhmgbemcaaGreatDoorIe
namespace Go.Proofs.YtgjfjjhmgbemcaaGreatDoor
open Go.ChangeShapes Go.WideShapes Go.ChangeAt Go.RowKit Go.Deep

structure Ac where
  kind : Int
  file : Fi
  idx : Int
  name : List UInt8
deriving DecidableEq, Inhabited
def acells (x : Ac × Value) : List Value := [.int .i64 x.1.kind, .int .i64 x.1.file.root, .string ⟨(x.1.file.pkg).toArray⟩, .string ⟨(x.1.file.name).toArray⟩, .bool x.1.file.init, .int .i64 x.1.file.stamp, x.2, .int .i64 x.1.idx, .string ⟨(x.1.name).toArray⟩]
instance : Inhabited (Ac × Value) := ⟨(default, undef)⟩
/-- Acts of whatever length. -/
def ActsR (w : World) (a : Option Addr) (n : Nat) (l : List Ac) : Prop :=
  ∃ vs : List (Ac × Value), l = vs.map (·.1) ∧ n = l.length ∧ n ≤ maxLen ∧ (∀ f ∈ l, f.file.pkg.length ≤ maxLen ∧ f.file.name.length ≤ maxLen ∧ f.name.length ≤ maxLen) ∧ Sl w 0 a n (vs.flatMap acells) ∧
    ∀ x ∈ vs, ∃ ba bn bc, x.2 = .slice ba bn bc ∧ bn ≤ bc ∧ StmtsR w ba bn x.1.file.body
def ActsAt (w : World) (B : Nat) (a : Option Addr) (n : Nat) (l : List Ac) : Prop :=
  ∃ vs : List (Ac × Value), l = vs.map (·.1) ∧ n = l.length ∧ n ≤ 2097152 ∧ (∀ f ∈ l, Okf f.file ∧ f.name.length ≤ 1048576) ∧ Sl w B a n (vs.flatMap acells) ∧
    ∀ x ∈ vs, ∃ ba bn bc, x.2 = .slice ba bn bc ∧ bn ≤ bc ∧ StmtsAt w B ba bn x.1.file.body
theorem ActsR.mono {w w' : World} {a : Option Addr} {n : Nat} {l : List Ac} (h : ActsR w a n l) (hx : X w w') : ActsR w' a n l := by
  obtain ⟨vs, e, h1, h2, h3, h4, h5⟩ := h
  exact ⟨vs, e, h1, h2, h3, h4.mono (hx.fr _), fun x hm => let ⟨ba, bn, bc, e, hc, hs⟩ := h5 x hm; ⟨ba, bn, bc, e, hc, hs.mono hx⟩⟩
theorem ActsAt.mono {w w' : World} {B : Nat} {a : Option Addr} {n : Nat} {l : List Ac} (h : ActsAt w B a n l) (hx : Fr B w w') : ActsAt w' B a n l := by
  obtain ⟨vs, h0, h1, h2, h3, h4, h5⟩ := h
  exact ⟨vs, h0, h1, h2, h3, h4.mono hx, fun x hm => let ⟨ba, bn, bc, e, hc, hs⟩ := h5 x hm; ⟨ba, bn, bc, e, hc, hs.mono hx⟩⟩
theorem ActsAt.less {w : World} {B B' : Nat} {a : Option Addr} {n : Nat} {l : List Ac} (h : ActsAt w B a n l) (hB : B' ≤ B) : ActsAt w B' a n l := by
  obtain ⟨vs, h0, h1, h2, h3, h4, h5⟩ := h
  exact ⟨vs, h0, h1, h2, h3, h4.less hB, fun x hm => let ⟨ba, bn, bc, e, hc, hs⟩ := h5 x hm; ⟨ba, bn, bc, e, hc, hs.less hB⟩⟩
theorem ActsAt.len {w : World} {B : Nat} {a : Option Addr} {n : Nat} {l : List Ac} (h : ActsAt w B a n l) : n = l.length ∧ n ≤ 2097152 := by
  obtain ⟨vs, _, h1, h2, _⟩ := h; exact ⟨h1, h2⟩
theorem nth_map_fstA {vs : List (Ac × Value)} {k : Nat} (hk : k < vs.length) : nth (vs.map (·.1)) k = (nth vs k).1 := by
  rw [nth_eq (by simpa using hk), nth_eq hk, List.getElem_map]
theorem ActsR.at_ {w : World} {a : Option Addr} {n : Nat} {l : List Ac} (h : ActsR w a n l) {k : Nat} (hk : k < n) :
    ∃ b off ba bn bc, a = some ⟨b, off, none⟩ ∧ b < w.heap.size ∧ ((nth l k).file.pkg.length ≤ maxLen ∧ (nth l k).file.name.length ≤ maxLen ∧ (nth l k).name.length ≤ maxLen) ∧ bn ≤ bc ∧ StmtsR w ba bn (nth l k).file.body ∧
      w.cell? ⟨b, off + k * 9, none⟩ = some (.int .i64 (nth l k).kind) ∧ w.cell? ⟨b, off + k * 9 + 1, none⟩ = some (.int .i64 (nth l k).file.root) ∧ w.cell? ⟨b, off + k * 9 + 2, none⟩ = some (.string ⟨((nth l k).file.pkg).toArray⟩) ∧ w.cell? ⟨b, off + k * 9 + 3, none⟩ = some (.string ⟨((nth l k).file.name).toArray⟩) ∧
      w.cell? ⟨b, off + k * 9 + 4, none⟩ = some (.bool (nth l k).file.init) ∧ w.cell? ⟨b, off + k * 9 + 5, none⟩ = some (.int .i64 (nth l k).file.stamp) ∧ w.cell? ⟨b, off + k * 9 + 6, none⟩ = some (.slice ba bn bc) ∧ w.cell? ⟨b, off + k * 9 + 7, none⟩ = some (.int .i64 (nth l k).idx) ∧ w.cell? ⟨b, off + k * 9 + 8, none⟩ = some (.string ⟨((nth l k).name).toArray⟩) := by
  obtain ⟨vs, rfl, h1, h2, h3, h4, h5⟩ := h
  have hl : k < vs.length := by simpa [h1] using hk
  obtain ⟨b, off, ha, _, hb, hc⟩ := h4.elem (s := 9) (fun _ => rfl) (by simpa using h1) hk
  obtain ⟨ba, bn, bc, e, hbc, hS⟩ := h5 _ (nth_mem hl)
  have hm := h3 _ (List.mem_map.2 ⟨nth vs k, nth_mem hl, rfl⟩)
  rw [nth_map_fstA hl]
  have c6 : w.cell? ⟨b, off + (k * 9 + 6), none⟩ = some (nth vs k).2 := hc 6 (by omega)
  rw [e] at c6
  exact ⟨b, off, ba, bn, bc, ha, hb, hm, hbc, hS, hc 0 (by omega), hc 1 (by omega), hc 2 (by omega), hc 3 (by omega), hc 4 (by omega), hc 5 (by omega), c6, hc 7 (by omega), hc 8 (by omega)⟩
theorem ActsAt.at_ {w : World} {B : Nat} {a : Option Addr} {n : Nat} {l : List Ac} (h : ActsAt w B a n l) {k : Nat} (hk : k < n) :
    ∃ b off ba bn bc, a = some ⟨b, off, none⟩ ∧ B ≤ b ∧ b < w.heap.size ∧ (Okf (nth l k).file ∧ (nth l k).name.length ≤ 1048576) ∧ bn ≤ bc ∧ StmtsAt w B ba bn (nth l k).file.body ∧
      w.cell? ⟨b, off + k * 9, none⟩ = some (.int .i64 (nth l k).kind) ∧ w.cell? ⟨b, off + k * 9 + 1, none⟩ = some (.int .i64 (nth l k).file.root) ∧ w.cell? ⟨b, off + k * 9 + 2, none⟩ = some (.string ⟨((nth l k).file.pkg).toArray⟩) ∧ w.cell? ⟨b, off + k * 9 + 3, none⟩ = some (.string ⟨((nth l k).file.name).toArray⟩) ∧
      w.cell? ⟨b, off + k * 9 + 4, none⟩ = some (.bool (nth l k).file.init) ∧ w.cell? ⟨b, off + k * 9 + 5, none⟩ = some (.int .i64 (nth l k).file.stamp) ∧ w.cell? ⟨b, off + k * 9 + 6, none⟩ = some (.slice ba bn bc) ∧ w.cell? ⟨b, off + k * 9 + 7, none⟩ = some (.int .i64 (nth l k).idx) ∧ w.cell? ⟨b, off + k * 9 + 8, none⟩ = some (.string ⟨((nth l k).name).toArray⟩) := by
  obtain ⟨vs, rfl, h1, h2, h3, h4, h5⟩ := h
  have hl : k < vs.length := by simpa [h1] using hk
  obtain ⟨b, off, ha, hB, hb, hc⟩ := h4.elem (s := 9) (fun _ => rfl) (by simpa using h1) hk
  obtain ⟨ba, bn, bc, e, hbc, hS⟩ := h5 _ (nth_mem hl)
  have hm := h3 _ (List.mem_map.2 ⟨nth vs k, nth_mem hl, rfl⟩)
  rw [nth_map_fstA hl]
  have c6 : w.cell? ⟨b, off + (k * 9 + 6), none⟩ = some (nth vs k).2 := hc 6 (by omega)
  rw [e] at c6
  exact ⟨b, off, ba, bn, bc, ha, hB, hb, hm, hbc, hS, hc 0 (by omega), hc 1 (by omega), hc 2 (by omega), hc 3 (by omega), hc 4 (by omega), hc 5 (by omega), c6, hc 7 (by omega), hc 8 (by omega)⟩

/-! ### Sizes -/
def szAc (a : Ac) (n : Int) : Int := if szFi a.file n < 0 then -1 else if szFi a.file n - (a.name.length : Int) < 0 then -1 else szFi a.file n - (a.name.length : Int)
def szAcs (l : List Ac) (n : Int) : Int := if n - (l.length : Int) < 0 then -1 else szL szAc l (n - (l.length : Int))
theorem szAc_le (d : Ac) (n : Int) (h : 0 ≤ szAc d n) : szAc d n ≤ n := by
  unfold szAc at h ⊢
  split at h <;> rename_i h1
  · omega
  · rw [if_neg h1]
    split at h <;> rename_i h2
    · omega
    · rw [if_neg h2]
      have := szFi_le d.file n (by omega)
      omega
theorem szAcs_ok {l : List Ac} {n : Int} (h : 0 ≤ szAcs l n) : (l.length : Int) ≤ n ∧ ∀ d ∈ l, (d.file.pkg.length : Int) ≤ n ∧ (d.file.name.length : Int) ≤ n ∧ (d.file.body.length : Int) ≤ n ∧ (∀ s ∈ d.file.body, (s.mod.length : Int) ≤ n ∧ (s.name.length : Int) ≤ n) ∧ (d.name.length : Int) ≤ n := by
  unfold szAcs at h
  split at h <;> rename_i h1
  · omega
  · refine ⟨by omega, fun d hd => ?_⟩
    obtain ⟨m, hm, h2⟩ := (szL_le szAc_le h).2 d hd
    unfold szAc at h2
    split at h2 <;> rename_i h3
    · omega
    · split at h2 <;> rename_i h4
      · omega
      · have h5 : 0 ≤ szFi d.file m := by omega
        have h6 := szFi_le d.file m h5
        obtain ⟨a1, a2, a3, a4⟩ := szFi_ok h5
        exact ⟨by omega, by omega, by omega, fun s hs => by have := a4 s hs; omega, by omega⟩
theorem ActsR.at {w : World} {a : Option Addr} {n : Nat} {l : List Ac} (h : ActsR w a n l) (hz : 0 ≤ szAcs l 1048576) : ActsAt w 0 a n l := by
  obtain ⟨z1, z2⟩ := szAcs_ok hz
  obtain ⟨vs, e, h1, _, _, h4, h5⟩ := h
  refine ⟨vs, e, h1, by omega, fun f hf => by have := z2 f hf; exact ⟨⟨by omega, by omega⟩, by omega⟩, h4, fun x hx => ?_⟩
  obtain ⟨ba, bn, bc, e2, hbc, hS⟩ := h5 x hx
  have hm : x.1 ∈ l := by rw [e]; exact List.mem_map.2 ⟨x, hx, rfl⟩
  obtain ⟨_, _, b3, b4, _⟩ := z2 x.1 hm
  exact ⟨ba, bn, bc, e2, hbc, hS.at b3 b4⟩

/-! ### Arguments -/
section
variable {H : Type} {enc : TypeId × Value → H} {P : Program} {w : World} {held : Bool}

def AcTy (P : Program) (e : TypeId) : Prop := P.cellsOf e = 9 ∧ ∃ (f0 f1 f2 f3 : Field), P.underlying e = some (.struct #[f0, f1, f2, f3]) ∧ FieldAt P f0 0 (.int .i64) ∧ f1.offset = 1 ∧ P.cellsOf f1.type = 6 ∧ FiTy P f1.type ∧ FieldAt P f2 7 (.int .i64) ∧ FieldAt P f3 8 .string
def AcsTy (P : Program) (t : TypeId) : Prop := ∃ e, P.underlying t = some (.slice e) ∧ AcTy P e
end

end Go.Proofs.YtgjfjjhmgbemcaaGreatDoor

namespace Go.Proofs.YtgjfjjhmgbemcaaGreatDoor
open Go.RowKit

/-! ### Comparing: the same acts -/
/-! ### Copying -/
theorem acells9 (x : Ac × Value) : (acells x).length = 9 := rfl
/-- No two bodies lie in one block. -/
def SepA (vs : List (Ac × Value)) : Prop := vs.Pairwise fun x y => x.2.ownBlock = none ∨ y.2.ownBlock = none ∨ y.2.ownBlock ≠ x.2.ownBlock
/-- Acts that the call itself has made: the table and each body is a row of its own. -/
def ActsO (w : World) (B : Nat) (a : Option Addr) (n c : Nat) (l : List Ac) : Prop :=
  ∃ vs : List (Ac × Value), l = vs.map (·.1) ∧ n = l.length ∧ w.ownsRow B 77 9 (.slice a n c) n (vs.flatMap acells) ∧ SepA vs ∧
    ∀ x ∈ vs, ∃ ba bc, x.2 = .slice ba x.1.file.body.length bc ∧ w.ownsRow B 148 5 (.slice ba x.1.file.body.length bc) x.1.file.body.length (x.1.file.body.flatMap scells)
theorem ActsO.fr {w w' : World} {B n c : Nat} {a : Option Addr} {l : List Ac} (h : ActsO w B a n c l) (hx : Fr B w w') : ActsO w' B a n c l := by
  obtain ⟨vs, e, h1, h2, hs, h3⟩ := h
  exact ⟨vs, e, h1, own_fr h2 hx, hs, fun x hm => let ⟨ba, bc, e, ho⟩ := h3 x hm; ⟨ba, bc, e, own_fr ho hx⟩⟩
theorem ActsO.less {w : World} {B B' n c : Nat} {a : Option Addr} {l : List Ac} (h : ActsO w B a n c l) (hB : B' ≤ B) : ActsO w B' a n c l := by
  obtain ⟨vs, e, h1, h2, hs, h3⟩ := h
  exact ⟨vs, e, h1, own_less h2 hB, hs, fun x hm => let ⟨ba, bc, e, ho⟩ := h3 x hm; ⟨ba, bc, e, own_less ho hB⟩⟩
/-- No text of the acts is too long. -/
def OkA (l : List Ac) : Prop := l.length ≤ 2097152 ∧ ∀ f ∈ l, Okf f.file ∧ f.name.length ≤ 1048576 ∧ f.file.body.length ≤ 2097152 ∧ ∀ s ∈ f.file.body, Oks s
theorem ActsAt.okA {w : World} {B n : Nat} {a : Option Addr} {l : List Ac} (h : ActsAt w B a n l) : OkA l := by
  obtain ⟨vs, e, h1, h2, h3, _, h5⟩ := h
  refine ⟨by omega, fun f hf => ⟨(h3 f hf).1, (h3 f hf).2, ?_⟩⟩
  rw [e] at hf
  obtain ⟨x, hx, rfl⟩ := List.mem_map.1 hf
  obtain ⟨ba, bn, bc, _, _, hS⟩ := h5 x hx
  exact ⟨by have := hS.1; have := hS.2.1; omega, hS.2.2.1⟩
theorem ActsO.at {w : World} {B n c : Nat} {a : Option Addr} {l : List Ac} (h : ActsO w B a n c l) (hk : OkA l) : ActsAt w B a n l := by
  obtain ⟨vs, e, h1, h2, _, h3⟩ := h
  refine ⟨vs, e, h1, by have := hk.1; omega, fun f hf => ⟨(hk.2 f hf).1, (hk.2 f hf).2.1⟩, Sl.of_own h2, fun x hx => ?_⟩
  obtain ⟨ba, bc, e2, ho⟩ := h3 x hx
  have hm : x.1 ∈ l := by rw [e]; exact List.mem_map.2 ⟨x, hx, rfl⟩
  exact ⟨ba, _, bc, e2, own_cap ho, rfl, (hk.2 _ hm).2.2.1, (hk.2 _ hm).2.2.2, Sl.of_own ho⟩

end Go.Proofs.YtgjfjjhmgbemcaaGreatDoor

namespace Go.Proofs.YtgjfjjhmgbemcaaGreatDoor
open Go.RowKit

/-- A body of acts, whatever it holds. -/
def BodyA (w : World) (B : Nat) (v : Value) : Prop := ∃ ba bn bc ys, v = .slice ba bn bc ∧ bn ≤ 1073741824 ∧ w.ownsRow B 148 5 (.slice ba bn bc) bn ys
theorem BodyA.kept {w w' : World} {B : Nat} {v : Value} {row : Option Nat} (h : BodyA w B v) (hg : w.grownBy w' row) (hr : v.ownBlock = none ∨ v.ownBlock ≠ row) : BodyA w' B v := by
  obtain ⟨ba, bn, bc, ys, e, hn, ho⟩ := h
  rw [e] at hr
  exact ⟨ba, bn, bc, ys, e, hn, ho.kept hg hr⟩
theorem BodyA.grown {w w' : World} {B g : Nat} {v : Value} {cs : Array Value} (h : BodyA w B v) (hg : w.grownBy w' (some g)) (hb : w.heap[g]? = some (.cells cs 77 (0, 0))) : BodyA w' B v := by
  obtain ⟨ba, bn, bc, ys, e, hn, ho⟩ := h
  exact ⟨ba, bn, bc, ys, e, hn, ho.kept hg (.inr (own_ne_at ho hb (by decide)))⟩
/-- The weight of a body's value. -/
def wtV : Value → Nat
  | .slice _ n _ => 8 + 5 * n
  | _ => 0
def wtVs : List Value → Nat
  | [] => 0
  | v :: l => wtV v + wtVs l
theorem wtVs_take : ∀ (l : List Value) (k : Nat), wtVs (l.take k) ≤ wtVs l
  | [], k => by simp [wtVs]
  | v :: l, 0 => by simp [wtVs]
  | v :: l, k + 1 => by
    rw [List.take_succ_cons]
    unfold wtVs
    have := wtVs_take l k
    omega
theorem wtVs_append : ∀ (l m : List Value), wtVs (l ++ m) = wtVs l + wtVs m
  | [], m => by simp [wtVs]
  | v :: l, m => by
    rw [List.cons_append]
    show wtV v + wtVs (l ++ m) = wtV v + wtVs l + wtVs m
    rw [wtVs_append l m]
    omega
instance : Inhabited Value := ⟨undef⟩
theorem wtVs_next {l : List Value} {k : Nat} (hk : k < l.length) : wtVs (l.take (k + 1)) = wtVs (l.take k) + wtV (nth l k) := by
  rw [take_succ_nth hk, wtVs_append]
  simp [wtVs]

set_option maxRecDepth 100000 in
set_option maxHeartbeats 4000000 in
theorem markActS_e (l : List Ac) (a : Option Addr) (n c B E k : Nat) (vs : List (Ac × Value)) (w : World) (hvl : l = vs.map (·.1)) (hnl : n = l.length) (hO0 : w.ownsRow B 77 9 (.slice a n c) n (vs.flatMap acells)) (hsep : SepA vs)
    (hbd0 : ∀ x ∈ vs, BodyA w B x.2) (hEr : ∀ b, (Value.slice a n c).ownBlock = some b → b < E) (hEb : ∀ x ∈ vs, ∀ b, x.2.ownBlock = some b → b < E) (hn : n ≤ 2097152) (hk : k + wtVs (vs.map (·.2)) ≤ 1073741824) :
    Calls Tryz.prog 26 #[.slice a n c, .int .i64 (k : Int)] w fun e w' => ∃ q : Nat, e = .returned (.int .i64 (q : Int)) ∧ Keep B E w w' := by
  have hvn : vs.length = n := by rw [hnl, hvl, List.length_map]
  have hbl : ∀ x ∈ vs, ∀ b, x.2.ownBlock = some b → B ≤ b ∧ b < E := fun x hx b hb => by
    obtain ⟨ba, bn, bc, ys, e, _, ho⟩ := hbd0 x hx
    have h2 := hEb x hx b hb
    rw [e] at hb
    exact ⟨(ho.lt b hb).1, h2⟩
  have hgw : ∀ g, a = some ⟨g, 0, none⟩ → B ≤ g ∧ g < E := fun g hg => ⟨(hO0.lt _ (by rw [hg]; rfl)).1, hEr g (by rw [hg]; rfl)⟩
  have hx0 : ∀ i, i < n → (vs.flatMap acells)[i * 9 + 6]? = some (nth vs i).2 := fun i hi => by
    have hl : i * 9 + 6 < (vs.flatMap acells).length := by rw [flat_length 9 acells acells9]; omega
    rw [List.getElem?_eq_getElem hl, flat_get 9 acells acells9 vs i 6 (by omega) (by omega) hl, nth_eq (by omega)]
    rfl
  have hwn : ∀ i, i < n → wtVs ((vs.map (·.2)).take (i + 1)) = wtVs ((vs.map (·.2)).take i) + wtV (nth vs i).2 := fun i hi => by
    rw [wtVs_next (by rw [List.length_map]; omega)]
    congr 2
    rw [nth_eq (by rw [List.length_map]; omega), List.getElem_map, nth_eq (by omega)]
  have Hw := Lib.hid hwn
  have Ht := Lib.hid (wtVs_take (vs.map (·.2)))
  have Hvn := Lib.hid hvn
  have Hbl := Lib.hid hbl
  have Hsep := Lib.hid hsep
  have hb0 : ∀ i, i < n → BodyA w B (nth vs i).2 := fun i hi => hbd0 _ (nth_mem (by omega))
  clear hvn hnl hvl hbl hwn hbd0 hEb hsep
  go_enter Tryz.func26, Tryz.ntmps26
  go_wp2
  go_loopw [1, 5] (fun v i wr => ∃ (j q : Nat) (xs : List Value), j ≤ n ∧ i = .int .i64 j ∧ v = .int .i64 (q : Int) ∧ q = k + wtVs ((vs.map (·.2)).take j) ∧ q ≤ 1073741824 ∧ xs.length = n * 9 ∧ (∀ i, i < n → xs[i * 9 + 6]? = some (nth vs i).2) ∧
    wr.ownsRow B 77 9 (.slice a n c) n xs ∧ (∀ i, i < n → BodyA wr B (nth vs i).2) ∧ Keep B E w wr) (fun _ i _ => n - (intOf i).toNat)
  case atStart => exact ⟨0, k, _, Nat.zero_le _, rfl, rfl, by simp [wtVs], by omega, by rw [flat_length 9 acells acells9, Hvn.out], hx0, hO0, hb0, Keep.refl _ _ _⟩
  case round =>
    obtain ⟨j, q, xs, hj, rfl, rfl, hqe, hq, hxl, hx6, hO, hbd, hK⟩ := hrel
    have Hqe := Lib.hid (And.intro hqe (And.intro hxl hx6))
    clear hqe hxl hx6 hO0 hb0 hx0
    by_cases hlt : j < n
    · obtain ⟨g, rfl, hB, hgl⟩ := own_form hO (by omega)
      have hgE := hgw g rfl
      obtain ⟨ba, bn, bc, ys, hbv, hbn, hob⟩ := hbd j hlt
      have hqn : q + (8 + 5 * bn) ≤ 1073741824 := by
        have h1 := Hw.out j hlt
        have h2 := Ht.out (j + 1)
        have h3 := Hqe.out.1
        rw [hbv] at h1
        have h4 : wtV (.slice ba bn bc) = 8 + 5 * bn := rfl
        omega
      obtain ⟨cs0, hb0⟩ := own_block hO
      have hf0 := (hO).frozenAt (j * 9); obtain ⟨u0, hu0⟩ := own_here hO (j := j * 9) (by omega)
      have hf1 := (hO).frozenAt (j * 9 + 1); obtain ⟨u1, hu1⟩ := own_here hO (j := j * 9 + 1) (by omega)
      go_wp2_with fail
      refine calls_name (fun W1 hW1 => ?_)
      have hO1 := own_set_at2 hW1 hO
      have hg1 : wr.grownBy W1 (some g) := by rw [hW1]; exact grown_next (grown_set _ _ _) _ _
      clear hW1 hu0 hf0 hu1 hf1
      refine (markText_v (q + 2) _ W1 (by omega) (by omega)).mono ?_
      rintro _ w2 ⟨rfl, hx2⟩
      have hO2 := own_fr hO1 (hx2.fr _)
      have hg2 := grown_x hg1 hx2
      have hgl2 := (hO2.lt g rfl).2
      clear hO1 hg1 hx2
      have hf2 := (hO2).frozenAt (j * 9 + 2); obtain ⟨u2, hu2⟩ := own_here hO2 (j := j * 9 + 2) (by omega)
      go_wp2_with fail
      refine calls_name (fun W3 hW3 => ?_)
      have hO3 := own_set_at hW3 hO2
      have hg3 := grown_set_at hW3 hg2
      clear hW3 hu2 hf2
      refine (markText_v (q + 3) _ W3 (by omega) (by omega)).mono ?_
      rintro _ w4 ⟨rfl, hx4⟩
      have hO4 := own_fr hO3 (hx4.fr _)
      have hg4 := grown_x hg3 hx4
      have hgl4 := (hO4.lt g rfl).2
      clear hO3 hg3 hx4
      have hf3 := (hO4).frozenAt (j * 9 + 3); obtain ⟨u3, hu3⟩ := own_here hO4 (j := j * 9 + 3) (by omega)
      have hf4 := (hO4).frozenAt (j * 9 + 4); obtain ⟨u4, hu4⟩ := own_here hO4 (j := j * 9 + 4) (by omega)
      have hf5 := (hO4).frozenAt (j * 9 + 5); obtain ⟨u5, hu5⟩ := own_here hO4 (j := j * 9 + 5) (by omega)
      have h6 : w4.cell? ⟨g, j * 9 + 6, none⟩ = some (.slice ba bn bc) := by
        refine row_cell hO4 _ _ ?_
        rw [List.getElem?_set_ne (by omega), List.getElem?_set_ne (by omega), List.getElem?_set_ne (by omega), Hqe.out.2.2 j hlt, hbv]
      go_wp2_with fail
      refine calls_name (fun W5 hW5 => ?_)
      have hO5 := own_set_at3 hW5 hO4
      have hg5 := grown_set_at3 hW5 hg4
      clear hW5 hu3 hf3 hu4 hf4 hu5 hf5 h6
      have hob5 := hob.kept hg5 (.inr (own_ne_at hob hb0 (by decide)))
      refine (markStmtS_v _ ba bn bc B (q + 6) _ W5 (by omega) hob5 (by omega) (by omega)).mono ?_
      rintro _ w6 ⟨rfl, hob6, hg6⟩
      have hO6 := hO5.kept hg6 (row_ne hO5 hob5 (by decide))
      have hgl6 := (hO6.lt g rfl).2
      have hf7 := (hO6).frozenAt (j * 9 + 7); obtain ⟨u7, hu7⟩ := own_here hO6 (j := j * 9 + 7) (by omega)
      go_wp2_with fail
      refine calls_name (fun W7 hW7 => ?_)
      have hO7 := own_set_at hW7 hO6
      have hg7 : w6.grownBy W7 (some g) := grown_set_at hW7 (World.grownBy.refl _ _)
      clear hW7 hu7 hf7
      refine (markText_v (q + 7 + 5 * bn) _ W7 (by omega) (by omega)).mono ?_
      rintro _ w8 ⟨rfl, hx8⟩
      have hO8 := own_fr hO7 (hx8.fr _)
      have hg8 := grown_x hg7 hx8
      have hgl8 := (hO8.lt g rfl).2
      clear hO7 hg7 hx8
      have hf8 := (hO8).frozenAt (j * 9 + 8); obtain ⟨u8, hu8⟩ := own_here hO8 (j := j * 9 + 8) (by omega)
      go_upto_region 20 with fail
      refine wp_name (fun W9 hW9 => ?_)
      have hO9 := own_set_at hW9 hO8
      have hg9 : w6.grownBy W9 (some g) := grown_set_at hW9 hg8
      clear hW9 hu8 hf8 hO8 hg8
      go_wp2
      go_roundw
      case rel =>
        obtain ⟨hqe, hxl, hx6⟩ := Hqe.out
        refine ⟨j + 1, q + 8 + 5 * bn, _, by omega, by go_num, by go_num, ?_, by omega, ?_, ?_, hO9, ?_, ?_⟩
        · have h1 := Hw.out j hlt
          rw [hbv] at h1
          have h4 : wtV (.slice ba bn bc) = 8 + 5 * bn := rfl
          omega
        · simp [hxl]
        · intro i hi
          by_cases hij : i = j
          · subst hij
            rw [List.getElem?_set_ne (by omega), List.getElem?_set_ne (by omega), List.getElem?_set_ne (by omega), List.getElem?_set_ne (by omega), List.getElem?_set_ne (by omega), List.getElem?_set_ne (by omega), List.getElem?_set_ne (by omega), List.getElem?_set_ne (by omega)]
            exact hx6 i hi
          · rw [List.getElem?_set_ne (by omega), List.getElem?_set_ne (by omega), List.getElem?_set_ne (by omega), List.getElem?_set_ne (by omega), List.getElem?_set_ne (by omega), List.getElem?_set_ne (by omega), List.getElem?_set_ne (by omega), List.getElem?_set_ne (by omega)]
            exact hx6 i hi
        · intro i hi
          obtain ⟨cs6, hb6⟩ := own_block hO6
          by_cases hij : i = j
          · subst hij
            rw [hbv]
            refine ⟨ba, bn, bc, _, rfl, by omega, hob6.kept hg9 (.inr (own_ne_at hob6 hb6 (by decide)))⟩
          · refine (((hbd i hi).grown hg5 hb0).kept hg6 ?_).grown hg9 hb6
            have hs : (nth vs i).2.ownBlock = none ∨ (nth vs j).2.ownBlock = none ∨ (nth vs i).2.ownBlock ≠ (nth vs j).2.ownBlock := by
              have h := Hsep.out
              unfold SepA at h
              rw [List.pairwise_iff_getElem] at h
              have hvl := Hvn.out
              rw [nth_eq (by omega), nth_eq (by omega)]
              rcases Nat.lt_or_ge i j with h1 | h1
              · rcases h i j (by omega) (by omega) h1 with h | h | h
                · exact .inl h
                · exact .inr (.inl h)
                · exact .inr (.inr (Ne.symm h))
              · rcases h j i (by omega) (by omega) (by omega) with h | h | h
                · exact .inr (.inl h)
                · exact .inl h
                · exact .inr (.inr h)
            rw [hbv] at hs
            rcases hs with h | h | h
            · exact .inl h
            · rw [h]
              cases hx : (nth vs i).2.ownBlock with
              | none => exact .inl rfl
              | some _ => exact .inr (by simp)
            · exact .inr h
        · refine ((hK.trans (Keep.of_grown hg5 (fun b hb => ?_))).trans (Keep.of_grown hg6 (fun b hb => ?_))).trans (Keep.of_grown hg9 (fun b hb => ?_))
          · injection hb with hb; subst hb; exact hgE
          · rw [← hbv] at hb
            exact Hbl.out _ (nth_mem (by rw [Hvn.out]; exact hlt)) b hb
          · injection hb with hb; subst hb; exact hgE
      case measure => simp [intOf]; omega
    · obtain rfl : j = n := by omega
      go_wp2
      go_ret
      exact ⟨q, rfl, hK⟩
theorem ActsO.mark {w0 w : World} {B n c : Nat} {a : Option Addr} {l : List Ac} (h : ActsO w0 B a n c l) (hx : X w0 w) (hn : n ≤ 2097152) {k : Nat} (hk : k + (l.map (fun x => 8 + 5 * x.file.body.length)).sum ≤ 1073741824) (hb : ∀ x ∈ l, x.file.body.length ≤ 1073741824) :
    Calls Tryz.prog 26 #[.slice a n c, .int .i64 (k : Int)] w fun e w' => ∃ q : Nat, e = .returned (.int .i64 (q : Int)) ∧ Keep B w0.heap.size w w' := by
  obtain ⟨vs, e, h1, h2, hs, h3⟩ := h
  have hwt : ∀ (vs : List (Ac × Value)), (∀ x ∈ vs, ∃ ba bc, x.2 = .slice ba x.1.file.body.length bc) → wtVs (vs.map (·.2)) = ((vs.map (·.1)).map (fun x : Ac => 8 + 5 * x.file.body.length)).sum := by
    intro vs
    induction vs with
    | nil => intro _; rfl
    | cons x vs ih =>
      intro hx
      obtain ⟨ba, bc, e⟩ := hx x (List.mem_cons_self ..)
      rw [List.map_cons, List.map_cons, List.map_cons, List.sum_cons, ← ih (fun y hy => hx y (List.mem_cons_of_mem _ hy))]
      show wtV x.2 + _ = _
      rw [e]
      rfl
  refine markActS_e l a n c B w0.heap.size k vs w e h1 (own_fr h2 (hx.fr _)) hs (fun x hm => ?_) (fun b hb => (h2.lt b hb).2) (fun x hm b hbb => ?_) hn ?_
  · obtain ⟨ba, bc, e2, ho⟩ := h3 x hm
    exact ⟨ba, _, bc, _, e2, hb x.1 (by rw [e]; exact List.mem_map.2 ⟨x, hm, rfl⟩), own_fr ho (hx.fr _)⟩
  · obtain ⟨ba, bc, e2, ho⟩ := h3 x hm
    rw [e2] at hbb
    exact (ho.lt b hbb).2
  · rw [hwt vs (fun x hm => let ⟨ba, bc, e2, _⟩ := h3 x hm; ⟨ba, bc, e2⟩), ← e]
    exact hk

end Go.Proofs.YtgjfjjhmgbemcaaGreatDoor

namespace Go.Proofs.YtgjfjjhmgbemcaaGreatDoor
open Go.RowKit

def sameSp (t u : List Fi) (a b : Sp) : Bool := a.kind == b.kind && a.roots == b.roots && (decide (a.file < 0) == decide (b.file < 0)) && (decide (a.file < 0) || sameP (nth t a.file.toNat) (nth u b.file.toNat))
/-- The program's answer. -/
def sameI (t u : List Fi) (path : List Int) : Bool := treeB t && treeB u && pathB path && (foundL t path == foundL u path) && (foundL t path).all fun n => sameSp t u (specB t path n) (specB u path n)
/-- The reference's. -/
def sameS (t u : List Fi) (path : List Int) : Bool := treeB t && treeB u && pathB path && (sortU (allP t ++ allP u)).all fun n => sameSp t u (specB t path n) (specB u path n)
theorem mem_foundL {t : List Fi} {path : List Int} (h : (treeB t && pathB path) = true) {n : List UInt8} : n ∈ foundL t path ↔ canB t path n = true := by
  unfold foundL
  rw [if_pos h, List.mem_filter, (sortU_facts _).2]
  exact ⟨fun h => h.2, fun h => ⟨can_name h, h⟩⟩
theorem found_asc {t : List Fi} {path : List Int} : asc (foundL t path) := by
  unfold foundL
  split
  · exact (sortU_facts _).1.sublist List.filter_sublist
  · exact asc_nil
/-! ### A tree whose files lie where they lay -/
theorem fidx_places {t u : List Fi} (hl : t.length = u.length) (h : ∀ k, k < t.length → sameP (nth t k) (nth u k) = true) (g : Fi) : fidx t g = fidx u g := by
  unfold fidx
  rw [← hl]
  refine firstN_congr fun k hk => ?_
  have h1 := sameP_iff.1 (h k hk)
  rw [Bool.eq_iff_iff, sameP_iff, sameP_iff, h1.1, h1.2.1, h1.2.2.1, h1.2.2.2]
theorem dirS_places {t u : List Fi} (hl : t.length = u.length) (h : ∀ k, k < t.length → sameP (nth t k) (nth u k) = true) (r : Int) (p : List UInt8) : dirS t r p = dirS u r p := by
  unfold dirS
  rw [← hl]
  congr 1
  refine anyN_congr fun k hk => ?_
  have h1 := sameP_iff.1 (h k hk)
  rw [h1.1, h1.2.1]
theorem findGo_places {t u : List Fi} (hi : ∀ g, fidx t g = fidx u g) (hd : ∀ r p, dirS t r p = dirS u r p) (p s : List UInt8) : ∀ (path acc : List Int), findGo t p s path acc = findGo u p s path acc
  | [], acc => by rw [findGo, findGo]
  | r :: rs, acc => by
    rw [findGo, findGo, hi, hi, hd]
    simp only [findGo_places hi hd p s rs]
theorem specGo_places {t u : List Fi} (hi : ∀ g, fidx t g = fidx u g) (hd : ∀ r p, dirS t r p = dirS u r p) : ∀ (ps : List (List UInt8)) (p : List UInt8) (o : Sp), specGo t ps p o = specGo u ps p o
  | [], _, _ => rfl
  | q :: qs, p, o => by
    unfold specGo findF
    rw [findGo_places hi hd]
    simp only [specGo_places hi hd qs]
theorem specB_places {t u : List Fi} (ht : treeB t = true) (hu : treeB u = true) (hl : t.length = u.length) (h : ∀ k, k < t.length → sameP (nth t k) (nth u k) = true) (path : List Int) (n : List UInt8) : specB t path n = specB u path n := by
  unfold specB specF
  rw [ht, hu, specGo_places (fidx_places hl h) (dirS_places hl h)]
theorem same_places {t u : List Fi} (ht : treeB t = true) (hu : treeB u = true) (hl : t.length = u.length) (h : ∀ k, k < t.length → sameP (nth t k) (nth u k) = true) {path : List Int} (hp : pathB path = true) : sameI t u path = true := by
  have hs := specB_places ht hu hl h path
  have h1 : (treeB t && pathB path) = true := by rw [ht, hp]; rfl
  have h2 : (treeB u && pathB path) = true := by rw [hu, hp]; rfl
  unfold sameI
  simp only [Bool.and_eq_true, beq_iff_eq, List.all_eq_true]
  refine ⟨⟨⟨⟨ht, hu⟩, hp⟩, asc_ext found_asc found_asc fun x => by rw [mem_foundL h1, mem_foundL h2, canB, canB, hs]⟩, fun n _ => ?_⟩
  rw [← hs]
  unfold sameSp
  by_cases hf : (specB t path n).file < 0
  · simp [hf]
  · obtain ⟨j, hj, e, _⟩ := specFile_law (l := t) (path := path) (s := n) (by omega)
    have : sameP (nth t (specB t path n).file.toNat) (nth u (specB t path n).file.toNat) = true := by
      rw [e]
      exact h _ (by omega)
    simp [this]

/-! ### A tree without a hidden file -/
def shiftI (h : Nat) (j : Int) : Int := if (h : Int) < j then j - 1 else j
def shiftS (h : Nat) (o : Sp) : Sp := { o with file := shiftI h o.file }
end Go.Proofs.YtgjfjjhmgbemcaaGreatDoor

namespace Go.Proofs.YtgjfjjhmgbemcaaGreatDoor
open Go.RowKit

def edF (f : Fi) (st : Int) (b : List St) : Fi := { f with stamp := st, body := b }
def edB (l : List Fi) (i st : Int) (b : List St) : Bool := treeB l && rangeB i 0 ((l.length : Int) - 1) && rangeB st 0 99 && bodyB b
def edL (l : List Fi) (i st : Int) (b : List St) : List Fi := if edB l i st b then l.set i.toNat (edF (nth l i.toNat) st b) else []
theorem nth_setF {l : List Fi} {i k : Nat} {d : Fi} (hi : i < l.length) : nth (l.set i d) k = if k = i then d else nth l k := by
  unfold nth
  rw [List.getD_eq_getElem?_getD, List.getElem?_set]
  split
  · rename_i h
    subst h
    simp
  · rename_i h
    rw [if_neg (fun e => h e.symm), List.getD_eq_getElem?_getD]
theorem edit_place {l : List Fi} {i k : Nat} {st : Int} {b : List St} (hi : i < l.length) : sameP (nth l k) (nth (l.set i (edF (nth l i) st b)) k) = true := by
  rw [nth_setF hi]
  split
  · rename_i h
    subst h
    exact sameP_refl _
  · exact sameP_refl _
theorem fileB_edit {f : Fi} {st : Int} {b : List St} (h : fileB f = true) : fileB (edF f st b) = (rangeB st 0 99 && bodyB b) := by
  obtain ⟨h1, h2, h3, h4, h5⟩ : rangeB f.root 0 2 = true ∧ pkgB f.pkg = true ∧ rangeB f.stamp 0 99 = true ∧ bodyB f.body = true ∧ (if f.init then !f.pkg.isEmpty && f.name.isEmpty else partB f.name && nameB (childL f.pkg f.name)) = true := by
    unfold fileB at h
    simp only [Bool.and_eq_true] at h
    exact ⟨h.1.1.1.1, h.1.1.1.2, h.1.1.2, h.1.2, h.2⟩
  unfold fileB edF
  simp only
  rw [h1, h2, h5]
  simp
theorem treeB_edit {l : List Fi} {i : Nat} {st : Int} {b : List St} (h : treeB l = true) (hi : i < l.length) : treeB (l.set i (edF (nth l i) st b)) = (rangeB st 0 99 && bodyB b) := by
  have hf := fileB_edit (st := st) (b := b) (treeB_file h hi)
  cases hv : (rangeB st 0 99 && bodyB b)
  · rw [Bool.eq_false_iff]
    intro ht
    have := treeB_file ht (k := i) (by rw [List.length_set]; exact hi)
    rw [nth_setF hi, if_pos rfl, hf, hv] at this
    cases this
  · unfold treeB at h ⊢
    rw [Bool.and_eq_true, allN_iff] at h
    rw [List.length_set, Bool.and_eq_true, allN_iff]
    refine ⟨fun k hk => ?_, h.2⟩
    have h1 := h.1 k hk
    rw [Bool.and_eq_true, Bool.not_eq_true'] at h1 ⊢
    have hp : ∀ j k, sameP (nth (l.set i (edF (nth l i) st b)) j) (nth (l.set i (edF (nth l i) st b)) k) = sameP (nth l j) (nth l k) := fun j k => by
      have e1 := sameP_iff.1 (edit_place (l := l) (i := i) (k := j) (st := st) (b := b) hi)
      have e2 := sameP_iff.1 (edit_place (l := l) (i := i) (k := k) (st := st) (b := b) hi)
      rw [Bool.eq_iff_iff, sameP_iff, sameP_iff, ← e1.1, ← e1.2.1, ← e1.2.2.1, ← e1.2.2.2, ← e2.1, ← e2.2.1, ← e2.2.2.1, ← e2.2.2.2]
    refine ⟨?_, by simp only [hp]; exact h1.2⟩
    rw [nth_setF hi]
    split
    · rw [hf, hv]
    · exact h1.1
theorem edit_back {l : List Fi} {i : Nat} {st : Int} {b : List St} (hi : i < l.length) : (l.set i (edF (nth l i) st b)).set i (edF (nth (l.set i (edF (nth l i) st b)) i) (nth l i).stamp (nth l i).body) = l := by
  rw [List.set_set, nth_setF hi, if_pos rfl]
  show l.set i (nth l i) = l
  rw [nth_eq hi, List.set_getElem_self]
/-- What an edit leaves. -/
theorem edit_law {l : List Fi} {i st : Int} {b : List St} (h : edB l i st b = true) :
    edB (edL l i st b) i (nth l i.toNat).stamp (nth l i.toNat).body = true ∧ edL (edL l i st b) i (nth l i.toNat).stamp (nth l i.toNat).body = l ∧ ∀ path, pathB path = true → sameI l (edL l i st b) path = true := by
  have hb := h
  unfold edB at h
  simp only [Bool.and_eq_true] at h
  obtain ⟨⟨⟨ht, hr⟩, hs⟩, hbd⟩ := h
  obtain ⟨h0, h1⟩ := rangeB_iff.1 hr
  have hi : i.toNat < l.length := by omega
  have e : edL l i st b = l.set i.toNat (edF (nth l i.toNat) st b) := by rw [edL, if_pos hb]
  have hf := treeB_file ht hi
  have hfp : rangeB (nth l i.toNat).stamp 0 99 = true ∧ bodyB (nth l i.toNat).body = true := by
    unfold fileB at hf
    simp only [Bool.and_eq_true] at hf
    exact ⟨hf.1.1.2, hf.1.2⟩
  have hu : treeB (edL l i st b) = true := by rw [e, treeB_edit ht hi, hs, hbd]; rfl
  have hl : (edL l i st b).length = l.length := by rw [e, List.length_set]
  have hb2 : edB (edL l i st b) i (nth l i.toNat).stamp (nth l i.toNat).body = true := by
    unfold edB
    rw [hu, hl, hr, hfp.1, hfp.2]
    rfl
  refine ⟨hb2, ?_, fun path hp => ?_⟩
  · have e2 : edL (edL l i st b) i (nth l i.toNat).stamp (nth l i.toNat).body = (edL l i st b).set i.toNat (edF (nth (edL l i st b) i.toNat) (nth l i.toNat).stamp (nth l i.toNat).body) := by rw [edL, if_pos hb2]
    rw [e2, e]
    exact edit_back hi
  · refine same_places ht hu hl.symm (fun k _ => ?_) hp
    rw [e]
    exact edit_place hi
end Go.Proofs.YtgjfjjhmgbemcaaGreatDoor

namespace Go.Proofs.YtgjfjjhmgbemcaaGreatDoor
open Go.RowKit

structure Dk where
  l : List Fi
  kk : Int
  dl : List Di
deriving DecidableEq, Inhabited
def dk0 : Dk := ⟨[], 0, []⟩
def Dk.ok (d : Dk) : Bool := diskB d.l d.kk d.dl
def actB (a : Ac) : Bool := if a.kind = 0 then fileB a.file else if a.kind = 1 then true else if a.kind = 2 then bodyB a.file.body else if a.kind = 3 then nameB a.name else false
def stF (f : Fi) (st : Int) : Fi := { f with stamp := st }
def dAddB (d : Dk) (f : Fi) (t : Int) : Bool := d.ok && chB (d.l ++ [f]) d.kk d.dl f.root f.pkg t
def dAddD (d : Dk) (f : Fi) (t : Int) : Dk := ⟨d.l ++ [f], d.kk + t, chD d.dl f.root f.pkg (d.kk + t)⟩
def dRemB (d : Dk) (i t : Int) : Bool := d.ok && rangeB i 0 ((d.l.length : Int) - 1) && chB (d.l.eraseIdx i.toNat) d.kk d.dl (nth d.l i.toNat).root (nth d.l i.toNat).pkg t
def dRemD (d : Dk) (i t : Int) : Dk := ⟨d.l.eraseIdx i.toNat, d.kk + t, chD d.dl (nth d.l i.toNat).root (nth d.l i.toNat).pkg (d.kk + t)⟩
def dEdB (d : Dk) (i t : Int) (b : List St) : Bool := edB d.l i (d.kk + t) b && diskB (edL d.l i (d.kk + t) b) (d.kk + t) d.dl
def dEdD (d : Dk) (i t : Int) (b : List St) : Dk := ⟨edL d.l i (d.kk + t) b, d.kk + t, d.dl⟩
def chgB (d : Dk) (a : Ac) (t : Int) : Bool := if a.kind = 0 then dAddB d (stF a.file (d.kk + t)) t else if a.kind = 1 then dRemB d a.idx t else dEdB d a.idx t a.file.body
def chgD (d : Dk) (a : Ac) (t : Int) : Dk := if a.kind = 0 then dAddD d (stF a.file (d.kk + t)) t else if a.kind = 1 then dRemD d a.idx t else dEdD d a.idx t a.file.body
def stepD (t : Int) (d : Dk) (a : Ac) : Dk := if a.kind = 3 then d else if chgB d a t then chgD d a t else d
def afterD (t : Int) (acs : List Ac) : Dk := acs.foldl (stepD t) dk0
theorem dk0_ok : dk0.ok = true := by decide
theorem diskB_tree {l : List Fi} {kk : Int} {dl : List Di} (h : diskB l kk dl = true) : treeB l = true := by
  unfold diskB at h
  simp only [Bool.and_eq_true] at h
  exact h.1.1
theorem chg_ok {d : Dk} {a : Ac} {t : Int} (h : chgB d a t = true) : (chgD d a t).ok = true := by
  unfold chgB at h
  unfold chgD
  split at h
  · rename_i h0
    rw [if_pos h0]
    unfold dAddB at h
    exact chB_disk ((Bool.and_eq_true _ _ ▸ h).2)
  · rename_i h0
    rw [if_neg h0]
    split at h
    · rename_i h1
      rw [if_pos h1]
      unfold dRemB at h
      exact chB_disk ((Bool.and_eq_true _ _ ▸ h).2)
    · rename_i h1
      rw [if_neg h1]
      unfold dEdB at h
      exact (Bool.and_eq_true _ _ ▸ h).2
theorem chg_kk (d : Dk) (a : Ac) (t : Int) : (chgD d a t).kk = d.kk + t := by
  unfold chgD
  split
  · rfl
  · split <;> rfl
/-- Later stamps are allowed too: an edit leaves the disk valid. -/
theorem dirs_mono {dl : List Di} {a b nm : Int} (h : dirsB dl a nm = true) (hab : a ≤ b) : dirsB dl b nm = true := by
  unfold dirsB at h ⊢
  rw [Bool.and_eq_true, allN_iff] at h ⊢
  refine ⟨fun k hk => ?_, h.2⟩
  have h1 := h.1 k hk
  unfold dirB at h1 ⊢
  simp only [Bool.and_eq_true] at h1 ⊢
  obtain ⟨⟨⟨⟨h2, h3⟩, h4⟩, h5⟩, h6⟩ := h1
  refine ⟨⟨⟨⟨h2, h3⟩, ?_⟩, h5⟩, h6⟩
  rw [rangeB_iff] at h4 ⊢
  omega
theorem edit_disk {l : List Fi} {kk t i st : Int} {b : List St} {dl : List Di} (h : diskB l kk dl = true) (he : edB l i st b = true) (h0 : 0 ≤ t) (h1 : kk + t ≤ 200) : diskB (edL l i st b) (kk + t) dl = true := by
  have hu : treeB (edL l i st b) = true := by
    have := (edit_law he).1
    unfold edB at this
    simp only [Bool.and_eq_true] at this
    exact this.1.1.1
  unfold diskB at h ⊢
  simp only [Bool.and_eq_true] at h ⊢
  have h2 := rangeB_iff.1 h.1.2
  exact ⟨⟨hu, rangeB_iff.2 (by omega)⟩, dirs_mono h.2 (by omega)⟩
theorem step_ok {t : Int} {d : Dk} {a : Ac} (h : d.ok = true) : (stepD t d a).ok = true := by
  unfold stepD
  split
  · exact h
  · split
    · rename_i h1
      exact chg_ok h1
    · exact h
theorem step_kk (t : Int) (d : Dk) (a : Ac) : (stepD t d a).kk = d.kk + (if a.kind ≠ 3 ∧ chgB d a t = true then 1 else 0) * t := by
  unfold stepD
  by_cases h : a.kind = 3
  · rw [if_pos h, if_neg (fun h2 => h2.1 h)]
    omega
  · rw [if_neg h]
    by_cases h2 : chgB d a t = true
    · rw [if_pos h2, if_pos ⟨h, h2⟩, chg_kk]
      omega
    · rw [if_neg h2, if_neg (fun h3 => h2 h3.2)]
      omega
theorem after_next {t : Int} {acs : List Ac} {k : Nat} (hk : k < acs.length) : afterD t (acs.take (k + 1)) = stepD t (afterD t (acs.take k)) (nth acs k) := by
  unfold afterD
  rw [take_succ_nth hk, List.foldl_append]
  rfl
/-- How many changes were possible. -/
def cntK (t : Int) (acs : List Ac) : Nat → Int
  | 0 => 0
  | k + 1 => cntK t acs k + if (nth acs k).kind ≠ 3 ∧ chgB (afterD t (acs.take k)) (nth acs k) t = true then 1 else 0
theorem cntK_le (t : Int) (acs : List Ac) : ∀ k : Nat, 0 ≤ cntK t acs k ∧ cntK t acs k ≤ (k : Int)
  | 0 => by simp [cntK]
  | k + 1 => by
    have := cntK_le t acs k
    unfold cntK
    split <;> omega
theorem after_law {t : Int} {acs : List Ac} : ∀ k : Nat, k ≤ acs.length → (afterD t (acs.take k)).ok = true ∧ (afterD t (acs.take k)).kk = cntK t acs k * t
  | 0, _ => ⟨by rw [List.take_zero]; exact dk0_ok, by simp [cntK, afterD, dk0]⟩
  | k + 1, hk => by
    obtain ⟨h1, h2⟩ := after_law (t := t) (acs := acs) k (by omega)
    rw [after_next (by omega)]
    refine ⟨step_ok h1, ?_⟩
    rw [step_kk, h2]
    show _ = (cntK t acs k + _) * t
    rw [Int.add_mul]
/-- Of a session of at most 20 acts with at most 4 ticks each the clock stays small: so no stamp is cut. -/
theorem after_small {t : Int} {acs : List Ac} {k : Nat} (hk : k ≤ acs.length) (hl : acs.length ≤ 20) (h0 : 0 ≤ t) (h4 : t ≤ 4) : 0 ≤ (afterD t (acs.take k)).kk ∧ (afterD t (acs.take k)).kk ≤ 80 := by
  rw [(after_law k hk).2]
  obtain ⟨h1, h2⟩ := cntK_le t acs k
  have h5 : cntK t acs k ≤ 20 := by omega
  constructor
  · exact Int.mul_nonneg h1 h0
  · calc cntK t acs k * t ≤ 20 * t := Int.mul_le_mul_of_nonneg_right h5 h0
      _ ≤ 80 := by omega
end Go.Proofs.YtgjfjjhmgbemcaaGreatDoor

namespace Go.Proofs.YtgjfjjhmgbemcaaGreatDoor
open Go.RowKit

theorem fcells_6 (x : Fi × Value) : (fcells x).length = 6 := rfl
theorem flat_set : ∀ {vs : List (Fi × Value)} {k j : Nat} {u : Value} {y : Fi × Value} (hk : k < vs.length), j < 6 → fcells y = (fcells vs[k]).set j u → (vs.flatMap fcells).set (k * 6 + j) u = (vs.set k y).flatMap fcells
  | [], k, j, u, y, hk, _, _ => absurd hk (by simp)
  | x :: vs, 0, j, u, y, hk, hj, h => by
    rw [List.flatMap_cons, List.set_cons_zero, List.flatMap_cons, List.set_append_left _ _ (by rw [fcells_6]; omega)]
    rw [h, Nat.zero_mul, Nat.zero_add]
    rfl
  | x :: vs, k + 1, j, u, y, hk, hj, h => by
    rw [List.flatMap_cons, List.set_cons_succ, List.flatMap_cons, List.set_append_right _ _ (by rw [fcells_6]; omega)]
    congr 1
    rw [fcells_6, show (k + 1) * 6 + j - 6 = k * 6 + j by omega]
    exact flat_set (by simpa using hk) hj (by simpa using h)
theorem pair_set {α : Type} {R : α → α → Prop} : ∀ {l : List α} {k : Nat} {y : α}, l.Pairwise R → (∀ x ∈ l, R x y ∧ R y x) → (l.set k y).Pairwise R
  | [], k, y, _, _ => by simp
  | x :: l, 0, y, h, hy => by
    rw [List.set_cons_zero, List.pairwise_cons]
    rw [List.pairwise_cons] at h
    exact ⟨fun z hz => (hy z (List.mem_cons_of_mem _ hz)).2, h.2⟩
  | x :: l, k + 1, y, h, hy => by
    rw [List.set_cons_succ, List.pairwise_cons]
    rw [List.pairwise_cons] at h
    refine ⟨fun z hz => ?_, pair_set h.2 fun z hz => hy z (List.mem_cons_of_mem _ hz)⟩
    rcases List.mem_or_eq_of_mem_set hz with hz | rfl
    · exact h.1 z hz
    · exact (hy x (List.mem_cons_self ..)).1
theorem sep_same : ∀ {vs : List (Fi × Value)} {k : Nat} {y : Fi × Value} (hk : k < vs.length), y.2 = vs[k].2 → Sep vs → Sep (vs.set k y)
  | [], k, y, hk, _, _ => absurd hk (by simp)
  | x :: vs, 0, y, hk, h, hs => by
    unfold Sep at hs ⊢
    rw [List.set_cons_zero, List.pairwise_cons]
    rw [List.pairwise_cons] at hs
    refine ⟨fun z hz => ?_, hs.2⟩
    have h2 : y.2 = x.2 := h
    rw [h2]
    exact hs.1 z hz
  | x :: vs, k + 1, y, hk, h, hs => by
    unfold Sep at hs ⊢
    rw [List.set_cons_succ, List.pairwise_cons]
    rw [List.pairwise_cons] at hs
    refine ⟨fun z hz => ?_, sep_same (by simpa using hk) (by simpa using h) hs.2⟩
    rcases List.mem_or_eq_of_mem_set hz with hz | rfl
    · exact hs.1 z hz
    · have hk2 : k < vs.length := by simpa using hk
      have := hs.1 vs[k] (List.getElem_mem _)
      have h2 : z.2 = vs[k].2 := by simpa using h
      rw [h2]
      exact this
theorem map_set_fst {vs : List (Fi × Value)} {k : Nat} {y : Fi × Value} : (vs.set k y).map (·.1) = (vs.map (·.1)).set k y.1 := List.map_set ..
theorem nth_fst {vs : List (Fi × Value)} {k : Nat} (hk : k < vs.length) : nth (vs.map (·.1)) k = vs[k].1 := by
  rw [nth_eq (by rw [List.length_map]; exact hk), List.getElem_map]
/-- The stamp is stored. -/
theorem filesO_stamp {w : World} {B g n c k : Nat} {st : Int} {l : List Fi} (h : FilesO w B (some ⟨g, 0, none⟩) n c l) (hk : k < n) :
    FilesO (w.setCell ⟨g, k * 6 + 4, none⟩ (.int .i64 st)) B (some ⟨g, 0, none⟩) n c (l.set k { nth l k with stamp := st }) := by
  obtain ⟨vs, e, h1, h2, hs, h3⟩ := h
  have hkv : k < vs.length := by rw [h1, e, List.length_map] at hk; exact hk
  obtain ⟨cs, hb⟩ := own_block h2
  refine ⟨vs.set k ({ vs[k].1 with stamp := st }, vs[k].2), ?_, by rw [List.length_set]; exact h1, ?_, sep_same hkv rfl hs, fun x hx => ?_⟩
  · rw [map_set_fst, ← e]
    congr 2
    rw [e, nth_fst hkv]
  · rw [← flat_set hkv (show 4 < 6 by omega) (u := .int .i64 st) rfl]
    exact own_set h2 _
  · have key : ∃ ba bc, x.2 = .slice ba x.1.body.length bc ∧ w.ownsRow B 148 5 (.slice ba x.1.body.length bc) x.1.body.length (x.1.body.flatMap scells) := by
      rcases List.mem_or_eq_of_mem_set hx with hx | rfl
      · exact h3 x hx
      · exact h3 vs[k] (List.getElem_mem _)
    obtain ⟨ba, bc, e1, ho⟩ := key
    exact ⟨ba, bc, e1, own_set_far ho hb (by decide) _ _⟩
/-- The body is stored: its row is one of the call's own, made later than the table. -/
theorem filesO_body {w w' : World} {B g n c k rc : Nat} {rb : Option Addr} {l : List Fi} {b : List St} (h : FilesO w B (some ⟨g, 0, none⟩) n c l) (hk : k < n) (hx : X w w') (hO : w'.ownsRow w.heap.size 148 5 (.slice rb b.length rc) b.length (b.flatMap scells)) (hB : B ≤ w.heap.size) :
    FilesO (w'.setCell ⟨g, k * 6 + 5, none⟩ (.slice rb b.length rc)) B (some ⟨g, 0, none⟩) n c (l.set k { nth l k with body := b }) := by
  obtain ⟨vs, e, h1, h2, hs, h3⟩ := h
  have hkv : k < vs.length := by rw [h1, e, List.length_map] at hk; exact hk
  have h2' := own_fr h2 (hx.fr _)
  obtain ⟨cs, hb⟩ := own_block h2'
  refine ⟨vs.set k ({ vs[k].1 with body := b }, .slice rb b.length rc), ?_, by rw [List.length_set]; exact h1, ?_, ?_, fun x hxm => ?_⟩
  · rw [map_set_fst, ← e]
    congr 2
    rw [e, nth_fst hkv]
  · rw [← flat_set hkv (show 5 < 6 by omega) (u := .slice rb b.length rc) rfl]
    exact own_set h2' _
  · refine pair_set hs fun x hxm => ?_
    obtain ⟨ba, bc, e1, ho⟩ := h3 x hxm
    have := row_far ho rfl hO
    rw [e1]
    rcases this with h | h | h
    · exact ⟨.inl h, .inr (.inl h)⟩
    · exact ⟨.inr (.inl h), .inl h⟩
    · exact ⟨.inr (.inr h), .inr (.inr fun e => h e.symm)⟩
  · rcases List.mem_or_eq_of_mem_set hxm with hxm | rfl
    · obtain ⟨ba, bc, e1, ho⟩ := h3 x hxm
      exact ⟨ba, bc, e1, own_set_far (own_fr ho (hx.fr _)) hb (by decide) _ _⟩
    · exact ⟨rb, rc, rfl, own_set_far (own_less hO hB) hb (by decide) _ _⟩
end Go.Proofs.YtgjfjjhmgbemcaaGreatDoor
