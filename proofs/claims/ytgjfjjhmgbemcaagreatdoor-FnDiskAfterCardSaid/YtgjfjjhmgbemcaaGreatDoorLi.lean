/- Several texts in one: DrawDisk, AnyDisk, AnyFile, DrawDkA, EqTr, Rises, EqDk. No condition but lengths. -/
import Derived.Test.YtgjfjjhmgbemcaaGreatDoorLh
import Derived.Test.YtgjfjjhmgbemcaaGreatDoorId
import Derived.Test.YtgjfjjhmgbemcaaGreatDoorLe
import Derived.Deep.RegionHeld3
import Derived.Test.YtgjfjjhmgbemcaaGreatDoorIa
import Derived.Test.YtgjfjjhmgbemcaaGreatDoorIb
import Derived.Test.YtgjfjjhmgbemcaaGreatDoorLc
import Derived.Test.YtgjfjjhmgbemcaaGreatDoorLa
namespace Go.Proofs.YtgjfjjhmgbemcaaGreatDoor
open Go.RowKit

theorem stmtsS {w : World} {B c : Nat} {a : Option Addr} {l : List St} (h : w.ownsRow B 148 5 (.slice a l.length c) l.length (l.flatMap scells)) (hs : SmallB l) : StmtsAt w B a l.length l :=
  ⟨rfl, by have := hs.1; omega, fun s hm => ⟨by have := (hs.2 s hm).1; omega, by have := (hs.2 s hm).2; omega⟩, Sl.of_own h⟩
/-- A valid disk that is drawn, of the call's own. -/
def DkV (w : World) (B : Nat) (a : Option Addr) (n c : Nat) (kk : Int) (da : Option Addr) (dn dc : Nat) (l : List Fi) (dl : List Di) : Prop :=
  FilesO w B a n c l ∧ DirsO w B da dn dc dl ∧ diskB l kk dl = true ∧ OkL l ∧ OkD dl
theorem DkV.fr {w w' : World} {B n c dn dc : Nat} {kk : Int} {a da : Option Addr} {l : List Fi} {dl : List Di} (h : DkV w B a n c kk da dn dc l dl) (hx : Fr B w w') : DkV w' B a n c kk da dn dc l dl :=
  ⟨h.1.fr hx, h.2.1.fr hx, h.2.2⟩
theorem DkV.less {w : World} {B B' n c dn dc : Nat} {kk : Int} {a da : Option Addr} {l : List Fi} {dl : List Di} (h : DkV w B a n c kk da dn dc l dl) (hB : B' ≤ B) : DkV w B' a n c kk da dn dc l dl :=
  ⟨h.1.less hB, h.2.1.less hB, h.2.2⟩
theorem DirsO.nil (w : World) (B : Nat) : DirsO w B none 0 0 [] := ⟨[], rfl, rfl, ⟨rfl, .inl ⟨rfl, rfl⟩⟩, List.Pairwise.nil, fun _ h => by cases h⟩
theorem okL_nil : OkL [] := ⟨by simp, fun f hf => by cases hf⟩
theorem okD_nil : OkD [] := ⟨by simp, fun f hf => by cases hf⟩
theorem DkV.zero (w : World) (B : Nat) : DkV w B none 0 0 0 none 0 0 [] [] := ⟨FilesO.nil w B, DirsO.nil w B, by decide, okL_nil, okD_nil⟩
theorem DkV.far {w : World} {B n c dn dc b : Nat} {kk : Int} {a da : Option Addr} {l : List Fi} {dl : List Di} {cs : Array Value} {t : TypeId} (h : DkV w B a n c kk da dn dc l dl) (hb : w.heap[b]? = some (.cells cs t (0, 0))) (h1 : 44 ≠ t) (h2 : 148 ≠ t) (h3 : 140 ≠ t) (h4 : 9 ≠ t) (i : Nat) (u : Value) : DkV (w.setCell ⟨b, i, none⟩ u) B a n c kk da dn dc l dl :=
  ⟨(h.1.e.far hb h1 h2 i u).o, h.2.1.far hb h3 h4 i u, h.2.2⟩
/-- What a change leaves in the box of the next disk. -/
def NextP (w : World) (B : Nat) (ok : Bool) (x0 x1 x2 : Value) : Prop :=
  (∃ a0 n0 c0 i1 a2 n2 c2, x0 = .slice a0 n0 c0 ∧ x1 = .int .i64 i1 ∧ x2 = .slice a2 n2 c2) ∧
  (ok = true → ∃ a n c kk da dn dc l dl, x0 = .slice a n c ∧ x1 = .int .i64 kk ∧ x2 = .slice da dn dc ∧ DkV w B a n c kk da dn dc l dl)
theorem NextP.less {w : World} {B B' : Nat} {ok : Bool} {x0 x1 x2 : Value} (h : NextP w B ok x0 x1 x2) (hB : B' ≤ B) : NextP w B' ok x0 x1 x2 :=
  ⟨h.1, fun ho => let ⟨a, n, c, kk, da, dn, dc, l, dl, e0, e1, e2, hk⟩ := h.2 ho; ⟨a, n, c, kk, da, dn, dc, l, dl, e0, e1, e2, hk.less hB⟩⟩
theorem NextP.shape {w : World} {B : Nat} {ok : Bool} {x0 x1 x2 : Value} (h : NextP w B ok x0 x1 x2) : ∃ a0 n0 c0 i1 a2 n2 c2, x0 = .slice a0 n0 c0 ∧ x1 = .int .i64 i1 ∧ x2 = .slice a2 n2 c2 := h.1
def okOf (v : Value) : Bool := match v with
  | .tuple #[_, .bool b] => b
  | _ => false
/-- A box of a disk. -/
def Tk (w : World) (b : Nat) (cs : Array Value) : Prop := w.heap[b]? = some (.cells cs 38 (0, 0))
theorem Tk.bx {w : World} {b : Nat} {cs : Array Value} (h : Tk w b cs) : Bx w b cs := ⟨_, h⟩
theorem Tk.x {w w' : World} {b : Nat} {cs : Array Value} (h : Tk w b cs) (hx : X w w') : Tk w' b cs := at_x2' h hx
theorem Tk.y {rb : Nat} {w w' : World} {b : Nat} {cs : Array Value} (h : Tk w b cs) (hy : Y rb w w') (hne : b ≠ rb) : Tk w' b cs := at_y h hy hne
theorem Tk.far {w : World} {b : Nat} {cs : Array Value} (h : Tk w b cs) {p : Addr} (hne : b ≠ p.block) (v : Value) : Tk (w.setCell p v) b cs := (heap_setCell_other w p b v hne).trans h
theorem Tk.far3 {w : World} {b g : Nat} {cs : Array Value} (h : Tk w b cs) (hne : b ≠ g) (v0 v1 v2 : Value) : Tk (((w.setCell ⟨g, 0, none⟩ v0).setCell ⟨g, 1, none⟩ v1).setCell ⟨g, 2, none⟩ v2) b cs :=
  Tk.far (p := ⟨g, 2, none⟩) (Tk.far (p := ⟨g, 1, none⟩) (Tk.far (p := ⟨g, 0, none⟩) h hne v0) hne v1) hne v2
theorem Tk.set3 {w : World} {b : Nat} {z0 z1 z2 : Value} (h : Tk w b #[z0, z1, z2]) (v0 v1 v2 : Value) : Tk (((w.setCell ⟨b, 0, none⟩ v0).setCell ⟨b, 1, none⟩ v1).setCell ⟨b, 2, none⟩ v2) b #[v0, v1, v2] := heap_set3 h v0 v1 v2
theorem DkV.set3 {w : World} {B n c dn dc b : Nat} {kk : Int} {a da : Option Addr} {l : List Fi} {dl : List Di} {z0 z1 z2 : Value} (h : DkV w B a n c kk da dn dc l dl) (hT : Tk w b #[z0, z1, z2]) (v0 v1 v2 : Value) : DkV (((w.setCell ⟨b, 0, none⟩ v0).setCell ⟨b, 1, none⟩ v1).setCell ⟨b, 2, none⟩ v2) B a n c kk da dn dc l dl :=
  ((h.far hT (by decide) (by decide) (by decide) (by decide) _ _).far (heap_set1 hT) (by decide) (by decide) (by decide) (by decide) _ _).far (heap_set2 hT) (by decide) (by decide) (by decide) (by decide) _ _
theorem NextP.set3 {w : World} {B b : Nat} {ok : Bool} {x0 x1 x2 z0 z1 z2 : Value} (h : NextP w B ok x0 x1 x2) (hT : Tk w b #[z0, z1, z2]) (v0 v1 v2 : Value) : NextP (((w.setCell ⟨b, 0, none⟩ v0).setCell ⟨b, 1, none⟩ v1).setCell ⟨b, 2, none⟩ v2) B ok x0 x1 x2 :=
  ⟨h.1, fun ho => let ⟨a, n, c, kk, da, dn, dc, l, dl, e0, e1, e2, hk⟩ := h.2 ho; ⟨a, n, c, kk, da, dn, dc, l, dl, e0, e1, e2, hk.set3 hT _ _ _⟩⟩
set_option maxRecDepth 100000 in
theorem newDisk_c (w : World) : Calls Tryz.prog 60 #[] w fun e w' => e = .returned (.agg #[.slice none 0 0, .int .i64 0, .slice none 0 0]) ∧ X w w' := by
  go_enter Tryz.func60, Tryz.ntmps60
  go_wp2
  refine bodyPost_row Tryz.results60 rfl (Bx.new w #[.slice none 0 0, .int .i64 0, .slice none 0 0] _) disk_S rfl rfl ?_
  exact ⟨rfl, by (repeat (first | with_reducible exact X.refl _ | with_reducible assumption | with_reducible refine X.setCell ?_ (by first | (simp; done) | (simp; omega)) _ | with_reducible refine X.ext ?_ _ | with_reducible refine X.alloc ?_ _ | with_reducible refine X.drew ?_))⟩

end Go.Proofs.YtgjfjjhmgbemcaaGreatDoor

namespace Go.Proofs.YtgjfjjhmgbemcaaGreatDoor
open Go.RowKit

/-- A disk that is drawn, of the call's own. -/
def AnV (w : World) (B : Nat) (a : Option Addr) (n c : Nat) (da : Option Addr) (dn dc : Nat) (l : List Fi) (dl : List Di) : Prop :=
  FilesO w B a n c l ∧ DirsO w B da dn dc dl ∧ OkL l ∧ OkD dl ∧ n ≤ 12 ∧ dn ≤ 21
theorem AnV.fr {w w' : World} {B n c dn dc : Nat} {a da : Option Addr} {l : List Fi} {dl : List Di} (h : AnV w B a n c da dn dc l dl) (hx : Fr B w w') : AnV w' B a n c da dn dc l dl :=
  ⟨h.1.fr hx, h.2.1.fr hx, h.2.2⟩
theorem AnV.less {w : World} {B B' n c dn dc : Nat} {a da : Option Addr} {l : List Fi} {dl : List Di} (h : AnV w B a n c da dn dc l dl) (hB : B' ≤ B) : AnV w B' a n c da dn dc l dl :=
  ⟨h.1.less hB, h.2.1.less hB, h.2.2⟩
theorem AnV.far {w : World} {B n c dn dc b : Nat} {a da : Option Addr} {l : List Fi} {dl : List Di} {cs : Array Value} {t : TypeId} (h : AnV w B a n c da dn dc l dl) (hb : w.heap[b]? = some (.cells cs t (0, 0))) (h1 : 44 ≠ t) (h2 : 148 ≠ t) (h3 : 140 ≠ t) (h4 : 9 ≠ t) (i : Nat) (u : Value) : AnV (w.setCell ⟨b, i, none⟩ u) B a n c da dn dc l dl :=
  ⟨(h.1.e.far hb h1 h2 i u).o, h.2.1.far hb h3 h4 i u, h.2.2⟩
theorem AnV.set3 {w : World} {B n c dn dc b : Nat} {a da : Option Addr} {l : List Fi} {dl : List Di} {z0 z1 z2 : Value} (h : AnV w B a n c da dn dc l dl) (hT : Tk w b #[z0, z1, z2]) (v0 v1 v2 : Value) : AnV (((w.setCell ⟨b, 0, none⟩ v0).setCell ⟨b, 1, none⟩ v1).setCell ⟨b, 2, none⟩ v2) B a n c da dn dc l dl :=
  ((h.far hT (by decide) (by decide) (by decide) (by decide) _ _).far (heap_set1 hT) (by decide) (by decide) (by decide) (by decide) _ _).far (heap_set2 hT) (by decide) (by decide) (by decide) (by decide) _ _
theorem DkV.any {w : World} {B n c dn dc : Nat} {kk : Int} {a da : Option Addr} {l : List Fi} {dl : List Di} (h : DkV w B a n c kk da dn dc l dl) : AnV w B a n c da dn dc l dl := by
  obtain ⟨h1, h2, h3, h4, h5⟩ := h
  have hw := disk_wt h3
  have e1 := (h1.at h4).len.1
  have e2 := (h2.at h5).len.1
  exact ⟨h1, h2, h4, h5, by omega, by omega⟩
theorem Tk.set2 {w : World} {b : Nat} {z0 z1 z2 : Value} (h : Tk w b #[z0, z1, z2]) (v : Value) : Tk (w.setCell ⟨b, 2, none⟩ v) b #[z0, z1, v] := by
  unfold Tk at *
  simpa using heap_setCell_same _ b 2 _ _ v h

end Go.Proofs.YtgjfjjhmgbemcaaGreatDoor

namespace Go.Proofs.YtgjfjjhmgbemcaaGreatDoor
open Go.RowKit

end Go.Proofs.YtgjfjjhmgbemcaaGreatDoor

namespace Go.Proofs.YtgjfjjhmgbemcaaGreatDoor
open Go.RowKit

theorem ana_cap {w : World} {B n c : Nat} {a : Option Addr} {l : List Fi} (h : FilesO w B a n c l) : n ≤ c := by obtain ⟨_, _, _, hr, _⟩ := h; exact own_cap hr
theorem ana_capD {w : World} {B n c : Nat} {a : Option Addr} {l : List Di} (h : DirsO w B a n c l) : n ≤ c := by obtain ⟨_, _, _, hr, _⟩ := h; exact own_cap hr
/-- What is drawn: a disk, a file, a number. -/
def DrawnDA (w w' : World) (e : Ending) : Prop := ∃ (l : List Fi) (a : Option Addr) (n c : Nat) (kk : Int) (dl : List Di) (da : Option Addr) (dn dc : Nat) (f : Fi) (ba : Option Addr) (bn bc : Nat) (t : Int),
  e = .returned (.tuple #[.agg #[.slice a n c, .int .i64 kk, .slice da dn dc], .agg #[.int .i64 (f).root, .string ⟨(f).pkg.toArray⟩, .string ⟨(f).name.toArray⟩, .bool (f).init, .int .i64 (f).stamp, .slice ba bn bc], .int .i64 t]) ∧ FilesAt w' w.heap.size a n l ∧ n ≤ c ∧ n ≤ 12 ∧ DirsAt w' w.heap.size da dn dl ∧ dn ≤ dc ∧ dn ≤ 21 ∧
    Okf f ∧ StmtsAt w' w.heap.size ba bn f.body ∧ bn ≤ bc ∧ bn ≤ 5 ∧ X w w'
end Go.Proofs.YtgjfjjhmgbemcaaGreatDoor

namespace Go.Proofs.YtgjfjjhmgbemcaaGreatDoor
open Go.RowKit

theorem st_extT {s t : St} (h0 : s.kind = t.kind) (h1 : s.mod = t.mod) (h2 : s.level = t.level) (h3 : s.name = t.name) (h4 : s.val = t.val) : s = t := by
  cases s
  cases t
  simp_all
set_option maxRecDepth 100000 in
set_option maxHeartbeats 2000000 in
theorem equalBody_c (l m : List St) (a a' : Option Addr) (n n' c c' B B' : Nat) (w : World) (hL : StmtsAt w B a n l) (hM : StmtsAt w B' a' n' m) :
    Calls Tryz.prog 166 #[.slice a n c, .slice a' n' c'] w fun e w' => e = .returned (.bool (decide (l = m))) ∧ X w w' := by
  have h1 := hL.1
  have h2 := hM.1
  have hn := hL.2.1
  have Hl := Lib.hid h1
  have Hm := Lib.hid h2
  by_cases hne : n = n'
  · subst hne
    clear h1 h2
    go_enter Tryz.func166, Tryz.ntmps166
    go_wp2
    go_loopw [5] (fun i wr => ∃ k : Nat, k ≤ n ∧ i = .int .i64 k ∧ allN (fun k => decide (nth l k = nth m k)) k = true ∧ ∃ x, wr = World.ext w x) (fun i _ => n - (intOf i).toNat)
    case atStart => exact ⟨0, by omega, rfl, rfl, X.refl _⟩
    case round =>
      obtain ⟨k, hk, rfl, hall, x, rfl⟩ := hrel
      by_cases hlt : k < n
      · obtain ⟨b, off, rfl, _, hb, _, g0, g1, g2, g3, g4⟩ := hL.at_ hlt
        obtain ⟨b', off', rfl, _, hb', _, u0, u1, u2, u3, u4⟩ := hM.at_ hlt
        have hk1 : (k : Int) < (n : Int) := by omega
        generalize hs : nth l k = s at *
        generalize ht : nth m k = t at *
        have Hs := Lib.hid hs
        have Ht := Lib.hid ht
        clear hs ht
        by_cases e0 : s.kind = t.kind
        case neg =>
          go_wp2
          go_region
          go_wp2
          go_ret
          exact ⟨ret_boolW (by rw [decide_eq_false]; intro e; exact e0 (by rw [← Hs.out, ← Ht.out, e])), by (repeat (first | exact X.refl _ | assumption | refine X.ext ?_ _ | refine X.alloc ?_ _ | refine X.drew ?_))⟩
        by_cases e1 : s.mod = t.mod
        case neg =>
          go_wp2
          go_region
          go_wp2
          go_ret
          exact ⟨ret_boolW (by rw [decide_eq_false]; intro e; exact e1 (by rw [← Hs.out, ← Ht.out, e])), by (repeat (first | exact X.refl _ | assumption | refine X.ext ?_ _ | refine X.alloc ?_ _ | refine X.drew ?_))⟩
        by_cases e2 : s.level = t.level
        case neg =>
          go_wp2
          go_region
          go_wp2
          go_ret
          exact ⟨ret_boolW (by rw [decide_eq_false]; intro e; exact e2 (by rw [← Hs.out, ← Ht.out, e])), by (repeat (first | exact X.refl _ | assumption | refine X.ext ?_ _ | refine X.alloc ?_ _ | refine X.drew ?_))⟩
        by_cases e3 : s.name = t.name
        case neg =>
          go_wp2
          go_region
          go_wp2
          go_ret
          exact ⟨ret_boolW (by rw [decide_eq_false]; intro e; exact e3 (by rw [← Hs.out, ← Ht.out, e])), by (repeat (first | exact X.refl _ | assumption | refine X.ext ?_ _ | refine X.alloc ?_ _ | refine X.drew ?_))⟩
        by_cases e4 : s.val = t.val
        case neg =>
          go_wp2
          go_region
          go_wp2
          go_ret
          exact ⟨ret_boolW (by rw [decide_eq_false]; intro e; exact e4 (by rw [← Hs.out, ← Ht.out, e])), by (repeat (first | exact X.refl _ | assumption | refine X.ext ?_ _ | refine X.alloc ?_ _ | refine X.drew ?_))⟩
        go_wp2
        go_region
        go_wp2
        go_roundw
        case rel => exact ⟨k + 1, by omega, by go_num, allN_next hall (decide_eq_true (by rw [Hs.out, Ht.out]; exact st_extT e0 e1 e2 e3 e4)), by (repeat (first | exact X.refl _ | assumption | refine X.ext ?_ _ | refine X.alloc ?_ _ | refine X.drew ?_))⟩
        case measure => simp [intOf]; omega
      · obtain rfl : k = n := by omega
        go_wp2
        go_ret
        refine ⟨ret_boolW ?_, by (repeat (first | exact X.refl _ | assumption | refine X.ext ?_ _ | refine X.alloc ?_ _ | refine X.drew ?_))⟩
        rw [decide_eq_true]
        exact nth_ext2 (by rw [← Hl.out, ← Hm.out]) fun j hj => of_decide_eq_true (allN_iff.1 hall j (by rw [Hl.out]; exact hj))
  · go_enter Tryz.func166, Tryz.ntmps166
    go_wp2
    go_ret
    exact ⟨ret_boolW (by rw [decide_eq_false]; intro e; apply hne; rw [h1, h2, e]), by (repeat (first | exact X.refl _ | assumption | refine X.ext ?_ _ | refine X.alloc ?_ _ | refine X.drew ?_))⟩

set_option maxRecDepth 100000 in
set_option maxHeartbeats 1000000 in
theorem equalFile_c (f g : Fi) (ba ba' : Option Addr) (bn bc bn' bc' B B' : Nat) (w : World) (hS : StmtsAt w B ba bn f.body) (hS' : StmtsAt w B' ba' bn' g.body) :
    Calls Tryz.prog 124 #[.agg #[.int .i64 (f).root, .string ⟨(f).pkg.toArray⟩, .string ⟨(f).name.toArray⟩, .bool (f).init, .int .i64 (f).stamp, .slice ba bn bc], .agg #[.int .i64 (g).root, .string ⟨(g).pkg.toArray⟩, .string ⟨(g).name.toArray⟩, .bool (g).init, .int .i64 (g).stamp, .slice ba' bn' bc']] w fun e w' => e = .returned (.bool (decide (f = g))) ∧ X w w' := by
  obtain ⟨r, pk, nm, it, st, bo⟩ := f
  obtain ⟨r', pk', nm', it', st', bo'⟩ := g
  have hR : decide ((⟨r, pk, nm, it, st, bo⟩ : Fi) = ⟨r', pk', nm', it', st', bo'⟩) = ((r == r') && (pk == pk') && (nm == nm') && (it == it') && (st == st') && decide (bo = bo')) := by
    rw [Bool.eq_iff_iff]; simp [and_assoc]
  rw [hR]
  clear hR
  cases h1 : r == r'
  · go_enter Tryz.func124, Tryz.ntmps124
    go_wp2
    go_ret
    exact ⟨by simp, by (repeat (first | exact X.refl _ | assumption | refine X.ext ?_ _ | refine X.alloc ?_ _ | refine X.drew ?_))⟩
  cases h2 : pk == pk'
  · go_enter Tryz.func124, Tryz.ntmps124
    go_wp2
    go_ret
    exact ⟨by simp, by (repeat (first | exact X.refl _ | assumption | refine X.ext ?_ _ | refine X.alloc ?_ _ | refine X.drew ?_))⟩
  cases h3 : nm == nm'
  · go_enter Tryz.func124, Tryz.ntmps124
    go_wp2
    go_ret
    exact ⟨by simp, by (repeat (first | exact X.refl _ | assumption | refine X.ext ?_ _ | refine X.alloc ?_ _ | refine X.drew ?_))⟩
  cases h4 : it == it'
  · go_enter Tryz.func124, Tryz.ntmps124
    go_wp2
    go_ret
    exact ⟨by simp, by (repeat (first | exact X.refl _ | assumption | refine X.ext ?_ _ | refine X.alloc ?_ _ | refine X.drew ?_))⟩
  cases h5 : st == st'
  · go_enter Tryz.func124, Tryz.ntmps124
    go_wp2
    go_ret
    exact ⟨by simp, by (repeat (first | exact X.refl _ | assumption | refine X.ext ?_ _ | refine X.alloc ?_ _ | refine X.drew ?_))⟩
  cases h6 : decide (bo = bo')
  all_goals
    go_enter Tryz.func124, Tryz.ntmps124
    go_wp2_with (go_at_call 166; refine (equalBody_c bo bo' _ _ _ _ _ _ _ _ _ (hS.mono (X.fr (by (repeat (first | exact X.refl _ | assumption | refine X.ext ?_ _ | refine X.alloc ?_ _ | refine X.drew ?_))) _)) (hS'.mono (X.fr (by (repeat (first | exact X.refl _ | assumption | refine X.ext ?_ _ | refine X.alloc ?_ _ | refine X.drew ?_))) _))).mono ?_; rintro _ _ ⟨rfl, hx⟩; replace hx := X.trans (a := w) (by (repeat (first | exact X.refl _ | assumption | refine X.ext ?_ _ | refine X.alloc ?_ _ | refine X.drew ?_))) hx; obtain ⟨x, rfl⟩ := hx; rw [h6])
    go_ret
    exact ⟨by simp, by (repeat (first | exact X.refl _ | assumption | refine X.ext ?_ _ | refine X.alloc ?_ _ | refine X.drew ?_))⟩

set_option maxRecDepth 100000 in
set_option maxHeartbeats 2000000 in
theorem equalTree_c (l m : List Fi) (a a' : Option Addr) (n n' c c' B B' : Nat) (w : World) (hL : FilesAt w B a n l) (hM : FilesAt w B' a' n' m) :
    Calls Tryz.prog 72 #[.agg #[.slice a n c], .agg #[.slice a' n' c']] w fun e w' => e = .returned (.bool (decide (l = m))) ∧ X w w' := by
  have h1 := hL.len.1
  have h2 := hM.len.1
  have hn := hL.len.2
  have Hl := Lib.hid h1
  have Hm := Lib.hid h2
  by_cases hne : n = n'
  · subst hne
    clear h1 h2
    go_enter Tryz.func72, Tryz.ntmps72
    go_wp2
    refine wp_name (fun W hW => ?_)
    obtain ⟨hB1, hB2, hX⟩ := bx2 hW
    clear hW
    replace hL := hL.mono (hX.fr _)
    replace hM := hM.mono (hX.fr _)
    obtain ⟨lt1, q1, _⟩ := hB1.out
    obtain ⟨lt2, q2, _⟩ := hB2.out
    have t1 := q1 0
    have t2 := q2 0
    clear q1 q2
    go_loopw [5] (fun i wr => ∃ k : Nat, k ≤ n ∧ i = .int .i64 k ∧ allN (fun k => decide (nth l k = nth m k)) k = true ∧ ∃ x, wr = World.ext W x) (fun i _ => n - (intOf i).toNat)
    case atStart => exact ⟨0, by omega, rfl, rfl, X.refl _⟩
    case round =>
      obtain ⟨k, hk, rfl, hall, x, rfl⟩ := hrel
      by_cases hlt : k < n
      · obtain ⟨b, off, ba, bn, bc, rfl, _, hb, _, _, hS, g0, g1, g2, g3, g4, g5⟩ := hL.at_ hlt
        obtain ⟨b', off', ba', bn', bc', rfl, _, hb', _, _, hS', u0, u1, u2, u3, u4, u5⟩ := hM.at_ hlt
        cases hd : decide (nth l k = nth m k)
        all_goals
          go_wp2
          refine wp_region_grow (by kernel_rfl) (by kernel_rfl) ?_
          repeat (go_big_quiet_step (((go_at_call 124; refine grow_of (equalFile_c (nth l k) (nth m k) ba ba' bn bc bn' bc' _ _ _ (hS.mono (X.fr (by (repeat (first | exact X.refl _ | assumption | refine X.ext ?_ _ | refine X.alloc ?_ _ | refine X.drew ?_))) _)) (hS'.mono (X.fr (by (repeat (first | exact X.refl _ | assumption | refine X.ext ?_ _ | refine X.alloc ?_ _ | refine X.drew ?_))) _)))))))
          refine wpQuiet_nil ?_
          rintro _ ⟨y, rfl⟩
          go_wp2
        · go_ret
          have hs : ¬ nth l k = nth m k := of_decide_eq_false hd
          exact ⟨ret_boolW (by rw [decide_eq_false]; intro e; exact hs (by rw [e])), hX.trans (by (repeat (first | exact X.refl _ | assumption | refine X.ext ?_ _ | refine X.alloc ?_ _ | refine X.drew ?_)))⟩
        · go_roundw
          case rel => exact ⟨k + 1, by omega, by go_num, allN_next hall hd, _, rfl⟩
          case measure => simp [intOf]; omega
      · obtain rfl : k = n := by omega
        go_wp2
        go_ret
        refine ⟨ret_boolW ?_, hX.trans (by (repeat (first | exact X.refl _ | assumption | refine X.ext ?_ _ | refine X.alloc ?_ _ | refine X.drew ?_)))⟩
        rw [decide_eq_true]
        exact nth_ext2 (by rw [← Hl.out, ← Hm.out]) fun j hj => of_decide_eq_true (allN_iff.1 hall j (by rw [Hl.out]; exact hj))
  · go_enter Tryz.func72, Tryz.ntmps72
    go_wp2
    go_ret
    exact ⟨ret_boolW (by rw [decide_eq_false]; intro e; apply hne; rw [h1, h2, e]), by (repeat (first | exact X.refl _ | assumption | refine X.ext ?_ _ | refine X.alloc ?_ _ | refine X.drew ?_))⟩

end Go.Proofs.YtgjfjjhmgbemcaaGreatDoor

namespace Go.Proofs.YtgjfjjhmgbemcaaGreatDoor
open Go.RowKit

set_option maxRecDepth 100000 in
set_option maxHeartbeats 1000000 in
theorem equalTexts_c (l m : List (List UInt8)) (a a' : Option Addr) (n n' c c' B B' : Nat) (w : World) (hL : StrsAt w B a n l) (hM : StrsAt w B' a' n' m) :
    Calls Tryz.prog 125 #[.slice a n c, .slice a' n' c'] w fun e w' => e = .returned (.bool (decide (l = m))) ∧ X w w' := by
  have h1 := hL.1
  have h2 := hM.1
  have hn := hL.2.1
  have Hl := Lib.hid h1
  have Hm := Lib.hid h2
  by_cases hne : n = n'
  · subst hne
    clear h1 h2
    go_enter Tryz.func125, Tryz.ntmps125
    go_wp2
    go_loopw [5] (fun i wr => ∃ k : Nat, k ≤ n ∧ i = .int .i64 k ∧ allN (fun k => nth l k == nth m k) k = true ∧ ∃ x, wr = World.ext w x) (fun i _ => n - (intOf i).toNat)
    case atStart => exact ⟨0, by omega, rfl, rfl, X.refl _⟩
    case round =>
      obtain ⟨k, hk, rfl, hall, x, rfl⟩ := hrel
      by_cases hlt : k < n
      · obtain ⟨b, off, rfl, _, hb, hc, _⟩ := hL.at_ hlt
        obtain ⟨b', off', rfl, _, hb', hc', _⟩ := hM.at_ hlt
        go_wp2
        refine wp_region_grow (by kernel_rfl) (by kernel_rfl) ?_
        repeat (go_big_quiet_step ((fail)))
        refine wpQuiet_nil ?_
        rintro _ ⟨y, rfl⟩
        go_wp2
        · go_ret
          have h0 : (nth l k != nth m k) = true := by first | assumption | (simp; assumption) | (simp; omega)
          have hs : ¬ nth l k = nth m k := by simpa using h0
          exact ⟨ret_boolW (by rw [decide_eq_false]; intro e; exact hs (by rw [e])), by (repeat (first | exact X.refl _ | assumption | refine X.ext ?_ _ | refine X.alloc ?_ _ | refine X.drew ?_))⟩
        · have h0 : (nth l k != nth m k) = false := by first | assumption | (simp; assumption) | (simp; omega)
          have hs : nth l k = nth m k := by simpa using h0
          go_roundw
          case rel => exact ⟨k + 1, by omega, by go_num, allN_next hall (by simp [hs]), _, rfl⟩
          case measure => simp [intOf]; omega
      · obtain rfl : k = n := by omega
        go_wp2
        go_ret
        refine ⟨ret_boolW ?_, by (repeat (first | exact X.refl _ | assumption | refine X.ext ?_ _ | refine X.alloc ?_ _ | refine X.drew ?_))⟩
        rw [decide_eq_true]
        exact nth_ext2 (by rw [← Hl.out, ← Hm.out]) fun j hj => by simpa using allN_iff.1 hall j (by rw [Hl.out]; exact hj)
  · go_enter Tryz.func125, Tryz.ntmps125
    go_wp2
    go_ret
    exact ⟨ret_boolW (by rw [decide_eq_false]; intro e; apply hne; rw [h1, h2, e]), by (repeat (first | exact X.refl _ | assumption | refine X.ext ?_ _ | refine X.alloc ?_ _ | refine X.drew ?_))⟩

end Go.Proofs.YtgjfjjhmgbemcaaGreatDoor

namespace Go.Proofs.YtgjfjjhmgbemcaaGreatDoor
open Go.RowKit

set_option maxRecDepth 100000 in
set_option maxHeartbeats 4000000 in
theorem equalDirs_c (l : List Di) (a a' : Option Addr) (n c c' B B' : Nat) (w : World) (hL : DirsAt w B a n l) (hM : DirsAt w B' a' n l) :
    Calls Tryz.prog 73 #[.slice a n c, .slice a' n c'] w fun e w' => e = .returned (.bool true) ∧ X w w' := by
  have hn := hL.len.2
  go_enter Tryz.func73, Tryz.ntmps73
  go_wp2
  go_loopw [5] (fun i wr => ∃ k : Nat, k ≤ n ∧ i = .int .i64 k ∧ ∃ x, wr = World.ext w x) (fun i _ => n - (intOf i).toNat)
  case atStart => exact ⟨0, by omega, rfl, X.refl _⟩
  case round =>
    obtain ⟨k, hk, rfl, x, rfl⟩ := hrel
    by_cases hlt : k < n
    · obtain ⟨b, off, ba, bn, bc, rfl, _, hb, _, _, hS, g0, g1, g2, g3⟩ := hL.at_ hlt
      obtain ⟨b', off', ba', bn', bc', rfl, _, hb', _, _, hS', u0, u1, u2, u3⟩ := hM.at_ hlt
      have hk1 : (k : Int) < (n : Int) := by omega
      generalize nth l k = d at *
      go_wp2
      refine wp_region_grow (by kernel_rfl) (by kernel_rfl) ?_
      repeat (go_big_quiet_step (((go_at_call 125; refine grow_of (equalTexts_c d.names d.names ba ba' bn bn' bc bc' _ _ _ (hS.mono (X.fr (by (repeat (first | exact X.refl _ | assumption | refine X.ext ?_ _ | refine X.alloc ?_ _ | refine X.drew ?_))) _)) (hS'.mono (X.fr (by (repeat (first | exact X.refl _ | assumption | refine X.ext ?_ _ | refine X.alloc ?_ _ | refine X.drew ?_))) _)))))))
      refine wpQuiet_nil ?_
      rintro _ ⟨y, rfl⟩
      go_wp2
      go_roundw
      case rel => exact ⟨k + 1, by omega, by go_num, _, rfl⟩
      case measure => simp [intOf]; omega
    · obtain rfl : k = n := by omega
      go_wp2
      go_ret
      exact ⟨rfl, by (repeat (first | exact X.refl _ | assumption | refine X.ext ?_ _ | refine X.alloc ?_ _ | refine X.drew ?_))⟩

set_option maxRecDepth 100000 in
set_option maxHeartbeats 2000000 in
theorem equalDisk_c (l : List Fi) (kk : Int) (dl : List Di) (a a' da da' : Option Addr) (n c c' dn dc dc' B B' D D' : Nat) (w : World) (hL : FilesAt w B a n l) (hM : FilesAt w B' a' n l) (hD : DirsAt w D da dn dl) (hE : DirsAt w D' da' dn dl) :
    Calls Tryz.prog 28 #[.agg #[.slice a n c, .int .i64 kk, .slice da dn dc], .agg #[.slice a' n c', .int .i64 kk, .slice da' dn dc']] w fun e w' => e = .returned (.bool true) ∧ X w w' := by
  go_enter Tryz.func28, Tryz.ntmps28
  go_wp2_with fail
  refine calls_name (fun W0 hW0 => ?_)
  obtain ⟨hB1, hB2, hX⟩ := bx2 hW0
  clear hW0
  refine (equalTree_c l l a a' n n c c' B B' W0 (hL.mono (hX.fr _)) (hM.mono (hX.fr _))).mono ?_
  rintro _ w1 ⟨rfl, hx1⟩
  rw [decide_eq_true (rfl : l = l)]
  obtain ⟨lt1, q1, _⟩ := (hB1.x hx1).out
  obtain ⟨lt2, q2, _⟩ := (hB2.x hx1).out
  have t1 := q1 1
  have t2 := q1 2
  have u1 := q2 1
  have u2 := q2 2
  clear q1 q2
  go_wp2_with fail
  refine (equalDirs_c dl da da' dn dc dc' D D' w1 (hD.mono ((hX.trans hx1).fr _)) (hE.mono ((hX.trans hx1).fr _))).mono ?_
  rintro _ w2 ⟨rfl, hx2⟩
  go_wp2
  go_ret
  exact ⟨rfl, (hX.trans hx1).trans hx2⟩

end Go.Proofs.YtgjfjjhmgbemcaaGreatDoor
