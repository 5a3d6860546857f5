/- The generators of disks. No condition but that the reader has not read too far. -/
import Derived.Test.YtgjfjjhmgbemcaaDoorWtR
import Derived.Test.YtgjfjjhmgbemcaaDoorId
import Derived.Test.YtgjfjjhmgbemcaaDoorLd
namespace Go.Proofs.YtgjfjjhmgbemcaaDoor
open Go.RowKit

theorem Y.drewY {rb : Nat} {w w' : World} (h : Y rb w w') : Y rb w w'.drew := h.trans (Y.of_x (X.refl _).drew)
theorem Rdr.drewY {w : World} {rb m : Nat} (h : Rdr w rb m) : Rdr w.drew rb m := h.x (X.refl _).drew
theorem stmtsS {w : World} {B c : Nat} {a : Option Addr} {l : List St} (h : w.ownsRow B 92 5 (.slice a l.length c) l.length (l.flatMap scells)) (hs : SmallB l) : StmtsAt w B a l.length l :=
  ⟨rfl, by have := hs.1; omega, fun s hm => ⟨by have := (hs.2 s hm).1; omega, by have := (hs.2 s hm).2; omega⟩, Sl.of_own h⟩
/-- A valid disk that is drawn, of the call's own. -/
def DkV (w : World) (B : Nat) (a : Option Addr) (n c : Nat) (kk : Int) (da : Option Addr) (dn dc : Nat) (l : List Fi) (dl : List Di) : Prop :=
  FilesO w B a n c l ∧ DirsO w B da dn dc dl ∧ diskB l kk dl = true ∧ OkL l ∧ OkD dl
theorem DkV.fr {w w' : World} {B n c dn dc : Nat} {kk : Int} {a da : Option Addr} {l : List Fi} {dl : List Di} (h : DkV w B a n c kk da dn dc l dl) (hx : Fr B w w') : DkV w' B a n c kk da dn dc l dl :=
  ⟨h.1.fr hx, h.2.1.fr hx, h.2.2⟩
theorem DkV.less {w : World} {B B' n c dn dc : Nat} {kk : Int} {a da : Option Addr} {l : List Fi} {dl : List Di} (h : DkV w B a n c kk da dn dc l dl) (hB : B' ≤ B) : DkV w B' a n c kk da dn dc l dl :=
  ⟨h.1.less hB, h.2.1.less hB, h.2.2⟩
theorem DirsO.nil (w : World) (B : Nat) : DirsO w B none 0 0 [] := ⟨[], rfl, rfl, ⟨rfl, .inl ⟨rfl, rfl⟩⟩, List.Pairwise.nil, fun _ h => by cases h⟩
theorem okL_nil : OkL [] := ⟨by simp, fun f hf => by cases hf⟩
theorem okD_nil : OkD [] := ⟨by simp, fun f hf => by cases hf⟩
theorem DkV.zero (w : World) (B : Nat) : DkV w B none 0 0 0 none 0 0 [] [] := ⟨FilesO.nil w B, DirsO.nil w B, by decide, okL_nil, okD_nil⟩
theorem DkV.far {w : World} {B n c dn dc b : Nat} {kk : Int} {a da : Option Addr} {l : List Fi} {dl : List Di} {cs : Array Value} {t : TypeId} (h : DkV w B a n c kk da dn dc l dl) (hb : w.heap[b]? = some (.cells cs t (0, 0))) (h1 : 36 ≠ t) (h2 : 92 ≠ t) (h3 : 71 ≠ t) (h4 : 9 ≠ t) (i : Nat) (u : Value) : DkV (w.setCell ⟨b, i, none⟩ u) B a n c kk da dn dc l dl :=
  ⟨(h.1.e.far hb h1 h2 i u).o, h.2.1.far hb h3 h4 i u, h.2.2⟩
/-- What a change leaves in the box of the next disk. -/
def NextP (w : World) (B : Nat) (ok : Bool) (x0 x1 x2 : Value) : Prop :=
  (∃ a0 n0 c0 i1 a2 n2 c2, x0 = .slice a0 n0 c0 ∧ x1 = .int .i64 i1 ∧ x2 = .slice a2 n2 c2) ∧
  (ok = true → ∃ a n c kk da dn dc l dl, x0 = .slice a n c ∧ x1 = .int .i64 kk ∧ x2 = .slice da dn dc ∧ DkV w B a n c kk da dn dc l dl)
theorem NextP.less {w : World} {B B' : Nat} {ok : Bool} {x0 x1 x2 : Value} (h : NextP w B ok x0 x1 x2) (hB : B' ≤ B) : NextP w B' ok x0 x1 x2 :=
  ⟨h.1, fun ho => let ⟨a, n, c, kk, da, dn, dc, l, dl, e0, e1, e2, hk⟩ := h.2 ho; ⟨a, n, c, kk, da, dn, dc, l, dl, e0, e1, e2, hk.less hB⟩⟩
theorem NextP.shape {w : World} {B : Nat} {ok : Bool} {x0 x1 x2 : Value} (h : NextP w B ok x0 x1 x2) : ∃ a0 n0 c0 i1 a2 n2 c2, x0 = .slice a0 n0 c0 ∧ x1 = .int .i64 i1 ∧ x2 = .slice a2 n2 c2 := h.1
theorem nextP_of {w : World} {B : Nat} {v : Value} {l : List Fi} {kk : Int} {dl : List Di} {ok : Bool} (h : DkO w B v l kk dl) (hok : ok = true → diskB l kk dl = true) (h1 : OkL l) (h2 : OkD dl) : ∃ x0 x1 x2, v = .agg #[x0, x1, x2] ∧ NextP w B ok x0 x1 x2 := by
  obtain ⟨a, c, da, dc, E1, rfl, k1, k2, k3, k4⟩ := h
  exact ⟨_, _, _, rfl, ⟨_, _, _, _, _, _, _, rfl, rfl, rfl⟩, fun ho => ⟨_, _, _, _, _, _, _, l, dl, rfl, rfl, rfl, k3.o, k4.less k1, hok ho, h1, h2⟩⟩
theorem nextP_rem {w : World} {B : Nat} {v : Value} {l : List Fi} {kk : Int} {dl : List Di} {i t : Int} (h1 : OkL l) (h2 : OkD dl) (h : DkO w B v (drL l kk dl i t) (drK l kk dl i t) (drD l kk dl i t)) : ∃ x0 x1 x2, v = .agg #[x0, x1, x2] ∧ NextP w B (drB l kk dl i t) x0 x1 x2 :=
  nextP_of h dr_disk (dr_ok h1 h2).1 (dr_ok h1 h2).2
theorem nextP_add {w : World} {B : Nat} {v : Value} {l : List Fi} {kk : Int} {dl : List Di} {f : Fi} {t : Int} (h1 : OkL l) (h2 : OkD dl) (hl : l.length + 1 ≤ 2097152) (hp : f.pkg.length ≤ 20) (hn : f.name.length ≤ 20) (hs : SmallB f.body) (h : DkO w B v (daL l kk dl f t) (daK l kk dl f t) (daD l kk dl f t)) : ∃ x0 x1 x2, v = .agg #[x0, x1, x2] ∧ NextP w B (daB l kk dl f t) x0 x1 x2 := by
  have hk := da_ok (f := f) (kk := kk) (t := t) (bn := f.body.length) h1 hl ⟨by omega, by omega⟩ rfl (by have := hs.1; omega) (fun s hm => ⟨by have := (hs.2 s hm).1; omega, by have := (hs.2 s hm).2; omega⟩) h2
  exact nextP_of h da_disk hk.1 hk.2

def okOf (v : Value) : Bool := match v with
  | .tuple #[_, .bool b] => b
  | _ => false
/-- A box of a disk. -/
def Tk (w : World) (b : Nat) (cs : Array Value) : Prop := w.heap[b]? = some (.cells cs 28 (0, 0))
theorem Tk.bx {w : World} {b : Nat} {cs : Array Value} (h : Tk w b cs) : Bx w b cs := ⟨_, h⟩
theorem Tk.x {w w' : World} {b : Nat} {cs : Array Value} (h : Tk w b cs) (hx : X w w') : Tk w' b cs := at_x2' h hx
theorem Tk.y {rb : Nat} {w w' : World} {b : Nat} {cs : Array Value} (h : Tk w b cs) (hy : Y rb w w') (hne : b ≠ rb) : Tk w' b cs := at_y h hy hne
theorem Tk.far {w : World} {b : Nat} {cs : Array Value} (h : Tk w b cs) {p : Addr} (hne : b ≠ p.block) (v : Value) : Tk (w.setCell p v) b cs := (heap_setCell_other w p b v hne).trans h
theorem Tk.far3 {w : World} {b g : Nat} {cs : Array Value} (h : Tk w b cs) (hne : b ≠ g) (v0 v1 v2 : Value) : Tk (((w.setCell ⟨g, 0, none⟩ v0).setCell ⟨g, 1, none⟩ v1).setCell ⟨g, 2, none⟩ v2) b cs :=
  Tk.far (p := ⟨g, 2, none⟩) (Tk.far (p := ⟨g, 1, none⟩) (Tk.far (p := ⟨g, 0, none⟩) h hne v0) hne v1) hne v2
theorem Tk.set3 {w : World} {b : Nat} {z0 z1 z2 : Value} (h : Tk w b #[z0, z1, z2]) (v0 v1 v2 : Value) : Tk (((w.setCell ⟨b, 0, none⟩ v0).setCell ⟨b, 1, none⟩ v1).setCell ⟨b, 2, none⟩ v2) b #[v0, v1, v2] := heap_set3 h v0 v1 v2
theorem DkV.set3 {w : World} {B n c dn dc b : Nat} {kk : Int} {a da : Option Addr} {l : List Fi} {dl : List Di} {z0 z1 z2 : Value} (h : DkV w B a n c kk da dn dc l dl) (hT : Tk w b #[z0, z1, z2]) (v0 v1 v2 : Value) : DkV (((w.setCell ⟨b, 0, none⟩ v0).setCell ⟨b, 1, none⟩ v1).setCell ⟨b, 2, none⟩ v2) B a n c kk da dn dc l dl :=
  ((h.far hT (by decide) (by decide) (by decide) (by decide) _ _).far (heap_set1 hT) (by decide) (by decide) (by decide) (by decide) _ _).far (heap_set2 hT) (by decide) (by decide) (by decide) (by decide) _ _
theorem NextP.set3 {w : World} {B b : Nat} {ok : Bool} {x0 x1 x2 z0 z1 z2 : Value} (h : NextP w B ok x0 x1 x2) (hT : Tk w b #[z0, z1, z2]) (v0 v1 v2 : Value) : NextP (((w.setCell ⟨b, 0, none⟩ v0).setCell ⟨b, 1, none⟩ v1).setCell ⟨b, 2, none⟩ v2) B ok x0 x1 x2 :=
  ⟨h.1, fun ho => let ⟨a, n, c, kk, da, dn, dc, l, dl, e0, e1, e2, hk⟩ := h.2 ho; ⟨a, n, c, kk, da, dn, dc, l, dl, e0, e1, e2, hk.set3 hT _ _ _⟩⟩
theorem rdr_set3 {W : World} {rb m b : Nat} (hr : Rdr W rb m) (h : rb < b) (v0 v1 v2 : Value) : Rdr (((W.setCell ⟨b, 0, none⟩ v0).setCell ⟨b, 1, none⟩ v1).setCell ⟨b, 2, none⟩ v2) rb m :=
  Rdr.set2 (Rdr.set2 (Rdr.set2 hr h _) h _) h _
theorem y_set3 {w W : World} {rb b : Nat} (hy : Y rb w W) (h : w.heap.size ≤ b) (v0 v1 v2 : Value) : Y rb w (((W.setCell ⟨b, 0, none⟩ v0).setCell ⟨b, 1, none⟩ v1).setCell ⟨b, 2, none⟩ v2) :=
  Y.set2 (p := ⟨b, 2, none⟩) (Y.set2 (p := ⟨b, 1, none⟩) (Y.set2 (p := ⟨b, 0, none⟩) hy h _) h _) h _

set_option maxRecDepth 100000 in
theorem newDisk_c (w : World) : Calls Tryd.prog 57 #[] w fun e w' => e = .returned (.agg #[.slice none 0 0, .int .i64 0, .slice none 0 0]) ∧ X w w' := by
  go_enter Tryd.func57, Tryd.ntmps57
  go_wp2
  refine bodyPost_row Tryd.results57 rfl (Bx.new w #[.slice none 0 0, .int .i64 0, .slice none 0 0] _) disk_S rfl rfl ?_
  exact ⟨rfl, by (repeat (first | with_reducible exact X.refl _ | with_reducible assumption | with_reducible refine X.setCell ?_ (by first | (simp; done) | (simp; omega)) _ | with_reducible refine X.ext ?_ _ | with_reducible refine X.alloc ?_ _ | with_reducible refine X.drew ?_))⟩

set_option maxRecDepth 100000 in
set_option maxHeartbeats 8000000 in
theorem someDisk_c (rb m : Nat) (w : World) (hr : Rdr w rb m) (hm : m + 800 ≤ 1000000000) :
    Calls Tryd.prog 41 #[.pointer (some ⟨rb, 0, none⟩)] w fun e w' => ∃ a n c kk da dn dc l dl, e = .returned (.agg #[.slice a n c, .int .i64 kk, .slice da dn dc]) ∧ DkV w' w.heap.size a n c kk da dn dc l dl ∧ Rdr w' rb (m + 800) ∧ Y rb w w' := by
  have hlt := hr.lt
  go_enter Tryd.func41, Tryd.ntmps41
  go_wp2_with fail
  refine calls_name (fun W0 hW0 => ?_)
  have hR0 : Tk W0 w.heap.size #[.slice none 0 0, .int .i64 0, .slice none 0 0] := by rw [hW0]; exact heap_alloc_new _ _
  have hX0 : X w W0 := by rw [hW0]; (repeat (first | with_reducible exact X.refl _ | with_reducible assumption | with_reducible refine X.setCell ?_ (by first | (simp; done) | (simp; omega)) _ | with_reducible refine X.ext ?_ _ | with_reducible refine X.alloc ?_ _ | with_reducible refine X.drew ?_))
  clear hW0
  refine (newDisk_c W0).mono ?_
  rintro _ w1 ⟨rfl, hx1⟩
  replace hR0 := hR0.x hx1
  have hlR := hR0.bx.lt
  have hB1 : Tk (w1.alloc (.cells #[.slice none 0 0, .int .i64 0, .slice none 0 0] 28)) w1.heap.size #[.slice none 0 0, .int .i64 0, .slice none 0 0] := heap_alloc_new _ _
  have hX1 := hX0.trans hx1
  have hz1 := hX1.size
  have hr1 := hr.x hX1
  have hneb : w1.heap.size ≠ rb := by omega
  have hneR : w.heap.size ≠ rb := by omega
  clear hx1 hX0 hr
  go_wp2_with fail
  refine (one_c rb m [5, 4, 6, 3, 8, 1, 0] _ _ _ (rb + 1) _ (hr1.x (by (repeat (first | with_reducible exact X.refl _ | with_reducible assumption | with_reducible refine X.setCell ?_ (by first | (simp; done) | (simp; omega)) _ | with_reducible refine X.ext ?_ _ | with_reducible refine X.alloc ?_ _ | with_reducible refine X.drew ?_)))) (by omega) (ints_lit (by simp) (by omega) rfl rfl (by decide)) (by omega) (by decide)).mono ?_
  rintro _ w2 ⟨n0, rfl, hn0, hr2, hy2⟩
  obtain ⟨N, rfl, hN⟩ : ∃ N : Nat, n0 = N ∧ N ≤ 8 := ⟨n0.toNat, by revert hn0; simp only [List.mem_cons, List.mem_nil_iff, or_false]; omega, by revert hn0; simp only [List.mem_cons, List.mem_nil_iff, or_false]; omega⟩
  replace hR0 := (hR0.x (by (repeat (first | with_reducible exact X.refl _ | with_reducible assumption | with_reducible refine X.setCell ?_ (by first | (simp; done) | (simp; omega)) _ | with_reducible refine X.ext ?_ _ | with_reducible refine X.alloc ?_ _ | with_reducible refine X.drew ?_)))).y hy2 hneR
  replace hB1 := (hB1.x (by (repeat (first | with_reducible exact X.refl _ | with_reducible assumption | with_reducible refine X.setCell ?_ (by first | (simp; done) | (simp; omega)) _ | with_reducible refine X.ext ?_ _ | with_reducible refine X.alloc ?_ _ | with_reducible refine X.drew ?_)))).y hy2 hneb
  replace hy2 := (Y.of_x (rb := rb) (X.trans hX1 (by (repeat (first | with_reducible exact X.refl _ | with_reducible assumption | with_reducible refine X.setCell ?_ (by first | (simp; done) | (simp; omega)) _ | with_reducible refine X.ext ?_ _ | with_reducible refine X.alloc ?_ _ | with_reducible refine X.drew ?_))))).trans hy2
  clear hn0 hr1 hX1
  go_wp2
  go_loopw [4, 5, 6, 7] (fun i _ _ _ wr => ∃ (k : Nat) (a : Option Addr) (n c : Nat) (kk : Int) (da : Option Addr) (dn dc : Nat) (l : List Fi) (dl : List Di), k ≤ 8 ∧ i = .int .i64 k ∧ Tk wr w.heap.size #[.slice none 0 0, .int .i64 0, .slice none 0 0] ∧ Tk wr w1.heap.size #[.slice a n c, .int .i64 kk, .slice da dn dc] ∧ DkV wr w.heap.size a n c kk da dn dc l dl ∧ Rdr wr rb (m + 1 + (8 - k) * 80) ∧ Y rb w wr) (fun i _ _ _ _ => (intOf i).toNat)
  case atStart => exact ⟨N, _, _, _, _, _, _, _, [], [], hN, rfl, hR0, hB1, DkV.zero _ _, hr2.weak (by omega) (by omega), hy2⟩
  case round =>
    obtain ⟨j, a, n, c, kk, da, dn, dc, l, dl, hj, rfl, hR, hB, hV, hr, hy⟩ := hrel
    clear hR0 hB1 hr2 hy2
    have hw := hy.size
    have hlB := hB.bx.lt
    have hl12 := disk_wt hV.2.2.1
    have hnl : n = l.length := (hV.1.at hV.2.2.2.1).len.1
    have hn12 : n ≤ 12 := by omega
    clear hnl
    by_cases h0 : 0 < j
    · go_wp2_with fail
      refine (one_c rb _ [1, 1, 2, 0] _ _ _ (rb + 1) _ (hr.x (by (repeat (first | with_reducible exact X.refl _ | with_reducible assumption | with_reducible refine X.setCell ?_ (by first | (simp; done) | (simp; omega)) _ | with_reducible refine X.ext ?_ _ | with_reducible refine X.alloc ?_ _ | with_reducible refine X.drew ?_)))) (by omega) (ints_lit (by simp) (by omega) rfl rfl (by decide)) (by omega) (by decide)).mono ?_
      rintro _ w3 ⟨ticks, rfl, _, hr', hy'⟩
      have hyy : Y rb wr w3 := (Y.of_x (by (repeat (first | with_reducible exact X.refl _ | with_reducible assumption | with_reducible refine X.setCell ?_ (by first | (simp; done) | (simp; omega)) _ | with_reducible refine X.ext ?_ _ | with_reducible refine X.alloc ?_ _ | with_reducible refine X.drew ?_)))).trans hy'
      replace hR := hR.y hyy hneR
      replace hB := hB.y hyy hneb
      replace hV := hV.fr (hyy.fr.mono (by omega))
      replace hy := hy.trans hyy
      have hw3 := hyy.size
      clear hyy hy' hr
      go_wp2_with fail
      refine calls_name (fun W4 hW4 => ?_)
      have hN4 : Tk W4 w3.heap.size #[.slice none 0 0, .int .i64 0, .slice none 0 0] := by
        rw [hW4]
        first
          | exact heap_alloc_new _ _
          | exact Tk.set3 (heap_alloc_new _ _) _ _ _
      have hX4 : X w3 W4 := by rw [hW4]; (repeat (first | with_reducible exact X.refl _ | with_reducible assumption | with_reducible refine X.setCell ?_ (by first | (simp; done) | (simp; omega)) _ | with_reducible refine X.ext ?_ _ | with_reducible refine X.alloc ?_ _ | with_reducible refine X.drew ?_))
      clear hW4
      refine (pick_c rb _ 6 W4 (hr'.x hX4) (by omega) (by omega)).mono ?_
      rintro _ W3 ⟨k6, rfl, hk6, hr3, hy3⟩
      have hnen : w3.heap.size ≠ rb := by omega
      have hN3 := hN4.y hy3 hnen
      replace hy3 := (Y.of_x (rb := rb) hX4).trans hy3
      have hw33 := hy3.size
      have hB3 := hB.y hy3 hneb
      have hRr3 := hR.y hy3 hneR
      have hVw := hV.fr (hy3.fr.mono (by omega))
      have hV3 := hVw.less (B' := rb + 1) (by omega)
      have hy3w := hy.trans hy3
      obtain ⟨mm, hmm, hr3⟩ : ∃ mm, mm ≤ m + 3 + (8 - j) * 80 ∧ Rdr W3 rb mm := ⟨_, by omega, hr3⟩
      clear hN4 hX4 hr' hB hR hV hy hy3
      have hl3 := hN3.bx.lt
      obtain ⟨lD, cd, _⟩ := hB3.bx.out
      have d0 := cd 0
      clear cd
      by_cases hk0 : k6 = 0 ∧ 0 < n
      · obtain ⟨rfl, hn0⟩ := hk0
        have hn1 : (0 : Int) < (n : Int) := by omega
        go_wp2
        clear d0 lD
        refine wp_region_inv (fun L v W => (L 12 = false → Y rb W3 W)
            ∧ (L 12 = false → L 6 = false → Rdr W rb mm)
            ∧ (L 12 = false → Rdr W rb (mm + 1))
            ∧ (L 12 = true → L 0 = true ∧ L 4 = true ∧ L 6 = true ∧ L 8 = true ∧ L 9 = true ∧ L 10 = true)
            ∧ (L 8 = true → L 6 = true)
            ∧ (L 9 = true → L 8 = true)
            ∧ (L 10 = true ∨ L 11 = true → L 9 = true)
            ∧ (L 13 = true → L 11 = true)
            ∧ (L 0 = true → v 0 = .agg #[.slice a n c, .int .i64 kk, .slice da dn dc])
            ∧ (L 1 = true → v 1 = .pointer (some ⟨rb, 0, none⟩))
            ∧ (L 2 = true → v 2 = .pointer (some ⟨w1.heap.size, 0, none⟩))
            ∧ (L 3 = true → v 3 = .pointer (some ⟨w1.heap.size, 0, none⟩))
            ∧ (L 4 = true → v 4 = .slice a n c)
            ∧ (L 5 = true → v 5 = .int .i64 (n : Int))
            ∧ (L 7 = true → v 7 = .int .i64 ticks)
            ∧ (L 6 = true → ∃ k : Nat, v 6 = .int .i64 (k : Int))
            ∧ (L 8 = true → L 12 = false → ∃ ok x0 x1 x2, v 8 = .tuple #[.agg #[x0, x1, x2], .bool ok] ∧ (L 9 = true → v 9 = .tuple #[.agg #[x0, x1, x2], .bool ok]) ∧ (L 10 = true → v 10 = .agg #[x0, x1, x2]) ∧ NextP W W3.heap.size ok x0 x1 x2)
            ∧ (L 9 = true → ∃ x ok, v 9 = .tuple #[x, .bool ok])
            ∧ (L 11 = true → v 11 = .bool (okOf (v 9)))
            ∧ (L 13 = true → v 13 = .bool (okOf (v 9)))
            ∧ (L 12 = true → ∃ w4 ok x0 x1 x2, v 9 = .tuple #[.agg #[x0, x1, x2], .bool ok] ∧ Y rb W3 w4 ∧ Rdr w4 rb (mm + 1) ∧ NextP w4 W3.heap.size ok x0 x1 x2 ∧ W = (((w4.setCell ⟨w3.heap.size, 0, none⟩ x0).setCell ⟨w3.heap.size, 1, none⟩ x1).setCell ⟨w3.heap.size, 2, none⟩ x2))
            ∧ (L 13 = true → L 12 = true)) (by kernel_rfl) (by kernel_rfl) ?_ ?_ (l := [(31, 0), (32, 1), (33, 2), (34, 3), (35, 4), (36, 5), (37, 6), (38, 7), (39, 8), (30, 9), (40, 10), (41, 11), (7, 13)]) (by kernel_rfl) (n := 14) rfl ?_
        · intro v
          exact ⟨fun _ => (Y.refl _ _).drewY, fun _ _ => hr3.drewY, fun _ => hr3.drewY.weak (by omega) (by omega), fun h => Bool.noConfusion h, fun h => Bool.noConfusion h, fun h => Bool.noConfusion h, fun h => h.elim (fun h => Bool.noConfusion h) (fun h => Bool.noConfusion h), fun h => Bool.noConfusion h, fun h => Bool.noConfusion h, fun h => Bool.noConfusion h, fun h => Bool.noConfusion h, fun h => Bool.noConfusion h, fun h => Bool.noConfusion h, fun h => Bool.noConfusion h, fun h => Bool.noConfusion h, fun h => Bool.noConfusion h, fun h => Bool.noConfusion h, fun h => Bool.noConfusion h, fun h => Bool.noConfusion h, fun h => Bool.noConfusion h, fun h => Bool.noConfusion h, fun h => Bool.noConfusion h⟩
        · intro i hi
          have hi' : i = 0 ∨ i = 1 ∨ i = 2 ∨ i = 3 ∨ i = 4 ∨ i = 5 ∨ i = 6 ∨ i = 7 ∨ i = 8 ∨ i = 9 ∨ i = 10 ∨ i = 11 ∨ i = 12 ∨ i = 13 := by
            have : i < 14 := hi
            omega
          clear hi
          rcases hi' with rfl | rfl | rfl | rfl | rfl | rfl | rfl | rfl | rfl | rfl | rfl | rfl | rfl | rfl
          all_goals
            intro o ho L v aa W hI hS hL hA K hK
            cases (show some _ = some o from ho)
            obtain ⟨yy, r0, r1, dS, d8, dM, dX, dG, v0, v1, v2, v3, v4, v5, v7, v6, r8, w9, u1, u2, fin, dF⟩ := hI
          · have a0 := hS.old 3 (by kernel_rfl) rfl
            have nS : L 12 = false := by rcases h : L 12 with _ | _; (· rfl); (· have := (dS h).1; simp [hL] at this)
            obtain ⟨lD, cd, _⟩ := (hB3.bx.y (yy nS) hneb).out
            have d0 := cd 0
            have d1 := cd 1
            have d2 := cd 2
            clear cd
            clear hS ho hA
            go_simp
            exact hK _ W ⟨yy, r0, r1, fun h => ⟨rfl, (dS h).2.1, (dS h).2.2.1, (dS h).2.2.2.1, (dS h).2.2.2.2.1, (dS h).2.2.2.2.2⟩, d8, dM, dX, dG, fun _ => rfl, v1, v2, v3, v4, v5, v7, v6, r8, w9, u1, u2, fin, dF⟩
          · have a0 := hS.old 0 (by kernel_rfl) rfl
            clear hS ho hA
            go_simp
            exact hK _ W ⟨yy, r0, r1, dS, d8, dM, dX, dG, v0, fun _ => rfl, v2, v3, v4, v5, v7, v6, r8, w9, u1, u2, fin, dF⟩
          · have a0 := hS.old 3 (by kernel_rfl) rfl
            clear hS ho hA
            go_simp
            exact hK _ W ⟨yy, r0, r1, dS, d8, dM, dX, dG, v0, v1, fun _ => rfl, v3, v4, v5, v7, v6, r8, w9, u1, u2, fin, dF⟩
          · have l2 : L 2 = true := hA ⟨2, .data⟩ (by simp) rfl
            have a2 := hS.get 2 33 rfl l2 (v2 l2)
            clear hS ho hA
            go_simp
            exact hK _ W ⟨yy, r0, r1, dS, d8, dM, dX, dG, v0, v1, v2, fun _ => rfl, v4, v5, v7, v6, r8, w9, u1, u2, fin, dF⟩
          · have l3 : L 3 = true := hA ⟨3, .data⟩ (by simp) rfl
            have a3 := hS.get 3 34 rfl l3 (v3 l3)
            have nS : L 12 = false := by rcases h : L 12 with _ | _; (· rfl); (· have := (dS h).2.1; simp [hL] at this)
            obtain ⟨lD, cd, _⟩ := (hB3.bx.y (yy nS) hneb).out
            have d0 := cd 0
            have d1 := cd 1
            have d2 := cd 2
            clear cd
            clear hS ho hA
            go_simp
            exact hK _ W ⟨yy, r0, r1, fun h => ⟨(dS h).1, rfl, (dS h).2.2.1, (dS h).2.2.2.1, (dS h).2.2.2.2.1, (dS h).2.2.2.2.2⟩, d8, dM, dX, dG, v0, v1, v2, v3, fun _ => rfl, v5, v7, v6, r8, w9, u1, u2, fin, dF⟩
          · have l4 : L 4 = true := hA ⟨4, .data⟩ (by simp) rfl
            have a4 := hS.get 4 35 rfl l4 (v4 l4)
            clear hS ho hA
            go_simp
            exact hK _ W ⟨yy, r0, r1, dS, d8, dM, dX, dG, v0, v1, v2, v3, v4, fun _ => rfl, v7, v6, r8, w9, u1, u2, fin, dF⟩
          · have l1 : L 1 = true := hA ⟨1, .data⟩ (by simp) rfl
            have l5 : L 5 = true := hA ⟨5, .data⟩ (by simp) rfl
            have a1 := hS.get 1 32 rfl l1 (v1 l1)
            have a5 := hS.get 5 36 rfl l5 (v5 l5)
            have nS : L 12 = false := by rcases h : L 12 with _ | _; (· rfl); (· have := (dS h).2.2.1; simp [hL] at this)
            clear hS ho hA
            go_simp
            refine (pick_c rb mm _ W (r0 nS hL) (by omega) (by omega)).mono ?_
            rintro _ w' ⟨k, rfl, hk, hr, hy⟩
            exact hK _ w' ⟨fun h => (yy h).trans hy, fun _ h => Bool.noConfusion h, fun _ => hr, fun h => ⟨(dS h).1, (dS h).2.1, rfl, (dS h).2.2.2.1, (dS h).2.2.2.2.1, (dS h).2.2.2.2.2⟩, fun _ => rfl, dM, dX, dG, v0, v1, v2, v3, v4, v5, v7, fun _ => ⟨k, rfl⟩, fun h _ => Bool.noConfusion (hL.symm.trans (d8 h)), w9, u1, u2, fun h => Bool.noConfusion (nS.symm.trans h), dF⟩
          · have a0 := hS.old 5 (by kernel_rfl) rfl
            clear hS ho hA
            go_simp
            exact hK _ W ⟨yy, r0, r1, dS, d8, dM, dX, dG, v0, v1, v2, v3, v4, v5, fun _ => rfl, v6, r8, w9, u1, u2, fin, dF⟩
          · have l0 : L 0 = true := hA ⟨0, .data⟩ (by simp) rfl
            have l6 : L 6 = true := hA ⟨6, .data⟩ (by simp) rfl
            have l7 : L 7 = true := hA ⟨7, .data⟩ (by simp) rfl
            have a0 := hS.get 0 31 rfl l0 (v0 l0)
            have a7 := hS.get 7 38 rfl l7 (v7 l7)
            have nS : L 12 = false := by rcases h : L 12 with _ | _; (· rfl); (· have := (dS h).2.2.2.1; simp [hL] at this)
            obtain ⟨k, e6⟩ := v6 l6
            have a6 := hS.get 6 37 rfl l6 e6
            clear hS ho hA
            go_simp
            refine (DiskRemove_s l a n c kk dl da dn dc (rb + 1) (k : Int) ticks W ((hV3.1.at hV3.2.2.2.1).mono (yy nS).fr) ((hV3.2.1.at hV3.2.2.2.2).mono (yy nS).fr)).mono ?_
            rintro _ w' ⟨v', rfl, hk, hx⟩
            obtain ⟨x0, x1, x2, rfl, hN⟩ := nextP_rem hV3.2.2.2.1 hV3.2.2.2.2 hk
            exact hK _ w' ⟨fun h => (yy h).trans (Y.of_x hx), fun _ h => Bool.noConfusion (h.symm.trans l6), fun h => (r1 h).x hx, fun h => ⟨(dS h).1, (dS h).2.1, (dS h).2.2.1, rfl, (dS h).2.2.2.2.1, (dS h).2.2.2.2.2⟩, fun _ => l6, fun _ => rfl, dX, dG, v0, v1, v2, v3, v4, v5, v7, v6, fun _ _ => ⟨_, x0, x1, x2, rfl, fun h => Bool.noConfusion (hL.symm.trans (dM h)), fun h => Bool.noConfusion (hL.symm.trans (dM (dX (.inl h)))), hN.less (yy nS).size⟩, w9, u1, u2, fun h => Bool.noConfusion (nS.symm.trans h), dF⟩
          · have l8 : L 8 = true := hA ⟨8, .data⟩ (by simp) rfl
            have nS : L 12 = false := by rcases h : L 12 with _ | _; (· rfl); (· have := (dS h).2.2.2.2.1; simp [hL] at this)
            obtain ⟨ok, x0, x1, x2, e8, e9, e10, hN⟩ := r8 l8 nS
            have aC := hS.get 8 39 rfl l8 e8
            clear hS ho hA
            go_simp
            exact hK _ W ⟨yy, r0, r1, fun h => ⟨(dS h).1, (dS h).2.1, (dS h).2.2.1, (dS h).2.2.2.1, rfl, (dS h).2.2.2.2.2⟩, d8, fun _ => l8, fun _ => rfl, dG, v0, v1, v2, v3, v4, v5, v7, v6, fun _ _ => ⟨ok, x0, x1, x2, e8, fun _ => rfl, e10, hN⟩, fun _ => ⟨_, _, rfl⟩, fun h => Bool.noConfusion (hL.symm.trans (dX (.inr h))), fun h => Bool.noConfusion (hL.symm.trans (dX (.inr (dG h)))), fun h => Bool.noConfusion (nS.symm.trans h), dF⟩
          · have l9 : L 9 = true := hA ⟨9, .data⟩ (by simp) rfl
            have l8 := dM l9
            have nS : L 12 = false := by rcases h : L 12 with _ | _; (· rfl); (· have := (dS h).2.2.2.2.2; simp [hL] at this)
            obtain ⟨ok, x0, x1, x2, e8, e9, e10, hN⟩ := r8 l8 nS
            have aC := hS.get 9 30 rfl l9 (e9 l9)
            clear hS ho hA
            go_simp
            exact hK _ W ⟨yy, r0, r1, fun h => ⟨(dS h).1, (dS h).2.1, (dS h).2.2.1, (dS h).2.2.2.1, (dS h).2.2.2.2.1, rfl⟩, d8, dM, fun _ => l9, dG, v0, v1, v2, v3, v4, v5, v7, v6, fun _ _ => ⟨ok, x0, x1, x2, e8, e9, fun _ => rfl, hN⟩, w9, u1, u2, fin, dF⟩
          · have l9 : L 9 = true := hA ⟨9, .data⟩ (by simp) rfl
            obtain ⟨x9, ok9, e9⟩ := w9 l9
            have aC := hS.get 9 30 rfl l9 e9
            clear hS ho hA
            go_simp
            exact hK _ W ⟨yy, r0, r1, dS, d8, dM, fun _ => l9, fun _ => rfl, v0, v1, v2, v3, v4, v5, v7, v6, r8, w9, fun _ => (congrArg (fun z => Value.bool (okOf z)) e9).symm, u2, fin, dF⟩
          · have l10 : L 10 = true := hA ⟨10, .data⟩ (by simp) rfl
            have l0 : L 0 = true := hA ⟨0, .phase⟩ (by simp) rfl
            have l4 : L 4 = true := hA ⟨4, .phase⟩ (by simp) rfl
            have l6 : L 6 = true := hA ⟨6, .phase⟩ (by simp) rfl
            have l8 : L 8 = true := hA ⟨8, .phase⟩ (by simp) rfl
            have l9 : L 9 = true := hA ⟨9, .phase⟩ (by simp) rfl
            have nS := hL
            obtain ⟨ok, x0, x1, x2, e8, e9, e10, hN⟩ := r8 l8 nS
            obtain ⟨s0, s1, s2, s3, s4, s5, s6, rfl, rfl, rfl⟩ := hN.shape
            have aX := hS.get 10 40 rfl l10 (e10 l10)
            have aR := hS.old 6 (by kernel_rfl) rfl
            obtain ⟨lb, cb, fb0⟩ := (hN3.bx.y (yy hL) hnen).out
            have f0 := fb0 0
            have f1 := fb0 1
            have f2 := fb0 2
            have c0 := cb 0
            have c1 := cb 1
            have c2 := cb 2
            clear fb0 cb
            clear hS ho hA
            go_simp
            exact hK undef _ ⟨fun h => Bool.noConfusion h, fun h => Bool.noConfusion h, fun h => Bool.noConfusion h, fun _ => ⟨l0, l4, l6, l8, l9, l10⟩, d8, dM, dX, dG, v0, v1, v2, v3, v4, v5, v7, v6, fun _ h => Bool.noConfusion h, w9, u1, u2, fun _ => ⟨W, ok, _, _, _, e9 l9, yy hL, r1 hL, hN, rfl⟩, fun _ => rfl⟩
          · have l11 : L 11 = true := hA ⟨11, .data⟩ (by simp) rfl
            have lS : L 12 = true := hA ⟨12, .chain⟩ (by simp) rfl
            have aE := hS.get 11 41 rfl l11 (u1 l11)
            clear hS ho hA
            go_simp
            exact hK _ W ⟨yy, r0, r1, dS, d8, dM, dX, fun _ => l11, v0, v1, v2, v3, v4, v5, v7, v6, r8, w9, u1, fun _ => rfl, fin, fun _ => lS⟩
        intro v W5 hI
        obtain ⟨yy, r0, r1, dS, d8, dM, dX, dG, v0, v1, v2, v3, v4, v5, v7, v6, r8, w9, u1, u2, fin, dF⟩ := hI
        obtain ⟨w4, ok, x0, x1, x2, e9, hy4, hr4, hN, hWe⟩ := fin rfl
        have e13 : v 13 = .bool ok := by rw [u2 rfl, e9]; rfl
        clear e9 yy r0 r1 r8 fin dF dS d8 dM dX dG w9 u1 u2 v0 v1 v2 v3 v4 v5 v7 v6
        simp only [putL, List.foldl, List.setIfInBounds_toArray, List.set_cons_zero, List.set_cons_succ, e13]
        clear e13
        have hT4 := hN3.y hy4 hnen
        have hT5 : Tk W5 w3.heap.size #[x0, x1, x2] := by rw [hWe]; exact hT4.set3 _ _ _
        have hB5 : Tk W5 w1.heap.size #[.slice a n c, .int .i64 kk, .slice da dn dc] := by rw [hWe]; exact (hB3.y hy4 hneb).far3 (by omega) _ _ _
        have hR5 : Tk W5 w.heap.size #[.slice none 0 0, .int .i64 0, .slice none 0 0] := by rw [hWe]; exact (hRr3.y hy4 hneR).far3 (by omega) _ _ _
        have hV5 : DkV W5 w.heap.size a n c kk da dn dc l dl := by rw [hWe]; exact (hVw.fr (hy4.fr.mono (by omega))).set3 hT4 _ _ _
        have hN5 : NextP W5 W3.heap.size ok x0 x1 x2 := by rw [hWe]; exact hN.set3 hT4 _ _ _
        have hr5 : Rdr W5 rb (mm + 1) := by rw [hWe]; exact rdr_set3 hr4 (by omega) _ _ _
        have hy5 : Y rb w W5 := by rw [hWe]; exact y_set3 (hy3w.trans hy4) (by omega) _ _ _
        clear hWe hT4 hr4 hN hB3 hRr3 hVw hV3 hN3 hr3 hy4
        cases ok
        · go_wp2
          go_roundw
          case rel => exact ⟨j - 1, a, n, c, kk, da, dn, dc, l, dl, by omega, by go_num, hR5, hB5, hV5, hr5.weak (by omega) (by omega), hy5⟩
          case measure => simp [intOf]; omega
        · obtain ⟨a', n', c', kk', da', dn', dc', l', dl', rfl, rfl, rfl, hV'⟩ := hN5.2 rfl
          obtain ⟨lt, ct, _⟩ := hT5.bx.out
          have t0 := ct 0
          have t1 := ct 1
          have t2 := ct 2
          obtain ⟨lb, cb, fb⟩ := hB5.bx.out
          have b0 := cb 0
          have b1 := cb 1
          have b2 := cb 2
          have fb0 := fb 0
          have fb1 := fb 1
          have fb2 := fb 2
          clear ct cb fb
          go_wp2
          go_roundw
          case rel => exact ⟨j - 1, a', n', c', kk', da', dn', dc', l', dl', by omega, by go_num, hR5.far3 (by omega) _ _ _, hB5.set3 _ _ _, (hV'.less (by omega)).set3 hB5 _ _ _, (rdr_set3 hr5 (by omega) _ _ _).weak (by omega) (by omega), y_set3 hy5 (by omega) _ _ _⟩
          case measure => simp [intOf]; omega
      · have hk1 : ¬ ((k6 : Int) = 0 ∧ (0 : Int) < (n : Int)) := by omega
        by_cases hk2 : (k6 : Int) = 0
        · have hn1 : ¬ (0 : Int) < (n : Int) := by omega
          obtain rfl : k6 = 0 := by omega
          go_wp2
          clear d0 lD
          refine wp_region_inv (fun L v W => (L 8 = false → Y rb W3 W)
              ∧ (L 8 = false → L 2 = false → Rdr W rb mm)
              ∧ (L 8 = false → Rdr W rb (mm + 70))
              ∧ (L 8 = true → L 0 = true ∧ L 2 = true ∧ L 4 = true ∧ L 5 = true ∧ L 6 = true)
              ∧ (L 4 = true → L 2 = true)
              ∧ (L 5 = true → L 4 = true)
              ∧ (L 6 = true ∨ L 7 = true → L 5 = true)
              ∧ (L 9 = true → L 7 = true)
              ∧ (L 0 = true → v 0 = .agg #[.slice a n c, .int .i64 kk, .slice da dn dc])
              ∧ (L 1 = true → v 1 = .pointer (some ⟨rb, 0, none⟩))
              ∧ (L 3 = true → v 3 = .int .i64 ticks)
              ∧ (L 2 = true → L 8 = false → ∃ (f : Fi) (ba : Option Addr) (bc : Nat), v 2 = .agg #[.int .i64 (f).root, .string ⟨(f).pkg.toArray⟩, .string ⟨(f).name.toArray⟩, .bool (f).init, .int .i64 (f).stamp, .slice ba f.body.length bc] ∧ W.ownsRow W3.heap.size 92 5 (.slice ba f.body.length bc) f.body.length (f.body.flatMap scells) ∧ f.pkg.length ≤ 20 ∧ f.name.length ≤ 20 ∧ SmallB f.body)
              ∧ (L 4 = true → L 8 = false → ∃ ok x0 x1 x2, v 4 = .tuple #[.agg #[x0, x1, x2], .bool ok] ∧ (L 5 = true → v 5 = .tuple #[.agg #[x0, x1, x2], .bool ok]) ∧ (L 6 = true → v 6 = .agg #[x0, x1, x2]) ∧ NextP W W3.heap.size ok x0 x1 x2)
              ∧ (L 5 = true → ∃ x ok, v 5 = .tuple #[x, .bool ok])
              ∧ (L 7 = true → v 7 = .bool (okOf (v 5)))
              ∧ (L 9 = true → v 9 = .bool (okOf (v 5)))
              ∧ (L 8 = true → ∃ w4 ok x0 x1 x2, v 5 = .tuple #[.agg #[x0, x1, x2], .bool ok] ∧ Y rb W3 w4 ∧ Rdr w4 rb (mm + 70) ∧ NextP w4 W3.heap.size ok x0 x1 x2 ∧ W = (((w4.setCell ⟨w3.heap.size, 0, none⟩ x0).setCell ⟨w3.heap.size, 1, none⟩ x1).setCell ⟨w3.heap.size, 2, none⟩ x2))
              ∧ (L 9 = true → L 8 = true)) (by kernel_rfl) (by kernel_rfl) ?_ ?_ (l := [(43, 0), (44, 1), (45, 2), (46, 3), (47, 4), (42, 5), (48, 6), (49, 7), (7, 9)]) (by kernel_rfl) (n := 10) rfl ?_
          · intro v
            exact ⟨fun _ => (Y.refl _ _).drewY, fun _ _ => hr3.drewY, fun _ => hr3.drewY.weak (by omega) (by omega), fun h => Bool.noConfusion h, fun h => Bool.noConfusion h, fun h => Bool.noConfusion h, fun h => h.elim (fun h => Bool.noConfusion h) (fun h => Bool.noConfusion h), fun h => Bool.noConfusion h, fun h => Bool.noConfusion h, fun h => Bool.noConfusion h, fun h => Bool.noConfusion h, fun h => Bool.noConfusion h, fun h => Bool.noConfusion h, fun h => Bool.noConfusion h, fun h => Bool.noConfusion h, fun h => Bool.noConfusion h, fun h => Bool.noConfusion h, fun h => Bool.noConfusion h⟩
          · intro i hi
            have hi' : i = 0 ∨ i = 1 ∨ i = 2 ∨ i = 3 ∨ i = 4 ∨ i = 5 ∨ i = 6 ∨ i = 7 ∨ i = 8 ∨ i = 9 := by
              have : i < 10 := hi
              omega
            clear hi
            rcases hi' with rfl | rfl | rfl | rfl | rfl | rfl | rfl | rfl | rfl | rfl
            all_goals
              intro o ho L v aa W hI hS hL hA K hK
              cases (show some _ = some o from ho)
              obtain ⟨yy, r0, r1, dS, d8, dM, dX, dG, v0, v1, v3, v2, r8, w9, u1, u2, fin, dF⟩ := hI
            · have a0 := hS.old 3 (by kernel_rfl) rfl
              have nS : L 8 = false := by rcases h : L 8 with _ | _; (· rfl); (· have := (dS h).1; simp [hL] at this)
              obtain ⟨lD, cd, _⟩ := (hB3.bx.y (yy nS) hneb).out
              have d0 := cd 0
              have d1 := cd 1
              have d2 := cd 2
              clear cd
              clear hS ho hA
              go_simp
              exact hK _ W ⟨yy, r0, r1, fun h => ⟨rfl, (dS h).2.1, (dS h).2.2.1, (dS h).2.2.2.1, (dS h).2.2.2.2⟩, d8, dM, dX, dG, fun _ => rfl, v1, v3, v2, r8, w9, u1, u2, fin, dF⟩
            · have a0 := hS.old 0 (by kernel_rfl) rfl
              clear hS ho hA
              go_simp
              exact hK _ W ⟨yy, r0, r1, dS, d8, dM, dX, dG, v0, fun _ => rfl, v3, v2, r8, w9, u1, u2, fin, dF⟩
            · have l1 : L 1 = true := hA ⟨1, .data⟩ (by simp) rfl
              have a1 := hS.get 1 44 rfl l1 (v1 l1)
              have nS : L 8 = false := by rcases h : L 8 with _ | _; (· rfl); (· have := (dS h).2.1; simp [hL] at this)
              clear hS ho hA
              go_simp
              refine (someFile_c rb mm W (r0 nS hL) (by omega)).mono ?_
              rintro _ w' ⟨f, ba, bc, rfl, hO, hz, hr, hy⟩
              exact hK _ w' ⟨fun h => (yy h).trans hy, fun _ h => Bool.noConfusion h, fun _ => hr, fun h => ⟨(dS h).1, rfl, (dS h).2.2.1, (dS h).2.2.2.1, (dS h).2.2.2.2⟩, fun _ => rfl, dM, dX, dG, v0, v1, v3, fun _ _ => ⟨f, ba, bc, rfl, own_less hO (yy nS).size, hz⟩, fun h _ => Bool.noConfusion (hL.symm.trans (d8 h)), w9, u1, u2, fun h => Bool.noConfusion (nS.symm.trans h), dF⟩
            · have a0 := hS.old 5 (by kernel_rfl) rfl
              clear hS ho hA
              go_simp
              exact hK _ W ⟨yy, r0, r1, dS, d8, dM, dX, dG, v0, v1, fun _ => rfl, v2, r8, w9, u1, u2, fin, dF⟩
            · have l0 : L 0 = true := hA ⟨0, .data⟩ (by simp) rfl
              have l2 : L 2 = true := hA ⟨2, .data⟩ (by simp) rfl
              have l3 : L 3 = true := hA ⟨3, .data⟩ (by simp) rfl
              have a0 := hS.get 0 43 rfl l0 (v0 l0)
              have a3 := hS.get 3 46 rfl l3 (v3 l3)
              have nS : L 8 = false := by rcases h : L 8 with _ | _; (· rfl); (· have := (dS h).2.2.1; simp [hL] at this)
              obtain ⟨f, ba, bc, e6, hO, hz1, hz2, hz3⟩ := v2 l2 nS
              have a2 := hS.get 2 45 rfl l2 e6
              have hb5 := hz3.1
              clear hS ho hA
              go_simp
              refine (DiskAdd_s l a n c kk dl da dn dc (rb + 1) f ba f.body.length bc W3.heap.size ticks W ((hV3.1.at hV3.2.2.2.1).mono (yy nS).fr) ((hV3.2.1.at hV3.2.2.2.2).mono (yy nS).fr) (by omega) ⟨by omega, by omega⟩ (stmtsS hO hz3)).mono ?_
              rintro _ w' ⟨v', rfl, hk, hx⟩
              obtain ⟨x0, x1, x2, rfl, hN⟩ := nextP_add hV3.2.2.2.1 hV3.2.2.2.2 (by omega) hz1 hz2 hz3 hk
              exact hK _ w' ⟨fun h => (yy h).trans (Y.of_x hx), fun _ h => Bool.noConfusion (h.symm.trans l2), fun h => (r1 h).x hx, fun h => ⟨(dS h).1, (dS h).2.1, rfl, (dS h).2.2.2.1, (dS h).2.2.2.2⟩, fun _ => l2, fun _ => rfl, dX, dG, v0, v1, v3, fun h h2 => let ⟨f, ba, bc, e, ho, hz⟩ := v2 h h2; ⟨f, ba, bc, e, own_fr ho (hx.fr _), hz⟩, fun _ _ => ⟨_, x0, x1, x2, rfl, fun h => Bool.noConfusion (hL.symm.trans (dM h)), fun h => Bool.noConfusion (hL.symm.trans (dM (dX (.inl h)))), hN.less (yy nS).size⟩, w9, u1, u2, fun h => Bool.noConfusion (nS.symm.trans h), dF⟩
            · have l4 : L 4 = true := hA ⟨4, .data⟩ (by simp) rfl
              have nS : L 8 = false := by rcases h : L 8 with _ | _; (· rfl); (· have := (dS h).2.2.2.1; simp [hL] at this)
              obtain ⟨ok, x0, x1, x2, e8, e9, e10, hN⟩ := r8 l4 nS
              have aC := hS.get 4 47 rfl l4 e8
              clear hS ho hA
              go_simp
              exact hK _ W ⟨yy, r0, r1, fun h => ⟨(dS h).1, (dS h).2.1, (dS h).2.2.1, rfl, (dS h).2.2.2.2⟩, d8, fun _ => l4, fun _ => rfl, dG, v0, v1, v3, v2, fun _ _ => ⟨ok, x0, x1, x2, e8, fun _ => rfl, e10, hN⟩, fun _ => ⟨_, _, rfl⟩, fun h => Bool.noConfusion (hL.symm.trans (dX (.inr h))), fun h => Bool.noConfusion (hL.symm.trans (dX (.inr (dG h)))), fun h => Bool.noConfusion (nS.symm.trans h), dF⟩
            · have l5 : L 5 = true := hA ⟨5, .data⟩ (by simp) rfl
              have l4 := dM l5
              have nS : L 8 = false := by rcases h : L 8 with _ | _; (· rfl); (· have := (dS h).2.2.2.2; simp [hL] at this)
              obtain ⟨ok, x0, x1, x2, e8, e9, e10, hN⟩ := r8 l4 nS
              have aC := hS.get 5 42 rfl l5 (e9 l5)
              clear hS ho hA
              go_simp
              exact hK _ W ⟨yy, r0, r1, fun h => ⟨(dS h).1, (dS h).2.1, (dS h).2.2.1, (dS h).2.2.2.1, rfl⟩, d8, dM, fun _ => l5, dG, v0, v1, v3, v2, fun _ _ => ⟨ok, x0, x1, x2, e8, e9, fun _ => rfl, hN⟩, w9, u1, u2, fin, dF⟩
            · have l5 : L 5 = true := hA ⟨5, .data⟩ (by simp) rfl
              obtain ⟨x9, ok9, e9⟩ := w9 l5
              have aC := hS.get 5 42 rfl l5 e9
              clear hS ho hA
              go_simp
              exact hK _ W ⟨yy, r0, r1, dS, d8, dM, fun _ => l5, fun _ => rfl, v0, v1, v3, v2, r8, w9, fun _ => (congrArg (fun z => Value.bool (okOf z)) e9).symm, u2, fin, dF⟩
            · have l6 : L 6 = true := hA ⟨6, .data⟩ (by simp) rfl
              have l0 : L 0 = true := hA ⟨0, .phase⟩ (by simp) rfl
              have l2 : L 2 = true := hA ⟨2, .phase⟩ (by simp) rfl
              have l4 : L 4 = true := hA ⟨4, .phase⟩ (by simp) rfl
              have l5 : L 5 = true := hA ⟨5, .phase⟩ (by simp) rfl
              have nS := hL
              obtain ⟨ok, x0, x1, x2, e8, e9, e10, hN⟩ := r8 l4 nS
              obtain ⟨s0, s1, s2, s3, s4, s5, s6, rfl, rfl, rfl⟩ := hN.shape
              have aX := hS.get 6 48 rfl l6 (e10 l6)
              have aR := hS.old 6 (by kernel_rfl) rfl
              obtain ⟨lb, cb, fb0⟩ := (hN3.bx.y (yy hL) hnen).out
              have f0 := fb0 0
              have f1 := fb0 1
              have f2 := fb0 2
              have c0 := cb 0
              have c1 := cb 1
              have c2 := cb 2
              clear fb0 cb
              clear hS ho hA
              go_simp
              exact hK undef _ ⟨fun h => Bool.noConfusion h, fun h => Bool.noConfusion h, fun h => Bool.noConfusion h, fun _ => ⟨l0, l2, l4, l5, l6⟩, d8, dM, dX, dG, v0, v1, v3, fun _ h => Bool.noConfusion h, fun _ h => Bool.noConfusion h, w9, u1, u2, fun _ => ⟨W, ok, _, _, _, e9 l5, yy hL, r1 hL, hN, rfl⟩, fun _ => rfl⟩
            · have l7 : L 7 = true := hA ⟨7, .data⟩ (by simp) rfl
              have lS : L 8 = true := hA ⟨8, .chain⟩ (by simp) rfl
              have aE := hS.get 7 49 rfl l7 (u1 l7)
              clear hS ho hA
              go_simp
              exact hK _ W ⟨yy, r0, r1, dS, d8, dM, dX, fun _ => l7, v0, v1, v3, v2, r8, w9, u1, fun _ => rfl, fin, fun _ => lS⟩
          intro v W5 hI
          obtain ⟨yy, r0, r1, dS, d8, dM, dX, dG, v0, v1, v3, v2, r8, w9, u1, u2, fin, dF⟩ := hI
          obtain ⟨w4, ok, x0, x1, x2, e9, hy4, hr4, hN, hWe⟩ := fin rfl
          have e13 : v 9 = .bool ok := by rw [u2 rfl, e9]; rfl
          clear e9 yy r0 r1 r8 fin dF dS d8 dM dX dG w9 u1 u2 v0 v1 v3 v2
          simp only [putL, List.foldl, List.setIfInBounds_toArray, List.set_cons_zero, List.set_cons_succ, e13]
          clear e13
          have hT4 := hN3.y hy4 hnen
          have hT5 : Tk W5 w3.heap.size #[x0, x1, x2] := by rw [hWe]; exact hT4.set3 _ _ _
          have hB5 : Tk W5 w1.heap.size #[.slice a n c, .int .i64 kk, .slice da dn dc] := by rw [hWe]; exact (hB3.y hy4 hneb).far3 (by omega) _ _ _
          have hR5 : Tk W5 w.heap.size #[.slice none 0 0, .int .i64 0, .slice none 0 0] := by rw [hWe]; exact (hRr3.y hy4 hneR).far3 (by omega) _ _ _
          have hV5 : DkV W5 w.heap.size a n c kk da dn dc l dl := by rw [hWe]; exact (hVw.fr (hy4.fr.mono (by omega))).set3 hT4 _ _ _
          have hN5 : NextP W5 W3.heap.size ok x0 x1 x2 := by rw [hWe]; exact hN.set3 hT4 _ _ _
          have hr5 : Rdr W5 rb (mm + 70) := by rw [hWe]; exact rdr_set3 hr4 (by omega) _ _ _
          have hy5 : Y rb w W5 := by rw [hWe]; exact y_set3 (hy3w.trans hy4) (by omega) _ _ _
          clear hWe hT4 hr4 hN hB3 hRr3 hVw hV3 hN3 hr3 hy4
          cases ok
          · go_wp2
            go_roundw
            case rel => exact ⟨j - 1, a, n, c, kk, da, dn, dc, l, dl, by omega, by go_num, hR5, hB5, hV5, hr5.weak (by omega) (by omega), hy5⟩
            case measure => simp [intOf]; omega
          · obtain ⟨a', n', c', kk', da', dn', dc', l', dl', rfl, rfl, rfl, hV'⟩ := hN5.2 rfl
            obtain ⟨lt, ct, _⟩ := hT5.bx.out
            have t0 := ct 0
            have t1 := ct 1
            have t2 := ct 2
            obtain ⟨lb, cb, fb⟩ := hB5.bx.out
            have b0 := cb 0
            have b1 := cb 1
            have b2 := cb 2
            have fb0 := fb 0
            have fb1 := fb 1
            have fb2 := fb 2
            clear ct cb fb
            go_wp2
            go_roundw
            case rel => exact ⟨j - 1, a', n', c', kk', da', dn', dc', l', dl', by omega, by go_num, hR5.far3 (by omega) _ _ _, hB5.set3 _ _ _, (hV'.less (by omega)).set3 hB5 _ _ _, (rdr_set3 hr5 (by omega) _ _ _).weak (by omega) (by omega), y_set3 hy5 (by omega) _ _ _⟩
            case measure => simp [intOf]; omega
        · go_wp2
          clear d0 lD
          refine wp_region_inv (fun L v W => (L 8 = false → Y rb W3 W)
              ∧ (L 8 = false → L 2 = false → Rdr W rb mm)
              ∧ (L 8 = false → Rdr W rb (mm + 70))
              ∧ (L 8 = true → L 0 = true ∧ L 2 = true ∧ L 4 = true ∧ L 5 = true ∧ L 6 = true)
              ∧ (L 4 = true → L 2 = true)
              ∧ (L 5 = true → L 4 = true)
              ∧ (L 6 = true ∨ L 7 = true → L 5 = true)
              ∧ (L 9 = true → L 7 = true)
              ∧ (L 0 = true → v 0 = .agg #[.slice a n c, .int .i64 kk, .slice da dn dc])
              ∧ (L 1 = true → v 1 = .pointer (some ⟨rb, 0, none⟩))
              ∧ (L 3 = true → v 3 = .int .i64 ticks)
              ∧ (L 2 = true → L 8 = false → ∃ (f : Fi) (ba : Option Addr) (bc : Nat), v 2 = .agg #[.int .i64 (f).root, .string ⟨(f).pkg.toArray⟩, .string ⟨(f).name.toArray⟩, .bool (f).init, .int .i64 (f).stamp, .slice ba f.body.length bc] ∧ W.ownsRow W3.heap.size 92 5 (.slice ba f.body.length bc) f.body.length (f.body.flatMap scells) ∧ f.pkg.length ≤ 20 ∧ f.name.length ≤ 20 ∧ SmallB f.body)
              ∧ (L 4 = true → L 8 = false → ∃ ok x0 x1 x2, v 4 = .tuple #[.agg #[x0, x1, x2], .bool ok] ∧ (L 5 = true → v 5 = .tuple #[.agg #[x0, x1, x2], .bool ok]) ∧ (L 6 = true → v 6 = .agg #[x0, x1, x2]) ∧ NextP W W3.heap.size ok x0 x1 x2)
              ∧ (L 5 = true → ∃ x ok, v 5 = .tuple #[x, .bool ok])
              ∧ (L 7 = true → v 7 = .bool (okOf (v 5)))
              ∧ (L 9 = true → v 9 = .bool (okOf (v 5)))
              ∧ (L 8 = true → ∃ w4 ok x0 x1 x2, v 5 = .tuple #[.agg #[x0, x1, x2], .bool ok] ∧ Y rb W3 w4 ∧ Rdr w4 rb (mm + 70) ∧ NextP w4 W3.heap.size ok x0 x1 x2 ∧ W = (((w4.setCell ⟨w3.heap.size, 0, none⟩ x0).setCell ⟨w3.heap.size, 1, none⟩ x1).setCell ⟨w3.heap.size, 2, none⟩ x2))
              ∧ (L 9 = true → L 8 = true)) (by kernel_rfl) (by kernel_rfl) ?_ ?_ (l := [(43, 0), (44, 1), (45, 2), (46, 3), (47, 4), (42, 5), (48, 6), (49, 7), (7, 9)]) (by kernel_rfl) (n := 10) rfl ?_
          · intro v
            exact ⟨fun _ => (Y.refl _ _).drewY, fun _ _ => hr3.drewY, fun _ => hr3.drewY.weak (by omega) (by omega), fun h => Bool.noConfusion h, fun h => Bool.noConfusion h, fun h => Bool.noConfusion h, fun h => h.elim (fun h => Bool.noConfusion h) (fun h => Bool.noConfusion h), fun h => Bool.noConfusion h, fun h => Bool.noConfusion h, fun h => Bool.noConfusion h, fun h => Bool.noConfusion h, fun h => Bool.noConfusion h, fun h => Bool.noConfusion h, fun h => Bool.noConfusion h, fun h => Bool.noConfusion h, fun h => Bool.noConfusion h, fun h => Bool.noConfusion h, fun h => Bool.noConfusion h⟩
          · intro i hi
            have hi' : i = 0 ∨ i = 1 ∨ i = 2 ∨ i = 3 ∨ i = 4 ∨ i = 5 ∨ i = 6 ∨ i = 7 ∨ i = 8 ∨ i = 9 := by
              have : i < 10 := hi
              omega
            clear hi
            rcases hi' with rfl | rfl | rfl | rfl | rfl | rfl | rfl | rfl | rfl | rfl
            all_goals
              intro o ho L v aa W hI hS hL hA K hK
              cases (show some _ = some o from ho)
              obtain ⟨yy, r0, r1, dS, d8, dM, dX, dG, v0, v1, v3, v2, r8, w9, u1, u2, fin, dF⟩ := hI
            · have a0 := hS.old 3 (by kernel_rfl) rfl
              have nS : L 8 = false := by rcases h : L 8 with _ | _; (· rfl); (· have := (dS h).1; simp [hL] at this)
              obtain ⟨lD, cd, _⟩ := (hB3.bx.y (yy nS) hneb).out
              have d0 := cd 0
              have d1 := cd 1
              have d2 := cd 2
              clear cd
              clear hS ho hA
              go_simp
              exact hK _ W ⟨yy, r0, r1, fun h => ⟨rfl, (dS h).2.1, (dS h).2.2.1, (dS h).2.2.2.1, (dS h).2.2.2.2⟩, d8, dM, dX, dG, fun _ => rfl, v1, v3, v2, r8, w9, u1, u2, fin, dF⟩
            · have a0 := hS.old 0 (by kernel_rfl) rfl
              clear hS ho hA
              go_simp
              exact hK _ W ⟨yy, r0, r1, dS, d8, dM, dX, dG, v0, fun _ => rfl, v3, v2, r8, w9, u1, u2, fin, dF⟩
            · have l1 : L 1 = true := hA ⟨1, .data⟩ (by simp) rfl
              have a1 := hS.get 1 44 rfl l1 (v1 l1)
              have nS : L 8 = false := by rcases h : L 8 with _ | _; (· rfl); (· have := (dS h).2.1; simp [hL] at this)
              clear hS ho hA
              go_simp
              refine (someFile_c rb mm W (r0 nS hL) (by omega)).mono ?_
              rintro _ w' ⟨f, ba, bc, rfl, hO, hz, hr, hy⟩
              exact hK _ w' ⟨fun h => (yy h).trans hy, fun _ h => Bool.noConfusion h, fun _ => hr, fun h => ⟨(dS h).1, rfl, (dS h).2.2.1, (dS h).2.2.2.1, (dS h).2.2.2.2⟩, fun _ => rfl, dM, dX, dG, v0, v1, v3, fun _ _ => ⟨f, ba, bc, rfl, own_less hO (yy nS).size, hz⟩, fun h _ => Bool.noConfusion (hL.symm.trans (d8 h)), w9, u1, u2, fun h => Bool.noConfusion (nS.symm.trans h), dF⟩
            · have a0 := hS.old 5 (by kernel_rfl) rfl
              clear hS ho hA
              go_simp
              exact hK _ W ⟨yy, r0, r1, dS, d8, dM, dX, dG, v0, v1, fun _ => rfl, v2, r8, w9, u1, u2, fin, dF⟩
            · have l0 : L 0 = true := hA ⟨0, .data⟩ (by simp) rfl
              have l2 : L 2 = true := hA ⟨2, .data⟩ (by simp) rfl
              have l3 : L 3 = true := hA ⟨3, .data⟩ (by simp) rfl
              have a0 := hS.get 0 43 rfl l0 (v0 l0)
              have a3 := hS.get 3 46 rfl l3 (v3 l3)
              have nS : L 8 = false := by rcases h : L 8 with _ | _; (· rfl); (· have := (dS h).2.2.1; simp [hL] at this)
              obtain ⟨f, ba, bc, e6, hO, hz1, hz2, hz3⟩ := v2 l2 nS
              have a2 := hS.get 2 45 rfl l2 e6
              have hb5 := hz3.1
              clear hS ho hA
              go_simp
              refine (DiskAdd_s l a n c kk dl da dn dc (rb + 1) f ba f.body.length bc W3.heap.size ticks W ((hV3.1.at hV3.2.2.2.1).mono (yy nS).fr) ((hV3.2.1.at hV3.2.2.2.2).mono (yy nS).fr) (by omega) ⟨by omega, by omega⟩ (stmtsS hO hz3)).mono ?_
              rintro _ w' ⟨v', rfl, hk, hx⟩
              obtain ⟨x0, x1, x2, rfl, hN⟩ := nextP_add hV3.2.2.2.1 hV3.2.2.2.2 (by omega) hz1 hz2 hz3 hk
              exact hK _ w' ⟨fun h => (yy h).trans (Y.of_x hx), fun _ h => Bool.noConfusion (h.symm.trans l2), fun h => (r1 h).x hx, fun h => ⟨(dS h).1, (dS h).2.1, rfl, (dS h).2.2.2.1, (dS h).2.2.2.2⟩, fun _ => l2, fun _ => rfl, dX, dG, v0, v1, v3, fun h h2 => let ⟨f, ba, bc, e, ho, hz⟩ := v2 h h2; ⟨f, ba, bc, e, own_fr ho (hx.fr _), hz⟩, fun _ _ => ⟨_, x0, x1, x2, rfl, fun h => Bool.noConfusion (hL.symm.trans (dM h)), fun h => Bool.noConfusion (hL.symm.trans (dM (dX (.inl h)))), hN.less (yy nS).size⟩, w9, u1, u2, fun h => Bool.noConfusion (nS.symm.trans h), dF⟩
            · have l4 : L 4 = true := hA ⟨4, .data⟩ (by simp) rfl
              have nS : L 8 = false := by rcases h : L 8 with _ | _; (· rfl); (· have := (dS h).2.2.2.1; simp [hL] at this)
              obtain ⟨ok, x0, x1, x2, e8, e9, e10, hN⟩ := r8 l4 nS
              have aC := hS.get 4 47 rfl l4 e8
              clear hS ho hA
              go_simp
              exact hK _ W ⟨yy, r0, r1, fun h => ⟨(dS h).1, (dS h).2.1, (dS h).2.2.1, rfl, (dS h).2.2.2.2⟩, d8, fun _ => l4, fun _ => rfl, dG, v0, v1, v3, v2, fun _ _ => ⟨ok, x0, x1, x2, e8, fun _ => rfl, e10, hN⟩, fun _ => ⟨_, _, rfl⟩, fun h => Bool.noConfusion (hL.symm.trans (dX (.inr h))), fun h => Bool.noConfusion (hL.symm.trans (dX (.inr (dG h)))), fun h => Bool.noConfusion (nS.symm.trans h), dF⟩
            · have l5 : L 5 = true := hA ⟨5, .data⟩ (by simp) rfl
              have l4 := dM l5
              have nS : L 8 = false := by rcases h : L 8 with _ | _; (· rfl); (· have := (dS h).2.2.2.2; simp [hL] at this)
              obtain ⟨ok, x0, x1, x2, e8, e9, e10, hN⟩ := r8 l4 nS
              have aC := hS.get 5 42 rfl l5 (e9 l5)
              clear hS ho hA
              go_simp
              exact hK _ W ⟨yy, r0, r1, fun h => ⟨(dS h).1, (dS h).2.1, (dS h).2.2.1, (dS h).2.2.2.1, rfl⟩, d8, dM, fun _ => l5, dG, v0, v1, v3, v2, fun _ _ => ⟨ok, x0, x1, x2, e8, e9, fun _ => rfl, hN⟩, w9, u1, u2, fin, dF⟩
            · have l5 : L 5 = true := hA ⟨5, .data⟩ (by simp) rfl
              obtain ⟨x9, ok9, e9⟩ := w9 l5
              have aC := hS.get 5 42 rfl l5 e9
              clear hS ho hA
              go_simp
              exact hK _ W ⟨yy, r0, r1, dS, d8, dM, fun _ => l5, fun _ => rfl, v0, v1, v3, v2, r8, w9, fun _ => (congrArg (fun z => Value.bool (okOf z)) e9).symm, u2, fin, dF⟩
            · have l6 : L 6 = true := hA ⟨6, .data⟩ (by simp) rfl
              have l0 : L 0 = true := hA ⟨0, .phase⟩ (by simp) rfl
              have l2 : L 2 = true := hA ⟨2, .phase⟩ (by simp) rfl
              have l4 : L 4 = true := hA ⟨4, .phase⟩ (by simp) rfl
              have l5 : L 5 = true := hA ⟨5, .phase⟩ (by simp) rfl
              have nS := hL
              obtain ⟨ok, x0, x1, x2, e8, e9, e10, hN⟩ := r8 l4 nS
              obtain ⟨s0, s1, s2, s3, s4, s5, s6, rfl, rfl, rfl⟩ := hN.shape
              have aX := hS.get 6 48 rfl l6 (e10 l6)
              have aR := hS.old 6 (by kernel_rfl) rfl
              obtain ⟨lb, cb, fb0⟩ := (hN3.bx.y (yy hL) hnen).out
              have f0 := fb0 0
              have f1 := fb0 1
              have f2 := fb0 2
              have c0 := cb 0
              have c1 := cb 1
              have c2 := cb 2
              clear fb0 cb
              clear hS ho hA
              go_simp
              exact hK undef _ ⟨fun h => Bool.noConfusion h, fun h => Bool.noConfusion h, fun h => Bool.noConfusion h, fun _ => ⟨l0, l2, l4, l5, l6⟩, d8, dM, dX, dG, v0, v1, v3, fun _ h => Bool.noConfusion h, fun _ h => Bool.noConfusion h, w9, u1, u2, fun _ => ⟨W, ok, _, _, _, e9 l5, yy hL, r1 hL, hN, rfl⟩, fun _ => rfl⟩
            · have l7 : L 7 = true := hA ⟨7, .data⟩ (by simp) rfl
              have lS : L 8 = true := hA ⟨8, .chain⟩ (by simp) rfl
              have aE := hS.get 7 49 rfl l7 (u1 l7)
              clear hS ho hA
              go_simp
              exact hK _ W ⟨yy, r0, r1, dS, d8, dM, dX, fun _ => l7, v0, v1, v3, v2, r8, w9, u1, fun _ => rfl, fin, fun _ => lS⟩
          intro v W5 hI
          obtain ⟨yy, r0, r1, dS, d8, dM, dX, dG, v0, v1, v3, v2, r8, w9, u1, u2, fin, dF⟩ := hI
          obtain ⟨w4, ok, x0, x1, x2, e9, hy4, hr4, hN, hWe⟩ := fin rfl
          have e13 : v 9 = .bool ok := by rw [u2 rfl, e9]; rfl
          clear e9 yy r0 r1 r8 fin dF dS d8 dM dX dG w9 u1 u2 v0 v1 v3 v2
          simp only [putL, List.foldl, List.setIfInBounds_toArray, List.set_cons_zero, List.set_cons_succ, e13]
          clear e13
          have hT4 := hN3.y hy4 hnen
          have hT5 : Tk W5 w3.heap.size #[x0, x1, x2] := by rw [hWe]; exact hT4.set3 _ _ _
          have hB5 : Tk W5 w1.heap.size #[.slice a n c, .int .i64 kk, .slice da dn dc] := by rw [hWe]; exact (hB3.y hy4 hneb).far3 (by omega) _ _ _
          have hR5 : Tk W5 w.heap.size #[.slice none 0 0, .int .i64 0, .slice none 0 0] := by rw [hWe]; exact (hRr3.y hy4 hneR).far3 (by omega) _ _ _
          have hV5 : DkV W5 w.heap.size a n c kk da dn dc l dl := by rw [hWe]; exact (hVw.fr (hy4.fr.mono (by omega))).set3 hT4 _ _ _
          have hN5 : NextP W5 W3.heap.size ok x0 x1 x2 := by rw [hWe]; exact hN.set3 hT4 _ _ _
          have hr5 : Rdr W5 rb (mm + 70) := by rw [hWe]; exact rdr_set3 hr4 (by omega) _ _ _
          have hy5 : Y rb w W5 := by rw [hWe]; exact y_set3 (hy3w.trans hy4) (by omega) _ _ _
          clear hWe hT4 hr4 hN hB3 hRr3 hVw hV3 hN3 hr3 hy4
          cases ok
          · go_wp2
            go_roundw
            case rel => exact ⟨j - 1, a, n, c, kk, da, dn, dc, l, dl, by omega, by go_num, hR5, hB5, hV5, hr5.weak (by omega) (by omega), hy5⟩
            case measure => simp [intOf]; omega
          · obtain ⟨a', n', c', kk', da', dn', dc', l', dl', rfl, rfl, rfl, hV'⟩ := hN5.2 rfl
            obtain ⟨lt, ct, _⟩ := hT5.bx.out
            have t0 := ct 0
            have t1 := ct 1
            have t2 := ct 2
            obtain ⟨lb, cb, fb⟩ := hB5.bx.out
            have b0 := cb 0
            have b1 := cb 1
            have b2 := cb 2
            have fb0 := fb 0
            have fb1 := fb 1
            have fb2 := fb 2
            clear ct cb fb
            go_wp2
            go_roundw
            case rel => exact ⟨j - 1, a', n', c', kk', da', dn', dc', l', dl', by omega, by go_num, hR5.far3 (by omega) _ _ _, hB5.set3 _ _ _, (hV'.less (by omega)).set3 hB5 _ _ _, (rdr_set3 hr5 (by omega) _ _ _).weak (by omega) (by omega), y_set3 hy5 (by omega) _ _ _⟩
            case measure => simp [intOf]; omega
    · obtain ⟨lb, cb, _⟩ := hB.bx.out
      have b0 := cb 0
      have b1 := cb 1
      have b2 := cb 2
      obtain ⟨lr, cr, fr⟩ := hR.bx.out
      have fr0 := fr 0
      have fr1 := fr 1
      have fr2 := fr 2
      have r0 := cr 0
      have r1 := cr 1
      have r2 := cr 2
      clear cb cr fr
      go_wp2
      refine bodyPost_row Tryd.results41 rfl (Bx.set (Bx.set (Bx.set hR.bx 0 _) 1 _) 2 _) disk_S rfl rfl ?_
      exact ⟨a, n, c, kk, da, dn, dc, l, dl, rfl, hV.set3 hR _ _ _, (rdr_set3 hr (by omega) _ _ _).weak (by omega) (by omega), y_set3 hy (by omega) _ _ _⟩

end Go.Proofs.YtgjfjjhmgbemcaaDoor
