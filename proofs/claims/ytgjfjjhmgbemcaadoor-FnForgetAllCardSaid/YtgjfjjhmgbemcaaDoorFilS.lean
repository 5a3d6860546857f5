/- What is found of a part by what a finder knows: the walk of the reference's function. No condition but lengths. -/
import Derived.Test.YtgjfjjhmgbemcaaDoorFilW
import Derived.Test.YtgjfjjhmgbemcaaDoorIc
namespace Go.Proofs.YtgjfjjhmgbemcaaDoor
open Go.RowKit

/-- A box of its type. -/
def Tb (t : TypeId) (w : World) (b : Nat) (cs : Array Value) : Prop := w.heap[b]? = some (.cells cs t (0, 0))
theorem Tb.bx {t : TypeId} {w : World} {b : Nat} {cs : Array Value} (h : Tb t w b cs) : Bx w b cs := ⟨_, h⟩
theorem Tb.x {t : TypeId} {w w' : World} {b : Nat} {cs : Array Value} (h : Tb t w b cs) (hx : X w w') : Tb t w' b cs := at_x2' h hx
theorem Tb.far {t : TypeId} {w : World} {b : Nat} {cs : Array Value} (h : Tb t w b cs) {p : Addr} (hne : b ≠ p.block) (v : Value) : Tb t (w.setCell p v) b cs := (heap_setCell_other w p b v hne).trans h
theorem Tb.far3 {t : TypeId} {w : World} {b g : Nat} {cs : Array Value} (h : Tb t w b cs) (hne : b ≠ g) (v0 v1 v2 : Value) : Tb t (((w.setCell ⟨g, 0, none⟩ v0).setCell ⟨g, 1, none⟩ v1).setCell ⟨g, 2, none⟩ v2) b cs :=
  Tb.far (p := ⟨g, 2, none⟩) (Tb.far (p := ⟨g, 1, none⟩) (Tb.far (p := ⟨g, 0, none⟩) h hne v0) hne v1) hne v2
theorem Tb.set3 {t : TypeId} {w : World} {b : Nat} {z0 z1 z2 : Value} (h : Tb t w b #[z0, z1, z2]) (v0 v1 v2 : Value) : Tb t (((w.setCell ⟨b, 0, none⟩ v0).setCell ⟨b, 1, none⟩ v1).setCell ⟨b, 2, none⟩ v2) b #[v0, v1, v2] := heap_set3 h v0 v1 v2
theorem Tb.cells {t : TypeId} {w : World} {b : Nat} {z0 z1 z2 : Value} (h : Tb t w b #[z0, z1, z2]) : b < w.heap.size ∧ w.cell? ⟨b, 0, none⟩ = some z0 ∧ w.cell? ⟨b, 1, none⟩ = some z1 ∧ w.cell? ⟨b, 2, none⟩ = some z2 ∧ w.frozen? ⟨b, 0, none⟩ = false ∧ w.frozen? ⟨b, 1, none⟩ = false ∧ w.frozen? ⟨b, 2, none⟩ = false := by
  obtain ⟨l, c, f⟩ := h.bx.out
  exact ⟨l, c 0, c 1, c 2, f 0, f 1, f 2⟩
theorem Tb.gr {t : TypeId} {w w' : World} {b B n c : Nat} {a : Option Addr} {l : List Di} {v' : Value} {cs : Array Value} (h : Tb t w b cs) (hf : DirsO w B a n c l) (hg : GrF w w' (.slice a n c) v') (hne : 71 ≠ t) : Tb t w' b cs := at_gr h hf hg hne
theorem Tf.gr {w w' : World} {b B n c : Nat} {a : Option Addr} {l : List Di} {v' : Value} {cs : Array Value} (h : Tf w b cs) (hf : DirsO w B a n c l) (hg : GrF w w' (.slice a n c) v') : Tf w' b cs := at_gr h hf hg (by decide)
theorem own_set3t {t : TypeId} {w : World} {B e size n b : Nat} {v : Value} {xs : List Value} {z0 z1 z2 : Value} (h : w.ownsRow B e size v n xs) (hT : Tb t w b #[z0, z1, z2]) (hne : e ≠ t) (v0 v1 v2 : Value) : (((w.setCell ⟨b, 0, none⟩ v0).setCell ⟨b, 1, none⟩ v1).setCell ⟨b, 2, none⟩ v2).ownsRow B e size v n xs :=
  own_set_far (own_set_far (own_set_far h hT hne 0 v0) (heap_set1 hT) hne 1 v1) (heap_set2 hT) hne 2 v2
theorem FdV.set3t {t : TypeId} {w : World} {B n c b : Nat} {fi hi : Int} {a : Option Addr} {l : List Di} {z0 z1 z2 : Value} (h : FdV w B a n c fi hi l) (hT : Tb t w b #[z0, z1, z2]) (h1 : 71 ≠ t) (h2 : 9 ≠ t) (v0 v1 v2 : Value) : FdV (((w.setCell ⟨b, 0, none⟩ v0).setCell ⟨b, 1, none⟩ v1).setCell ⟨b, 2, none⟩ v2) B a n c fi hi l :=
  ((h.far hT h1 h2 0 v0).far (heap_set1 hT) h1 h2 1 v1).far (heap_set2 hT) h1 h2 2 v2
theorem FdV.set3 {w : World} {B n c b : Nat} {fi hi : Int} {a : Option Addr} {l : List Di} {z0 z1 z2 : Value} (h : FdV w B a n c fi hi l) (hT : Tf w b #[z0, z1, z2]) (v0 v1 v2 : Value) : FdV (((w.setCell ⟨b, 0, none⟩ v0).setCell ⟨b, 1, none⟩ v1).setCell ⟨b, 2, none⟩ v2) B a n c fi hi l := FdV.set3t (t := 44) h hT (by decide) (by decide) v0 v1 v2
theorem cell_set3 {w : World} {b o g : Nat} (hne : b ≠ g) (v0 v1 v2 : Value) : (((w.setCell ⟨g, 0, none⟩ v0).setCell ⟨g, 1, none⟩ v1).setCell ⟨g, 2, none⟩ v2).cell? ⟨b, o, none⟩ = w.cell? ⟨b, o, none⟩ := by
  have h : ∀ (w : World) (i : Nat) (u : Value), (w.setCell ⟨g, i, none⟩ u).cell? ⟨b, o, none⟩ = w.cell? ⟨b, o, none⟩ := fun w i u => World.cell?_of_block (w := w) (heap_setCell_other w ⟨g, i, none⟩ b u hne)
  rw [h, h, h]
/-- Numbers that lie apart from a finder's row. -/
def IntsF (w : World) (B : Nat) (a : Option Addr) (n : Nat) (l : List Int) (v : Value) : Prop := IntsAt w B a n l ∧ (0 < n → ∃ b off, a = some ⟨b, off, none⟩ ∧ b < w.heap.size ∧ v.ownBlock ≠ some b)
theorem IntsF.gr {w w' : World} {B n : Nat} {a : Option Addr} {l : List Int} {v v' : Value} (h : IntsF w B a n l v) (hg : GrF w w' v v') : IntsF w' B a n l v' := by
  refine ⟨⟨h.1.1, h.1.2.1, fun hn => ?_⟩, fun hn => ?_⟩
  · obtain ⟨b, off, e, hb, hne⟩ := h.2 hn
    obtain ⟨b', off', e', hB, hb', hc⟩ := h.1.2.2 hn
    rw [e] at e'
    cases e'
    exact ⟨b, off, e, hB, Nat.lt_of_lt_of_le hb hg.size, fun q hq => (World.cell?_of_block (w := w) (hg.1.block b hb (Ne.symm hne))).trans (hc q hq)⟩
  · obtain ⟨b, off, e, hb, hne⟩ := h.2 hn
    refine ⟨b, off, e, Nat.lt_of_lt_of_le hb hg.size, fun e2 => ?_⟩
    rcases hg.2 with e1 | e1 | ⟨b', e1, hb'⟩
    · rw [e1] at e2; cases e2
    · exact hne (e1 ▸ e2)
    · rw [e1] at e2
      have := Option.some.inj e2
      omega
theorem IntsF.x {w w' : World} {B n : Nat} {a : Option Addr} {l : List Int} {v : Value} (h : IntsF w B a n l v) (hx : X w w') : IntsF w' B a n l v := h.gr (GrF.of_x _ hx)
theorem IntsF.of_own {w : World} {B B2 c n2 c2 : Nat} {a a2 : Option Addr} {l : List Int} {l2 : List Di} (ho : w.ownsRow B 3 1 (.slice a l.length c) l.length (ints l)) (hf : DirsO w B2 a2 n2 c2 l2) (hn : l.length ≤ 2097152) : IntsF w B a l.length l (.slice a2 n2 c2) := by
  refine ⟨SpecAt.ints ho hn, fun h0 => ?_⟩
  obtain ⟨g, rfl, _, hg⟩ := own_form ho h0
  obtain ⟨us, _, _, k2, _, _⟩ := hf
  refine ⟨g, 0, rfl, hg, fun e => ?_⟩
  rcases row_ne ho k2 (by decide) with h | h
  · cases h
  · exact h e.symm
theorem IntsF.of_ge {w : World} {B n : Nat} {a : Option Addr} {l : List Int} {v : Value} (h : IntsAt w B a n l) (hv : ∀ b, v.ownBlock = some b → b < B) : IntsF w B a n l v := by
  refine ⟨h, fun hn => ?_⟩
  obtain ⟨b, off, e, hB, hb, _⟩ := h.2.2 hn
  exact ⟨b, off, e, hb, fun e2 => by have := hv b e2; omega⟩
/-- A disk that lies apart from a finder's row. -/
def DF (w : World) (B : Nat) (a : Option Addr) (n c : Nat) (da : Option Addr) (dn dc : Nat) (l : List Fi) (dl : List Di) (v : Value) : Prop :=
  FilesO w B a n c l ∧ DirsO w B da dn dc dl ∧ OkL l ∧ OkD dl ∧ treeB l = true ∧ Apt (.slice da dn dc) v
theorem DF.gr {w w' : World} {B n c dn dc B2 fn fc : Nat} {a da fa : Option Addr} {l : List Fi} {dl fl : List Di} {v' : Value} (h : DF w B a n c da dn dc l dl (.slice fa fn fc)) (hf : DirsO w B2 fa fn fc fl) (hg : GrF w w' (.slice fa fn fc) v') : DF w' B a n c da dn dc l dl v' :=
  ⟨h.1.gr hf hg, h.2.1.gr hf hg h.2.2.2.2.2, h.2.2.1, h.2.2.2.1, h.2.2.2.2.1, h.2.2.2.2.2.gr hg (fun b hb => (h.2.1.blk b hb).2)⟩
theorem DF.x {w w' : World} {B n c dn dc : Nat} {a da : Option Addr} {l : List Fi} {dl : List Di} {v : Value} (h : DF w B a n c da dn dc l dl v) (hx : X w w') : DF w' B a n c da dn dc l dl v :=
  ⟨h.1.fr (hx.fr _), h.2.1.fr (hx.fr _), h.2.2⟩
theorem DF.at {w : World} {B n c dn dc : Nat} {a da : Option Addr} {l : List Fi} {dl : List Di} {v : Value} (h : DF w B a n c da dn dc l dl v) : FilesAt w B a n l ∧ DirsAt w B da dn dl := ⟨h.1.at h.2.2.1, h.2.1.at h.2.2.2.1⟩
theorem tb_new (w : World) (t : TypeId) (c : Array Value) {b : Nat} (h : b = w.heap.size) : Tb t (w.alloc (.cells c t)) b c := by
  subst h
  exact heap_alloc_new _ _
theorem tb4 {w W : World} {c1 c2 c3 c4 : Array Value} {t1 t2 t3 t4 : TypeId} (h : W = (((w.alloc (.cells c1 t1)).alloc (.cells c2 t2)).alloc (.cells c3 t3)).alloc (.cells c4 t4)) :
    Tb t1 W w.heap.size c1 ∧ Tb t2 W (w.heap.size + 1) c2 ∧ Tb t3 W (w.heap.size + 1 + 1) c3 ∧ Tb t4 W (w.heap.size + 1 + 1 + 1) c4 ∧ X w W ∧ W.heap.size = w.heap.size + 4 := by
  subst h
  refine ⟨?_, ?_, ?_, ?_, by (repeat (first | with_reducible exact X.refl _ | with_reducible assumption | with_reducible refine X.setCell ?_ (by first | (simp; done) | (simp; omega)) _ | with_reducible refine X.ext ?_ _ | with_reducible refine X.alloc ?_ _ | with_reducible refine X.drew ?_)), by simp⟩
  · exact (((tb_new w t1 c1 rfl).x ((X.refl _).alloc _)).x ((X.refl _).alloc _)).x ((X.refl _).alloc _)
  · exact ((tb_new (w.alloc (.cells c1 t1)) t2 c2 (by simp)).x ((X.refl _).alloc _)).x ((X.refl _).alloc _)
  · exact (tb_new ((w.alloc (.cells c1 t1)).alloc (.cells c2 t2)) t3 c3 (by simp)).x ((X.refl _).alloc _)
  · exact tb_new (((w.alloc (.cells c1 t1)).alloc (.cells c2 t2)).alloc (.cells c3 t3)) t4 c4 (by simp)
theorem GrF.own {w W w' : World} {v v' u : Value} (h : GrF w W v v') (hg : W.grownBy w' u.ownBlock) (hu : ∀ b, u.ownBlock = some b → w.heap.size ≤ b) : GrF w w' v v' :=
  ⟨⟨hg.os.trans h.1.os, hg.tape.trans h.1.tape, hg.output.trans h.1.output, Nat.le_trans h.1.size hg.size, fun i hi hne => (hg.block i (Nat.lt_of_lt_of_le hi h.1.size) (fun e => by have := hu i e.symm; omega)).trans (h.1.block i hi hne)⟩, h.2⟩
theorem FdV.own {w w' : World} {B B2 e size m n c : Nat} {fi hi : Int} {a : Option Addr} {l : List Di} {u : Value} {xs : List Value} (h : FdV w B a n c fi hi l) (hg : w.grownBy w' u.ownBlock) (ho : w.ownsRow B2 e size u m xs) (h1 : 71 ≠ e) (h2 : 9 ≠ e) : FdV w' B a n c fi hi l := by
  obtain ⟨⟨vs, e1, k1, k2, ks, k3⟩, hr⟩ := h
  exact ⟨⟨vs, e1, k1, k2.kept hg (row_ne k2 ho h1), ks, fun x hx => by
    obtain ⟨ba, bc, e2, hb⟩ := k3 x hx
    exact ⟨ba, bc, e2, hb.kept hg (row_ne hb ho h2)⟩⟩, hr⟩
theorem Tb.own {t : TypeId} {w w' : World} {b B e size n : Nat} {v : Value} {xs : List Value} {cs : Array Value} (h : Tb t w b cs) (hg : w.grownBy w' v.ownBlock) (ho : w.ownsRow B e size v n xs) (hne : e ≠ t) : Tb t w' b cs := at_grown h hg (own_ne_at ho h hne)
/-- What is left behind a look. -/
def SeenP (w w' : World) (B : Nat) (v : Value) (pn : Nat) (e : Ending) : Prop := ∃ (fl : List Di) (fa : Option Addr) (fn fc : Nat) (fi hi kd file : Int) (roots : List Int) (ra : Option Addr) (rc : Nat),
  e = .returned (.tuple #[.agg #[.slice fa fn fc, .int .i64 fi, .int .i64 hi], .agg #[.int .i64 kd, .int .i64 file, .slice ra roots.length rc]]) ∧ FdV w' B fa fn fc fi hi fl ∧ (kd = 0 ∨ kd = 1 ∨ kd = 2 ∨ kd = 3) ∧ roots.length ≤ pn ∧ w'.ownsRow B 3 1 (.slice ra roots.length rc) roots.length (ints roots) ∧ GrF w w' v (.slice fa fn fc)

set_option maxRecDepth 100000 in
set_option maxHeartbeats 8000000 in
theorem seenIn_c (fl : List Di) (fa : Option Addr) (fn fc : Nat) (fi hi : Int) (l : List Fi) (a : Option Addr) (n c : Nat) (kk : Int) (dl : List Di) (da : Option Addr) (dn dc B Bp : Nat) (path : List Int) (pa : Option Addr) (pn pc : Nat) (p s : List UInt8) (w : World)
    (hV : FdV w B fa fn fc fi hi fl) (hB : B ≤ w.heap.size) (hD : DF w B a n c da dn dc l dl (.slice fa fn fc)) (hI : IntsF w Bp pa pn path (.slice fa fn fc)) (hpn : pn ≤ 10) (hp : pkgB p = true) (hs : s.length ≤ 20) :
    Calls Tryd.prog 95 #[.agg #[.slice fa fn fc, .int .i64 fi, .int .i64 hi], .agg #[.slice a n c, .int .i64 kk, .slice da dn dc], .slice pa pn pc, .string ⟨(p).toArray⟩, .string ⟨(s).toArray⟩] w fun e w' => SeenP w w' B (.slice fa fn fc) pn e := by
  have hpl := pkg12 hp
  have hch := childL_length p s (by omega) (by omega)
  go_enter Tryd.func95, Tryd.ntmps95
  go_wp2
  refine wp_name (fun W0 hW0 => ?_)
  obtain ⟨W4, hW4⟩ : ∃ W4, W4 = (((w.alloc (.cells #[.slice fa fn fc, .int .i64 fi, .int .i64 hi] 44)).alloc (.cells #[.slice a n c, .int .i64 kk, .slice da dn dc] 28)).alloc (.cells #[.slice none 0 0, .int .i64 0, .int .i64 0] 44)).alloc (.cells #[.int .i64 0, .int .i64 0, .slice none 0 0] 95) := ⟨_, rfl⟩
  obtain ⟨hT4, hD4, hR4, hS4, hX4, hz4⟩ := tb4 hW4
  rw [← hW4] at hW0
  have hx0 : X W4 W0 := by rw [hW0]; (repeat (first | with_reducible exact X.refl _ | with_reducible assumption | with_reducible refine X.setCell ?_ (by first | (simp; done) | (simp; omega)) _ | with_reducible refine X.ext ?_ _ | with_reducible refine X.alloc ?_ _ | with_reducible refine X.drew ?_))
  have hrow0 : W0.ownsRow (w.heap.size + 4) 3 1 (.slice (some ⟨w.heap.size + 1 + 1 + 1 + 1, 0, none⟩) 0 0) 0 [] := by rw [hW0]; exact own_lit (n := 0) (size := 1) (by omega) (by omega) rfl (by omega)
  have hz0 : W0.heap.size = w.heap.size + 5 := by rw [hW0]; simp; omega
  have hT0 : Tf W0 w.heap.size _ := hT4.x hx0
  have hD0 := hD4.x hx0
  have hR0 : Tf W0 (w.heap.size + 1 + 1) _ := hR4.x hx0
  have hS0 := hS4.x hx0
  have hX0 := hX4.trans hx0
  clear hW0 hW4 hT4 hD4 hR4 hS4 hX4 hx0 hz4
  go_loopw [12, 13, 14, 15, 16, 17, 18] (fun pv i _ _ _ _ _ wr => ∃ (k : Nat) (fl1 : List Di) (fa1 : Option Addr) (fn1 fc1 : Nat) (fi1 hi1 : Int) (acc : List Int) (qa : Option Addr) (qc : Nat), k ≤ pn ∧ i = .int .i64 k ∧ pv = .slice qa acc.length qc ∧ acc.length ≤ k ∧
      wr.ownsRow (w.heap.size + 4) 3 1 (.slice qa acc.length qc) acc.length (ints acc) ∧ FdV wr B fa1 fn1 fc1 fi1 hi1 fl1 ∧
      Tf wr w.heap.size #[.slice fa1 fn1 fc1, .int .i64 fi1, .int .i64 hi1] ∧ Tb 28 wr (w.heap.size + 1) #[.slice a n c, .int .i64 kk, .slice da dn dc] ∧ Tf wr (w.heap.size + 1 + 1) #[.slice none 0 0, .int .i64 0, .int .i64 0] ∧ Tb 95 wr (w.heap.size + 1 + 1 + 1) #[.int .i64 0, .int .i64 0, .slice none 0 0] ∧
      GrF w wr (.slice fa fn fc) (.slice fa1 fn1 fc1) ∧ w.heap.size + 5 ≤ wr.heap.size) (fun _ i _ _ _ _ _ _ => pn - (intOf i).toNat)
  case atStart => exact ⟨0, fl, fa, fn, fc, fi, hi, [], _, _, Nat.zero_le _, rfl, rfl, Nat.le_refl _, hrow0, hV.fr (hX0.fr _), hT0, hD0, hR0, hS0, GrF.of_x _ hX0, by omega⟩
  case round =>
    have hIb := hI.2
    obtain ⟨k, fl1, fa1, fn1, fc1, fi1, hi1, acc, qa, qc, hk, rfl, rfl, hacc, hrow, hV1, hT1, hK1, hR1, hS1, hG1, hz1⟩ := hrel
    clear hT0 hD0 hR0 hS0 hX0 hrow0 hz0
    have hD1 := hD.gr hV.1 hG1
    have hI1 := hI.gr hG1
    by_cases hlt : k < pn
    · obtain ⟨bw, offw, hpa, hbw, _⟩ := hIb (by omega)
      obtain ⟨b, off, hpa', _, hb, hcell⟩ := hI1.1.at_ hlt
      rw [hpa] at hpa'
      cases hpa'
      subst hpa
      have hbr : bw < wr.heap.size := hb
      have hk1 : (k : Int) < (pn : Int) := by omega
      generalize hrt : nth path k = root at *
      have Hrt := Lib.hid hrt
      clear hrt
      go_wp2
      refine wp_region_inv (fun L v W => (L 7 = false → X wr W)
          ∧ (L 7 = true → L 0 = true ∧ L 1 = true ∧ L 5 = true ∧ L 6 = true)
          ∧ (L 8 = true → L 7 = true)
          ∧ (L 9 = true → L 8 = true)
          ∧ (L 10 = true → L 8 = true)
          ∧ (L 12 = true → L 9 = true ∧ L 11 = true)
          ∧ (L 13 = true → L 10 = true ∧ L 12 = true)
          ∧ (L 7 = true → ∃ (fl2 : List Di) (fa2 : Option Addr) (fn2 fc2 : Nat) (fi2 hi2 : Int) (names : List (List UInt8)) (na : Option Addr) (nn nc : Nat), v 7 = .tuple #[.agg #[.slice fa2 fn2 fc2, .int .i64 fi2, .int .i64 hi2], .slice na nn nc] ∧ (L 8 = true → v 8 = .tuple #[.agg #[.slice fa2 fn2 fc2, .int .i64 fi2, .int .i64 hi2], .slice na nn nc]) ∧ (L 9 = true → v 9 = .agg #[.slice fa2 fn2 fc2, .int .i64 fi2, .int .i64 hi2]) ∧ (L 10 = true → v 10 = .slice na nn nc) ∧ (L 13 = true → v 13 = .slice na nn nc) ∧ GrF wr W (.slice fa1 fn1 fc1) (.slice fa2 fn2 fc2) ∧ FdV W B fa2 fn2 fc2 fi2 hi2 fl2 ∧ W.ownsRow B 9 1 (.slice na nn nc) nn (strs names) ∧ names.length = nn ∧ nn ≤ 8388608 ∧ (∀ s ∈ names, s.length ≤ 4194304) ∧ (L 12 = true → ∃ g, v 11 = .pointer (some ⟨g, 0, none⟩) ∧ wr.heap.size ≤ g ∧ Tf W g #[.slice fa2 fn2 fc2, .int .i64 fi2, .int .i64 hi2]))
          ∧ (L 11 = true → ∃ g, v 11 = .pointer (some ⟨g, 0, none⟩) ∧ wr.heap.size ≤ g ∧ (L 12 = false → Tf W g #[.slice none 0 0, .int .i64 0, .int .i64 0]))
          ∧ (L 0 = true → v 0 = .agg #[.slice fa1 fn1 fc1, .int .i64 fi1, .int .i64 hi1])
          ∧ (L 1 = true → v 1 = .agg #[.slice a n c, .int .i64 kk, .slice da dn dc])
          ∧ (L 2 = true → v 2 = .slice (some ⟨bw, offw, none⟩) pn pc)
          ∧ (L 3 = true → v 3 = .int .i64 (k : Int))
          ∧ (L 4 = true → v 4 = .pointer (some ⟨bw, offw + k, none⟩))
          ∧ (L 5 = true → v 5 = .int .i64 root)
          ∧ (L 6 = true → v 6 = .string ⟨(p).toArray⟩)) (by kernel_rfl) (by kernel_rfl) ?_ ?_ (l := [(27, 0), (28, 1), (29, 2), (30, 3), (31, 4), (32, 5), (33, 6), (34, 7), (26, 8), (35, 9), (36, 10), (14, 11), (15, 13)]) (by kernel_rfl) (n := 14) rfl ?_
      · intro v
        exact ⟨fun _ => (X.refl _).drew, fun h => Bool.noConfusion h, fun h => Bool.noConfusion h, fun h => Bool.noConfusion h, fun h => Bool.noConfusion h, fun h => Bool.noConfusion h, fun h => Bool.noConfusion h, fun h => Bool.noConfusion h, fun h => Bool.noConfusion h, fun h => Bool.noConfusion h, fun h => Bool.noConfusion h, fun h => Bool.noConfusion h, fun h => Bool.noConfusion h, fun h => Bool.noConfusion h, fun h => Bool.noConfusion h, fun h => Bool.noConfusion h⟩
      · intro i hi
        have hi' : i = 0 ∨ i = 1 ∨ i = 2 ∨ i = 3 ∨ i = 4 ∨ i = 5 ∨ i = 6 ∨ i = 7 ∨ i = 8 ∨ i = 9 ∨ i = 10 ∨ i = 11 ∨ i = 12 ∨ i = 13 := by
          have : i < 14 := hi
          omega
        clear hi
        rcases hi' with rfl | rfl | rfl | rfl | rfl | rfl | rfl | rfl | rfl | rfl | rfl | rfl | rfl | rfl
        all_goals
          intro o ho L v aa W hI hS hL hA K hK
          cases (show some _ = some o from ho)
          obtain ⟨gx, d7, d8, d9, d10, d12, d13, rc, v11, v0, v1, v2, v3, v4, v5, v6⟩ := hI
        · have nS : L 7 = false := by rcases h : L 7 with _ | _; (· rfl); (· have := (d7 h).1; simp [hL] at this)
          have o5 := hS.old 5 (by kernel_rfl) rfl
          have hTW : Tf W w.heap.size #[.slice fa1 fn1 fc1, .int .i64 fi1, .int .i64 hi1] := hT1.x (gx nS)
          obtain ⟨ltf, f0, f1, f2, _⟩ := hTW.cells
          clear hS ho hA
          go_simp
          exact hK _ W ⟨gx, fun h => ⟨rfl, (d7 h).2.1, (d7 h).2.2.1, (d7 h).2.2.2⟩, d8, d9, d10, d12, d13, rc, v11, fun _ => rfl, v1, v2, v3, v4, v5, v6⟩
        · have nS : L 7 = false := by rcases h : L 7 with _ | _; (· rfl); (· have := (d7 h).2.1; simp [hL] at this)
          have o6 := hS.old 6 (by kernel_rfl) rfl
          have hKW := hK1.x (gx nS)
          obtain ⟨ltd, d0, d1, d2, _⟩ := hKW.cells
          clear hS ho hA
          go_simp
          exact hK _ W ⟨gx, fun h => ⟨(d7 h).1, rfl, (d7 h).2.2.1, (d7 h).2.2.2⟩, d8, d9, d10, d12, d13, rc, v11, v0, fun _ => rfl, v2, v3, v4, v5, v6⟩
        · have o2 := hS.old 2 (by kernel_rfl) rfl
          clear hS ho hA
          go_simp
          exact hK _ W ⟨gx, d7, d8, d9, d10, d12, d13, rc, v11, v0, v1, fun _ => rfl, v3, v4, v5, v6⟩
        · have o13 := hS.old 13 (by kernel_rfl) rfl
          clear hS ho hA
          go_simp
          exact hK _ W ⟨gx, d7, d8, d9, d10, d12, d13, rc, v11, v0, v1, v2, fun _ => rfl, v4, v5, v6⟩
        · have l2 : L 2 = true := hA ⟨2, .data⟩ (by simp) rfl
          have g2 := hS.get 2 29 rfl l2 (v2 l2)
          have l3 : L 3 = true := hA ⟨3, .data⟩ (by simp) rfl
          have g3 := hS.get 3 30 rfl l3 (v3 l3)
          clear hS ho hA
          go_simp
          exact hK _ W ⟨gx, d7, d8, d9, d10, d12, d13, rc, v11, v0, v1, v2, v3, fun _ => rfl, v5, v6⟩
        · have nS : L 7 = false := by rcases h : L 7 with _ | _; (· rfl); (· have := (d7 h).2.2.1; simp [hL] at this)
          have l4 : L 4 = true := hA ⟨4, .data⟩ (by simp) rfl
          have g4 := hS.get 4 31 rfl l4 (v4 l4)
          have hcW := ((gx nS).cell (p := ⟨bw, offw + k, none⟩) hb).trans hcell
          clear hS ho hA
          go_simp
          exact hK _ W ⟨gx, fun h => ⟨(d7 h).1, (d7 h).2.1, rfl, (d7 h).2.2.2⟩, d8, d9, d10, d12, d13, rc, v11, v0, v1, v2, v3, v4, fun _ => rfl, v6⟩
        · have o3 := hS.old 3 (by kernel_rfl) rfl
          clear hS ho hA
          go_simp
          exact hK _ W ⟨gx, fun h => ⟨(d7 h).1, (d7 h).2.1, (d7 h).2.2.1, rfl⟩, d8, d9, d10, d12, d13, rc, v11, v0, v1, v2, v3, v4, v5, fun _ => rfl⟩
        · have l0 : L 0 = true := hA ⟨0, .data⟩ (by simp) rfl
          have g0 := hS.get 0 27 rfl l0 (v0 l0)
          have l1 : L 1 = true := hA ⟨1, .data⟩ (by simp) rfl
          have g1 := hS.get 1 28 rfl l1 (v1 l1)
          have l5 : L 5 = true := hA ⟨5, .data⟩ (by simp) rfl
          have g5 := hS.get 5 32 rfl l5 (v5 l5)
          have l6 : L 6 = true := hA ⟨6, .data⟩ (by simp) rfl
          have g6 := hS.get 6 33 rfl l6 (v6 l6)
          clear hS ho hA
          go_simp
          have hDA := (hD1.x (gx hL)).at
          refine (filled_c fl1 fa1 fn1 fc1 fi1 hi1 l a n c kk dl da dn dc B B B root p W (hV1.fr ((gx hL).fr _)) (Nat.le_trans (by omega) (gx hL).size) hDA.1 hD1.2.2.2.2.1 hDA.2 hp).mono ?_
          rintro _ w' ⟨fl2, fa2, fn2, fc2, fi2, hi2, names, na, nn, nc, rfl, hV2, hN, hN1, hN2, hN3, hGc⟩
          exact hK _ w' ⟨fun h => Bool.noConfusion h, fun _ => ⟨l0, l1, l5, l6⟩, fun _ => rfl, d9, d10, d12, d13, fun _ => ⟨fl2, fa2, fn2, fc2, fi2, hi2, names, na, nn, nc, rfl, fun h => Bool.noConfusion (hL.symm.trans (d8 h)), fun h => Bool.noConfusion (hL.symm.trans (d8 (d9 h))), fun h => Bool.noConfusion (hL.symm.trans (d8 (d10 h))), fun h => Bool.noConfusion (hL.symm.trans (d8 (d10 (d13 h).1))), GrF.of_xl (gx hL) hGc, hV2, hN, hN1, hN2, hN3, fun h => Bool.noConfusion (hL.symm.trans (d8 (d9 (d12 h).1)))⟩, fun h => let ⟨g, e, hg, hz⟩ := v11 h; ⟨g, e, hg, fun q => (hz q).gr (hV1.fr ((gx hL).fr _)).1 hGc⟩, v0, v1, v2, v3, v4, v5, v6⟩
        · have l7 : L 7 = true := hA ⟨7, .data⟩ (by simp) rfl
          obtain ⟨fl2, fa2, fn2, fc2, fi2, hi2, names, na, nn, nc, e7, e8, e9, e10, e13, hG2, hV2, hN, hN1, hN2, hN3, hbx⟩ := rc l7
          have g7 := hS.get 7 34 rfl l7 e7
          clear hS ho hA
          go_simp
          exact hK _ W ⟨gx, d7, fun _ => l7, fun _ => rfl, fun _ => rfl, d12, d13, fun _ => ⟨fl2, fa2, fn2, fc2, fi2, hi2, names, na, nn, nc, e7, fun _ => rfl, e9, e10, e13, hG2, hV2, hN, hN1, hN2, hN3, hbx⟩, v11, v0, v1, v2, v3, v4, v5, v6⟩
        · have l8 : L 8 = true := hA ⟨8, .data⟩ (by simp) rfl
          have l7 := d8 l8
          obtain ⟨fl2, fa2, fn2, fc2, fi2, hi2, names, na, nn, nc, e7, e8, e9, e10, e13, hG2, hV2, hN, hN1, hN2, hN3, hbx⟩ := rc l7
          have g8 := hS.get 8 26 rfl l8 (e8 l8)
          clear hS ho hA
          go_simp
          exact hK _ W ⟨gx, d7, d8, fun _ => l8, d10, fun h => ⟨rfl, (d12 h).2⟩, d13, fun _ => ⟨fl2, fa2, fn2, fc2, fi2, hi2, names, na, nn, nc, e7, e8, fun _ => rfl, e10, e13, hG2, hV2, hN, hN1, hN2, hN3, hbx⟩, v11, v0, v1, v2, v3, v4, v5, v6⟩
        · have l8 : L 8 = true := hA ⟨8, .data⟩ (by simp) rfl
          have l7 := d8 l8
          obtain ⟨fl2, fa2, fn2, fc2, fi2, hi2, names, na, nn, nc, e7, e8, e9, e10, e13, hG2, hV2, hN, hN1, hN2, hN3, hbx⟩ := rc l7
          have g8 := hS.get 8 26 rfl l8 (e8 l8)
          clear hS ho hA
          go_simp
          exact hK _ W ⟨gx, d7, d8, d9, fun _ => l8, d12, fun h => ⟨rfl, (d13 h).2⟩, fun _ => ⟨fl2, fa2, fn2, fc2, fi2, hi2, names, na, nn, nc, e7, e8, e9, fun _ => rfl, e13, hG2, hV2, hN, hN1, hN2, hN3, hbx⟩, v11, v0, v1, v2, v3, v4, v5, v6⟩
        · have hwz : wr.heap.size ≤ W.heap.size := by
            cases h7 : L 7
            · exact (gx h7).size
            · obtain ⟨fl2, fa2, fn2, fc2, fi2, hi2, names, na, nn, nc, e7, e8, e9, e10, e13, hG2, hV2, hN, hN1, hN2, hN3, hbx⟩ := rc h7
              exact hG2.size
          have hxa : X W (W.alloc (.cells #[.slice none 0 0, .int .i64 0, .int .i64 0] 44)) := (X.refl W).alloc _
          clear hS ho hA
          go_simp
          exact hK _ _ ⟨fun h => (gx h).trans hxa, d7, d8, d9, d10, fun h => ⟨(d12 h).1, rfl⟩, d13, fun h => let ⟨fl2, fa2, fn2, fc2, fi2, hi2, names, na, nn, nc, e7, e8, e9, e10, e13, hG2, hV2, hN, hN1, hN2, hN3, hbx⟩ := rc h; ⟨fl2, fa2, fn2, fc2, fi2, hi2, names, na, nn, nc, e7, e8, e9, e10, e13, hG2.x hxa, hV2.fr (hxa.fr _), own_fr hN (hxa.fr _), hN1, hN2, hN3, fun q => Bool.noConfusion (hL.symm.trans (d12 q).2)⟩, fun _ => ⟨_, rfl, hwz, fun _ => heap_alloc_new _ _⟩, v0, v1, v2, v3, v4, v5, v6⟩
        · have l11 : L 11 = true := hA ⟨11, .data⟩ (by simp) rfl
          have l9 : L 9 = true := hA ⟨9, .data⟩ (by simp) rfl
          have l8 := d9 l9
          have l7 := d8 l8
          obtain ⟨fl2, fa2, fn2, fc2, fi2, hi2, names, na, nn, nc, e7, e8, e9, e10, e13, hG2, hV2, hN, hN1, hN2, hN3, hbx⟩ := rc l7
          obtain ⟨g, e11, hg, hz⟩ := v11 l11
          have g9 := hS.get 9 35 rfl l9 (e9 l9)
          have g11 := hS.get 11 14 rfl l11 e11
          have hTg := hz hL
          obtain ⟨ltg, z0, z1, z2, fz0, fz1, fz2⟩ := hTg.cells
          clear hS ho hA
          go_simp
          exact hK undef _ ⟨fun h => Bool.noConfusion (h.symm.trans l7), d7, d8, d9, d10, fun _ => ⟨l9, l11⟩, fun h => ⟨(d13 h).1, rfl⟩, fun _ => ⟨fl2, fa2, fn2, fc2, fi2, hi2, names, na, nn, nc, e7, e8, e9, e10, e13, hG2.set3 hg _ _ _, hV2.set3 hTg _ _ _, own_set3f hN hTg (by decide) _ _ _, hN1, hN2, hN3, fun _ => ⟨g, e11, hg, hTg.set3 _ _ _⟩⟩, fun _ => ⟨g, e11, hg, fun q => Bool.noConfusion q⟩, v0, v1, v2, v3, v4, v5, v6⟩
        · have l10 : L 10 = true := hA ⟨10, .data⟩ (by simp) rfl
          have l12 : L 12 = true := hA ⟨12, .chain⟩ (by simp) rfl
          have l8 := d10 l10
          have l7 := d8 l8
          obtain ⟨fl2, fa2, fn2, fc2, fi2, hi2, names, na, nn, nc, e7, e8, e9, e10, e13, hG2, hV2, hN, hN1, hN2, hN3, hbx⟩ := rc l7
          have g10 := hS.get 10 36 rfl l10 (e10 l10)
          clear hS ho hA
          go_simp
          exact hK _ W ⟨gx, d7, d8, d9, d10, d12, fun _ => ⟨l10, l12⟩, fun _ => ⟨fl2, fa2, fn2, fc2, fi2, hi2, names, na, nn, nc, e7, e8, e9, e10, fun _ => rfl, hG2, hV2, hN, hN1, hN2, hN3, hbx⟩, v11, v0, v1, v2, v3, v4, v5, v6⟩
      intro v W5 hI
      obtain ⟨gx, d7, d8, d9, d10, d12, d13, rc, v11, v0, v1, v2, v3, v4, v5, v6⟩ := hI
      have e0 := v0 rfl
      have e1 := v1 rfl
      have e2 := v2 rfl
      have e3 := v3 rfl
      have e4 := v4 rfl
      have e5 := v5 rfl
      have e6 := v6 rfl
      clear v0 v1 v2 v3 v4 v5 v6
      obtain ⟨fl2, fa2, fn2, fc2, fi2, hi2, names, na, nn, nc, e7, e8, e9, e10, e13, hG2, hV2, hN, hN1, hN2, hN3, hbx⟩ := rc rfl
      replace e8 := e8 rfl
      replace e9 := e9 rfl
      replace e10 := e10 rfl
      replace e13 := e13 rfl
      obtain ⟨g, e11, hg, hTg⟩ := hbx rfl
      clear rc v11 gx d8 d9 d10 d12 d13
      simp only [putL, List.foldl, List.setIfInBounds_toArray, List.set_cons_zero, List.set_cons_succ, e0, e1, e2, e3, e4, e5, e6, e7, e8, e9, e10, e11, e13]
      clear e0 e1 e2 e3 e4 e5 e6
      clear e7 e8 e9 e10 e11 e13
      have hT5 := hT1.gr hV1.1 hG2
      have hrow5 := own_gr hrow hV1.1 hG2 (by decide)
      have hK5 := hK1.gr hV1.1 hG2 (by decide)
      have hR5 := hR1.gr hV1.1 hG2
      have hS5 := hS1.gr hV1.1 hG2 (by decide)
      have hz5 := hG2.size
      have hG5 := hG1.trans hG2
      clear hT1 hK1 hR1 hS1 hG1 hG2 hrow hD1 hI1 hV1 hcell
      obtain ⟨ltg, z0, z1, z2, _⟩ := hTg.cells
      obtain ⟨ltf, f0, f1, f2, ff0, ff1, ff2⟩ := hT5.cells
      go_upto_region 7 with fail
      refine wp_name (fun W6 hW6 => ?_)
      have hT6 : Tf W6 w.heap.size #[.slice fa2 fn2 fc2, .int .i64 fi2, .int .i64 hi2] := by rw [hW6]; exact hT5.set3 _ _ _
      have hV6 : FdV W6 B fa2 fn2 fc2 fi2 hi2 fl2 := by rw [hW6]; exact hV2.set3 hT5 _ _ _
      have hN6 : W6.ownsRow B 9 1 (.slice na nn nc) nn (strs names) := by rw [hW6]; exact own_set3f hN hT5 (by decide) _ _ _
      have hrow6 : W6.ownsRow (w.heap.size + 4) 3 1 (.slice qa acc.length qc) acc.length (ints acc) := by rw [hW6]; exact own_set3f hrow5 hT5 (by decide) _ _ _
      have hK6 : Tb 28 W6 (w.heap.size + 1) #[.slice a n c, .int .i64 kk, .slice da dn dc] := by rw [hW6]; exact hK5.far3 (by omega) _ _ _
      have hR6 : Tf W6 (w.heap.size + 1 + 1) #[.slice none 0 0, .int .i64 0, .int .i64 0] := by rw [hW6]; exact hR5.far3 (by omega) _ _ _
      have hS6 : Tb 95 W6 (w.heap.size + 1 + 1 + 1) #[.int .i64 0, .int .i64 0, .slice none 0 0] := by rw [hW6]; exact hS5.far3 (by omega) _ _ _
      have hG6 : GrF w W6 (.slice fa fn fc) (.slice fa2 fn2 fc2) := by rw [hW6]; exact hG5.set3 (Nat.le_refl _) _ _ _
      have hz6 : w.heap.size + 5 ≤ W6.heap.size := by rw [hW6]; simp; omega
      clear hW6 ltg z0 z1 z2 ltf f0 f1 f2 ff0 ff1 ff2 hT5 hrow5 hK5 hR5 hS5 hG5 hTg hN hV2
      have hD6 := (hD.gr hV.1 hG6).at
      have hI6 := hI.gr hG6
      subst hN1
      have hNS := StrsAt.of_own hN6 hN2 hN3
      clear hN6
      obtain ⟨bw', offw', hpa', _, hb6, hcell6⟩ := hI6.1.at_ hlt
      cases hpa'
      rw [Hrt.out] at hcell6
      cases hd1 : hasS names (s ++ [47])
      case true =>
        obtain ⟨ltd, d0, _⟩ := hK6.cells
        go_wp2_with fail
        refine (hasTextS_c names na names.length nc B (s ++ [47]) W6 hNS).mono ?_
        rw [hd1]
        rintro _ W7 ⟨rfl, hx7⟩
        have hT7 := hT6.x hx7
        have hV7 := hV6.fr (hx7.fr _)
        have hrow7 := own_fr hrow6 (hx7.fr _)
        have hK7 := hK6.x hx7
        have hR7 := hR6.x hx7
        have hS7 := hS6.x hx7
        have hG7 := hG6.x hx7
        have hz7 := hx7.size
        have hF7 := hD6.1.mono (hx7.fr _)
        have hNS7 := hNS.mono (hx7.fr _)
        have hP7 := (hx7.cell (p := ⟨bw, offw + k, none⟩) hb6).trans hcell6
        have hb7 : bw < W7.heap.size := Nat.lt_of_lt_of_le hb6 hz7
        clear hT6 hV6 hrow6 hK6 hR6 hS6 hG6 hx7 hD6 hI6 hNS hcell6 hb6 ltd d0
        obtain ⟨ltd, d0, _⟩ := hK7.cells
        go_wp2
        refine wp_region_grow0 (by kernel_rfl) (by kernel_rfl) ?_
        repeat (go_big_quiet_step (((first | (go_at_call 88; refine grow_same (child_c p s _ (by omega) (by omega))) | (go_at_call 65; refine grow_of (fileAt_c l a n c B (initF root (childL p s)) _ _ (hF7.mono (X.fr (by (repeat (first | exact X.refl _ | assumption | refine X.ext ?_ _ | refine X.alloc ?_ _ | refine X.drew ?_))) _))))))))
        refine wpQuiet_nil ?_
        rintro _ ⟨y, rfl⟩
        by_cases hini : 0 ≤ fidx l (initF root (childL p s))
        · go_wp2
          refine wp_name (fun W8 hW8 => ?_)
          have hx8 : X W7 W8 := by rw [hW8]; exact (X.refl _).ext y
          clear hW8
          have hTb := hT7.x hx8
          have hVb := hV7.fr (hx8.fr _)
          have hGb := hG7.x hx8
          have hRb := hR7.x hx8
          have hSb := hS7.x hx8
          have hPb := And.intro ((hx8.cell (p := ⟨bw, offw + k, none⟩) hb7).trans hP7) (Nat.lt_of_lt_of_le hb7 hx8.size)
          refine wp_region_inv (fun L v W => Tf W w.heap.size #[.slice fa2 fn2 fc2, .int .i64 fi2, .int .i64 hi2]
              ∧ FdV W B fa2 fn2 fc2 fi2 hi2 fl2
              ∧ GrF w W (.slice fa fn fc) (.slice fa2 fn2 fc2)
              ∧ (L 8 = false → Tf W (w.heap.size + 1 + 1) #[.slice none 0 0, .int .i64 0, .int .i64 0])
              ∧ (L 8 = true → Tf W (w.heap.size + 1 + 1) #[.slice fa2 fn2 fc2, .int .i64 fi2, .int .i64 hi2])
              ∧ (L 9 = false → Tb 95 W (w.heap.size + 1 + 1 + 1) #[.int .i64 0, .int .i64 0, .slice none 0 0])
              ∧ (W.cell? ⟨bw, offw + k, none⟩ = some (.int .i64 root) ∧ bw < W.heap.size)
              ∧ (L 6 = true → ∃ g, v 6 = .slice (some ⟨g, 0, none⟩) 1 1 ∧ (L 7 = true → v 7 = .agg #[.int .i64 2, .int .i64 (fidx l (initF root (childL p s))), .slice (some ⟨g, 0, none⟩) 1 1]) ∧ W.ownsRow B 3 1 (.slice (some ⟨g, 0, none⟩) 1 1) 1 [.int .i64 root] ∧ (L 9 = true → Tb 95 W (w.heap.size + 1 + 1 + 1) #[.int .i64 2, .int .i64 (fidx l (initF root (childL p s))), .slice (some ⟨g, 0, none⟩) 1 1]))
              ∧ (L 7 = true → L 6 = true)
              ∧ (L 9 = true → L 7 = true)
              ∧ (L 0 = true → v 0 = .agg #[.slice fa2 fn2 fc2, .int .i64 fi2, .int .i64 hi2])
              ∧ (L 1 = true → v 1 = .int .i64 (fidx l (initF root (childL p s))))
              ∧ (L 2 = true → v 2 = .slice (some ⟨bw, offw, none⟩) pn pc)
              ∧ (L 3 = true → v 3 = .int .i64 (k : Int))
              ∧ (L 4 = true → v 4 = .pointer (some ⟨bw, offw + k, none⟩))
              ∧ (L 5 = true → v 5 = .int .i64 root)) (by kernel_rfl) (by kernel_rfl) ?_ ?_ (l := [(58, 0), (59, 1), (60, 2), (61, 3), (62, 4), (63, 5), (64, 6), (65, 7)]) (by kernel_rfl) (n := 10) rfl ?_
          · intro v
            exact ⟨hTb.x (X.refl _).drew, hVb.fr ((X.refl _).drew.fr _), hGb.x (X.refl _).drew, fun _ => hRb.x (X.refl _).drew, fun h => Bool.noConfusion h, fun _ => hSb.x (X.refl _).drew, ⟨(((X.refl _).drew).cell (p := ⟨bw, offw + k, none⟩) hPb.2).trans hPb.1, hPb.2⟩, fun h => Bool.noConfusion h, fun h => Bool.noConfusion h, fun h => Bool.noConfusion h, fun h => Bool.noConfusion h, fun h => Bool.noConfusion h, fun h => Bool.noConfusion h, fun h => Bool.noConfusion h, fun h => Bool.noConfusion h, fun h => Bool.noConfusion h⟩
          · intro i hi
            have hi' : i = 0 ∨ i = 1 ∨ i = 2 ∨ i = 3 ∨ i = 4 ∨ i = 5 ∨ i = 6 ∨ i = 7 ∨ i = 8 ∨ i = 9 := by
              have : i < 10 := hi
              omega
            clear hi
            rcases hi' with rfl | rfl | rfl | rfl | rfl | rfl | rfl | rfl | rfl | rfl
            all_goals
              intro o ho L v aa W hI hS hL hA K hK
              cases (show some _ = some o from ho)
              obtain ⟨tf, vv, gg, rf, rfs, rs, pq, lit, d7, d9, v0, v1, v2, v3, v4, v5⟩ := hI
            · have o5 := hS.old 5 (by kernel_rfl) rfl
              obtain ⟨ltf, f0, f1, f2, _⟩ := tf.cells
              clear hS ho hA
              go_simp
              exact hK _ W ⟨tf, vv, gg, rf, rfs, rs, pq, lit, d7, d9, fun _ => rfl, v1, v2, v3, v4, v5⟩
            · have o17 := hS.old 17 (by kernel_rfl) rfl
              clear hS ho hA
              go_simp
              exact hK _ W ⟨tf, vv, gg, rf, rfs, rs, pq, lit, d7, d9, v0, fun _ => rfl, v2, v3, v4, v5⟩
            · have o2 := hS.old 2 (by kernel_rfl) rfl
              clear hS ho hA
              go_simp
              exact hK _ W ⟨tf, vv, gg, rf, rfs, rs, pq, lit, d7, d9, v0, v1, fun _ => rfl, v3, v4, v5⟩
            · have o13 := hS.old 13 (by kernel_rfl) rfl
              clear hS ho hA
              go_simp
              exact hK _ W ⟨tf, vv, gg, rf, rfs, rs, pq, lit, d7, d9, v0, v1, v2, fun _ => rfl, v4, v5⟩
            · have l2 : L 2 = true := hA ⟨2, .data⟩ (by simp) rfl
              have g2 := hS.get 2 60 rfl l2 (v2 l2)
              have l3 : L 3 = true := hA ⟨3, .data⟩ (by simp) rfl
              have g3 := hS.get 3 61 rfl l3 (v3 l3)
              clear hS ho hA
              go_simp
              exact hK _ W ⟨tf, vv, gg, rf, rfs, rs, pq, lit, d7, d9, v0, v1, v2, v3, fun _ => rfl, v5⟩
            · have l4 : L 4 = true := hA ⟨4, .data⟩ (by simp) rfl
              have g4 := hS.get 4 62 rfl l4 (v4 l4)
              have hcW := pq.1
              have hcl := pq.2
              clear hS ho hA
              go_simp
              exact hK _ W ⟨tf, vv, gg, rf, rfs, rs, pq, lit, d7, d9, v0, v1, v2, v3, v4, fun _ => rfl⟩
            · have l5 : L 5 = true := hA ⟨5, .data⟩ (by simp) rfl
              have g5 := hS.get 5 63 rfl l5 (v5 l5)
              have hxa : X W (W.alloc (.cells #[.int .i64 root] 3)) := (X.refl W).alloc _
              clear hS ho hA
              go_simp
              exact hK _ _ ⟨tf.x hxa, vv.fr (hxa.fr _), gg.x hxa, fun h => (rf h).x hxa, fun h => (rfs h).x hxa, fun h => (rs h).x hxa, ⟨(hxa.cell (p := ⟨bw, offw + k, none⟩) pq.2).trans pq.1, Nat.lt_of_lt_of_le pq.2 hxa.size⟩, fun _ => ⟨_, rfl, fun h => Bool.noConfusion (hL.symm.trans (d7 h)), own_lit (n := 1) (size := 1) rfl (by have := gg.size; omega) rfl (by omega), fun h => Bool.noConfusion (hL.symm.trans (d7 (d9 h)))⟩, fun _ => rfl, d9, v0, v1, v2, v3, v4, v5⟩
            · have l1 : L 1 = true := hA ⟨1, .data⟩ (by simp) rfl
              have g1 := hS.get 1 59 rfl l1 (v1 l1)
              have l6 : L 6 = true := hA ⟨6, .data⟩ (by simp) rfl
              obtain ⟨g, e6, e7, hO, hSg⟩ := lit l6
              have g6 := hS.get 6 64 rfl l6 e6
              clear hS ho hA
              go_simp
              exact hK _ W ⟨tf, vv, gg, rf, rfs, rs, pq, fun _ => ⟨g, e6, fun _ => rfl, hO, hSg⟩, fun _ => l6, fun _ => rfl, v0, v1, v2, v3, v4, v5⟩
            · have o10 := hS.old 10 (by kernel_rfl) rfl
              have l0 : L 0 = true := hA ⟨0, .data⟩ (by simp) rfl
              have g0 := hS.get 0 58 rfl l0 (v0 l0)
              obtain ⟨ltr, r0, r1, r2, fr0, fr1, fr2⟩ := (rf hL).cells
              clear hS ho hA
              go_simp
              exact hK undef _ ⟨tf.far3 (by omega) _ _ _, vv.set3 (rf hL) _ _ _, gg.set3 (by omega) _ _ _, fun h => Bool.noConfusion h, fun _ => (rf hL).set3 _ _ _, fun h => (rs h).far3 (by omega) _ _ _, ⟨(cell_set3 (by omega) _ _ _).trans pq.1, by simpa [World.setCell] using pq.2⟩, fun h => let ⟨g, e6, e7, hO, hSg⟩ := lit h; ⟨g, e6, e7, own_set3f hO (rf hL) (by decide) _ _ _, fun q => (hSg q).far3 (by omega) _ _ _⟩, d7, d9, v0, v1, v2, v3, v4, v5⟩
            · have o11 := hS.old 11 (by kernel_rfl) rfl
              have l7 : L 7 = true := hA ⟨7, .data⟩ (by simp) rfl
              have l6 := d7 l7
              obtain ⟨g, e6, e7, hO, hSg⟩ := lit l6
              have g7 := hS.get 7 65 rfl l7 (e7 l7)
              obtain ⟨lts, s0, s1, s2, fs0, fs1, fs2⟩ := (rs hL).cells
              clear hS ho hA
              go_simp
              exact hK undef _ ⟨tf.far3 (by omega) _ _ _, vv.set3t (rs hL) (by decide) (by decide) _ _ _, gg.set3 (by omega) _ _ _, fun h => (rf h).far3 (by omega) _ _ _, fun h => (rfs h).far3 (by omega) _ _ _, fun h => Bool.noConfusion h, ⟨(cell_set3 (by omega) _ _ _).trans pq.1, by simpa [World.setCell] using pq.2⟩, fun _ => ⟨g, e6, e7, own_set3t hO (rs hL) (by decide) _ _ _, fun _ => (rs hL).set3 _ _ _⟩, d7, fun _ => l7, v0, v1, v2, v3, v4, v5⟩
          intro v W9 hI
          obtain ⟨tf, vv, gg, rf, rfs, rs, pq, lit, d7, d9, v0, v1, v2, v3, v4, v5⟩ := hI
          have e0 := v0 rfl
          have e1 := v1 rfl
          have e2 := v2 rfl
          have e3 := v3 rfl
          have e4 := v4 rfl
          have e5 := v5 rfl
          clear v0 v1 v2 v3 v4 v5
          obtain ⟨g, e6, e7, hO, hSg⟩ := lit rfl
          replace e7 := e7 rfl
          replace hSg := hSg rfl
          replace rfs := rfs rfl
          clear lit rf rs d7 d9 pq
          simp only [putL, List.foldl, List.setIfInBounds_toArray, List.set_cons_zero, List.set_cons_succ, e0, e1, e2, e3, e4, e5, e6, e7]
          clear e0 e1 e2 e3 e4 e5
          clear e6 e7
          go_wp2
          refine bodyPost_ret (v := .tuple #[.agg #[.slice fa2 fn2 fc2, .int .i64 fi2, .int .i64 hi2], .agg #[.int .i64 2, .int .i64 (fidx l (initF root (childL p s))), .slice (some ⟨g, 0, none⟩) 1 1]]) ?_ rfl ?_
          · obtain ⟨_, r0, r1, r2, _⟩ := rfs.cells
            obtain ⟨_, s0, s1, s2, _⟩ := hSg.cells
            simp [results, Tryd.results95, go_sem, Result.andThen, r0, r1, r2, s0, s1, s2]
          · exact ⟨fl2, fa2, fn2, fc2, fi2, hi2, 2, _, [root], some ⟨g, 0, none⟩, 1, rfl, vv, by simp, by show 1 ≤ pn; omega, hO, gg⟩
        · clear d0
          obtain ⟨_, d0, _⟩ := hK7.cells
          cases hd2 : hasS names s
          case true =>
            by_cases hj : 0 ≤ fidx l (fileF root p s)
            · go_wp2
              refine wp_region_grow (by kernel_rfl) (by kernel_rfl) ?_
              repeat (go_big_quiet_step (((go_at_call 65; refine grow_of (fileAt_c l a n c B (fileF root p s) _ _ (hF7.mono (X.fr (by (repeat (first | exact X.refl _ | assumption | refine X.ext ?_ _ | refine X.alloc ?_ _ | refine X.drew ?_))) _)))))))
              refine wpQuiet_nil ?_
              rintro _ ⟨y, rfl⟩
              go_wp2_with fail
              refine (hasTextS_c names na names.length nc B s _ (hNS7.mono (X.fr (by (repeat (first | exact X.refl _ | assumption | refine X.ext ?_ _ | refine X.alloc ?_ _ | refine X.drew ?_))) _))).mono ?_
              rw [hd2]
              rintro _ W8 ⟨rfl, hx8⟩
              replace hx8 : X W7 W8 := X.trans (by (repeat (first | exact X.refl _ | assumption | refine X.ext ?_ _ | refine X.alloc ?_ _ | refine X.drew ?_))) hx8
              go_upto_region 13 with fail
              have hTb := hT7.x hx8
              have hVb := hV7.fr (hx8.fr _)
              have hGb := hG7.x hx8
              have hRb := hR7.x hx8
              have hSb := hS7.x hx8
              obtain ⟨ltf, f0, f1, f2, _⟩ := hTb.cells
              obtain ⟨ltr, r0, r1, r2, fr0, fr1, fr2⟩ := hRb.cells
              obtain ⟨lts, s0, s1, s2, fs0, fs1, fs2⟩ := hSb.cells
              go_wp2
              have hne1 : w.heap.size + 1 + 1 ≠ w.heap.size + 1 + 1 + 1 := by omega
              have hne2 : w.heap.size + 1 + 1 + 1 ≠ w.heap.size + 1 + 1 := by omega
              refine act_name (fun WF hWF => ?_)
              obtain ⟨W9, hW9⟩ : ∃ W9, W9 = (((((W8.setCell ⟨w.heap.size + 1 + 1, 0, none⟩ (.slice fa2 fn2 fc2)).setCell ⟨w.heap.size + 1 + 1, 1, none⟩ (.int .i64 fi2)).setCell ⟨w.heap.size + 1 + 1, 2, none⟩ (.int .i64 hi2)).setCell ⟨w.heap.size + 1 + 1 + 1, 0, none⟩ (.int .i64 1)).setCell ⟨w.heap.size + 1 + 1 + 1, 1, none⟩ (.int .i64 (fidx l (fileF root p s)))).setCell ⟨w.heap.size + 1 + 1 + 1, 2, none⟩ (.slice (some ⟨W8.heap.size, 0, none⟩) 0 0) := ⟨_, rfl⟩
              have hz9 : W9.heap.size = W8.heap.size := by rw [hW9]; simp
              have hR9 : Tf W9 (w.heap.size + 1 + 1) #[.slice fa2 fn2 fc2, .int .i64 fi2, .int .i64 hi2] := by rw [hW9]; exact (hRb.set3 _ _ _).far3 hne1 _ _ _
              have hS9 : Tb 95 W9 (w.heap.size + 1 + 1 + 1) #[.int .i64 1, .int .i64 (fidx l (fileF root p s)), .slice (some ⟨W8.heap.size, 0, none⟩) 0 0] := by rw [hW9]; exact (hSb.far3 hne2 _ _ _).set3 _ _ _
              have hV9 : FdV W9 B fa2 fn2 fc2 fi2 hi2 fl2 := by rw [hW9]; exact (hVb.set3 hRb _ _ _).set3t (hSb.far3 hne2 _ _ _) (by decide) (by decide) _ _ _
              have hG9 : GrF w W9 (.slice fa fn fc) (.slice fa2 fn2 fc2) := by rw [hW9]; exact (hGb.set3 (by omega) _ _ _).set3 (by omega) _ _ _
              rw [← hW9] at hWF
              have hA : X W9 WF := by rw [hWF]; exact (X.refl _).alloc _
              have hO9 : WF.ownsRow B 3 1 (.slice (some ⟨W8.heap.size, 0, none⟩) 0 0) 0 [] := by rw [hWF]; exact own_lit (B := B) (n := 0) (size := 1) hz9.symm (by omega) rfl (by omega)
              clear hW9 hWF
              refine bodyPost_ret (v := .tuple #[.agg #[.slice fa2 fn2 fc2, .int .i64 fi2, .int .i64 hi2], .agg #[.int .i64 1, .int .i64 (fidx l (fileF root p s)), .slice (some ⟨W8.heap.size, 0, none⟩) 0 0]]) ?_ rfl ?_
              · obtain ⟨_, r0, r1, r2, _⟩ := (hR9.x hA).cells
                obtain ⟨_, s0, s1, s2, _⟩ := (hS9.x hA).cells
                simp [results, Tryd.results95, go_sem, Result.andThen, r0, r1, r2, s0, s1, s2]
              · exact ⟨fl2, fa2, fn2, fc2, fi2, hi2, 1, _, [], some ⟨W8.heap.size, 0, none⟩, 0, rfl, hV9.fr (hA.fr _), by simp, by simp, hO9, hG9.x hA⟩
            · go_wp2
              refine wp_region_grow (by kernel_rfl) (by kernel_rfl) ?_
              repeat (go_big_quiet_step (((go_at_call 65; refine grow_of (fileAt_c l a n c B (fileF root p s) _ _ (hF7.mono (X.fr (by (repeat (first | exact X.refl _ | assumption | refine X.ext ?_ _ | refine X.alloc ?_ _ | refine X.drew ?_))) _)))))))
              refine wpQuiet_nil ?_
              rintro _ ⟨y, rfl⟩
              go_wp2_with fail
              refine (hasTextS_c names na names.length nc B s _ (hNS7.mono (X.fr (by (repeat (first | exact X.refl _ | assumption | refine X.ext ?_ _ | refine X.alloc ?_ _ | refine X.drew ?_))) _))).mono ?_
              rw [hd2]
              rintro _ W8 ⟨rfl, hx8⟩
              replace hx8 : X W7 W8 := X.trans (by (repeat (first | exact X.refl _ | assumption | refine X.ext ?_ _ | refine X.alloc ?_ _ | refine X.drew ?_))) hx8
              have hK8 := hK7.x hx8
              have hP8 := (hx8.cell (p := ⟨bw, offw + k, none⟩) hb7).trans hP7
              have hb8 : bw < W8.heap.size := Nat.lt_of_lt_of_le hb7 hx8.size
              obtain ⟨ltd8, d80, _⟩ := hK8.cells
              have cD : ∀ W', X W8 W' → Calls Tryd.prog 106 #[.agg #[.slice a n c], .int .i64 root, .string ⟨(childL p s).toArray⟩] W' fun e w' => e = .returned (.bool (dirS l root (childL p s))) ∧ X W' w' := fun W' hx => hasDir_c l a n c B root (childL p s) W' ((hF7.mono (hx8.fr _)).mono (hx.fr _)) hch
              cases hd3 : dirS l root (childL p s)
              all_goals rw [hd3] at cD
              · go_wp2
                refine wp_region_grow0 (by kernel_rfl) (by kernel_rfl) ?_
                repeat (go_big_quiet_step (((first | (go_at_call 88; refine grow_same (child_c p s _ (by omega) (by omega))) | (go_at_call 106; refine grow_of (cD _ (by (repeat (first | exact X.refl _ | assumption | refine X.ext ?_ _ | refine X.alloc ?_ _ | refine X.drew ?_)))))))))
                refine wpQuiet_nil ?_
                rintro _ ⟨y, rfl⟩
                go_wp2
                have hxe : X W7 (World.ext W8 y) := hx8.trans ((X.refl _).ext y)
                go_roundw
                case rel => exact ⟨k + 1, fl2, fa2, fn2, fc2, fi2, hi2, acc, qa, qc, by omega, by go_num, rfl, by omega, own_fr hrow7 (hxe.fr _), hV7.fr (hxe.fr _), hT7.x hxe, hK7.x hxe, hR7.x hxe, hS7.x hxe, hG7.x hxe, by have := hxe.size; omega⟩
                case measure => simp [intOf]; omega
              · go_wp2
                refine wp_region_grow0 (by kernel_rfl) (by kernel_rfl) ?_
                repeat (go_big_quiet_step (((first | (go_at_call 88; refine grow_same (child_c p s _ (by omega) (by omega))) | (go_at_call 106; refine grow_of (cD _ (by (repeat (first | exact X.refl _ | assumption | refine X.ext ?_ _ | refine X.alloc ?_ _ | refine X.drew ?_)))))))))
                refine wpQuiet_nil ?_
                rintro _ ⟨y, rfl⟩
                go_upto_region 15 with fail
                refine wp_name (fun W9 hW9 => ?_)
                have hx9 : X W7 W9 := by rw [hW9]; exact hx8.trans ((X.refl _).ext y)
                clear hW9
                have hrow9 := own_fr hrow7 (hx9.fr _)
                have hP9 := (hx9.cell (p := ⟨bw, offw + k, none⟩) hb7).trans hP7
                have hb9 : bw < W9.heap.size := Nat.lt_of_lt_of_le hb7 hx9.size
                have hz9 := hx9.size
                clear d80 ltd8 hP8 hb8
                go_wp2_with (at_builtin; refine wpList_append_gv int_T rfl _ _ rfl hrow9 rfl rfl rfl rfl (by simp [Value.oneCell']) (by omega) (by omega) (by omega) ?_; intro a8 c8 w8 hO8 hg8 _)
                have hA : X W9 (W9.alloc (.cells #[.int .i64 root] 3)) := (X.refl _).alloc _
                have hxa := hx9.trans hA
                have hr9 := hrow9.alloc (.cells #[.int .i64 root] 3)
                go_roundw
                case rel =>
                  refine ⟨k + 1, fl2, fa2, fn2, fc2, fi2, hi2, acc ++ [root], a8, c8, by omega, by go_num, by rw [List.length_append, List.length_singleton], by rw [List.length_append, List.length_singleton]; omega, ?_, (hV7.fr (hxa.fr _)).own hg8 hr9 (by decide) (by decide), Tb.own (t := 44) (hT7.x hxa) hg8 hr9 (by decide), (hK7.x hxa).own hg8 hr9 (by decide), Tb.own (t := 44) (hR7.x hxa) hg8 hr9 (by decide), (hS7.x hxa).own hg8 hr9 (by decide), (hG7.x hxa).own hg8 (fun b hb => by have := (hr9.lt b hb).1; omega), by have := hg8.size; have := hxa.size; omega⟩
                  rw [List.length_append, List.length_singleton]
                  simpa [flat_snoc, ints] using hO8
                case measure => simp [intOf]; omega
          case false =>
            go_wp2
            refine wp_region_grow (by kernel_rfl) (by kernel_rfl) ?_
            repeat (go_big_quiet_step (((go_at_call 65; refine grow_of (fileAt_c l a n c B (fileF root p s) _ _ (hF7.mono (X.fr (by (repeat (first | exact X.refl _ | assumption | refine X.ext ?_ _ | refine X.alloc ?_ _ | refine X.drew ?_))) _)))))))
            refine wpQuiet_nil ?_
            rintro _ ⟨y, rfl⟩
            go_wp2_with fail
            refine (hasTextS_c names na names.length nc B s _ (hNS7.mono (X.fr (by (repeat (first | exact X.refl _ | assumption | refine X.ext ?_ _ | refine X.alloc ?_ _ | refine X.drew ?_))) _))).mono ?_
            rw [hd2]
            rintro _ W8 ⟨rfl, hx8⟩
            replace hx8 : X W7 W8 := X.trans (by (repeat (first | exact X.refl _ | assumption | refine X.ext ?_ _ | refine X.alloc ?_ _ | refine X.drew ?_))) hx8
            have hK8 := hK7.x hx8
            have hP8 := (hx8.cell (p := ⟨bw, offw + k, none⟩) hb7).trans hP7
            have hb8 : bw < W8.heap.size := Nat.lt_of_lt_of_le hb7 hx8.size
            obtain ⟨ltd8, d80, _⟩ := hK8.cells
            have cD : ∀ W', X W8 W' → Calls Tryd.prog 106 #[.agg #[.slice a n c], .int .i64 root, .string ⟨(childL p s).toArray⟩] W' fun e w' => e = .returned (.bool (dirS l root (childL p s))) ∧ X W' w' := fun W' hx => hasDir_c l a n c B root (childL p s) W' ((hF7.mono (hx8.fr _)).mono (hx.fr _)) hch
            cases hd3 : dirS l root (childL p s)
            all_goals rw [hd3] at cD
            · go_wp2
              refine wp_region_grow0 (by kernel_rfl) (by kernel_rfl) ?_
              repeat (go_big_quiet_step (((first | (go_at_call 88; refine grow_same (child_c p s _ (by omega) (by omega))) | (go_at_call 106; refine grow_of (cD _ (by (repeat (first | exact X.refl _ | assumption | refine X.ext ?_ _ | refine X.alloc ?_ _ | refine X.drew ?_)))))))))
              refine wpQuiet_nil ?_
              rintro _ ⟨y, rfl⟩
              go_wp2
              have hxe : X W7 (World.ext W8 y) := hx8.trans ((X.refl _).ext y)
              go_roundw
              case rel => exact ⟨k + 1, fl2, fa2, fn2, fc2, fi2, hi2, acc, qa, qc, by omega, by go_num, rfl, by omega, own_fr hrow7 (hxe.fr _), hV7.fr (hxe.fr _), hT7.x hxe, hK7.x hxe, hR7.x hxe, hS7.x hxe, hG7.x hxe, by have := hxe.size; omega⟩
              case measure => simp [intOf]; omega
            · go_wp2
              refine wp_region_grow0 (by kernel_rfl) (by kernel_rfl) ?_
              repeat (go_big_quiet_step (((first | (go_at_call 88; refine grow_same (child_c p s _ (by omega) (by omega))) | (go_at_call 106; refine grow_of (cD _ (by (repeat (first | exact X.refl _ | assumption | refine X.ext ?_ _ | refine X.alloc ?_ _ | refine X.drew ?_)))))))))
              refine wpQuiet_nil ?_
              rintro _ ⟨y, rfl⟩
              go_upto_region 15 with fail
              refine wp_name (fun W9 hW9 => ?_)
              have hx9 : X W7 W9 := by rw [hW9]; exact hx8.trans ((X.refl _).ext y)
              clear hW9
              have hrow9 := own_fr hrow7 (hx9.fr _)
              have hP9 := (hx9.cell (p := ⟨bw, offw + k, none⟩) hb7).trans hP7
              have hb9 : bw < W9.heap.size := Nat.lt_of_lt_of_le hb7 hx9.size
              have hz9 := hx9.size
              clear d80 ltd8 hP8 hb8
              go_wp2_with (at_builtin; refine wpList_append_gv int_T rfl _ _ rfl hrow9 rfl rfl rfl rfl (by simp [Value.oneCell']) (by omega) (by omega) (by omega) ?_; intro a8 c8 w8 hO8 hg8 _)
              have hA : X W9 (W9.alloc (.cells #[.int .i64 root] 3)) := (X.refl _).alloc _
              have hxa := hx9.trans hA
              have hr9 := hrow9.alloc (.cells #[.int .i64 root] 3)
              go_roundw
              case rel =>
                refine ⟨k + 1, fl2, fa2, fn2, fc2, fi2, hi2, acc ++ [root], a8, c8, by omega, by go_num, by rw [List.length_append, List.length_singleton], by rw [List.length_append, List.length_singleton]; omega, ?_, (hV7.fr (hxa.fr _)).own hg8 hr9 (by decide) (by decide), Tb.own (t := 44) (hT7.x hxa) hg8 hr9 (by decide), (hK7.x hxa).own hg8 hr9 (by decide), Tb.own (t := 44) (hR7.x hxa) hg8 hr9 (by decide), (hS7.x hxa).own hg8 hr9 (by decide), (hG7.x hxa).own hg8 (fun b hb => by have := (hr9.lt b hb).1; omega), by have := hg8.size; have := hxa.size; omega⟩
                rw [List.length_append, List.length_singleton]
                simpa [flat_snoc, ints] using hO8
              case measure => simp [intOf]; omega
      case false =>
        obtain ⟨ltd, d0, _⟩ := hK6.cells
        go_wp2_with fail
        refine (hasTextS_c names na names.length nc B (s ++ [47]) W6 hNS).mono ?_
        rw [hd1]
        rintro _ W7 ⟨rfl, hx7⟩
        have hT7 := hT6.x hx7
        have hV7 := hV6.fr (hx7.fr _)
        have hrow7 := own_fr hrow6 (hx7.fr _)
        have hK7 := hK6.x hx7
        have hR7 := hR6.x hx7
        have hS7 := hS6.x hx7
        have hG7 := hG6.x hx7
        have hz7 := hx7.size
        have hF7 := hD6.1.mono (hx7.fr _)
        have hNS7 := hNS.mono (hx7.fr _)
        have hP7 := (hx7.cell (p := ⟨bw, offw + k, none⟩) hb6).trans hcell6
        have hb7 : bw < W7.heap.size := Nat.lt_of_lt_of_le hb6 hz7
        clear hT6 hV6 hrow6 hK6 hR6 hS6 hG6 hx7 hD6 hI6 hNS hcell6 hb6 ltd d0
        obtain ⟨ltd, d0, _⟩ := hK7.cells
        go_wp2
        refine wp_region_grow0 (by kernel_rfl) (by kernel_rfl) ?_
        repeat (go_big_quiet_step (((first | (go_at_call 88; refine grow_same (child_c p s _ (by omega) (by omega))) | (go_at_call 65; refine grow_of (fileAt_c l a n c B (initF root (childL p s)) _ _ (hF7.mono (X.fr (by (repeat (first | exact X.refl _ | assumption | refine X.ext ?_ _ | refine X.alloc ?_ _ | refine X.drew ?_))) _))))))))
        refine wpQuiet_nil ?_
        rintro _ ⟨y, rfl⟩
        clear d0
        obtain ⟨_, d0, _⟩ := hK7.cells
        cases hd2 : hasS names s
        case true =>
          by_cases hj : 0 ≤ fidx l (fileF root p s)
          · go_wp2
            refine wp_region_grow (by kernel_rfl) (by kernel_rfl) ?_
            repeat (go_big_quiet_step (((go_at_call 65; refine grow_of (fileAt_c l a n c B (fileF root p s) _ _ (hF7.mono (X.fr (by (repeat (first | exact X.refl _ | assumption | refine X.ext ?_ _ | refine X.alloc ?_ _ | refine X.drew ?_))) _)))))))
            refine wpQuiet_nil ?_
            rintro _ ⟨y, rfl⟩
            go_wp2_with fail
            refine (hasTextS_c names na names.length nc B s _ (hNS7.mono (X.fr (by (repeat (first | exact X.refl _ | assumption | refine X.ext ?_ _ | refine X.alloc ?_ _ | refine X.drew ?_))) _))).mono ?_
            rw [hd2]
            rintro _ W8 ⟨rfl, hx8⟩
            replace hx8 : X W7 W8 := X.trans (by (repeat (first | exact X.refl _ | assumption | refine X.ext ?_ _ | refine X.alloc ?_ _ | refine X.drew ?_))) hx8
            go_upto_region 13 with fail
            have hTb := hT7.x hx8
            have hVb := hV7.fr (hx8.fr _)
            have hGb := hG7.x hx8
            have hRb := hR7.x hx8
            have hSb := hS7.x hx8
            obtain ⟨ltf, f0, f1, f2, _⟩ := hTb.cells
            obtain ⟨ltr, r0, r1, r2, fr0, fr1, fr2⟩ := hRb.cells
            obtain ⟨lts, s0, s1, s2, fs0, fs1, fs2⟩ := hSb.cells
            go_wp2
            have hne1 : w.heap.size + 1 + 1 ≠ w.heap.size + 1 + 1 + 1 := by omega
            have hne2 : w.heap.size + 1 + 1 + 1 ≠ w.heap.size + 1 + 1 := by omega
            refine act_name (fun WF hWF => ?_)
            obtain ⟨W9, hW9⟩ : ∃ W9, W9 = (((((W8.setCell ⟨w.heap.size + 1 + 1, 0, none⟩ (.slice fa2 fn2 fc2)).setCell ⟨w.heap.size + 1 + 1, 1, none⟩ (.int .i64 fi2)).setCell ⟨w.heap.size + 1 + 1, 2, none⟩ (.int .i64 hi2)).setCell ⟨w.heap.size + 1 + 1 + 1, 0, none⟩ (.int .i64 1)).setCell ⟨w.heap.size + 1 + 1 + 1, 1, none⟩ (.int .i64 (fidx l (fileF root p s)))).setCell ⟨w.heap.size + 1 + 1 + 1, 2, none⟩ (.slice (some ⟨W8.heap.size, 0, none⟩) 0 0) := ⟨_, rfl⟩
            have hz9 : W9.heap.size = W8.heap.size := by rw [hW9]; simp
            have hR9 : Tf W9 (w.heap.size + 1 + 1) #[.slice fa2 fn2 fc2, .int .i64 fi2, .int .i64 hi2] := by rw [hW9]; exact (hRb.set3 _ _ _).far3 hne1 _ _ _
            have hS9 : Tb 95 W9 (w.heap.size + 1 + 1 + 1) #[.int .i64 1, .int .i64 (fidx l (fileF root p s)), .slice (some ⟨W8.heap.size, 0, none⟩) 0 0] := by rw [hW9]; exact (hSb.far3 hne2 _ _ _).set3 _ _ _
            have hV9 : FdV W9 B fa2 fn2 fc2 fi2 hi2 fl2 := by rw [hW9]; exact (hVb.set3 hRb _ _ _).set3t (hSb.far3 hne2 _ _ _) (by decide) (by decide) _ _ _
            have hG9 : GrF w W9 (.slice fa fn fc) (.slice fa2 fn2 fc2) := by rw [hW9]; exact (hGb.set3 (by omega) _ _ _).set3 (by omega) _ _ _
            rw [← hW9] at hWF
            have hA : X W9 WF := by rw [hWF]; exact (X.refl _).alloc _
            have hO9 : WF.ownsRow B 3 1 (.slice (some ⟨W8.heap.size, 0, none⟩) 0 0) 0 [] := by rw [hWF]; exact own_lit (B := B) (n := 0) (size := 1) hz9.symm (by omega) rfl (by omega)
            clear hW9 hWF
            refine bodyPost_ret (v := .tuple #[.agg #[.slice fa2 fn2 fc2, .int .i64 fi2, .int .i64 hi2], .agg #[.int .i64 1, .int .i64 (fidx l (fileF root p s)), .slice (some ⟨W8.heap.size, 0, none⟩) 0 0]]) ?_ rfl ?_
            · obtain ⟨_, r0, r1, r2, _⟩ := (hR9.x hA).cells
              obtain ⟨_, s0, s1, s2, _⟩ := (hS9.x hA).cells
              simp [results, Tryd.results95, go_sem, Result.andThen, r0, r1, r2, s0, s1, s2]
            · exact ⟨fl2, fa2, fn2, fc2, fi2, hi2, 1, _, [], some ⟨W8.heap.size, 0, none⟩, 0, rfl, hV9.fr (hA.fr _), by simp, by simp, hO9, hG9.x hA⟩
          · go_wp2
            refine wp_region_grow (by kernel_rfl) (by kernel_rfl) ?_
            repeat (go_big_quiet_step (((go_at_call 65; refine grow_of (fileAt_c l a n c B (fileF root p s) _ _ (hF7.mono (X.fr (by (repeat (first | exact X.refl _ | assumption | refine X.ext ?_ _ | refine X.alloc ?_ _ | refine X.drew ?_))) _)))))))
            refine wpQuiet_nil ?_
            rintro _ ⟨y, rfl⟩
            go_wp2_with fail
            refine (hasTextS_c names na names.length nc B s _ (hNS7.mono (X.fr (by (repeat (first | exact X.refl _ | assumption | refine X.ext ?_ _ | refine X.alloc ?_ _ | refine X.drew ?_))) _))).mono ?_
            rw [hd2]
            rintro _ W8 ⟨rfl, hx8⟩
            replace hx8 : X W7 W8 := X.trans (by (repeat (first | exact X.refl _ | assumption | refine X.ext ?_ _ | refine X.alloc ?_ _ | refine X.drew ?_))) hx8
            have hK8 := hK7.x hx8
            have hP8 := (hx8.cell (p := ⟨bw, offw + k, none⟩) hb7).trans hP7
            have hb8 : bw < W8.heap.size := Nat.lt_of_lt_of_le hb7 hx8.size
            obtain ⟨ltd8, d80, _⟩ := hK8.cells
            go_wp2
            refine wp_region_grow0 (by kernel_rfl) (by kernel_rfl) ?_
            repeat (go_big_quiet_step ((fail)))
            refine wpQuiet_nil ?_
            rintro _ ⟨y, rfl⟩
            go_wp2
            have hxe : X W7 (World.ext W8 y) := hx8.trans ((X.refl _).ext y)
            go_roundw
            case rel => exact ⟨k + 1, fl2, fa2, fn2, fc2, fi2, hi2, acc, qa, qc, by omega, by go_num, rfl, by omega, own_fr hrow7 (hxe.fr _), hV7.fr (hxe.fr _), hT7.x hxe, hK7.x hxe, hR7.x hxe, hS7.x hxe, hG7.x hxe, by have := hxe.size; omega⟩
            case measure => simp [intOf]; omega
        case false =>
          go_wp2
          refine wp_region_grow (by kernel_rfl) (by kernel_rfl) ?_
          repeat (go_big_quiet_step (((go_at_call 65; refine grow_of (fileAt_c l a n c B (fileF root p s) _ _ (hF7.mono (X.fr (by (repeat (first | exact X.refl _ | assumption | refine X.ext ?_ _ | refine X.alloc ?_ _ | refine X.drew ?_))) _)))))))
          refine wpQuiet_nil ?_
          rintro _ ⟨y, rfl⟩
          go_wp2_with fail
          refine (hasTextS_c names na names.length nc B s _ (hNS7.mono (X.fr (by (repeat (first | exact X.refl _ | assumption | refine X.ext ?_ _ | refine X.alloc ?_ _ | refine X.drew ?_))) _))).mono ?_
          rw [hd2]
          rintro _ W8 ⟨rfl, hx8⟩
          replace hx8 : X W7 W8 := X.trans (by (repeat (first | exact X.refl _ | assumption | refine X.ext ?_ _ | refine X.alloc ?_ _ | refine X.drew ?_))) hx8
          have hK8 := hK7.x hx8
          have hP8 := (hx8.cell (p := ⟨bw, offw + k, none⟩) hb7).trans hP7
          have hb8 : bw < W8.heap.size := Nat.lt_of_lt_of_le hb7 hx8.size
          obtain ⟨ltd8, d80, _⟩ := hK8.cells
          go_wp2
          refine wp_region_grow0 (by kernel_rfl) (by kernel_rfl) ?_
          repeat (go_big_quiet_step ((fail)))
          refine wpQuiet_nil ?_
          rintro _ ⟨y, rfl⟩
          go_wp2
          have hxe : X W7 (World.ext W8 y) := hx8.trans ((X.refl _).ext y)
          go_roundw
          case rel => exact ⟨k + 1, fl2, fa2, fn2, fc2, fi2, hi2, acc, qa, qc, by omega, by go_num, rfl, by omega, own_fr hrow7 (hxe.fr _), hV7.fr (hxe.fr _), hT7.x hxe, hK7.x hxe, hR7.x hxe, hS7.x hxe, hG7.x hxe, by have := hxe.size; omega⟩
          case measure => simp [intOf]; omega
    · obtain rfl : k = pn := by omega
      have hTb := hT1
      have hVb := hV1
      have hGb := hG1
      have hRb := hR1
      have hSb := hS1
      clear hT1 hK1 hR1 hS1 hG1 hV1 hD1 hI1
      by_cases h0 : 0 < acc.length
      · obtain ⟨ltf, f0, f1, f2, _⟩ := hTb.cells
        obtain ⟨ltr, r0, r1, r2, fr0, fr1, fr2⟩ := hRb.cells
        obtain ⟨lts, s0, s1, s2, fs0, fs1, fs2⟩ := hSb.cells
        go_wp2
        have hne1 : w.heap.size + 1 + 1 ≠ w.heap.size + 1 + 1 + 1 := by omega
        have hne2 : w.heap.size + 1 + 1 + 1 ≠ w.heap.size + 1 + 1 := by omega
        refine act_name (fun W9 hW9 => ?_)
        have hR9 : Tf W9 (w.heap.size + 1 + 1) #[.slice fa1 fn1 fc1, .int .i64 fi1, .int .i64 hi1] := by rw [hW9]; exact (hRb.set3 _ _ _).far3 hne1 _ _ _
        have hS9 : Tb 95 W9 (w.heap.size + 1 + 1 + 1) #[.int .i64 3, .int .i64 (-1), .slice qa acc.length qc] := by rw [hW9]; exact (hSb.far3 hne2 _ _ _).set3 _ _ _
        have hV9 : FdV W9 B fa1 fn1 fc1 fi1 hi1 fl1 := by rw [hW9]; exact (hVb.set3 hRb _ _ _).set3t (hSb.far3 hne2 _ _ _) (by decide) (by decide) _ _ _
        have hG9 : GrF w W9 (.slice fa fn fc) (.slice fa1 fn1 fc1) := by rw [hW9]; exact (hGb.set3 (by omega) _ _ _).set3 (by omega) _ _ _
        have hO9 : W9.ownsRow B 3 1 (.slice qa acc.length qc) acc.length (ints acc) := by rw [hW9]; exact own_less (own_set3t (own_set3f hrow hRb (by decide) _ _ _) (hSb.far3 hne2 _ _ _) (by decide) _ _ _) (by omega)
        clear hW9
        refine bodyPost_ret (v := .tuple #[.agg #[.slice fa1 fn1 fc1, .int .i64 fi1, .int .i64 hi1], .agg #[.int .i64 3, .int .i64 (-1), .slice qa acc.length qc]]) ?_ rfl ?_
        · obtain ⟨_, r0, r1, r2, _⟩ := hR9.cells
          obtain ⟨_, s0, s1, s2, _⟩ := hS9.cells
          simp [results, Tryd.results95, go_sem, Result.andThen, r0, r1, r2, s0, s1, s2]
        · exact ⟨fl1, fa1, fn1, fc1, fi1, hi1, 3, -1, acc, qa, qc, rfl, hV9, by simp, hacc, hO9, hG9⟩
      · have h0' : ¬ (0 : Int) < (acc.length : Int) := by omega
        go_wp2
        refine wp_region_inv (fun L v W => Tf W w.heap.size #[.slice fa1 fn1 fc1, .int .i64 fi1, .int .i64 hi1]
            ∧ FdV W B fa1 fn1 fc1 fi1 hi1 fl1
            ∧ GrF w W (.slice fa fn fc) (.slice fa1 fn1 fc1)
            ∧ (L 2 = false → Tf W (w.heap.size + 1 + 1) #[.slice none 0 0, .int .i64 0, .int .i64 0])
            ∧ (L 2 = true → Tf W (w.heap.size + 1 + 1) #[.slice fa1 fn1 fc1, .int .i64 fi1, .int .i64 hi1])
            ∧ (L 3 = false → Tb 95 W (w.heap.size + 1 + 1 + 1) #[.int .i64 0, .int .i64 0, .slice none 0 0])
            ∧ (L 1 = true → ∃ qa2 qc2, v 1 = .agg #[.int .i64 0, .int .i64 (-1), .slice qa2 0 qc2] ∧ W.ownsRow B 3 1 (.slice qa2 0 qc2) 0 [] ∧ (L 3 = true → Tb 95 W (w.heap.size + 1 + 1 + 1) #[.int .i64 0, .int .i64 (-1), .slice qa2 0 qc2]))
            ∧ (L 3 = true → L 1 = true)
            ∧ (L 0 = true → v 0 = .agg #[.slice fa1 fn1 fc1, .int .i64 fi1, .int .i64 hi1])) (by kernel_rfl) (by kernel_rfl) ?_ ?_ (l := [(113, 0), (114, 1)]) (by kernel_rfl) (n := 4) rfl ?_
        · intro v
          exact ⟨hTb.x (X.refl _).drew, hVb.fr ((X.refl _).drew.fr _), hGb.x (X.refl _).drew, fun _ => hRb.x (X.refl _).drew, fun h => Bool.noConfusion h, fun _ => hSb.x (X.refl _).drew, fun h => Bool.noConfusion h, fun h => Bool.noConfusion h, fun h => Bool.noConfusion h⟩
        · intro i hi
          have hi' : i = 0 ∨ i = 1 ∨ i = 2 ∨ i = 3 := by
            have : i < 4 := hi
            omega
          clear hi
          rcases hi' with rfl | rfl | rfl | rfl
          all_goals
            intro o ho L v aa W hI hS hL hA K hK
            cases (show some _ = some o from ho)
            obtain ⟨tf, vv, gg, rf, rfs, rs, cal, d3, v0⟩ := hI
          · have o5 := hS.old 5 (by kernel_rfl) rfl
            obtain ⟨ltf, f0, f1, f2, _⟩ := tf.cells
            clear hS ho hA
            go_simp
            exact hK _ W ⟨tf, vv, gg, rf, rfs, rs, cal, d3, fun _ => rfl⟩
          · skip
            clear hS ho hA
            go_simp
            refine (noSpec_c W).mono ?_
            rintro _ w' ⟨qa2, qc2, rfl, hO0, hxa⟩
            have hO := own_less hO0 (show B ≤ W.heap.size by have := gg.size; omega)
            exact hK _ w' ⟨tf.x hxa, vv.fr (hxa.fr _), gg.x hxa, fun h => (rf h).x hxa, fun h => (rfs h).x hxa, fun h => (rs h).x hxa, fun _ => ⟨qa2, qc2, rfl, hO, fun h => Bool.noConfusion (hL.symm.trans (d3 h))⟩, fun _ => rfl, v0⟩
          · have o10 := hS.old 10 (by kernel_rfl) rfl
            have l0 : L 0 = true := hA ⟨0, .data⟩ (by simp) rfl
            have g0 := hS.get 0 113 rfl l0 (v0 l0)
            obtain ⟨ltr, r0, r1, r2, fr0, fr1, fr2⟩ := (rf hL).cells
            clear hS ho hA
            go_simp
            exact hK undef _ ⟨tf.far3 (by omega) _ _ _, vv.set3 (rf hL) _ _ _, gg.set3 (by omega) _ _ _, fun h => Bool.noConfusion h, fun _ => (rf hL).set3 _ _ _, fun h => (rs h).far3 (by omega) _ _ _, fun h => let ⟨qa2, qc2, e1, hO, hSg⟩ := cal h; ⟨qa2, qc2, e1, own_set3f hO (rf hL) (by decide) _ _ _, fun q => (hSg q).far3 (by omega) _ _ _⟩, d3, v0⟩
          · have o11 := hS.old 11 (by kernel_rfl) rfl
            have l1 : L 1 = true := hA ⟨1, .data⟩ (by simp) rfl
            obtain ⟨qa2, qc2, e1, hO, hSg⟩ := cal l1
            have g1 := hS.get 1 114 rfl l1 e1
            obtain ⟨lts, s0, s1, s2, fs0, fs1, fs2⟩ := (rs hL).cells
            clear hS ho hA
            go_simp
            exact hK undef _ ⟨tf.far3 (by omega) _ _ _, vv.set3t (rs hL) (by decide) (by decide) _ _ _, gg.set3 (by omega) _ _ _, fun h => (rf h).far3 (by omega) _ _ _, fun h => (rfs h).far3 (by omega) _ _ _, fun h => Bool.noConfusion h, fun _ => ⟨qa2, qc2, e1, own_set3t hO (rs hL) (by decide) _ _ _, fun _ => (rs hL).set3 _ _ _⟩, fun _ => l1, v0⟩
        intro v W9 hI
        obtain ⟨tf, vv, gg, rf, rfs, rs, cal, d3, v0⟩ := hI
        have e0 := v0 rfl
        clear v0
        obtain ⟨qa2, qc2, e1, hO, hSg⟩ := cal rfl
        replace hSg := hSg rfl
        replace rfs := rfs rfl
        clear cal rf rs d3
        simp only [putL, List.foldl, List.setIfInBounds_toArray, List.set_cons_zero, List.set_cons_succ, e0, e1]
        clear e0
        clear e1
        go_wp2
        refine bodyPost_ret (v := .tuple #[.agg #[.slice fa1 fn1 fc1, .int .i64 fi1, .int .i64 hi1], .agg #[.int .i64 0, .int .i64 (-1), .slice qa2 0 qc2]]) ?_ rfl ?_
        · obtain ⟨_, r0, r1, r2, _⟩ := rfs.cells
          obtain ⟨_, s0, s1, s2, _⟩ := hSg.cells
          simp [results, Tryd.results95, go_sem, Result.andThen, r0, r1, r2, s0, s1, s2]
        · exact ⟨fl1, fa1, fn1, fc1, fi1, hi1, 0, -1, [], qa2, qc2, rfl, vv, by simp, by simp, hO, gg⟩

end Go.Proofs.YtgjfjjhmgbemcaaDoor
