/- The generators of disks that may be invalid. No condition but that the reader has not read too far. -/
import Derived.Test.YtgjfjjhmgbemcaaDoorDrawDisk
namespace Go.Proofs.YtgjfjjhmgbemcaaDoor
open Go.RowKit

/-- A disk that is drawn, of the call's own. -/
def AnV (w : World) (B : Nat) (a : Option Addr) (n c : Nat) (da : Option Addr) (dn dc : Nat) (l : List Fi) (dl : List Di) : Prop :=
  FilesO w B a n c l ∧ DirsO w B da dn dc dl ∧ OkL l ∧ OkD dl ∧ n ≤ 12 ∧ dn ≤ 21
theorem AnV.fr {w w' : World} {B n c dn dc : Nat} {a da : Option Addr} {l : List Fi} {dl : List Di} (h : AnV w B a n c da dn dc l dl) (hx : Fr B w w') : AnV w' B a n c da dn dc l dl :=
  ⟨h.1.fr hx, h.2.1.fr hx, h.2.2⟩
theorem AnV.less {w : World} {B B' n c dn dc : Nat} {a da : Option Addr} {l : List Fi} {dl : List Di} (h : AnV w B a n c da dn dc l dl) (hB : B' ≤ B) : AnV w B' a n c da dn dc l dl :=
  ⟨h.1.less hB, h.2.1.less hB, h.2.2⟩
theorem AnV.far {w : World} {B n c dn dc b : Nat} {a da : Option Addr} {l : List Fi} {dl : List Di} {cs : Array Value} {t : TypeId} (h : AnV w B a n c da dn dc l dl) (hb : w.heap[b]? = some (.cells cs t (0, 0))) (h1 : 36 ≠ t) (h2 : 92 ≠ t) (h3 : 71 ≠ t) (h4 : 9 ≠ t) (i : Nat) (u : Value) : AnV (w.setCell ⟨b, i, none⟩ u) B a n c da dn dc l dl :=
  ⟨(h.1.e.far hb h1 h2 i u).o, h.2.1.far hb h3 h4 i u, h.2.2⟩
theorem AnV.set3 {w : World} {B n c dn dc b : Nat} {a da : Option Addr} {l : List Fi} {dl : List Di} {z0 z1 z2 : Value} (h : AnV w B a n c da dn dc l dl) (hT : Tk w b #[z0, z1, z2]) (v0 v1 v2 : Value) : AnV (((w.setCell ⟨b, 0, none⟩ v0).setCell ⟨b, 1, none⟩ v1).setCell ⟨b, 2, none⟩ v2) B a n c da dn dc l dl :=
  ((h.far hT (by decide) (by decide) (by decide) (by decide) _ _).far (heap_set1 hT) (by decide) (by decide) (by decide) (by decide) _ _).far (heap_set2 hT) (by decide) (by decide) (by decide) (by decide) _ _
theorem DkV.any {w : World} {B n c dn dc : Nat} {kk : Int} {a da : Option Addr} {l : List Fi} {dl : List Di} (h : DkV w B a n c kk da dn dc l dl) : AnV w B a n c da dn dc l dl := by
  obtain ⟨h1, h2, h3, h4, h5⟩ := h
  have hw := disk_wt h3
  have e1 := (h1.at h4).len.1
  have e2 := (h2.at h5).len.1
  exact ⟨h1, h2, h4, h5, by omega, by omega⟩
theorem okD_snoc {dl : List Di} {r : Int} (h : OkD dl) (hl : dl.length ≤ 21) : OkD (dl ++ [⟨r, [], 0, []⟩]) :=
  ⟨by rw [List.length_append, List.length_singleton]; omega, fun d hd => by
    rcases List.mem_append.1 hd with hd | hd
    · exact h.2 d hd
    · rw [List.mem_singleton.1 hd]; simp⟩
theorem Tk.set1 {w : World} {b : Nat} {z0 z1 z2 : Value} (h : Tk w b #[z0, z1, z2]) (v : Value) : Tk (w.setCell ⟨b, 1, none⟩ v) b #[z0, v, z2] := by
  unfold Tk at *
  simpa using heap_setCell_same _ b 1 _ _ v h
theorem Tk.set2 {w : World} {b : Nat} {z0 z1 z2 : Value} (h : Tk w b #[z0, z1, z2]) (v : Value) : Tk (w.setCell ⟨b, 2, none⟩ v) b #[z0, z1, v] := by
  unfold Tk at *
  simpa using heap_setCell_same _ b 2 _ _ v h

theorem FilesO.grownD {w w' : World} {B n c B2 n2 c2 : Nat} {a a2 : Option Addr} {l : List Fi} {xs : List Value} (h : FilesO w B a n c l) (hg : w.grownBy w' (Value.slice a2 n2 c2).ownBlock) (hrow : w.ownsRow B2 71 4 (.slice a2 n2 c2) n2 xs) : FilesO w' B a n c l := by
  obtain ⟨vs, e, h1, h2, hs, h3⟩ := h
  exact ⟨vs, e, h1, h2.kept hg (row_ne h2 hrow (by decide)), hs, fun x hx => by
    obtain ⟨ba, bc, e, ho⟩ := h3 x hx
    exact ⟨ba, bc, e, ho.kept hg (row_ne ho hrow (by decide))⟩⟩
set_option maxRecDepth 100000 in
set_option maxHeartbeats 8000000 in
theorem anyDisk_c (rb m : Nat) (w : World) (hr : Rdr w rb m) (hm : m + 810 ≤ 1000000000) :
    Calls Tryd.prog 22 #[.pointer (some ⟨rb, 0, none⟩)] w fun e w' => ∃ a n c kk da dn dc l dl, e = .returned (.agg #[.slice a n c, .int .i64 kk, .slice da dn dc]) ∧ AnV w' w.heap.size a n c da dn dc l dl ∧ Rdr w' rb (m + 810) ∧ Y rb w w' := by
  have hlt := hr.lt
  go_enter Tryd.func22, Tryd.ntmps22
  go_wp2_with fail
  refine calls_name (fun W0 hW0 => ?_)
  have hR0 : Tk W0 w.heap.size #[.slice none 0 0, .int .i64 0, .slice none 0 0] := by rw [hW0]; exact heap_alloc_new _ _
  have hX0 : X w W0 := by rw [hW0]; (repeat (first | with_reducible exact X.refl _ | with_reducible assumption | with_reducible refine X.setCell ?_ (by first | (simp; done) | (simp; omega)) _ | with_reducible refine X.ext ?_ _ | with_reducible refine X.alloc ?_ _ | with_reducible refine X.drew ?_))
  clear hW0
  have hz0 := hX0.size
  have hlR := hR0.bx.lt
  have hneR : w.heap.size ≠ rb := by omega
  refine (someDisk_c rb m W0 (hr.x hX0) (by omega)).mono ?_
  rintro _ w1 ⟨a, n, c, kk, da, dn, dc, l, dl, rfl, hV1, hr1, hy1⟩
  replace hR0 := hR0.y hy1 hneR
  have hwb := Nat.lt_of_lt_of_le hlR hy1.size
  replace hy1 := (Y.of_x (rb := rb) hX0).trans hy1
  clear hX0 hr
  have hz1 := hy1.size
  have hneb : w1.heap.size ≠ rb := by omega
  go_wp2_with fail
  refine calls_name (fun W2 hW2 => ?_)
  have hT2 : Tk W2 w1.heap.size #[.slice a n c, .int .i64 kk, .slice da dn dc] := by
    rw [hW2]
    first
      | exact heap_alloc_new _ _
      | exact Tk.set3 (heap_alloc_new _ _) _ _ _
  have hX2 : X w1 W2 := by rw [hW2]; (repeat (first | with_reducible exact X.refl _ | with_reducible assumption | with_reducible refine X.setCell ?_ (by first | (simp; done) | (simp; omega)) _ | with_reducible refine X.ext ?_ _ | with_reducible refine X.alloc ?_ _ | with_reducible refine X.drew ?_))
  clear hW2
  refine (pick_c rb _ 20 W2 (hr1.x hX2) (by omega) (by omega)).mono ?_
  rintro _ W3 ⟨k, rfl, hk, hr3, hy3⟩
  have hT3 := hT2.y hy3 hneb
  replace hy3 := (Y.of_x (rb := rb) hX2).trans hy3
  have hR3 := hR0.y hy3 hneR
  have hV3 := (hV1.any.fr (hy3.fr.mono (by omega))).less (B' := w.heap.size) (by omega)
  have hz3 := hy3.size
  have hyw := hy1.trans hy3
  have h20 := (disk_wt hV1.2.2.1).2.2.2
  clear hT2 hX2 hR0 hV1 hy1 hr1 hy3
  obtain ⟨mm, hmm, hr3⟩ : ∃ mm, mm ≤ m + 801 ∧ Rdr W3 rb mm := ⟨_, by omega, hr3⟩
  have hlT := hT3.bx.lt
  by_cases hk0 : k = 0
  · subst hk0
    go_wp2_with fail
    refine (one_c rb mm [-1, 201, 0] _ _ _ (rb + 1) _ (hr3.x (by (repeat (first | with_reducible exact X.refl _ | with_reducible assumption | with_reducible refine X.setCell ?_ (by first | (simp; done) | (simp; omega)) _ | with_reducible refine X.ext ?_ _ | with_reducible refine X.alloc ?_ _ | with_reducible refine X.drew ?_)))) (by omega) (ints_lit (by simp) (by omega) rfl rfl (by decide)) (by omega) (by decide)).mono ?_
    rintro _ w5 ⟨kk', rfl, _, hr5, hy5⟩
    replace hy5 : Y rb W3 w5 := (Y.of_x (by (repeat (first | with_reducible exact X.refl _ | with_reducible assumption | with_reducible refine X.setCell ?_ (by first | (simp; done) | (simp; omega)) _ | with_reducible refine X.ext ?_ _ | with_reducible refine X.alloc ?_ _ | with_reducible refine X.drew ?_)))).trans hy5
    have T4 := hT3.y hy5 hneb
    have R4 := hR3.y hy5 hneR
    have V4 := hV3.fr (hy5.fr.mono (by omega))
    have y4 := hyw.trans hy5
    clear hT3 hR3 hV3 hr3 hyw
    obtain ⟨lt, ct, ft⟩ := T4.bx.out
    have t1 := ct 1
    have f1 := ft 1
    clear ct ft
    go_upto_region 7 with fail
    refine wp_name (fun W5 hW5 => ?_)
    have T5 : Tk W5 w1.heap.size #[.slice a n c, .int .i64 kk', .slice da dn dc] := by rw [hW5]; exact T4.set1 _
    have R5 : Tk W5 w.heap.size #[.slice none 0 0, .int .i64 0, .slice none 0 0] := by rw [hW5]; exact R4.far (by show w.heap.size ≠ w1.heap.size; omega) _
    have V5 : AnV W5 w.heap.size a n c da dn dc l dl := by rw [hW5]; exact V4.far T4 (by decide) (by decide) (by decide) (by decide) _ _
    have r5 : Rdr W5 rb (mm + 1) := by rw [hW5]; exact Rdr.set2 hr5 (by show rb < w1.heap.size; omega) _
    have y5 : Y rb w W5 := by rw [hW5]; exact Y.set2 (p := ⟨w1.heap.size, 1, none⟩) y4 (by show w.heap.size ≤ w1.heap.size; omega) _
    clear hW5 T4 R4 V4 y4 hr5 hy5 t1 f1 lt
    obtain ⟨lb, cb, _⟩ := T5.bx.out
    have b0 := cb 0
    have b1 := cb 1
    have b2 := cb 2
    obtain ⟨lr, cr, fr⟩ := R5.bx.out
    have fr0 := fr 0
    have fr1 := fr 1
    have fr2 := fr 2
    have r0 := cr 0
    have r1 := cr 1
    have r2 := cr 2
    clear cb cr fr
    go_wp2
    refine bodyPost_row Tryd.results22 rfl (Bx.set (Bx.set (Bx.set R5.bx 0 _) 1 _) 2 _) disk_S rfl rfl ?_
    exact ⟨_, _, _, _, _, _, _, _, _, rfl, V5.set3 R5 _ _ _, (rdr_set3 r5 (by omega) _ _ _).weak (by omega) (by omega), y_set3 y5 (Nat.le_refl _) _ _ _⟩
  by_cases hk1 : k = 1
  · subst hk1
    go_wp2
    obtain ⟨vs, hvs, hvl, hDV⟩ := hV3.2.1.v
    subst hvs
    obtain ⟨hrow3, hsep3, hbod3⟩ := hDV
    have hvs20 : vs.length ≤ 20 := by
      have := congrArg List.length hvl
      rw [List.length_map] at this
      omega
    refine wp_region_inv (fun L v W => (L 7 = false → Y rb W3 W)
        ∧ (L 4 = false → L 7 = false → Rdr W rb mm)
        ∧ (L 7 = false → Rdr W rb (mm + 1))
        ∧ (L 7 = true → L 1 = true ∧ L 6 = true)
        ∧ (L 6 = true → L 5 = true)
        ∧ (L 5 = true → L 4 = true)
        ∧ (L 4 = true → L 3 = true)
        ∧ (L 9 = true → L 7 = true)
        ∧ (L 0 = true → v 0 = .pointer (some ⟨w1.heap.size, 2, none⟩))
        ∧ (L 1 = true → v 1 = .slice da vs.length dc)
        ∧ (L 2 = true → v 2 = .pointer (some ⟨rb, 0, none⟩))
        ∧ (L 3 = true → L 4 = false → ∃ p, v 3 = .slice p 2 2 ∧ IntsAt W (rb + 1) p 2 [0, 3])
        ∧ (L 4 = true → ∃ r, v 4 = .int .i64 r)
        ∧ (L 5 = true → ∃ r, v 5 = .agg #[.int .i64 r, .string ⟨#[]⟩, .int .i64 0, .slice none 0 0])
        ∧ (L 6 = true → ∃ r g, v 6 = .slice (some ⟨g, 0, none⟩) 1 1 ∧ (L 7 = false → W.heap[g]? = some (.cells #[.int .i64 r, .string ⟨#[]⟩, .int .i64 0, .slice none 0 0] 71 (0, 0))))
        ∧ (L 7 = true → L 9 = false → ∃ r g8 c8 w7, v 7 = .slice (some ⟨g8, 0, none⟩) (vs.length + 1) c8 ∧ Y rb W3 w7 ∧ Rdr w7 rb (mm + 1) ∧ w7.ownsRow w.heap.size 71 4 (.slice da vs.length dc) vs.length (vs.flatMap dcells) ∧ W.ownsRow w.heap.size 71 4 (.slice (some ⟨g8, 0, none⟩) (vs.length + 1) c8) (vs.length + 1) (vs.flatMap dcells ++ [.int .i64 r, .string ⟨#[]⟩, .int .i64 0, .slice none 0 0]) ∧ w7.grownBy W (Value.slice da vs.length dc).ownBlock)
        ∧ (L 8 = true → v 8 = .pointer (some ⟨w1.heap.size, 2, none⟩))
        ∧ (L 9 = true → ∃ r g8 c8 w7 w8, W = w8.setCell ⟨w1.heap.size, 2, none⟩ (.slice (some ⟨g8, 0, none⟩) (vs.length + 1) c8) ∧ Y rb W3 w7 ∧ Rdr w7 rb (mm + 1) ∧ w7.ownsRow w.heap.size 71 4 (.slice da vs.length dc) vs.length (vs.flatMap dcells) ∧ w8.ownsRow w.heap.size 71 4 (.slice (some ⟨g8, 0, none⟩) (vs.length + 1) c8) (vs.length + 1) (vs.flatMap dcells ++ [.int .i64 r, .string ⟨#[]⟩, .int .i64 0, .slice none 0 0]) ∧ w7.grownBy w8 (Value.slice da vs.length dc).ownBlock)) (by kernel_rfl) (by kernel_rfl) ?_ ?_ (l := [(16, 0), (17, 1), (18, 2), (19, 3), (20, 4), (21, 5), (22, 6), (23, 7), (24, 8)]) (by kernel_rfl) (n := 10) rfl ?_
    · intro v
      exact ⟨fun _ => (Y.refl _ _).drewY, fun _ _ => hr3.drewY, fun _ => hr3.drewY.weak (by omega) (by omega), fun h => Bool.noConfusion h, fun h => Bool.noConfusion h, fun h => Bool.noConfusion h, fun h => Bool.noConfusion h, fun h => Bool.noConfusion h, fun h => Bool.noConfusion h, fun h => Bool.noConfusion h, fun h => Bool.noConfusion h, fun h => Bool.noConfusion h, fun h => Bool.noConfusion h, fun h => Bool.noConfusion h, fun h => Bool.noConfusion h, fun h => Bool.noConfusion h, fun h => Bool.noConfusion h, fun h => Bool.noConfusion h⟩
    · intro i hi
      have hi' : i = 0 ∨ i = 1 ∨ i = 2 ∨ i = 3 ∨ i = 4 ∨ i = 5 ∨ i = 6 ∨ i = 7 ∨ i = 8 ∨ i = 9 := by
        have : i < 10 := hi
        omega
      clear hi
      rcases hi' with rfl | rfl | rfl | rfl | rfl | rfl | rfl | rfl | rfl | rfl
      all_goals
        intro o ho L v aa W hI hS hL hA K hK
        cases (show some _ = some o from ho)
        obtain ⟨yy, r0, r1, d7, d6, d5, d4, d9, v0, v1, v2, v3, v4, v5, v6, ap, v8, fin⟩ := hI
      · have a0 := hS.old 3 (by kernel_rfl) rfl
        clear hS ho hA
        go_simp
        exact hK _ W ⟨yy, r0, r1, d7, d6, d5, d4, d9, fun _ => rfl, v1, v2, v3, v4, v5, v6, ap, v8, fin⟩
      · have l0 : L 0 = true := hA ⟨0, .data⟩ (by simp) rfl
        have a0 := hS.get 0 16 rfl l0 (v0 l0)
        have n7 : L 7 = false := by rcases h : L 7 with _ | _; (· rfl); (· have := (d7 h).1; simp [hL] at this)
        obtain ⟨lb, cb, _⟩ := (hT3.bx.y (yy n7) hneb).out
        have c2 := cb 2
        clear cb
        clear hS ho hA
        go_simp
        exact hK _ W ⟨yy, r0, r1, fun h => ⟨rfl, (d7 h).2⟩, d6, d5, d4, d9, v0, fun _ => rfl, v2, v3, v4, v5, v6, ap, v8, fin⟩
      · have a0 := hS.old 0 (by kernel_rfl) rfl
        clear hS ho hA
        go_simp
        exact hK _ W ⟨yy, r0, r1, d7, d6, d5, d4, d9, v0, v1, fun _ => rfl, v3, v4, v5, v6, ap, v8, fin⟩
      · have n7 : L 7 = false := by rcases h : L 7 with _ | _; (· rfl); (· have := d4 (d5 (d6 (d7 h).2)); simp [hL] at this)
        have hsz := (yy n7).size
        clear hS ho hA
        go_simp
        exact hK _ _ ⟨fun h => (yy h).trans (Y.of_x ((X.refl W).alloc _)), fun h k => (r0 h k).x ((X.refl W).alloc _), fun h => (r1 h).x ((X.refl W).alloc _), d7, d6, d5, fun _ => rfl, d9, v0, v1, v2, fun _ _ => ⟨_, rfl, ints_lit rfl (by omega) rfl rfl (by simp)⟩, v4, v5, fun h => Bool.noConfusion (hL.symm.trans (d4 (d5 (d6 h)))), fun h => Bool.noConfusion (n7.symm.trans h), v8, fun h => Bool.noConfusion (n7.symm.trans (d9 h))⟩
      · have l2 : L 2 = true := hA ⟨2, .data⟩ (by simp) rfl
        have l3 : L 3 = true := hA ⟨3, .data⟩ (by simp) rfl
        have a2 := hS.get 2 18 rfl l2 (v2 l2)
        have n7 : L 7 = false := by rcases h : L 7 with _ | _; (· rfl); (· have := d5 (d6 (d7 h).2); simp [hL] at this)
        obtain ⟨p, e3, hI⟩ := v3 l3 hL
        have a3 := hS.get 3 19 rfl l3 e3
        clear hS ho hA
        go_simp
        refine (one_c rb mm [0, 3] p 2 2 (rb + 1) W (r0 hL n7) (by omega) hI (by omega) (by decide)).mono ?_
        rintro _ w' ⟨r, rfl, _, hr, hy⟩
        exact hK _ w' ⟨fun h => (yy h).trans hy, fun h => Bool.noConfusion h, fun _ => hr, d7, d6, fun _ => rfl, fun _ => l3, d9, v0, v1, v2, fun _ h => Bool.noConfusion h, fun _ => ⟨r, rfl⟩, v5, fun h => Bool.noConfusion (hL.symm.trans (d5 (d6 h))), fun h => Bool.noConfusion (n7.symm.trans h), v8, fun h => Bool.noConfusion (n7.symm.trans (d9 h))⟩
      · have l4 : L 4 = true := hA ⟨4, .data⟩ (by simp) rfl
        obtain ⟨r, e4⟩ := v4 l4
        have a4 := hS.get 4 20 rfl l4 e4
        clear hS ho hA
        go_simp
        exact hK _ W ⟨yy, r0, r1, d7, fun _ => rfl, fun _ => l4, d4, d9, v0, v1, v2, v3, v4, fun _ => ⟨r, rfl⟩, v6, ap, v8, fin⟩
      · have l5 : L 5 = true := hA ⟨5, .data⟩ (by simp) rfl
        have l4 := d5 l5
        obtain ⟨r, e5⟩ := v5 l5
        have a5 := hS.get 5 21 rfl l5 e5
        have n7 : L 7 = false := by rcases h : L 7 with _ | _; (· rfl); (· have := (d7 h).2; simp [hL] at this)
        clear hS ho hA
        go_simp
        exact hK _ _ ⟨fun h => (yy h).trans (Y.of_x ((X.refl W).alloc _)), fun h k => (r0 h k).x ((X.refl W).alloc _), fun h => (r1 h).x ((X.refl W).alloc _), fun h => ⟨(d7 h).1, rfl⟩, fun _ => l5, d5, d4, d9, v0, v1, v2, fun _ h => Bool.noConfusion (l4.symm.trans h), v4, v5, fun _ => ⟨r, _, rfl, fun _ => heap_alloc_new _ _⟩, fun h => Bool.noConfusion (n7.symm.trans h), v8, fun h => Bool.noConfusion (n7.symm.trans (d9 h))⟩
      · have l1 : L 1 = true := hA ⟨1, .data⟩ (by simp) rfl
        have l6 : L 6 = true := hA ⟨6, .data⟩ (by simp) rfl
        have l4 := d5 (d6 l6)
        obtain ⟨r, gl, e6, hgl⟩ := v6 l6
        refine unwantS (E := True) (by exact rfl) (step_append_t (ops := #[]) dir_T' rfl _ _ rfl (X.refl W) (own_fr hrow3 ((yy hL).fr.mono (by omega))) ((hS.eval_on 1 17 rfl l1).trans (v1 l1)) ((hS.eval_on 6 22 rfl l6).trans e6) (hgl hL) rfl (by simp [Value.oneCell']) (by omega) (by omega) (by have := (yy hL).size; omega) ?_)
        intro a8 c8 w8 hO8 hg8
        obtain ⟨g8, rfl, _, _⟩ := own_form hO8 (by omega)
        exact hK _ w8 ⟨fun h => Bool.noConfusion h, fun _ h => Bool.noConfusion h, fun h => Bool.noConfusion h, fun _ => ⟨l1, l6⟩, d6, d5, d4, fun _ => rfl, v0, v1, v2, fun _ h => Bool.noConfusion (l4.symm.trans h), v4, v5, fun h => let ⟨r, g, e, _⟩ := v6 h; ⟨r, g, e, fun h => Bool.noConfusion h⟩, fun _ _ => ⟨r, g8, c8, W, rfl, yy hL, r1 hL, own_fr hrow3 ((yy hL).fr.mono (by omega)), hO8, hg8⟩, v8, fun h => Bool.noConfusion (hL.symm.trans (d9 h))⟩
      · have a0 := hS.old 3 (by kernel_rfl) rfl
        clear hS ho hA
        go_simp
        exact hK _ W ⟨yy, r0, r1, d7, d6, d5, d4, d9, v0, v1, v2, v3, v4, v5, v6, ap, fun _ => rfl, fin⟩
      · have l8 : L 8 = true := hA ⟨8, .data⟩ (by simp) rfl
        have l7 : L 7 = true := hA ⟨7, .data⟩ (by simp) rfl
        have l4 := d5 (d6 (d7 l7).2)
        have a8 := hS.get 8 24 rfl l8 (v8 l8)
        obtain ⟨r, g8, c8, w7, e7, hq1, hq2, hq3, hq4, hq5⟩ := ap l7 hL
        have a7 := hS.get 7 23 rfl l7 e7
        obtain ⟨lt, ct, ft⟩ := Bx.out ⟨_, at_grown (hT3.y hq1 hneb) hq5 (own_ne_at hq3 (hT3.y hq1 hneb) (by decide))⟩
        have e2 := ct 2
        clear ct
        clear hS ho hA
        go_simp
        exact hK undef _ ⟨fun h => Bool.noConfusion (l7.symm.trans h), fun _ h => Bool.noConfusion (l7.symm.trans h), fun h => Bool.noConfusion (l7.symm.trans h), d7, d6, d5, d4, fun _ => l7, v0, v1, v2, fun _ h => Bool.noConfusion (l4.symm.trans h), v4, v5, fun h => let ⟨r, g, e, _⟩ := v6 h; ⟨r, g, e, fun h => Bool.noConfusion (l7.symm.trans h)⟩, fun _ h => Bool.noConfusion h, v8, fun _ => ⟨r, g8, c8, w7, W, rfl, hq1, hq2, hq3, hq4, hq5⟩⟩
    intro v W5 hI
    obtain ⟨yy, r0, r1, d7, d6, d5, d4, d9, v0, v1, v2, v3, v4, v5, v6, ap, v8, fin⟩ := hI
    obtain ⟨r, g8, c8, w7, w8, hWe, hq1, hq2, hq3, hq4, hq5⟩ := fin rfl
    clear fin yy r0 r1 d7 d6 d5 d4 d9 v0 v1 v2 v3 v4 v5 v6 ap v8
    simp only [putL, List.foldl, List.setIfInBounds_toArray, List.set_cons_zero, List.set_cons_succ]
    have T7 := hT3.y hq1 hneb
    have T8 : Tk w8 w1.heap.size #[.slice a n c, .int .i64 kk, .slice da vs.length dc] := at_grown T7 hq5 (own_ne_at hq3 T7 (by decide))
    have R7 := hR3.y hq1 hneR
    have R8 : Tk w8 w.heap.size #[.slice none 0 0, .int .i64 0, .slice none 0 0] := at_grown R7 hq5 (own_ne_at hq3 R7 (by decide))
    have D7 : DirsV w7 w.heap.size da dc vs := DirsV.fr ⟨hrow3, hsep3, hbod3⟩ (hq1.fr.mono (by omega))
    have D8 := DirsV.snoc (d := ⟨r, [], 0, []⟩) (ba := none) (bc := 0) D7 hq4 hq5 ⟨rfl, .inl ⟨rfl, rfl⟩⟩ (fun x _ => .inl rfl)
    have F8 := (hV3.1.fr (hq1.fr.mono (by omega))).grownD hq5 hq3
    have y8 : Y rb w w8 := (hyw.trans hq1).grown hq5 (fun k hk => by have := (hq3.lt k hk).1; omega)
    have r8 : Rdr w8 rb (mm + 1) := hq2.grown hq5 (fun k hk => by have := (hq3.lt k hk).1; omega)
    have V8 : AnV w8 w.heap.size a n c (some ⟨g8, 0, none⟩) (vs.length + 1) c8 l (vs.map (·.1) ++ [⟨r, [], 0, []⟩]) := by
      refine ⟨F8, ?_, hV3.2.2.1, ?_, hV3.2.2.2.2.1, ?_⟩
      · have := D8.o
        simpa using this
      · rw [hvl]
        exact okD_snoc hV3.2.2.2.1 (by rw [← hvl, List.length_map]; omega)
      · omega
    have T5 : Tk W5 w1.heap.size #[.slice a n c, .int .i64 kk, .slice (some ⟨g8, 0, none⟩) (vs.length + 1) c8] := by rw [hWe]; exact T8.set2 _
    have R5 : Tk W5 w.heap.size #[.slice none 0 0, .int .i64 0, .slice none 0 0] := by rw [hWe]; exact R8.far (by show w.heap.size ≠ w1.heap.size; omega) _
    have V5 := V8.far T8 (by decide) (by decide) (by decide) (by decide) 2 (.slice (some ⟨g8, 0, none⟩) (vs.length + 1) c8)
    rw [← hWe] at V5
    have r5 : Rdr W5 rb (mm + 1) := by rw [hWe]; exact Rdr.set2 r8 (by show rb < w1.heap.size; omega) _
    have y5 : Y rb w W5 := by rw [hWe]; exact Y.set2 (p := ⟨w1.heap.size, 2, none⟩) y8 (by show w.heap.size ≤ w1.heap.size; omega) _
    clear hWe T7 T8 R7 R8 D7 D8 F8 y8 r8 V8 hq1 hq2 hq3 hq4 hq5 hT3 hR3 hV3 hr3 hyw hrow3 hsep3 hbod3
    obtain ⟨lb, cb, _⟩ := T5.bx.out
    have b0 := cb 0
    have b1 := cb 1
    have b2 := cb 2
    obtain ⟨lr, cr, fr⟩ := R5.bx.out
    have fr0 := fr 0
    have fr1 := fr 1
    have fr2 := fr 2
    have r0 := cr 0
    have r1 := cr 1
    have r2 := cr 2
    clear cb cr fr
    go_wp2
    refine bodyPost_row Tryd.results22 rfl (Bx.set (Bx.set (Bx.set R5.bx 0 _) 1 _) 2 _) disk_S rfl rfl ?_
    exact ⟨_, _, _, _, _, _, _, _, _, rfl, V5.set3 R5 _ _ _, (rdr_set3 r5 (by omega) _ _ _).weak (by omega) (by omega), y_set3 y5 (Nat.le_refl _) _ _ _⟩
  · have hk0' : ¬ (k : Int) = 0 := by omega
    have hk1' : ¬ (k : Int) = 1 := by omega
    go_upto_region 7 with fail
    refine wp_name (fun W5 hW5 => ?_)
    have hX5 : X W3 W5 := by rw [hW5]; (repeat (first | with_reducible exact X.refl _ | with_reducible assumption | with_reducible refine X.setCell ?_ (by first | (simp; done) | (simp; omega)) _ | with_reducible refine X.ext ?_ _ | with_reducible refine X.alloc ?_ _ | with_reducible refine X.drew ?_))
    clear hW5
    have T5 := hT3.x hX5
    have R5 := hR3.x hX5
    have V5 := hV3.fr (hX5.fr _)
    have r5 := hr3.x hX5
    have y5 := hyw.trans (Y.of_x hX5)
    clear hT3 hR3 hV3 hr3 hyw hX5
    obtain ⟨lb, cb, _⟩ := T5.bx.out
    have b0 := cb 0
    have b1 := cb 1
    have b2 := cb 2
    obtain ⟨lr, cr, fr⟩ := R5.bx.out
    have fr0 := fr 0
    have fr1 := fr 1
    have fr2 := fr 2
    have r0 := cr 0
    have r1 := cr 1
    have r2 := cr 2
    clear cb cr fr
    go_wp2
    refine bodyPost_row Tryd.results22 rfl (Bx.set (Bx.set (Bx.set R5.bx 0 _) 1 _) 2 _) disk_S rfl rfl ?_
    exact ⟨_, _, _, _, _, _, _, _, _, rfl, V5.set3 R5 _ _ _, (rdr_set3 r5 (by omega) _ _ _).weak (by omega) (by omega), y_set3 y5 (Nat.le_refl _) _ _ _⟩

end Go.Proofs.YtgjfjjhmgbemcaaDoor
