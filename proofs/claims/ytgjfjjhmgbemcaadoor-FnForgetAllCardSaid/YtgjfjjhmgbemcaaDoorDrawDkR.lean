/- The arguments of DiskRemove, as they are generated. No condition. -/
import Derived.Test.YtgjfjjhmgbemcaaDoorAnyDisk
namespace Go.Proofs.YtgjfjjhmgbemcaaDoor
open Go.RowKit

theorem CodeAt.xD {w w' : World} {ca : Option Addr} {cn cc : Nat} (h : CodeAt w ca cn cc) (hx : X w w') : CodeAt w' ca cn cc :=
  ⟨h.1, fun h0 => by
    obtain ⟨b, off, h1, h2, h3⟩ := h.2 h0
    exact ⟨b, off, h1, Nat.lt_of_lt_of_le h2 hx.size, fun i hi => by
      obtain ⟨v, hv, hc⟩ := h3 i hi
      exact ⟨v, hv, (hx.cell (p := ⟨b, off + i, none⟩) h2).trans hc⟩⟩⟩
theorem anv_cap {w : World} {B n c : Nat} {a : Option Addr} {l : List Fi} (h : FilesO w B a n c l) : n ≤ c := by obtain ⟨_, _, _, hr, _⟩ := h; exact own_cap hr
theorem anv_capD {w : World} {B n c : Nat} {a : Option Addr} {l : List Di} (h : DirsO w B a n c l) : n ≤ c := by obtain ⟨_, _, _, hr, _⟩ := h; exact own_cap hr
/-- What is drawn: a disk, two numbers. -/
def DrawnDR (w w' : World) (e : Ending) : Prop := ∃ (l : List Fi) (a : Option Addr) (n c : Nat) (kk : Int) (dl : List Di) (da : Option Addr) (dn dc : Nat) (i t : Int),
  e = .returned (.tuple #[.agg #[.slice a n c, .int .i64 kk, .slice da dn dc], .int .i64 i, .int .i64 t]) ∧ FilesAt w' w.heap.size a n l ∧ n ≤ c ∧ n ≤ 12 ∧ DirsAt w' w.heap.size da dn dl ∧ dn ≤ dc ∧ dn ≤ 21 ∧ X w w'
set_option maxRecDepth 100000 in
set_option maxHeartbeats 4000000 in
theorem DrawDiskRemove_c (ca : Option Addr) (cn cc : Nat) (w : World) (hC : CodeAt w ca cn cc) (hn : cn ≤ 1048576) :
    Calls Tryd.prog 6 #[.slice ca cn cc] w fun e w' => DrawnDR w w' e := by
  go_enter Tryd.func6, Tryd.ntmps6
  go_wp2_with fail
  refine calls_name (fun W0 hW0 => ?_)
  have hR0 : Tk W0 w.heap.size #[.slice none 0 0, .int .i64 0, .slice none 0 0] := by rw [hW0]; exact heap_alloc_new _ _
  have hX0 : X w W0 := by rw [hW0]; (repeat (first | with_reducible exact X.refl _ | with_reducible assumption | with_reducible refine X.setCell ?_ (by first | (simp; done) | (simp; omega)) _ | with_reducible refine X.ext ?_ _ | with_reducible refine X.alloc ?_ _ | with_reducible refine X.drew ?_))
  clear hW0
  have hC0 := hC.xD hX0
  refine (newReader_c ca cn cc _ hC0.1 hC0.2 hn).mono ?_
  rintro _ w1 ⟨rfl, hr, hx⟩
  obtain ⟨rb, hrb⟩ : ∃ rb, W0.heap.size = rb := ⟨_, rfl⟩
  rw [hrb] at hr ⊢
  have hy : Y rb w w1 := Y.of_x (hX0.trans hx)
  have hlR := hR0.bx.lt
  replace hR0 := hR0.x hx
  have hlt := hr.lt
  have hwr : w.heap.size < rb := by omega
  have hneR : w.heap.size ≠ rb := by omega
  clear hx hX0 hC0 hrb
  go_wp2_with fail
  refine (anyDisk_c rb _ _ hr (by omega)).mono ?_
  rintro _ w2 ⟨a, n, c, kk, da, dn, dc, l, dl, rfl, hV, hr2, hy2⟩
  replace hR0 := hR0.y hy2 hneR
  replace hV := hV.less (B' := rb + 1) (by omega)
  have hz2 := hy2.size
  replace hy := hy.trans hy2
  clear hr hy2
  have hneb : w2.heap.size ≠ rb := by omega
  go_upto_region 3 with fail
  refine wp_name (fun W3 hW3 => ?_)
  have hB3 : Tk W3 w2.heap.size #[.slice a n c, .int .i64 kk, .slice da dn dc] := by
    rw [hW3]
    first
      | exact heap_alloc_new _ _
      | exact Tk.set3 (heap_alloc_new _ _) _ _ _
  have hX3 : X w2 W3 := by rw [hW3]; (repeat (first | with_reducible exact X.refl _ | with_reducible assumption | with_reducible refine X.setCell ?_ (by first | (simp; done) | (simp; omega)) _ | with_reducible refine X.ext ?_ _ | with_reducible refine X.alloc ?_ _ | with_reducible refine X.drew ?_))
  clear hW3
  have hR3 := hR0.x hX3
  have hV3 := hV.fr (hX3.fr _)
  have hr3 := hr2.x hX3
  have hz3 := hX3.size
  replace hy := hy.trans (Y.of_x hX3)
  clear hX3 hR0 hV hr2
  have hn12 := hV3.2.2.2.2.1
  obtain ⟨mm, hmm, hr3⟩ : ∃ mm, mm ≤ 810 ∧ Rdr W3 rb mm := ⟨_, by omega, hr3⟩
  have hwrap : IntKind.i64.wrap ((n : Int) + 1) = (n : Int) + 1 := IntWalk.i64_in _ (by omega)
  go_wp2
  refine wp_region_inv (fun L v W => (L 14 = false → Y rb W3 W)
      ∧ (L 8 = false → L 14 = false → Rdr W rb mm)
      ∧ (L 10 = false → L 14 = false → Rdr W rb (mm + 1))
      ∧ (L 13 = false → L 14 = false → Rdr W rb (mm + 2))
      ∧ (L 14 = true → L 0 = true ∧ L 13 = true)
      ∧ (L 13 = true → L 10 = true ∧ L 12 = true)
      ∧ (L 10 = true → L 9 = true)
      ∧ (L 8 = true → L 7 = true)
      ∧ (L 7 = true → L 6 = true)
      ∧ (L 6 = true → L 5 = true)
      ∧ (L 0 = true → v 0 = .agg #[.slice a n c, .int .i64 kk, .slice da dn dc])
      ∧ (L 1 = true → v 1 = .pointer (some ⟨rb, 0, none⟩))
      ∧ (L 2 = true → v 2 = .pointer (some ⟨rb, 0, none⟩))
      ∧ (L 3 = true → v 3 = .pointer (some ⟨w2.heap.size, 0, none⟩))
      ∧ (L 4 = true → v 4 = .pointer (some ⟨w2.heap.size, 0, none⟩))
      ∧ (L 5 = true → v 5 = .slice a n c)
      ∧ (L 6 = true → v 6 = .int .i64 (n : Int))
      ∧ (L 7 = true → v 7 = .int .i64 ((n : Int) + 1))
      ∧ (L 8 = true → ∃ x, v 8 = .int .i64 x)
      ∧ (L 9 = true → L 10 = false → ∃ p q, v 9 = .slice p 3 3 ∧ IntsAt W (rb + 1) p 3 q)
      ∧ (L 9 = true → L 8 = true)
      ∧ (L 10 = true → ∃ x, v 10 = .int .i64 x)
      ∧ (L 11 = true → v 11 = .pointer (some ⟨rb, 0, none⟩))
      ∧ (L 12 = true → L 13 = false → ∃ p, v 12 = .slice p 4 4 ∧ IntsAt W (rb + 1) p 4 [1, 0, 2, -1])
      ∧ (L 13 = true → ∃ x, v 13 = .int .i64 x)
      ∧ (L 15 = true → ∃ x, v 15 = .int .i64 x)
      ∧ (L 16 = true → ∃ x, v 16 = .int .i64 x)
      ∧ (L 14 = true → ∃ w4, Y rb W3 w4 ∧ W = (((w4.setCell ⟨w.heap.size, 0, none⟩ (.slice a n c)).setCell ⟨w.heap.size, 1, none⟩ (.int .i64 kk)).setCell ⟨w.heap.size, 2, none⟩ (.slice da dn dc)))) (by kernel_rfl) (by kernel_rfl) ?_ ?_ (l := [(11, 0), (12, 1), (13, 2), (14, 3), (15, 4), (16, 5), (17, 6), (18, 7), (19, 8), (20, 9), (21, 10), (22, 11), (23, 12), (24, 13), (3, 15), (4, 16)]) (by kernel_rfl) (n := 17) rfl ?_
  · intro v
    exact ⟨fun _ => (Y.refl _ _).drewY, fun _ _ => hr3.drewY, fun _ _ => hr3.drewY.weak (by omega) (by omega), fun _ _ => hr3.drewY.weak (by omega) (by omega), fun h => Bool.noConfusion h, fun h => Bool.noConfusion h, fun h => Bool.noConfusion h, fun h => Bool.noConfusion h, fun h => Bool.noConfusion h, fun h => Bool.noConfusion h, fun h => Bool.noConfusion h, fun h => Bool.noConfusion h, fun h => Bool.noConfusion h, fun h => Bool.noConfusion h, fun h => Bool.noConfusion h, fun h => Bool.noConfusion h, fun h => Bool.noConfusion h, fun h => Bool.noConfusion h, fun h => Bool.noConfusion h, fun h => Bool.noConfusion h, fun h => Bool.noConfusion h, fun h => Bool.noConfusion h, fun h => Bool.noConfusion h, fun h => Bool.noConfusion h, fun h => Bool.noConfusion h, fun h => Bool.noConfusion h, fun h => Bool.noConfusion h, fun h => Bool.noConfusion h⟩
  · intro i hi
    have hi' : i = 0 ∨ i = 1 ∨ i = 2 ∨ i = 3 ∨ i = 4 ∨ i = 5 ∨ i = 6 ∨ i = 7 ∨ i = 8 ∨ i = 9 ∨ i = 10 ∨ i = 11 ∨ i = 12 ∨ i = 13 ∨ i = 14 ∨ i = 15 ∨ i = 16 := by
      have : i < 17 := hi
      omega
    clear hi
    rcases hi' with rfl | rfl | rfl | rfl | rfl | rfl | rfl | rfl | rfl | rfl | rfl | rfl | rfl | rfl | rfl | rfl | rfl
    all_goals
      intro o ho L v aa W hI hS hL hA K hK
      cases (show some _ = some o from ho)
      obtain ⟨yy, ra, rb1, rc1, dS, d13, d10, d8, d7, d6, v0, v1, v2, v3, v4, v5, v6, v7, v8, v9, d9, v10, v11, v12, v13, v15, v16, fin⟩ := hI
    · have a0 := hS.old 6 (by kernel_rfl) rfl
      have nS : L 14 = false := by rcases h : L 14 with _ | _; (· rfl); (· have := (dS h).1; simp [hL] at this)
      obtain ⟨lD, cd, _⟩ := (hB3.bx.y (yy nS) hneb).out
      have d0 := cd 0
      have d1 := cd 1
      have d2 := cd 2
      clear cd
      clear hS ho hA
      go_simp
      exact hK _ W ⟨yy, ra, rb1, rc1, fun h => ⟨rfl, (dS h).2⟩, d13, d10, d8, d7, d6, fun _ => rfl, v1, v2, v3, v4, v5, v6, v7, v8, v9, d9, v10, v11, v12, v13, v15, v16, fin⟩
    · have a0 := hS.old 5 (by kernel_rfl) rfl
      clear hS ho hA
      go_simp
      exact hK _ W ⟨yy, ra, rb1, rc1, dS, d13, d10, d8, d7, d6, v0, fun _ => rfl, v2, v3, v4, v5, v6, v7, v8, v9, d9, v10, v11, v12, v13, v15, v16, fin⟩
    · have a0 := hS.old 5 (by kernel_rfl) rfl
      clear hS ho hA
      go_simp
      exact hK _ W ⟨yy, ra, rb1, rc1, dS, d13, d10, d8, d7, d6, v0, v1, fun _ => rfl, v3, v4, v5, v6, v7, v8, v9, d9, v10, v11, v12, v13, v15, v16, fin⟩
    · have a0 := hS.old 6 (by kernel_rfl) rfl
      clear hS ho hA
      go_simp
      exact hK _ W ⟨yy, ra, rb1, rc1, dS, d13, d10, d8, d7, d6, v0, v1, v2, fun _ => rfl, v4, v5, v6, v7, v8, v9, d9, v10, v11, v12, v13, v15, v16, fin⟩
    · have l3 : L 3 = true := hA ⟨3, .data⟩ (by simp) rfl
      have a3 := hS.get 3 14 rfl l3 (v3 l3)
      clear hS ho hA
      go_simp
      exact hK _ W ⟨yy, ra, rb1, rc1, dS, d13, d10, d8, d7, d6, v0, v1, v2, v3, fun _ => rfl, v5, v6, v7, v8, v9, d9, v10, v11, v12, v13, v15, v16, fin⟩
    · have l4 : L 4 = true := hA ⟨4, .data⟩ (by simp) rfl
      have a4 := hS.get 4 15 rfl l4 (v4 l4)
      have nS : L 14 = false := by rcases h : L 14 with _ | _; (· rfl); (· have := d6 (d7 (d8 (d9 (d10 (d13 (dS h).2).1)))); simp [hL] at this)
      obtain ⟨lD, cd, _⟩ := (hB3.bx.y (yy nS) hneb).out
      have d0 := cd 0
      have d1 := cd 1
      have d2 := cd 2
      clear cd
      clear hS ho hA
      go_simp
      exact hK _ W ⟨yy, ra, rb1, rc1, dS, d13, d10, d8, d7, fun _ => rfl, v0, v1, v2, v3, v4, fun _ => rfl, v6, v7, v8, v9, d9, v10, v11, v12, v13, v15, v16, fin⟩
    · have l5 : L 5 = true := hA ⟨5, .data⟩ (by simp) rfl
      have a5 := hS.get 5 16 rfl l5 (v5 l5)
      clear hS ho hA
      go_simp
      exact hK _ W ⟨yy, ra, rb1, rc1, dS, d13, d10, d8, fun _ => rfl, fun _ => l5, v0, v1, v2, v3, v4, v5, fun _ => rfl, v7, v8, v9, d9, v10, v11, v12, v13, v15, v16, fin⟩
    · have l6 : L 6 = true := hA ⟨6, .data⟩ (by simp) rfl
      have a6 := hS.get 6 17 rfl l6 (v6 l6)
      clear hS ho hA
      go_simp
      exact hK _ W ⟨yy, ra, rb1, rc1, dS, d13, d10, fun _ => rfl, fun _ => l6, d6, v0, v1, v2, v3, v4, v5, v6, fun _ => rfl, v8, v9, d9, v10, v11, v12, v13, v15, v16, fin⟩
    · have l2 : L 2 = true := hA ⟨2, .data⟩ (by simp) rfl
      have l7 : L 7 = true := hA ⟨7, .data⟩ (by simp) rfl
      have a2 := hS.get 2 13 rfl l2 (v2 l2)
      have a7 := hS.get 7 18 rfl l7 (v7 l7)
      have nS : L 14 = false := by rcases h : L 14 with _ | _; (· rfl); (· have := d9 (d10 (d13 (dS h).2).1); simp [hL] at this)
      clear hS ho hA
      go_simp
      refine (pick_c rb mm _ W (ra hL nS) (by omega) (by omega)).mono ?_
      rintro _ w' ⟨k, rfl, hk, hr, hy⟩
      exact hK _ w' ⟨fun h => (yy h).trans hy, fun h => Bool.noConfusion h, fun _ _ => hr, fun _ _ => hr.weak (by omega) (by omega), dS, d13, d10, fun _ => l7, d7, d6, v0, v1, v2, v3, v4, v5, v6, v7, fun _ => ⟨_, rfl⟩, fun h => Bool.noConfusion (hL.symm.trans (d9 h)), fun _ => rfl, v10, v11, fun h k => let ⟨p, e, hI⟩ := v12 h k; ⟨p, e, hI.mono hy.fr⟩, v13, v15, v16, fun h => Bool.noConfusion (nS.symm.trans h)⟩
    · have l8 : L 8 = true := hA ⟨8, .data⟩ (by simp) rfl
      obtain ⟨x8, e8⟩ := v8 l8
      have a8 := hS.get 8 19 rfl l8 e8
      have nS : L 14 = false := by rcases h : L 14 with _ | _; (· rfl); (· have := d10 (d13 (dS h).2).1; simp [hL] at this)
      have hsz := (yy nS).size
      clear hS ho hA
      go_simp
      exact hK _ _ ⟨fun h => (yy h).trans (Y.of_x ((X.refl W).alloc _)), fun h k => (ra h k).x ((X.refl W).alloc _), fun h k => (rb1 h k).x ((X.refl W).alloc _), fun h k => (rc1 h k).x ((X.refl W).alloc _), dS, d13, fun _ => rfl, d8, d7, d6, v0, v1, v2, v3, v4, v5, v6, v7, v8, fun _ _ => ⟨_, [0, x8, -1], rfl, ints_lit rfl (by omega) rfl rfl (by simp)⟩, fun _ => l8, v10, v11, fun h k => let ⟨p, e, hI⟩ := v12 h k; ⟨p, e, hI.mono (((X.refl W).alloc _).fr _)⟩, v13, v15, v16, fun h => Bool.noConfusion (nS.symm.trans h)⟩
    · have l1 : L 1 = true := hA ⟨1, .data⟩ (by simp) rfl
      have l9 : L 9 = true := hA ⟨9, .data⟩ (by simp) rfl
      have a1 := hS.get 1 12 rfl l1 (v1 l1)
      have nS : L 14 = false := by rcases h : L 14 with _ | _; (· rfl); (· have := (d13 (dS h).2).1; simp [hL] at this)
      have l8 := d9 l9
      obtain ⟨p9, q9, e9, i9⟩ := v9 l9 hL
      have a9 := hS.get 9 20 rfl l9 e9
      clear hS ho hA
      go_simp
      refine (one_c rb (mm + 1) q9 p9 3 3 (rb + 1) W (rb1 hL nS) (by omega) i9 (by omega) (by omega)).mono ?_
      rintro _ w' ⟨x, rfl, _, hr, hy⟩
      exact hK _ w' ⟨fun h => (yy h).trans hy, fun h => Bool.noConfusion (h.symm.trans l8), fun h => Bool.noConfusion h, fun _ _ => hr, dS, fun h => ⟨rfl, (d13 h).2⟩, fun _ => l9, d8, d7, d6, v0, v1, v2, v3, v4, v5, v6, v7, v8, fun _ h => Bool.noConfusion h, d9, fun _ => ⟨_, rfl⟩, v11, fun h k => let ⟨p, e, hI⟩ := v12 h k; ⟨p, e, hI.mono hy.fr⟩, v13, v15, v16, fun h => Bool.noConfusion (nS.symm.trans h)⟩
    · have a0 := hS.old 5 (by kernel_rfl) rfl
      clear hS ho hA
      go_simp
      exact hK _ W ⟨yy, ra, rb1, rc1, dS, d13, d10, d8, d7, d6, v0, v1, v2, v3, v4, v5, v6, v7, v8, v9, d9, v10, fun _ => rfl, v12, v13, v15, v16, fin⟩
    · have nS : L 14 = false := by rcases h : L 14 with _ | _; (· rfl); (· have := (d13 (dS h).2).2; simp [hL] at this)
      have hsz := (yy nS).size
      clear hS ho hA
      go_simp
      exact hK _ _ ⟨fun h => (yy h).trans (Y.of_x ((X.refl W).alloc _)), fun h k => (ra h k).x ((X.refl W).alloc _), fun h k => (rb1 h k).x ((X.refl W).alloc _), fun h k => (rc1 h k).x ((X.refl W).alloc _), dS, fun h => ⟨(d13 h).1, rfl⟩, d10, d8, d7, d6, v0, v1, v2, v3, v4, v5, v6, v7, v8, fun h k => let ⟨p, q, e, hI⟩ := v9 h k; ⟨p, q, e, hI.mono (((X.refl W).alloc _).fr _)⟩, d9, v10, v11, fun _ _ => ⟨_, rfl, ints_lit rfl (by omega) rfl rfl (by simp)⟩, v13, v15, v16, fun h => Bool.noConfusion (nS.symm.trans h)⟩
    · have l11 : L 11 = true := hA ⟨11, .data⟩ (by simp) rfl
      have l12 : L 12 = true := hA ⟨12, .data⟩ (by simp) rfl
      have l10 : L 10 = true := hA ⟨10, .chain⟩ (by simp) rfl
      have a11 := hS.get 11 22 rfl l11 (v11 l11)
      have nS : L 14 = false := by rcases h : L 14 with _ | _; (· rfl); (· have := (dS h).2; simp [hL] at this)
      have l8 := d9 (d10 l10)
      obtain ⟨p12, e12, i12⟩ := v12 l12 hL
      have a12 := hS.get 12 23 rfl l12 e12
      clear hS ho hA
      go_simp
      refine (one_c rb (mm + 2) [1, 0, 2, -1] p12 4 4 (rb + 1) W (rc1 hL nS) (by omega) i12 (by omega) (by omega)).mono ?_
      rintro _ w' ⟨x, rfl, _, hr, hy⟩
      exact hK _ w' ⟨fun h => (yy h).trans hy, fun h => Bool.noConfusion (h.symm.trans l8), fun h => Bool.noConfusion (h.symm.trans l10), fun h => Bool.noConfusion h, fun h => ⟨(dS h).1, rfl⟩, fun _ => ⟨l10, l12⟩, d10, d8, d7, d6, v0, v1, v2, v3, v4, v5, v6, v7, v8, fun _ h => Bool.noConfusion (h.symm.trans l10), d9, v10, v11, fun _ h => Bool.noConfusion h, fun _ => ⟨_, rfl⟩, v15, v16, fun h => Bool.noConfusion (nS.symm.trans h)⟩
    · have l0 : L 0 = true := hA ⟨0, .data⟩ (by simp) rfl
      have l13 : L 13 = true := hA ⟨13, .chain⟩ (by simp) rfl
      have l10 := (d13 l13).1
      have l8 := d9 (d10 l10)
      have nS := hL
      have a0 := hS.get 0 11 rfl l0 (v0 l0)
      have aR := hS.old 2 (by kernel_rfl) rfl
      obtain ⟨lb, cb, fb0⟩ := (hR3.bx.y (yy hL) hneR).out
      have f0 := fb0 0
      have f1 := fb0 1
      have f2 := fb0 2
      have c0 := cb 0
      have c1 := cb 1
      have c2 := cb 2
      clear fb0 cb
      clear hS ho hA
      go_simp
      exact hK undef _ ⟨fun h => Bool.noConfusion h, fun h => Bool.noConfusion (h.symm.trans l8), fun h => Bool.noConfusion (h.symm.trans l10), fun h => Bool.noConfusion (h.symm.trans l13), fun _ => ⟨l0, l13⟩, d13, d10, d8, d7, d6, v0, v1, v2, v3, v4, v5, v6, v7, v8, fun _ h => Bool.noConfusion (h.symm.trans l10), d9, v10, v11, fun _ h => Bool.noConfusion (h.symm.trans l13), v13, v15, v16, fun _ => ⟨W, yy hL, rfl⟩⟩
    · have l10 : L 10 = true := hA ⟨10, .data⟩ (by simp) rfl
      obtain ⟨x10, e10⟩ := v10 l10
      have a10 := hS.get 10 21 rfl l10 e10
      clear hS ho hA
      go_simp
      exact hK _ W ⟨yy, ra, rb1, rc1, dS, d13, d10, d8, d7, d6, v0, v1, v2, v3, v4, v5, v6, v7, v8, v9, d9, v10, v11, v12, v13, fun _ => ⟨_, rfl⟩, v16, fin⟩
    · have l13 : L 13 = true := hA ⟨13, .data⟩ (by simp) rfl
      obtain ⟨x13, e13⟩ := v13 l13
      have a13 := hS.get 13 24 rfl l13 e13
      clear hS ho hA
      go_simp
      exact hK _ W ⟨yy, ra, rb1, rc1, dS, d13, d10, d8, d7, d6, v0, v1, v2, v3, v4, v5, v6, v7, v8, v9, d9, v10, v11, v12, v13, v15, fun _ => ⟨_, rfl⟩, fin⟩
  intro v W5 hI
  obtain ⟨yy, ra, rb1, rc1, dS, d13, d10, d8, d7, d6, v0, v1, v2, v3, v4, v5, v6, v7, v8, v9, d9, v10, v11, v12, v13, v15, v16, fin⟩ := hI
  obtain ⟨w4, hy4, hWe⟩ := fin rfl
  obtain ⟨i15, e15⟩ := v15 rfl
  obtain ⟨i16, e16⟩ := v16 rfl
  clear fin yy ra rb1 rc1 dS d13 d10 d9 d8 d7 d6 v0 v1 v2 v3 v4 v5 v6 v7 v8 v9 v10 v11 v12 v13 v15 v16
  simp only [putL, List.foldl, List.setIfInBounds_toArray, List.set_cons_zero, List.set_cons_succ, e15, e16]
  clear e15 e16
  have hR4 := hR3.y hy4 hneR
  have hV5 : AnV W5 (rb + 1) a n c da dn dc l dl := by rw [hWe]; exact (hV3.fr hy4.fr).set3 hR4 _ _ _
  have hR5 : Tk W5 w.heap.size #[.slice a n c, .int .i64 kk, .slice da dn dc] := by rw [hWe]; exact hR4.set3 _ _ _
  have y5 : Y rb w W5 := by rw [hWe]; exact y_set3 (hy.trans hy4) (Nat.le_refl _) _ _ _
  clear hWe hR4 hR3 hV3 hB3 hr3 hy hy4
  go_wp2
  obtain ⟨_, cr, _⟩ := hR5.bx.out
  have r0 := cr 0
  have r1 := cr 1
  have r2 := cr 2
  clear cr
  refine bodyPost_ret (v := .tuple #[.agg #[.slice a n c, .int .i64 kk, .slice da dn dc], .int .i64 i15, .int .i64 i16]) (by simp [results, Tryd.results6, go_sem, Result.andThen, r0, r1, r2]) rfl ?_
  obtain ⟨v1, v2, v3, v4, v5, v6⟩ := hV5
  exact ⟨l, a, n, c, kk, dl, da, dn, dc, i15, i16, rfl, (v1.at v3).less (by omega), anv_cap v1, v5, (v2.at v4).less (by omega), anv_capD v2, v6, Y.x y5 (by omega)⟩

end Go.Proofs.YtgjfjjhmgbemcaaDoor
