/- The generators of finders that may be invalid. No condition but that the reader has not read too far. -/
import Derived.Test.YtgjfjjhmgbemcaaDoorFilO
import Derived.Test.YtgjfjjhmgbemcaaDoorDrawDkR
namespace Go.Proofs.YtgjfjjhmgbemcaaDoor
open Go.RowKit

/-- A finder's directories that are drawn. -/
def AnF (w : World) (B : Nat) (a : Option Addr) (n c : Nat) (fl : List Di) : Prop := DirsO w B a n c fl ∧ OkD fl ∧ n ≤ 21
theorem AnF.fr {w w' : World} {B n c : Nat} {a : Option Addr} {fl : List Di} (h : AnF w B a n c fl) (hx : Fr B w w') : AnF w' B a n c fl := ⟨h.1.fr hx, h.2⟩
theorem AnF.less {w : World} {B B' n c : Nat} {a : Option Addr} {fl : List Di} (h : AnF w B a n c fl) (hB : B' ≤ B) : AnF w B' a n c fl := ⟨h.1.less hB, h.2⟩
theorem AnF.far {w : World} {B n c b : Nat} {a : Option Addr} {l : List Di} {cs : Array Value} {t : TypeId} (h : AnF w B a n c l) (hb : w.heap[b]? = some (.cells cs t (0, 0))) (h1 : 71 ≠ t) (h2 : 9 ≠ t) (i : Nat) (u : Value) : AnF (w.setCell ⟨b, i, none⟩ u) B a n c l := ⟨h.1.far hb h1 h2 i u, h.2⟩
theorem AnF.set3t {t : TypeId} {w : World} {B n c b : Nat} {a : Option Addr} {l : List Di} {z0 z1 z2 : Value} (h : AnF w B a n c l) (hT : Tb t w b #[z0, z1, z2]) (h1 : 71 ≠ t) (h2 : 9 ≠ t) (v0 v1 v2 : Value) : AnF (((w.setCell ⟨b, 0, none⟩ v0).setCell ⟨b, 1, none⟩ v1).setCell ⟨b, 2, none⟩ v2) B a n c l :=
  ((h.far hT h1 h2 0 v0).far (heap_set1 hT) h1 h2 1 v1).far (heap_set2 hT) h1 h2 2 v2
theorem FdV.any {w : World} {B n c : Nat} {fi hi : Int} {a : Option Addr} {fl : List Di} (h : FdV w B a n c fi hi fl) : AnF w B a n c fl := ⟨h.1, h.2.1, by have := h.2.2.1; omega⟩
set_option maxRecDepth 100000 in
set_option maxHeartbeats 8000000 in
theorem anyFinder_c (rb m : Nat) (w : World) (hr : Rdr w rb m) (hm : m + 810 ≤ 1000000000) :
    Calls Tryd.prog 40 #[.pointer (some ⟨rb, 0, none⟩)] w fun e w' => ∃ fl fa fn fc fi hi a n c kk da dn dc, e = .returned (.tuple #[.agg #[.slice fa fn fc, .int .i64 fi, .int .i64 hi], .agg #[.slice a n c, .int .i64 kk, .slice da dn dc]]) ∧ AnF w' w.heap.size fa fn fc fl ∧ Y rb w w' := by
  have hlt := hr.lt
  go_enter Tryd.func40, Tryd.ntmps40
  go_wp2_with fail
  refine calls_name (fun W0 hW0 => ?_)
  have hR0 : Tf W0 w.heap.size #[.slice none 0 0, .int .i64 0, .int .i64 0] := by rw [hW0]; exact (tb_new w 44 _ rfl).x ((X.refl _).alloc _)
  have hS0 : Tk W0 (w.heap.size + 1) #[.slice none 0 0, .int .i64 0, .slice none 0 0] := by rw [hW0]; exact tb_new _ 28 _ (by simp)
  have hX0 : X w W0 := by rw [hW0]; (repeat (first | with_reducible exact X.refl _ | with_reducible assumption | with_reducible refine X.setCell ?_ (by first | (simp; done) | (simp; omega)) _ | with_reducible refine X.ext ?_ _ | with_reducible refine X.alloc ?_ _ | with_reducible refine X.drew ?_))
  have hz0 : W0.heap.size = w.heap.size + 2 := by rw [hW0]; simp
  clear hW0
  refine (finderOf_c rb m W0 (hr.x hX0) (by omega)).mono ?_
  rintro _ w1 ⟨fl, fa, fn, fc, fi, hi, a, n, c, kk, da, dn, dc, rfl, hV1, hr1, hy1⟩
  have hz1 := hy1.size
  go_wp2_with fail
  refine calls_name (fun W2 hW2 => ?_)
  have hT2 : Tf W2 w1.heap.size #[.slice fa fn fc, .int .i64 fi, .int .i64 hi] := by
    rw [hW2]
    exact (tb_new w1 44 _ rfl).x ((X.refl _).alloc _)
  have hD2 : Tk W2 (w1.heap.size + 1) #[.slice a n c, .int .i64 kk, .slice da dn dc] := by
    rw [hW2]
    exact tb_new _ 28 _ (by simp)
  have hx2 : X w1 W2 := by rw [hW2]; (repeat (first | with_reducible exact X.refl _ | with_reducible assumption | with_reducible refine X.setCell ?_ (by first | (simp; done) | (simp; omega)) _ | with_reducible refine X.ext ?_ _ | with_reducible refine X.alloc ?_ _ | with_reducible refine X.drew ?_))
  clear hW2
  refine (pick_c rb _ 20 W2 (hr1.x hx2) (by omega) (by omega)).mono ?_
  rintro _ W3 ⟨k, rfl, hk, hr3, hy3⟩
  have hT3 := hT2.y hy3 (by omega)
  have hD3 := hD2.y hy3 (by omega)
  have hR3 := ((hR0.y hy1 (by omega)).x hx2).y hy3 (by omega)
  have hS3 := ((hS0.y hy1 (by omega)).x hx2).y hy3 (by omega)
  have hV3 := ((hV1.fr (hx2.fr _)).fr (hy3.fr.mono (by omega))).less (B' := w.heap.size) (by omega)
  have hyw := (((Y.of_x hX0).trans hy1).trans (Y.of_x hx2)).trans hy3
  have hz3 := hy3.size
  have hz2 := hx2.size
  obtain ⟨mm, hmm, hr3⟩ : ∃ mm, mm ≤ m + 801 ∧ Rdr W3 rb mm := ⟨_, by omega, hr3⟩
  clear hT2 hD2 hR0 hS0 hV1 hy1 hx2 hy3 hX0 hr1 hr
  by_cases hk0 : k = 0
  · subst hk0
    go_wp2_with fail
    refine (one_c rb mm [-1, 1001] _ _ _ (rb + 1) _ (hr3.x (by (repeat (first | with_reducible exact X.refl _ | with_reducible assumption | with_reducible refine X.setCell ?_ (by first | (simp; done) | (simp; omega)) _ | with_reducible refine X.ext ?_ _ | with_reducible refine X.alloc ?_ _ | with_reducible refine X.drew ?_)))) (by omega) (ints_lit (by simp) (by omega) rfl rfl (by decide)) (by omega) (by decide)).mono ?_
    rintro _ w5 ⟨h2, rfl, _, hr5, hy5⟩
    replace hy5 : Y rb W3 w5 := (Y.of_x (by (repeat (first | with_reducible exact X.refl _ | with_reducible assumption | with_reducible refine X.setCell ?_ (by first | (simp; done) | (simp; omega)) _ | with_reducible refine X.ext ?_ _ | with_reducible refine X.alloc ?_ _ | with_reducible refine X.drew ?_)))).trans hy5
    have T4 := hT3.y hy5 (by omega)
    have hz5 := hy5.size
    obtain ⟨lt, f0, f1, f2, ff0, ff1, ff2⟩ := T4.cells
    go_upto_region 9 with fail
    refine wp_name (fun W5 hW5 => ?_)
    have hT5 : Tf W5 w1.heap.size #[.slice fa fn fc, .int .i64 fi, .int .i64 h2] := by rw [hW5]; exact T4.set2 _
    have hD5 : Tk W5 (w1.heap.size + 1) #[.slice a n c, .int .i64 kk, .slice da dn dc] := by rw [hW5]; exact (hD3.y hy5 (by omega)).far (by show w1.heap.size + 1 ≠ w1.heap.size; omega) _
    have hR5 : Tf W5 w.heap.size #[.slice none 0 0, .int .i64 0, .int .i64 0] := by rw [hW5]; exact (hR3.y hy5 (by omega)).far (by show w.heap.size ≠ w1.heap.size; omega) _
    have hS5 : Tk W5 (w.heap.size + 1) #[.slice none 0 0, .int .i64 0, .slice none 0 0] := by rw [hW5]; exact (hS3.y hy5 (by omega)).far (by show w.heap.size + 1 ≠ w1.heap.size; omega) _
    have hV5 : AnF W5 w.heap.size fa fn fc fl := by rw [hW5]; exact AnF.far (t := 44) (hV3.any.fr (hy5.fr.mono (by omega))) T4 (by decide) (by decide) _ _
    replace hy5 : Y rb w W5 := by rw [hW5]; exact Y.set2 (p := ⟨w1.heap.size, 2, none⟩) (hyw.trans hy5) (by show w.heap.size ≤ w1.heap.size; omega) _
    have hz5 : W3.heap.size ≤ W5.heap.size := by rw [hW5]; simpa using hz5
    clear hW5 T4 lt f0 f1 f2 ff0 ff1 ff2 hT3 hD3 hR3 hS3 hV3 hyw
    refine wp_region_inv (fun L v W => Tf W (w1.heap.size) #[.slice fa fn fc, .int .i64 fi, .int .i64 h2]
        ∧ Tk W (w1.heap.size + 1) #[.slice a n c, .int .i64 kk, .slice da dn dc]
        ∧ AnF W w.heap.size fa fn fc fl
        ∧ Y rb w W
        ∧ (L 2 = false → Tf W w.heap.size #[.slice none 0 0, .int .i64 0, .int .i64 0])
        ∧ (L 2 = true → Tf W w.heap.size #[.slice fa fn fc, .int .i64 fi, .int .i64 h2])
        ∧ (L 3 = false → Tk W (w.heap.size + 1) #[.slice none 0 0, .int .i64 0, .slice none 0 0])
        ∧ (L 3 = true → Tk W (w.heap.size + 1) #[.slice a n c, .int .i64 kk, .slice da dn dc])
        ∧ (L 0 = true → v 0 = .agg #[.slice fa fn fc, .int .i64 fi, .int .i64 h2])
        ∧ (L 1 = true → v 1 = .agg #[.slice a n c, .int .i64 kk, .slice da dn dc])) (by kernel_rfl) (by kernel_rfl) ?_ ?_ (l := [(30, 0), (31, 1)]) (by kernel_rfl) (n := 4) rfl ?_
    · intro v
      exact ⟨hT5.x (X.refl _).drew, hD5.x (X.refl _).drew, hV5.fr ((X.refl _).drew.fr _), hy5.trans (Y.of_x (X.refl _).drew), fun _ => hR5.x (X.refl _).drew, fun h => Bool.noConfusion h, fun _ => hS5.x (X.refl _).drew, fun h => Bool.noConfusion h, fun h => Bool.noConfusion h, fun h => Bool.noConfusion h⟩
    · intro i hi
      have hi' : i = 0 ∨ i = 1 ∨ i = 2 ∨ i = 3 := by
        have : i < 4 := hi
        omega
      clear hi
      rcases hi' with rfl | rfl | rfl | rfl
      all_goals
        intro o ho L v aa W hI hS hL hA K hK
        cases (show some _ = some o from ho)
        obtain ⟨ff, dd, vv, yw, z1, z1s, z2, z2s, v0, v1⟩ := hI
      · have o4 := hS.old 4 (by kernel_rfl) rfl
        obtain ⟨ltf, f0, f1, f2, _⟩ := ff.cells
        clear hS ho hA
        go_simp
        exact hK _ W ⟨ff, dd, vv, yw, z1, z1s, z2, z2s, fun _ => rfl, v1⟩
      · have o5 := hS.old 5 (by kernel_rfl) rfl
        obtain ⟨ltd, cd, _⟩ := dd.bx.out
        have d0 := cd 0
        have d1 := cd 1
        have d2 := cd 2
        clear cd
        clear hS ho hA
        go_simp
        exact hK _ W ⟨ff, dd, vv, yw, z1, z1s, z2, z2s, v0, fun _ => rfl⟩
      · have o2 := hS.old 2 (by kernel_rfl) rfl
        have l0 : L 0 = true := hA ⟨0, .data⟩ (by simp) rfl
        have g0 := hS.get 0 30 rfl l0 (v0 l0)
        have hTg := z1 hL
        obtain ⟨ltg, q0, q1, q2, fz0, fz1, fz2⟩ := hTg.cells
        clear hS ho hA
        go_simp
        exact hK undef _ ⟨ff.far3 (by omega) _ _ _, dd.far3 (by omega) _ _ _, vv.set3t (t := 44) (z1 hL) (by decide) (by decide) _ _ _, y_set3 yw (by omega) _ _ _, fun h => Bool.noConfusion h, fun _ => (z1 hL).set3 _ _ _, fun h => (z2 h).far3 (by omega) _ _ _, fun h => (z2s h).far3 (by omega) _ _ _, v0, v1⟩
      · have o3 := hS.old 3 (by kernel_rfl) rfl
        have l1 : L 1 = true := hA ⟨1, .data⟩ (by simp) rfl
        have g1 := hS.get 1 31 rfl l1 (v1 l1)
        have hTg := z2 hL
        obtain ⟨ltg, cq, fq⟩ := hTg.bx.out
        have q0 := cq 0
        have q1 := cq 1
        have q2 := cq 2
        have fz0 := fq 0
        have fz1 := fq 1
        have fz2 := fq 2
        clear cq fq
        clear hS ho hA
        go_simp
        exact hK undef _ ⟨ff.far3 (by omega) _ _ _, dd.far3 (by omega) _ _ _, vv.set3t (t := 28) (z2 hL) (by decide) (by decide) _ _ _, y_set3 yw (by omega) _ _ _, fun h => (z1 h).far3 (by omega) _ _ _, fun h => (z1s h).far3 (by omega) _ _ _, fun h => Bool.noConfusion h, fun _ => (z2 hL).set3 _ _ _, v0, v1⟩
    intro v W9 hI
    obtain ⟨ff, dd, vv, yw, z1, z1s, z2, z2s, v0, v1⟩ := hI
    have e0 := v0 rfl
    have e1 := v1 rfl
    clear v0 v1
    replace z1s := z1s rfl
    replace z2s := z2s rfl
    clear z1 z2
    simp only [putL, List.foldl, List.setIfInBounds_toArray, List.set_cons_zero, List.set_cons_succ, e0, e1]
    clear e0 e1
    go_wp2
    refine bodyPost_ret (v := .tuple #[.agg #[.slice fa fn fc, .int .i64 fi, .int .i64 h2], .agg #[.slice a n c, .int .i64 kk, .slice da dn dc]]) ?_ rfl ?_
    · obtain ⟨_, r0, r1, r2, _⟩ := z1s.cells
      obtain ⟨_, cs, _⟩ := z2s.bx.out
      have s0 := cs 0
      have s1 := cs 1
      have s2 := cs 2
      clear cs
      simp [results, Tryd.results40, go_sem, Result.andThen, r0, r1, r2, s0, s1, s2]
    · exact ⟨fl, _, _, _, _, _, _, _, _, _, _, _, _, rfl, vv, yw⟩
  by_cases hk1 : k = 1
  · subst hk1
    obtain ⟨vs, hvn, hvs, hVV⟩ := hV3.1.v
    have hok := hV3.2.1
    have hn20 := hV3.2.2.1
    subst hvs hvn
    have hrow := hVV.1
    obtain ⟨lt, f0, f1, f2, ff0, ff1, ff2⟩ := hT3.cells
    go_upto_region 9 with (at_builtin; refine wpList_append_gv dir_T' rfl _ _ rfl hrow rfl rfl rfl rfl (by simp [Value.oneCell']) (by omega) (by omega) (by omega) ?_; intro a8 c8 w8 hO8 hg8 hat8; have hT8 : Tf w8 w1.heap.size #[.slice fa vs.length fc, .int .i64 fi, .int .i64 hi] := at_grown (at_x2' hT3 ((X.refl W3).alloc _)) hg8 (own_ne_at hrow hT3 (by decide)); clear lt f0 f1 f2 ff0 ff1 ff2; obtain ⟨lt, f0, f1, f2, ff0, ff1, ff2⟩ := hT8.cells)
    refine wp_name (fun W5 hW5 => ?_)
    have hxa : X W3 (W3.alloc (.cells #[.int .i64 3, .string ⟨#[]⟩, .int .i64 0, .slice none 0 0] 71)) := (X.refl _).alloc _
    obtain ⟨m8, hm8⟩ : ∃ m8, m8 = vs.length + 1 := ⟨_, rfl⟩
    rw [← hm8] at hW5 hO8 hat8 ⊢
    have hrb : ∀ b, (Value.slice fa vs.length fc).ownBlock = some b → w.heap.size ≤ b := fun b hb => (hrow.lt b hb).1
    have hGy : Y rb w w8 := (hyw.trans (Y.of_x hxa)).grown hg8 hrb
    have hV8 : AnF w8 w.heap.size a8 m8 c8 (vs.map (·.1) ++ [⟨3, [], 0, []⟩]) := by
      have h8 := DirsV.snoc (d := ⟨3, [], 0, []⟩) (ba := none) (bc := 0) (hVV.fr (hxa.fr _)) (by rw [← hm8]; exact hO8) hg8 ⟨rfl, .inl ⟨rfl, rfl⟩⟩ (fun x _ => .inl rfl)
      refine ⟨?_, okD_snoc hok (by rw [List.length_map]; omega), by omega⟩
      have := h8.o
      simpa [hm8] using this
    have hT5 : Tf W5 w1.heap.size #[.slice a8 m8 c8, .int .i64 fi, .int .i64 hi] := by rw [hW5]; exact hT8.set0 _
    have hD5 : Tk W5 (w1.heap.size + 1) #[.slice a n c, .int .i64 kk, .slice da dn dc] := by rw [hW5]; exact Tk.far (at_grown (at_x2' hD3 hxa) hg8 (own_ne_at hrow hD3 (by decide))) (by show w1.heap.size + 1 ≠ w1.heap.size; omega) _
    have hR5 : Tf W5 w.heap.size #[.slice none 0 0, .int .i64 0, .int .i64 0] := by rw [hW5]; exact Tf.far (at_grown (at_x2' hR3 hxa) hg8 (own_ne_at hrow hR3 (by decide))) (by show w.heap.size ≠ w1.heap.size; omega) _
    have hS5 : Tk W5 (w.heap.size + 1) #[.slice none 0 0, .int .i64 0, .slice none 0 0] := by rw [hW5]; exact Tk.far (at_grown (at_x2' hS3 hxa) hg8 (own_ne_at hrow hS3 (by decide))) (by show w.heap.size + 1 ≠ w1.heap.size; omega) _
    have hV5 : AnF W5 w.heap.size a8 m8 c8 (vs.map (·.1) ++ [⟨3, [], 0, []⟩]) := by rw [hW5]; exact AnF.far (t := 44) hV8 hT8 (by decide) (by decide) _ _
    have hy5 : Y rb w W5 := by rw [hW5]; exact Y.set2 (p := ⟨w1.heap.size, 0, none⟩) hGy (by show w.heap.size ≤ w1.heap.size; omega) _
    have hz5 : W3.heap.size ≤ W5.heap.size := by rw [hW5]; have := hg8.size; have := hxa.size; simp; omega
    clear hW5 lt f0 f1 f2 ff0 ff1 ff2 hT3 hD3 hR3 hS3 hV3 hyw hO8 hg8 hat8 hT8 hV8 hGy hm8 hrow hVV hxa
    generalize vs.map (·.1) = fl at *
    refine wp_region_inv (fun L v W => Tf W (w1.heap.size) #[.slice a8 m8 c8, .int .i64 fi, .int .i64 hi]
        ∧ Tk W (w1.heap.size + 1) #[.slice a n c, .int .i64 kk, .slice da dn dc]
        ∧ AnF W w.heap.size a8 m8 c8 (fl ++ [⟨3, [], 0, []⟩])
        ∧ Y rb w W
        ∧ (L 2 = false → Tf W w.heap.size #[.slice none 0 0, .int .i64 0, .int .i64 0])
        ∧ (L 2 = true → Tf W w.heap.size #[.slice a8 m8 c8, .int .i64 fi, .int .i64 hi])
        ∧ (L 3 = false → Tk W (w.heap.size + 1) #[.slice none 0 0, .int .i64 0, .slice none 0 0])
        ∧ (L 3 = true → Tk W (w.heap.size + 1) #[.slice a n c, .int .i64 kk, .slice da dn dc])
        ∧ (L 0 = true → v 0 = .agg #[.slice a8 m8 c8, .int .i64 fi, .int .i64 hi])
        ∧ (L 1 = true → v 1 = .agg #[.slice a n c, .int .i64 kk, .slice da dn dc])) (by kernel_rfl) (by kernel_rfl) ?_ ?_ (l := [(30, 0), (31, 1)]) (by kernel_rfl) (n := 4) rfl ?_
    · intro v
      exact ⟨hT5.x (X.refl _).drew, hD5.x (X.refl _).drew, hV5.fr ((X.refl _).drew.fr _), hy5.trans (Y.of_x (X.refl _).drew), fun _ => hR5.x (X.refl _).drew, fun h => Bool.noConfusion h, fun _ => hS5.x (X.refl _).drew, fun h => Bool.noConfusion h, fun h => Bool.noConfusion h, fun h => Bool.noConfusion h⟩
    · intro i hi
      have hi' : i = 0 ∨ i = 1 ∨ i = 2 ∨ i = 3 := by
        have : i < 4 := hi
        omega
      clear hi
      rcases hi' with rfl | rfl | rfl | rfl
      all_goals
        intro o ho L v aa W hI hS hL hA K hK
        cases (show some _ = some o from ho)
        obtain ⟨ff, dd, vv, yw, z1, z1s, z2, z2s, v0, v1⟩ := hI
      · have o4 := hS.old 4 (by kernel_rfl) rfl
        obtain ⟨ltf, f0, f1, f2, _⟩ := ff.cells
        clear hS ho hA
        go_simp
        exact hK _ W ⟨ff, dd, vv, yw, z1, z1s, z2, z2s, fun _ => rfl, v1⟩
      · have o5 := hS.old 5 (by kernel_rfl) rfl
        obtain ⟨ltd, cd, _⟩ := dd.bx.out
        have d0 := cd 0
        have d1 := cd 1
        have d2 := cd 2
        clear cd
        clear hS ho hA
        go_simp
        exact hK _ W ⟨ff, dd, vv, yw, z1, z1s, z2, z2s, v0, fun _ => rfl⟩
      · have o2 := hS.old 2 (by kernel_rfl) rfl
        have l0 : L 0 = true := hA ⟨0, .data⟩ (by simp) rfl
        have g0 := hS.get 0 30 rfl l0 (v0 l0)
        have hTg := z1 hL
        obtain ⟨ltg, q0, q1, q2, fz0, fz1, fz2⟩ := hTg.cells
        clear hS ho hA
        go_simp
        exact hK undef _ ⟨ff.far3 (by omega) _ _ _, dd.far3 (by omega) _ _ _, vv.set3t (t := 44) (z1 hL) (by decide) (by decide) _ _ _, y_set3 yw (by omega) _ _ _, fun h => Bool.noConfusion h, fun _ => (z1 hL).set3 _ _ _, fun h => (z2 h).far3 (by omega) _ _ _, fun h => (z2s h).far3 (by omega) _ _ _, v0, v1⟩
      · have o3 := hS.old 3 (by kernel_rfl) rfl
        have l1 : L 1 = true := hA ⟨1, .data⟩ (by simp) rfl
        have g1 := hS.get 1 31 rfl l1 (v1 l1)
        have hTg := z2 hL
        obtain ⟨ltg, cq, fq⟩ := hTg.bx.out
        have q0 := cq 0
        have q1 := cq 1
        have q2 := cq 2
        have fz0 := fq 0
        have fz1 := fq 1
        have fz2 := fq 2
        clear cq fq
        clear hS ho hA
        go_simp
        exact hK undef _ ⟨ff.far3 (by omega) _ _ _, dd.far3 (by omega) _ _ _, vv.set3t (t := 28) (z2 hL) (by decide) (by decide) _ _ _, y_set3 yw (by omega) _ _ _, fun h => (z1 h).far3 (by omega) _ _ _, fun h => (z1s h).far3 (by omega) _ _ _, fun h => Bool.noConfusion h, fun _ => (z2 hL).set3 _ _ _, v0, v1⟩
    intro v W9 hI
    obtain ⟨ff, dd, vv, yw, z1, z1s, z2, z2s, v0, v1⟩ := hI
    have e0 := v0 rfl
    have e1 := v1 rfl
    clear v0 v1
    replace z1s := z1s rfl
    replace z2s := z2s rfl
    clear z1 z2
    simp only [putL, List.foldl, List.setIfInBounds_toArray, List.set_cons_zero, List.set_cons_succ, e0, e1]
    clear e0 e1
    go_wp2
    refine bodyPost_ret (v := .tuple #[.agg #[.slice a8 m8 c8, .int .i64 fi, .int .i64 hi], .agg #[.slice a n c, .int .i64 kk, .slice da dn dc]]) ?_ rfl ?_
    · obtain ⟨_, r0, r1, r2, _⟩ := z1s.cells
      obtain ⟨_, cs, _⟩ := z2s.bx.out
      have s0 := cs 0
      have s1 := cs 1
      have s2 := cs 2
      clear cs
      simp [results, Tryd.results40, go_sem, Result.andThen, r0, r1, r2, s0, s1, s2]
    · exact ⟨_, _, _, _, _, _, _, _, _, _, _, _, _, rfl, vv, yw⟩
  by_cases hk2 : k = 2
  · subst hk2
    obtain ⟨lt, cd, fq⟩ := hD3.bx.out
    have d1 := cd 1
    have fd1 := fq 1
    clear cd fq
    go_upto_region 9 with fail
    refine wp_name (fun W5 hW5 => ?_)
    have hT5 : Tf W5 w1.heap.size #[.slice fa fn fc, .int .i64 fi, .int .i64 hi] := by rw [hW5]; exact hT3.far (by show w1.heap.size ≠ w1.heap.size + 1; omega) _
    have hD5 : Tk W5 (w1.heap.size + 1) #[.slice a n c, .int .i64 201, .slice da dn dc] := by rw [hW5]; exact hD3.set1 _
    have hR5 : Tf W5 w.heap.size #[.slice none 0 0, .int .i64 0, .int .i64 0] := by rw [hW5]; exact hR3.far (by show w.heap.size ≠ w1.heap.size + 1; omega) _
    have hS5 : Tk W5 (w.heap.size + 1) #[.slice none 0 0, .int .i64 0, .slice none 0 0] := by rw [hW5]; exact hS3.far (by show w.heap.size + 1 ≠ w1.heap.size + 1; omega) _
    have hV5 : AnF W5 w.heap.size fa fn fc fl := by rw [hW5]; exact AnF.far (t := 28) hV3.any hD3 (by decide) (by decide) _ _
    have hy5 : Y rb w W5 := by rw [hW5]; exact Y.set2 (p := ⟨w1.heap.size + 1, 1, none⟩) hyw (by show w.heap.size ≤ w1.heap.size + 1; omega) _
    have hz5 : W3.heap.size ≤ W5.heap.size := by rw [hW5]; simp
    clear hW5 lt d1 fd1 hT3 hD3 hR3 hS3 hV3 hyw
    refine wp_region_inv (fun L v W => Tf W (w1.heap.size) #[.slice fa fn fc, .int .i64 fi, .int .i64 hi]
        ∧ Tk W (w1.heap.size + 1) #[.slice a n c, .int .i64 201, .slice da dn dc]
        ∧ AnF W w.heap.size fa fn fc fl
        ∧ Y rb w W
        ∧ (L 2 = false → Tf W w.heap.size #[.slice none 0 0, .int .i64 0, .int .i64 0])
        ∧ (L 2 = true → Tf W w.heap.size #[.slice fa fn fc, .int .i64 fi, .int .i64 hi])
        ∧ (L 3 = false → Tk W (w.heap.size + 1) #[.slice none 0 0, .int .i64 0, .slice none 0 0])
        ∧ (L 3 = true → Tk W (w.heap.size + 1) #[.slice a n c, .int .i64 201, .slice da dn dc])
        ∧ (L 0 = true → v 0 = .agg #[.slice fa fn fc, .int .i64 fi, .int .i64 hi])
        ∧ (L 1 = true → v 1 = .agg #[.slice a n c, .int .i64 201, .slice da dn dc])) (by kernel_rfl) (by kernel_rfl) ?_ ?_ (l := [(30, 0), (31, 1)]) (by kernel_rfl) (n := 4) rfl ?_
    · intro v
      exact ⟨hT5.x (X.refl _).drew, hD5.x (X.refl _).drew, hV5.fr ((X.refl _).drew.fr _), hy5.trans (Y.of_x (X.refl _).drew), fun _ => hR5.x (X.refl _).drew, fun h => Bool.noConfusion h, fun _ => hS5.x (X.refl _).drew, fun h => Bool.noConfusion h, fun h => Bool.noConfusion h, fun h => Bool.noConfusion h⟩
    · intro i hi
      have hi' : i = 0 ∨ i = 1 ∨ i = 2 ∨ i = 3 := by
        have : i < 4 := hi
        omega
      clear hi
      rcases hi' with rfl | rfl | rfl | rfl
      all_goals
        intro o ho L v aa W hI hS hL hA K hK
        cases (show some _ = some o from ho)
        obtain ⟨ff, dd, vv, yw, z1, z1s, z2, z2s, v0, v1⟩ := hI
      · have o4 := hS.old 4 (by kernel_rfl) rfl
        obtain ⟨ltf, f0, f1, f2, _⟩ := ff.cells
        clear hS ho hA
        go_simp
        exact hK _ W ⟨ff, dd, vv, yw, z1, z1s, z2, z2s, fun _ => rfl, v1⟩
      · have o5 := hS.old 5 (by kernel_rfl) rfl
        obtain ⟨ltd, cd, _⟩ := dd.bx.out
        have d0 := cd 0
        have d1 := cd 1
        have d2 := cd 2
        clear cd
        clear hS ho hA
        go_simp
        exact hK _ W ⟨ff, dd, vv, yw, z1, z1s, z2, z2s, v0, fun _ => rfl⟩
      · have o2 := hS.old 2 (by kernel_rfl) rfl
        have l0 : L 0 = true := hA ⟨0, .data⟩ (by simp) rfl
        have g0 := hS.get 0 30 rfl l0 (v0 l0)
        have hTg := z1 hL
        obtain ⟨ltg, q0, q1, q2, fz0, fz1, fz2⟩ := hTg.cells
        clear hS ho hA
        go_simp
        exact hK undef _ ⟨ff.far3 (by omega) _ _ _, dd.far3 (by omega) _ _ _, vv.set3t (t := 44) (z1 hL) (by decide) (by decide) _ _ _, y_set3 yw (by omega) _ _ _, fun h => Bool.noConfusion h, fun _ => (z1 hL).set3 _ _ _, fun h => (z2 h).far3 (by omega) _ _ _, fun h => (z2s h).far3 (by omega) _ _ _, v0, v1⟩
      · have o3 := hS.old 3 (by kernel_rfl) rfl
        have l1 : L 1 = true := hA ⟨1, .data⟩ (by simp) rfl
        have g1 := hS.get 1 31 rfl l1 (v1 l1)
        have hTg := z2 hL
        obtain ⟨ltg, cq, fq⟩ := hTg.bx.out
        have q0 := cq 0
        have q1 := cq 1
        have q2 := cq 2
        have fz0 := fq 0
        have fz1 := fq 1
        have fz2 := fq 2
        clear cq fq
        clear hS ho hA
        go_simp
        exact hK undef _ ⟨ff.far3 (by omega) _ _ _, dd.far3 (by omega) _ _ _, vv.set3t (t := 28) (z2 hL) (by decide) (by decide) _ _ _, y_set3 yw (by omega) _ _ _, fun h => (z1 h).far3 (by omega) _ _ _, fun h => (z1s h).far3 (by omega) _ _ _, fun h => Bool.noConfusion h, fun _ => (z2 hL).set3 _ _ _, v0, v1⟩
    intro v W9 hI
    obtain ⟨ff, dd, vv, yw, z1, z1s, z2, z2s, v0, v1⟩ := hI
    have e0 := v0 rfl
    have e1 := v1 rfl
    clear v0 v1
    replace z1s := z1s rfl
    replace z2s := z2s rfl
    clear z1 z2
    simp only [putL, List.foldl, List.setIfInBounds_toArray, List.set_cons_zero, List.set_cons_succ, e0, e1]
    clear e0 e1
    go_wp2
    refine bodyPost_ret (v := .tuple #[.agg #[.slice fa fn fc, .int .i64 fi, .int .i64 hi], .agg #[.slice a n c, .int .i64 201, .slice da dn dc]]) ?_ rfl ?_
    · obtain ⟨_, r0, r1, r2, _⟩ := z1s.cells
      obtain ⟨_, cs, _⟩ := z2s.bx.out
      have s0 := cs 0
      have s1 := cs 1
      have s2 := cs 2
      clear cs
      simp [results, Tryd.results40, go_sem, Result.andThen, r0, r1, r2, s0, s1, s2]
    · exact ⟨fl, _, _, _, _, _, _, _, _, _, _, _, _, rfl, vv, yw⟩
  · have hk0' : ¬ (k : Int) = 0 := by omega
    have hk1' : ¬ (k : Int) = 1 := by omega
    have hk2' : ¬ (k : Int) = 2 := by omega
    go_upto_region 9 with fail
    have hT5 := hT3
    have hD5 := hD3
    have hR5 := hR3
    have hS5 := hS3
    have hV5 := hV3.any
    have hy5 := hyw
    have hz5 : W3.heap.size ≤ W3.heap.size := Nat.le_refl _
    clear hT3 hD3 hR3 hS3 hV3 hyw
    refine wp_region_inv (fun L v W => Tf W (w1.heap.size) #[.slice fa fn fc, .int .i64 fi, .int .i64 hi]
        ∧ Tk W (w1.heap.size + 1) #[.slice a n c, .int .i64 kk, .slice da dn dc]
        ∧ AnF W w.heap.size fa fn fc fl
        ∧ Y rb w W
        ∧ (L 2 = false → Tf W w.heap.size #[.slice none 0 0, .int .i64 0, .int .i64 0])
        ∧ (L 2 = true → Tf W w.heap.size #[.slice fa fn fc, .int .i64 fi, .int .i64 hi])
        ∧ (L 3 = false → Tk W (w.heap.size + 1) #[.slice none 0 0, .int .i64 0, .slice none 0 0])
        ∧ (L 3 = true → Tk W (w.heap.size + 1) #[.slice a n c, .int .i64 kk, .slice da dn dc])
        ∧ (L 0 = true → v 0 = .agg #[.slice fa fn fc, .int .i64 fi, .int .i64 hi])
        ∧ (L 1 = true → v 1 = .agg #[.slice a n c, .int .i64 kk, .slice da dn dc])) (by kernel_rfl) (by kernel_rfl) ?_ ?_ (l := [(30, 0), (31, 1)]) (by kernel_rfl) (n := 4) rfl ?_
    · intro v
      exact ⟨hT5.x (X.refl _).drew, hD5.x (X.refl _).drew, hV5.fr ((X.refl _).drew.fr _), hy5.trans (Y.of_x (X.refl _).drew), fun _ => hR5.x (X.refl _).drew, fun h => Bool.noConfusion h, fun _ => hS5.x (X.refl _).drew, fun h => Bool.noConfusion h, fun h => Bool.noConfusion h, fun h => Bool.noConfusion h⟩
    · intro i hi
      have hi' : i = 0 ∨ i = 1 ∨ i = 2 ∨ i = 3 := by
        have : i < 4 := hi
        omega
      clear hi
      rcases hi' with rfl | rfl | rfl | rfl
      all_goals
        intro o ho L v aa W hI hS hL hA K hK
        cases (show some _ = some o from ho)
        obtain ⟨ff, dd, vv, yw, z1, z1s, z2, z2s, v0, v1⟩ := hI
      · have o4 := hS.old 4 (by kernel_rfl) rfl
        obtain ⟨ltf, f0, f1, f2, _⟩ := ff.cells
        clear hS ho hA
        go_simp
        exact hK _ W ⟨ff, dd, vv, yw, z1, z1s, z2, z2s, fun _ => rfl, v1⟩
      · have o5 := hS.old 5 (by kernel_rfl) rfl
        obtain ⟨ltd, cd, _⟩ := dd.bx.out
        have d0 := cd 0
        have d1 := cd 1
        have d2 := cd 2
        clear cd
        clear hS ho hA
        go_simp
        exact hK _ W ⟨ff, dd, vv, yw, z1, z1s, z2, z2s, v0, fun _ => rfl⟩
      · have o2 := hS.old 2 (by kernel_rfl) rfl
        have l0 : L 0 = true := hA ⟨0, .data⟩ (by simp) rfl
        have g0 := hS.get 0 30 rfl l0 (v0 l0)
        have hTg := z1 hL
        obtain ⟨ltg, q0, q1, q2, fz0, fz1, fz2⟩ := hTg.cells
        clear hS ho hA
        go_simp
        exact hK undef _ ⟨ff.far3 (by omega) _ _ _, dd.far3 (by omega) _ _ _, vv.set3t (t := 44) (z1 hL) (by decide) (by decide) _ _ _, y_set3 yw (by omega) _ _ _, fun h => Bool.noConfusion h, fun _ => (z1 hL).set3 _ _ _, fun h => (z2 h).far3 (by omega) _ _ _, fun h => (z2s h).far3 (by omega) _ _ _, v0, v1⟩
      · have o3 := hS.old 3 (by kernel_rfl) rfl
        have l1 : L 1 = true := hA ⟨1, .data⟩ (by simp) rfl
        have g1 := hS.get 1 31 rfl l1 (v1 l1)
        have hTg := z2 hL
        obtain ⟨ltg, cq, fq⟩ := hTg.bx.out
        have q0 := cq 0
        have q1 := cq 1
        have q2 := cq 2
        have fz0 := fq 0
        have fz1 := fq 1
        have fz2 := fq 2
        clear cq fq
        clear hS ho hA
        go_simp
        exact hK undef _ ⟨ff.far3 (by omega) _ _ _, dd.far3 (by omega) _ _ _, vv.set3t (t := 28) (z2 hL) (by decide) (by decide) _ _ _, y_set3 yw (by omega) _ _ _, fun h => (z1 h).far3 (by omega) _ _ _, fun h => (z1s h).far3 (by omega) _ _ _, fun h => Bool.noConfusion h, fun _ => (z2 hL).set3 _ _ _, v0, v1⟩
    intro v W9 hI
    obtain ⟨ff, dd, vv, yw, z1, z1s, z2, z2s, v0, v1⟩ := hI
    have e0 := v0 rfl
    have e1 := v1 rfl
    clear v0 v1
    replace z1s := z1s rfl
    replace z2s := z2s rfl
    clear z1 z2
    simp only [putL, List.foldl, List.setIfInBounds_toArray, List.set_cons_zero, List.set_cons_succ, e0, e1]
    clear e0 e1
    go_wp2
    refine bodyPost_ret (v := .tuple #[.agg #[.slice fa fn fc, .int .i64 fi, .int .i64 hi], .agg #[.slice a n c, .int .i64 kk, .slice da dn dc]]) ?_ rfl ?_
    · obtain ⟨_, r0, r1, r2, _⟩ := z1s.cells
      obtain ⟨_, cs, _⟩ := z2s.bx.out
      have s0 := cs 0
      have s1 := cs 1
      have s2 := cs 2
      clear cs
      simp [results, Tryd.results40, go_sem, Result.andThen, r0, r1, r2, s0, s1, s2]
    · exact ⟨fl, _, _, _, _, _, _, _, _, _, _, _, _, rfl, vv, yw⟩

end Go.Proofs.YtgjfjjhmgbemcaaDoor
