/- A change of a disk by an act, the program's: the walk. No condition but lengths, that the slices have their room, and that the listed variables hold what the text lays. -/
import Derived.Test.YtgjfjjhmgbemcaaGreatDoorChgS
namespace Go.Proofs.YtgjfjjhmgbemcaaGreatDoor
open Go.RowKit

theorem edB_indexC {l : List Fi} {i st : Int} {b : List St} (h : edB l i st b = true) : ∃ k : Nat, i = (k : Int) ∧ k < l.length := by
  unfold edB at h
  simp only [Bool.and_eq_true] at h
  obtain ⟨h0, h1⟩ := rangeB_iff.1 h.1.1.2
  exact ⟨i.toNat, by omega, by omega⟩
theorem okL_edC {l : List Fi} {i st : Int} {b : List St} (h : OkL l) (hb : b.length ≤ 2097152) (ho : ∀ s ∈ b, Oks s) : OkL (edL l i st b) := by
  unfold edL
  split
  · rename_i he
    obtain ⟨k, rfl, hk⟩ := edB_indexC he
    exact okL_edit h hk hb ho
  · exact ⟨by simp, by simp⟩
set_option maxRecDepth 100000 in
set_option maxHeartbeats 8000000 in
theorem change_i (l : List Fi) (a : Option Addr) (n c : Nat) (kk : Int) (dl : List Di) (da : Option Addr) (dn dc B : Nat) (x : Ac) (ba : Option Addr) (bn bc Bx0 : Nat) (t : Int) (w : World) (hF : FilesAt w B a n l) (hD : DirsAt w B da dn dl) (hn1 : n + 1 ≤ 2097152) (hok : diskB l kk dl = true) (hk0 : 0 ≤ kk) (hk : kk ≤ 80) (ht0 : 0 ≤ t) (ht4 : t ≤ 4) (hx : Okf x.file) (hS : StmtsAt w Bx0 ba bn x.file.body) (hnc : n ≤ c) (hdc : dn ≤ dc) (hG : Gm w) :
    Calls Tryz.prog 118 #[.agg #[.slice a n c, .int .i64 kk, .slice da dn dc], .agg #[.int .i64 (x).kind, .int .i64 (x).file.root, .string ⟨(x).file.pkg.toArray⟩, .string ⟨(x).file.name.toArray⟩, .bool (x).file.init, .int .i64 (x).file.stamp, .slice ba bn bc, .int .i64 (x).idx, .string ⟨(x).name.toArray⟩], .int .i64 t] w fun e w' => ChgP w w' l kk dl x t e := by
  have hw1 : IntKind.i64.wrap (kk + t) = kk + t := IntWalk.i64_in _ (by omega)
  go_enter Tryz.func118, Tryz.ntmps118
  go_upto_region 1 with fail
  refine wp_name (fun W0 hW0 => ?_)
  have hB0 : Bx W0 w.heap.size #[.slice a n c, .int .i64 kk, .slice da dn dc] ∧ Bx W0 (w.heap.size + 1) (#[.int .i64 (x).kind, .int .i64 (x).file.root, .string ⟨(x).file.pkg.toArray⟩, .string ⟨(x).file.name.toArray⟩, .bool (x).file.init, .int .i64 (x).file.stamp, .slice ba bn bc, .int .i64 (x).idx, .string ⟨(x).name.toArray⟩]) ∧ Bx W0 (w.heap.size + 2) #[.slice none 0 0, .int .i64 0, .slice none 0 0] ∧ X w W0 := bx3 hW0
  obtain ⟨hD0, hA0, hR0, hX0⟩ := hB0
  have hz0 : W0.heap.size = w.heap.size + 3 := by rw [hW0]; simp
  clear hW0
  have hF0 := hF.mono (hX0.fr _)
  have hDl := hD.mono (hX0.fr _)
  have hS0 := hS.mono (hX0.fr _)
  obtain ⟨ltd, cd, _⟩ := hD0.out
  have d0 := cd 0
  have d1 := cd 1
  have d2 := cd 2
  obtain ⟨lta, ca, _⟩ := hA0.out
  have a0 := ca 0
  have a1 := ca 1
  have a2 := ca 2
  have a3 := ca 3
  have a4 := ca 4
  have a5 := ca 5
  have a6 := ca 6
  have a7 := ca 7
  obtain ⟨ltr, cr, fr⟩ := hR0.out
  have r0 := cr 0
  have r1 := cr 1
  have r2 := cr 2
  have fr0 := fr 0
  have fr1 := fr 1
  have fr2 := fr 2
  clear ca cd cr fr
  by_cases h0 : x.kind = 0
  · obtain ⟨hc1, hc2, hc3, hc4⟩ := add_chg (t := t) hok h0
    have hst : (stF x.file (kk + t)).body = x.file.body := rfl
    clear r0 r1 r2 fr0 fr1 fr2
    replace hz0 := Lib.hid hz0
    go_upto_region 4 with fail
    refine wp_name (fun W2 hW2 => ?_)
    have hB2 : Bx W2 W0.heap.size #[.int .i64 x.file.root, .string ⟨(x.file.pkg).toArray⟩, .string ⟨(x.file.name).toArray⟩, .bool x.file.init, .int .i64 x.file.stamp, .slice ba bn bc] := by rw [hW2]; exact Bx.new _ _ _
    have hB2t : W2.heap[W0.heap.size]? = some (.cells #[.int .i64 x.file.root, .string ⟨(x.file.pkg).toArray⟩, .string ⟨(x.file.name).toArray⟩, .bool x.file.init, .int .i64 x.file.stamp, .slice ba bn bc] 44 (0, 0)) := by rw [hW2]; exact heap_alloc_new _ _
    have hx2 : X W0 W2 := by rw [hW2]; (repeat (first | with_reducible exact X.refl _ | with_reducible assumption | with_reducible refine X.setCell ?_ (by first | (simp; done) | (simp; omega)) _ | with_reducible refine X.ext ?_ _ | with_reducible refine X.alloc ?_ _ | with_reducible refine X.drew ?_))
    clear hW2 d0 d1 d2 ltd a0 a1 a2 a3 a4 a5 a6 a7 lta
    have hX2 := hX0.trans hx2
    obtain ⟨ltd, cd, _⟩ := (hD0.x hx2).out
    have d0 := cd 0
    have d1 := cd 1
    have d2 := cd 2
    obtain ⟨ltb, cb, fb⟩ := hB2.out
    have b4 := cb 4
    have fb4 := fb 4
    clear cd cb fb
    go_upto_region 5 with fail
    replace hz0 := hz0.out
    refine wp_name (fun W3 hW3 => ?_)
    have hB3 : Bx W3 W0.heap.size #[.int .i64 x.file.root, .string ⟨(x.file.pkg).toArray⟩, .string ⟨(x.file.name).toArray⟩, .bool x.file.init, .int .i64 (kk + t), .slice ba bn bc] := by rw [hW3]; exact Bx.set hB2 4 _
    have hX3 : X w W3 := by rw [hW3]; exact hX2.setCell (by show w.heap.size ≤ W0.heap.size; omega) _
    have hz3 : W3.heap.size = W2.heap.size := by rw [hW3]; simp
    have hz2 := hx2.size
    have hD3 : Bx W3 w.heap.size #[.slice a n c, .int .i64 kk, .slice da dn dc] := by rw [hW3]; exact Bx.far (hD0.x hx2) (by show w.heap.size ≠ W0.heap.size; omega) _
    have hR3 : Bx W3 (w.heap.size + 2) #[.slice none 0 0, .int .i64 0, .slice none 0 0] := by rw [hW3]; exact Bx.far (hR0.x hx2) (by show w.heap.size + 2 ≠ W0.heap.size; omega) _
    have hS3 : StmtsAt W3 Bx0 ba bn (stF x.file (kk + t)).body := hS.mono (hX3.fr _)
    clear hW3 d0 d1 d2 ltd b4 fb4 ltb
    obtain ⟨ltd, cd, _⟩ := hD3.out
    have d0 := cd 0
    have d1 := cd 1
    have d2 := cd 2
    obtain ⟨ltb, cb, _⟩ := hB3.out
    have b0 := cb 0
    have b1 := cb 1
    have b2 := cb 2
    have b3 := cb 3
    have b4 := cb 4
    have b5 := cb 5
    clear cd cb
    replace hz0 := Lib.hid hz0
    go_wp2_with fail
    refine (DiskAdd_i l a n c kk dl da dn dc B (stF x.file (kk + t)) ba bn bc Bx0 t W3 (hF.mono (hX3.fr _)) (hD.mono (hX3.fr _)) hn1 hx hS3 hnc hdc (hG.mono hX3)).mono ?_
    rintro _ w4 ⟨_, rfl, hDk, hx4⟩
    replace hz0 := hz0.out
    obtain ⟨ra2, rc2, rd2, rdc2, E2, rfl, hE⟩ := id hDk
    have hR4 := hR3.x hx4
    obtain ⟨ltr, cr, fr⟩ := hR4.out
    have r0 := cr 0
    have r1 := cr 1
    have r2 := cr 2
    have fr0 := fr 0
    have fr1 := fr 1
    have fr2 := fr 2
    clear cr fr
    go_wp2
    obtain ⟨_, c9, _⟩ := (Bx.set (Bx.set (Bx.set hR4 0 (.slice ra2 (daL l kk dl (stF x.file (kk + t)) t).length rc2)) 1 (.int .i64 (daK l kk dl (stF x.file (kk + t)) t))) 2 (.slice rd2 (daD l kk dl (stF x.file (kk + t)) t).length rdc2)).out
    have q0 := c9 0
    have q1 := c9 1
    have q2 := c9 2
    clear c9
    refine bodyPost_ret (v := .tuple #[.agg #[(.slice ra2 (daL l kk dl (stF x.file (kk + t)) t).length rc2), (.int .i64 (daK l kk dl (stF x.file (kk + t)) t)), (.slice rd2 (daD l kk dl (stF x.file (kk + t)) t).length rdc2)], .bool (daB l kk dl (stF x.file (kk + t)) t)]) (by simp [results, Tryz.results118, go_sem, Result.andThen, q0, q1, q2]) rfl ?_
    obtain ⟨k1, k2⟩ := dk_end (b := w.heap.size + 2) (hX3.trans hx4) (by omega) (by omega) hDk
    unfold ChgP
    rw [hc1, hc2, hc3, hc4]
    exact ⟨_, rfl, k1, k2⟩
  by_cases h1 : x.kind = 1
  · obtain ⟨hc1, hc2, hc3, hc4⟩ := rem_chg (t := t) hok h1
    go_wp2_with fail
    refine (DiskRemove_i l a n c kk dl da dn dc B x.idx t W0 hF0 hDl hnc hdc (hG.mono hX0)).mono ?_
    rintro _ w4 ⟨_, rfl, hDk, hx4⟩
    obtain ⟨ra2, rc2, rd2, rdc2, E2, rfl, hE⟩ := id hDk
    clear r0 r1 r2 fr0 fr1 fr2 ltr
    have hR4 := hR0.x hx4
    obtain ⟨ltr, cr, fr⟩ := hR4.out
    have r0 := cr 0
    have r1 := cr 1
    have r2 := cr 2
    have fr0 := fr 0
    have fr1 := fr 1
    have fr2 := fr 2
    clear cr fr
    go_wp2
    obtain ⟨_, c9, _⟩ := (Bx.set (Bx.set (Bx.set hR4 0 (.slice ra2 (drL l kk dl x.idx t).length rc2)) 1 (.int .i64 (drK l kk dl x.idx t))) 2 (.slice rd2 (drD l kk dl x.idx t).length rdc2)).out
    have q0 := c9 0
    have q1 := c9 1
    have q2 := c9 2
    clear c9
    refine bodyPost_ret (v := .tuple #[.agg #[(.slice ra2 (drL l kk dl x.idx t).length rc2), (.int .i64 (drK l kk dl x.idx t)), (.slice rd2 (drD l kk dl x.idx t).length rdc2)], .bool (drB l kk dl x.idx t)]) (by simp [results, Tryz.results118, go_sem, Result.andThen, q0, q1, q2]) rfl ?_
    obtain ⟨k1, k2⟩ := dk_end (b := w.heap.size + 2) (hX0.trans hx4) (by omega) (by omega) hDk
    unfold ChgP
    rw [hc1, hc2, hc3, hc4]
    exact ⟨_, rfl, k1, k2⟩
  obtain ⟨hc1, hc2, hc3⟩ := ed_chg (t := t) hok h0 h1 ht0 (by omega)
  go_wp2_with fail
  refine (EditFile_i l a n c B x.idx (kk + t) x.file.body ba bn bc Bx0 W0 hF0 hnc hS0 (hG.mono hX0)).mono ?_
  rintro _ w1 ⟨ta, tc, rfl, hO1, hx1⟩
  have hz1 := hx1.size
  go_upto_region 9 with fail
  refine wp_name (fun WB hWB => ?_)
  have hT0 : Bx WB w1.heap.size #[.slice ta (edL l x.idx (kk + t) x.file.body).length tc] := by rw [hWB]; exact Bx.new _ _ _
  have hxB : X w1 WB := by rw [hWB]; (repeat (first | with_reducible exact X.refl _ | with_reducible assumption | with_reducible refine X.setCell ?_ (by first | (simp; done) | (simp; omega)) _ | with_reducible refine X.ext ?_ _ | with_reducible refine X.alloc ?_ _ | with_reducible refine X.drew ?_))
  clear hWB d0 d1 d2 ltd a0 a1 a2 a3 a4 a5 a6 a7 lta r0 r1 r2 fr0 fr1 fr2 ltr
  have hXB := (hX0.trans hx1).trans hxB
  have hRB := (hR0.x hx1).x hxB
  have hDB := (hD0.x hx1).x hxB
  have hFB := (hO1.e).fr (hxB.fr _)
  have hzB := hxB.size
  have hDlB := hDl.mono (X.fr (hx1.trans hxB) _)
  go_wp2_with fail
  refine wp_region_inv (fun L v W => X WB W
      ∧ (L 10 = true → L 9 = true)
      ∧ (L 8 = true → L 7 = true)
      ∧ (L 10 = true → L 8 = true)
      ∧ (L 0 = true → v 0 = .agg #[.slice ta (edL l x.idx (kk + t) x.file.body).length tc])
      ∧ (L 1 = true → v 1 = .pointer (some ⟨w.heap.size, 1, none⟩))
      ∧ (L 2 = true → v 2 = .int .i64 kk)
      ∧ (L 3 = true → v 3 = .int .i64 t)
      ∧ (L 4 = true → v 4 = .int .i64 (kk + t))
      ∧ (L 5 = true → v 5 = .pointer (some ⟨w.heap.size, 2, none⟩))
      ∧ (L 6 = true → v 6 = .slice da dn dc)
      ∧ (L 7 = true → ∃ ra rc, v 7 = .slice ra dn rc ∧ DirsO W WB.heap.size ra dn rc dl)
      ∧ (L 8 = true → ∃ ra rc, v 8 = .agg #[.slice ta (edL l x.idx (kk + t) x.file.body).length tc, .int .i64 (kk + t), .slice ra dn rc] ∧ DirsO W WB.heap.size ra dn rc dl)
      ∧ (L 9 = true → ∃ g, v 9 = .pointer (some ⟨g, 0, none⟩) ∧ WB.heap.size ≤ g ∧ (L 10 = false → W.heap[g]? = some (.cells #[.slice none 0 0, .int .i64 0, .slice none 0 0] 38 (0, 0))))
      ∧ (L 10 = true → ∃ g ra rc, v 9 = .pointer (some ⟨g, 0, none⟩) ∧ WB.heap.size ≤ g ∧ W.heap[g]? = some (.cells #[.slice ta (edL l x.idx (kk + t) x.file.body).length tc, .int .i64 (kk + t), .slice ra dn rc] 38 (0, 0)) ∧ DirsO W WB.heap.size ra dn rc dl)) (by kernel_rfl) (by kernel_rfl) ?_ ?_ (l := [(53, 0), (54, 1), (55, 2), (56, 3), (57, 4), (58, 5), (59, 6), (60, 7), (61, 8), (11, 9)]) (by kernel_rfl) (n := 11) rfl ?_
  · intro v
    exact ⟨(X.refl _).drew, fun h => Bool.noConfusion h, fun h => Bool.noConfusion h, fun h => Bool.noConfusion h, fun h => Bool.noConfusion h, fun h => Bool.noConfusion h, fun h => Bool.noConfusion h, fun h => Bool.noConfusion h, fun h => Bool.noConfusion h, fun h => Bool.noConfusion h, fun h => Bool.noConfusion h, fun h => Bool.noConfusion h, fun h => Bool.noConfusion h, fun h => Bool.noConfusion h, fun h => Bool.noConfusion h⟩
  · intro i hi
    have hi' : i = 0 ∨ i = 1 ∨ i = 2 ∨ i = 3 ∨ i = 4 ∨ i = 5 ∨ i = 6 ∨ i = 7 ∨ i = 8 ∨ i = 9 ∨ i = 10 := by
      have : i < 11 := hi
      omega
    clear hi
    rcases hi' with rfl | rfl | rfl | rfl | rfl | rfl | rfl | rfl | rfl | rfl | rfl
    all_goals
      intro o ho L v aa W hI hS hL hA K hK
      cases (show some _ = some o from ho)
      obtain ⟨xx, dp, d8, d10, v0, v1, v2, v3, v4, v5, v6, v7, v8, v9, fin⟩ := hI
    · have a5 := hS.old 9 (by kernel_rfl) rfl
      obtain ⟨lt, ct, _⟩ := (hT0.x xx).out
      have e := ct 0
      clear ct
      clear hS ho hA
      go_simp
      exact hK _ W ⟨xx, dp, d8, d10, fun _ => rfl, v1, v2, v3, v4, v5, v6, v7, v8, v9, fin⟩
    · have a0 := hS.old 3 (by kernel_rfl) rfl
      clear hS ho hA
      go_simp
      exact hK _ W ⟨xx, dp, d8, d10, v0, fun _ => rfl, v2, v3, v4, v5, v6, v7, v8, v9, fin⟩
    · have l1 : L 1 = true := hA ⟨1, .data⟩ (by simp) rfl
      have a1 := hS.get 1 54 rfl l1 (v1 l1)
      obtain ⟨lt, ct, _⟩ := (hDB.x xx).out
      have e := ct 1
      clear ct
      clear hS ho hA
      go_simp
      exact hK _ W ⟨xx, dp, d8, d10, v0, v1, fun _ => rfl, v3, v4, v5, v6, v7, v8, v9, fin⟩
    · have a0 := hS.old 2 (by kernel_rfl) rfl
      clear hS ho hA
      go_simp
      exact hK _ W ⟨xx, dp, d8, d10, v0, v1, v2, fun _ => rfl, v4, v5, v6, v7, v8, v9, fin⟩
    · have l2 : L 2 = true := hA ⟨2, .data⟩ (by simp) rfl
      have l3 : L 3 = true := hA ⟨3, .data⟩ (by simp) rfl
      have a2 := hS.get 2 55 rfl l2 (v2 l2)
      have a3 := hS.get 3 56 rfl l3 (v3 l3)
      clear hS ho hA
      go_simp
      exact hK _ W ⟨xx, dp, d8, d10, v0, v1, v2, v3, fun _ => rfl, v5, v6, v7, v8, v9, fin⟩
    · have a0 := hS.old 3 (by kernel_rfl) rfl
      clear hS ho hA
      go_simp
      exact hK _ W ⟨xx, dp, d8, d10, v0, v1, v2, v3, v4, fun _ => rfl, v6, v7, v8, v9, fin⟩
    · have l5 : L 5 = true := hA ⟨5, .data⟩ (by simp) rfl
      have a5 := hS.get 5 58 rfl l5 (v5 l5)
      obtain ⟨lt, ct, _⟩ := (hDB.x xx).out
      have e := ct 2
      clear ct
      clear hS ho hA
      go_simp
      exact hK _ W ⟨xx, dp, d8, d10, v0, v1, v2, v3, v4, v5, fun _ => rfl, v7, v8, v9, fin⟩
    · have l6 : L 6 = true := hA ⟨6, .data⟩ (by simp) rfl
      have a6 := hS.get 6 59 rfl l6 (v6 l6)
      have n10 : L 10 = false := by rcases h : L 10 with _ | _; (· rfl); (· have := d8 (d10 h); simp [hL] at this)
      clear hS ho hA
      go_simp
      refine (cloneDirs_c dl da dn dc B W (hDlB.mono (xx.fr _))).mono ?_
      rintro _ w' ⟨ra, rc, rfl, hO, hx⟩
      exact hK _ w' ⟨xx.trans hx, dp, fun _ => rfl, d10, v0, v1, v2, v3, v4, v5, v6, fun _ => ⟨ra, rc, rfl, hO.less xx.size⟩, fun h => let ⟨ra, rc, e, ho⟩ := v8 h; ⟨ra, rc, e, ho.fr (hx.fr _)⟩, fun h => let ⟨g, e, hg, hb⟩ := v9 h; ⟨g, e, hg, fun h => at_x2' (hb h) hx⟩, fun h => Bool.noConfusion (n10.symm.trans h)⟩
    · have l0 : L 0 = true := hA ⟨0, .data⟩ (by simp) rfl
      have l4 : L 4 = true := hA ⟨4, .data⟩ (by simp) rfl
      have l7 : L 7 = true := hA ⟨7, .data⟩ (by simp) rfl
      have a0 := hS.get 0 53 rfl l0 (v0 l0)
      have a4 := hS.get 4 57 rfl l4 (v4 l4)
      obtain ⟨ra, rc, e7, hq⟩ := v7 l7
      have a7 := hS.get 7 60 rfl l7 e7
      have n10 : L 10 = false := by rcases h : L 10 with _ | _; (· rfl); (· have := d10 h; simp [hL] at this)
      clear hS ho hA
      go_simp
      exact hK _ W ⟨xx, dp, fun _ => l7, fun h => Bool.noConfusion (n10.symm.trans h), v0, v1, v2, v3, v4, v5, v6, v7, fun _ => ⟨ra, rc, rfl, hq⟩, v9, fin⟩
    · have n10 : L 10 = false := by rcases h : L 10 with _ | _; (· rfl); (· have := dp h; simp [hL] at this)
      clear hS ho hA
      go_simp
      exact hK _ _ ⟨xx.alloc _, fun _ => rfl, d8, d10, v0, v1, v2, v3, v4, v5, v6, fun h => let ⟨ra, rc, e, ho⟩ := v7 h; ⟨ra, rc, e, ho.fr (((X.refl W).alloc _).fr _)⟩, fun h => let ⟨ra, rc, e, ho⟩ := v8 h; ⟨ra, rc, e, ho.fr (((X.refl W).alloc _).fr _)⟩, fun _ => ⟨_, rfl, xx.size, fun _ => heap_alloc_new _ _⟩, fun h => Bool.noConfusion (n10.symm.trans h)⟩
    · have l8 : L 8 = true := hA ⟨8, .data⟩ (by simp) rfl
      have l9 : L 9 = true := hA ⟨9, .data⟩ (by simp) rfl
      obtain ⟨ra, rc, e8, hq⟩ := v8 l8
      obtain ⟨g, e9, hg, hb0⟩ := v9 l9
      have hb := hb0 hL
      have a8 := hS.get 8 61 rfl l8 e8
      have a9 := hS.get 9 11 rfl l9 e9
      obtain ⟨lb, cb, fb0⟩ := Bx.out ⟨_, hb⟩
      have f0 := fb0 0
      have f1 := fb0 1
      have f2 := fb0 2
      have c0 := cb 0
      have c1 := cb 1
      have c2 := cb 2
      clear fb0 cb
      clear hS ho hA
      go_simp
      exact hK undef _ ⟨x_set3 xx hg _ _ _, fun _ => l9, d8, fun _ => l8, v0, v1, v2, v3, v4, v5, v6, fun h => let ⟨ra, rc, e, ho⟩ := v7 h; ⟨ra, rc, e, (((ho.far hb (by decide) (by decide) _ _).far (heap_set1 hb) (by decide) (by decide) _ _).far (heap_set2 hb) (by decide) (by decide) _ _)⟩, fun h => let ⟨ra, rc, e, ho⟩ := v8 h; ⟨ra, rc, e, (((ho.far hb (by decide) (by decide) _ _).far (heap_set1 hb) (by decide) (by decide) _ _).far (heap_set2 hb) (by decide) (by decide) _ _)⟩, fun _ => ⟨g, e9, hg, fun h => Bool.noConfusion h⟩, fun _ => ⟨g, ra, rc, e9, hg, heap_set3 hb _ _ _, (((hq.far hb (by decide) (by decide) _ _).far (heap_set1 hb) (by decide) (by decide) _ _).far (heap_set2 hb) (by decide) (by decide) _ _)⟩⟩
  intro v W9 hI
  obtain ⟨xx, dp, d8, d10, v0, v1, v2, v3, v4, v5, v6, v7, v8, v9, fin⟩ := hI
  obtain ⟨g, ra, rc, e9, hg, hb, hO⟩ := fin rfl
  clear fin v0 v1 v2 v3 v4 v5 v6 v7 v8 v9 dp d8 d10
  simp only [putL, List.foldl, List.setIfInBounds_toArray, List.set_cons_zero, List.set_cons_succ, e9]
  clear e9
  have hRC := hRB.x xx
  have hXC := hXB.trans xx
  have hzC := xx.size
  cases hE : edB l x.idx (kk + t) x.file.body
  · obtain ⟨ltr, cr, fr⟩ := hRC.out
    have r0 := cr 0
    have r1 := cr 1
    have r2 := cr 2
    have fr0 := fr 0
    have fr1 := fr 1
    have fr2 := fr 2
    clear cr fr
    go_wp2
    obtain ⟨_, c9, _⟩ := (Bx.set (Bx.set (Bx.set hRC 0 (.slice none 0 0)) 1 (.int .i64 0)) 2 (.slice none 0 0)).out
    have q0 := c9 0
    have q1 := c9 1
    have q2 := c9 2
    clear c9
    refine bodyPost_ret (v := .tuple #[.agg #[(.slice none 0 0), (.int .i64 0), (.slice none 0 0)], .bool false]) (by simp [results, Tryz.results118, go_sem, Result.andThen, q0, q1, q2]) rfl ?_
    unfold ChgP
    rw [hc3 hE, hc1, hE]
    exact ⟨_, rfl, DkO.zero _ _ (X.size (x_set3 (b := w.heap.size + 2) hXC (by omega) _ _ _)), x_set3 (b := w.heap.size + 2) hXC (by omega) _ _ _⟩
  obtain ⟨hc2, hdk⟩ := hc2 hE
  have htc : (edL l x.idx (kk + t) x.file.body).length ≤ tc := by obtain ⟨_, _, _, hr, _⟩ := hO1; exact own_cap hr
  have hrc : dn ≤ rc := by obtain ⟨_, _, _, hr, _⟩ := hO; exact own_cap hr
  have hF9 := hFB.fr (xx.fr _)
  have hFa := hF9.o.at (okL_edC hF.okL (by have := hS.1; have := hS.2.1; omega) hS.2.2.1)
  have hDa := (hO.less (B' := W0.heap.size) (by omega)).at hD.okD
  obtain ⟨ltg, cg, _⟩ := Bx.out ⟨_, hb⟩
  have g0 := cg 0
  have g1 := cg 1
  have g2 := cg 2
  clear cg
  go_wp2_with fail
  refine (ValidDisk_i (edL l x.idx (kk + t) x.file.body) ta _ tc (kk + t) dl ra dn rc W0.heap.size W9 hFa htc hDa hrc (hG.mono hXC)).mono ?_
  rintro _ w4 ⟨rfl, hx4⟩
  rw [hdk]
  have hz4 := hx4.size
  clear g0 g1 g2 ltg
  obtain ⟨ltg, cg, _⟩ := (Bx.x ⟨_, hb⟩ hx4).out
  have g0 := cg 0
  have g1 := cg 1
  have g2 := cg 2
  have hR4 := hRC.x hx4
  obtain ⟨ltr, cr, fr⟩ := hR4.out
  have r0 := cr 0
  have r1 := cr 1
  have r2 := cr 2
  have fr0 := fr 0
  have fr1 := fr 1
  have fr2 := fr 2
  clear cg cr fr
  go_wp2
  obtain ⟨_, c9, _⟩ := (Bx.set (Bx.set (Bx.set hR4 0 (.slice ta (edL l x.idx (kk + t) x.file.body).length tc)) 1 (.int .i64 (kk + t))) 2 (.slice ra dn rc)).out
  have q0 := c9 0
  have q1 := c9 1
  have q2 := c9 2
  clear c9
  refine bodyPost_ret (v := .tuple #[.agg #[.slice ta (edL l x.idx (kk + t) x.file.body).length tc, .int .i64 (kk + t), .slice ra dn rc], .bool true]) (by simp [results, Tryz.results118, go_sem, Result.andThen, q0, q1, q2]) rfl ?_
  unfold ChgP
  rw [hc2, hc1, hE]
  have hDk : DkO w4 W0.heap.size (.agg #[.slice ta (edL l x.idx (kk + t) x.file.body).length tc, .int .i64 (kk + t), .slice ra dn rc]) (edL l x.idx (kk + t) x.file.body) (kk + t) dl := by
    have hdl := hD.len.1
    subst hdl
    exact ⟨ta, tc, ra, rc, w1.heap.size, rfl, by omega, by omega, hF9.fr (hx4.fr _), (hO.less hzB).fr (hx4.fr _)⟩
  obtain ⟨k1, k2⟩ := dk_end (b := w.heap.size + 2) (hXC.trans hx4) (by omega) (by omega) hDk
  exact ⟨_, rfl, k1, k2⟩

end Go.Proofs.YtgjfjjhmgbemcaaGreatDoor
