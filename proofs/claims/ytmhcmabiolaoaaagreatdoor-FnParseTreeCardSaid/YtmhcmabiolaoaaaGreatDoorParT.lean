/- Reading the place of a file, the reference's: the walk. No condition but lengths. -/
import Derived.Test.YtmhcmabiolaoaaaGreatDoorParS
namespace Go.Proofs.YtmhcmabiolaoaaaGreatDoor
open Go.RowKit

theorem file_Sp : StrT Tryz.prog 36 6 := ⟨⟨_, Tryz.underlying36⟩, by kernel_rfl⟩
set_option maxRecDepth 100000 in
set_option maxHeartbeats 2000000 in
theorem readFile_c (ws : List (List UInt8)) (sa : Option Addr) (sc B : Nat) (w : World) (hS : StrsAt w B sa 5 ws) : Calls Tryz.prog 37 #[.slice sa 5 sc] w fun e w' => e = .returned (.agg #[.int .i64 (fiS ws).root, .string ⟨(fiS ws).pkg.toArray⟩, .string ⟨(fiS ws).name.toArray⟩, .bool (fiS ws).init, .int .i64 (fiS ws).stamp, .slice none 0 0]) ∧ X w w' := by
  obtain ⟨b, off, rfl, _, hb0, c1, l1w⟩ := hS.at_ (k := 1) (by omega)
  obtain ⟨_, _, e2, _, _, c2, l2w⟩ := hS.at_ (k := 2) (by omega)
  cases e2
  obtain ⟨_, _, e3, _, _, c3, l3w⟩ := hS.at_ (k := 3) (by omega)
  cases e3
  obtain ⟨_, _, e4, _, _, c4, l4w⟩ := hS.at_ (k := 4) (by omega)
  cases e4
  clear hS
  obtain ⟨sn, hsn⟩ : ∃ sn, sn = 5 := ⟨_, rfl⟩
  have hs5 : (4 : Int) < (sn : Int) := by omega
  have hs4 : (3 : Int) < (sn : Int) := by omega
  have hs3 : (2 : Int) < (sn : Int) := by omega
  have hs2 : (1 : Int) < (sn : Int) := by omega
  rw [← hsn]
  clear hsn
  obtain ⟨r, hr⟩ : ∃ r, fiS ws = r := ⟨_, rfl⟩
  rw [hr]
  have Hr := Lib.hid hr
  clear hr
  go_enter Tryz.func37, Tryz.ntmps37
  go_wp2
  refine wp_name (fun W0 hW0 => ?_)
  have hX0 : X w W0 := by rw [hW0]; (repeat (first | with_reducible exact X.refl _ | with_reducible assumption | with_reducible refine X.setCell ?_ (by first | (simp; done) | (simp; omega)) _ | with_reducible refine X.ext ?_ _ | with_reducible refine X.alloc ?_ _ | with_reducible refine X.drew ?_))
  have hB0 : Bx W0 w.heap.size #[.int .i64 0, .string ⟨#[]⟩, .string ⟨#[]⟩, .bool false, .int .i64 0, .slice none 0 0] := by rw [hW0]; exact Bx.new _ _ _
  replace c1 := (hX0.cell (p := ⟨b, off + 1, none⟩) hb0).trans c1
  replace c2 := (hX0.cell (p := ⟨b, off + 2, none⟩) hb0).trans c2
  replace c3 := (hX0.cell (p := ⟨b, off + 3, none⟩) hb0).trans c3
  replace c4 := (hX0.cell (p := ⟨b, off + 4, none⟩) hb0).trans c4
  replace hb0 := Nat.lt_of_lt_of_le hb0 hX0.size
  clear hW0
  refine wp_region_inv (fun L v W => X W0 W
      ∧ (L 17 = true → L 16 = true)
      ∧ (L 0 = true → v 0 = .slice (some ⟨b, off, none⟩) sn sc)
      ∧ (L 1 = true → v 1 = .pointer (some ⟨b, off + 1, none⟩))
      ∧ (L 2 = true → v 2 = .string ⟨(nth ws 1).toArray⟩)
      ∧ (L 3 = true → v 3 = .int .i64 (numS (nth ws 1)))
      ∧ (L 4 = true → v 4 = .slice (some ⟨b, off, none⟩) sn sc)
      ∧ (L 5 = true → v 5 = .pointer (some ⟨b, off + 2, none⟩))
      ∧ (L 6 = true → v 6 = .string ⟨(nth ws 2).toArray⟩)
      ∧ (L 7 = true → v 7 = .string ⟨(undash (nth ws 2)).toArray⟩)
      ∧ (L 8 = true → v 8 = .slice (some ⟨b, off, none⟩) sn sc)
      ∧ (L 9 = true → v 9 = .pointer (some ⟨b, off + 3, none⟩))
      ∧ (L 10 = true → v 10 = .string ⟨(nth ws 3).toArray⟩)
      ∧ (L 11 = true → v 11 = .slice (some ⟨b, off, none⟩) sn sc)
      ∧ (L 12 = true → v 12 = .pointer (some ⟨b, off + 4, none⟩))
      ∧ (L 13 = true → v 13 = .string ⟨(nth ws 4).toArray⟩)
      ∧ (L 14 = true → v 14 = .int .i64 (numS (nth ws 4)))
      ∧ (L 15 = true → v 15 = .agg #[.int .i64 (numS (nth ws 1)), .string ⟨(undash (nth ws 2)).toArray⟩, .string ⟨(nth ws 3).toArray⟩, .bool false, .int .i64 (numS (nth ws 4)), .slice none 0 0])
      ∧ (L 16 = true → ∃ g, v 16 = .pointer (some ⟨g, 0, none⟩) ∧ W0.heap.size ≤ g ∧ (L 17 = false → W.heap[g]? = some (.cells #[.int .i64 0, .string ⟨#[]⟩, .string ⟨#[]⟩, .bool false, .int .i64 0, .slice none 0 0] 36 (0, 0))))
      ∧ (L 17 = true → ∃ g, v 16 = .pointer (some ⟨g, 0, none⟩) ∧ W0.heap.size ≤ g ∧ W.heap[g]? = some (.cells #[.int .i64 (numS (nth ws 1)), .string ⟨(undash (nth ws 2)).toArray⟩, .string ⟨(nth ws 3).toArray⟩, .bool false, .int .i64 (numS (nth ws 4)), .slice none 0 0] 36 (0, 0)))) (by kernel_rfl) (by kernel_rfl) ?_ ?_ (l := [(4, 0), (5, 1), (6, 2), (7, 3), (8, 4), (9, 5), (10, 6), (11, 7), (12, 8), (13, 9), (14, 10), (15, 11), (16, 12), (17, 13), (18, 14), (19, 15), (3, 16)]) (by kernel_rfl) (n := 18) rfl ?_
  · intro v
    exact ⟨(X.refl _).drew, fun h => Bool.noConfusion h, fun h => Bool.noConfusion h, fun h => Bool.noConfusion h, fun h => Bool.noConfusion h, fun h => Bool.noConfusion h, fun h => Bool.noConfusion h, fun h => Bool.noConfusion h, fun h => Bool.noConfusion h, fun h => Bool.noConfusion h, fun h => Bool.noConfusion h, fun h => Bool.noConfusion h, fun h => Bool.noConfusion h, fun h => Bool.noConfusion h, fun h => Bool.noConfusion h, fun h => Bool.noConfusion h, fun h => Bool.noConfusion h, fun h => Bool.noConfusion h, fun h => Bool.noConfusion h, fun h => Bool.noConfusion h⟩
  · intro i hi
    have hi' : i = 0 ∨ i = 1 ∨ i = 2 ∨ i = 3 ∨ i = 4 ∨ i = 5 ∨ i = 6 ∨ i = 7 ∨ i = 8 ∨ i = 9 ∨ i = 10 ∨ i = 11 ∨ i = 12 ∨ i = 13 ∨ i = 14 ∨ i = 15 ∨ i = 16 ∨ i = 17 := by
      have : i < 18 := hi
      omega
    clear hi
    rcases hi' with rfl | rfl | rfl | rfl | rfl | rfl | rfl | rfl | rfl | rfl | rfl | rfl | rfl | rfl | rfl | rfl | rfl | rfl
    all_goals
      intro o ho L v aa W hI hS hL hA K hK
      cases (show some _ = some o from ho)
      obtain ⟨xx, dp, v0, v1, v2, v3, v4, v5, v6, v7, v8, v9, v10, v11, v12, v13, v14, v15, v16, fin⟩ := hI
    · have a0 := hS.old 0 (by kernel_rfl) rfl
      clear hS ho hA
      go_simp
      exact hK _ W ⟨xx, dp, fun _ => rfl, v1, v2, v3, v4, v5, v6, v7, v8, v9, v10, v11, v12, v13, v14, v15, v16, fin⟩
    · have l0 : L 0 = true := hA ⟨0, .data⟩ (by simp) rfl
      have a0 := hS.get 0 4 rfl l0 (v0 l0)
      clear hS ho hA
      go_simp
      exact hK _ W ⟨xx, dp, v0, fun _ => rfl, v2, v3, v4, v5, v6, v7, v8, v9, v10, v11, v12, v13, v14, v15, v16, fin⟩
    · have l1 : L 1 = true := hA ⟨1, .data⟩ (by simp) rfl
      have a1 := hS.get 1 5 rfl l1 (v1 l1)
      have cc := (xx.cell (p := ⟨b, off + 1, none⟩) hb0).trans c1
      have lb := Nat.lt_of_lt_of_le hb0 xx.size
      clear hS ho hA
      go_simp
      exact hK _ W ⟨xx, dp, v0, v1, fun _ => rfl, v3, v4, v5, v6, v7, v8, v9, v10, v11, v12, v13, v14, v15, v16, fin⟩
    · have l2 : L 2 = true := hA ⟨2, .data⟩ (by simp) rfl
      have a2 := hS.get 2 6 rfl l2 (v2 l2)
      clear hS ho hA
      go_simp
      refine (readNumber_c (nth ws 1) W l1w).mono ?_
      rintro _ w' ⟨rfl, rfl⟩
      exact hK _ _ ⟨xx, dp, v0, v1, v2, fun _ => rfl, v4, v5, v6, v7, v8, v9, v10, v11, v12, v13, v14, v15, v16, fin⟩
    · have a0 := hS.old 0 (by kernel_rfl) rfl
      clear hS ho hA
      go_simp
      exact hK _ W ⟨xx, dp, v0, v1, v2, v3, fun _ => rfl, v5, v6, v7, v8, v9, v10, v11, v12, v13, v14, v15, v16, fin⟩
    · have l4 : L 4 = true := hA ⟨4, .data⟩ (by simp) rfl
      have a4 := hS.get 4 8 rfl l4 (v4 l4)
      clear hS ho hA
      go_simp
      exact hK _ W ⟨xx, dp, v0, v1, v2, v3, v4, fun _ => rfl, v6, v7, v8, v9, v10, v11, v12, v13, v14, v15, v16, fin⟩
    · have l5 : L 5 = true := hA ⟨5, .data⟩ (by simp) rfl
      have a5 := hS.get 5 9 rfl l5 (v5 l5)
      have cc := (xx.cell (p := ⟨b, off + 2, none⟩) hb0).trans c2
      have lb := Nat.lt_of_lt_of_le hb0 xx.size
      clear hS ho hA
      go_simp
      exact hK _ W ⟨xx, dp, v0, v1, v2, v3, v4, v5, fun _ => rfl, v7, v8, v9, v10, v11, v12, v13, v14, v15, v16, fin⟩
    · have l6 : L 6 = true := hA ⟨6, .data⟩ (by simp) rfl
      have a6 := hS.get 6 10 rfl l6 (v6 l6)
      clear hS ho hA
      go_simp
      refine (fromDash_c (nth ws 2) W).mono ?_
      rintro _ w' ⟨rfl, rfl⟩
      exact hK _ _ ⟨xx, dp, v0, v1, v2, v3, v4, v5, v6, fun _ => rfl, v8, v9, v10, v11, v12, v13, v14, v15, v16, fin⟩
    · have a0 := hS.old 0 (by kernel_rfl) rfl
      clear hS ho hA
      go_simp
      exact hK _ W ⟨xx, dp, v0, v1, v2, v3, v4, v5, v6, v7, fun _ => rfl, v9, v10, v11, v12, v13, v14, v15, v16, fin⟩
    · have l8 : L 8 = true := hA ⟨8, .data⟩ (by simp) rfl
      have a8 := hS.get 8 12 rfl l8 (v8 l8)
      clear hS ho hA
      go_simp
      exact hK _ W ⟨xx, dp, v0, v1, v2, v3, v4, v5, v6, v7, v8, fun _ => rfl, v10, v11, v12, v13, v14, v15, v16, fin⟩
    · have l9 : L 9 = true := hA ⟨9, .data⟩ (by simp) rfl
      have a9 := hS.get 9 13 rfl l9 (v9 l9)
      have cc := (xx.cell (p := ⟨b, off + 3, none⟩) hb0).trans c3
      have lb := Nat.lt_of_lt_of_le hb0 xx.size
      clear hS ho hA
      go_simp
      exact hK _ W ⟨xx, dp, v0, v1, v2, v3, v4, v5, v6, v7, v8, v9, fun _ => rfl, v11, v12, v13, v14, v15, v16, fin⟩
    · have a0 := hS.old 0 (by kernel_rfl) rfl
      clear hS ho hA
      go_simp
      exact hK _ W ⟨xx, dp, v0, v1, v2, v3, v4, v5, v6, v7, v8, v9, v10, fun _ => rfl, v12, v13, v14, v15, v16, fin⟩
    · have l11 : L 11 = true := hA ⟨11, .data⟩ (by simp) rfl
      have a11 := hS.get 11 15 rfl l11 (v11 l11)
      clear hS ho hA
      go_simp
      exact hK _ W ⟨xx, dp, v0, v1, v2, v3, v4, v5, v6, v7, v8, v9, v10, v11, fun _ => rfl, v13, v14, v15, v16, fin⟩
    · have l12 : L 12 = true := hA ⟨12, .data⟩ (by simp) rfl
      have a12 := hS.get 12 16 rfl l12 (v12 l12)
      have cc := (xx.cell (p := ⟨b, off + 4, none⟩) hb0).trans c4
      have lb := Nat.lt_of_lt_of_le hb0 xx.size
      clear hS ho hA
      go_simp
      exact hK _ W ⟨xx, dp, v0, v1, v2, v3, v4, v5, v6, v7, v8, v9, v10, v11, v12, fun _ => rfl, v14, v15, v16, fin⟩
    · have l13 : L 13 = true := hA ⟨13, .data⟩ (by simp) rfl
      have a13 := hS.get 13 17 rfl l13 (v13 l13)
      clear hS ho hA
      go_simp
      refine (readNumber_c (nth ws 4) W l4w).mono ?_
      rintro _ w' ⟨rfl, rfl⟩
      exact hK _ _ ⟨xx, dp, v0, v1, v2, v3, v4, v5, v6, v7, v8, v9, v10, v11, v12, v13, fun _ => rfl, v15, v16, fin⟩
    · have l3 : L 3 = true := hA ⟨3, .data⟩ (by simp) rfl
      have l7 : L 7 = true := hA ⟨7, .data⟩ (by simp) rfl
      have l10 : L 10 = true := hA ⟨10, .data⟩ (by simp) rfl
      have l14 : L 14 = true := hA ⟨14, .data⟩ (by simp) rfl
      have a3 := hS.get 3 7 rfl l3 (v3 l3)
      have a7 := hS.get 7 11 rfl l7 (v7 l7)
      have a10 := hS.get 10 14 rfl l10 (v10 l10)
      have a14 := hS.get 14 18 rfl l14 (v14 l14)
      clear hS ho hA
      go_simp
      exact hK _ W ⟨xx, dp, v0, v1, v2, v3, v4, v5, v6, v7, v8, v9, v10, v11, v12, v13, v14, fun _ => rfl, v16, fin⟩
    · have n17 : L 17 = false := by rcases h : L 17 with _ | _; (· rfl); (· have := dp h; simp [hL] at this)
      clear hS ho hA
      go_simp
      exact hK _ _ ⟨xx.alloc _, fun _ => rfl, v0, v1, v2, v3, v4, v5, v6, v7, v8, v9, v10, v11, v12, v13, v14, v15, fun _ => ⟨_, rfl, xx.size, fun _ => heap_alloc_new _ _⟩, fun h => Bool.noConfusion (n17.symm.trans h)⟩
    · have l15 : L 15 = true := hA ⟨15, .data⟩ (by simp) rfl
      have l16 : L 16 = true := hA ⟨16, .data⟩ (by simp) rfl
      obtain ⟨g, e16, hg, hb1⟩ := v16 l16
      have hb := hb1 hL
      have a15 := hS.get 15 19 rfl l15 (v15 l15)
      have a16 := hS.get 16 3 rfl l16 e16
      obtain ⟨lb, cb, fb⟩ := Bx.out ⟨_, hb⟩
      have f0 := fb 0
      have f1 := fb 1
      have f2 := fb 2
      have f3 := fb 3
      have f4 := fb 4
      have f5 := fb 5
      have c0 := cb 0
      have c1 := cb 1
      have c2 := cb 2
      have c3 := cb 3
      have c4 := cb 4
      have c5 := cb 5
      clear fb cb
      clear hS ho hA
      go_simp
      exact hK undef _ ⟨x_set6 xx hg _ _ _ _ _ _, fun _ => l16, v0, v1, v2, v3, v4, v5, v6, v7, v8, v9, v10, v11, v12, v13, v14, v15, fun _ => ⟨g, e16, hg, fun h => Bool.noConfusion h⟩, fun _ => ⟨g, e16, hg, heap_set6 hb _ _ _ _ _ _⟩⟩
  · intro v W hI
    obtain ⟨xx, dp, v0, v1, v2, v3, v4, v5, v6, v7, v8, v9, v10, v11, v12, v13, v14, v15, v16, fin⟩ := hI
    obtain ⟨g, e16, hg, hb⟩ := fin rfl
    clear fin v0 v1 v2 v3 v4 v5 v6 v7 v8 v9 v10 v11 v12 v13 v14 v15 v16 dp
    simp only [putL, List.foldl, List.setIfInBounds_toArray, List.set_cons_zero, List.set_cons_succ, e16]
    clear e16
    have hgw : W0.heap.size ≤ g := hg
    have hg0 : w.heap.size < g := Nat.lt_of_lt_of_le hB0.lt hg
    have hR := hB0.x xx
    have hBg : Bx W g _ := ⟨_, hb⟩
    obtain ⟨lg, cg, fg⟩ := hBg.out
    have d0 := cg 0
    have d1 := cg 1
    have d2 := cg 2
    have d3 := cg 3
    have d4 := cg 4
    have d5 := cg 5
    have f2 := fg 2
    have f3 := fg 3
    clear cg fg c1 c2 c3 c4 hb0
    obtain ⟨lr, cr, fr⟩ := hR.out
    have r0 := cr 0
    have r1 := cr 1
    have r2 := cr 2
    have r3 := cr 3
    have r4 := cr 4
    have r5 := cr 5
    have fr0 := fr 0
    have fr1 := fr 1
    have fr2 := fr 2
    have fr3 := fr 3
    have fr4 := fr 4
    have fr5 := fr 5
    clear cr fr
    cases hst : (nth ws 3 == [42])
    · have hv : r = ⟨numS (nth ws 1), undash (nth ws 2), nth ws 3, false, numS (nth ws 4), []⟩ := by rw [← Hr.out, fiS, if_neg (by simpa using hst), hst]
      subst hv
      have hX : X w W := hX0.trans xx
      go_wp2
      refine bodyPost_row Tryz.results37 rfl (Bx.set (Bx.set (Bx.set (Bx.set (Bx.set (Bx.set hR 0 _) 1 _) 2 _) 3 _) 4 _) 5 _) file_Sp rfl rfl ?_
      exact ⟨rfl, by (repeat (first | with_reducible exact X.refl _ | with_reducible assumption | with_reducible refine X.setCell ?_ (by first | (simp; done) | (simp; omega)) _ | with_reducible refine X.ext ?_ _ | with_reducible refine X.alloc ?_ _ | with_reducible refine X.drew ?_))⟩
    · have hv : r = ⟨numS (nth ws 1), undash (nth ws 2), [], true, numS (nth ws 4), []⟩ := by rw [← Hr.out, fiS, if_pos (by simpa using hst), hst]
      subst hv
      have hX : X w W := hX0.trans xx
      have hXg : ∀ u v, X w ((W.setCell ⟨g, 2, none⟩ u).setCell ⟨g, 3, none⟩ v) := fun u v => (hX.setCell (p := ⟨g, 2, none⟩) (Nat.le_of_lt hg0) u).setCell (p := ⟨g, 3, none⟩) (Nat.le_of_lt hg0) v
      go_wp2
      refine bodyPost_row Tryz.results37 rfl (Bx.set (Bx.set (Bx.set (Bx.set (Bx.set (Bx.set (Bx.far (Bx.far hR (by simp; omega) _) (by simp; omega) _) 0 _) 1 _) 2 _) 3 _) 4 _) 5 _) file_Sp rfl rfl ?_
      exact ⟨rfl, x_set6 (hXg _ _) (Nat.le_refl _) _ _ _ _ _ _⟩

end Go.Proofs.YtmhcmabiolaoaaaGreatDoor
