/- The law of DiskAfter: the walk. No condition but lengths. -/
import Derived.Test.YtgjfjjhmgbemcaaGreatDoorLq
import Derived.Test.YtgjfjjhmgbemcaaGreatDoorLm
import Derived.Test.YtgjfjjhmgbemcaaGreatDoorLi
import Derived.Test.YtgjfjjhmgbemcaaGreatDoorLe
namespace Go.Proofs.YtgjfjjhmgbemcaaGreatDoor
open Go.RowKit

set_option maxRecDepth 100000 in
set_option maxHeartbeats 8000000 in
theorem FnDiskAfter_c (ca : Option Addr) (cn cc : Nat) (w : World) (hC : CodeAt w ca cn cc) (hG : Gm w) :
    Calls Tryz.prog 7 #[.slice ca cn cc] w fun e w' => e = .returned (.bool true) ∧ X w w' := by
  by_cases hbig : 1048576 < cn
  · go_enter Tryz.func7, Tryz.ntmps7
    go_wp2
    go_ret
    exact ⟨by simp, by (repeat (first | exact X.refl _ | assumption | refine X.ext ?_ _ | refine X.alloc ?_ _ | refine X.drew ?_))⟩
  · go_enter Tryz.func7, Tryz.ntmps7
    go_wp2_with fail
    refine (DrawDiskAfter_c ca cn cc _ hC (by omega)).mono ?_
    rintro _ W1 ⟨l, a, n, c, t, rfl, hA, hnc, hn16, htl, hth, hx1⟩
    go_wp2_with fail
    refine (DiskAfter_i l a n c _ t W1 hA (hG.mono hx1)).mono ?_
    rintro _ w3 ⟨_, rfl, hDk, hx3⟩
    have okA := hA.okA
    have hda := (aftR_ok t okA).1
    obtain ⟨R, hRR⟩ : ∃ R, aftR t l = R := ⟨_, rfl⟩
    rw [hRR] at hda hDk
    have HR := Lib.hid hRR
    clear hRR
    obtain ⟨a5, c5, da5, dc5, E5, rfl, k1, k2, k3, k4⟩ := hDk
    have hc5 := ana_cap k3.o
    have hd5 := ana_capD k4
    go_upto_region 5 with fail
    refine wp_name (fun W4 hW4 => ?_)
    have hB4 : Bx W4 w3.heap.size #[.slice a5 R.l.length c5, .int .i64 R.kk, .slice da5 R.dl.length dc5] := by rw [hW4]; exact Bx.new _ _ _
    have hx4 : X w3 W4 := by rw [hW4]; (repeat (first | with_reducible exact X.refl _ | with_reducible assumption | with_reducible refine X.setCell ?_ (by first | (simp; done) | (simp; omega)) _ | with_reducible refine X.ext ?_ _ | with_reducible refine X.alloc ?_ _ | with_reducible refine X.drew ?_))
    clear hW4
    have hA5 := (k3.o.at hda.1).mono (hx4.fr _)
    have hP5 := ((k4.less k1).at hda.2).mono (hx4.fr _)
    have hAc := hA.mono ((hx3.trans hx4).fr _)
    have hxw := (hx1.trans hx3).trans hx4
    have hG4 := hG.mono hxw
    have hcs : ∀ W, X W4 W → Calls Tryz.prog 22 #[.slice a n c, .int .i64 t] W fun e w' => ∃ ya yc yda ydc, e = .returned (.agg #[.slice ya R.l.length yc, .int .i64 R.kk, .slice yda R.dl.length ydc]) ∧ FilesAt w' W.heap.size ya R.l.length R.l ∧ DirsAt w' W.heap.size yda R.dl.length R.dl ∧ X W w' := by
      intro W hxW
      refine (DiskAfter_s l a n c _ t W (hAc.mono (hxW.fr _))).mono ?_
      rintro _ w' ⟨_, rfl, hO, hx⟩
      rw [HR.out] at hO
      obtain ⟨ya, yc, yda, ydc, E2, rfl, e1, e2, e3, e4⟩ := hO
      exact ⟨_, _, _, _, rfl, e3.o.at hda.1, (e4.less e1).at hda.2, hx⟩
    have Fin : ∀ W, X W4 W → (∃ B, B = W) → True := fun _ _ _ => trivial
    clear k1 k2 k3 k4 hx1 hx3 hx4 hA Fin
    cases h8 : actsB l
    ·
      refine wp_region_invG (fun L v W => X W4 W
          ∧ (L 3 = true → ∃ ya yc yda ydc, v 3 = .agg #[.slice ya R.l.length yc, .int .i64 R.kk, .slice yda R.dl.length ydc] ∧ FilesAt W W4.heap.size ya R.l.length R.l ∧ DirsAt W W4.heap.size yda R.dl.length R.dl)
          ∧ (L 0 = true → v 0 = .agg #[.slice a5 R.l.length c5, .int .i64 R.kk, .slice da5 R.dl.length dc5])
          ∧ (L 1 = true → v 1 = .slice a n c)
          ∧ (L 2 = true → v 2 = .int .i64 t)
          ∧ (L 4 = true → v 4 = .bool true)
          ∧ (L 5 = true → v 5 = .bool false)
          ∧ (L 6 = true → v 6 = .bool false)
          ∧ (L 7 = true → v 7 = .slice a n c)
          ∧ (L 8 = true → v 8 = .bool false)
          ∧ (L 9 = true → v 9 = .bool true)
          ∧ (L 10 = true → v 10 = .bool true)
          ∧ (L 11 = true → v 11 = .bool true)
          ∧ (L 14 = true → v 14 = .bool true)
          ∧ (L 15 = true → v 15 = .bool true)
          ∧ (L 18 = true → v 18 = .bool true)) (by kernel_rfl) (by kernel_rfl) ?_ ?_ (l := [(20, 0), (21, 1), (22, 2), (23, 3), (24, 4), (25, 5), (26, 6), (27, 7), (28, 8), (29, 9), (30, 10), (31, 11), (32, 12), (33, 13), (34, 14), (35, 15), (36, 16), (37, 17), (38, 18)]) (by kernel_rfl) (n := 19) rfl ?_
      · intro v
        exact ⟨(X.refl _).drew, fun h => Bool.noConfusion h, fun h => Bool.noConfusion h, fun h => Bool.noConfusion h, fun h => Bool.noConfusion h, fun h => Bool.noConfusion h, fun h => Bool.noConfusion h, fun h => Bool.noConfusion h, fun h => Bool.noConfusion h, fun h => Bool.noConfusion h, fun h => Bool.noConfusion h, fun h => Bool.noConfusion h, fun h => Bool.noConfusion h, fun h => Bool.noConfusion h, fun h => Bool.noConfusion h, fun h => Bool.noConfusion h⟩
      · intro i hi
        have hi' : i = 0 ∨ i = 1 ∨ i = 2 ∨ i = 3 ∨ i = 4 ∨ i = 5 ∨ i = 6 ∨ i = 7 ∨ i = 8 ∨ i = 9 ∨ i = 10 ∨ i = 11 ∨ i = 12 ∨ i = 13 ∨ i = 14 ∨ i = 15 ∨ i = 16 ∨ i = 17 ∨ i = 18 := by
          have : i < 19 := hi
          omega
        clear hi
        rcases hi' with rfl | rfl | rfl | rfl | rfl | rfl | rfl | rfl | rfl | rfl | rfl | rfl | rfl | rfl | rfl | rfl | rfl | rfl | rfl
        all_goals
          intro o ho L v aa W hI hS hL hA K hK
          cases (show some _ = some o from ho)
          obtain ⟨xx, rc, v0, v1, v2, v4, v5, v6, v7, v8, v9, v10, v11, v14, v15, v18⟩ := hI
        · have o5 := hS.old 5 (by kernel_rfl) rfl
          obtain ⟨lt5, ct5, _⟩ := (hB4.x xx).out
          have t0 := ct5 0
          have t1 := ct5 1
          have t2 := ct5 2
          clear ct5
          refine wantY (by exact rfl) ?_
          clear hS ho hA
          go_simp
          exact hK _ W ⟨xx, rc, fun _ => rfl, v1, v2, v4, v5, v6, v7, v8, v9, v10, v11, v14, v15, v18⟩
        · have o3 := hS.old 3 (by kernel_rfl) rfl
          refine wantY (by exact rfl) ?_
          clear hS ho hA
          go_simp
          exact hK _ W ⟨xx, rc, v0, fun _ => rfl, v2, v4, v5, v6, v7, v8, v9, v10, v11, v14, v15, v18⟩
        · have o4 := hS.old 4 (by kernel_rfl) rfl
          refine wantY (by exact rfl) ?_
          clear hS ho hA
          go_simp
          exact hK _ W ⟨xx, rc, v0, v1, fun _ => rfl, v4, v5, v6, v7, v8, v9, v10, v11, v14, v15, v18⟩
        · have l1 : L 1 = true := hA ⟨1, .data⟩ (by simp) rfl
          have g1 := hS.get 1 21 rfl l1 (v1 l1)
          have l2 : L 2 = true := hA ⟨2, .data⟩ (by simp) rfl
          have g2 := hS.get 2 22 rfl l2 (v2 l2)
          refine wantY (by exact rfl) ?_
          clear hS ho hA
          go_simp
          refine (hcs W xx).mono ?_
          rintro _ w' ⟨ya, yc, yda, ydc, rfl, h1, h2, hx⟩
          exact hK _ w' ⟨xx.trans hx, fun _ => ⟨ya, yc, yda, ydc, rfl, h1.less xx.size, h2.less xx.size⟩, v0, v1, v2, v4, v5, v6, v7, v8, v9, v10, v11, v14, v15, v18⟩
        · have l0 : L 0 = true := hA ⟨0, .data⟩ (by simp) rfl
          have g0 := hS.get 0 20 rfl l0 (v0 l0)
          have l3 : L 3 = true := hA ⟨3, .data⟩ (by simp) rfl
          obtain ⟨ya, yc, yda, ydc, e3, h1, h2⟩ := rc l3
          have g3 := hS.get 3 23 rfl l3 e3
          refine wantY (by exact rfl) ?_
          clear hS ho hA
          go_simp
          refine (equalDisk_c R.l R.kk R.dl a5 ya da5 yda _ c5 yc _ dc5 ydc _ _ _ _ W (hA5.mono (xx.fr _)) h1 (hP5.mono (xx.fr _)) h2).mono ?_
          rintro _ w' ⟨rfl, hx⟩
          exact hK _ w' ⟨xx.trans hx, fun h => let ⟨ya, yc, yda, ydc, e, h1, h2⟩ := rc h; ⟨ya, yc, yda, ydc, e, h1.mono (hx.fr _), h2.mono (hx.fr _)⟩, v0, v1, v2, fun _ => rfl, v5, v6, v7, v8, v9, v10, v11, v14, v15, v18⟩
        · have l4 : L 4 = true := hA ⟨4, .data⟩ (by simp) rfl
          have g4 := hS.get 4 24 rfl l4 (v4 l4)
          refine wantY (by exact rfl) ?_
          clear hS ho hA
          go_simp
          exact hK _ W ⟨xx, rc, v0, v1, v2, v4, fun _ => rfl, v6, v7, v8, v9, v10, v11, v14, v15, v18⟩
        · have l5 : L 5 = true := hA ⟨5, .data⟩ (by simp) rfl
          have g5 := hS.get 5 25 rfl l5 (v5 l5)
          refine wantY (by exact rfl) ?_
          clear hS ho hA
          go_simp
          exact hK _ W ⟨xx, rc, v0, v1, v2, v4, v5, fun _ => rfl, v7, v8, v9, v10, v11, v14, v15, v18⟩
        · have l6 : L 6 = true := hA ⟨6, .guard⟩ (by simp) rfl
          have o3 := hS.old 3 (by kernel_rfl) rfl
          refine wantY (by rw [wanted_of rfl (hS.yield 6 26 rfl l6 (v6 l6))]; rfl) ?_
          clear hS ho hA
          go_simp
          exact hK _ W ⟨xx, rc, v0, v1, v2, v4, v5, v6, fun _ => rfl, v8, v9, v10, v11, v14, v15, v18⟩
        · have l6 : L 6 = true := hA ⟨6, .guard⟩ (by simp) rfl
          have l7 : L 7 = true := hA ⟨7, .data⟩ (by simp) rfl
          have g7 := hS.get 7 27 rfl l7 (v7 l7)
          refine wantY (by rw [wanted_of rfl (hS.yield 6 26 rfl l6 (v6 l6))]; rfl) ?_
          clear hS ho hA
          go_simp
          refine (ValidActs_i l a n c _ W (hAc.mono (xx.fr _)) (hG4.mono xx)).mono ?_
          rw [h8]
          rintro _ w' ⟨rfl, hx⟩
          exact hK _ w' ⟨xx.trans hx, fun h => let ⟨ya, yc, yda, ydc, e, h1, h2⟩ := rc h; ⟨ya, yc, yda, ydc, e, h1.mono (hx.fr _), h2.mono (hx.fr _)⟩, v0, v1, v2, v4, v5, v6, v7, fun _ => rfl, v9, v10, v11, v14, v15, v18⟩
        · have l6 : L 6 = true := hA ⟨6, .guard⟩ (by simp) rfl
          have l8 : L 8 = true := hA ⟨8, .data⟩ (by simp) rfl
          have g8 := hS.get 8 28 rfl l8 (v8 l8)
          refine wantY (by rw [wanted_of rfl (hS.yield 6 26 rfl l6 (v6 l6))]; rfl) ?_
          clear hS ho hA
          go_simp
          exact hK _ W ⟨xx, rc, v0, v1, v2, v4, v5, v6, v7, v8, fun _ => rfl, v10, v11, v14, v15, v18⟩
        · have l6 : L 6 = true := hA ⟨6, .data⟩ (by simp) rfl
          have g6 := hS.get 6 26 rfl l6 (v6 l6)
          have l9 : L 9 = true := hA ⟨9, .data⟩ (by simp) rfl
          have g9 := hS.get 9 29 rfl l9 (v9 l9)
          refine wantY (by exact rfl) ?_
          clear hS ho hA
          go_simp
          exact hK _ W ⟨xx, rc, v0, v1, v2, v4, v5, v6, v7, v8, v9, fun _ => rfl, v11, v14, v15, v18⟩
        · have l10 : L 10 = true := hA ⟨10, .data⟩ (by simp) rfl
          have g10 := hS.get 10 30 rfl l10 (v10 l10)
          refine wantY (by exact rfl) ?_
          clear hS ho hA
          go_simp
          exact hK _ W ⟨xx, rc, v0, v1, v2, v4, v5, v6, v7, v8, v9, v10, fun _ => rfl, v14, v15, v18⟩
        · have l11 : L 11 = true := hA ⟨11, .guard⟩ (by simp) rfl
          refine wantN (by rw [wanted_of rfl (hS.yield 11 31 rfl l11 (v11 l11))]; decide) ?_
          exact hK _ W ⟨xx, rc, v0, v1, v2, v4, v5, v6, v7, v8, v9, v10, v11, v14, v15, v18⟩
        · have l11 : L 11 = true := hA ⟨11, .guard⟩ (by simp) rfl
          refine wantN (by rw [wanted_of rfl (hS.yield 11 31 rfl l11 (v11 l11))]; decide) ?_
          exact hK _ W ⟨xx, rc, v0, v1, v2, v4, v5, v6, v7, v8, v9, v10, v11, v14, v15, v18⟩
        · have l11 : L 11 = true := hA ⟨11, .data⟩ (by simp) rfl
          have g11 := hS.get 11 31 rfl l11 (v11 l11)
          refine wantY (by exact rfl) ?_
          clear hS ho hA
          go_simp
          exact hK _ W ⟨xx, rc, v0, v1, v2, v4, v5, v6, v7, v8, v9, v10, v11, fun _ => rfl, v15, v18⟩
        · have l14 : L 14 = true := hA ⟨14, .data⟩ (by simp) rfl
          have g14 := hS.get 14 34 rfl l14 (v14 l14)
          refine wantY (by exact rfl) ?_
          clear hS ho hA
          go_simp
          exact hK _ W ⟨xx, rc, v0, v1, v2, v4, v5, v6, v7, v8, v9, v10, v11, v14, fun _ => rfl, v18⟩
        · have l15 : L 15 = true := hA ⟨15, .guard⟩ (by simp) rfl
          refine wantN (by rw [wanted_of rfl (hS.yield 15 35 rfl l15 (v15 l15))]; decide) ?_
          exact hK _ W ⟨xx, rc, v0, v1, v2, v4, v5, v6, v7, v8, v9, v10, v11, v14, v15, v18⟩
        · have l15 : L 15 = true := hA ⟨15, .guard⟩ (by simp) rfl
          refine wantN (by rw [wanted_of rfl (hS.yield 15 35 rfl l15 (v15 l15))]; decide) ?_
          exact hK _ W ⟨xx, rc, v0, v1, v2, v4, v5, v6, v7, v8, v9, v10, v11, v14, v15, v18⟩
        · have l15 : L 15 = true := hA ⟨15, .data⟩ (by simp) rfl
          have g15 := hS.get 15 35 rfl l15 (v15 l15)
          refine wantY (by exact rfl) ?_
          clear hS ho hA
          go_simp
          exact hK _ W ⟨xx, rc, v0, v1, v2, v4, v5, v6, v7, v8, v9, v10, v11, v14, v15, fun _ => rfl⟩
      intro v W9 hI
      obtain ⟨xx, rc, v0, v1, v2, v4, v5, v6, v7, v8, v9, v10, v11, v14, v15, v18⟩ := hI
      have e0 := v0 rfl
      have e1 := v1 rfl
      have e2 := v2 rfl
      have e4 := v4 rfl
      have e5 := v5 rfl
      have e6 := v6 rfl
      have e7 := v7 rfl
      have e8 := v8 rfl
      have e9 := v9 rfl
      have e10 := v10 rfl
      have e11 := v11 rfl
      have e14 := v14 rfl
      have e15 := v15 rfl
      have e18 := v18 rfl
      clear v0 v1 v2 v4 v5 v6 v7 v8 v9 v10 v11 v14 v15 v18
      clear rc
      simp only [putL, List.foldl, List.setIfInBounds_toArray, List.set_cons_zero, List.set_cons_succ, e0, e1, e2, e4, e5, e6, e7, e8, e9, e10, e11, e14, e15, e18]
      clear e0 e1 e2 e4 e5 e6 e7 e8 e9 e10 e11 e14 e15 e18
      have hB9 := hB4.x xx
      have hA9 := hA5.mono (xx.fr _)
      have hP9 := hP5.mono (xx.fr _)
      have hcs9 : ∀ W, X W9 W → Calls Tryz.prog 22 #[.slice a n c, .int .i64 t] W fun e w' => ∃ ya yc yda ydc, e = .returned (.agg #[.slice ya R.l.length yc, .int .i64 R.kk, .slice yda R.dl.length ydc]) ∧ FilesAt w' W.heap.size ya R.l.length R.l ∧ DirsAt w' W.heap.size yda R.dl.length R.dl ∧ X W w' := fun W h => hcs W (xx.trans h)
      replace hxw := hxw.trans xx
      clear xx
      go_wp2_with fail
      refine wp_region_inv (fun L v W => X W9 W
          ∧ (L 3 = true → ∃ ya yc yda ydc, v 3 = .agg #[.slice ya R.l.length yc, .int .i64 R.kk, .slice yda R.dl.length ydc] ∧ FilesAt W W9.heap.size ya R.l.length R.l ∧ DirsAt W W9.heap.size yda R.dl.length R.dl)
          ∧ (L 0 = true → v 0 = .agg #[.slice a5 R.l.length c5, .int .i64 R.kk, .slice da5 R.dl.length dc5])
          ∧ (L 1 = true → v 1 = .slice a n c)
          ∧ (L 2 = true → v 2 = .int .i64 t)
          ∧ (L 4 = true → v 4 = .bool true)
          ∧ (L 5 = true → v 5 = .bool true)) (by kernel_rfl) (by kernel_rfl) ?_ ?_ (l := [(39, 0), (40, 1), (41, 2), (42, 3), (43, 4), (2, 5)]) (by kernel_rfl) (n := 6) rfl ?_
      · intro v
        exact ⟨(X.refl _).drew, fun h => Bool.noConfusion h, fun h => Bool.noConfusion h, fun h => Bool.noConfusion h, fun h => Bool.noConfusion h, fun h => Bool.noConfusion h, fun h => Bool.noConfusion h⟩
      · intro i hi
        have hi' : i = 0 ∨ i = 1 ∨ i = 2 ∨ i = 3 ∨ i = 4 ∨ i = 5 := by
          have : i < 6 := hi
          omega
        clear hi
        rcases hi' with rfl | rfl | rfl | rfl | rfl | rfl
        all_goals
          intro o ho L v aa W hI hS hL hA K hK
          cases (show some _ = some o from ho)
          obtain ⟨xx, rc, v0, v1, v2, v4, v5⟩ := hI
        · have o5 := hS.old 5 (by kernel_rfl) rfl
          obtain ⟨lt5, ct5, _⟩ := (hB9.x xx).out
          have t0 := ct5 0
          have t1 := ct5 1
          have t2 := ct5 2
          clear ct5
          clear hS ho hA
          go_simp
          exact hK _ W ⟨xx, rc, fun _ => rfl, v1, v2, v4, v5⟩
        · have o3 := hS.old 3 (by kernel_rfl) rfl
          clear hS ho hA
          go_simp
          exact hK _ W ⟨xx, rc, v0, fun _ => rfl, v2, v4, v5⟩
        · have o4 := hS.old 4 (by kernel_rfl) rfl
          clear hS ho hA
          go_simp
          exact hK _ W ⟨xx, rc, v0, v1, fun _ => rfl, v4, v5⟩
        · have l1 : L 1 = true := hA ⟨1, .data⟩ (by simp) rfl
          have g1 := hS.get 1 40 rfl l1 (v1 l1)
          have l2 : L 2 = true := hA ⟨2, .data⟩ (by simp) rfl
          have g2 := hS.get 2 41 rfl l2 (v2 l2)
          clear hS ho hA
          go_simp
          refine (hcs9 W xx).mono ?_
          rintro _ w' ⟨ya, yc, yda, ydc, rfl, h1, h2, hx⟩
          exact hK _ w' ⟨xx.trans hx, fun _ => ⟨ya, yc, yda, ydc, rfl, h1.less xx.size, h2.less xx.size⟩, v0, v1, v2, v4, v5⟩
        · have l0 : L 0 = true := hA ⟨0, .data⟩ (by simp) rfl
          have g0 := hS.get 0 39 rfl l0 (v0 l0)
          have l3 : L 3 = true := hA ⟨3, .data⟩ (by simp) rfl
          obtain ⟨ya, yc, yda, ydc, e3, h1, h2⟩ := rc l3
          have g3 := hS.get 3 42 rfl l3 e3
          clear hS ho hA
          go_simp
          refine (equalDisk_c R.l R.kk R.dl a5 ya da5 yda _ c5 yc _ dc5 ydc _ _ _ _ W (hA9.mono (xx.fr _)) h1 (hP9.mono (xx.fr _)) h2).mono ?_
          rintro _ w' ⟨rfl, hx⟩
          exact hK _ w' ⟨xx.trans hx, fun h => let ⟨ya, yc, yda, ydc, e, h1, h2⟩ := rc h; ⟨ya, yc, yda, ydc, e, h1.mono (hx.fr _), h2.mono (hx.fr _)⟩, v0, v1, v2, fun _ => rfl, v5⟩
        · have l4 : L 4 = true := hA ⟨4, .data⟩ (by simp) rfl
          have g4 := hS.get 4 43 rfl l4 (v4 l4)
          clear hS ho hA
          go_simp
          exact hK _ W ⟨xx, rc, v0, v1, v2, v4, fun _ => rfl⟩
      intro v W8 hI
      obtain ⟨xx, rc, v0, v1, v2, v4, v5⟩ := hI
      have e0 := v0 rfl
      have e1 := v1 rfl
      have e2 := v2 rfl
      have e4 := v4 rfl
      have e5 := v5 rfl
      clear v0 v1 v2 v4 v5
      clear rc
      simp only [putL, List.foldl, List.setIfInBounds_toArray, List.set_cons_zero, List.set_cons_succ, e0, e1, e2, e4, e5]
      clear e0 e1 e2 e4 e5
      go_wp2
      go_ret
      exact ⟨rfl, hxw.trans xx⟩
    by_cases h13 : t < 0
    ·
      refine wp_region_invG (fun L v W => X W4 W
          ∧ (L 3 = true → ∃ ya yc yda ydc, v 3 = .agg #[.slice ya R.l.length yc, .int .i64 R.kk, .slice yda R.dl.length ydc] ∧ FilesAt W W4.heap.size ya R.l.length R.l ∧ DirsAt W W4.heap.size yda R.dl.length R.dl)
          ∧ (L 0 = true → v 0 = .agg #[.slice a5 R.l.length c5, .int .i64 R.kk, .slice da5 R.dl.length dc5])
          ∧ (L 1 = true → v 1 = .slice a n c)
          ∧ (L 2 = true → v 2 = .int .i64 t)
          ∧ (L 4 = true → v 4 = .bool true)
          ∧ (L 5 = true → v 5 = .bool false)
          ∧ (L 6 = true → v 6 = .bool false)
          ∧ (L 7 = true → v 7 = .slice a n c)
          ∧ (L 8 = true → v 8 = .bool true)
          ∧ (L 9 = true → v 9 = .bool false)
          ∧ (L 10 = true → v 10 = .bool false)
          ∧ (L 11 = true → v 11 = .bool false)
          ∧ (L 12 = true → v 12 = .int .i64 t)
          ∧ (L 13 = true → v 13 = .bool true)
          ∧ (L 14 = true → v 14 = .bool true)
          ∧ (L 15 = true → v 15 = .bool true)
          ∧ (L 18 = true → v 18 = .bool true)) (by kernel_rfl) (by kernel_rfl) ?_ ?_ (l := [(20, 0), (21, 1), (22, 2), (23, 3), (24, 4), (25, 5), (26, 6), (27, 7), (28, 8), (29, 9), (30, 10), (31, 11), (32, 12), (33, 13), (34, 14), (35, 15), (36, 16), (37, 17), (38, 18)]) (by kernel_rfl) (n := 19) rfl ?_
      · intro v
        exact ⟨(X.refl _).drew, fun h => Bool.noConfusion h, fun h => Bool.noConfusion h, fun h => Bool.noConfusion h, fun h => Bool.noConfusion h, fun h => Bool.noConfusion h, fun h => Bool.noConfusion h, fun h => Bool.noConfusion h, fun h => Bool.noConfusion h, fun h => Bool.noConfusion h, fun h => Bool.noConfusion h, fun h => Bool.noConfusion h, fun h => Bool.noConfusion h, fun h => Bool.noConfusion h, fun h => Bool.noConfusion h, fun h => Bool.noConfusion h, fun h => Bool.noConfusion h, fun h => Bool.noConfusion h⟩
      · intro i hi
        have hi' : i = 0 ∨ i = 1 ∨ i = 2 ∨ i = 3 ∨ i = 4 ∨ i = 5 ∨ i = 6 ∨ i = 7 ∨ i = 8 ∨ i = 9 ∨ i = 10 ∨ i = 11 ∨ i = 12 ∨ i = 13 ∨ i = 14 ∨ i = 15 ∨ i = 16 ∨ i = 17 ∨ i = 18 := by
          have : i < 19 := hi
          omega
        clear hi
        rcases hi' with rfl | rfl | rfl | rfl | rfl | rfl | rfl | rfl | rfl | rfl | rfl | rfl | rfl | rfl | rfl | rfl | rfl | rfl | rfl
        all_goals
          intro o ho L v aa W hI hS hL hA K hK
          cases (show some _ = some o from ho)
          obtain ⟨xx, rc, v0, v1, v2, v4, v5, v6, v7, v8, v9, v10, v11, v12, v13, v14, v15, v18⟩ := hI
        · have o5 := hS.old 5 (by kernel_rfl) rfl
          obtain ⟨lt5, ct5, _⟩ := (hB4.x xx).out
          have t0 := ct5 0
          have t1 := ct5 1
          have t2 := ct5 2
          clear ct5
          refine wantY (by exact rfl) ?_
          clear hS ho hA
          go_simp
          exact hK _ W ⟨xx, rc, fun _ => rfl, v1, v2, v4, v5, v6, v7, v8, v9, v10, v11, v12, v13, v14, v15, v18⟩
        · have o3 := hS.old 3 (by kernel_rfl) rfl
          refine wantY (by exact rfl) ?_
          clear hS ho hA
          go_simp
          exact hK _ W ⟨xx, rc, v0, fun _ => rfl, v2, v4, v5, v6, v7, v8, v9, v10, v11, v12, v13, v14, v15, v18⟩
        · have o4 := hS.old 4 (by kernel_rfl) rfl
          refine wantY (by exact rfl) ?_
          clear hS ho hA
          go_simp
          exact hK _ W ⟨xx, rc, v0, v1, fun _ => rfl, v4, v5, v6, v7, v8, v9, v10, v11, v12, v13, v14, v15, v18⟩
        · have l1 : L 1 = true := hA ⟨1, .data⟩ (by simp) rfl
          have g1 := hS.get 1 21 rfl l1 (v1 l1)
          have l2 : L 2 = true := hA ⟨2, .data⟩ (by simp) rfl
          have g2 := hS.get 2 22 rfl l2 (v2 l2)
          refine wantY (by exact rfl) ?_
          clear hS ho hA
          go_simp
          refine (hcs W xx).mono ?_
          rintro _ w' ⟨ya, yc, yda, ydc, rfl, h1, h2, hx⟩
          exact hK _ w' ⟨xx.trans hx, fun _ => ⟨ya, yc, yda, ydc, rfl, h1.less xx.size, h2.less xx.size⟩, v0, v1, v2, v4, v5, v6, v7, v8, v9, v10, v11, v12, v13, v14, v15, v18⟩
        · have l0 : L 0 = true := hA ⟨0, .data⟩ (by simp) rfl
          have g0 := hS.get 0 20 rfl l0 (v0 l0)
          have l3 : L 3 = true := hA ⟨3, .data⟩ (by simp) rfl
          obtain ⟨ya, yc, yda, ydc, e3, h1, h2⟩ := rc l3
          have g3 := hS.get 3 23 rfl l3 e3
          refine wantY (by exact rfl) ?_
          clear hS ho hA
          go_simp
          refine (equalDisk_c R.l R.kk R.dl a5 ya da5 yda _ c5 yc _ dc5 ydc _ _ _ _ W (hA5.mono (xx.fr _)) h1 (hP5.mono (xx.fr _)) h2).mono ?_
          rintro _ w' ⟨rfl, hx⟩
          exact hK _ w' ⟨xx.trans hx, fun h => let ⟨ya, yc, yda, ydc, e, h1, h2⟩ := rc h; ⟨ya, yc, yda, ydc, e, h1.mono (hx.fr _), h2.mono (hx.fr _)⟩, v0, v1, v2, fun _ => rfl, v5, v6, v7, v8, v9, v10, v11, v12, v13, v14, v15, v18⟩
        · have l4 : L 4 = true := hA ⟨4, .data⟩ (by simp) rfl
          have g4 := hS.get 4 24 rfl l4 (v4 l4)
          refine wantY (by exact rfl) ?_
          clear hS ho hA
          go_simp
          exact hK _ W ⟨xx, rc, v0, v1, v2, v4, fun _ => rfl, v6, v7, v8, v9, v10, v11, v12, v13, v14, v15, v18⟩
        · have l5 : L 5 = true := hA ⟨5, .data⟩ (by simp) rfl
          have g5 := hS.get 5 25 rfl l5 (v5 l5)
          refine wantY (by exact rfl) ?_
          clear hS ho hA
          go_simp
          exact hK _ W ⟨xx, rc, v0, v1, v2, v4, v5, fun _ => rfl, v7, v8, v9, v10, v11, v12, v13, v14, v15, v18⟩
        · have l6 : L 6 = true := hA ⟨6, .guard⟩ (by simp) rfl
          have o3 := hS.old 3 (by kernel_rfl) rfl
          refine wantY (by rw [wanted_of rfl (hS.yield 6 26 rfl l6 (v6 l6))]; rfl) ?_
          clear hS ho hA
          go_simp
          exact hK _ W ⟨xx, rc, v0, v1, v2, v4, v5, v6, fun _ => rfl, v8, v9, v10, v11, v12, v13, v14, v15, v18⟩
        · have l6 : L 6 = true := hA ⟨6, .guard⟩ (by simp) rfl
          have l7 : L 7 = true := hA ⟨7, .data⟩ (by simp) rfl
          have g7 := hS.get 7 27 rfl l7 (v7 l7)
          refine wantY (by rw [wanted_of rfl (hS.yield 6 26 rfl l6 (v6 l6))]; rfl) ?_
          clear hS ho hA
          go_simp
          refine (ValidActs_i l a n c _ W (hAc.mono (xx.fr _)) (hG4.mono xx)).mono ?_
          rw [h8]
          rintro _ w' ⟨rfl, hx⟩
          exact hK _ w' ⟨xx.trans hx, fun h => let ⟨ya, yc, yda, ydc, e, h1, h2⟩ := rc h; ⟨ya, yc, yda, ydc, e, h1.mono (hx.fr _), h2.mono (hx.fr _)⟩, v0, v1, v2, v4, v5, v6, v7, fun _ => rfl, v9, v10, v11, v12, v13, v14, v15, v18⟩
        · have l6 : L 6 = true := hA ⟨6, .guard⟩ (by simp) rfl
          have l8 : L 8 = true := hA ⟨8, .data⟩ (by simp) rfl
          have g8 := hS.get 8 28 rfl l8 (v8 l8)
          refine wantY (by rw [wanted_of rfl (hS.yield 6 26 rfl l6 (v6 l6))]; rfl) ?_
          clear hS ho hA
          go_simp
          exact hK _ W ⟨xx, rc, v0, v1, v2, v4, v5, v6, v7, v8, fun _ => rfl, v10, v11, v12, v13, v14, v15, v18⟩
        · have l6 : L 6 = true := hA ⟨6, .data⟩ (by simp) rfl
          have g6 := hS.get 6 26 rfl l6 (v6 l6)
          have l9 : L 9 = true := hA ⟨9, .data⟩ (by simp) rfl
          have g9 := hS.get 9 29 rfl l9 (v9 l9)
          refine wantY (by exact rfl) ?_
          clear hS ho hA
          go_simp
          exact hK _ W ⟨xx, rc, v0, v1, v2, v4, v5, v6, v7, v8, v9, fun _ => rfl, v11, v12, v13, v14, v15, v18⟩
        · have l10 : L 10 = true := hA ⟨10, .data⟩ (by simp) rfl
          have g10 := hS.get 10 30 rfl l10 (v10 l10)
          refine wantY (by exact rfl) ?_
          clear hS ho hA
          go_simp
          exact hK _ W ⟨xx, rc, v0, v1, v2, v4, v5, v6, v7, v8, v9, v10, fun _ => rfl, v12, v13, v14, v15, v18⟩
        · have l11 : L 11 = true := hA ⟨11, .guard⟩ (by simp) rfl
          have o4 := hS.old 4 (by kernel_rfl) rfl
          refine wantY (by rw [wanted_of rfl (hS.yield 11 31 rfl l11 (v11 l11))]; rfl) ?_
          clear hS ho hA
          go_simp
          exact hK _ W ⟨xx, rc, v0, v1, v2, v4, v5, v6, v7, v8, v9, v10, v11, fun _ => rfl, v13, v14, v15, v18⟩
        · have l11 : L 11 = true := hA ⟨11, .guard⟩ (by simp) rfl
          have l12 : L 12 = true := hA ⟨12, .data⟩ (by simp) rfl
          have g12 := hS.get 12 32 rfl l12 (v12 l12)
          refine wantY (by rw [wanted_of rfl (hS.yield 11 31 rfl l11 (v11 l11))]; rfl) ?_
          clear hS ho hA
          go_simp
          exact hK _ W ⟨xx, rc, v0, v1, v2, v4, v5, v6, v7, v8, v9, v10, v11, v12, fun _ => rfl, v14, v15, v18⟩
        · have l11 : L 11 = true := hA ⟨11, .data⟩ (by simp) rfl
          have g11 := hS.get 11 31 rfl l11 (v11 l11)
          have l13 : L 13 = true := hA ⟨13, .data⟩ (by simp) rfl
          have g13 := hS.get 13 33 rfl l13 (v13 l13)
          refine wantY (by exact rfl) ?_
          clear hS ho hA
          go_simp
          exact hK _ W ⟨xx, rc, v0, v1, v2, v4, v5, v6, v7, v8, v9, v10, v11, v12, v13, fun _ => rfl, v15, v18⟩
        · have l14 : L 14 = true := hA ⟨14, .data⟩ (by simp) rfl
          have g14 := hS.get 14 34 rfl l14 (v14 l14)
          refine wantY (by exact rfl) ?_
          clear hS ho hA
          go_simp
          exact hK _ W ⟨xx, rc, v0, v1, v2, v4, v5, v6, v7, v8, v9, v10, v11, v12, v13, v14, fun _ => rfl, v18⟩
        · have l15 : L 15 = true := hA ⟨15, .guard⟩ (by simp) rfl
          refine wantN (by rw [wanted_of rfl (hS.yield 15 35 rfl l15 (v15 l15))]; decide) ?_
          exact hK _ W ⟨xx, rc, v0, v1, v2, v4, v5, v6, v7, v8, v9, v10, v11, v12, v13, v14, v15, v18⟩
        · have l15 : L 15 = true := hA ⟨15, .guard⟩ (by simp) rfl
          refine wantN (by rw [wanted_of rfl (hS.yield 15 35 rfl l15 (v15 l15))]; decide) ?_
          exact hK _ W ⟨xx, rc, v0, v1, v2, v4, v5, v6, v7, v8, v9, v10, v11, v12, v13, v14, v15, v18⟩
        · have l15 : L 15 = true := hA ⟨15, .data⟩ (by simp) rfl
          have g15 := hS.get 15 35 rfl l15 (v15 l15)
          refine wantY (by exact rfl) ?_
          clear hS ho hA
          go_simp
          exact hK _ W ⟨xx, rc, v0, v1, v2, v4, v5, v6, v7, v8, v9, v10, v11, v12, v13, v14, v15, fun _ => rfl⟩
      intro v W9 hI
      obtain ⟨xx, rc, v0, v1, v2, v4, v5, v6, v7, v8, v9, v10, v11, v12, v13, v14, v15, v18⟩ := hI
      have e0 := v0 rfl
      have e1 := v1 rfl
      have e2 := v2 rfl
      have e4 := v4 rfl
      have e5 := v5 rfl
      have e6 := v6 rfl
      have e7 := v7 rfl
      have e8 := v8 rfl
      have e9 := v9 rfl
      have e10 := v10 rfl
      have e11 := v11 rfl
      have e12 := v12 rfl
      have e13 := v13 rfl
      have e14 := v14 rfl
      have e15 := v15 rfl
      have e18 := v18 rfl
      clear v0 v1 v2 v4 v5 v6 v7 v8 v9 v10 v11 v12 v13 v14 v15 v18
      clear rc
      simp only [putL, List.foldl, List.setIfInBounds_toArray, List.set_cons_zero, List.set_cons_succ, e0, e1, e2, e4, e5, e6, e7, e8, e9, e10, e11, e12, e13, e14, e15, e18]
      clear e0 e1 e2 e4 e5 e6 e7 e8 e9 e10 e11 e12 e13 e14 e15 e18
      have hB9 := hB4.x xx
      have hA9 := hA5.mono (xx.fr _)
      have hP9 := hP5.mono (xx.fr _)
      have hcs9 : ∀ W, X W9 W → Calls Tryz.prog 22 #[.slice a n c, .int .i64 t] W fun e w' => ∃ ya yc yda ydc, e = .returned (.agg #[.slice ya R.l.length yc, .int .i64 R.kk, .slice yda R.dl.length ydc]) ∧ FilesAt w' W.heap.size ya R.l.length R.l ∧ DirsAt w' W.heap.size yda R.dl.length R.dl ∧ X W w' := fun W h => hcs W (xx.trans h)
      replace hxw := hxw.trans xx
      clear xx
      go_wp2_with fail
      refine wp_region_inv (fun L v W => X W9 W
          ∧ (L 3 = true → ∃ ya yc yda ydc, v 3 = .agg #[.slice ya R.l.length yc, .int .i64 R.kk, .slice yda R.dl.length ydc] ∧ FilesAt W W9.heap.size ya R.l.length R.l ∧ DirsAt W W9.heap.size yda R.dl.length R.dl)
          ∧ (L 0 = true → v 0 = .agg #[.slice a5 R.l.length c5, .int .i64 R.kk, .slice da5 R.dl.length dc5])
          ∧ (L 1 = true → v 1 = .slice a n c)
          ∧ (L 2 = true → v 2 = .int .i64 t)
          ∧ (L 4 = true → v 4 = .bool true)
          ∧ (L 5 = true → v 5 = .bool true)) (by kernel_rfl) (by kernel_rfl) ?_ ?_ (l := [(39, 0), (40, 1), (41, 2), (42, 3), (43, 4), (2, 5)]) (by kernel_rfl) (n := 6) rfl ?_
      · intro v
        exact ⟨(X.refl _).drew, fun h => Bool.noConfusion h, fun h => Bool.noConfusion h, fun h => Bool.noConfusion h, fun h => Bool.noConfusion h, fun h => Bool.noConfusion h, fun h => Bool.noConfusion h⟩
      · intro i hi
        have hi' : i = 0 ∨ i = 1 ∨ i = 2 ∨ i = 3 ∨ i = 4 ∨ i = 5 := by
          have : i < 6 := hi
          omega
        clear hi
        rcases hi' with rfl | rfl | rfl | rfl | rfl | rfl
        all_goals
          intro o ho L v aa W hI hS hL hA K hK
          cases (show some _ = some o from ho)
          obtain ⟨xx, rc, v0, v1, v2, v4, v5⟩ := hI
        · have o5 := hS.old 5 (by kernel_rfl) rfl
          obtain ⟨lt5, ct5, _⟩ := (hB9.x xx).out
          have t0 := ct5 0
          have t1 := ct5 1
          have t2 := ct5 2
          clear ct5
          clear hS ho hA
          go_simp
          exact hK _ W ⟨xx, rc, fun _ => rfl, v1, v2, v4, v5⟩
        · have o3 := hS.old 3 (by kernel_rfl) rfl
          clear hS ho hA
          go_simp
          exact hK _ W ⟨xx, rc, v0, fun _ => rfl, v2, v4, v5⟩
        · have o4 := hS.old 4 (by kernel_rfl) rfl
          clear hS ho hA
          go_simp
          exact hK _ W ⟨xx, rc, v0, v1, fun _ => rfl, v4, v5⟩
        · have l1 : L 1 = true := hA ⟨1, .data⟩ (by simp) rfl
          have g1 := hS.get 1 40 rfl l1 (v1 l1)
          have l2 : L 2 = true := hA ⟨2, .data⟩ (by simp) rfl
          have g2 := hS.get 2 41 rfl l2 (v2 l2)
          clear hS ho hA
          go_simp
          refine (hcs9 W xx).mono ?_
          rintro _ w' ⟨ya, yc, yda, ydc, rfl, h1, h2, hx⟩
          exact hK _ w' ⟨xx.trans hx, fun _ => ⟨ya, yc, yda, ydc, rfl, h1.less xx.size, h2.less xx.size⟩, v0, v1, v2, v4, v5⟩
        · have l0 : L 0 = true := hA ⟨0, .data⟩ (by simp) rfl
          have g0 := hS.get 0 39 rfl l0 (v0 l0)
          have l3 : L 3 = true := hA ⟨3, .data⟩ (by simp) rfl
          obtain ⟨ya, yc, yda, ydc, e3, h1, h2⟩ := rc l3
          have g3 := hS.get 3 42 rfl l3 e3
          clear hS ho hA
          go_simp
          refine (equalDisk_c R.l R.kk R.dl a5 ya da5 yda _ c5 yc _ dc5 ydc _ _ _ _ W (hA9.mono (xx.fr _)) h1 (hP9.mono (xx.fr _)) h2).mono ?_
          rintro _ w' ⟨rfl, hx⟩
          exact hK _ w' ⟨xx.trans hx, fun h => let ⟨ya, yc, yda, ydc, e, h1, h2⟩ := rc h; ⟨ya, yc, yda, ydc, e, h1.mono (hx.fr _), h2.mono (hx.fr _)⟩, v0, v1, v2, fun _ => rfl, v5⟩
        · have l4 : L 4 = true := hA ⟨4, .data⟩ (by simp) rfl
          have g4 := hS.get 4 43 rfl l4 (v4 l4)
          clear hS ho hA
          go_simp
          exact hK _ W ⟨xx, rc, v0, v1, v2, v4, fun _ => rfl⟩
      intro v W8 hI
      obtain ⟨xx, rc, v0, v1, v2, v4, v5⟩ := hI
      have e0 := v0 rfl
      have e1 := v1 rfl
      have e2 := v2 rfl
      have e4 := v4 rfl
      have e5 := v5 rfl
      clear v0 v1 v2 v4 v5
      clear rc
      simp only [putL, List.foldl, List.setIfInBounds_toArray, List.set_cons_zero, List.set_cons_succ, e0, e1, e2, e4, e5]
      clear e0 e1 e2 e4 e5
      go_wp2
      go_ret
      exact ⟨rfl, hxw.trans xx⟩
    by_cases h17 : 4 < t
    ·
      refine wp_region_invG (fun L v W => X W4 W
          ∧ (L 3 = true → ∃ ya yc yda ydc, v 3 = .agg #[.slice ya R.l.length yc, .int .i64 R.kk, .slice yda R.dl.length ydc] ∧ FilesAt W W4.heap.size ya R.l.length R.l ∧ DirsAt W W4.heap.size yda R.dl.length R.dl)
          ∧ (L 0 = true → v 0 = .agg #[.slice a5 R.l.length c5, .int .i64 R.kk, .slice da5 R.dl.length dc5])
          ∧ (L 1 = true → v 1 = .slice a n c)
          ∧ (L 2 = true → v 2 = .int .i64 t)
          ∧ (L 4 = true → v 4 = .bool true)
          ∧ (L 5 = true → v 5 = .bool false)
          ∧ (L 6 = true → v 6 = .bool false)
          ∧ (L 7 = true → v 7 = .slice a n c)
          ∧ (L 8 = true → v 8 = .bool true)
          ∧ (L 9 = true → v 9 = .bool false)
          ∧ (L 10 = true → v 10 = .bool false)
          ∧ (L 11 = true → v 11 = .bool false)
          ∧ (L 12 = true → v 12 = .int .i64 t)
          ∧ (L 13 = true → v 13 = .bool false)
          ∧ (L 14 = true → v 14 = .bool false)
          ∧ (L 15 = true → v 15 = .bool false)
          ∧ (L 16 = true → v 16 = .int .i64 t)
          ∧ (L 17 = true → v 17 = .bool true)
          ∧ (L 18 = true → v 18 = .bool true)) (by kernel_rfl) (by kernel_rfl) ?_ ?_ (l := [(20, 0), (21, 1), (22, 2), (23, 3), (24, 4), (25, 5), (26, 6), (27, 7), (28, 8), (29, 9), (30, 10), (31, 11), (32, 12), (33, 13), (34, 14), (35, 15), (36, 16), (37, 17), (38, 18)]) (by kernel_rfl) (n := 19) rfl ?_
      · intro v
        exact ⟨(X.refl _).drew, fun h => Bool.noConfusion h, fun h => Bool.noConfusion h, fun h => Bool.noConfusion h, fun h => Bool.noConfusion h, fun h => Bool.noConfusion h, fun h => Bool.noConfusion h, fun h => Bool.noConfusion h, fun h => Bool.noConfusion h, fun h => Bool.noConfusion h, fun h => Bool.noConfusion h, fun h => Bool.noConfusion h, fun h => Bool.noConfusion h, fun h => Bool.noConfusion h, fun h => Bool.noConfusion h, fun h => Bool.noConfusion h, fun h => Bool.noConfusion h, fun h => Bool.noConfusion h, fun h => Bool.noConfusion h, fun h => Bool.noConfusion h⟩
      · intro i hi
        have hi' : i = 0 ∨ i = 1 ∨ i = 2 ∨ i = 3 ∨ i = 4 ∨ i = 5 ∨ i = 6 ∨ i = 7 ∨ i = 8 ∨ i = 9 ∨ i = 10 ∨ i = 11 ∨ i = 12 ∨ i = 13 ∨ i = 14 ∨ i = 15 ∨ i = 16 ∨ i = 17 ∨ i = 18 := by
          have : i < 19 := hi
          omega
        clear hi
        rcases hi' with rfl | rfl | rfl | rfl | rfl | rfl | rfl | rfl | rfl | rfl | rfl | rfl | rfl | rfl | rfl | rfl | rfl | rfl | rfl
        all_goals
          intro o ho L v aa W hI hS hL hA K hK
          cases (show some _ = some o from ho)
          obtain ⟨xx, rc, v0, v1, v2, v4, v5, v6, v7, v8, v9, v10, v11, v12, v13, v14, v15, v16, v17, v18⟩ := hI
        · have o5 := hS.old 5 (by kernel_rfl) rfl
          obtain ⟨lt5, ct5, _⟩ := (hB4.x xx).out
          have t0 := ct5 0
          have t1 := ct5 1
          have t2 := ct5 2
          clear ct5
          refine wantY (by exact rfl) ?_
          clear hS ho hA
          go_simp
          exact hK _ W ⟨xx, rc, fun _ => rfl, v1, v2, v4, v5, v6, v7, v8, v9, v10, v11, v12, v13, v14, v15, v16, v17, v18⟩
        · have o3 := hS.old 3 (by kernel_rfl) rfl
          refine wantY (by exact rfl) ?_
          clear hS ho hA
          go_simp
          exact hK _ W ⟨xx, rc, v0, fun _ => rfl, v2, v4, v5, v6, v7, v8, v9, v10, v11, v12, v13, v14, v15, v16, v17, v18⟩
        · have o4 := hS.old 4 (by kernel_rfl) rfl
          refine wantY (by exact rfl) ?_
          clear hS ho hA
          go_simp
          exact hK _ W ⟨xx, rc, v0, v1, fun _ => rfl, v4, v5, v6, v7, v8, v9, v10, v11, v12, v13, v14, v15, v16, v17, v18⟩
        · have l1 : L 1 = true := hA ⟨1, .data⟩ (by simp) rfl
          have g1 := hS.get 1 21 rfl l1 (v1 l1)
          have l2 : L 2 = true := hA ⟨2, .data⟩ (by simp) rfl
          have g2 := hS.get 2 22 rfl l2 (v2 l2)
          refine wantY (by exact rfl) ?_
          clear hS ho hA
          go_simp
          refine (hcs W xx).mono ?_
          rintro _ w' ⟨ya, yc, yda, ydc, rfl, h1, h2, hx⟩
          exact hK _ w' ⟨xx.trans hx, fun _ => ⟨ya, yc, yda, ydc, rfl, h1.less xx.size, h2.less xx.size⟩, v0, v1, v2, v4, v5, v6, v7, v8, v9, v10, v11, v12, v13, v14, v15, v16, v17, v18⟩
        · have l0 : L 0 = true := hA ⟨0, .data⟩ (by simp) rfl
          have g0 := hS.get 0 20 rfl l0 (v0 l0)
          have l3 : L 3 = true := hA ⟨3, .data⟩ (by simp) rfl
          obtain ⟨ya, yc, yda, ydc, e3, h1, h2⟩ := rc l3
          have g3 := hS.get 3 23 rfl l3 e3
          refine wantY (by exact rfl) ?_
          clear hS ho hA
          go_simp
          refine (equalDisk_c R.l R.kk R.dl a5 ya da5 yda _ c5 yc _ dc5 ydc _ _ _ _ W (hA5.mono (xx.fr _)) h1 (hP5.mono (xx.fr _)) h2).mono ?_
          rintro _ w' ⟨rfl, hx⟩
          exact hK _ w' ⟨xx.trans hx, fun h => let ⟨ya, yc, yda, ydc, e, h1, h2⟩ := rc h; ⟨ya, yc, yda, ydc, e, h1.mono (hx.fr _), h2.mono (hx.fr _)⟩, v0, v1, v2, fun _ => rfl, v5, v6, v7, v8, v9, v10, v11, v12, v13, v14, v15, v16, v17, v18⟩
        · have l4 : L 4 = true := hA ⟨4, .data⟩ (by simp) rfl
          have g4 := hS.get 4 24 rfl l4 (v4 l4)
          refine wantY (by exact rfl) ?_
          clear hS ho hA
          go_simp
          exact hK _ W ⟨xx, rc, v0, v1, v2, v4, fun _ => rfl, v6, v7, v8, v9, v10, v11, v12, v13, v14, v15, v16, v17, v18⟩
        · have l5 : L 5 = true := hA ⟨5, .data⟩ (by simp) rfl
          have g5 := hS.get 5 25 rfl l5 (v5 l5)
          refine wantY (by exact rfl) ?_
          clear hS ho hA
          go_simp
          exact hK _ W ⟨xx, rc, v0, v1, v2, v4, v5, fun _ => rfl, v7, v8, v9, v10, v11, v12, v13, v14, v15, v16, v17, v18⟩
        · have l6 : L 6 = true := hA ⟨6, .guard⟩ (by simp) rfl
          have o3 := hS.old 3 (by kernel_rfl) rfl
          refine wantY (by rw [wanted_of rfl (hS.yield 6 26 rfl l6 (v6 l6))]; rfl) ?_
          clear hS ho hA
          go_simp
          exact hK _ W ⟨xx, rc, v0, v1, v2, v4, v5, v6, fun _ => rfl, v8, v9, v10, v11, v12, v13, v14, v15, v16, v17, v18⟩
        · have l6 : L 6 = true := hA ⟨6, .guard⟩ (by simp) rfl
          have l7 : L 7 = true := hA ⟨7, .data⟩ (by simp) rfl
          have g7 := hS.get 7 27 rfl l7 (v7 l7)
          refine wantY (by rw [wanted_of rfl (hS.yield 6 26 rfl l6 (v6 l6))]; rfl) ?_
          clear hS ho hA
          go_simp
          refine (ValidActs_i l a n c _ W (hAc.mono (xx.fr _)) (hG4.mono xx)).mono ?_
          rw [h8]
          rintro _ w' ⟨rfl, hx⟩
          exact hK _ w' ⟨xx.trans hx, fun h => let ⟨ya, yc, yda, ydc, e, h1, h2⟩ := rc h; ⟨ya, yc, yda, ydc, e, h1.mono (hx.fr _), h2.mono (hx.fr _)⟩, v0, v1, v2, v4, v5, v6, v7, fun _ => rfl, v9, v10, v11, v12, v13, v14, v15, v16, v17, v18⟩
        · have l6 : L 6 = true := hA ⟨6, .guard⟩ (by simp) rfl
          have l8 : L 8 = true := hA ⟨8, .data⟩ (by simp) rfl
          have g8 := hS.get 8 28 rfl l8 (v8 l8)
          refine wantY (by rw [wanted_of rfl (hS.yield 6 26 rfl l6 (v6 l6))]; rfl) ?_
          clear hS ho hA
          go_simp
          exact hK _ W ⟨xx, rc, v0, v1, v2, v4, v5, v6, v7, v8, fun _ => rfl, v10, v11, v12, v13, v14, v15, v16, v17, v18⟩
        · have l6 : L 6 = true := hA ⟨6, .data⟩ (by simp) rfl
          have g6 := hS.get 6 26 rfl l6 (v6 l6)
          have l9 : L 9 = true := hA ⟨9, .data⟩ (by simp) rfl
          have g9 := hS.get 9 29 rfl l9 (v9 l9)
          refine wantY (by exact rfl) ?_
          clear hS ho hA
          go_simp
          exact hK _ W ⟨xx, rc, v0, v1, v2, v4, v5, v6, v7, v8, v9, fun _ => rfl, v11, v12, v13, v14, v15, v16, v17, v18⟩
        · have l10 : L 10 = true := hA ⟨10, .data⟩ (by simp) rfl
          have g10 := hS.get 10 30 rfl l10 (v10 l10)
          refine wantY (by exact rfl) ?_
          clear hS ho hA
          go_simp
          exact hK _ W ⟨xx, rc, v0, v1, v2, v4, v5, v6, v7, v8, v9, v10, fun _ => rfl, v12, v13, v14, v15, v16, v17, v18⟩
        · have l11 : L 11 = true := hA ⟨11, .guard⟩ (by simp) rfl
          have o4 := hS.old 4 (by kernel_rfl) rfl
          refine wantY (by rw [wanted_of rfl (hS.yield 11 31 rfl l11 (v11 l11))]; rfl) ?_
          clear hS ho hA
          go_simp
          exact hK _ W ⟨xx, rc, v0, v1, v2, v4, v5, v6, v7, v8, v9, v10, v11, fun _ => rfl, v13, v14, v15, v16, v17, v18⟩
        · have l11 : L 11 = true := hA ⟨11, .guard⟩ (by simp) rfl
          have l12 : L 12 = true := hA ⟨12, .data⟩ (by simp) rfl
          have g12 := hS.get 12 32 rfl l12 (v12 l12)
          refine wantY (by rw [wanted_of rfl (hS.yield 11 31 rfl l11 (v11 l11))]; rfl) ?_
          clear hS ho hA
          go_simp
          exact hK _ W ⟨xx, rc, v0, v1, v2, v4, v5, v6, v7, v8, v9, v10, v11, v12, fun _ => rfl, v14, v15, v16, v17, v18⟩
        · have l11 : L 11 = true := hA ⟨11, .data⟩ (by simp) rfl
          have g11 := hS.get 11 31 rfl l11 (v11 l11)
          have l13 : L 13 = true := hA ⟨13, .data⟩ (by simp) rfl
          have g13 := hS.get 13 33 rfl l13 (v13 l13)
          refine wantY (by exact rfl) ?_
          clear hS ho hA
          go_simp
          exact hK _ W ⟨xx, rc, v0, v1, v2, v4, v5, v6, v7, v8, v9, v10, v11, v12, v13, fun _ => rfl, v15, v16, v17, v18⟩
        · have l14 : L 14 = true := hA ⟨14, .data⟩ (by simp) rfl
          have g14 := hS.get 14 34 rfl l14 (v14 l14)
          refine wantY (by exact rfl) ?_
          clear hS ho hA
          go_simp
          exact hK _ W ⟨xx, rc, v0, v1, v2, v4, v5, v6, v7, v8, v9, v10, v11, v12, v13, v14, fun _ => rfl, v16, v17, v18⟩
        · have l15 : L 15 = true := hA ⟨15, .guard⟩ (by simp) rfl
          have o4 := hS.old 4 (by kernel_rfl) rfl
          refine wantY (by rw [wanted_of rfl (hS.yield 15 35 rfl l15 (v15 l15))]; rfl) ?_
          clear hS ho hA
          go_simp
          exact hK _ W ⟨xx, rc, v0, v1, v2, v4, v5, v6, v7, v8, v9, v10, v11, v12, v13, v14, v15, fun _ => rfl, v17, v18⟩
        · have l15 : L 15 = true := hA ⟨15, .guard⟩ (by simp) rfl
          have l16 : L 16 = true := hA ⟨16, .data⟩ (by simp) rfl
          have g16 := hS.get 16 36 rfl l16 (v16 l16)
          refine wantY (by rw [wanted_of rfl (hS.yield 15 35 rfl l15 (v15 l15))]; rfl) ?_
          clear hS ho hA
          go_simp
          exact hK _ W ⟨xx, rc, v0, v1, v2, v4, v5, v6, v7, v8, v9, v10, v11, v12, v13, v14, v15, v16, fun _ => rfl, v18⟩
        · have l15 : L 15 = true := hA ⟨15, .data⟩ (by simp) rfl
          have g15 := hS.get 15 35 rfl l15 (v15 l15)
          have l17 : L 17 = true := hA ⟨17, .data⟩ (by simp) rfl
          have g17 := hS.get 17 37 rfl l17 (v17 l17)
          refine wantY (by exact rfl) ?_
          clear hS ho hA
          go_simp
          exact hK _ W ⟨xx, rc, v0, v1, v2, v4, v5, v6, v7, v8, v9, v10, v11, v12, v13, v14, v15, v16, v17, fun _ => rfl⟩
      intro v W9 hI
      obtain ⟨xx, rc, v0, v1, v2, v4, v5, v6, v7, v8, v9, v10, v11, v12, v13, v14, v15, v16, v17, v18⟩ := hI
      have e0 := v0 rfl
      have e1 := v1 rfl
      have e2 := v2 rfl
      have e4 := v4 rfl
      have e5 := v5 rfl
      have e6 := v6 rfl
      have e7 := v7 rfl
      have e8 := v8 rfl
      have e9 := v9 rfl
      have e10 := v10 rfl
      have e11 := v11 rfl
      have e12 := v12 rfl
      have e13 := v13 rfl
      have e14 := v14 rfl
      have e15 := v15 rfl
      have e16 := v16 rfl
      have e17 := v17 rfl
      have e18 := v18 rfl
      clear v0 v1 v2 v4 v5 v6 v7 v8 v9 v10 v11 v12 v13 v14 v15 v16 v17 v18
      clear rc
      simp only [putL, List.foldl, List.setIfInBounds_toArray, List.set_cons_zero, List.set_cons_succ, e0, e1, e2, e4, e5, e6, e7, e8, e9, e10, e11, e12, e13, e14, e15, e16, e17, e18]
      clear e0 e1 e2 e4 e5 e6 e7 e8 e9 e10 e11 e12 e13 e14 e15 e16 e17 e18
      have hB9 := hB4.x xx
      have hA9 := hA5.mono (xx.fr _)
      have hP9 := hP5.mono (xx.fr _)
      have hcs9 : ∀ W, X W9 W → Calls Tryz.prog 22 #[.slice a n c, .int .i64 t] W fun e w' => ∃ ya yc yda ydc, e = .returned (.agg #[.slice ya R.l.length yc, .int .i64 R.kk, .slice yda R.dl.length ydc]) ∧ FilesAt w' W.heap.size ya R.l.length R.l ∧ DirsAt w' W.heap.size yda R.dl.length R.dl ∧ X W w' := fun W h => hcs W (xx.trans h)
      replace hxw := hxw.trans xx
      clear xx
      go_wp2_with fail
      refine wp_region_inv (fun L v W => X W9 W
          ∧ (L 3 = true → ∃ ya yc yda ydc, v 3 = .agg #[.slice ya R.l.length yc, .int .i64 R.kk, .slice yda R.dl.length ydc] ∧ FilesAt W W9.heap.size ya R.l.length R.l ∧ DirsAt W W9.heap.size yda R.dl.length R.dl)
          ∧ (L 0 = true → v 0 = .agg #[.slice a5 R.l.length c5, .int .i64 R.kk, .slice da5 R.dl.length dc5])
          ∧ (L 1 = true → v 1 = .slice a n c)
          ∧ (L 2 = true → v 2 = .int .i64 t)
          ∧ (L 4 = true → v 4 = .bool true)
          ∧ (L 5 = true → v 5 = .bool true)) (by kernel_rfl) (by kernel_rfl) ?_ ?_ (l := [(39, 0), (40, 1), (41, 2), (42, 3), (43, 4), (2, 5)]) (by kernel_rfl) (n := 6) rfl ?_
      · intro v
        exact ⟨(X.refl _).drew, fun h => Bool.noConfusion h, fun h => Bool.noConfusion h, fun h => Bool.noConfusion h, fun h => Bool.noConfusion h, fun h => Bool.noConfusion h, fun h => Bool.noConfusion h⟩
      · intro i hi
        have hi' : i = 0 ∨ i = 1 ∨ i = 2 ∨ i = 3 ∨ i = 4 ∨ i = 5 := by
          have : i < 6 := hi
          omega
        clear hi
        rcases hi' with rfl | rfl | rfl | rfl | rfl | rfl
        all_goals
          intro o ho L v aa W hI hS hL hA K hK
          cases (show some _ = some o from ho)
          obtain ⟨xx, rc, v0, v1, v2, v4, v5⟩ := hI
        · have o5 := hS.old 5 (by kernel_rfl) rfl
          obtain ⟨lt5, ct5, _⟩ := (hB9.x xx).out
          have t0 := ct5 0
          have t1 := ct5 1
          have t2 := ct5 2
          clear ct5
          clear hS ho hA
          go_simp
          exact hK _ W ⟨xx, rc, fun _ => rfl, v1, v2, v4, v5⟩
        · have o3 := hS.old 3 (by kernel_rfl) rfl
          clear hS ho hA
          go_simp
          exact hK _ W ⟨xx, rc, v0, fun _ => rfl, v2, v4, v5⟩
        · have o4 := hS.old 4 (by kernel_rfl) rfl
          clear hS ho hA
          go_simp
          exact hK _ W ⟨xx, rc, v0, v1, fun _ => rfl, v4, v5⟩
        · have l1 : L 1 = true := hA ⟨1, .data⟩ (by simp) rfl
          have g1 := hS.get 1 40 rfl l1 (v1 l1)
          have l2 : L 2 = true := hA ⟨2, .data⟩ (by simp) rfl
          have g2 := hS.get 2 41 rfl l2 (v2 l2)
          clear hS ho hA
          go_simp
          refine (hcs9 W xx).mono ?_
          rintro _ w' ⟨ya, yc, yda, ydc, rfl, h1, h2, hx⟩
          exact hK _ w' ⟨xx.trans hx, fun _ => ⟨ya, yc, yda, ydc, rfl, h1.less xx.size, h2.less xx.size⟩, v0, v1, v2, v4, v5⟩
        · have l0 : L 0 = true := hA ⟨0, .data⟩ (by simp) rfl
          have g0 := hS.get 0 39 rfl l0 (v0 l0)
          have l3 : L 3 = true := hA ⟨3, .data⟩ (by simp) rfl
          obtain ⟨ya, yc, yda, ydc, e3, h1, h2⟩ := rc l3
          have g3 := hS.get 3 42 rfl l3 e3
          clear hS ho hA
          go_simp
          refine (equalDisk_c R.l R.kk R.dl a5 ya da5 yda _ c5 yc _ dc5 ydc _ _ _ _ W (hA9.mono (xx.fr _)) h1 (hP9.mono (xx.fr _)) h2).mono ?_
          rintro _ w' ⟨rfl, hx⟩
          exact hK _ w' ⟨xx.trans hx, fun h => let ⟨ya, yc, yda, ydc, e, h1, h2⟩ := rc h; ⟨ya, yc, yda, ydc, e, h1.mono (hx.fr _), h2.mono (hx.fr _)⟩, v0, v1, v2, fun _ => rfl, v5⟩
        · have l4 : L 4 = true := hA ⟨4, .data⟩ (by simp) rfl
          have g4 := hS.get 4 43 rfl l4 (v4 l4)
          clear hS ho hA
          go_simp
          exact hK _ W ⟨xx, rc, v0, v1, v2, v4, fun _ => rfl⟩
      intro v W8 hI
      obtain ⟨xx, rc, v0, v1, v2, v4, v5⟩ := hI
      have e0 := v0 rfl
      have e1 := v1 rfl
      have e2 := v2 rfl
      have e4 := v4 rfl
      have e5 := v5 rfl
      clear v0 v1 v2 v4 v5
      clear rc
      simp only [putL, List.foldl, List.setIfInBounds_toArray, List.set_cons_zero, List.set_cons_succ, e0, e1, e2, e4, e5]
      clear e0 e1 e2 e4 e5
      go_wp2
      go_ret
      exact ⟨rfl, hxw.trans xx⟩
    refine wp_region_invG (fun L v W => X W4 W
        ∧ (L 3 = true → ∃ ya yc yda ydc, v 3 = .agg #[.slice ya R.l.length yc, .int .i64 R.kk, .slice yda R.dl.length ydc] ∧ FilesAt W W4.heap.size ya R.l.length R.l ∧ DirsAt W W4.heap.size yda R.dl.length R.dl)
        ∧ (L 0 = true → v 0 = .agg #[.slice a5 R.l.length c5, .int .i64 R.kk, .slice da5 R.dl.length dc5])
        ∧ (L 1 = true → v 1 = .slice a n c)
        ∧ (L 2 = true → v 2 = .int .i64 t)
        ∧ (L 4 = true → v 4 = .bool true)
        ∧ (L 5 = true → v 5 = .bool false)
        ∧ (L 6 = true → v 6 = .bool false)
        ∧ (L 7 = true → v 7 = .slice a n c)
        ∧ (L 8 = true → v 8 = .bool true)
        ∧ (L 9 = true → v 9 = .bool false)
        ∧ (L 10 = true → v 10 = .bool false)
        ∧ (L 11 = true → v 11 = .bool false)
        ∧ (L 12 = true → v 12 = .int .i64 t)
        ∧ (L 13 = true → v 13 = .bool false)
        ∧ (L 14 = true → v 14 = .bool false)
        ∧ (L 15 = true → v 15 = .bool false)
        ∧ (L 16 = true → v 16 = .int .i64 t)
        ∧ (L 17 = true → v 17 = .bool false)
        ∧ (L 18 = true → v 18 = .bool false)) (by kernel_rfl) (by kernel_rfl) ?_ ?_ (l := [(20, 0), (21, 1), (22, 2), (23, 3), (24, 4), (25, 5), (26, 6), (27, 7), (28, 8), (29, 9), (30, 10), (31, 11), (32, 12), (33, 13), (34, 14), (35, 15), (36, 16), (37, 17), (38, 18)]) (by kernel_rfl) (n := 19) rfl ?_
    · intro v
      exact ⟨(X.refl _).drew, fun h => Bool.noConfusion h, fun h => Bool.noConfusion h, fun h => Bool.noConfusion h, fun h => Bool.noConfusion h, fun h => Bool.noConfusion h, fun h => Bool.noConfusion h, fun h => Bool.noConfusion h, fun h => Bool.noConfusion h, fun h => Bool.noConfusion h, fun h => Bool.noConfusion h, fun h => Bool.noConfusion h, fun h => Bool.noConfusion h, fun h => Bool.noConfusion h, fun h => Bool.noConfusion h, fun h => Bool.noConfusion h, fun h => Bool.noConfusion h, fun h => Bool.noConfusion h, fun h => Bool.noConfusion h, fun h => Bool.noConfusion h⟩
    · intro i hi
      have hi' : i = 0 ∨ i = 1 ∨ i = 2 ∨ i = 3 ∨ i = 4 ∨ i = 5 ∨ i = 6 ∨ i = 7 ∨ i = 8 ∨ i = 9 ∨ i = 10 ∨ i = 11 ∨ i = 12 ∨ i = 13 ∨ i = 14 ∨ i = 15 ∨ i = 16 ∨ i = 17 ∨ i = 18 := by
        have : i < 19 := hi
        omega
      clear hi
      rcases hi' with rfl | rfl | rfl | rfl | rfl | rfl | rfl | rfl | rfl | rfl | rfl | rfl | rfl | rfl | rfl | rfl | rfl | rfl | rfl
      all_goals
        intro o ho L v aa W hI hS hL hA K hK
        cases (show some _ = some o from ho)
        obtain ⟨xx, rc, v0, v1, v2, v4, v5, v6, v7, v8, v9, v10, v11, v12, v13, v14, v15, v16, v17, v18⟩ := hI
      · have o5 := hS.old 5 (by kernel_rfl) rfl
        obtain ⟨lt5, ct5, _⟩ := (hB4.x xx).out
        have t0 := ct5 0
        have t1 := ct5 1
        have t2 := ct5 2
        clear ct5
        refine wantY (by exact rfl) ?_
        clear hS ho hA
        go_simp
        exact hK _ W ⟨xx, rc, fun _ => rfl, v1, v2, v4, v5, v6, v7, v8, v9, v10, v11, v12, v13, v14, v15, v16, v17, v18⟩
      · have o3 := hS.old 3 (by kernel_rfl) rfl
        refine wantY (by exact rfl) ?_
        clear hS ho hA
        go_simp
        exact hK _ W ⟨xx, rc, v0, fun _ => rfl, v2, v4, v5, v6, v7, v8, v9, v10, v11, v12, v13, v14, v15, v16, v17, v18⟩
      · have o4 := hS.old 4 (by kernel_rfl) rfl
        refine wantY (by exact rfl) ?_
        clear hS ho hA
        go_simp
        exact hK _ W ⟨xx, rc, v0, v1, fun _ => rfl, v4, v5, v6, v7, v8, v9, v10, v11, v12, v13, v14, v15, v16, v17, v18⟩
      · have l1 : L 1 = true := hA ⟨1, .data⟩ (by simp) rfl
        have g1 := hS.get 1 21 rfl l1 (v1 l1)
        have l2 : L 2 = true := hA ⟨2, .data⟩ (by simp) rfl
        have g2 := hS.get 2 22 rfl l2 (v2 l2)
        refine wantY (by exact rfl) ?_
        clear hS ho hA
        go_simp
        refine (hcs W xx).mono ?_
        rintro _ w' ⟨ya, yc, yda, ydc, rfl, h1, h2, hx⟩
        exact hK _ w' ⟨xx.trans hx, fun _ => ⟨ya, yc, yda, ydc, rfl, h1.less xx.size, h2.less xx.size⟩, v0, v1, v2, v4, v5, v6, v7, v8, v9, v10, v11, v12, v13, v14, v15, v16, v17, v18⟩
      · have l0 : L 0 = true := hA ⟨0, .data⟩ (by simp) rfl
        have g0 := hS.get 0 20 rfl l0 (v0 l0)
        have l3 : L 3 = true := hA ⟨3, .data⟩ (by simp) rfl
        obtain ⟨ya, yc, yda, ydc, e3, h1, h2⟩ := rc l3
        have g3 := hS.get 3 23 rfl l3 e3
        refine wantY (by exact rfl) ?_
        clear hS ho hA
        go_simp
        refine (equalDisk_c R.l R.kk R.dl a5 ya da5 yda _ c5 yc _ dc5 ydc _ _ _ _ W (hA5.mono (xx.fr _)) h1 (hP5.mono (xx.fr _)) h2).mono ?_
        rintro _ w' ⟨rfl, hx⟩
        exact hK _ w' ⟨xx.trans hx, fun h => let ⟨ya, yc, yda, ydc, e, h1, h2⟩ := rc h; ⟨ya, yc, yda, ydc, e, h1.mono (hx.fr _), h2.mono (hx.fr _)⟩, v0, v1, v2, fun _ => rfl, v5, v6, v7, v8, v9, v10, v11, v12, v13, v14, v15, v16, v17, v18⟩
      · have l4 : L 4 = true := hA ⟨4, .data⟩ (by simp) rfl
        have g4 := hS.get 4 24 rfl l4 (v4 l4)
        refine wantY (by exact rfl) ?_
        clear hS ho hA
        go_simp
        exact hK _ W ⟨xx, rc, v0, v1, v2, v4, fun _ => rfl, v6, v7, v8, v9, v10, v11, v12, v13, v14, v15, v16, v17, v18⟩
      · have l5 : L 5 = true := hA ⟨5, .data⟩ (by simp) rfl
        have g5 := hS.get 5 25 rfl l5 (v5 l5)
        refine wantY (by exact rfl) ?_
        clear hS ho hA
        go_simp
        exact hK _ W ⟨xx, rc, v0, v1, v2, v4, v5, fun _ => rfl, v7, v8, v9, v10, v11, v12, v13, v14, v15, v16, v17, v18⟩
      · have l6 : L 6 = true := hA ⟨6, .guard⟩ (by simp) rfl
        have o3 := hS.old 3 (by kernel_rfl) rfl
        refine wantY (by rw [wanted_of rfl (hS.yield 6 26 rfl l6 (v6 l6))]; rfl) ?_
        clear hS ho hA
        go_simp
        exact hK _ W ⟨xx, rc, v0, v1, v2, v4, v5, v6, fun _ => rfl, v8, v9, v10, v11, v12, v13, v14, v15, v16, v17, v18⟩
      · have l6 : L 6 = true := hA ⟨6, .guard⟩ (by simp) rfl
        have l7 : L 7 = true := hA ⟨7, .data⟩ (by simp) rfl
        have g7 := hS.get 7 27 rfl l7 (v7 l7)
        refine wantY (by rw [wanted_of rfl (hS.yield 6 26 rfl l6 (v6 l6))]; rfl) ?_
        clear hS ho hA
        go_simp
        refine (ValidActs_i l a n c _ W (hAc.mono (xx.fr _)) (hG4.mono xx)).mono ?_
        rw [h8]
        rintro _ w' ⟨rfl, hx⟩
        exact hK _ w' ⟨xx.trans hx, fun h => let ⟨ya, yc, yda, ydc, e, h1, h2⟩ := rc h; ⟨ya, yc, yda, ydc, e, h1.mono (hx.fr _), h2.mono (hx.fr _)⟩, v0, v1, v2, v4, v5, v6, v7, fun _ => rfl, v9, v10, v11, v12, v13, v14, v15, v16, v17, v18⟩
      · have l6 : L 6 = true := hA ⟨6, .guard⟩ (by simp) rfl
        have l8 : L 8 = true := hA ⟨8, .data⟩ (by simp) rfl
        have g8 := hS.get 8 28 rfl l8 (v8 l8)
        refine wantY (by rw [wanted_of rfl (hS.yield 6 26 rfl l6 (v6 l6))]; rfl) ?_
        clear hS ho hA
        go_simp
        exact hK _ W ⟨xx, rc, v0, v1, v2, v4, v5, v6, v7, v8, fun _ => rfl, v10, v11, v12, v13, v14, v15, v16, v17, v18⟩
      · have l6 : L 6 = true := hA ⟨6, .data⟩ (by simp) rfl
        have g6 := hS.get 6 26 rfl l6 (v6 l6)
        have l9 : L 9 = true := hA ⟨9, .data⟩ (by simp) rfl
        have g9 := hS.get 9 29 rfl l9 (v9 l9)
        refine wantY (by exact rfl) ?_
        clear hS ho hA
        go_simp
        exact hK _ W ⟨xx, rc, v0, v1, v2, v4, v5, v6, v7, v8, v9, fun _ => rfl, v11, v12, v13, v14, v15, v16, v17, v18⟩
      · have l10 : L 10 = true := hA ⟨10, .data⟩ (by simp) rfl
        have g10 := hS.get 10 30 rfl l10 (v10 l10)
        refine wantY (by exact rfl) ?_
        clear hS ho hA
        go_simp
        exact hK _ W ⟨xx, rc, v0, v1, v2, v4, v5, v6, v7, v8, v9, v10, fun _ => rfl, v12, v13, v14, v15, v16, v17, v18⟩
      · have l11 : L 11 = true := hA ⟨11, .guard⟩ (by simp) rfl
        have o4 := hS.old 4 (by kernel_rfl) rfl
        refine wantY (by rw [wanted_of rfl (hS.yield 11 31 rfl l11 (v11 l11))]; rfl) ?_
        clear hS ho hA
        go_simp
        exact hK _ W ⟨xx, rc, v0, v1, v2, v4, v5, v6, v7, v8, v9, v10, v11, fun _ => rfl, v13, v14, v15, v16, v17, v18⟩
      · have l11 : L 11 = true := hA ⟨11, .guard⟩ (by simp) rfl
        have l12 : L 12 = true := hA ⟨12, .data⟩ (by simp) rfl
        have g12 := hS.get 12 32 rfl l12 (v12 l12)
        refine wantY (by rw [wanted_of rfl (hS.yield 11 31 rfl l11 (v11 l11))]; rfl) ?_
        clear hS ho hA
        go_simp
        exact hK _ W ⟨xx, rc, v0, v1, v2, v4, v5, v6, v7, v8, v9, v10, v11, v12, fun _ => rfl, v14, v15, v16, v17, v18⟩
      · have l11 : L 11 = true := hA ⟨11, .data⟩ (by simp) rfl
        have g11 := hS.get 11 31 rfl l11 (v11 l11)
        have l13 : L 13 = true := hA ⟨13, .data⟩ (by simp) rfl
        have g13 := hS.get 13 33 rfl l13 (v13 l13)
        refine wantY (by exact rfl) ?_
        clear hS ho hA
        go_simp
        exact hK _ W ⟨xx, rc, v0, v1, v2, v4, v5, v6, v7, v8, v9, v10, v11, v12, v13, fun _ => rfl, v15, v16, v17, v18⟩
      · have l14 : L 14 = true := hA ⟨14, .data⟩ (by simp) rfl
        have g14 := hS.get 14 34 rfl l14 (v14 l14)
        refine wantY (by exact rfl) ?_
        clear hS ho hA
        go_simp
        exact hK _ W ⟨xx, rc, v0, v1, v2, v4, v5, v6, v7, v8, v9, v10, v11, v12, v13, v14, fun _ => rfl, v16, v17, v18⟩
      · have l15 : L 15 = true := hA ⟨15, .guard⟩ (by simp) rfl
        have o4 := hS.old 4 (by kernel_rfl) rfl
        refine wantY (by rw [wanted_of rfl (hS.yield 15 35 rfl l15 (v15 l15))]; rfl) ?_
        clear hS ho hA
        go_simp
        exact hK _ W ⟨xx, rc, v0, v1, v2, v4, v5, v6, v7, v8, v9, v10, v11, v12, v13, v14, v15, fun _ => rfl, v17, v18⟩
      · have l15 : L 15 = true := hA ⟨15, .guard⟩ (by simp) rfl
        have l16 : L 16 = true := hA ⟨16, .data⟩ (by simp) rfl
        have g16 := hS.get 16 36 rfl l16 (v16 l16)
        refine wantY (by rw [wanted_of rfl (hS.yield 15 35 rfl l15 (v15 l15))]; rfl) ?_
        clear hS ho hA
        go_simp
        exact hK _ W ⟨xx, rc, v0, v1, v2, v4, v5, v6, v7, v8, v9, v10, v11, v12, v13, v14, v15, v16, fun _ => rfl, v18⟩
      · have l15 : L 15 = true := hA ⟨15, .data⟩ (by simp) rfl
        have g15 := hS.get 15 35 rfl l15 (v15 l15)
        have l17 : L 17 = true := hA ⟨17, .data⟩ (by simp) rfl
        have g17 := hS.get 17 37 rfl l17 (v17 l17)
        refine wantY (by exact rfl) ?_
        clear hS ho hA
        go_simp
        exact hK _ W ⟨xx, rc, v0, v1, v2, v4, v5, v6, v7, v8, v9, v10, v11, v12, v13, v14, v15, v16, v17, fun _ => rfl⟩
    intro v W9 hI
    obtain ⟨xx, rc, v0, v1, v2, v4, v5, v6, v7, v8, v9, v10, v11, v12, v13, v14, v15, v16, v17, v18⟩ := hI
    have e0 := v0 rfl
    have e1 := v1 rfl
    have e2 := v2 rfl
    have e4 := v4 rfl
    have e5 := v5 rfl
    have e6 := v6 rfl
    have e7 := v7 rfl
    have e8 := v8 rfl
    have e9 := v9 rfl
    have e10 := v10 rfl
    have e11 := v11 rfl
    have e12 := v12 rfl
    have e13 := v13 rfl
    have e14 := v14 rfl
    have e15 := v15 rfl
    have e16 := v16 rfl
    have e17 := v17 rfl
    have e18 := v18 rfl
    clear v0 v1 v2 v4 v5 v6 v7 v8 v9 v10 v11 v12 v13 v14 v15 v16 v17 v18
    clear rc
    simp only [putL, List.foldl, List.setIfInBounds_toArray, List.set_cons_zero, List.set_cons_succ, e0, e1, e2, e4, e5, e6, e7, e8, e9, e10, e11, e12, e13, e14, e15, e16, e17, e18]
    clear e0 e1 e2 e4 e5 e6 e7 e8 e9 e10 e11 e12 e13 e14 e15 e16 e17 e18
    have hb : aftB t l = true := by rw [aftB, h8, rangeB_iff.2 ⟨by omega, by omega⟩]; rfl
    have hRa : R = afterD t l := by rw [← HR.out, aftR, if_pos hb]
    have hn20 := acts_20 h8
    have hnl := hAc.len.1
    obtain ⟨hsm1, hsm2⟩ := after_small (t := t) (acs := l) (k := l.length) (Nat.le_refl _) hn20 (by omega) (by omega)
    obtain ⟨hlo, hlk⟩ := after_law (t := t) (acs := l) l.length (Nat.le_refl _)
    rw [List.take_length] at hsm1 hsm2 hlo hlk
    rw [← hRa] at hsm1 hsm2 hlo hlk
    have Hmul := Lib.hid (show IntKind.i64.wrap (cntK t l n * t) = R.kk by rw [hnl, ← hlk]; exact IntWalk.i64_in _ (by omega))
    have Hlo := Lib.hid (show diskB R.l R.kk R.dl = true from hlo)
    have Hnl := Lib.hid hnl
    have hB9 := hB4.x xx
    have hA9 := hAc.mono (xx.fr _)
    have hF9 := hA5.mono (xx.fr _)
    have hP9 := hP5.mono (xx.fr _)
    have hG9 := hG4.mono xx
    have hxw9 := hxw.trans xx
    clear hnl hlo hlk hsm1 hsm2 hRa hcs xx hxw hAc hA5 hP5 hG4 hB4
    go_wp2_with fail
    refine calls_name (fun W10 hW10 => ?_)
    have hx10 : X W9 W10 := by rw [hW10]; (repeat (first | with_reducible exact X.refl _ | with_reducible assumption | with_reducible refine X.setCell ?_ (by first | (simp; done) | (simp; omega)) _ | with_reducible refine X.ext ?_ _ | with_reducible refine X.alloc ?_ _ | with_reducible refine X.drew ?_))
    have hI10 : IntsAt W10 0 (some ⟨W9.heap.size, 0, none⟩) 1 [0] := by rw [hW10]; exact ints_lit rfl (Nat.zero_le _) rfl rfl (by decide)
    clear hW10
    refine (RunFresh_c mach_ok l a n c _ t [0] _ 1 1 _ W10 (hA9.mono (hx10.fr _)) hI10 (Nat.le_refl _) (by decide) hb (hG9.mono hx10)).mono ?_
    rintro _ w11 ⟨oa, oc, ys, rfl, hO, hAn, hx11⟩
    have hX := hx10.trans hx11
    go_wp2
    go_loopw [6, 8] (fun q i wr => ∃ k : Nat, k ≤ n ∧ i = .int .i64 k ∧ q = .int .i64 (cntK t l k) ∧ X w11 wr) (fun _ i _ => n - (intOf i).toNat)
    case atStart => exact ⟨0, Nat.zero_le _, rfl, rfl, X.refl _⟩
    case round =>
      obtain ⟨k, hk, rfl, rfl, hxr⟩ := hrel
      obtain ⟨hck0, hck1⟩ := cntK_le t l k
      by_cases hlt : k < n
      · obtain ⟨b, off, ba, bn, bc, rfl, _, hbl, _, _, _, g0, g1, g2, g3, g4, g5, g6, g7, g8⟩ := (hA9.mono ((hX.trans hxr).fr _)).at_ hlt
        have hk1 : (k : Int) < (n : Int) := by omega
        have hnx := Lib.hid (show cntK t l (k + 1) = cntK t l k + if (nth l k).kind ≠ 3 ∧ chgB (afterD t (l.take k)) (nth l k) t = true then 1 else 0 from rfl)
        clear g1 g2 g3 g4 g5 g6 g7 g8
        by_cases h3 : (nth l k).kind = 3
        · go_wp2
          go_roundw
          case rel => exact ⟨k + 1, by omega, by go_num, by rw [hnx.out, if_neg (fun h => h.1 h3), Int.add_zero], hxr⟩
          case measure => simp [intOf]; omega
        · obtain ⟨og, rfl, _, hol⟩ := own_form (own_fr hO (hxr.fr _)) (by omega)
          obtain ⟨g, hyk, hgh⟩ := (hAn.x hxr).2 k hlt h3
          have co := row_cell (own_fr hO (hxr.fr _)) k _ hyk
          obtain ⟨hgl, cg, _⟩ := Bx.out ⟨_, hgh⟩
          have cg0 := cg 0
          clear cg
          have hw1 : IntKind.i64.wrap (cntK t l k + 1) = cntK t l k + 1 := IntWalk.i64_in _ (by omega)
          by_cases hc : chgB (aftD t l k) (nth l k) t = true
          · have han : ansN t l k = 1 := if_pos hc
            rw [han] at cg0
            go_wp2
            go_roundw
            case rel => exact ⟨k + 1, by omega, by go_num, by rw [hnx.out, if_pos ⟨h3, hc⟩], hxr⟩
            case measure => simp [intOf]; omega
          · have han : ansN t l k = 0 := if_neg hc
            rw [han] at cg0
            go_wp2
            go_roundw
            case rel => exact ⟨k + 1, by omega, by go_num, by rw [hnx.out, if_neg (fun h => hc h.2), Int.add_zero], hxr⟩
            case measure => simp [intOf]; omega
      · have hk1 : ¬ (k : Int) < (n : Int) := by omega
        obtain rfl : k = n := by omega
        have hXr := hX.trans hxr
        obtain ⟨lt5, ct5, _⟩ := (hB9.x hXr).out
        have t0 := ct5 0
        have t1 := ct5 1
        have t2 := ct5 2
        clear ct5
        go_wp2_with fail
        refine (ValidDisk_i R.l a5 _ c5 R.kk R.dl da5 _ dc5 _ wr (hF9.mono (hXr.fr _)) hc5 (hP9.mono (hXr.fr _)) hd5 (hG9.mono hXr)).mono ?_
        rintro _ w12 ⟨rfl, hx12⟩
        rw [Hlo.out]
        clear lt5 t0 t1 t2
        obtain ⟨lt5, ct5, _⟩ := ((hB9.x hXr).x hx12).out
        have t1 := ct5 1
        clear ct5
        have hmul := Hmul.out
        go_wp2
        go_ret
        exact ⟨rfl, (hxw9.trans hXr).trans hx12⟩

end Go.Proofs.YtgjfjjhmgbemcaaGreatDoor
