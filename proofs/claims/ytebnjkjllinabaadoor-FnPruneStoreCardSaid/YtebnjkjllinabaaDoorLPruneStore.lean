/- The walk of the law FnPruneStore. -/
import Derived.Test.YtebnjkjllinabaaDoorGg
import Derived.Test.YtebnjkjllinabaaDoorDrawPr
namespace Go.Proofs.YtebnjkjllinabaaDoor
open Go.RowKit

set_option maxRecDepth 100000 in
set_option maxHeartbeats 4000000 in
theorem FnPruneStore_c (ca : Option Addr) (cn cc : Nat) (w : World) (hC : CodeAt w ca cn cc) (hG : Gm w) :
    Calls Tryd.prog 4 #[.slice ca cn cc] w fun e w' => e = .returned (.bool true) ∧ X w w' := by
  by_cases hbig : 1048576 < cn
  · go_enter Tryd.func4, Tryd.ntmps4
    go_wp2
    go_ret
    exact ⟨by simp, by (repeat (first | exact X.refl _ | assumption | refine X.ext ?_ _ | refine X.alloc ?_ _ | refine X.drew ?_))⟩
  · go_enter Tryd.func4, Tryd.ntmps4
    go_wp2_with fail
    refine (DrawPruneStore_c ca cn cc _ hC (by omega)).mono ?_
    rintro _ W1 ⟨l, a, n, c, t, ta, tn, tc, rfl, hD, hF, hnc, htc, hn11, htn10, hx1⟩
    go_wp2_with fail
    refine calls_name (fun W2 hW2 => ?_)
    have hB2 : Bx W2 W1.heap.size #[.slice ta tn tc] := by rw [hW2]; first | exact Bx.new _ _ _ | exact Bx.set (Bx.new _ _ _) 0 _
    have hx2 : X W1 W2 := by rw [hW2]; (repeat (first | with_reducible exact X.refl _ | with_reducible assumption | with_reducible refine X.setCell ?_ (by first | (simp; done) | (simp; omega)) _ | with_reducible refine X.ext ?_ _ | with_reducible refine X.alloc ?_ _ | with_reducible refine X.drew ?_))
    clear hW2
    have hxw := hx1.trans hx2
    replace hD := hD.mono (hx2.fr _)
    replace hF := hF.mono (hx2.fr _)
    replace hG := hG.mono hxw
    clear hx1 hx2
    have hok := pruneL_ok (t := t) hD.okC
    have hvl := @pruneL_len l t
    obtain ⟨hl, _⟩ := hF.len
    obtain ⟨hl2, _⟩ := hD.len
    have hlen : (pruneL l t).length ≤ 11 := by omega
    have Hl := Lib.hid hl
    clear hl hvl hl2
    have Hlaw := Lib.hid (@prune_law l t)
    obtain ⟨V, hV⟩ : ∃ V, pruneL l t = V := ⟨_, rfl⟩
    obtain ⟨N, hN⟩ : ∃ N, V.length = N := ⟨_, rfl⟩
    rw [hV] at hok hlen Hlaw
    rw [hN] at hlen Hlaw
    refine (PruneStore_i l a n c _ t ta tn tc _ W2 hD hF htc hG).mono ?_
    rw [hV, hN]
    rintro _ W3 ⟨ra, rc, rfl, hO, hx3⟩
    have hA := hO.at hok
    have hB3 := hB2.x hx3
    replace hxw := hxw.trans hx3
    replace hF := hF.mono (hx3.fr _)
    replace hD := hD.mono (hx3.fr _)
    replace hG := hG.mono hx3
    clear hx3 hB2 hO
    have HN := Lib.hid hN
    have HV := Lib.hid hV
    clear hN hV
    have t0 := bxOne hB3
    have lt3 := hB3.lt
    go_wp2_with fail
    refine (PruneStore_s l a n c _ t ta tn tc _ W3 hD hF hnc).mono ?_
    rw [HV.out, HN.out]
    rintro _ W4 ⟨ra4, rc4, rfl, hO4, hx4⟩
    go_wp2_with fail
    refine (equalStore_c V V ra ra4 _ _ rc rc4 _ _ W4 (hA.mono (hx4.fr _)) (hO4.at hok)).mono ?_
    rintro _ W5 ⟨rfl, hx5⟩
    rw [decide_eq_true (rfl : V = V)]
    have hx35 := hx4.trans hx5
    go_wp2_with fail
    refine (ValidStore_c l a n c _ W5 (hD.mono (hx35.fr _)) (hG.mono hx35)).mono ?_
    rintro _ W6 ⟨rfl, hx6⟩
    have hx36 := hx35.trans hx6
    have hB6 := hB3.x hx36
    have hxw6 := hxw.trans hx36
    have hF6 := hF.mono (hx36.fr _)
    have hD6 := hD.mono (hx36.fr _)
    have hG6 := hG.mono hx36
    have hA6 := hA.mono (hx36.fr _)
    clear hx4 hx5 hx35 hO4 hB3 t0 lt3 hxw hF hD hG hA hx6 hx36
    have t0 := bxOne hB6
    have lt6 := hB6.lt
    cases q1 : storeB l
    · go_wp2_with fail
      refine (PruneStore_s l a n c _ t ta tn tc _ W6 hD6 hF6 hnc).mono ?_
      rw [HV.out, HN.out]
      rintro _ W7 ⟨ra7, rc7, rfl, hO7, hx7⟩
      go_wp2_with fail
      refine (equalStore_c V V ra ra7 _ _ rc rc7 _ _ W7 (hA6.mono (hx7.fr _)) (hO7.at hok)).mono ?_
      rintro _ W8 ⟨rfl, hx8⟩
      rw [decide_eq_true (rfl : V = V)]
      go_wp2
      go_ret
      exact ⟨rfl, (hxw6.trans hx7).trans hx8⟩
    go_wp2_with fail
    refine (ValidTree_c t ta tn tc _ W6 hF6 htc hG6).mono ?_
    rintro _ W7 ⟨rfl, hx7⟩
    have hB7 := hB6.x hx7
    have hxw7 := hxw6.trans hx7
    have hF7 := hF6.mono (hx7.fr _)
    have hD7 := hD6.mono (hx7.fr _)
    have hG7 := hG6.mono hx7
    have hA7 := hA6.mono (hx7.fr _)
    clear hx7 hB6 t0 lt6 hxw6 hF6 hD6 hG6 hA6
    have t0 := bxOne hB7
    have lt7 := hB7.lt
    cases q2 : treeB t
    · go_wp2_with fail
      refine (PruneStore_s l a n c _ t ta tn tc _ W7 hD7 hF7 hnc).mono ?_
      rw [HV.out, HN.out]
      rintro _ W8 ⟨ra8, rc8, rfl, hO8, hx8⟩
      go_wp2_with fail
      refine (equalStore_c V V ra ra8 _ _ rc rc8 _ _ W8 (hA7.mono (hx8.fr _)) (hO8.at hok)).mono ?_
      rintro _ W9 ⟨rfl, hx9⟩
      rw [decide_eq_true (rfl : V = V)]
      go_wp2
      go_ret
      exact ⟨rfl, (hxw7.trans hx8).trans hx9⟩
    obtain ⟨g1, g2, g3, g4⟩ := Hlaw.out q1 q2
    have G1 := Lib.hid (show ∀ k, k < tn → bodyLd V (nth t k) = bodyLd l (nth t k) ∧ hadB V (nth t k) = hadB l (nth t k) from fun k hk => g1 k (by rw [← Hl.out]; exact hk))
    have G4 := Lib.hid g4
    have G3 : N ≤ tn := by rw [Hl.out]; exact g3
    clear g1 g3 g4 Hlaw
    go_wp2
    go_loopw [6] (fun i wr => ∃ k : Nat, k ≤ tn ∧ i = .int .i64 k ∧ X W7 wr) (fun i _ => tn - (intOf i).toNat)
    case atStart => exact ⟨0, Nat.zero_le _, rfl, by (repeat (first | with_reducible exact X.refl _ | with_reducible assumption | with_reducible refine X.setCell ?_ (by first | (simp; done) | (simp; omega)) _ | with_reducible refine X.ext ?_ _ | with_reducible refine X.alloc ?_ _ | with_reducible refine X.drew ?_))⟩
    case round =>
      obtain ⟨k, hk, rfl, hX⟩ := hrel
      have hBr := hB7.x hX
      clear t0 lt7
      have t0 := bxOne hBr
      have ltr := hBr.lt
      by_cases hlt : k < tn
      · obtain ⟨b, off, ba, bn, bc, rfl, _, hb, hok', hbc, hSb, g0, g1, g2', g3, g4, g5⟩ := (hF7.mono (hX.fr _)).at_ hlt
        have hfb := treeB_file q2 (k := k) (by rw [← Hl.out]; exact hlt)
        have hV := loadV_good (l := l) (f := nth t k) (mode := 0) (by rw [loadOk, q1, hfb]; rfl)
        have hV2 := loadV_good (l := V) (f := nth t k) (mode := 0) (by rw [loadOk, g2, hfb]; rfl)
        have hbd := loadV_bodyW (f := nth t k) (mode := 0) hD7.okC (by have := hSb.1; have := hSb.2.1; omega) hSb.2.2.1
        rw [hV] at hbd
        dsimp only at hbd
        obtain ⟨m1, m2⟩ := G1.out k hlt
        rw [m1, m2] at hV2
        clear m1 m2
        have hX' : ∀ w' : World, X wr w' → w'.cell? ⟨W1.heap.size, 0, none⟩ = some (.slice (some ⟨b, off, none⟩) tn tc) ∧ w'.cell? ⟨b, off + k * 6, none⟩ = some (.int .i64 (nth t k).root) ∧ w'.cell? ⟨b, off + k * 6 + 1, none⟩ = some (.string ⟨((nth t k).pkg).toArray⟩) ∧ w'.cell? ⟨b, off + k * 6 + 2, none⟩ = some (.string ⟨((nth t k).name).toArray⟩) ∧ w'.cell? ⟨b, off + k * 6 + 3, none⟩ = some (.bool (nth t k).init) ∧ w'.cell? ⟨b, off + k * 6 + 4, none⟩ = some (.int .i64 (nth t k).stamp) ∧ w'.cell? ⟨b, off + k * 6 + 5, none⟩ = some (.slice ba bn bc) := fun _ hx =>
          ⟨(hx.cell (p := ⟨W1.heap.size, 0, none⟩) ltr).trans t0, (hx.cell (p := ⟨b, off + k * 6, none⟩) hb).trans g0, (hx.cell (p := ⟨b, off + k * 6 + 1, none⟩) hb).trans g1, (hx.cell (p := ⟨b, off + k * 6 + 2, none⟩) hb).trans g2', (hx.cell (p := ⟨b, off + k * 6 + 3, none⟩) hb).trans g3, (hx.cell (p := ⟨b, off + k * 6 + 4, none⟩) hb).trans g4, (hx.cell (p := ⟨b, off + k * 6 + 5, none⟩) hb).trans g5⟩
        have HX := Lib.hid hX'
        clear hX'
        generalize nth t k = f at *
        go_wp2_with fail
        refine (LoadBody_i l a n c _ f 0 ba bn bc _ wr (hD7.mono (hX.fr _)) hok' hSb (hG7.mono hX)).mono ?_
        rw [hV]
        rintro _ w4 ⟨b6, c6, r6, rc6, B1, E1, E2, rfl, hO6, _, _, _, _, _, _, hx4⟩
        dsimp only at hO6 ⊢
        have hS6 : StmtsAt w4 E2 b6 (bodyLd l f).length (bodyLd l f) := ⟨rfl, hbd.1, hbd.2, Sl.of_own hO6⟩
        clear hV hO6 t0 g0 g1 g2' g3 g4 g5
        have hX4 : X W7 w4 := hX.trans hx4
        obtain ⟨t0, g0, g1, g2', g3, g4, g5⟩ := HX.out _ hx4
        go_wp2_with fail
        refine (LoadBody_i V ra N rc _ f 0 ba bn bc _ w4 (hA7.mono (hX4.fr _)) hok' (hSb.mono (hx4.fr _)) (hG7.mono hX4)).mono ?_
        rw [hV2]
        rintro _ w5 ⟨b7, c7, r7, rc7, B2, E3, E4, rfl, hO7, _, _, _, _, _, _, hx5⟩
        dsimp only at hO7 ⊢
        have hS7 : StmtsAt w5 E4 b7 (bodyLd l f).length (bodyLd l f) := ⟨rfl, hbd.1, hbd.2, Sl.of_own hO7⟩
        clear hV2 hO7 t0 g0 g1 g2' g3 g4 g5 hbd
        have hX5 : X W7 w5 := hX4.trans hx5
        generalize bodyLd l f = bd at *
        generalize storeLd l f 0 = st at *
        generalize storeLd V f 0 = st2 at *
        generalize hadB l f = had at *
        go_wp2_with fail
        refine (equalBody_c bd bd b6 b7 _ _ c6 c7 _ _ w5 (hS6.mono (hx5.fr _)) hS7).mono ?_
        rintro _ w6 ⟨rfl, hx6⟩
        rw [decide_eq_true (rfl : bd = bd)]
        have hX6 : X W7 w6 := hX5.trans hx6
        cases had
        all_goals
          go_wp2
          go_roundw
          case rel => exact ⟨k + 1, by omega, by go_num, hX6⟩
          case measure => simp [intOf]; omega
      · obtain rfl : k = tn := by omega
        go_wp2_with fail
        refine (ValidStore_c V ra _ rc _ _ (hA7.mono (hX.fr _)) (hG7.mono hX)).mono ?_
        rintro _ W8 ⟨rfl, hx8⟩
        rw [g2]
        have hX8 : X W7 W8 := hX.trans hx8
        have hB8 := hB7.x hX8
        clear t0 ltr
        have t0 := bxOne hB8
        have lt8 := hB8.lt
        have hNN : (N : Int) ≤ (k : Int) := by omega
        go_wp2_with fail
        refine (PruneStore_i V ra _ rc _ t ta k tc _ W8 (hA7.mono (hX8.fr _)) (hF7.mono (hX8.fr _)) htc (hG7.mono hX8)).mono ?_
        rw [G4.out, HN.out]
        rintro _ W9 ⟨ra9, rc9, rfl, hO9, hx9⟩
        go_wp2_with fail
        refine (equalStore_c V V ra9 ra _ _ rc9 rc _ _ W9 (hO9.at hok) (hA7.mono ((hX8.trans hx9).fr _))).mono ?_
        rintro _ W10 ⟨rfl, hx10⟩
        rw [decide_eq_true (rfl : V = V)]
        go_wp2
        go_ret
        exact ⟨rfl, ((hxw7.trans hX8).trans hx9).trans hx10⟩

end Go.Proofs.YtebnjkjllinabaaDoor
