/- Several texts in one: MaH, MaI, MaJ, MaK. No condition but lengths. -/
import Derived.Test.YtgjfjjhmgbemcaaGreatDoorLo
import Derived.Test.YtgjfjjhmgbemcaaGreatDoorLn
namespace Go.Proofs.YtgjfjjhmgbemcaaGreatDoor
open Go.RowKit

set_option maxRecDepth 100000 in
set_option maxHeartbeats 4000000 in
theorem hit_c (B mb left q : Nat) (tv pv : Value) (ms : List Mp) (k : Nat) (w : World) (hS : MaW w B mb tv pv left q ms) (hk : k < ms.length) (hq : q + 2 ≤ 1000000) (hB : B ≤ w.heap.size) :
    Calls Tryz.prog 141 #[.pointer (some ⟨mb, 0, none⟩), .int .i64 (k : Int)] w fun e w' => e = .returned (.int .i64 (k : Int)) ∧ MaW w' B mb tv pv left (q + 2) ms ∧ Kp B w w' := by
  have hS0 := hS
  obtain ⟨mv, ov, lv, qv, hX⟩ := hS
  obtain ⟨g, mc, hmv, hkc, hgl, c0, hM⟩ := hX.at_ hk
  obtain ⟨lm, -, -, -, -, -, m4, -, -, -, -⟩ := ma_out hX.box
  rw [hmv] at m4
  obtain ⟨x, hx⟩ : ∃ x, nth ms k = x := ⟨_, rfl⟩
  rw [hx] at c0 hM
  obtain ⟨lx, -, m0, -, -, -, -, -⟩ := mo_out hM.box
  have Hx := Lib.hid hx
  clear hx hmv hX hM
  go_enter Tryz.func141, Tryz.ntmps141
  go_wp2_with fail
  refine (event_c B mb left q tv pv ms 3 x.mo.name w hS0 (by omega) hB).mono ?_
  rintro _ w1 ⟨rfl, hS1, hK1⟩
  have hB1 : B ≤ w1.heap.size := Nat.le_trans hB hK1.size
  clear m4 m0 c0 lm lx hgl
  have hS2 := hS1
  obtain ⟨mv1, ov1, lv1, qv1, hX1⟩ := hS2
  have hM1 := hX1.mods k hk
  rw [Hx.out] at hM1
  obtain ⟨lm, -, -, -, -, -, -, -, -, m7, -⟩ := ma_out hX1.box
  obtain ⟨lx, -, m0, -, -, -, m4, -⟩ := mo_out hM1.box
  obtain ⟨qs, qa, qc, rfl, hql, hqb, hQ0⟩ := hX1.prow
  have hQ := StrsAt.of_own hQ0 (by omega) (fun s hs => Nat.le_trans (hqb s hs) (by omega))
  have hb12 := nameB_len hM1.ok.1
  obtain ⟨n, hn⟩ : ∃ n, qs.length = n := ⟨_, rfl⟩
  rw [hn] at m7 hQ
  have Hn := Lib.hid hn
  clear hn
  obtain ⟨hb, hhb⟩ : ∃ hb, hasS qs x.mo.name = hb := ⟨_, rfl⟩
  have Hhb := Lib.hid hhb
  clear hhb
  cases hd : x.mo.done
  · rw [hd] at m4
    go_wp2_with fail
    refine wp_region_invG (fun L v W => X w1 W
        ∧ (L 0 = true → v 0 = .pointer (some ⟨x.b, 0, none⟩))
        ∧ (L 1 = true → v 1 = .pointer (some ⟨x.b, 0, none⟩))
        ∧ (L 2 = true → v 2 = .pointer (some ⟨x.b, 4, none⟩))
        ∧ (L 3 = true → v 3 = .bool false)
        ∧ (L 4 = true → v 4 = .bool true)
        ∧ (L 5 = true → v 5 = .bool true)
        ∧ (L 6 = true → v 6 = .pointer (some ⟨mb, 0, none⟩))
        ∧ (L 7 = true → v 7 = .pointer (some ⟨mb, 0, none⟩))
        ∧ (L 8 = true → v 8 = .pointer (some ⟨mb, 7, none⟩))
        ∧ (L 9 = true → v 9 = .slice qa n qc)
        ∧ (L 10 = true → v 10 = .pointer (some ⟨x.b, 0, none⟩))
        ∧ (L 11 = true → v 11 = .pointer (some ⟨x.b, 0, none⟩))
        ∧ (L 12 = true → v 12 = .pointer (some ⟨x.b, 0, none⟩))
        ∧ (L 13 = true → v 13 = .string ⟨(x.mo.name).toArray⟩)
        ∧ (L 14 = true → v 14 = .bool hb)
        ∧ (L 15 = true → v 15 = .bool (!hb))
        ∧ (L 16 = true → v 16 = .bool (!hb))) (by kernel_rfl) (by kernel_rfl) ?_ ?_ (l := [(19, 0), (20, 1), (21, 2), (22, 3), (23, 4), (24, 5), (25, 6), (26, 7), (27, 8), (28, 9), (29, 10), (30, 11), (31, 12), (32, 13), (33, 14), (34, 15), (35, 16)]) (by kernel_rfl) (n := 17) rfl ?_
    · intro v
      exact ⟨(X.refl _).drew, fun h => Bool.noConfusion h, fun h => Bool.noConfusion h, fun h => Bool.noConfusion h, fun h => Bool.noConfusion h, fun h => Bool.noConfusion h, fun h => Bool.noConfusion h, fun h => Bool.noConfusion h, fun h => Bool.noConfusion h, fun h => Bool.noConfusion h, fun h => Bool.noConfusion h, fun h => Bool.noConfusion h, fun h => Bool.noConfusion h, fun h => Bool.noConfusion h, fun h => Bool.noConfusion h, fun h => Bool.noConfusion h, fun h => Bool.noConfusion h, fun h => Bool.noConfusion h⟩
    · intro i hi
      have hi' : i = 0 ∨ i = 1 ∨ i = 2 ∨ i = 3 ∨ i = 4 ∨ i = 5 ∨ i = 6 ∨ i = 7 ∨ i = 8 ∨ i = 9 ∨ i = 10 ∨ i = 11 ∨ i = 12 ∨ i = 13 ∨ i = 14 ∨ i = 15 ∨ i = 16 := by
        have : i < 17 := hi
        omega
      clear hi
      rcases hi' with rfl | rfl | rfl | rfl | rfl | rfl | rfl | rfl | rfl | rfl | rfl | rfl | rfl | rfl | rfl | rfl | rfl
      all_goals
        intro o ho L v aa W hI hS hL hA K hK
        cases (show some _ = some o from ho)
        obtain ⟨xx, v0, v1, v2, v3, v4, v5, v6, v7, v8, v9, v10, v11, v12, v13, v14, v15, v16⟩ := hI
      · have o5 := hS.old 5 (by kernel_rfl) rfl
        have p0 := (xx.cell (p := ⟨x.b, 0, none⟩) lx).trans m0
        have p4 := (xx.cell (p := ⟨x.b, 4, none⟩) lx).trans m4
        have p7 := (xx.cell (p := ⟨mb, 7, none⟩) lm).trans m7
        have lW := Nat.lt_of_lt_of_le lx xx.size
        have lW2 := Nat.lt_of_lt_of_le lm xx.size
        refine wantY (by exact rfl) ?_
        clear hS ho hA
        go_simp
        exact hK _ W ⟨xx, fun _ => rfl, v1, v2, v3, v4, v5, v6, v7, v8, v9, v10, v11, v12, v13, v14, v15, v16⟩
      · have l0 : L 0 = true := hA ⟨0, .data⟩ (by simp) rfl
        have g0 := hS.get 0 19 rfl l0 (v0 l0)
        have p0 := (xx.cell (p := ⟨x.b, 0, none⟩) lx).trans m0
        have p4 := (xx.cell (p := ⟨x.b, 4, none⟩) lx).trans m4
        have p7 := (xx.cell (p := ⟨mb, 7, none⟩) lm).trans m7
        have lW := Nat.lt_of_lt_of_le lx xx.size
        have lW2 := Nat.lt_of_lt_of_le lm xx.size
        refine wantY (by exact rfl) ?_
        clear hS ho hA
        go_simp
        exact hK _ W ⟨xx, v0, fun _ => rfl, v2, v3, v4, v5, v6, v7, v8, v9, v10, v11, v12, v13, v14, v15, v16⟩
      · have l1 : L 1 = true := hA ⟨1, .data⟩ (by simp) rfl
        have g1 := hS.get 1 20 rfl l1 (v1 l1)
        have p0 := (xx.cell (p := ⟨x.b, 0, none⟩) lx).trans m0
        have p4 := (xx.cell (p := ⟨x.b, 4, none⟩) lx).trans m4
        have p7 := (xx.cell (p := ⟨mb, 7, none⟩) lm).trans m7
        have lW := Nat.lt_of_lt_of_le lx xx.size
        have lW2 := Nat.lt_of_lt_of_le lm xx.size
        refine wantY (by exact rfl) ?_
        clear hS ho hA
        go_simp
        exact hK _ W ⟨xx, v0, v1, fun _ => rfl, v3, v4, v5, v6, v7, v8, v9, v10, v11, v12, v13, v14, v15, v16⟩
      · have l2 : L 2 = true := hA ⟨2, .data⟩ (by simp) rfl
        have g2 := hS.get 2 21 rfl l2 (v2 l2)
        have p0 := (xx.cell (p := ⟨x.b, 0, none⟩) lx).trans m0
        have p4 := (xx.cell (p := ⟨x.b, 4, none⟩) lx).trans m4
        have p7 := (xx.cell (p := ⟨mb, 7, none⟩) lm).trans m7
        have lW := Nat.lt_of_lt_of_le lx xx.size
        have lW2 := Nat.lt_of_lt_of_le lm xx.size
        refine wantY (by exact rfl) ?_
        clear hS ho hA
        go_simp
        exact hK _ W ⟨xx, v0, v1, v2, fun _ => rfl, v4, v5, v6, v7, v8, v9, v10, v11, v12, v13, v14, v15, v16⟩
      · have l3 : L 3 = true := hA ⟨3, .data⟩ (by simp) rfl
        have g3 := hS.get 3 22 rfl l3 (v3 l3)
        have p0 := (xx.cell (p := ⟨x.b, 0, none⟩) lx).trans m0
        have p4 := (xx.cell (p := ⟨x.b, 4, none⟩) lx).trans m4
        have p7 := (xx.cell (p := ⟨mb, 7, none⟩) lm).trans m7
        have lW := Nat.lt_of_lt_of_le lx xx.size
        have lW2 := Nat.lt_of_lt_of_le lm xx.size
        refine wantY (by exact rfl) ?_
        clear hS ho hA
        go_simp
        exact hK _ W ⟨xx, v0, v1, v2, v3, fun _ => rfl, v5, v6, v7, v8, v9, v10, v11, v12, v13, v14, v15, v16⟩
      · have l4 : L 4 = true := hA ⟨4, .data⟩ (by simp) rfl
        have g4 := hS.get 4 23 rfl l4 (v4 l4)
        have p0 := (xx.cell (p := ⟨x.b, 0, none⟩) lx).trans m0
        have p4 := (xx.cell (p := ⟨x.b, 4, none⟩) lx).trans m4
        have p7 := (xx.cell (p := ⟨mb, 7, none⟩) lm).trans m7
        have lW := Nat.lt_of_lt_of_le lx xx.size
        have lW2 := Nat.lt_of_lt_of_le lm xx.size
        refine wantY (by exact rfl) ?_
        clear hS ho hA
        go_simp
        exact hK _ W ⟨xx, v0, v1, v2, v3, v4, fun _ => rfl, v6, v7, v8, v9, v10, v11, v12, v13, v14, v15, v16⟩
      · have l5 : L 5 = true := hA ⟨5, .guard⟩ (by simp) rfl
        have o0 := hS.old 0 (by kernel_rfl) rfl
        have p0 := (xx.cell (p := ⟨x.b, 0, none⟩) lx).trans m0
        have p4 := (xx.cell (p := ⟨x.b, 4, none⟩) lx).trans m4
        have p7 := (xx.cell (p := ⟨mb, 7, none⟩) lm).trans m7
        have lW := Nat.lt_of_lt_of_le lx xx.size
        have lW2 := Nat.lt_of_lt_of_le lm xx.size
        refine wantY (by rw [wanted_of rfl (hS.yield 5 24 rfl l5 (v5 l5))]; rfl) ?_
        clear hS ho hA
        go_simp
        exact hK _ W ⟨xx, v0, v1, v2, v3, v4, v5, fun _ => rfl, v7, v8, v9, v10, v11, v12, v13, v14, v15, v16⟩
      · have l5 : L 5 = true := hA ⟨5, .guard⟩ (by simp) rfl
        have l6 : L 6 = true := hA ⟨6, .data⟩ (by simp) rfl
        have g6 := hS.get 6 25 rfl l6 (v6 l6)
        have p0 := (xx.cell (p := ⟨x.b, 0, none⟩) lx).trans m0
        have p4 := (xx.cell (p := ⟨x.b, 4, none⟩) lx).trans m4
        have p7 := (xx.cell (p := ⟨mb, 7, none⟩) lm).trans m7
        have lW := Nat.lt_of_lt_of_le lx xx.size
        have lW2 := Nat.lt_of_lt_of_le lm xx.size
        refine wantY (by rw [wanted_of rfl (hS.yield 5 24 rfl l5 (v5 l5))]; rfl) ?_
        clear hS ho hA
        go_simp
        exact hK _ W ⟨xx, v0, v1, v2, v3, v4, v5, v6, fun _ => rfl, v8, v9, v10, v11, v12, v13, v14, v15, v16⟩
      · have l5 : L 5 = true := hA ⟨5, .guard⟩ (by simp) rfl
        have l7 : L 7 = true := hA ⟨7, .data⟩ (by simp) rfl
        have g7 := hS.get 7 26 rfl l7 (v7 l7)
        have p0 := (xx.cell (p := ⟨x.b, 0, none⟩) lx).trans m0
        have p4 := (xx.cell (p := ⟨x.b, 4, none⟩) lx).trans m4
        have p7 := (xx.cell (p := ⟨mb, 7, none⟩) lm).trans m7
        have lW := Nat.lt_of_lt_of_le lx xx.size
        have lW2 := Nat.lt_of_lt_of_le lm xx.size
        refine wantY (by rw [wanted_of rfl (hS.yield 5 24 rfl l5 (v5 l5))]; rfl) ?_
        clear hS ho hA
        go_simp
        exact hK _ W ⟨xx, v0, v1, v2, v3, v4, v5, v6, v7, fun _ => rfl, v9, v10, v11, v12, v13, v14, v15, v16⟩
      · have l5 : L 5 = true := hA ⟨5, .guard⟩ (by simp) rfl
        have l8 : L 8 = true := hA ⟨8, .data⟩ (by simp) rfl
        have g8 := hS.get 8 27 rfl l8 (v8 l8)
        have p0 := (xx.cell (p := ⟨x.b, 0, none⟩) lx).trans m0
        have p4 := (xx.cell (p := ⟨x.b, 4, none⟩) lx).trans m4
        have p7 := (xx.cell (p := ⟨mb, 7, none⟩) lm).trans m7
        have lW := Nat.lt_of_lt_of_le lx xx.size
        have lW2 := Nat.lt_of_lt_of_le lm xx.size
        refine wantY (by rw [wanted_of rfl (hS.yield 5 24 rfl l5 (v5 l5))]; rfl) ?_
        clear hS ho hA
        go_simp
        exact hK _ W ⟨xx, v0, v1, v2, v3, v4, v5, v6, v7, v8, fun _ => rfl, v10, v11, v12, v13, v14, v15, v16⟩
      · have l5 : L 5 = true := hA ⟨5, .guard⟩ (by simp) rfl
        have o5 := hS.old 5 (by kernel_rfl) rfl
        have p0 := (xx.cell (p := ⟨x.b, 0, none⟩) lx).trans m0
        have p4 := (xx.cell (p := ⟨x.b, 4, none⟩) lx).trans m4
        have p7 := (xx.cell (p := ⟨mb, 7, none⟩) lm).trans m7
        have lW := Nat.lt_of_lt_of_le lx xx.size
        have lW2 := Nat.lt_of_lt_of_le lm xx.size
        refine wantY (by rw [wanted_of rfl (hS.yield 5 24 rfl l5 (v5 l5))]; rfl) ?_
        clear hS ho hA
        go_simp
        exact hK _ W ⟨xx, v0, v1, v2, v3, v4, v5, v6, v7, v8, v9, fun _ => rfl, v11, v12, v13, v14, v15, v16⟩
      · have l5 : L 5 = true := hA ⟨5, .guard⟩ (by simp) rfl
        have l10 : L 10 = true := hA ⟨10, .data⟩ (by simp) rfl
        have g10 := hS.get 10 29 rfl l10 (v10 l10)
        have p0 := (xx.cell (p := ⟨x.b, 0, none⟩) lx).trans m0
        have p4 := (xx.cell (p := ⟨x.b, 4, none⟩) lx).trans m4
        have p7 := (xx.cell (p := ⟨mb, 7, none⟩) lm).trans m7
        have lW := Nat.lt_of_lt_of_le lx xx.size
        have lW2 := Nat.lt_of_lt_of_le lm xx.size
        refine wantY (by rw [wanted_of rfl (hS.yield 5 24 rfl l5 (v5 l5))]; rfl) ?_
        clear hS ho hA
        go_simp
        exact hK _ W ⟨xx, v0, v1, v2, v3, v4, v5, v6, v7, v8, v9, v10, fun _ => rfl, v12, v13, v14, v15, v16⟩
      · have l5 : L 5 = true := hA ⟨5, .guard⟩ (by simp) rfl
        have l11 : L 11 = true := hA ⟨11, .data⟩ (by simp) rfl
        have g11 := hS.get 11 30 rfl l11 (v11 l11)
        have p0 := (xx.cell (p := ⟨x.b, 0, none⟩) lx).trans m0
        have p4 := (xx.cell (p := ⟨x.b, 4, none⟩) lx).trans m4
        have p7 := (xx.cell (p := ⟨mb, 7, none⟩) lm).trans m7
        have lW := Nat.lt_of_lt_of_le lx xx.size
        have lW2 := Nat.lt_of_lt_of_le lm xx.size
        refine wantY (by rw [wanted_of rfl (hS.yield 5 24 rfl l5 (v5 l5))]; rfl) ?_
        clear hS ho hA
        go_simp
        exact hK _ W ⟨xx, v0, v1, v2, v3, v4, v5, v6, v7, v8, v9, v10, v11, fun _ => rfl, v13, v14, v15, v16⟩
      · have l5 : L 5 = true := hA ⟨5, .guard⟩ (by simp) rfl
        have l12 : L 12 = true := hA ⟨12, .data⟩ (by simp) rfl
        have g12 := hS.get 12 31 rfl l12 (v12 l12)
        have p0 := (xx.cell (p := ⟨x.b, 0, none⟩) lx).trans m0
        have p4 := (xx.cell (p := ⟨x.b, 4, none⟩) lx).trans m4
        have p7 := (xx.cell (p := ⟨mb, 7, none⟩) lm).trans m7
        have lW := Nat.lt_of_lt_of_le lx xx.size
        have lW2 := Nat.lt_of_lt_of_le lm xx.size
        refine wantY (by rw [wanted_of rfl (hS.yield 5 24 rfl l5 (v5 l5))]; rfl) ?_
        clear hS ho hA
        go_simp
        exact hK _ W ⟨xx, v0, v1, v2, v3, v4, v5, v6, v7, v8, v9, v10, v11, v12, fun _ => rfl, v14, v15, v16⟩
      · have l5 : L 5 = true := hA ⟨5, .guard⟩ (by simp) rfl
        have l9 : L 9 = true := hA ⟨9, .data⟩ (by simp) rfl
        have g9 := hS.get 9 28 rfl l9 (v9 l9)
        have l13 : L 13 = true := hA ⟨13, .data⟩ (by simp) rfl
        have g13 := hS.get 13 32 rfl l13 (v13 l13)
        have p0 := (xx.cell (p := ⟨x.b, 0, none⟩) lx).trans m0
        have p4 := (xx.cell (p := ⟨x.b, 4, none⟩) lx).trans m4
        have p7 := (xx.cell (p := ⟨mb, 7, none⟩) lm).trans m7
        have lW := Nat.lt_of_lt_of_le lx xx.size
        have lW2 := Nat.lt_of_lt_of_le lm xx.size
        refine wantY (by rw [wanted_of rfl (hS.yield 5 24 rfl l5 (v5 l5))]; rfl) ?_
        clear hS ho hA
        go_simp
        refine (ContainsS_c qs qa n qc B x.mo.name W (hQ.mono (xx.fr _))).mono ?_
        rintro _ _ ⟨rfl, rfl⟩
        rw [Hhb.out]
        exact hK _ W ⟨xx, v0, v1, v2, v3, v4, v5, v6, v7, v8, v9, v10, v11, v12, v13, fun _ => rfl, v15, v16⟩
      · have l5 : L 5 = true := hA ⟨5, .guard⟩ (by simp) rfl
        have l14 : L 14 = true := hA ⟨14, .data⟩ (by simp) rfl
        have g14 := hS.get 14 33 rfl l14 (v14 l14)
        have p0 := (xx.cell (p := ⟨x.b, 0, none⟩) lx).trans m0
        have p4 := (xx.cell (p := ⟨x.b, 4, none⟩) lx).trans m4
        have p7 := (xx.cell (p := ⟨mb, 7, none⟩) lm).trans m7
        have lW := Nat.lt_of_lt_of_le lx xx.size
        have lW2 := Nat.lt_of_lt_of_le lm xx.size
        refine wantY (by rw [wanted_of rfl (hS.yield 5 24 rfl l5 (v5 l5))]; rfl) ?_
        clear hS ho hA
        go_simp
        exact hK _ W ⟨xx, v0, v1, v2, v3, v4, v5, v6, v7, v8, v9, v10, v11, v12, v13, v14, fun _ => rfl, v16⟩
      · have l5 : L 5 = true := hA ⟨5, .data⟩ (by simp) rfl
        have g5 := hS.get 5 24 rfl l5 (v5 l5)
        have l15 : L 15 = true := hA ⟨15, .data⟩ (by simp) rfl
        have g15 := hS.get 15 34 rfl l15 (v15 l15)
        have p0 := (xx.cell (p := ⟨x.b, 0, none⟩) lx).trans m0
        have p4 := (xx.cell (p := ⟨x.b, 4, none⟩) lx).trans m4
        have p7 := (xx.cell (p := ⟨mb, 7, none⟩) lm).trans m7
        have lW := Nat.lt_of_lt_of_le lx xx.size
        have lW2 := Nat.lt_of_lt_of_le lm xx.size
        refine wantY (by exact rfl) ?_
        clear hS ho hA
        go_simp
        exact hK _ W ⟨xx, v0, v1, v2, v3, v4, v5, v6, v7, v8, v9, v10, v11, v12, v13, v14, v15, fun _ => rfl⟩
    intro v W9 hI
    obtain ⟨xx, v0, v1, v2, v3, v4, v5, v6, v7, v8, v9, v10, v11, v12, v13, v14, v15, v16⟩ := hI
    have e0 := v0 rfl
    have e1 := v1 rfl
    have e2 := v2 rfl
    have e3 := v3 rfl
    have e4 := v4 rfl
    have e5 := v5 rfl
    have e6 := v6 rfl
    have e7 := v7 rfl
    have e8 := v8 rfl
    have e9 := v9 rfl
    have e10 := v10 rfl
    have e11 := v11 rfl
    have e12 := v12 rfl
    have e13 := v13 rfl
    have e14 := v14 rfl
    have e15 := v15 rfl
    have e16 := v16 rfl
    clear v0 v1 v2 v3 v4 v5 v6 v7 v8 v9 v10 v11 v12 v13 v14 v15 v16
    simp only [putL, List.foldl, List.setIfInBounds_toArray, List.set_cons_zero, List.set_cons_succ, e0, e1, e2, e3, e4, e5, e6, e7, e8, e9, e10, e11, e12, e13, e14, e15, e16]
    clear e0 e1 e2 e3 e4 e5 e6 e7 e8 e9 e10 e11 e12 e13 e14 e15 e16
    cases hb
    · obtain ⟨w2, rfl⟩ : ∃ w2, w2 = W9 := ⟨_, rfl⟩
      have hX2 := hX1.x xx
      have hB2 : B ≤ w2.heap.size := Nat.le_trans hB1 xx.size
      have hM2 := hM1.x xx
      obtain ⟨lm2, -, -, -, -, -, -, -, -, m72, -⟩ := ma_out hX2.box
      obtain ⟨lx2, -, m02, -, -, -, -, -⟩ := mo_out hM2.box
      have hrow := own_fr hQ0 (xx.fr B)
      have hbx := hX2.box
      rw [Hn.out] at m72 hrow
      have hn9 : n ≤ 1000000 := by have := Hn.out; omega
      have HX2 := Lib.hid (And.intro hX1 (And.intro hX2 hql))
      clear m4 m0 m7 lm lx hQ hS0 hX1 hX2 hQ0 hql
      go_wp2
      refine wp_region_inv (fun L v W => (L 10 = false → X w2 W)
          ∧ (L 10 = true → L 13 = false → ∃ g8 c8, v 10 = .slice (some ⟨g8, 0, none⟩) (n + 1) c8 ∧ W.ownsRow B 9 1 (.slice (some ⟨g8, 0, none⟩) (n + 1) c8) (n + 1) (strs qs ++ [.string ⟨(x.mo.name).toArray⟩]) ∧ w2.grownBy W (.slice qa n qc : Value).ownBlock ∧ Mv w2 (.slice qa n qc) (.slice (some ⟨g8, 0, none⟩) (n + 1) c8))
          ∧ (L 13 = true → L 10 = true)
          ∧ (L 10 = true → L 4 = true ∧ L 9 = true)
          ∧ (L 9 = true → L 8 = true)
          ∧ (L 0 = true → v 0 = .pointer (some ⟨mb, 0, none⟩))
          ∧ (L 1 = true → v 1 = .pointer (some ⟨mb, 0, none⟩))
          ∧ (L 2 = true → v 2 = .pointer (some ⟨mb, 0, none⟩))
          ∧ (L 3 = true → v 3 = .pointer (some ⟨mb, 7, none⟩))
          ∧ (L 4 = true → v 4 = .slice qa n qc)
          ∧ (L 5 = true → v 5 = .pointer (some ⟨x.b, 0, none⟩))
          ∧ (L 6 = true → v 6 = .pointer (some ⟨x.b, 0, none⟩))
          ∧ (L 7 = true → v 7 = .pointer (some ⟨x.b, 0, none⟩))
          ∧ (L 8 = true → v 8 = .string ⟨(x.mo.name).toArray⟩)
          ∧ (L 9 = true → ∃ g, v 9 = .slice (some ⟨g, 0, none⟩) 1 1 ∧ (L 10 = false → W.heap[g]? = some (.cells #[.string ⟨(x.mo.name).toArray⟩] 9 (0, 0))))
          ∧ (L 11 = true → v 11 = .pointer (some ⟨mb, 0, none⟩))
          ∧ (L 12 = true → v 12 = .pointer (some ⟨mb, 7, none⟩))
          ∧ (L 13 = true → ∃ w8 g8 c8, W = w8.setCell ⟨mb, 7, none⟩ (.slice (some ⟨g8, 0, none⟩) (n + 1) c8) ∧ w8.ownsRow B 9 1 (.slice (some ⟨g8, 0, none⟩) (n + 1) c8) (n + 1) (strs qs ++ [.string ⟨(x.mo.name).toArray⟩]) ∧ w2.grownBy w8 (.slice qa n qc : Value).ownBlock ∧ Mv w2 (.slice qa n qc) (.slice (some ⟨g8, 0, none⟩) (n + 1) c8))) (by kernel_rfl) (by kernel_rfl) ?_ ?_ (l := [(36, 0), (37, 1), (38, 2), (39, 3), (40, 4), (41, 5), (42, 6), (43, 7), (44, 8), (45, 9), (46, 10), (47, 11), (48, 12)]) (by kernel_rfl) (n := 14) rfl ?_
      · intro v
        exact ⟨fun _ => (X.refl _).drew, fun h => Bool.noConfusion h, fun h => Bool.noConfusion h, fun h => Bool.noConfusion h, fun h => Bool.noConfusion h, fun h => Bool.noConfusion h, fun h => Bool.noConfusion h, fun h => Bool.noConfusion h, fun h => Bool.noConfusion h, fun h => Bool.noConfusion h, fun h => Bool.noConfusion h, fun h => Bool.noConfusion h, fun h => Bool.noConfusion h, fun h => Bool.noConfusion h, fun h => Bool.noConfusion h, fun h => Bool.noConfusion h, fun h => Bool.noConfusion h, fun h => Bool.noConfusion h⟩
      · intro i hi
        have hi' : i = 0 ∨ i = 1 ∨ i = 2 ∨ i = 3 ∨ i = 4 ∨ i = 5 ∨ i = 6 ∨ i = 7 ∨ i = 8 ∨ i = 9 ∨ i = 10 ∨ i = 11 ∨ i = 12 ∨ i = 13 := by
          have : i < 14 := hi
          omega
        clear hi
        rcases hi' with rfl | rfl | rfl | rfl | rfl | rfl | rfl | rfl | rfl | rfl | rfl | rfl | rfl | rfl
        all_goals
          intro o ho L v aa W hI hS hL hA K hK
          cases (show some _ = some o from ho)
          obtain ⟨xx, ap, dS, dA, dL, v0, v1, v2, v3, v4, v5, v6, v7, v8, v9, v11, v12, fin⟩ := hI
        · have a0 := hS.old 0 (by kernel_rfl) rfl
          clear hS ho hA
          go_simp
          exact hK _ W ⟨xx, ap, dS, dA, dL, fun _ => rfl, v1, v2, v3, v4, v5, v6, v7, v8, v9, v11, v12, fin⟩
        · have a0 := hS.old 0 (by kernel_rfl) rfl
          clear hS ho hA
          go_simp
          exact hK _ W ⟨xx, ap, dS, dA, dL, v0, fun _ => rfl, v2, v3, v4, v5, v6, v7, v8, v9, v11, v12, fin⟩
        · have l1 : L 1 = true := hA ⟨1, .data⟩ (by simp) rfl
          have a1 := hS.get 1 37 rfl l1 (v1 l1)
          clear hS ho hA
          go_simp
          exact hK _ W ⟨xx, ap, dS, dA, dL, v0, v1, fun _ => rfl, v3, v4, v5, v6, v7, v8, v9, v11, v12, fin⟩
        · have l2 : L 2 = true := hA ⟨2, .data⟩ (by simp) rfl
          have a2 := hS.get 2 38 rfl l2 (v2 l2)
          clear hS ho hA
          go_simp
          exact hK _ W ⟨xx, ap, dS, dA, dL, v0, v1, v2, fun _ => rfl, v4, v5, v6, v7, v8, v9, v11, v12, fin⟩
        · have l3 : L 3 = true := hA ⟨3, .data⟩ (by simp) rfl
          have a3 := hS.get 3 39 rfl l3 (v3 l3)
          have n10 : L 10 = false := by rcases h : L 10 with _ | _; (· rfl); (· have := (dA h).1; simp [hL] at this)
          have XW := xx n10
          have cW := (XW.cell (p := ⟨mb, 7, none⟩) lm2).trans m72
          have lW := Nat.lt_of_lt_of_le lm2 XW.size
          clear hS ho hA
          go_simp
          exact hK _ W ⟨xx, ap, dS, fun h => ⟨rfl, (dA h).2⟩, dL, v0, v1, v2, v3, fun _ => rfl, v5, v6, v7, v8, v9, v11, v12, fin⟩
        · have a0 := hS.old 5 (by kernel_rfl) rfl
          clear hS ho hA
          go_simp
          exact hK _ W ⟨xx, ap, dS, dA, dL, v0, v1, v2, v3, v4, fun _ => rfl, v6, v7, v8, v9, v11, v12, fin⟩
        · have l5 : L 5 = true := hA ⟨5, .data⟩ (by simp) rfl
          have a5 := hS.get 5 41 rfl l5 (v5 l5)
          clear hS ho hA
          go_simp
          exact hK _ W ⟨xx, ap, dS, dA, dL, v0, v1, v2, v3, v4, v5, fun _ => rfl, v7, v8, v9, v11, v12, fin⟩
        · have l6 : L 6 = true := hA ⟨6, .data⟩ (by simp) rfl
          have a6 := hS.get 6 42 rfl l6 (v6 l6)
          clear hS ho hA
          go_simp
          exact hK _ W ⟨xx, ap, dS, dA, dL, v0, v1, v2, v3, v4, v5, v6, fun _ => rfl, v8, v9, v11, v12, fin⟩
        · have l7 : L 7 = true := hA ⟨7, .data⟩ (by simp) rfl
          have a7 := hS.get 7 43 rfl l7 (v7 l7)
          have n10 : L 10 = false := by rcases h : L 10 with _ | _; (· rfl); (· have := (dL (dA h).2); simp [hL] at this)
          have XW := xx n10
          have cW := (XW.cell (p := ⟨x.b, 0, none⟩) lx2).trans m02
          have lW := Nat.lt_of_lt_of_le lx2 XW.size
          clear hS ho hA
          go_simp
          exact hK _ W ⟨xx, ap, dS, dA, fun _ => rfl, v0, v1, v2, v3, v4, v5, v6, v7, fun _ => rfl, v9, v11, v12, fin⟩
        · have l8 : L 8 = true := hA ⟨8, .data⟩ (by simp) rfl
          have a8 := hS.get 8 44 rfl l8 (v8 l8)
          have n10 : L 10 = false := by rcases h : L 10 with _ | _; (· rfl); (· have := (dA h).2; simp [hL] at this)
          have n13 : L 13 = false := by rcases h : L 13 with _ | _; (· rfl); (· have := (dA (dS h)).2; simp [hL] at this)
          clear hS ho hA
          go_simp
          exact hK _ _ ⟨fun h => (xx h).alloc _, fun h => Bool.noConfusion (n10.symm.trans h), dS, fun h => ⟨(dA h).1, rfl⟩, fun _ => l8, v0, v1, v2, v3, v4, v5, v6, v7, v8, fun _ => ⟨_, rfl, fun _ => heap_alloc_new _ _⟩, v11, v12, fun h => Bool.noConfusion (n13.symm.trans h)⟩
        · have l4 : L 4 = true := hA ⟨4, .data⟩ (by simp) rfl
          have l9 : L 9 = true := hA ⟨9, .data⟩ (by simp) rfl
          have n13 : L 13 = false := by rcases h : L 13 with _ | _; (· rfl); (· have := dS h; simp [hL] at this)
          obtain ⟨gl, el, hgl⟩ := v9 l9
          refine unwantM (E := True) (by exact rfl) (step_append_m (ops := #[]) str_T rfl _ _ rfl (xx hL) hrow ((hS.eval_on 4 40 rfl l4).trans (v4 l4)) ((hS.eval_on 9 45 rfl l9).trans el) (hgl hL) rfl (by simp [Value.oneCell']) (by omega) (by omega) hB2 ?_)
          intro g8 c8 w8 hO8 hg8 hm8
          exact hK _ w8 ⟨fun h => Bool.noConfusion h, fun _ _ => ⟨g8, c8, rfl, hO8, hg8, hm8⟩, fun _ => rfl, fun _ => ⟨l4, l9⟩, dL, v0, v1, v2, v3, v4, v5, v6, v7, v8, fun h => let ⟨g, e, _⟩ := v9 h; ⟨g, e, fun h => Bool.noConfusion h⟩, v11, v12, fun h => Bool.noConfusion (n13.symm.trans h)⟩
        · have l0 : L 0 = true := hA ⟨0, .data⟩ (by simp) rfl
          have a0 := hS.get 0 36 rfl l0 (v0 l0)
          clear hS ho hA
          go_simp
          exact hK _ W ⟨xx, ap, dS, dA, dL, v0, v1, v2, v3, v4, v5, v6, v7, v8, v9, fun _ => rfl, v12, fin⟩
        · have l11 : L 11 = true := hA ⟨11, .data⟩ (by simp) rfl
          have a11 := hS.get 11 47 rfl l11 (v11 l11)
          clear hS ho hA
          go_simp
          exact hK _ W ⟨xx, ap, dS, dA, dL, v0, v1, v2, v3, v4, v5, v6, v7, v8, v9, v11, fun _ => rfl, fin⟩
        · have l12 : L 12 = true := hA ⟨12, .data⟩ (by simp) rfl
          have l10 : L 10 = true := hA ⟨10, .data⟩ (by simp) rfl
          have a12 := hS.get 12 48 rfl l12 (v12 l12)
          obtain ⟨g8, c8, e8, hO8, hg8, hm8⟩ := ap l10 hL
          have a8 := hS.get 10 46 rfl l10 e8
          obtain ⟨lt, ct, ft⟩ := Bx.out ⟨_, at_grown hbx hg8 (own_ne_at hrow hbx (by decide))⟩
          have cst := ct 7
          clear ct
          clear hS ho hA
          go_simp
          exact hK undef _ ⟨fun h => Bool.noConfusion (l10.symm.trans h), fun _ h => Bool.noConfusion h, fun _ => l10, dA, dL, v0, v1, v2, v3, v4, v5, v6, v7, v8, fun h => let ⟨g, e, _⟩ := v9 h; ⟨g, e, fun h => Bool.noConfusion (l10.symm.trans h)⟩, v11, v12, fun _ => ⟨W, g8, c8, rfl, hO8, hg8, hm8⟩⟩
      intro v W9 hI
      obtain ⟨xx, ap, dS, dA, dL, v0, v1, v2, v3, v4, v5, v6, v7, v8, v9, v11, v12, fin⟩ := hI
      obtain ⟨w8, g8, c8, rfl, hO8, hg8, hm8⟩ := fin rfl
      clear fin xx ap dS dA dL v0 v1 v2 v3 v4 v5 v6 v7 v8 v9 v11 v12
      simp only [putL, List.foldl, List.setIfInBounds_toArray, List.set_cons_zero, List.set_cons_succ]
      go_wp2
      go_ret
      have hqs : (qs ++ [x.mo.name]).length = n + 1 := by simp [Hn.out]
      have hstr : strs (qs ++ [x.mo.name]) = strs qs ++ [.string ⟨(x.mo.name).toArray⟩] := by simp [strs]
      rw [← Hn.out] at hg8 hrow
      have hb8 := at_grown hbx hg8 (own_ne_at hrow hbx (by decide))
      have h9 := HX2.out.2.1.part (qs := qs ++ [x.mo.name]) (a' := some ⟨g8, 0, none⟩) (c' := c8) hg8 (by rw [hqs, hstr]; exact hO8) (by rw [hqs]; have := HX2.out.2.2; have := Hn.out; omega) (fun s hs => by
        rcases List.mem_append.1 hs with hs | hs
        · exact hqb s hs
        · rw [List.mem_singleton.1 hs]; omega)
      rw [hqs] at h9
      exact ⟨rfl, ⟨_, _, _, _, h9⟩, (hK1.trans (Kp.of_x xx hB1)).trans ((Kp.grown hg8 hrow (by unfold KT; decide) (Nat.le_refl _) hB2).trans (Kp.set hb8 HX2.out.1.lo (by unfold KT; decide) _ _))⟩
    · go_wp2
      go_ret
      exact ⟨rfl, (hS1.x xx).more (by omega), hK1.trans (Kp.of_x xx hB1)⟩
  · rw [hd] at m4
    go_wp2_with fail
    refine wp_region_invG (fun L v W => X w1 W
        ∧ (L 0 = true → v 0 = .pointer (some ⟨x.b, 0, none⟩))
        ∧ (L 1 = true → v 1 = .pointer (some ⟨x.b, 0, none⟩))
        ∧ (L 2 = true → v 2 = .pointer (some ⟨x.b, 4, none⟩))
        ∧ (L 3 = true → v 3 = .bool true)
        ∧ (L 4 = true → v 4 = .bool false)
        ∧ (L 5 = true → v 5 = .bool false)
        ∧ (L 16 = true → v 16 = .bool false)) (by kernel_rfl) (by kernel_rfl) ?_ ?_ (l := [(19, 0), (20, 1), (21, 2), (22, 3), (23, 4), (24, 5), (25, 6), (26, 7), (27, 8), (28, 9), (29, 10), (30, 11), (31, 12), (32, 13), (33, 14), (34, 15), (35, 16)]) (by kernel_rfl) (n := 17) rfl ?_
    · intro v
      exact ⟨(X.refl _).drew, fun h => Bool.noConfusion h, fun h => Bool.noConfusion h, fun h => Bool.noConfusion h, fun h => Bool.noConfusion h, fun h => Bool.noConfusion h, fun h => Bool.noConfusion h, fun h => Bool.noConfusion h⟩
    · intro i hi
      have hi' : i = 0 ∨ i = 1 ∨ i = 2 ∨ i = 3 ∨ i = 4 ∨ i = 5 ∨ i = 6 ∨ i = 7 ∨ i = 8 ∨ i = 9 ∨ i = 10 ∨ i = 11 ∨ i = 12 ∨ i = 13 ∨ i = 14 ∨ i = 15 ∨ i = 16 := by
        have : i < 17 := hi
        omega
      clear hi
      rcases hi' with rfl | rfl | rfl | rfl | rfl | rfl | rfl | rfl | rfl | rfl | rfl | rfl | rfl | rfl | rfl | rfl | rfl
      all_goals
        intro o ho L v aa W hI hS hL hA K hK
        cases (show some _ = some o from ho)
        obtain ⟨xx, v0, v1, v2, v3, v4, v5, v16⟩ := hI
      · have o5 := hS.old 5 (by kernel_rfl) rfl
        have p0 := (xx.cell (p := ⟨x.b, 0, none⟩) lx).trans m0
        have p4 := (xx.cell (p := ⟨x.b, 4, none⟩) lx).trans m4
        have p7 := (xx.cell (p := ⟨mb, 7, none⟩) lm).trans m7
        have lW := Nat.lt_of_lt_of_le lx xx.size
        have lW2 := Nat.lt_of_lt_of_le lm xx.size
        refine wantY (by exact rfl) ?_
        clear hS ho hA
        go_simp
        exact hK _ W ⟨xx, fun _ => rfl, v1, v2, v3, v4, v5, v16⟩
      · have l0 : L 0 = true := hA ⟨0, .data⟩ (by simp) rfl
        have g0 := hS.get 0 19 rfl l0 (v0 l0)
        have p0 := (xx.cell (p := ⟨x.b, 0, none⟩) lx).trans m0
        have p4 := (xx.cell (p := ⟨x.b, 4, none⟩) lx).trans m4
        have p7 := (xx.cell (p := ⟨mb, 7, none⟩) lm).trans m7
        have lW := Nat.lt_of_lt_of_le lx xx.size
        have lW2 := Nat.lt_of_lt_of_le lm xx.size
        refine wantY (by exact rfl) ?_
        clear hS ho hA
        go_simp
        exact hK _ W ⟨xx, v0, fun _ => rfl, v2, v3, v4, v5, v16⟩
      · have l1 : L 1 = true := hA ⟨1, .data⟩ (by simp) rfl
        have g1 := hS.get 1 20 rfl l1 (v1 l1)
        have p0 := (xx.cell (p := ⟨x.b, 0, none⟩) lx).trans m0
        have p4 := (xx.cell (p := ⟨x.b, 4, none⟩) lx).trans m4
        have p7 := (xx.cell (p := ⟨mb, 7, none⟩) lm).trans m7
        have lW := Nat.lt_of_lt_of_le lx xx.size
        have lW2 := Nat.lt_of_lt_of_le lm xx.size
        refine wantY (by exact rfl) ?_
        clear hS ho hA
        go_simp
        exact hK _ W ⟨xx, v0, v1, fun _ => rfl, v3, v4, v5, v16⟩
      · have l2 : L 2 = true := hA ⟨2, .data⟩ (by simp) rfl
        have g2 := hS.get 2 21 rfl l2 (v2 l2)
        have p0 := (xx.cell (p := ⟨x.b, 0, none⟩) lx).trans m0
        have p4 := (xx.cell (p := ⟨x.b, 4, none⟩) lx).trans m4
        have p7 := (xx.cell (p := ⟨mb, 7, none⟩) lm).trans m7
        have lW := Nat.lt_of_lt_of_le lx xx.size
        have lW2 := Nat.lt_of_lt_of_le lm xx.size
        refine wantY (by exact rfl) ?_
        clear hS ho hA
        go_simp
        exact hK _ W ⟨xx, v0, v1, v2, fun _ => rfl, v4, v5, v16⟩
      · have l3 : L 3 = true := hA ⟨3, .data⟩ (by simp) rfl
        have g3 := hS.get 3 22 rfl l3 (v3 l3)
        have p0 := (xx.cell (p := ⟨x.b, 0, none⟩) lx).trans m0
        have p4 := (xx.cell (p := ⟨x.b, 4, none⟩) lx).trans m4
        have p7 := (xx.cell (p := ⟨mb, 7, none⟩) lm).trans m7
        have lW := Nat.lt_of_lt_of_le lx xx.size
        have lW2 := Nat.lt_of_lt_of_le lm xx.size
        refine wantY (by exact rfl) ?_
        clear hS ho hA
        go_simp
        exact hK _ W ⟨xx, v0, v1, v2, v3, fun _ => rfl, v5, v16⟩
      · have l4 : L 4 = true := hA ⟨4, .data⟩ (by simp) rfl
        have g4 := hS.get 4 23 rfl l4 (v4 l4)
        have p0 := (xx.cell (p := ⟨x.b, 0, none⟩) lx).trans m0
        have p4 := (xx.cell (p := ⟨x.b, 4, none⟩) lx).trans m4
        have p7 := (xx.cell (p := ⟨mb, 7, none⟩) lm).trans m7
        have lW := Nat.lt_of_lt_of_le lx xx.size
        have lW2 := Nat.lt_of_lt_of_le lm xx.size
        refine wantY (by exact rfl) ?_
        clear hS ho hA
        go_simp
        exact hK _ W ⟨xx, v0, v1, v2, v3, v4, fun _ => rfl, v16⟩
      · have l5 : L 5 = true := hA ⟨5, .guard⟩ (by simp) rfl
        refine wantN (by rw [wanted_of rfl (hS.yield 5 24 rfl l5 (v5 l5))]; decide) ?_
        exact hK _ W ⟨xx, v0, v1, v2, v3, v4, v5, v16⟩
      · have l5 : L 5 = true := hA ⟨5, .guard⟩ (by simp) rfl
        refine wantN (by rw [wanted_of rfl (hS.yield 5 24 rfl l5 (v5 l5))]; decide) ?_
        exact hK _ W ⟨xx, v0, v1, v2, v3, v4, v5, v16⟩
      · have l5 : L 5 = true := hA ⟨5, .guard⟩ (by simp) rfl
        refine wantN (by rw [wanted_of rfl (hS.yield 5 24 rfl l5 (v5 l5))]; decide) ?_
        exact hK _ W ⟨xx, v0, v1, v2, v3, v4, v5, v16⟩
      · have l5 : L 5 = true := hA ⟨5, .guard⟩ (by simp) rfl
        refine wantN (by rw [wanted_of rfl (hS.yield 5 24 rfl l5 (v5 l5))]; decide) ?_
        exact hK _ W ⟨xx, v0, v1, v2, v3, v4, v5, v16⟩
      · have l5 : L 5 = true := hA ⟨5, .guard⟩ (by simp) rfl
        refine wantN (by rw [wanted_of rfl (hS.yield 5 24 rfl l5 (v5 l5))]; decide) ?_
        exact hK _ W ⟨xx, v0, v1, v2, v3, v4, v5, v16⟩
      · have l5 : L 5 = true := hA ⟨5, .guard⟩ (by simp) rfl
        refine wantN (by rw [wanted_of rfl (hS.yield 5 24 rfl l5 (v5 l5))]; decide) ?_
        exact hK _ W ⟨xx, v0, v1, v2, v3, v4, v5, v16⟩
      · have l5 : L 5 = true := hA ⟨5, .guard⟩ (by simp) rfl
        refine wantN (by rw [wanted_of rfl (hS.yield 5 24 rfl l5 (v5 l5))]; decide) ?_
        exact hK _ W ⟨xx, v0, v1, v2, v3, v4, v5, v16⟩
      · have l5 : L 5 = true := hA ⟨5, .guard⟩ (by simp) rfl
        refine wantN (by rw [wanted_of rfl (hS.yield 5 24 rfl l5 (v5 l5))]; decide) ?_
        exact hK _ W ⟨xx, v0, v1, v2, v3, v4, v5, v16⟩
      · have l5 : L 5 = true := hA ⟨5, .guard⟩ (by simp) rfl
        refine wantN (by rw [wanted_of rfl (hS.yield 5 24 rfl l5 (v5 l5))]; decide) ?_
        exact hK _ W ⟨xx, v0, v1, v2, v3, v4, v5, v16⟩
      · have l5 : L 5 = true := hA ⟨5, .guard⟩ (by simp) rfl
        refine wantN (by rw [wanted_of rfl (hS.yield 5 24 rfl l5 (v5 l5))]; decide) ?_
        exact hK _ W ⟨xx, v0, v1, v2, v3, v4, v5, v16⟩
      · have l5 : L 5 = true := hA ⟨5, .data⟩ (by simp) rfl
        have g5 := hS.get 5 24 rfl l5 (v5 l5)
        have p0 := (xx.cell (p := ⟨x.b, 0, none⟩) lx).trans m0
        have p4 := (xx.cell (p := ⟨x.b, 4, none⟩) lx).trans m4
        have p7 := (xx.cell (p := ⟨mb, 7, none⟩) lm).trans m7
        have lW := Nat.lt_of_lt_of_le lx xx.size
        have lW2 := Nat.lt_of_lt_of_le lm xx.size
        refine wantY (by exact rfl) ?_
        clear hS ho hA
        go_simp
        exact hK _ W ⟨xx, v0, v1, v2, v3, v4, v5, fun _ => rfl⟩
    intro v W9 hI
    obtain ⟨xx, v0, v1, v2, v3, v4, v5, v16⟩ := hI
    have e0 := v0 rfl
    have e1 := v1 rfl
    have e2 := v2 rfl
    have e3 := v3 rfl
    have e4 := v4 rfl
    have e5 := v5 rfl
    have e16 := v16 rfl
    clear v0 v1 v2 v3 v4 v5 v16
    simp only [putL, List.foldl, List.setIfInBounds_toArray, List.set_cons_zero, List.set_cons_succ, e0, e1, e2, e3, e4, e5, e16]
    clear e0 e1 e2 e3 e4 e5 e16
    go_wp2
    go_ret
    exact ⟨rfl, (hS1.x xx).more (by omega), hK1.trans (Kp.of_x xx hB1)⟩

end Go.Proofs.YtgjfjjhmgbemcaaGreatDoor

namespace Go.Proofs.YtgjfjjhmgbemcaaGreatDoor
open Go.RowKit

theorem findGo_file (l : List Fi) (p s : List UInt8) : ∀ (path acc : List Int), (findGo l p s path acc).file < (l.length : Int)
  | [], acc => by
    unfold findGo
    split
    · show (-1 : Int) < _; omega
    · show (-1 : Int) < _; omega
  | r :: rs, acc => by
    unfold findGo
    split
    · exact firstN_ge.2
    · split
      · exact firstN_ge.2
      · exact findGo_file l p s rs _
theorem findI_file (l : List Fi) (path : List Int) (p s : List UInt8) : (findI l path p s).file < (l.length : Int) := by
  unfold findI
  split
  · exact findGo_file l p s path []
  · show (-1 : Int) < _; omega
theorem findI_roots (l : List Fi) (path : List Int) (p s : List UInt8) : (findI l path p s).roots.length ≤ path.length := by
  unfold findI
  split
  · exact findF_le l path p s
  · exact Nat.zero_le _
/-- What a look leaves: a spec whose file is one of the tree's, its roots in a row of their own. -/
def LookP (w w' : World) (N : Nat) (e : Ending) : Prop := ∃ (kd fi : Int) (ra : Option Addr) (rc : Nat) (r : List Int), e = .returned (.agg #[.int .i64 kd, .int .i64 fi, .slice ra r.length rc]) ∧ X w w' ∧ fi < (N : Int) ∧ r.length ≤ 2097152 ∧ w'.ownsRow w.heap.size 3 1 (.slice ra r.length rc) r.length (ints r)
theorem look_end {w w1 w4 : World} {N : Nat} {r : Sp} {ra : Option Addr} {rc : Nat} (h1 : X w w1) (hlt : w.heap.size < w1.heap.size) (h4 : X w1 w4) (hO : w4.ownsRow w1.heap.size 3 1 (.slice ra r.roots.length rc) r.roots.length (ints r.roots)) (hf : r.file < (N : Int)) (hr : r.roots.length ≤ 2097152) :
    LookP w (((w4.setCell ⟨w.heap.size, 0, none⟩ (.int .i64 r.kind)).setCell ⟨w.heap.size, 1, none⟩ (.int .i64 r.file)).setCell ⟨w.heap.size, 2, none⟩ (.slice ra r.roots.length rc)) N (.returned (.agg #[.int .i64 r.kind, .int .i64 r.file, .slice ra r.roots.length rc])) :=
  ⟨_, _, ra, rc, r.roots, rfl, X.setCell (X.setCell (X.setCell (h1.trans h4) (Nat.le_refl _) _) (Nat.le_refl _) _) (Nat.le_refl _) _, hf, hr, own_less (own_same hO fun g hg => by
    have hne : g ≠ w.heap.size := by
      have := (hO.lt g hg).1
      omega
    exact (heap_setCell_other _ ⟨w.heap.size, 2, none⟩ g _ hne).trans ((heap_setCell_other _ ⟨w.heap.size, 1, none⟩ g _ hne).trans (heap_setCell_other _ ⟨w.heap.size, 0, none⟩ g _ hne))) (Nat.le_of_lt hlt)⟩
set_option maxRecDepth 100000 in
set_option maxHeartbeats 4000000 in
theorem look_c (B mb left q : Nat) (fa : Option Addr) (n fc : Nat) (pa : Option Addr) (pn pc : Nat) (ms : List Mp) (l : List Fi) (path : List Int) (Bt Bp : Nat) (nm : List UInt8) (w : World) (hS : MaW w B mb (.slice fa n fc) (.slice pa pn pc) left q ms) (hq : q ≤ 1000000) (hF : FilesAt w Bt fa n l) (hI : IntsAt w Bp pa pn path) (ht : treeB l = true) (hG : Gm w) (hn : nameB nm = true) :
    Calls Tryz.prog 143 #[.pointer (some ⟨mb, 0, none⟩), .string ⟨(nm).toArray⟩] w fun e w' => LookP w w' n e := by
  have hn12 := nameB_len hn
  have hpk := parentF_pkg nm
  have hp12 := pkgB_12 hpk
  obtain ⟨p, hp⟩ : ∃ p, parentF nm = p := ⟨_, rfl⟩
  rw [hp] at hpk hp12
  have hlast : (lastF nm).length ≤ 3 := by
    unfold lastF
    rw [if_pos hn]
    have hpos := splitL_pos 46 nm
    exact (partB_len (part_at hn (by omega))).2
  have hpl := hI.1
  have hpl2 := hI.2.1
  have Hl := Lib.hid hF.len.1
  have Hp := Lib.hid (And.intro hpl hp)
  clear hpl
  have hS0 := hS
  obtain ⟨mv, ov, lv, qv, hX⟩ := hS
  obtain ⟨lm, -, m0, m1, m2, -, m4, -, -, -, -⟩ := ma_out hX.box
  go_enter Tryz.func143, Tryz.ntmps143
  go_upto_region 1 with fail
  refine wp_name (fun W0 hW0 => ?_)
  have hR0 : Bx W0 w.heap.size #[.int .i64 0, .int .i64 0, .slice none 0 0] := by rw [hW0]; exact Bx.new _ _ _
  have hX0 : X w W0 := by rw [hW0]; (repeat (first | with_reducible exact X.refl _ | with_reducible assumption | with_reducible refine X.setCell ?_ (by first | (simp; done) | (simp; omega)) _ | with_reducible refine X.ext ?_ _ | with_reducible refine X.alloc ?_ _ | with_reducible refine X.drew ?_))
  clear hW0
  go_wp2_with fail
  refine (ParentOf_c nm W0 (by omega) (hG.mono hX0)).mono ?_
  rintro _ w1 ⟨rfl, hx1⟩
  rw [Hp.out.2]
  have hX1 := hX0.trans hx1
  have hR1 := hR0.x hx1
  clear hp
  have m01 := (hX1.cell (p := ⟨mb, 0, none⟩) lm).trans m0
  have m11 := (hX1.cell (p := ⟨mb, 1, none⟩) lm).trans m1
  have m21 := (hX1.cell (p := ⟨mb, 2, none⟩) lm).trans m2
  have lm1 := Nat.lt_of_lt_of_le lm hX1.size
  have hF1 := hF.mono (hX1.fr _)
  have hI1 := hI.mono (hX1.fr _)
  by_cases hp0 : p = []
  · subst hp0
    have hG1 := hG.mono hX1
    have hRR := hR1
    have hXX := hX1
    clear hS0 hX hR0 m0 m1 m2 m4 lm
    go_wp2_with fail
    refine wp_region_inv (fun L v W => (L 14 = false → X w1 W)
        ∧ (L 14 = true → L 3 = true ∧ L 7 = true ∧ L 12 = true ∧ L 13 = true)
        ∧ (L 13 = true → ∃ ra rc2, v 13 = .agg #[.int .i64 (findI l path [] nm).kind, .int .i64 (findI l path [] nm).file, .slice ra (findI l path [] nm).roots.length rc2] ∧ (L 14 = false → W.ownsRow w1.heap.size 3 1 (.slice ra (findI l path [] nm).roots.length rc2) (findI l path [] nm).roots.length (ints (findI l path [] nm).roots)) ∧ (L 14 = true → ∃ w4, X w1 w4 ∧ w4.ownsRow w1.heap.size 3 1 (.slice ra (findI l path [] nm).roots.length rc2) (findI l path [] nm).roots.length (ints (findI l path [] nm).roots) ∧ W = ((w4.setCell ⟨w.heap.size, 0, none⟩ (.int .i64 (findI l path [] nm).kind)).setCell ⟨w.heap.size, 1, none⟩ (.int .i64 (findI l path [] nm).file)).setCell ⟨w.heap.size, 2, none⟩ (.slice ra (findI l path [] nm).roots.length rc2)))
        ∧ (L 0 = true → v 0 = .pointer (some ⟨mb, 0, none⟩))
        ∧ (L 1 = true → v 1 = .pointer (some ⟨mb, 0, none⟩))
        ∧ (L 2 = true → v 2 = .pointer (some ⟨mb, 0, none⟩))
        ∧ (L 3 = true → v 3 = .agg #[.slice fa n fc])
        ∧ (L 4 = true → v 4 = .pointer (some ⟨mb, 0, none⟩))
        ∧ (L 5 = true → v 5 = .pointer (some ⟨mb, 0, none⟩))
        ∧ (L 6 = true → v 6 = .pointer (some ⟨mb, 1, none⟩))
        ∧ (L 7 = true → v 7 = .slice pa pn pc)
        ∧ (L 8 = true → v 8 = .string ⟨(nm).toArray⟩)
        ∧ (L 9 = true → v 9 = .pointer (some ⟨mb, 0, none⟩))
        ∧ (L 10 = true → v 10 = .pointer (some ⟨mb, 0, none⟩))
        ∧ (L 11 = true → v 11 = .pointer (some ⟨mb, 2, none⟩))
        ∧ (L 12 = true → v 12 = .nilFunc)) (by kernel_rfl) (by kernel_rfl) ?_ ?_ (l := [(11, 0), (12, 1), (13, 2), (14, 3), (15, 4), (16, 5), (17, 6), (18, 7), (19, 8), (20, 9), (21, 10), (22, 11), (23, 12), (24, 13)]) (by kernel_rfl) (n := 15) rfl ?_
    · intro v
      exact ⟨fun _ => (X.refl _).drew, fun h => Bool.noConfusion h, fun h => Bool.noConfusion h, fun h => Bool.noConfusion h, fun h => Bool.noConfusion h, fun h => Bool.noConfusion h, fun h => Bool.noConfusion h, fun h => Bool.noConfusion h, fun h => Bool.noConfusion h, fun h => Bool.noConfusion h, fun h => Bool.noConfusion h, fun h => Bool.noConfusion h, fun h => Bool.noConfusion h, fun h => Bool.noConfusion h, fun h => Bool.noConfusion h, fun h => Bool.noConfusion h⟩
    · intro i hi
      have hi' : i = 0 ∨ i = 1 ∨ i = 2 ∨ i = 3 ∨ i = 4 ∨ i = 5 ∨ i = 6 ∨ i = 7 ∨ i = 8 ∨ i = 9 ∨ i = 10 ∨ i = 11 ∨ i = 12 ∨ i = 13 ∨ i = 14 := by
        have : i < 15 := hi
        omega
      clear hi
      rcases hi' with rfl | rfl | rfl | rfl | rfl | rfl | rfl | rfl | rfl | rfl | rfl | rfl | rfl | rfl | rfl
      all_goals
        intro o ho L v aa W hI hS hL hA K hK
        cases (show some _ = some o from ho)
        obtain ⟨nn, dS, rc, v0, v1, v2, v3, v4, v5, v6, v7, v8, v9, v10, v11, v12⟩ := hI
      · have o0 := hS.old 0 (by kernel_rfl) rfl
        clear hS ho hA
        go_simp
        exact hK _ W ⟨nn, dS, rc, fun _ => rfl, v1, v2, v3, v4, v5, v6, v7, v8, v9, v10, v11, v12⟩
      · have l0 : L 0 = true := hA ⟨0, .data⟩ (by simp) rfl
        have g0 := hS.get 0 11 rfl l0 (v0 l0)
        clear hS ho hA
        go_simp
        exact hK _ W ⟨nn, dS, rc, v0, fun _ => rfl, v2, v3, v4, v5, v6, v7, v8, v9, v10, v11, v12⟩
      · have l1 : L 1 = true := hA ⟨1, .data⟩ (by simp) rfl
        have g1 := hS.get 1 12 rfl l1 (v1 l1)
        clear hS ho hA
        go_simp
        exact hK _ W ⟨nn, dS, rc, v0, v1, fun _ => rfl, v3, v4, v5, v6, v7, v8, v9, v10, v11, v12⟩
      · have l2 : L 2 = true := hA ⟨2, .data⟩ (by simp) rfl
        have g2 := hS.get 2 13 rfl l2 (v2 l2)
        have nS : L 14 = false := by rcases h : L 14 with _ | _; (· rfl); (· have := (dS h).1; simp [hL] at this)
        have xx := nn nS
        have cW := (xx.cell (p := ⟨mb, 0, none⟩) lm1).trans m01
        have lW := Nat.lt_of_lt_of_le lm1 xx.size
        clear hS ho hA
        go_simp
        exact hK _ W ⟨nn, fun h => ⟨rfl, (dS h).2.1, (dS h).2.2.1, (dS h).2.2.2⟩, rc, v0, v1, v2, fun _ => rfl, v4, v5, v6, v7, v8, v9, v10, v11, v12⟩
      · have o0 := hS.old 0 (by kernel_rfl) rfl
        clear hS ho hA
        go_simp
        exact hK _ W ⟨nn, dS, rc, v0, v1, v2, v3, fun _ => rfl, v5, v6, v7, v8, v9, v10, v11, v12⟩
      · have l4 : L 4 = true := hA ⟨4, .data⟩ (by simp) rfl
        have g4 := hS.get 4 15 rfl l4 (v4 l4)
        clear hS ho hA
        go_simp
        exact hK _ W ⟨nn, dS, rc, v0, v1, v2, v3, v4, fun _ => rfl, v6, v7, v8, v9, v10, v11, v12⟩
      · have l5 : L 5 = true := hA ⟨5, .data⟩ (by simp) rfl
        have g5 := hS.get 5 16 rfl l5 (v5 l5)
        clear hS ho hA
        go_simp
        exact hK _ W ⟨nn, dS, rc, v0, v1, v2, v3, v4, v5, fun _ => rfl, v7, v8, v9, v10, v11, v12⟩
      · have l6 : L 6 = true := hA ⟨6, .data⟩ (by simp) rfl
        have g6 := hS.get 6 17 rfl l6 (v6 l6)
        have nS : L 14 = false := by rcases h : L 14 with _ | _; (· rfl); (· have := (dS h).2.1; simp [hL] at this)
        have xx := nn nS
        have cW := (xx.cell (p := ⟨mb, 1, none⟩) lm1).trans m11
        have lW := Nat.lt_of_lt_of_le lm1 xx.size
        clear hS ho hA
        go_simp
        exact hK _ W ⟨nn, fun h => ⟨(dS h).1, rfl, (dS h).2.2.1, (dS h).2.2.2⟩, rc, v0, v1, v2, v3, v4, v5, v6, fun _ => rfl, v8, v9, v10, v11, v12⟩
      · have o1 := hS.old 1 (by kernel_rfl) rfl
        clear hS ho hA
        go_simp
        exact hK _ W ⟨nn, dS, rc, v0, v1, v2, v3, v4, v5, v6, v7, fun _ => rfl, v9, v10, v11, v12⟩
      · have o0 := hS.old 0 (by kernel_rfl) rfl
        clear hS ho hA
        go_simp
        exact hK _ W ⟨nn, dS, rc, v0, v1, v2, v3, v4, v5, v6, v7, v8, fun _ => rfl, v10, v11, v12⟩
      · have l9 : L 9 = true := hA ⟨9, .data⟩ (by simp) rfl
        have g9 := hS.get 9 20 rfl l9 (v9 l9)
        clear hS ho hA
        go_simp
        exact hK _ W ⟨nn, dS, rc, v0, v1, v2, v3, v4, v5, v6, v7, v8, v9, fun _ => rfl, v11, v12⟩
      · have l10 : L 10 = true := hA ⟨10, .data⟩ (by simp) rfl
        have g10 := hS.get 10 21 rfl l10 (v10 l10)
        clear hS ho hA
        go_simp
        exact hK _ W ⟨nn, dS, rc, v0, v1, v2, v3, v4, v5, v6, v7, v8, v9, v10, fun _ => rfl, v12⟩
      · have l11 : L 11 = true := hA ⟨11, .data⟩ (by simp) rfl
        have g11 := hS.get 11 22 rfl l11 (v11 l11)
        have nS : L 14 = false := by rcases h : L 14 with _ | _; (· rfl); (· have := (dS h).2.2.1; simp [hL] at this)
        have xx := nn nS
        have cW := (xx.cell (p := ⟨mb, 2, none⟩) lm1).trans m21
        have lW := Nat.lt_of_lt_of_le lm1 xx.size
        clear hS ho hA
        go_simp
        exact hK _ W ⟨nn, fun h => ⟨(dS h).1, (dS h).2.1, rfl, (dS h).2.2.2⟩, rc, v0, v1, v2, v3, v4, v5, v6, v7, v8, v9, v10, v11, fun _ => rfl⟩
      · have l3 : L 3 = true := hA ⟨3, .data⟩ (by simp) rfl
        have g3 := hS.get 3 14 rfl l3 (v3 l3)
        have l7 : L 7 = true := hA ⟨7, .data⟩ (by simp) rfl
        have g7 := hS.get 7 18 rfl l7 (v7 l7)
        have l8 : L 8 = true := hA ⟨8, .data⟩ (by simp) rfl
        have g8 := hS.get 8 19 rfl l8 (v8 l8)
        have l12 : L 12 = true := hA ⟨12, .data⟩ (by simp) rfl
        have g12 := hS.get 12 23 rfl l12 (v12 l12)
        have nS : L 14 = false := by rcases h : L 14 with _ | _; (· rfl); (· have := (dS h).2.2.2; simp [hL] at this)
        have xx := nn nS
        clear hS ho hA
        go_simp
        refine (find_c l fa n fc Bt path pa pn pc Bp [] nm W (hF1.mono (xx.fr _)) (hI1.mono (xx.fr _)) (by simp) (by omega) (hG1.mono xx) ht).mono ?_
        rintro _ w3 ⟨ra, rc2, rfl, hown, hx⟩
        have hsz := xx.size
        exact hK _ w3 ⟨fun h => (nn h).trans hx, fun h => ⟨(dS h).1, (dS h).2.1, (dS h).2.2.1, rfl⟩, fun _ => ⟨ra, rc2, rfl, fun _ => own_less hown hsz, fun h => Bool.noConfusion (nS.symm.trans h)⟩, v0, v1, v2, v3, v4, v5, v6, v7, v8, v9, v10, v11, v12⟩
      · have o4 := hS.old 4 (by kernel_rfl) rfl
        have l13 : L 13 = true := hA ⟨13, .data⟩ (by simp) rfl
        have l3 : L 3 = true := hA ⟨3, .phase⟩ (by simp) rfl
        have l7 : L 7 = true := hA ⟨7, .phase⟩ (by simp) rfl
        have l12 : L 12 = true := hA ⟨12, .phase⟩ (by simp) rfl
        have xx := nn hL
        obtain ⟨ra, rc2, eR, hO, -⟩ := rc l13
        have gR := hS.get 13 24 rfl l13 eR
        obtain ⟨lr, cr, fr⟩ := (hRR.x xx).out
        have q0 := cr 0
        have q1 := cr 1
        have q2 := cr 2
        have fz0 := fr 0
        have fz1 := fr 1
        have fz2 := fr 2
        clear cr fr
        clear hS ho hA
        go_simp
        exact hK undef _ ⟨fun h => Bool.noConfusion h, fun _ => ⟨l3, l7, l12, l13⟩, fun _ => ⟨ra, rc2, eR, fun h => Bool.noConfusion h, fun _ => ⟨W, xx, hO hL, rfl⟩⟩, v0, v1, v2, v3, v4, v5, v6, v7, v8, v9, v10, v11, v12⟩
    intro v W9 hI
    obtain ⟨nn, dS, rc, v0, v1, v2, v3, v4, v5, v6, v7, v8, v9, v10, v11, v12⟩ := hI
    have e0 := v0 rfl
    have e1 := v1 rfl
    have e2 := v2 rfl
    have e3 := v3 rfl
    have e4 := v4 rfl
    have e5 := v5 rfl
    have e6 := v6 rfl
    have e7 := v7 rfl
    have e8 := v8 rfl
    have e9 := v9 rfl
    have e10 := v10 rfl
    have e11 := v11 rfl
    have e12 := v12 rfl
    clear v0 v1 v2 v3 v4 v5 v6 v7 v8 v9 v10 v11 v12
    obtain ⟨ra, rc2, eR, -, hW⟩ := rc rfl
    obtain ⟨w4, hx4, hO4, hW9⟩ := hW rfl
    clear rc nn dS hW
    simp only [putL, List.foldl, List.setIfInBounds_toArray, List.set_cons_zero, List.set_cons_succ, e0, e1, e2, e3, e4, e5, e6, e7, e8, e9, e10, e11, e12, eR]
    clear e0 e1 e2 e3 e4 e5 e6 e7 e8 e9 e10 e11 e12
    clear eR
    subst hW9
    go_wp2
    refine bodyPost_row Tryz.results143 rfl (Bx.set (Bx.set (Bx.set (hRR.x hx4) 0 _) 1 _) 2 _) spec_S rfl rfl ?_
    exact look_end hX1 hR1.lt hx4 hO4 (by rw [Hl.out]; exact findI_file l path [] nm) (by have := findI_roots l path [] nm; have := Hp.out.1; omega)
  · have hp0' : (p == []) = false := by simpa using hp0
    have hS1 := hS0.x hX1
    have hG1 := hG.mono hX1
    clear hX hR0 m0 m1 m2 m4 lm
    go_wp2_with fail
    refine (cached_c B mb _ _ left q ms p w1 hS1 hq).mono ?_
    rintro _ w2 ⟨rfl, hx2⟩
    obtain ⟨j, hj⟩ : ∃ j, midx ms p ms.length = j := ⟨_, rfl⟩
    rw [hj]
    have hj2 : j = -1 ∨ ∃ k : Nat, j = (k : Int) ∧ k < ms.length := by
      rw [← hj]
      rcases firstN_cases (fun k => (nth ms k).mo.cached && (nth ms k).mo.name == p) ms.length with ⟨_, h⟩ | ⟨k, hk, _, _, h⟩
      · exact .inl h
      · exact .inr ⟨k, h, hk⟩
    have hX2 := hX1.trans hx2
    have hR2 := hR1.x hx2
    obtain ⟨lr2, cr2, fr2⟩ := hR2.out
    have q02 := cr2 0
    have q12 := cr2 1
    have q22 := cr2 2
    clear cr2 m01 m11 m21 lm1
    rcases hj2 with rfl | ⟨k, rfl, hk⟩
    · go_wp2_with fail
      refine (nothing_c w2).mono ?_
      rintro _ w4 ⟨ra, rc, rfl, hO4, hx4⟩
      have hR4 := hR2.x hx4
      obtain ⟨lr4, cr4, fr4⟩ := hR4.out
      have q04 := cr4 0
      have q14 := cr4 1
      have q24 := cr4 2
      clear cr4 q02 q12 q22
      go_wp2
      refine bodyPost_row Tryz.results143 rfl (Bx.set (Bx.set (Bx.set hR4 0 _) 1 _) 2 _) spec_S rfl rfl ?_
      exact look_end (r := noneSp) hX1 hR1.lt (hx2.trans hx4) (own_less hO4 hx2.size) (by show (-1 : Int) < _; omega) (by show 0 ≤ _; omega)
    · obtain ⟨mv2, ov2, lv2, qv2, hMX⟩ := hS1.x hx2
      obtain ⟨g, mc, rfl, hkc, hgl2, c02, hM⟩ := hMX.at_ hk
      obtain ⟨lm2, -, m02, m12, m22, -, m42, -, -, -, -⟩ := ma_out hMX.box
      obtain ⟨x, hx⟩ : ∃ x, nth ms k = x := ⟨_, rfl⟩
      rw [hx] at c02 hM
      obtain ⟨lx2, -, x02, x12, x22, -, -, -⟩ := mo_out hM.box
      by_cases hk1 : x.mo.kind = 1
      · rw [hk1] at x12
        go_wp2_with fail
        refine (nothing_c w2).mono ?_
        rintro _ w4 ⟨ra, rc, rfl, hO4, hx4⟩
        have hR4 := hR2.x hx4
        obtain ⟨lr4, cr4, fr4⟩ := hR4.out
        have q04 := cr4 0
        have q14 := cr4 1
        have q24 := cr4 2
        clear cr4 q02 q12 q22
        go_wp2
        refine bodyPost_row Tryz.results143 rfl (Bx.set (Bx.set (Bx.set hR4 0 _) 1 _) 2 _) spec_S rfl rfl ?_
        exact look_end (r := noneSp) hX1 hR1.lt (hx2.trans hx4) (own_less hO4 hx2.size) (by show (-1 : Int) < _; omega) (by show 0 ≤ _; omega)
      · obtain ⟨xa, xc, hrv, hRo⟩ := hM.rts
        rw [hrv] at x22 hRo
        obtain ⟨roots, hroots⟩ : ∃ roots, x.mo.roots = roots := ⟨_, rfl⟩
        have hro2 := hM.ok.2.1
        rw [hroots] at x22 hRo hro2
        have hI2 := SpecAt.ints hRo hro2
        have hF2 := hF1.mono (hx2.fr Bt)
        have hG2 := hG1.mono hx2
        have hRR := hR2
        clear hMX hRo hM
        have hk1' : (x.mo.kind == 1) = false := by simpa using hk1
        have hkn : ((k : Int) < 0) = False := eq_false (by omega)
        go_wp2_with fail
        refine wp_region_inv (fun L v W => (L 22 = false → X w2 W)
            ∧ (L 22 = true → L 3 = true ∧ L 7 = true ∧ L 10 = true ∧ L 13 = true ∧ L 16 = true ∧ L 20 = true ∧ L 21 = true)
            ∧ (L 21 = true → ∃ ra rc2, v 21 = .agg #[.int .i64 (findI l roots p (lastF nm)).kind, .int .i64 (findI l roots p (lastF nm)).file, .slice ra (findI l roots p (lastF nm)).roots.length rc2] ∧ (L 22 = false → W.ownsRow w1.heap.size 3 1 (.slice ra (findI l roots p (lastF nm)).roots.length rc2) (findI l roots p (lastF nm)).roots.length (ints (findI l roots p (lastF nm)).roots)) ∧ (L 22 = true → ∃ w4, X w2 w4 ∧ w4.ownsRow w1.heap.size 3 1 (.slice ra (findI l roots p (lastF nm)).roots.length rc2) (findI l roots p (lastF nm)).roots.length (ints (findI l roots p (lastF nm)).roots) ∧ W = ((w4.setCell ⟨w.heap.size, 0, none⟩ (.int .i64 (findI l roots p (lastF nm)).kind)).setCell ⟨w.heap.size, 1, none⟩ (.int .i64 (findI l roots p (lastF nm)).file)).setCell ⟨w.heap.size, 2, none⟩ (.slice ra (findI l roots p (lastF nm)).roots.length rc2)))
            ∧ (L 0 = true → v 0 = .pointer (some ⟨mb, 0, none⟩))
            ∧ (L 1 = true → v 1 = .pointer (some ⟨mb, 0, none⟩))
            ∧ (L 2 = true → v 2 = .pointer (some ⟨mb, 0, none⟩))
            ∧ (L 3 = true → v 3 = .agg #[.slice fa n fc])
            ∧ (L 4 = true → v 4 = .pointer (some ⟨mb, 0, none⟩))
            ∧ (L 5 = true → v 5 = .pointer (some ⟨mb, 0, none⟩))
            ∧ (L 6 = true → v 6 = .pointer (some ⟨mb, 4, none⟩))
            ∧ (L 7 = true → v 7 = .slice (some ⟨g, 0, none⟩) ms.length mc)
            ∧ (L 8 = true → v 8 = .int .i64 (k : Int))
            ∧ (L 9 = true → v 9 = .pointer (some ⟨g, k, none⟩))
            ∧ (L 10 = true → v 10 = .pointer (some ⟨x.b, 0, none⟩))
            ∧ (L 11 = true → v 11 = .pointer (some ⟨x.b, 0, none⟩))
            ∧ (L 12 = true → v 12 = .pointer (some ⟨x.b, 2, none⟩))
            ∧ (L 13 = true → v 13 = .slice xa roots.length xc)
            ∧ (L 14 = true → v 14 = .string ⟨(p).toArray⟩)
            ∧ (L 15 = true → v 15 = .string ⟨(nm).toArray⟩)
            ∧ (L 16 = true → v 16 = .string ⟨(lastF nm).toArray⟩)
            ∧ (L 17 = true → v 17 = .pointer (some ⟨mb, 0, none⟩))
            ∧ (L 18 = true → v 18 = .pointer (some ⟨mb, 0, none⟩))
            ∧ (L 19 = true → v 19 = .pointer (some ⟨mb, 2, none⟩))
            ∧ (L 20 = true → v 20 = .nilFunc)) (by kernel_rfl) (by kernel_rfl) ?_ ?_ (l := [(44, 0), (45, 1), (46, 2), (47, 3), (48, 4), (49, 5), (50, 6), (51, 7), (52, 8), (53, 9), (54, 10), (55, 11), (56, 12), (57, 13), (58, 14), (59, 15), (60, 16), (61, 17), (62, 18), (63, 19), (64, 20), (65, 21)]) (by kernel_rfl) (n := 23) rfl ?_
        · intro v
          exact ⟨fun _ => (X.refl _).drew, fun h => Bool.noConfusion h, fun h => Bool.noConfusion h, fun h => Bool.noConfusion h, fun h => Bool.noConfusion h, fun h => Bool.noConfusion h, fun h => Bool.noConfusion h, fun h => Bool.noConfusion h, fun h => Bool.noConfusion h, fun h => Bool.noConfusion h, fun h => Bool.noConfusion h, fun h => Bool.noConfusion h, fun h => Bool.noConfusion h, fun h => Bool.noConfusion h, fun h => Bool.noConfusion h, fun h => Bool.noConfusion h, fun h => Bool.noConfusion h, fun h => Bool.noConfusion h, fun h => Bool.noConfusion h, fun h => Bool.noConfusion h, fun h => Bool.noConfusion h, fun h => Bool.noConfusion h, fun h => Bool.noConfusion h, fun h => Bool.noConfusion h⟩
        · intro i hi
          have hi' : i = 0 ∨ i = 1 ∨ i = 2 ∨ i = 3 ∨ i = 4 ∨ i = 5 ∨ i = 6 ∨ i = 7 ∨ i = 8 ∨ i = 9 ∨ i = 10 ∨ i = 11 ∨ i = 12 ∨ i = 13 ∨ i = 14 ∨ i = 15 ∨ i = 16 ∨ i = 17 ∨ i = 18 ∨ i = 19 ∨ i = 20 ∨ i = 21 ∨ i = 22 := by
            have : i < 23 := hi
            omega
          clear hi
          rcases hi' with rfl | rfl | rfl | rfl | rfl | rfl | rfl | rfl | rfl | rfl | rfl | rfl | rfl | rfl | rfl | rfl | rfl | rfl | rfl | rfl | rfl | rfl | rfl
          all_goals
            intro o ho L v aa W hI hS hL hA K hK
            cases (show some _ = some o from ho)
            obtain ⟨nn, dS, rc, v0, v1, v2, v3, v4, v5, v6, v7, v8, v9, v10, v11, v12, v13, v14, v15, v16, v17, v18, v19, v20⟩ := hI
          · have o0 := hS.old 0 (by kernel_rfl) rfl
            clear hS ho hA
            go_simp
            exact hK _ W ⟨nn, dS, rc, fun _ => rfl, v1, v2, v3, v4, v5, v6, v7, v8, v9, v10, v11, v12, v13, v14, v15, v16, v17, v18, v19, v20⟩
          · have l0 : L 0 = true := hA ⟨0, .data⟩ (by simp) rfl
            have g0 := hS.get 0 44 rfl l0 (v0 l0)
            clear hS ho hA
            go_simp
            exact hK _ W ⟨nn, dS, rc, v0, fun _ => rfl, v2, v3, v4, v5, v6, v7, v8, v9, v10, v11, v12, v13, v14, v15, v16, v17, v18, v19, v20⟩
          · have l1 : L 1 = true := hA ⟨1, .data⟩ (by simp) rfl
            have g1 := hS.get 1 45 rfl l1 (v1 l1)
            clear hS ho hA
            go_simp
            exact hK _ W ⟨nn, dS, rc, v0, v1, fun _ => rfl, v3, v4, v5, v6, v7, v8, v9, v10, v11, v12, v13, v14, v15, v16, v17, v18, v19, v20⟩
          · have l2 : L 2 = true := hA ⟨2, .data⟩ (by simp) rfl
            have g2 := hS.get 2 46 rfl l2 (v2 l2)
            have nS : L 22 = false := by rcases h : L 22 with _ | _; (· rfl); (· have := (dS h).1; simp [hL] at this)
            have xx := nn nS
            have cW := (xx.cell (p := ⟨mb, 0, none⟩) lm2).trans m02
            have lW := Nat.lt_of_lt_of_le lm2 xx.size
            clear hS ho hA
            go_simp
            exact hK _ W ⟨nn, fun h => ⟨rfl, (dS h).2.1, (dS h).2.2.1, (dS h).2.2.2.1, (dS h).2.2.2.2.1, (dS h).2.2.2.2.2.1, (dS h).2.2.2.2.2.2⟩, rc, v0, v1, v2, fun _ => rfl, v4, v5, v6, v7, v8, v9, v10, v11, v12, v13, v14, v15, v16, v17, v18, v19, v20⟩
          · have o0 := hS.old 0 (by kernel_rfl) rfl
            clear hS ho hA
            go_simp
            exact hK _ W ⟨nn, dS, rc, v0, v1, v2, v3, fun _ => rfl, v5, v6, v7, v8, v9, v10, v11, v12, v13, v14, v15, v16, v17, v18, v19, v20⟩
          · have l4 : L 4 = true := hA ⟨4, .data⟩ (by simp) rfl
            have g4 := hS.get 4 48 rfl l4 (v4 l4)
            clear hS ho hA
            go_simp
            exact hK _ W ⟨nn, dS, rc, v0, v1, v2, v3, v4, fun _ => rfl, v6, v7, v8, v9, v10, v11, v12, v13, v14, v15, v16, v17, v18, v19, v20⟩
          · have l5 : L 5 = true := hA ⟨5, .data⟩ (by simp) rfl
            have g5 := hS.get 5 49 rfl l5 (v5 l5)
            clear hS ho hA
            go_simp
            exact hK _ W ⟨nn, dS, rc, v0, v1, v2, v3, v4, v5, fun _ => rfl, v7, v8, v9, v10, v11, v12, v13, v14, v15, v16, v17, v18, v19, v20⟩
          · have l6 : L 6 = true := hA ⟨6, .data⟩ (by simp) rfl
            have g6 := hS.get 6 50 rfl l6 (v6 l6)
            have nS : L 22 = false := by rcases h : L 22 with _ | _; (· rfl); (· have := (dS h).2.1; simp [hL] at this)
            have xx := nn nS
            have cW := (xx.cell (p := ⟨mb, 4, none⟩) lm2).trans m42
            have lW := Nat.lt_of_lt_of_le lm2 xx.size
            clear hS ho hA
            go_simp
            exact hK _ W ⟨nn, fun h => ⟨(dS h).1, rfl, (dS h).2.2.1, (dS h).2.2.2.1, (dS h).2.2.2.2.1, (dS h).2.2.2.2.2.1, (dS h).2.2.2.2.2.2⟩, rc, v0, v1, v2, v3, v4, v5, v6, fun _ => rfl, v8, v9, v10, v11, v12, v13, v14, v15, v16, v17, v18, v19, v20⟩
          · have o6 := hS.old 6 (by kernel_rfl) rfl
            clear hS ho hA
            go_simp
            exact hK _ W ⟨nn, dS, rc, v0, v1, v2, v3, v4, v5, v6, v7, fun _ => rfl, v9, v10, v11, v12, v13, v14, v15, v16, v17, v18, v19, v20⟩
          · have l7 : L 7 = true := hA ⟨7, .data⟩ (by simp) rfl
            have g7 := hS.get 7 51 rfl l7 (v7 l7)
            have l8 : L 8 = true := hA ⟨8, .data⟩ (by simp) rfl
            have g8 := hS.get 8 52 rfl l8 (v8 l8)
            clear hS ho hA
            go_simp
            exact hK _ W ⟨nn, dS, rc, v0, v1, v2, v3, v4, v5, v6, v7, v8, fun _ => rfl, v10, v11, v12, v13, v14, v15, v16, v17, v18, v19, v20⟩
          · have l9 : L 9 = true := hA ⟨9, .data⟩ (by simp) rfl
            have g9 := hS.get 9 53 rfl l9 (v9 l9)
            have nS : L 22 = false := by rcases h : L 22 with _ | _; (· rfl); (· have := (dS h).2.2.1; simp [hL] at this)
            have xx := nn nS
            have cW := (xx.cell (p := ⟨g, k, none⟩) hgl2).trans c02
            have lW := Nat.lt_of_lt_of_le hgl2 xx.size
            clear hS ho hA
            go_simp
            exact hK _ W ⟨nn, fun h => ⟨(dS h).1, (dS h).2.1, rfl, (dS h).2.2.2.1, (dS h).2.2.2.2.1, (dS h).2.2.2.2.2.1, (dS h).2.2.2.2.2.2⟩, rc, v0, v1, v2, v3, v4, v5, v6, v7, v8, v9, fun _ => rfl, v11, v12, v13, v14, v15, v16, v17, v18, v19, v20⟩
          · have l10 : L 10 = true := hA ⟨10, .data⟩ (by simp) rfl
            have g10 := hS.get 10 54 rfl l10 (v10 l10)
            clear hS ho hA
            go_simp
            exact hK _ W ⟨nn, dS, rc, v0, v1, v2, v3, v4, v5, v6, v7, v8, v9, v10, fun _ => rfl, v12, v13, v14, v15, v16, v17, v18, v19, v20⟩
          · have l11 : L 11 = true := hA ⟨11, .data⟩ (by simp) rfl
            have g11 := hS.get 11 55 rfl l11 (v11 l11)
            clear hS ho hA
            go_simp
            exact hK _ W ⟨nn, dS, rc, v0, v1, v2, v3, v4, v5, v6, v7, v8, v9, v10, v11, fun _ => rfl, v13, v14, v15, v16, v17, v18, v19, v20⟩
          · have l12 : L 12 = true := hA ⟨12, .data⟩ (by simp) rfl
            have g12 := hS.get 12 56 rfl l12 (v12 l12)
            have nS : L 22 = false := by rcases h : L 22 with _ | _; (· rfl); (· have := (dS h).2.2.2.1; simp [hL] at this)
            have xx := nn nS
            have cW := (xx.cell (p := ⟨x.b, 2, none⟩) lx2).trans x22
            have lW := Nat.lt_of_lt_of_le lx2 xx.size
            clear hS ho hA
            go_simp
            exact hK _ W ⟨nn, fun h => ⟨(dS h).1, (dS h).2.1, (dS h).2.2.1, rfl, (dS h).2.2.2.2.1, (dS h).2.2.2.2.2.1, (dS h).2.2.2.2.2.2⟩, rc, v0, v1, v2, v3, v4, v5, v6, v7, v8, v9, v10, v11, v12, fun _ => rfl, v14, v15, v16, v17, v18, v19, v20⟩
          · have o5 := hS.old 5 (by kernel_rfl) rfl
            clear hS ho hA
            go_simp
            exact hK _ W ⟨nn, dS, rc, v0, v1, v2, v3, v4, v5, v6, v7, v8, v9, v10, v11, v12, v13, fun _ => rfl, v15, v16, v17, v18, v19, v20⟩
          · have o1 := hS.old 1 (by kernel_rfl) rfl
            clear hS ho hA
            go_simp
            exact hK _ W ⟨nn, dS, rc, v0, v1, v2, v3, v4, v5, v6, v7, v8, v9, v10, v11, v12, v13, v14, fun _ => rfl, v16, v17, v18, v19, v20⟩
          · have l15 : L 15 = true := hA ⟨15, .data⟩ (by simp) rfl
            have g15 := hS.get 15 59 rfl l15 (v15 l15)
            have nS : L 22 = false := by rcases h : L 22 with _ | _; (· rfl); (· have := (dS h).2.2.2.2.1; simp [hL] at this)
            have xx := nn nS
            clear hS ho hA
            go_simp
            refine (LastOf_c nm W (by omega) (hG2.mono xx)).mono ?_
            rintro _ w3 ⟨rfl, hx⟩
            exact hK _ w3 ⟨fun h => (nn h).trans hx, fun h => ⟨(dS h).1, (dS h).2.1, (dS h).2.2.1, (dS h).2.2.2.1, rfl, (dS h).2.2.2.2.2.1, (dS h).2.2.2.2.2.2⟩, fun h => let ⟨ra, rc2, e, ho, _⟩ := rc h; ⟨ra, rc2, e, fun _ => own_fr (ho nS) (hx.fr _), fun h => Bool.noConfusion (nS.symm.trans h)⟩, v0, v1, v2, v3, v4, v5, v6, v7, v8, v9, v10, v11, v12, v13, v14, v15, fun _ => rfl, v17, v18, v19, v20⟩
          · have o0 := hS.old 0 (by kernel_rfl) rfl
            clear hS ho hA
            go_simp
            exact hK _ W ⟨nn, dS, rc, v0, v1, v2, v3, v4, v5, v6, v7, v8, v9, v10, v11, v12, v13, v14, v15, v16, fun _ => rfl, v18, v19, v20⟩
          · have l17 : L 17 = true := hA ⟨17, .data⟩ (by simp) rfl
            have g17 := hS.get 17 61 rfl l17 (v17 l17)
            clear hS ho hA
            go_simp
            exact hK _ W ⟨nn, dS, rc, v0, v1, v2, v3, v4, v5, v6, v7, v8, v9, v10, v11, v12, v13, v14, v15, v16, v17, fun _ => rfl, v19, v20⟩
          · have l18 : L 18 = true := hA ⟨18, .data⟩ (by simp) rfl
            have g18 := hS.get 18 62 rfl l18 (v18 l18)
            clear hS ho hA
            go_simp
            exact hK _ W ⟨nn, dS, rc, v0, v1, v2, v3, v4, v5, v6, v7, v8, v9, v10, v11, v12, v13, v14, v15, v16, v17, v18, fun _ => rfl, v20⟩
          · have l19 : L 19 = true := hA ⟨19, .data⟩ (by simp) rfl
            have g19 := hS.get 19 63 rfl l19 (v19 l19)
            have nS : L 22 = false := by rcases h : L 22 with _ | _; (· rfl); (· have := (dS h).2.2.2.2.2.1; simp [hL] at this)
            have xx := nn nS
            have cW := (xx.cell (p := ⟨mb, 2, none⟩) lm2).trans m22
            have lW := Nat.lt_of_lt_of_le lm2 xx.size
            clear hS ho hA
            go_simp
            exact hK _ W ⟨nn, fun h => ⟨(dS h).1, (dS h).2.1, (dS h).2.2.1, (dS h).2.2.2.1, (dS h).2.2.2.2.1, rfl, (dS h).2.2.2.2.2.2⟩, rc, v0, v1, v2, v3, v4, v5, v6, v7, v8, v9, v10, v11, v12, v13, v14, v15, v16, v17, v18, v19, fun _ => rfl⟩
          · have l3 : L 3 = true := hA ⟨3, .data⟩ (by simp) rfl
            have g3 := hS.get 3 47 rfl l3 (v3 l3)
            have l13 : L 13 = true := hA ⟨13, .data⟩ (by simp) rfl
            have g13 := hS.get 13 57 rfl l13 (v13 l13)
            have l14 : L 14 = true := hA ⟨14, .data⟩ (by simp) rfl
            have g14 := hS.get 14 58 rfl l14 (v14 l14)
            have l16 : L 16 = true := hA ⟨16, .data⟩ (by simp) rfl
            have g16 := hS.get 16 60 rfl l16 (v16 l16)
            have l20 : L 20 = true := hA ⟨20, .data⟩ (by simp) rfl
            have g20 := hS.get 20 64 rfl l20 (v20 l20)
            have nS : L 22 = false := by rcases h : L 22 with _ | _; (· rfl); (· have := (dS h).2.2.2.2.2.2; simp [hL] at this)
            have xx := nn nS
            clear hS ho hA
            go_simp
            refine (find_c l fa n fc Bt roots xa roots.length xc B p (lastF nm) W (hF2.mono (xx.fr _)) (hI2.mono (xx.fr _)) (by omega) (by omega) (hG2.mono xx) ht).mono ?_
            rintro _ w3 ⟨ra, rc2, rfl, hown, hx⟩
            have hsz := Nat.le_trans hx2.size xx.size
            exact hK _ w3 ⟨fun h => (nn h).trans hx, fun h => ⟨(dS h).1, (dS h).2.1, (dS h).2.2.1, (dS h).2.2.2.1, (dS h).2.2.2.2.1, (dS h).2.2.2.2.2.1, rfl⟩, fun _ => ⟨ra, rc2, rfl, fun _ => own_less hown hsz, fun h => Bool.noConfusion (nS.symm.trans h)⟩, v0, v1, v2, v3, v4, v5, v6, v7, v8, v9, v10, v11, v12, v13, v14, v15, v16, v17, v18, v19, v20⟩
          · have o4 := hS.old 4 (by kernel_rfl) rfl
            have l21 : L 21 = true := hA ⟨21, .data⟩ (by simp) rfl
            have l3 : L 3 = true := hA ⟨3, .phase⟩ (by simp) rfl
            have l7 : L 7 = true := hA ⟨7, .phase⟩ (by simp) rfl
            have l10 : L 10 = true := hA ⟨10, .phase⟩ (by simp) rfl
            have l13 : L 13 = true := hA ⟨13, .phase⟩ (by simp) rfl
            have l16 : L 16 = true := hA ⟨16, .phase⟩ (by simp) rfl
            have l20 : L 20 = true := hA ⟨20, .phase⟩ (by simp) rfl
            have xx := nn hL
            obtain ⟨ra, rc2, eR, hO, -⟩ := rc l21
            have gR := hS.get 21 65 rfl l21 eR
            obtain ⟨lr, cr, fr⟩ := (hRR.x xx).out
            have q0 := cr 0
            have q1 := cr 1
            have q2 := cr 2
            have fz0 := fr 0
            have fz1 := fr 1
            have fz2 := fr 2
            clear cr fr
            clear hS ho hA
            go_simp
            exact hK undef _ ⟨fun h => Bool.noConfusion h, fun _ => ⟨l3, l7, l10, l13, l16, l20, l21⟩, fun _ => ⟨ra, rc2, eR, fun h => Bool.noConfusion h, fun _ => ⟨W, xx, hO hL, rfl⟩⟩, v0, v1, v2, v3, v4, v5, v6, v7, v8, v9, v10, v11, v12, v13, v14, v15, v16, v17, v18, v19, v20⟩
        intro v W9 hI
        obtain ⟨nn, dS, rc, v0, v1, v2, v3, v4, v5, v6, v7, v8, v9, v10, v11, v12, v13, v14, v15, v16, v17, v18, v19, v20⟩ := hI
        have e0 := v0 rfl
        have e1 := v1 rfl
        have e2 := v2 rfl
        have e3 := v3 rfl
        have e4 := v4 rfl
        have e5 := v5 rfl
        have e6 := v6 rfl
        have e7 := v7 rfl
        have e8 := v8 rfl
        have e9 := v9 rfl
        have e10 := v10 rfl
        have e11 := v11 rfl
        have e12 := v12 rfl
        have e13 := v13 rfl
        have e14 := v14 rfl
        have e15 := v15 rfl
        have e16 := v16 rfl
        have e17 := v17 rfl
        have e18 := v18 rfl
        have e19 := v19 rfl
        have e20 := v20 rfl
        clear v0 v1 v2 v3 v4 v5 v6 v7 v8 v9 v10 v11 v12 v13 v14 v15 v16 v17 v18 v19 v20
        obtain ⟨ra, rc2, eR, -, hW⟩ := rc rfl
        obtain ⟨w4, hx4, hO4, hW9⟩ := hW rfl
        clear rc nn dS hW
        simp only [putL, List.foldl, List.setIfInBounds_toArray, List.set_cons_zero, List.set_cons_succ, e0, e1, e2, e3, e4, e5, e6, e7, e8, e9, e10, e11, e12, e13, e14, e15, e16, e17, e18, e19, e20, eR]
        clear e0 e1 e2 e3 e4 e5 e6 e7 e8 e9 e10 e11 e12 e13 e14 e15 e16 e17 e18 e19 e20
        clear eR
        subst hW9
        go_wp2
        refine bodyPost_row Tryz.results143 rfl (Bx.set (Bx.set (Bx.set (hRR.x hx4) 0 _) 1 _) 2 _) spec_S rfl rfl ?_
        exact look_end hX1 hR1.lt (hx2.trans hx4) hO4 (by rw [Hl.out]; exact findI_file l roots p (lastF nm)) (Nat.le_trans (findI_roots l roots p (lastF nm)) hro2)

end Go.Proofs.YtgjfjjhmgbemcaaGreatDoor

namespace Go.Proofs.YtgjfjjhmgbemcaaGreatDoor
open Go.RowKit

/-- The tree and the path that a machine reads. -/
def EnvM (w0 : World) (fa : Option Addr) (n fc : Nat) (pa : Option Addr) (pn : Nat) (l : List Fi) (path : List Int) : Prop := (∃ Bt, FilesAt w0 Bt fa n l) ∧ n ≤ fc ∧ (∃ Bp, IntsAt w0 Bp pa pn path) ∧ treeB l = true ∧ Gm w0
def partsN (nm : List UInt8) : Nat := (splitL 46 nm).length
/-- How an import ends. -/
def LoadE (w0 : World) (mb : Nat) (fa : Option Addr) (n fc : Nat) (pa : Option Addr) (pn pc : Nat) (w w' : World) (p left : Nat) (ms : List Mp) (e : Ending) : Prop :=
  ∃ (left' q' : Nat) (ms' : List Mp) (i en : Int), e = .returned (.tuple #[.int .i64 i, .int .i64 en]) ∧ (en = 0 → ∃ k : Nat, i = (k : Int) ∧ k < ms'.length) ∧ MaW w' w0.heap.size mb (.slice fa n fc) (.slice pa pn pc) left' q' ms' ∧ Kp w0.heap.size w w' ∧ Ext ms ms' ∧ left' ≤ left ∧ q' + 20 * left' ≤ p
/-- How a body, or a statement, ends. -/
def EndE (w0 : World) (mb : Nat) (fa : Option Addr) (n fc : Nat) (pa : Option Addr) (pn pc : Nat) (w w' : World) (p left : Nat) (ms : List Mp) (e : Ending) : Prop :=
  ∃ (left' q' : Nat) (ms' : List Mp) (en : Int), e = .returned (.int .i64 en) ∧ MaW w' w0.heap.size mb (.slice fa n fc) (.slice pa pn pc) left' q' ms' ∧ Kp w0.heap.size w w' ∧ Ext ms ms' ∧ left' ≤ left ∧ q' + 20 * left' ≤ p
def LoadOk (w0 : World) (mb : Nat) (fa : Option Addr) (n fc : Nat) (pa : Option Addr) (pn pc : Nat) (L : Nat) : Prop := ∀ (W : World) (left q : Nat) (ms : List Mp) (nm : List UInt8), X w0 W → MaW W w0.heap.size mb (.slice fa n fc) (.slice pa pn pc) left q ms → left ≤ L → nameB nm = true → q + 20 * left + 3 * partsN nm ≤ 400009 →
  Calls Tryz.prog 89 #[.pointer (some ⟨mb, 0, none⟩), .string ⟨(nm).toArray⟩] W fun e w' => LoadE w0 mb fa n fc pa pn pc W w' (q + 20 * left + 3 * partsN nm) left ms e
def BodyOk (w0 : World) (mb : Nat) (fa : Option Addr) (n fc : Nat) (pa : Option Addr) (pn pc : Nat) (L : Nat) : Prop := ∀ (W : World) (left q : Nat) (ms : List Mp) (k : Nat) (kd fi : Int) (ra : Option Addr) (rn rc : Nat), X w0 W → MaW W w0.heap.size mb (.slice fa n fc) (.slice pa pn pc) left q ms → left ≤ L → k < ms.length → fi < (n : Int) → q + 20 * left ≤ 400008 →
  Calls Tryz.prog 144 #[.pointer (some ⟨mb, 0, none⟩), .int .i64 (k : Int), .agg #[.int .i64 kd, .int .i64 fi, .slice ra rn rc]] W fun e w' => EndE w0 mb fa n fc pa pn pc W w' (q + 20 * left + 2) left ms e
def DoOk (w0 : World) (mb : Nat) (fa : Option Addr) (n fc : Nat) (pa : Option Addr) (pn pc : Nat) (L : Nat) : Prop := ∀ (W : World) (left q : Nat) (ms : List Mp) (k : Nat) (s : St), X w0 W → MaW W w0.heap.size mb (.slice fa n fc) (.slice pa pn pc) left q ms → left ≤ L → k < ms.length → stB s = true → Oks s → q + 20 * left ≤ 399990 →
  Calls Tryz.prog 182 #[.pointer (some ⟨mb, 0, none⟩), .int .i64 (k : Int), .agg #[.int .i64 (s).kind, .string ⟨(s).mod.toArray⟩, .int .i64 (s).level, .string ⟨(s).name.toArray⟩, .int .i64 (s).val]] W fun e w' => EndE w0 mb fa n fc pa pn pc W w' (q + 20 * left + 20) left ms e

theorem MaW.give {w w' : World} {B mb left q : Nat} {tv pv : Value} {ms : List Mp} (h : MaW w B mb tv pv left q ms) {k : Nat} (hk : k < ms.length) (hB : B ≤ w.heap.size) (hg : GivP w w' B (nth ms k)) : ∃ ms', MaW w' B mb tv pv left q ms' ∧ Kp B w w' ∧ Ext ms ms' := by
  obtain ⟨mv, ov, lv, qv, hX⟩ := h
  obtain ⟨y, k1, k2, k3, k4, k5⟩ := hg
  exact ⟨ms.set k y, ⟨_, _, _, _, hX.mod hk k4 k3 k1 k2 k5⟩, k4.kp (hX.mods k hk) hB, Ext.set hk k1⟩
theorem MaW.mo {w : World} {B mb left q : Nat} {tv pv : Value} {ms : List Mp} (h : MaW w B mb tv pv left q ms) {k : Nat} (hk : k < ms.length) : MoW w B (nth ms k) := by
  obtain ⟨mv, ov, lv, qv, hX⟩ := h
  exact hX.mods k hk
set_option maxRecDepth 100000 in
set_option maxHeartbeats 2000000 in
theorem newLoad_c (f : Fi) (bv : Value) (w : World) : Calls Tryz.prog 139 #[.agg #[.int .i64 (f).root, .string ⟨(f).pkg.toArray⟩, .string ⟨(f).name.toArray⟩, .bool (f).init, .int .i64 (f).stamp, bv]] w fun e w' => e = .returned bv ∧ X w w' := by
  go_enter Tryz.func139, Tryz.ntmps139
  go_upto_region 1 with fail
  refine wp_name (fun W0 hW0 => ?_)
  have hR0 : Bx W0 w.heap.size #[.int .i64 f.root, .string ⟨(f.pkg).toArray⟩, .string ⟨(f.name).toArray⟩, .bool f.init, .int .i64 f.stamp, bv] := by rw [hW0]; exact Bx.new _ _ _
  have hX0 : X w W0 := by rw [hW0]; (repeat (first | with_reducible exact X.refl _ | with_reducible assumption | with_reducible refine X.setCell ?_ (by first | (simp; done) | (simp; omega)) _ | with_reducible refine X.ext ?_ _ | with_reducible refine X.alloc ?_ _ | with_reducible refine X.drew ?_))
  clear hW0
  obtain ⟨lt, ct, _⟩ := hR0.out
  have t5 := ct 5
  clear ct
  go_wp2
  go_ret
  exact ⟨rfl, hX0⟩

end Go.Proofs.YtgjfjjhmgbemcaaGreatDoor

namespace Go.Proofs.YtgjfjjhmgbemcaaGreatDoor
open Go.RowKit

set_option maxRecDepth 100000 in
set_option maxHeartbeats 4000000 in
theorem body_s (w0 : World) (mb : Nat) (fa : Option Addr) (n fc : Nat) (pa : Option Addr) (pn pc : Nat) (l : List Fi) (path : List Int) (hE : EnvM w0 fa n fc pa pn l path) (L : Nat) (hDo : ∀ L', L' < L → DoOk w0 mb fa n fc pa pn pc L') : BodyOk w0 mb fa n fc pa pn pc L := by
  intro W left q ms k kd fi ra rn rc hX hS hL hk hfi hP
  obtain ⟨⟨Bt, hF⟩, hnc, -, ht, hG⟩ := hE
  have hB : w0.heap.size ≤ W.heap.size := hX.size
  have hS0 := hS
  obtain ⟨mv, ov, lv, qv, hMX⟩ := hS
  obtain ⟨g, mc, rfl, hkc, hgl, c0, hM⟩ := hMX.at_ hk
  obtain ⟨lm, -, -, -, -, -, m4, -, -, -, -⟩ := ma_out hMX.box
  obtain ⟨x, hx⟩ : ∃ x, nth ms k = x := ⟨_, rfl⟩
  rw [hx] at c0 hM
  obtain ⟨lx, -, x0, -, -, -, -, -⟩ := mo_out hM.box
  clear hMX hM hx
  go_enter Tryz.func144, Tryz.ntmps144
  go_upto_region 1 with fail
  refine wp_name (fun W0 hW0 => ?_)
  have hSp0 : W0.heap[W.heap.size]? = some (.cells #[.int .i64 kd, .int .i64 fi, .slice ra rn rc] 173 (0, 0)) := by rw [hW0]; exact heap_alloc_new _ _
  have hX0 : X W W0 := by rw [hW0]; (repeat (first | with_reducible exact X.refl _ | with_reducible assumption | with_reducible refine X.setCell ?_ (by first | (simp; done) | (simp; omega)) _ | with_reducible refine X.ext ?_ _ | with_reducible refine X.alloc ?_ _ | with_reducible refine X.drew ?_))
  clear hW0
  have c0 := (hX0.cell (p := ⟨g, k, none⟩) hgl).trans c0
  have m4 := (hX0.cell (p := ⟨mb, 4, none⟩) lm).trans m4
  have x0 := (hX0.cell (p := ⟨x.b, 0, none⟩) lx).trans x0
  have hgl := Nat.lt_of_lt_of_le hgl hX0.size
  have lm := Nat.lt_of_lt_of_le lm hX0.size
  have lx := Nat.lt_of_lt_of_le lx hX0.size
  have hS0 := hS0.x hX0
  have hB0 := Nat.le_trans hB hX0.size
  obtain ⟨nm, hnm⟩ : ∃ nm, x.mo.name = nm := ⟨_, rfl⟩
  rw [hnm] at x0
  clear hnm
  go_wp2_with fail
  refine (event_c w0.heap.size mb left q _ _ ms 0 nm W0 hS0 (by omega) hB0).mono ?_
  rintro _ w1 ⟨rfl, hS1, hK1⟩
  have hXw1 := hK1.X (hX.trans hX0)
  have hB1 := Nat.le_trans hB0 hK1.size
  have hSp1 := hK1.2 _ _ _ (by unfold KT; decide) hSp0
  have hK1' : Kp w0.heap.size W w1 := (Kp.of_x hX0 hB).trans hK1
  obtain ⟨ls1, cs1, -⟩ := Bx.out ⟨_, hSp1⟩
  have s1 := cs1 1
  clear cs1 c0 m4 x0 hgl lm lx hS0 hSp0
  by_cases hf0 : fi < 0
  · have hf0' : ((0 : Int) ≤ fi) = False := eq_false (by omega)
    go_wp2_with fail
    refine (event_c w0.heap.size mb left (q + 1) _ _ ms 1 nm w1 hS1 (by omega) hB1).mono ?_
    rintro _ w2 ⟨rfl, hS2, hK2⟩
    go_wp2
    go_ret
    exact ⟨left, q + 1 + 1, ms, 0, rfl, hS2, hK1'.trans hK2, Ext.refl _, Nat.le_refl _, by omega⟩
  · obtain ⟨f, rfl⟩ : ∃ f : Nat, fi = (f : Int) := ⟨fi.toNat, by omega⟩
    have hf0' : ((0 : Int) ≤ (f : Int)) = True := eq_true (by omega)
    have hfn : f < n := by omega
    obtain ⟨b, off, ba, bn, bc, rfl, hBb, hbl, hok, hbnc, hSb, f0, f1, f2, f3, f4, f5⟩ := hF.at_ hfn
    have f0 := (hXw1.cell (p := ⟨b, off + f * 6, none⟩) hbl).trans f0
    have f1 := (hXw1.cell (p := ⟨b, off + f * 6 + 1, none⟩) hbl).trans f1
    have f2 := (hXw1.cell (p := ⟨b, off + f * 6 + 2, none⟩) hbl).trans f2
    have f3 := (hXw1.cell (p := ⟨b, off + f * 6 + 3, none⟩) hbl).trans f3
    have f4 := (hXw1.cell (p := ⟨b, off + f * 6 + 4, none⟩) hbl).trans f4
    have f5 := (hXw1.cell (p := ⟨b, off + f * 6 + 5, none⟩) hbl).trans f5
    have hbl1 := Nat.lt_of_lt_of_le hbl hXw1.size
    have hbody : bodyB (nth l f).body = true := by
      have h1 := treeB_file ht (k := f) (by have := hF.len.1; omega)
      unfold fileB at h1
      simp only [Bool.and_eq_true] at h1
      exact h1.1.2
    have hst : ∀ j, j < bn → stB (nth (nth l f).body j) = true := fun j hj => by
      unfold bodyB at hbody
      exact allN_iff.1 (Bool.and_eq_true _ _ ▸ hbody).1 j (by have := hSb.1; omega)
    have hbn8 := hSb.2.1
    clear hbody
    have hS1' := hS1
    obtain ⟨mv1, ov1, lv1, qv1, hMX1⟩ := hS1'
    obtain ⟨lm1, -, m01, -, -, m31, -, -, -, -, -⟩ := ma_out hMX1.box
    clear hMX1
    go_wp2_with fail
    refine wp_region_grow0 (by kernel_rfl) (by kernel_rfl) ?_
    repeat (go_big_quiet_step (((go_at_call 139; refine grow_of (newLoad_c (nth l f) (.slice ba bn bc) _)))))
    refine wpQuiet_nil ?_
    rintro _ ⟨y, rfl⟩
    obtain ⟨w5, hw5⟩ : ∃ w5, w5 = World.ext w1 y := ⟨_, rfl⟩
    rw [← hw5]
    have hx5 : X w1 w5 := ⟨y, hw5⟩
    clear hw5 f0 f1 f2 f3 f4 f5 m01 m31 lm1 s1 ls1 hSp1
    have hK5 := hK1'.trans (Kp.of_x hx5 hB1)
    have hS5 := hS1.x hx5
    go_wp2
    go_loopw [8, 42] (fun en i wr => ∃ (j leftr qr : Nat) (msr : List Mp), j ≤ bn ∧ en = .int .i64 0 ∧ i = .int .i64 j ∧ MaW wr w0.heap.size mb (.slice (some ⟨b, off, none⟩) n fc) (.slice pa pn pc) leftr qr msr ∧ Kp w0.heap.size W wr ∧ Ext ms msr ∧ leftr ≤ left ∧ qr + 20 * leftr ≤ q + 20 * left + 1) (fun _ i _ => bn - (intOf i).toNat)
    case atStart => exact ⟨0, left, q + 1, ms, by omega, rfl, rfl, hS5, hK5, Ext.refl _, Nat.le_refl _, by omega⟩
    case round =>
      obtain ⟨j, leftr, qr, msr, hj, rfl, rfl, hSr, hKr, hEr, hlr, hpr⟩ := hrel
      have hXr := hKr.X hX
      have hBr := hXr.size
      by_cases hlt : j < bn
      · have hSbr := hSb.mono (hXr.fr Bt)
        obtain ⟨bb, boff, rfl, hBbb, hbbl, hOk, s0, s1, s2, s3, s4⟩ := hSbr.at_ hlt
        have hSr' := hSr
        obtain ⟨mvr, ovr, lvr, qvr, hMXr⟩ := hSr'
        obtain ⟨lmr, fmr, -, -, -, -, -, -, -, -, m8⟩ := ma_out hMXr.box
        have fm8 := fmr 8
        clear fmr
        rcases Nat.eq_zero_or_pos leftr with rfl | hpos
        · go_wp2_with fail
          refine calls_name (fun W3 hW3 => ?_)
          have hX3 : X wr W3 := by rw [hW3]; exact (X.refl _).alloc _
          clear hW3
          refine (event_c w0.heap.size mb 0 qr _ _ msr 2 nm W3 (hSr.x hX3) (by omega) (Nat.le_trans hBr hX3.size)).mono ?_
          rintro _ w4 ⟨rfl, hS4, hK4⟩
          go_wp2
          go_ret
          exact ⟨0, qr + 1, msr, 6, rfl, hS4, (hKr.trans (Kp.of_x hX3 hBr)).trans hK4, hEr, hlr, by omega⟩
        · obtain ⟨lf, rfl⟩ : ∃ lf, leftr = lf + 1 := ⟨leftr - 1, by omega⟩
          go_wp2_with fail
          refine calls_name (fun W3 hW3 => ?_)
          have hMX3 : MaX W3 w0.heap.size mb (.slice (some ⟨b, off, none⟩) n fc) (.slice pa pn pc) lf qr msr mvr ovr lvr qvr := by rw [hW3]; exact (hMXr.fuel lf).x ((X.refl _).alloc _)
          have hK3 : Kp w0.heap.size wr W3 := by
            rw [hW3]
            refine (Kp.set hMXr.box hMXr.lo (by unfold KT; decide) 8 (.int .i64 (lf : Int))).trans (Kp.of_x ((X.refl _).alloc _) ?_)
            show _ ≤ (wr.heap.modify _ _).size
            simpa using hBr
          clear hW3
          have hKr3 := hKr.trans hK3
          refine (hDo lf (by omega) W3 lf qr msr k (nth (nth l f).body j) (hKr3.X hX) ⟨_, _, _, _, hMX3⟩ (Nat.le_refl _) (Nat.lt_of_lt_of_le hk hEr.1) (hst j hlt) hOk (by omega)).mono ?_
          rintro _ w4 ⟨left4, q4, ms4, en, rfl, hS4, hK4, hE4, hl4, hp4⟩
          by_cases hen : en = 0
          · subst hen
            go_wp2_with fail
            go_roundw
            case rel => exact ⟨j + 1, left4, q4, ms4, by omega, rfl, by go_num, hS4, hKr3.trans hK4, hEr.trans hE4, by omega, by omega⟩
            case measure => simp [intOf]; omega
          · have hen' : (en == 0) = false := by simpa using hen
            go_wp2_with fail
            have hB4 : w0.heap.size ≤ w4.heap.size := ((hKr3.trans hK4).X hX).size
            refine (event_c w0.heap.size mb left4 q4 _ _ ms4 2 nm w4 hS4 (by omega) hB4).mono ?_
            rintro _ w6 ⟨rfl, hS6, hK6⟩
            go_wp2
            go_ret
            exact ⟨left4, q4 + 1, ms4, en, rfl, hS6, (hKr3.trans hK4).trans hK6, hEr.trans hE4, by omega, by omega⟩
      · obtain rfl : j = bn := by omega
        go_wp2_with fail
        refine (event_c w0.heap.size mb leftr qr _ _ msr 1 nm wr hSr (by omega) hBr).mono ?_
        rintro _ w4 ⟨rfl, hS4, hK4⟩
        go_wp2
        go_ret
        exact ⟨leftr, qr + 1, msr, 0, rfl, hS4, hKr.trans hK4, hEr, hlr, by omega⟩

end Go.Proofs.YtgjfjjhmgbemcaaGreatDoor
