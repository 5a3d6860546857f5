/- What is found of a name by what a finder knows: the walk of the reference's function. No condition but lengths. -/
import Derived.Test.YtgjfjjhmgbemcaaDoorFilS
namespace Go.Proofs.YtgjfjjhmgbemcaaDoor
open Go.RowKit

theorem IntsF.zero {w : World} {B n : Nat} {a : Option Addr} {l : List Int} {v : Value} (h : IntsF w B a n l v) : IntsF w 0 a n l v := ⟨h.1.less (Nat.zero_le _), h.2⟩
/-- What is left behind a look at a name. -/
def SeenQ (w w' : World) (B : Nat) (v : Value) (e : Ending) : Prop := ∃ (fl : List Di) (fa : Option Addr) (fn fc : Nat) (fi hi : Int) (sv : Value),
  e = .returned (.tuple #[.agg #[.slice fa fn fc, .int .i64 fi, .int .i64 hi], sv]) ∧ FdV w' B fa fn fc fi hi fl ∧ GrF w w' v (.slice fa fn fc)
set_option maxRecDepth 100000 in
set_option maxHeartbeats 8000000 in
theorem seen_c (fl : List Di) (fa : Option Addr) (fn fc : Nat) (fi hi : Int) (l : List Fi) (a : Option Addr) (n c : Nat) (kk : Int) (dl : List Di) (da : Option Addr) (dn dc B Bp : Nat) (path : List Int) (pa : Option Addr) (pn pc : Nat) (s : List UInt8) (w : World)
    (hV : FdV w B fa fn fc fi hi fl) (hB : B ≤ w.heap.size) (hD : DF w B a n c da dn dc l dl (.slice fa fn fc)) (hI : IntsF w Bp pa pn path (.slice fa fn fc)) (hpn : pn ≤ 10) (hs : nameB s = true) :
    Calls Tryd.prog 75 #[.agg #[.slice fa fn fc, .int .i64 fi, .int .i64 hi], .agg #[.slice a n c, .int .i64 kk, .slice da dn dc], .slice pa pn pc, .string ⟨(s).toArray⟩] w fun e w' => SeenQ w w' B (.slice fa fn fc) e := by
  have hsl := nameB_len hs
  go_enter Tryd.func75, Tryd.ntmps75
  go_wp2_with fail
  refine calls_name (fun W4 hW4 => ?_)
  obtain ⟨hT4, hD4, hR4, hS4, hX4, hz4⟩ := tb4 hW4
  clear hW4
  refine (splitAt_c s 46 W4 (by omega)).mono ?_
  rintro _ w1 ⟨ta, tc, rfl, hown, hx1⟩
  have htn := (nameB_iff.1 hs).2
  have htc0 := own_cap hown
  have hps : ∀ k, k < (splitL 46 s).length → (nth (splitL 46 s) k).length ≤ 20 := fun k hk => Nat.le_trans (partB_len (part_at hs hk)).2 (by omega)
  obtain ⟨tn, hn⟩ : ∃ tn, (splitL 46 s).length = tn := ⟨_, rfl⟩
  rw [hn] at hown htn hps htc0 ⊢
  have Hn := Lib.hid hn
  clear hn
  have hz1 := hx1.size
  obtain ⟨ob, hob⟩ : ∃ ob, w1.heap.size = ob := ⟨_, rfl⟩
  go_wp2
  refine wp_name (fun W0 hW0 => ?_)
  have hU0 : Tb 95 W0 ob #[.int .i64 3, .int .i64 (-1), .slice pa pn pc] := by
    rw [hW0]
    first
      | exact tb_new _ _ _ hob.symm
      | exact Tb.set3 (tb_new _ _ _ hob.symm) _ _ _
  have hx0 : X w1 W0 := by rw [hW0]; (repeat (first | with_reducible exact X.refl _ | with_reducible assumption | with_reducible refine X.setCell ?_ (by first | (simp; done) | (simp; omega)) _ | with_reducible refine X.ext ?_ _ | with_reducible refine X.alloc ?_ _ | with_reducible refine X.drew ?_))
  clear hW0
  have hX0 := (hX4.trans hx1).trans hx0
  have hT0 : Tf W0 w.heap.size _ := (hT4.x hx1).x hx0
  have hD0 := (hD4.x hx1).x hx0
  have hR0 : Tf W0 (w.heap.size + 1 + 1) _ := (hR4.x hx1).x hx0
  have hS0 := (hS4.x hx1).x hx0
  have hrow0 := own_less (own_fr hown (hx0.fr _)) (Nat.le_of_eq hz4.symm)
  have hz0 := hx0.size
  have hobz : w.heap.size + 4 ≤ ob := by omega
  have hbl : ∀ x ∈ splitL 46 s, x.length ≤ 4194304 := fun x hx => Nat.le_trans (splitL_piece_le 46 s x hx) (by omega)
  clear hT4 hD4 hR4 hS4 hX4 hx1 hx0 hown hob
  go_loopw [12] (fun i wr => ∃ (k : Nat) (fl1 : List Di) (fa1 : Option Addr) (fn1 fc1 : Nat) (fi1 hi1 kd1 file1 : Int) (roots1 : List Int) (ra1 : Option Addr) (rn1 rc1 : Nat), k ≤ tn ∧ i = .int .i64 k ∧ (kd1 = 0 ∨ kd1 = 1 ∨ kd1 = 2 ∨ kd1 = 3) ∧ rn1 ≤ 10 ∧ FdV wr B fa1 fn1 fc1 fi1 hi1 fl1 ∧ IntsF wr 0 ra1 rn1 roots1 (.slice fa1 fn1 fc1) ∧
      Tf wr w.heap.size #[.slice fa1 fn1 fc1, .int .i64 fi1, .int .i64 hi1] ∧ Tb 28 wr (w.heap.size + 1) #[.slice a n c, .int .i64 kk, .slice da dn dc] ∧ Tf wr (w.heap.size + 1 + 1) #[.slice none 0 0, .int .i64 0, .int .i64 0] ∧ Tb 95 wr (w.heap.size + 1 + 1 + 1) #[.int .i64 0, .int .i64 0, .slice none 0 0] ∧
      Tb 95 wr ob #[.int .i64 kd1, .int .i64 file1, .slice ra1 rn1 rc1] ∧ wr.ownsRow (w.heap.size + 4) 9 1 (.slice ta tn tc) tn (strs (splitL 46 s)) ∧ GrF w wr (.slice fa fn fc) (.slice fa1 fn1 fc1) ∧ ob < wr.heap.size) (fun i _ => tn - (intOf i).toNat)
  case atStart => exact ⟨0, fl, fa, fn, fc, fi, hi, 3, -1, path, pa, pn, pc, Nat.zero_le _, rfl, by simp, hpn, hV.fr (hX0.fr _), (hI.x hX0).zero, hT0, hD0, hR0, hS0, hU0, hrow0, GrF.of_x _ hX0, hU0.bx.lt⟩
  case round =>
    obtain ⟨k, fl1, fa1, fn1, fc1, fi1, hi1, kd1, file1, roots1, ra1, rn1, rc1, hk, rfl, hkd, hrn, hV1, hI1, hT1, hK1, hR1, hS1, hU1, hrow, hG1, hoz⟩ := hrel
    clear hT0 hD0 hR0 hS0 hX0 hrow0 hz0 hU0
    have hD1 := hD.gr hV.1 hG1
    obtain ⟨ltu, u0, u1, u2, _⟩ := hU1.cells
    by_cases hlt : k < tn
    · by_cases hk23 : kd1 = 2 ∨ kd1 = 3
      · have hpl := hps k hlt
        have hkt : k ≤ tn := hk
        have hk1 : (k : Int) < (tn : Int) := by omega
        have hk2 : (k : Int) ≤ (tc : Int) := by omega
        have hS0 : StrsAt wr (w.heap.size + 4) ta tn (splitL 46 s) := by
          have := StrsAt.of_own (l := splitL 46 s) (by rw [Hn.out]; exact hrow) (by rw [Hn.out]; omega) hbl
          rwa [Hn.out] at this
        have hSw : ∀ {W : World}, X wr W → StrsAt W (w.heap.size + 4) ta tn (splitL 46 s) := fun hx => hS0.mono (hx.fr _)
        obtain ⟨tb, toff, hta, _, htb, htcl, _⟩ := hS0.at_ hlt
        generalize hpt : nth (splitL 46 s) k = part at *
        clear hpt
        have htc := htcl
        clear htcl
        subst hta
        have hkd2 := hkd
        have hpk : ¬ tc = 0 := by omega
        have hkc : k ≤ tc := by omega
        have hgo : (!(decide (kd1 = 2)) && !(decide (kd1 = 3))) = false := by rcases hk23 with h | h <;> simp [h]
        rcases hk23 with rfl | rfl
        · go_wp2
          clear ltu u0 u1 u2
          refine wp_region_inv (fun L v W => (L 12 = false → X wr W)
              ∧ (L 12 = true → L 0 = true ∧ L 1 = true ∧ L 3 = true ∧ L 11 = true)
              ∧ (L 12 = true → L 7 = true)
              ∧ (L 13 = true → L 12 = true)
              ∧ (L 14 = true → L 13 = true)
              ∧ (L 15 = true → L 13 = true)
              ∧ (L 16 = true → L 14 = true)
              ∧ (L 17 = true → L 15 = true)
              ∧ Tb 28 W (w.heap.size + 1) #[.slice a n c, .int .i64 kk, .slice da dn dc]
              ∧ Tf W (w.heap.size + 1 + 1) #[.slice none 0 0, .int .i64 0, .int .i64 0]
              ∧ Tb 95 W (w.heap.size + 1 + 1 + 1) #[.int .i64 0, .int .i64 0, .slice none 0 0]
              ∧ W.ownsRow (w.heap.size + 4) 9 1 (.slice (some ⟨tb, toff, none⟩) tn tc) tn (strs (splitL 46 s))
              ∧ (L 16 = false → Tf W w.heap.size #[.slice fa1 fn1 fc1, .int .i64 fi1, .int .i64 hi1])
              ∧ (L 17 = false → Tb 95 W ob #[.int .i64 2, .int .i64 file1, .slice ra1 rn1 rc1])
              ∧ wr.heap.size ≤ W.heap.size
              ∧ (L 12 = true → ∃ (fl2 : List Di) (fa2 : Option Addr) (fn2 fc2 : Nat) (fi2 hi2 kd2 file2 : Int) (roots2 : List Int) (ra2 : Option Addr) (rc2 : Nat), v 12 = .tuple #[.agg #[.slice fa2 fn2 fc2, .int .i64 fi2, .int .i64 hi2], .agg #[.int .i64 kd2, .int .i64 file2, .slice ra2 roots2.length rc2]] ∧ (L 13 = true → v 13 = .tuple #[.agg #[.slice fa2 fn2 fc2, .int .i64 fi2, .int .i64 hi2], .agg #[.int .i64 kd2, .int .i64 file2, .slice ra2 roots2.length rc2]]) ∧ (L 14 = true → v 14 = .agg #[.slice fa2 fn2 fc2, .int .i64 fi2, .int .i64 hi2]) ∧ (L 15 = true → v 15 = .agg #[.int .i64 kd2, .int .i64 file2, .slice ra2 roots2.length rc2]) ∧ GrF w W (.slice fa fn fc) (.slice fa2 fn2 fc2) ∧ FdV W B fa2 fn2 fc2 fi2 hi2 fl2 ∧ (kd2 = 0 ∨ kd2 = 1 ∨ kd2 = 2 ∨ kd2 = 3) ∧ roots2.length ≤ rn1 ∧ W.ownsRow B 3 1 (.slice ra2 roots2.length rc2) roots2.length (ints roots2) ∧ (L 16 = true → Tf W w.heap.size #[.slice fa2 fn2 fc2, .int .i64 fi2, .int .i64 hi2]) ∧ (L 17 = true → Tb 95 W ob #[.int .i64 kd2, .int .i64 file2, .slice ra2 roots2.length rc2]))
              ∧ (L 0 = true → v 0 = .agg #[.slice fa1 fn1 fc1, .int .i64 fi1, .int .i64 hi1])
              ∧ (L 1 = true → v 1 = .agg #[.slice a n c, .int .i64 kk, .slice da dn dc])
              ∧ (L 2 = true → v 2 = .pointer (some ⟨ob, 2, none⟩))
              ∧ (L 3 = true → v 3 = .slice ra1 rn1 rc1)
              ∧ (L 4 = true → v 4 = .slice (some ⟨tb, toff, none⟩) tn tc)
              ∧ (L 5 = true → v 5 = .int .i64 (k : Int))
              ∧ (L 6 = true → v 6 = .slice (some ⟨tb, toff, none⟩) k tc)
              ∧ (L 7 = true → v 7 = .string ⟨(pfx s k).toArray⟩)
              ∧ (L 8 = true → v 8 = .slice (some ⟨tb, toff, none⟩) tn tc)
              ∧ (L 9 = true → v 9 = .int .i64 (k : Int))
              ∧ (L 10 = true → v 10 = .pointer (some ⟨tb, toff + k, none⟩))
              ∧ (L 11 = true → v 11 = .string ⟨(part).toArray⟩)) (by kernel_rfl) (by kernel_rfl) ?_ ?_ (l := [(34, 0), (35, 1), (36, 2), (37, 3), (38, 4), (39, 5), (40, 6), (41, 7), (42, 8), (43, 9), (44, 10), (45, 11), (46, 12), (33, 13), (47, 14), (48, 15)]) (by kernel_rfl) (n := 18) rfl ?_
          · intro v
            exact ⟨fun _ => (X.refl _).drew, fun h => Bool.noConfusion h, fun h => Bool.noConfusion h, fun h => Bool.noConfusion h, fun h => Bool.noConfusion h, fun h => Bool.noConfusion h, fun h => Bool.noConfusion h, fun h => Bool.noConfusion h, hK1.x (X.refl _).drew, hR1.x (X.refl _).drew, hS1.x (X.refl _).drew, own_fr hrow ((X.refl _).drew.fr _), fun _ => hT1.x (X.refl _).drew, fun _ => hU1.x (X.refl _).drew, Nat.le_refl _, fun h => Bool.noConfusion h, fun h => Bool.noConfusion h, fun h => Bool.noConfusion h, fun h => Bool.noConfusion h, fun h => Bool.noConfusion h, fun h => Bool.noConfusion h, fun h => Bool.noConfusion h, fun h => Bool.noConfusion h, fun h => Bool.noConfusion h, fun h => Bool.noConfusion h, fun h => Bool.noConfusion h, fun h => Bool.noConfusion h, fun h => Bool.noConfusion h⟩
          · intro i hi
            have hi' : i = 0 ∨ i = 1 ∨ i = 2 ∨ i = 3 ∨ i = 4 ∨ i = 5 ∨ i = 6 ∨ i = 7 ∨ i = 8 ∨ i = 9 ∨ i = 10 ∨ i = 11 ∨ i = 12 ∨ i = 13 ∨ i = 14 ∨ i = 15 ∨ i = 16 ∨ i = 17 := by
              have : i < 18 := hi
              omega
            clear hi
            rcases hi' with rfl | rfl | rfl | rfl | rfl | rfl | rfl | rfl | rfl | rfl | rfl | rfl | rfl | rfl | rfl | rfl | rfl | rfl
            all_goals
              intro o ho L v aa W hI hS hL hA K hK
              cases (show some _ = some o from ho)
              obtain ⟨gx, d7, d77, d13, d14, d15, d16, d17, db, z1, z2, sr, ff, oo, sz, rc, v0, v1, v2, v3, v4, v5, v6, v7, v8, v9, v10, v11⟩ := hI
            · have nS : L 12 = false := by rcases h : L 12 with _ | _; (· rfl); (· have := (d7 h).1; simp [hL] at this)
              have nF : L 16 = false := by rcases h : L 16 with _ | _; (· rfl); (· have := d13 (d14 (d16 h)); simp [nS] at this)
              have o4 := hS.old 4 (by kernel_rfl) rfl
              obtain ⟨ltf, f0, f1, f2, _⟩ := (ff nF).cells
              clear hS ho hA
              go_simp
              exact hK _ W ⟨gx, fun h => ⟨rfl, (d7 h).2.1, (d7 h).2.2.1, (d7 h).2.2.2⟩, d77, d13, d14, d15, d16, d17, db, z1, z2, sr, ff, oo, sz, rc, fun _ => rfl, v1, v2, v3, v4, v5, v6, v7, v8, v9, v10, v11⟩
            · have o5 := hS.old 5 (by kernel_rfl) rfl
              obtain ⟨ltd, d0, d1, d2, _⟩ := db.cells
              clear hS ho hA
              go_simp
              exact hK _ W ⟨gx, fun h => ⟨(d7 h).1, rfl, (d7 h).2.2.1, (d7 h).2.2.2⟩, d77, d13, d14, d15, d16, d17, db, z1, z2, sr, ff, oo, sz, rc, v0, fun _ => rfl, v2, v3, v4, v5, v6, v7, v8, v9, v10, v11⟩
            · have o11 := hS.old 11 (by kernel_rfl) rfl
              clear hS ho hA
              go_simp
              exact hK _ W ⟨gx, d7, d77, d13, d14, d15, d16, d17, db, z1, z2, sr, ff, oo, sz, rc, v0, v1, fun _ => rfl, v3, v4, v5, v6, v7, v8, v9, v10, v11⟩
            · have nS : L 12 = false := by rcases h : L 12 with _ | _; (· rfl); (· have := (d7 h).2.2.1; simp [hL] at this)
              have nF : L 17 = false := by rcases h : L 17 with _ | _; (· rfl); (· have := d13 (d15 (d17 h)); simp [nS] at this)
              have l2 : L 2 = true := hA ⟨2, .data⟩ (by simp) rfl
              have g2 := hS.get 2 36 rfl l2 (v2 l2)
              obtain ⟨ltu, u0, u1, u2, _⟩ := (oo nF).cells
              clear hS ho hA
              go_simp
              exact hK _ W ⟨gx, fun h => ⟨(d7 h).1, (d7 h).2.1, rfl, (d7 h).2.2.2⟩, d77, d13, d14, d15, d16, d17, db, z1, z2, sr, ff, oo, sz, rc, v0, v1, v2, fun _ => rfl, v4, v5, v6, v7, v8, v9, v10, v11⟩
            · have o10 := hS.old 10 (by kernel_rfl) rfl
              clear hS ho hA
              go_simp
              exact hK _ W ⟨gx, d7, d77, d13, d14, d15, d16, d17, db, z1, z2, sr, ff, oo, sz, rc, v0, v1, v2, v3, fun _ => rfl, v5, v6, v7, v8, v9, v10, v11⟩
            · have o12 := hS.old 12 (by kernel_rfl) rfl
              clear hS ho hA
              go_simp
              exact hK _ W ⟨gx, d7, d77, d13, d14, d15, d16, d17, db, z1, z2, sr, ff, oo, sz, rc, v0, v1, v2, v3, v4, fun _ => rfl, v6, v7, v8, v9, v10, v11⟩
            · have l4 : L 4 = true := hA ⟨4, .data⟩ (by simp) rfl
              have g4 := hS.get 4 38 rfl l4 (v4 l4)
              have l5 : L 5 = true := hA ⟨5, .data⟩ (by simp) rfl
              have g5 := hS.get 5 39 rfl l5 (v5 l5)
              clear hS ho hA
              go_simp
              exact hK _ W ⟨gx, d7, d77, d13, d14, d15, d16, d17, db, z1, z2, sr, ff, oo, sz, rc, v0, v1, v2, v3, v4, v5, fun _ => rfl, v7, v8, v9, v10, v11⟩
            · have nS : L 12 = false := by rcases h : L 12 with _ | _; (· rfl); (· have := d77 h; simp [hL] at this)
              have l6 : L 6 = true := hA ⟨6, .data⟩ (by simp) rfl
              have g6 := hS.get 6 40 rfl l6 (v6 l6)
              clear hS ho hA
              go_simp
              refine (join_p s (some ⟨tb, toff, none⟩) tn k tc (w.heap.size + 4) W (hSw (gx nS)) hs hkt).mono ?_
              rintro _ w' ⟨rfl, hww⟩
              rw [hww]
              clear hww
              exact hK _ W ⟨gx, d7, fun _ => rfl, d13, d14, d15, d16, d17, db, z1, z2, sr, ff, oo, sz, rc, v0, v1, v2, v3, v4, v5, v6, fun _ => rfl, v8, v9, v10, v11⟩
            · have o10 := hS.old 10 (by kernel_rfl) rfl
              clear hS ho hA
              go_simp
              exact hK _ W ⟨gx, d7, d77, d13, d14, d15, d16, d17, db, z1, z2, sr, ff, oo, sz, rc, v0, v1, v2, v3, v4, v5, v6, v7, fun _ => rfl, v9, v10, v11⟩
            · have o12 := hS.old 12 (by kernel_rfl) rfl
              clear hS ho hA
              go_simp
              exact hK _ W ⟨gx, d7, d77, d13, d14, d15, d16, d17, db, z1, z2, sr, ff, oo, sz, rc, v0, v1, v2, v3, v4, v5, v6, v7, v8, fun _ => rfl, v10, v11⟩
            · have l8 : L 8 = true := hA ⟨8, .data⟩ (by simp) rfl
              have g8 := hS.get 8 42 rfl l8 (v8 l8)
              have l9 : L 9 = true := hA ⟨9, .data⟩ (by simp) rfl
              have g9 := hS.get 9 43 rfl l9 (v9 l9)
              clear hS ho hA
              go_simp
              exact hK _ W ⟨gx, d7, d77, d13, d14, d15, d16, d17, db, z1, z2, sr, ff, oo, sz, rc, v0, v1, v2, v3, v4, v5, v6, v7, v8, v9, fun _ => rfl, v11⟩
            · have nS : L 12 = false := by rcases h : L 12 with _ | _; (· rfl); (· have := (d7 h).2.2.2; simp [hL] at this)
              have l10 : L 10 = true := hA ⟨10, .data⟩ (by simp) rfl
              have g10 := hS.get 10 44 rfl l10 (v10 l10)
              have hcW := ((gx nS).cell (p := ⟨tb, toff + k, none⟩) htb).trans htc
              clear hS ho hA
              go_simp
              exact hK _ W ⟨gx, fun h => ⟨(d7 h).1, (d7 h).2.1, (d7 h).2.2.1, rfl⟩, d77, d13, d14, d15, d16, d17, db, z1, z2, sr, ff, oo, sz, rc, v0, v1, v2, v3, v4, v5, v6, v7, v8, v9, v10, fun _ => rfl⟩
            · have l0 : L 0 = true := hA ⟨0, .data⟩ (by simp) rfl
              have g0 := hS.get 0 34 rfl l0 (v0 l0)
              have l1 : L 1 = true := hA ⟨1, .data⟩ (by simp) rfl
              have g1 := hS.get 1 35 rfl l1 (v1 l1)
              have l3 : L 3 = true := hA ⟨3, .data⟩ (by simp) rfl
              have g3 := hS.get 3 37 rfl l3 (v3 l3)
              have l7 : L 7 = true := hA ⟨7, .data⟩ (by simp) rfl
              have g7 := hS.get 7 41 rfl l7 (v7 l7)
              have l11 : L 11 = true := hA ⟨11, .data⟩ (by simp) rfl
              have g11 := hS.get 11 45 rfl l11 (v11 l11)
              have hf1 := (hV1.fr ((gx hL).fr _)).1
              clear hS ho hA
              go_simp
              refine (seenIn_c fl1 fa1 fn1 fc1 fi1 hi1 l a n c kk dl da dn dc B 0 roots1 ra1 rn1 rc1 (pfx s k) part W (hV1.fr ((gx hL).fr _)) (by omega) (hD1.x (gx hL)) (hI1.x (gx hL)) (by omega) (pfx_pkg hs k) hpl).mono ?_
              rintro _ w' ⟨fl2, fa2, fn2, fc2, fi2, hi2, kd2, file2, roots2, ra2, rc2, rfl, hV2, hkd, hrl, hO, hGc⟩
              exact hK _ w' ⟨fun h => Bool.noConfusion h, fun _ => ⟨l0, l1, l3, l11⟩, fun _ => l7, fun _ => rfl, d14, d15, d16, d17, db.gr hf1 hGc (by decide), z1.gr hf1 hGc, z2.gr hf1 hGc (by decide), own_gr sr hf1 hGc (by decide), fun h => (ff h).gr hf1 hGc, fun h => (oo h).gr hf1 hGc (by decide), Nat.le_trans sz hGc.size, fun _ => ⟨fl2, fa2, fn2, fc2, fi2, hi2, kd2, file2, roots2, ra2, rc2, rfl, fun h => Bool.noConfusion (hL.symm.trans (d13 h)), fun h => Bool.noConfusion (hL.symm.trans (d13 (d14 h))), fun h => Bool.noConfusion (hL.symm.trans (d13 (d15 h))), (hG1.x (gx hL)).trans hGc, hV2, hkd, hrl, hO, fun h => Bool.noConfusion (hL.symm.trans (d13 (d14 (d16 h)))), fun h => Bool.noConfusion (hL.symm.trans (d13 (d15 (d17 h))))⟩, v0, v1, v2, v3, v4, v5, v6, v7, v8, v9, v10, v11⟩
            · have l12 : L 12 = true := hA ⟨12, .data⟩ (by simp) rfl
              obtain ⟨fl2, fa2, fn2, fc2, fi2, hi2, kd2, file2, roots2, ra2, rc2, e12, e13, e14, e15, hG2, hV2, hkd, hrl, hO, hf2, ho2⟩ := rc l12
              have g12 := hS.get 12 46 rfl l12 e12
              clear hS ho hA
              go_simp
              exact hK _ W ⟨gx, d7, d77, fun _ => l12, fun _ => rfl, fun _ => rfl, d16, d17, db, z1, z2, sr, ff, oo, sz, fun _ => ⟨fl2, fa2, fn2, fc2, fi2, hi2, kd2, file2, roots2, ra2, rc2, e12, fun _ => rfl, e14, e15, hG2, hV2, hkd, hrl, hO, hf2, ho2⟩, v0, v1, v2, v3, v4, v5, v6, v7, v8, v9, v10, v11⟩
            · have l13 : L 13 = true := hA ⟨13, .data⟩ (by simp) rfl
              have l12 := d13 l13
              obtain ⟨fl2, fa2, fn2, fc2, fi2, hi2, kd2, file2, roots2, ra2, rc2, e12, e13, e14, e15, hG2, hV2, hkd, hrl, hO, hf2, ho2⟩ := rc l12
              have g13 := hS.get 13 33 rfl l13 (e13 l13)
              clear hS ho hA
              go_simp
              exact hK _ W ⟨gx, d7, d77, d13, fun _ => l13, d15, fun _ => rfl, d17, db, z1, z2, sr, ff, oo, sz, fun _ => ⟨fl2, fa2, fn2, fc2, fi2, hi2, kd2, file2, roots2, ra2, rc2, e12, e13, fun _ => rfl, e15, hG2, hV2, hkd, hrl, hO, hf2, ho2⟩, v0, v1, v2, v3, v4, v5, v6, v7, v8, v9, v10, v11⟩
            · have l13 : L 13 = true := hA ⟨13, .data⟩ (by simp) rfl
              have l12 := d13 l13
              obtain ⟨fl2, fa2, fn2, fc2, fi2, hi2, kd2, file2, roots2, ra2, rc2, e12, e13, e14, e15, hG2, hV2, hkd, hrl, hO, hf2, ho2⟩ := rc l12
              have g13 := hS.get 13 33 rfl l13 (e13 l13)
              clear hS ho hA
              go_simp
              exact hK _ W ⟨gx, d7, d77, d13, d14, fun _ => l13, d16, fun _ => rfl, db, z1, z2, sr, ff, oo, sz, fun _ => ⟨fl2, fa2, fn2, fc2, fi2, hi2, kd2, file2, roots2, ra2, rc2, e12, e13, e14, fun _ => rfl, hG2, hV2, hkd, hrl, hO, hf2, ho2⟩, v0, v1, v2, v3, v4, v5, v6, v7, v8, v9, v10, v11⟩
            · have o4 := hS.old 4 (by kernel_rfl) rfl
              have l14 : L 14 = true := hA ⟨14, .data⟩ (by simp) rfl
              have l13 := d14 l14
              have l12 := d13 l13
              obtain ⟨fl2, fa2, fn2, fc2, fi2, hi2, kd2, file2, roots2, ra2, rc2, e12, e13, e14, e15, hG2, hV2, hkd, hrl, hO, hf2, ho2⟩ := rc l12
              have g14 := hS.get 14 47 rfl l14 (e14 l14)
              have hTg := ff hL
              obtain ⟨ltg, q0, q1, q2, fz0, fz1, fz2⟩ := hTg.cells
              clear hS ho hA
              go_simp
              exact hK undef _ ⟨fun h => Bool.noConfusion (h.symm.trans l12), d7, d77, d13, d14, d15, fun _ => l14, d17, db.far3 (by omega) _ _ _, z1.far3 (by omega) _ _ _, z2.far3 (by omega) _ _ _, own_set3f sr (ff hL) (by decide) _ _ _, fun h => Bool.noConfusion h, fun h => (oo h).far3 (by omega) _ _ _, by simpa [World.setCell] using sz, fun _ => ⟨fl2, fa2, fn2, fc2, fi2, hi2, kd2, file2, roots2, ra2, rc2, e12, e13, e14, e15, hG2.set3 (Nat.le_refl _) _ _ _, hV2.set3 hTg _ _ _, hkd, hrl, own_set3f hO hTg (by decide) _ _ _, fun _ => hTg.set3 _ _ _, fun h => (ho2 h).far3 (by omega) _ _ _⟩, v0, v1, v2, v3, v4, v5, v6, v7, v8, v9, v10, v11⟩
            · have o11 := hS.old 11 (by kernel_rfl) rfl
              have l15 : L 15 = true := hA ⟨15, .data⟩ (by simp) rfl
              have l13 := d15 l15
              have l12 := d13 l13
              obtain ⟨fl2, fa2, fn2, fc2, fi2, hi2, kd2, file2, roots2, ra2, rc2, e12, e13, e14, e15, hG2, hV2, hkd, hrl, hO, hf2, ho2⟩ := rc l12
              have g15 := hS.get 15 48 rfl l15 (e15 l15)
              have hTg := oo hL
              obtain ⟨ltg, q0, q1, q2, fz0, fz1, fz2⟩ := hTg.cells
              clear hS ho hA
              go_simp
              exact hK undef _ ⟨fun h => Bool.noConfusion (h.symm.trans l12), d7, d77, d13, d14, d15, d16, fun _ => l15, db.far3 (by omega) _ _ _, z1.far3 (by omega) _ _ _, z2.far3 (by omega) _ _ _, own_set3t sr (oo hL) (by decide) _ _ _, fun h => (ff h).far3 (by omega) _ _ _, fun h => Bool.noConfusion h, by simpa [World.setCell] using sz, fun _ => ⟨fl2, fa2, fn2, fc2, fi2, hi2, kd2, file2, roots2, ra2, rc2, e12, e13, e14, e15, hG2.set3 (by omega) _ _ _, hV2.set3t hTg (by decide) (by decide) _ _ _, hkd, hrl, own_set3t hO hTg (by decide) _ _ _, fun h => (hf2 h).far3 (by omega) _ _ _, fun _ => hTg.set3 _ _ _⟩, v0, v1, v2, v3, v4, v5, v6, v7, v8, v9, v10, v11⟩
          intro v W5 hI
          obtain ⟨gx, d7, d77, d13, d14, d15, d16, d17, db, z1, z2, sr, ff, oo, sz, rc, v0, v1, v2, v3, v4, v5, v6, v7, v8, v9, v10, v11⟩ := hI
          have e0 := v0 rfl
          have e1 := v1 rfl
          have e2 := v2 rfl
          have e3 := v3 rfl
          have e4 := v4 rfl
          have e5 := v5 rfl
          have e6 := v6 rfl
          have e7 := v7 rfl
          have e8 := v8 rfl
          have e9 := v9 rfl
          have e10 := v10 rfl
          have e11 := v11 rfl
          clear v0 v1 v2 v3 v4 v5 v6 v7 v8 v9 v10 v11
          obtain ⟨fl2, fa2, fn2, fc2, fi2, hi2, kd2, file2, roots2, ra2, rc2, e12, e13, e14, e15, hG2, hV2, hkd, hrl, hO, hf2, ho2⟩ := rc rfl
          replace e13 := e13 rfl
          replace e14 := e14 rfl
          replace e15 := e15 rfl
          replace hf2 := hf2 rfl
          replace ho2 := ho2 rfl
          clear rc gx d7 d77 d13 d14 d15 d16 d17 ff oo
          simp only [putL, List.foldl, List.setIfInBounds_toArray, List.set_cons_zero, List.set_cons_succ, e0, e1, e2, e3, e4, e5, e6, e7, e8, e9, e10, e11, e12, e13, e14, e15]
          clear e0 e1 e2 e3 e4 e5 e6 e7 e8 e9 e10 e11
          clear e12 e13 e14 e15
          go_wp2
          go_roundw
          case rel => exact ⟨k + 1, fl2, fa2, fn2, fc2, fi2, hi2, kd2, file2, roots2, ra2, roots2.length, rc2, by omega, by go_num, hkd, by omega, hV2, (IntsF.of_own hO hV2.1 (by omega)).zero, hf2, db, z1, z2, ho2, sr, hG2, by omega⟩
          case measure => simp [intOf]; omega
        · go_wp2
          clear ltu u0 u1 u2
          refine wp_region_inv (fun L v W => (L 12 = false → X wr W)
              ∧ (L 12 = true → L 0 = true ∧ L 1 = true ∧ L 3 = true ∧ L 11 = true)
              ∧ (L 12 = true → L 7 = true)
              ∧ (L 13 = true → L 12 = true)
              ∧ (L 14 = true → L 13 = true)
              ∧ (L 15 = true → L 13 = true)
              ∧ (L 16 = true → L 14 = true)
              ∧ (L 17 = true → L 15 = true)
              ∧ Tb 28 W (w.heap.size + 1) #[.slice a n c, .int .i64 kk, .slice da dn dc]
              ∧ Tf W (w.heap.size + 1 + 1) #[.slice none 0 0, .int .i64 0, .int .i64 0]
              ∧ Tb 95 W (w.heap.size + 1 + 1 + 1) #[.int .i64 0, .int .i64 0, .slice none 0 0]
              ∧ W.ownsRow (w.heap.size + 4) 9 1 (.slice (some ⟨tb, toff, none⟩) tn tc) tn (strs (splitL 46 s))
              ∧ (L 16 = false → Tf W w.heap.size #[.slice fa1 fn1 fc1, .int .i64 fi1, .int .i64 hi1])
              ∧ (L 17 = false → Tb 95 W ob #[.int .i64 3, .int .i64 file1, .slice ra1 rn1 rc1])
              ∧ wr.heap.size ≤ W.heap.size
              ∧ (L 12 = true → ∃ (fl2 : List Di) (fa2 : Option Addr) (fn2 fc2 : Nat) (fi2 hi2 kd2 file2 : Int) (roots2 : List Int) (ra2 : Option Addr) (rc2 : Nat), v 12 = .tuple #[.agg #[.slice fa2 fn2 fc2, .int .i64 fi2, .int .i64 hi2], .agg #[.int .i64 kd2, .int .i64 file2, .slice ra2 roots2.length rc2]] ∧ (L 13 = true → v 13 = .tuple #[.agg #[.slice fa2 fn2 fc2, .int .i64 fi2, .int .i64 hi2], .agg #[.int .i64 kd2, .int .i64 file2, .slice ra2 roots2.length rc2]]) ∧ (L 14 = true → v 14 = .agg #[.slice fa2 fn2 fc2, .int .i64 fi2, .int .i64 hi2]) ∧ (L 15 = true → v 15 = .agg #[.int .i64 kd2, .int .i64 file2, .slice ra2 roots2.length rc2]) ∧ GrF w W (.slice fa fn fc) (.slice fa2 fn2 fc2) ∧ FdV W B fa2 fn2 fc2 fi2 hi2 fl2 ∧ (kd2 = 0 ∨ kd2 = 1 ∨ kd2 = 2 ∨ kd2 = 3) ∧ roots2.length ≤ rn1 ∧ W.ownsRow B 3 1 (.slice ra2 roots2.length rc2) roots2.length (ints roots2) ∧ (L 16 = true → Tf W w.heap.size #[.slice fa2 fn2 fc2, .int .i64 fi2, .int .i64 hi2]) ∧ (L 17 = true → Tb 95 W ob #[.int .i64 kd2, .int .i64 file2, .slice ra2 roots2.length rc2]))
              ∧ (L 0 = true → v 0 = .agg #[.slice fa1 fn1 fc1, .int .i64 fi1, .int .i64 hi1])
              ∧ (L 1 = true → v 1 = .agg #[.slice a n c, .int .i64 kk, .slice da dn dc])
              ∧ (L 2 = true → v 2 = .pointer (some ⟨ob, 2, none⟩))
              ∧ (L 3 = true → v 3 = .slice ra1 rn1 rc1)
              ∧ (L 4 = true → v 4 = .slice (some ⟨tb, toff, none⟩) tn tc)
              ∧ (L 5 = true → v 5 = .int .i64 (k : Int))
              ∧ (L 6 = true → v 6 = .slice (some ⟨tb, toff, none⟩) k tc)
              ∧ (L 7 = true → v 7 = .string ⟨(pfx s k).toArray⟩)
              ∧ (L 8 = true → v 8 = .slice (some ⟨tb, toff, none⟩) tn tc)
              ∧ (L 9 = true → v 9 = .int .i64 (k : Int))
              ∧ (L 10 = true → v 10 = .pointer (some ⟨tb, toff + k, none⟩))
              ∧ (L 11 = true → v 11 = .string ⟨(part).toArray⟩)) (by kernel_rfl) (by kernel_rfl) ?_ ?_ (l := [(34, 0), (35, 1), (36, 2), (37, 3), (38, 4), (39, 5), (40, 6), (41, 7), (42, 8), (43, 9), (44, 10), (45, 11), (46, 12), (33, 13), (47, 14), (48, 15)]) (by kernel_rfl) (n := 18) rfl ?_
          · intro v
            exact ⟨fun _ => (X.refl _).drew, fun h => Bool.noConfusion h, fun h => Bool.noConfusion h, fun h => Bool.noConfusion h, fun h => Bool.noConfusion h, fun h => Bool.noConfusion h, fun h => Bool.noConfusion h, fun h => Bool.noConfusion h, hK1.x (X.refl _).drew, hR1.x (X.refl _).drew, hS1.x (X.refl _).drew, own_fr hrow ((X.refl _).drew.fr _), fun _ => hT1.x (X.refl _).drew, fun _ => hU1.x (X.refl _).drew, Nat.le_refl _, fun h => Bool.noConfusion h, fun h => Bool.noConfusion h, fun h => Bool.noConfusion h, fun h => Bool.noConfusion h, fun h => Bool.noConfusion h, fun h => Bool.noConfusion h, fun h => Bool.noConfusion h, fun h => Bool.noConfusion h, fun h => Bool.noConfusion h, fun h => Bool.noConfusion h, fun h => Bool.noConfusion h, fun h => Bool.noConfusion h, fun h => Bool.noConfusion h⟩
          · intro i hi
            have hi' : i = 0 ∨ i = 1 ∨ i = 2 ∨ i = 3 ∨ i = 4 ∨ i = 5 ∨ i = 6 ∨ i = 7 ∨ i = 8 ∨ i = 9 ∨ i = 10 ∨ i = 11 ∨ i = 12 ∨ i = 13 ∨ i = 14 ∨ i = 15 ∨ i = 16 ∨ i = 17 := by
              have : i < 18 := hi
              omega
            clear hi
            rcases hi' with rfl | rfl | rfl | rfl | rfl | rfl | rfl | rfl | rfl | rfl | rfl | rfl | rfl | rfl | rfl | rfl | rfl | rfl
            all_goals
              intro o ho L v aa W hI hS hL hA K hK
              cases (show some _ = some o from ho)
              obtain ⟨gx, d7, d77, d13, d14, d15, d16, d17, db, z1, z2, sr, ff, oo, sz, rc, v0, v1, v2, v3, v4, v5, v6, v7, v8, v9, v10, v11⟩ := hI
            · have nS : L 12 = false := by rcases h : L 12 with _ | _; (· rfl); (· have := (d7 h).1; simp [hL] at this)
              have nF : L 16 = false := by rcases h : L 16 with _ | _; (· rfl); (· have := d13 (d14 (d16 h)); simp [nS] at this)
              have o4 := hS.old 4 (by kernel_rfl) rfl
              obtain ⟨ltf, f0, f1, f2, _⟩ := (ff nF).cells
              clear hS ho hA
              go_simp
              exact hK _ W ⟨gx, fun h => ⟨rfl, (d7 h).2.1, (d7 h).2.2.1, (d7 h).2.2.2⟩, d77, d13, d14, d15, d16, d17, db, z1, z2, sr, ff, oo, sz, rc, fun _ => rfl, v1, v2, v3, v4, v5, v6, v7, v8, v9, v10, v11⟩
            · have o5 := hS.old 5 (by kernel_rfl) rfl
              obtain ⟨ltd, d0, d1, d2, _⟩ := db.cells
              clear hS ho hA
              go_simp
              exact hK _ W ⟨gx, fun h => ⟨(d7 h).1, rfl, (d7 h).2.2.1, (d7 h).2.2.2⟩, d77, d13, d14, d15, d16, d17, db, z1, z2, sr, ff, oo, sz, rc, v0, fun _ => rfl, v2, v3, v4, v5, v6, v7, v8, v9, v10, v11⟩
            · have o11 := hS.old 11 (by kernel_rfl) rfl
              clear hS ho hA
              go_simp
              exact hK _ W ⟨gx, d7, d77, d13, d14, d15, d16, d17, db, z1, z2, sr, ff, oo, sz, rc, v0, v1, fun _ => rfl, v3, v4, v5, v6, v7, v8, v9, v10, v11⟩
            · have nS : L 12 = false := by rcases h : L 12 with _ | _; (· rfl); (· have := (d7 h).2.2.1; simp [hL] at this)
              have nF : L 17 = false := by rcases h : L 17 with _ | _; (· rfl); (· have := d13 (d15 (d17 h)); simp [nS] at this)
              have l2 : L 2 = true := hA ⟨2, .data⟩ (by simp) rfl
              have g2 := hS.get 2 36 rfl l2 (v2 l2)
              obtain ⟨ltu, u0, u1, u2, _⟩ := (oo nF).cells
              clear hS ho hA
              go_simp
              exact hK _ W ⟨gx, fun h => ⟨(d7 h).1, (d7 h).2.1, rfl, (d7 h).2.2.2⟩, d77, d13, d14, d15, d16, d17, db, z1, z2, sr, ff, oo, sz, rc, v0, v1, v2, fun _ => rfl, v4, v5, v6, v7, v8, v9, v10, v11⟩
            · have o10 := hS.old 10 (by kernel_rfl) rfl
              clear hS ho hA
              go_simp
              exact hK _ W ⟨gx, d7, d77, d13, d14, d15, d16, d17, db, z1, z2, sr, ff, oo, sz, rc, v0, v1, v2, v3, fun _ => rfl, v5, v6, v7, v8, v9, v10, v11⟩
            · have o12 := hS.old 12 (by kernel_rfl) rfl
              clear hS ho hA
              go_simp
              exact hK _ W ⟨gx, d7, d77, d13, d14, d15, d16, d17, db, z1, z2, sr, ff, oo, sz, rc, v0, v1, v2, v3, v4, fun _ => rfl, v6, v7, v8, v9, v10, v11⟩
            · have l4 : L 4 = true := hA ⟨4, .data⟩ (by simp) rfl
              have g4 := hS.get 4 38 rfl l4 (v4 l4)
              have l5 : L 5 = true := hA ⟨5, .data⟩ (by simp) rfl
              have g5 := hS.get 5 39 rfl l5 (v5 l5)
              clear hS ho hA
              go_simp
              exact hK _ W ⟨gx, d7, d77, d13, d14, d15, d16, d17, db, z1, z2, sr, ff, oo, sz, rc, v0, v1, v2, v3, v4, v5, fun _ => rfl, v7, v8, v9, v10, v11⟩
            · have nS : L 12 = false := by rcases h : L 12 with _ | _; (· rfl); (· have := d77 h; simp [hL] at this)
              have l6 : L 6 = true := hA ⟨6, .data⟩ (by simp) rfl
              have g6 := hS.get 6 40 rfl l6 (v6 l6)
              clear hS ho hA
              go_simp
              refine (join_p s (some ⟨tb, toff, none⟩) tn k tc (w.heap.size + 4) W (hSw (gx nS)) hs hkt).mono ?_
              rintro _ w' ⟨rfl, hww⟩
              rw [hww]
              clear hww
              exact hK _ W ⟨gx, d7, fun _ => rfl, d13, d14, d15, d16, d17, db, z1, z2, sr, ff, oo, sz, rc, v0, v1, v2, v3, v4, v5, v6, fun _ => rfl, v8, v9, v10, v11⟩
            · have o10 := hS.old 10 (by kernel_rfl) rfl
              clear hS ho hA
              go_simp
              exact hK _ W ⟨gx, d7, d77, d13, d14, d15, d16, d17, db, z1, z2, sr, ff, oo, sz, rc, v0, v1, v2, v3, v4, v5, v6, v7, fun _ => rfl, v9, v10, v11⟩
            · have o12 := hS.old 12 (by kernel_rfl) rfl
              clear hS ho hA
              go_simp
              exact hK _ W ⟨gx, d7, d77, d13, d14, d15, d16, d17, db, z1, z2, sr, ff, oo, sz, rc, v0, v1, v2, v3, v4, v5, v6, v7, v8, fun _ => rfl, v10, v11⟩
            · have l8 : L 8 = true := hA ⟨8, .data⟩ (by simp) rfl
              have g8 := hS.get 8 42 rfl l8 (v8 l8)
              have l9 : L 9 = true := hA ⟨9, .data⟩ (by simp) rfl
              have g9 := hS.get 9 43 rfl l9 (v9 l9)
              clear hS ho hA
              go_simp
              exact hK _ W ⟨gx, d7, d77, d13, d14, d15, d16, d17, db, z1, z2, sr, ff, oo, sz, rc, v0, v1, v2, v3, v4, v5, v6, v7, v8, v9, fun _ => rfl, v11⟩
            · have nS : L 12 = false := by rcases h : L 12 with _ | _; (· rfl); (· have := (d7 h).2.2.2; simp [hL] at this)
              have l10 : L 10 = true := hA ⟨10, .data⟩ (by simp) rfl
              have g10 := hS.get 10 44 rfl l10 (v10 l10)
              have hcW := ((gx nS).cell (p := ⟨tb, toff + k, none⟩) htb).trans htc
              clear hS ho hA
              go_simp
              exact hK _ W ⟨gx, fun h => ⟨(d7 h).1, (d7 h).2.1, (d7 h).2.2.1, rfl⟩, d77, d13, d14, d15, d16, d17, db, z1, z2, sr, ff, oo, sz, rc, v0, v1, v2, v3, v4, v5, v6, v7, v8, v9, v10, fun _ => rfl⟩
            · have l0 : L 0 = true := hA ⟨0, .data⟩ (by simp) rfl
              have g0 := hS.get 0 34 rfl l0 (v0 l0)
              have l1 : L 1 = true := hA ⟨1, .data⟩ (by simp) rfl
              have g1 := hS.get 1 35 rfl l1 (v1 l1)
              have l3 : L 3 = true := hA ⟨3, .data⟩ (by simp) rfl
              have g3 := hS.get 3 37 rfl l3 (v3 l3)
              have l7 : L 7 = true := hA ⟨7, .data⟩ (by simp) rfl
              have g7 := hS.get 7 41 rfl l7 (v7 l7)
              have l11 : L 11 = true := hA ⟨11, .data⟩ (by simp) rfl
              have g11 := hS.get 11 45 rfl l11 (v11 l11)
              have hf1 := (hV1.fr ((gx hL).fr _)).1
              clear hS ho hA
              go_simp
              refine (seenIn_c fl1 fa1 fn1 fc1 fi1 hi1 l a n c kk dl da dn dc B 0 roots1 ra1 rn1 rc1 (pfx s k) part W (hV1.fr ((gx hL).fr _)) (by omega) (hD1.x (gx hL)) (hI1.x (gx hL)) (by omega) (pfx_pkg hs k) hpl).mono ?_
              rintro _ w' ⟨fl2, fa2, fn2, fc2, fi2, hi2, kd2, file2, roots2, ra2, rc2, rfl, hV2, hkd, hrl, hO, hGc⟩
              exact hK _ w' ⟨fun h => Bool.noConfusion h, fun _ => ⟨l0, l1, l3, l11⟩, fun _ => l7, fun _ => rfl, d14, d15, d16, d17, db.gr hf1 hGc (by decide), z1.gr hf1 hGc, z2.gr hf1 hGc (by decide), own_gr sr hf1 hGc (by decide), fun h => (ff h).gr hf1 hGc, fun h => (oo h).gr hf1 hGc (by decide), Nat.le_trans sz hGc.size, fun _ => ⟨fl2, fa2, fn2, fc2, fi2, hi2, kd2, file2, roots2, ra2, rc2, rfl, fun h => Bool.noConfusion (hL.symm.trans (d13 h)), fun h => Bool.noConfusion (hL.symm.trans (d13 (d14 h))), fun h => Bool.noConfusion (hL.symm.trans (d13 (d15 h))), (hG1.x (gx hL)).trans hGc, hV2, hkd, hrl, hO, fun h => Bool.noConfusion (hL.symm.trans (d13 (d14 (d16 h)))), fun h => Bool.noConfusion (hL.symm.trans (d13 (d15 (d17 h))))⟩, v0, v1, v2, v3, v4, v5, v6, v7, v8, v9, v10, v11⟩
            · have l12 : L 12 = true := hA ⟨12, .data⟩ (by simp) rfl
              obtain ⟨fl2, fa2, fn2, fc2, fi2, hi2, kd2, file2, roots2, ra2, rc2, e12, e13, e14, e15, hG2, hV2, hkd, hrl, hO, hf2, ho2⟩ := rc l12
              have g12 := hS.get 12 46 rfl l12 e12
              clear hS ho hA
              go_simp
              exact hK _ W ⟨gx, d7, d77, fun _ => l12, fun _ => rfl, fun _ => rfl, d16, d17, db, z1, z2, sr, ff, oo, sz, fun _ => ⟨fl2, fa2, fn2, fc2, fi2, hi2, kd2, file2, roots2, ra2, rc2, e12, fun _ => rfl, e14, e15, hG2, hV2, hkd, hrl, hO, hf2, ho2⟩, v0, v1, v2, v3, v4, v5, v6, v7, v8, v9, v10, v11⟩
            · have l13 : L 13 = true := hA ⟨13, .data⟩ (by simp) rfl
              have l12 := d13 l13
              obtain ⟨fl2, fa2, fn2, fc2, fi2, hi2, kd2, file2, roots2, ra2, rc2, e12, e13, e14, e15, hG2, hV2, hkd, hrl, hO, hf2, ho2⟩ := rc l12
              have g13 := hS.get 13 33 rfl l13 (e13 l13)
              clear hS ho hA
              go_simp
              exact hK _ W ⟨gx, d7, d77, d13, fun _ => l13, d15, fun _ => rfl, d17, db, z1, z2, sr, ff, oo, sz, fun _ => ⟨fl2, fa2, fn2, fc2, fi2, hi2, kd2, file2, roots2, ra2, rc2, e12, e13, fun _ => rfl, e15, hG2, hV2, hkd, hrl, hO, hf2, ho2⟩, v0, v1, v2, v3, v4, v5, v6, v7, v8, v9, v10, v11⟩
            · have l13 : L 13 = true := hA ⟨13, .data⟩ (by simp) rfl
              have l12 := d13 l13
              obtain ⟨fl2, fa2, fn2, fc2, fi2, hi2, kd2, file2, roots2, ra2, rc2, e12, e13, e14, e15, hG2, hV2, hkd, hrl, hO, hf2, ho2⟩ := rc l12
              have g13 := hS.get 13 33 rfl l13 (e13 l13)
              clear hS ho hA
              go_simp
              exact hK _ W ⟨gx, d7, d77, d13, d14, fun _ => l13, d16, fun _ => rfl, db, z1, z2, sr, ff, oo, sz, fun _ => ⟨fl2, fa2, fn2, fc2, fi2, hi2, kd2, file2, roots2, ra2, rc2, e12, e13, e14, fun _ => rfl, hG2, hV2, hkd, hrl, hO, hf2, ho2⟩, v0, v1, v2, v3, v4, v5, v6, v7, v8, v9, v10, v11⟩
            · have o4 := hS.old 4 (by kernel_rfl) rfl
              have l14 : L 14 = true := hA ⟨14, .data⟩ (by simp) rfl
              have l13 := d14 l14
              have l12 := d13 l13
              obtain ⟨fl2, fa2, fn2, fc2, fi2, hi2, kd2, file2, roots2, ra2, rc2, e12, e13, e14, e15, hG2, hV2, hkd, hrl, hO, hf2, ho2⟩ := rc l12
              have g14 := hS.get 14 47 rfl l14 (e14 l14)
              have hTg := ff hL
              obtain ⟨ltg, q0, q1, q2, fz0, fz1, fz2⟩ := hTg.cells
              clear hS ho hA
              go_simp
              exact hK undef _ ⟨fun h => Bool.noConfusion (h.symm.trans l12), d7, d77, d13, d14, d15, fun _ => l14, d17, db.far3 (by omega) _ _ _, z1.far3 (by omega) _ _ _, z2.far3 (by omega) _ _ _, own_set3f sr (ff hL) (by decide) _ _ _, fun h => Bool.noConfusion h, fun h => (oo h).far3 (by omega) _ _ _, by simpa [World.setCell] using sz, fun _ => ⟨fl2, fa2, fn2, fc2, fi2, hi2, kd2, file2, roots2, ra2, rc2, e12, e13, e14, e15, hG2.set3 (Nat.le_refl _) _ _ _, hV2.set3 hTg _ _ _, hkd, hrl, own_set3f hO hTg (by decide) _ _ _, fun _ => hTg.set3 _ _ _, fun h => (ho2 h).far3 (by omega) _ _ _⟩, v0, v1, v2, v3, v4, v5, v6, v7, v8, v9, v10, v11⟩
            · have o11 := hS.old 11 (by kernel_rfl) rfl
              have l15 : L 15 = true := hA ⟨15, .data⟩ (by simp) rfl
              have l13 := d15 l15
              have l12 := d13 l13
              obtain ⟨fl2, fa2, fn2, fc2, fi2, hi2, kd2, file2, roots2, ra2, rc2, e12, e13, e14, e15, hG2, hV2, hkd, hrl, hO, hf2, ho2⟩ := rc l12
              have g15 := hS.get 15 48 rfl l15 (e15 l15)
              have hTg := oo hL
              obtain ⟨ltg, q0, q1, q2, fz0, fz1, fz2⟩ := hTg.cells
              clear hS ho hA
              go_simp
              exact hK undef _ ⟨fun h => Bool.noConfusion (h.symm.trans l12), d7, d77, d13, d14, d15, d16, fun _ => l15, db.far3 (by omega) _ _ _, z1.far3 (by omega) _ _ _, z2.far3 (by omega) _ _ _, own_set3t sr (oo hL) (by decide) _ _ _, fun h => (ff h).far3 (by omega) _ _ _, fun h => Bool.noConfusion h, by simpa [World.setCell] using sz, fun _ => ⟨fl2, fa2, fn2, fc2, fi2, hi2, kd2, file2, roots2, ra2, rc2, e12, e13, e14, e15, hG2.set3 (by omega) _ _ _, hV2.set3t hTg (by decide) (by decide) _ _ _, hkd, hrl, own_set3t hO hTg (by decide) _ _ _, fun h => (hf2 h).far3 (by omega) _ _ _, fun _ => hTg.set3 _ _ _⟩, v0, v1, v2, v3, v4, v5, v6, v7, v8, v9, v10, v11⟩
          intro v W5 hI
          obtain ⟨gx, d7, d77, d13, d14, d15, d16, d17, db, z1, z2, sr, ff, oo, sz, rc, v0, v1, v2, v3, v4, v5, v6, v7, v8, v9, v10, v11⟩ := hI
          have e0 := v0 rfl
          have e1 := v1 rfl
          have e2 := v2 rfl
          have e3 := v3 rfl
          have e4 := v4 rfl
          have e5 := v5 rfl
          have e6 := v6 rfl
          have e7 := v7 rfl
          have e8 := v8 rfl
          have e9 := v9 rfl
          have e10 := v10 rfl
          have e11 := v11 rfl
          clear v0 v1 v2 v3 v4 v5 v6 v7 v8 v9 v10 v11
          obtain ⟨fl2, fa2, fn2, fc2, fi2, hi2, kd2, file2, roots2, ra2, rc2, e12, e13, e14, e15, hG2, hV2, hkd, hrl, hO, hf2, ho2⟩ := rc rfl
          replace e13 := e13 rfl
          replace e14 := e14 rfl
          replace e15 := e15 rfl
          replace hf2 := hf2 rfl
          replace ho2 := ho2 rfl
          clear rc gx d7 d77 d13 d14 d15 d16 d17 ff oo
          simp only [putL, List.foldl, List.setIfInBounds_toArray, List.set_cons_zero, List.set_cons_succ, e0, e1, e2, e3, e4, e5, e6, e7, e8, e9, e10, e11, e12, e13, e14, e15]
          clear e0 e1 e2 e3 e4 e5 e6 e7 e8 e9 e10 e11
          clear e12 e13 e14 e15
          go_wp2
          go_roundw
          case rel => exact ⟨k + 1, fl2, fa2, fn2, fc2, fi2, hi2, kd2, file2, roots2, ra2, roots2.length, rc2, by omega, by go_num, hkd, by omega, hV2, (IntsF.of_own hO hV2.1 (by omega)).zero, hf2, db, z1, z2, ho2, sr, hG2, by omega⟩
          case measure => simp [intOf]; omega
      · have hk01 : kd1 = 0 ∨ kd1 = 1 := by omega
        have hTb := hT1
        have hVb := hV1
        have hGb := hG1
        have hRb := hR1
        have hSb := hS1
        rcases hk01 with rfl | rfl
        · go_wp2
          clear ltu u0 u1 u2
          refine wp_region_inv (fun L v W => Tf W w.heap.size #[.slice fa1 fn1 fc1, .int .i64 fi1, .int .i64 hi1]
              ∧ FdV W B fa1 fn1 fc1 fi1 hi1 fl1
              ∧ GrF w W (.slice fa fn fc) (.slice fa1 fn1 fc1)
              ∧ (L 2 = false → Tf W (w.heap.size + 1 + 1) #[.slice none 0 0, .int .i64 0, .int .i64 0])
              ∧ (L 2 = true → Tf W (w.heap.size + 1 + 1) #[.slice fa1 fn1 fc1, .int .i64 fi1, .int .i64 hi1])
              ∧ (L 3 = false → Tb 95 W (w.heap.size + 1 + 1 + 1) #[.int .i64 0, .int .i64 0, .slice none 0 0])
              ∧ (L 1 = true → ∃ qa2 qc2, v 1 = .agg #[.int .i64 0, .int .i64 (-1), .slice qa2 0 qc2] ∧ W.ownsRow B 3 1 (.slice qa2 0 qc2) 0 [] ∧ (L 3 = true → Tb 95 W (w.heap.size + 1 + 1 + 1) #[.int .i64 0, .int .i64 (-1), .slice qa2 0 qc2]))
              ∧ (L 3 = true → L 1 = true)
              ∧ (L 0 = true → v 0 = .agg #[.slice fa1 fn1 fc1, .int .i64 fi1, .int .i64 hi1])) (by kernel_rfl) (by kernel_rfl) ?_ ?_ (l := [(31, 0), (32, 1)]) (by kernel_rfl) (n := 4) rfl ?_
          · intro v
            exact ⟨hTb.x (X.refl _).drew, hVb.fr ((X.refl _).drew.fr _), hGb.x (X.refl _).drew, fun _ => hRb.x (X.refl _).drew, fun h => Bool.noConfusion h, fun _ => hSb.x (X.refl _).drew, fun h => Bool.noConfusion h, fun h => Bool.noConfusion h, fun h => Bool.noConfusion h⟩
          · intro i hi
            have hi' : i = 0 ∨ i = 1 ∨ i = 2 ∨ i = 3 := by
              have : i < 4 := hi
              omega
            clear hi
            rcases hi' with rfl | rfl | rfl | rfl
            all_goals
              intro o ho L v aa W hI hS hL hA K hK
              cases (show some _ = some o from ho)
              obtain ⟨tf, vv, gg, rf, rfs, rs, cal, d3, v0⟩ := hI
            · have o4 := hS.old 4 (by kernel_rfl) rfl
              obtain ⟨ltf, f0, f1, f2, _⟩ := tf.cells
              clear hS ho hA
              go_simp
              exact hK _ W ⟨tf, vv, gg, rf, rfs, rs, cal, d3, fun _ => rfl⟩
            · skip
              clear hS ho hA
              go_simp
              refine (noSpec_c W).mono ?_
              rintro _ w' ⟨qa2, qc2, rfl, hO0, hxa⟩
              have hO := own_less hO0 (show B ≤ W.heap.size by have := gg.size; omega)
              exact hK _ w' ⟨tf.x hxa, vv.fr (hxa.fr _), gg.x hxa, fun h => (rf h).x hxa, fun h => (rfs h).x hxa, fun h => (rs h).x hxa, fun _ => ⟨qa2, qc2, rfl, hO, fun h => Bool.noConfusion (hL.symm.trans (d3 h))⟩, fun _ => rfl, v0⟩
            · have o8 := hS.old 8 (by kernel_rfl) rfl
              have l0 : L 0 = true := hA ⟨0, .data⟩ (by simp) rfl
              have g0 := hS.get 0 31 rfl l0 (v0 l0)
              obtain ⟨ltr, r0, r1, r2, fr0, fr1, fr2⟩ := (rf hL).cells
              clear hS ho hA
              go_simp
              exact hK undef _ ⟨tf.far3 (by omega) _ _ _, vv.set3 (rf hL) _ _ _, gg.set3 (by omega) _ _ _, fun h => Bool.noConfusion h, fun _ => (rf hL).set3 _ _ _, fun h => (rs h).far3 (by omega) _ _ _, fun h => let ⟨qa2, qc2, e1, hO, hSg⟩ := cal h; ⟨qa2, qc2, e1, own_set3f hO (rf hL) (by decide) _ _ _, fun q => (hSg q).far3 (by omega) _ _ _⟩, d3, v0⟩
            · have o9 := hS.old 9 (by kernel_rfl) rfl
              have l1 : L 1 = true := hA ⟨1, .data⟩ (by simp) rfl
              obtain ⟨qa2, qc2, e1, hO, hSg⟩ := cal l1
              have g1 := hS.get 1 32 rfl l1 e1
              obtain ⟨lts, s0, s1, s2, fs0, fs1, fs2⟩ := (rs hL).cells
              clear hS ho hA
              go_simp
              exact hK undef _ ⟨tf.far3 (by omega) _ _ _, vv.set3t (rs hL) (by decide) (by decide) _ _ _, gg.set3 (by omega) _ _ _, fun h => (rf h).far3 (by omega) _ _ _, fun h => (rfs h).far3 (by omega) _ _ _, fun h => Bool.noConfusion h, fun _ => ⟨qa2, qc2, e1, own_set3t hO (rs hL) (by decide) _ _ _, fun _ => (rs hL).set3 _ _ _⟩, fun _ => l1, v0⟩
          intro v W9 hI
          obtain ⟨tf, vv, gg, rf, rfs, rs, cal, d3, v0⟩ := hI
          have e0 := v0 rfl
          clear v0
          obtain ⟨qa2, qc2, e1, hO, hSg⟩ := cal rfl
          replace hSg := hSg rfl
          replace rfs := rfs rfl
          clear cal rf rs d3
          simp only [putL, List.foldl, List.setIfInBounds_toArray, List.set_cons_zero, List.set_cons_succ, e0, e1]
          clear e0
          clear e1
          go_wp2
          refine bodyPost_ret (v := .tuple #[.agg #[.slice fa1 fn1 fc1, .int .i64 fi1, .int .i64 hi1], .agg #[.int .i64 0, .int .i64 (-1), .slice qa2 0 qc2]]) ?_ rfl ?_
          · obtain ⟨_, r0, r1, r2, _⟩ := rfs.cells
            obtain ⟨_, s0, s1, s2, _⟩ := hSg.cells
            simp [results, Tryd.results75, go_sem, Result.andThen, r0, r1, r2, s0, s1, s2]
          · exact ⟨fl1, fa1, fn1, fc1, fi1, hi1, _, rfl, vv, gg⟩
        · go_wp2
          clear ltu u0 u1 u2
          refine wp_region_inv (fun L v W => Tf W w.heap.size #[.slice fa1 fn1 fc1, .int .i64 fi1, .int .i64 hi1]
              ∧ FdV W B fa1 fn1 fc1 fi1 hi1 fl1
              ∧ GrF w W (.slice fa fn fc) (.slice fa1 fn1 fc1)
              ∧ (L 2 = false → Tf W (w.heap.size + 1 + 1) #[.slice none 0 0, .int .i64 0, .int .i64 0])
              ∧ (L 2 = true → Tf W (w.heap.size + 1 + 1) #[.slice fa1 fn1 fc1, .int .i64 fi1, .int .i64 hi1])
              ∧ (L 3 = false → Tb 95 W (w.heap.size + 1 + 1 + 1) #[.int .i64 0, .int .i64 0, .slice none 0 0])
              ∧ (L 1 = true → ∃ qa2 qc2, v 1 = .agg #[.int .i64 0, .int .i64 (-1), .slice qa2 0 qc2] ∧ W.ownsRow B 3 1 (.slice qa2 0 qc2) 0 [] ∧ (L 3 = true → Tb 95 W (w.heap.size + 1 + 1 + 1) #[.int .i64 0, .int .i64 (-1), .slice qa2 0 qc2]))
              ∧ (L 3 = true → L 1 = true)
              ∧ (L 0 = true → v 0 = .agg #[.slice fa1 fn1 fc1, .int .i64 fi1, .int .i64 hi1])) (by kernel_rfl) (by kernel_rfl) ?_ ?_ (l := [(31, 0), (32, 1)]) (by kernel_rfl) (n := 4) rfl ?_
          · intro v
            exact ⟨hTb.x (X.refl _).drew, hVb.fr ((X.refl _).drew.fr _), hGb.x (X.refl _).drew, fun _ => hRb.x (X.refl _).drew, fun h => Bool.noConfusion h, fun _ => hSb.x (X.refl _).drew, fun h => Bool.noConfusion h, fun h => Bool.noConfusion h, fun h => Bool.noConfusion h⟩
          · intro i hi
            have hi' : i = 0 ∨ i = 1 ∨ i = 2 ∨ i = 3 := by
              have : i < 4 := hi
              omega
            clear hi
            rcases hi' with rfl | rfl | rfl | rfl
            all_goals
              intro o ho L v aa W hI hS hL hA K hK
              cases (show some _ = some o from ho)
              obtain ⟨tf, vv, gg, rf, rfs, rs, cal, d3, v0⟩ := hI
            · have o4 := hS.old 4 (by kernel_rfl) rfl
              obtain ⟨ltf, f0, f1, f2, _⟩ := tf.cells
              clear hS ho hA
              go_simp
              exact hK _ W ⟨tf, vv, gg, rf, rfs, rs, cal, d3, fun _ => rfl⟩
            · skip
              clear hS ho hA
              go_simp
              refine (noSpec_c W).mono ?_
              rintro _ w' ⟨qa2, qc2, rfl, hO0, hxa⟩
              have hO := own_less hO0 (show B ≤ W.heap.size by have := gg.size; omega)
              exact hK _ w' ⟨tf.x hxa, vv.fr (hxa.fr _), gg.x hxa, fun h => (rf h).x hxa, fun h => (rfs h).x hxa, fun h => (rs h).x hxa, fun _ => ⟨qa2, qc2, rfl, hO, fun h => Bool.noConfusion (hL.symm.trans (d3 h))⟩, fun _ => rfl, v0⟩
            · have o8 := hS.old 8 (by kernel_rfl) rfl
              have l0 : L 0 = true := hA ⟨0, .data⟩ (by simp) rfl
              have g0 := hS.get 0 31 rfl l0 (v0 l0)
              obtain ⟨ltr, r0, r1, r2, fr0, fr1, fr2⟩ := (rf hL).cells
              clear hS ho hA
              go_simp
              exact hK undef _ ⟨tf.far3 (by omega) _ _ _, vv.set3 (rf hL) _ _ _, gg.set3 (by omega) _ _ _, fun h => Bool.noConfusion h, fun _ => (rf hL).set3 _ _ _, fun h => (rs h).far3 (by omega) _ _ _, fun h => let ⟨qa2, qc2, e1, hO, hSg⟩ := cal h; ⟨qa2, qc2, e1, own_set3f hO (rf hL) (by decide) _ _ _, fun q => (hSg q).far3 (by omega) _ _ _⟩, d3, v0⟩
            · have o9 := hS.old 9 (by kernel_rfl) rfl
              have l1 : L 1 = true := hA ⟨1, .data⟩ (by simp) rfl
              obtain ⟨qa2, qc2, e1, hO, hSg⟩ := cal l1
              have g1 := hS.get 1 32 rfl l1 e1
              obtain ⟨lts, s0, s1, s2, fs0, fs1, fs2⟩ := (rs hL).cells
              clear hS ho hA
              go_simp
              exact hK undef _ ⟨tf.far3 (by omega) _ _ _, vv.set3t (rs hL) (by decide) (by decide) _ _ _, gg.set3 (by omega) _ _ _, fun h => (rf h).far3 (by omega) _ _ _, fun h => (rfs h).far3 (by omega) _ _ _, fun h => Bool.noConfusion h, fun _ => ⟨qa2, qc2, e1, own_set3t hO (rs hL) (by decide) _ _ _, fun _ => (rs hL).set3 _ _ _⟩, fun _ => l1, v0⟩
          intro v W9 hI
          obtain ⟨tf, vv, gg, rf, rfs, rs, cal, d3, v0⟩ := hI
          have e0 := v0 rfl
          clear v0
          obtain ⟨qa2, qc2, e1, hO, hSg⟩ := cal rfl
          replace hSg := hSg rfl
          replace rfs := rfs rfl
          clear cal rf rs d3
          simp only [putL, List.foldl, List.setIfInBounds_toArray, List.set_cons_zero, List.set_cons_succ, e0, e1]
          clear e0
          clear e1
          go_wp2
          refine bodyPost_ret (v := .tuple #[.agg #[.slice fa1 fn1 fc1, .int .i64 fi1, .int .i64 hi1], .agg #[.int .i64 0, .int .i64 (-1), .slice qa2 0 qc2]]) ?_ rfl ?_
          · obtain ⟨_, r0, r1, r2, _⟩ := rfs.cells
            obtain ⟨_, s0, s1, s2, _⟩ := hSg.cells
            simp [results, Tryd.results75, go_sem, Result.andThen, r0, r1, r2, s0, s1, s2]
          · exact ⟨fl1, fa1, fn1, fc1, fi1, hi1, _, rfl, vv, gg⟩
    · obtain rfl : k = tn := by omega
      have hTb := hT1
      have hVb := hV1
      have hGb := hG1
      have hRb := hR1
      have hSb := hS1
      have hUb := hU1
      clear hT1 hV1 hG1 hR1 hS1 hU1 ltu u0 u1 u2 hK1
      go_wp2
      refine wp_region_inv (fun L v W => Tf W w.heap.size #[.slice fa1 fn1 fc1, .int .i64 fi1, .int .i64 hi1]
          ∧ FdV W B fa1 fn1 fc1 fi1 hi1 fl1
          ∧ GrF w W (.slice fa fn fc) (.slice fa1 fn1 fc1)
          ∧ (L 2 = false → Tf W (w.heap.size + 1 + 1) #[.slice none 0 0, .int .i64 0, .int .i64 0])
          ∧ (L 2 = true → Tf W (w.heap.size + 1 + 1) #[.slice fa1 fn1 fc1, .int .i64 fi1, .int .i64 hi1])
          ∧ (L 3 = false → Tb 95 W (w.heap.size + 1 + 1 + 1) #[.int .i64 0, .int .i64 0, .slice none 0 0])
          ∧ (L 3 = true → Tb 95 W (w.heap.size + 1 + 1 + 1) #[.int .i64 kd1, .int .i64 file1, .slice ra1 rn1 rc1])
          ∧ Tb 95 W ob #[.int .i64 kd1, .int .i64 file1, .slice ra1 rn1 rc1]
          ∧ (L 0 = true → v 0 = .agg #[.slice fa1 fn1 fc1, .int .i64 fi1, .int .i64 hi1])
          ∧ (L 1 = true → v 1 = .agg #[.int .i64 kd1, .int .i64 file1, .slice ra1 rn1 rc1])) (by kernel_rfl) (by kernel_rfl) ?_ ?_ (l := [(49, 0), (50, 1)]) (by kernel_rfl) (n := 4) rfl ?_
      · intro v
        exact ⟨hTb.x (X.refl _).drew, hVb.fr ((X.refl _).drew.fr _), hGb.x (X.refl _).drew, fun _ => hRb.x (X.refl _).drew, fun h => Bool.noConfusion h, fun _ => hSb.x (X.refl _).drew, fun h => Bool.noConfusion h, hUb.x (X.refl _).drew, fun h => Bool.noConfusion h, fun h => Bool.noConfusion h⟩
      · intro i hi
        have hi' : i = 0 ∨ i = 1 ∨ i = 2 ∨ i = 3 := by
          have : i < 4 := hi
          omega
        clear hi
        rcases hi' with rfl | rfl | rfl | rfl
        all_goals
          intro o ho L v aa W hI hS hL hA K hK
          cases (show some _ = some o from ho)
          obtain ⟨tf, vv, gg, rf, rfs, rs, rss, ou, v0, v1⟩ := hI
        · have o4 := hS.old 4 (by kernel_rfl) rfl
          obtain ⟨ltf, f0, f1, f2, _⟩ := tf.cells
          clear hS ho hA
          go_simp
          exact hK _ W ⟨tf, vv, gg, rf, rfs, rs, rss, ou, fun _ => rfl, v1⟩
        · have o11 := hS.old 11 (by kernel_rfl) rfl
          obtain ⟨ltu, u0, u1, u2, _⟩ := ou.cells
          clear hS ho hA
          go_simp
          exact hK _ W ⟨tf, vv, gg, rf, rfs, rs, rss, ou, v0, fun _ => rfl⟩
        · have o8 := hS.old 8 (by kernel_rfl) rfl
          have l0 : L 0 = true := hA ⟨0, .data⟩ (by simp) rfl
          have g0 := hS.get 0 49 rfl l0 (v0 l0)
          obtain ⟨ltr, r0, r1, r2, fr0, fr1, fr2⟩ := (rf hL).cells
          clear hS ho hA
          go_simp
          exact hK undef _ ⟨tf.far3 (by omega) _ _ _, vv.set3 (rf hL) _ _ _, gg.set3 (by omega) _ _ _, fun h => Bool.noConfusion h, fun _ => (rf hL).set3 _ _ _, fun h => (rs h).far3 (by omega) _ _ _, fun h => (rss h).far3 (by omega) _ _ _, ou.far3 (by omega) _ _ _, v0, v1⟩
        · have o9 := hS.old 9 (by kernel_rfl) rfl
          have l1 : L 1 = true := hA ⟨1, .data⟩ (by simp) rfl
          have g1 := hS.get 1 50 rfl l1 (v1 l1)
          obtain ⟨lts, s0, s1, s2, fs0, fs1, fs2⟩ := (rs hL).cells
          clear hS ho hA
          go_simp
          exact hK undef _ ⟨tf.far3 (by omega) _ _ _, vv.set3t (rs hL) (by decide) (by decide) _ _ _, gg.set3 (by omega) _ _ _, fun h => (rf h).far3 (by omega) _ _ _, fun h => (rfs h).far3 (by omega) _ _ _, fun h => Bool.noConfusion h, fun _ => (rs hL).set3 _ _ _, ou.far3 (by omega) _ _ _, v0, v1⟩
      intro v W9 hI
      obtain ⟨tf, vv, gg, rf, rfs, rs, rss, ou, v0, v1⟩ := hI
      have e0 := v0 rfl
      have e1 := v1 rfl
      clear v0 v1
      clear rf rs
      simp only [putL, List.foldl, List.setIfInBounds_toArray, List.set_cons_zero, List.set_cons_succ, e0, e1]
      clear e0 e1
      replace rfs := rfs rfl
      replace rss := rss rfl
      go_wp2
      refine bodyPost_ret (v := .tuple #[.agg #[.slice fa1 fn1 fc1, .int .i64 fi1, .int .i64 hi1], .agg #[.int .i64 kd1, .int .i64 file1, .slice ra1 rn1 rc1]]) ?_ rfl ?_
      · obtain ⟨_, r0, r1, r2, _⟩ := rfs.cells
        obtain ⟨_, s0, s1, s2, _⟩ := rss.cells
        simp [results, Tryd.results75, go_sem, Result.andThen, r0, r1, r2, s0, s1, s2]
      · exact ⟨fl1, fa1, fn1, fc1, fi1, hi1, _, rfl, vv, gg⟩

end Go.Proofs.YtgjfjjhmgbemcaaDoor
