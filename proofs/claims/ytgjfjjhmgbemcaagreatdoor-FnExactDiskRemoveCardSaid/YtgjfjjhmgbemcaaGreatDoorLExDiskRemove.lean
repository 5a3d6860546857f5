/- The exact law of DiskRemove: the walk. No condition but what a reading of the arguments says. -/
import Derived.Test.YtgjfjjhmgbemcaaGreatDoorWtD
import Derived.Test.YtgjfjjhmgbemcaaGreatDoorExL
import Derived.Deep.RegionHeldLaw
import Derived.Deep.RegionHeld3
import Derived.Test.YtgjfjjhmgbemcaaGreatDoorWtR
namespace Go.Proofs.YtgjfjjhmgbemcaaGreatDoor
open Go.RowKit

theorem keepR3 {W : World} {b : Nat} {d0 d1 d2 : Value} (hD : Bx W b #[d0, d1, d2]) : W.cell? ⟨b, 0, none⟩ = some d0 ∧ W.cell? ⟨b, 1, none⟩ = some d1 ∧ W.cell? ⟨b, 2, none⟩ = some d2 := by
  obtain ⟨_, c, _⟩ := hD.out
  exact ⟨c 0, c 1, c 2⟩
theorem keepR33 {W : World} {b b' : Nat} {d0 d1 d2 x0 x1 x2 : Value} (hD : Bx W b #[d0, d1, d2]) (hF : Bx W b' #[x0, x1, x2]) :
    (W.cell? ⟨b, 0, none⟩ = some d0 ∧ W.cell? ⟨b, 1, none⟩ = some d1 ∧ W.cell? ⟨b, 2, none⟩ = some d2) ∧ W.cell? ⟨b', 0, none⟩ = some x0 ∧ W.cell? ⟨b', 1, none⟩ = some x1 ∧ W.cell? ⟨b', 2, none⟩ = some x2 := ⟨keepR3 hD, keepR3 hF⟩

set_option maxRecDepth 100000 in
set_option maxHeartbeats 8000000 in
theorem FnExactDiskRemove_c (l : List Fi) (a : Option Addr) (n c : Nat) (kk : Int) (dl : List Di) (da : Option Addr) (dn dc : Nat) (i ticks : Int) (w : World) (hR : FilesR w a n l) (hQ : DirsR w da dn dl) (hG : Gm w) :
    Calls Tryz.prog 4 #[.agg #[.slice a n c, .int .i64 kk, .slice da dn dc], .int .i64 i, .int .i64 ticks] w fun e w' => e = .returned (.bool true) ∧ Below w.heap.size w w' := by
  by_cases h3 : szDk l dl 1048576 < 0
  · go_enter Tryz.func4, Tryz.ntmps4
    go_wp2_with (go_at_call 8; refine (szDisk_c l a n c kk dl da dn dc _ _ (hR.mono (by (repeat (first | with_reducible exact X.refl _ | with_reducible assumption | with_reducible refine X.setCell ?_ (by first | (simp; done) | (simp; omega)) _ | with_reducible refine X.ext ?_ _ | with_reducible refine X.alloc ?_ _ | with_reducible refine X.drew ?_)))) (hQ.mono (by (repeat (first | with_reducible exact X.refl _ | with_reducible assumption | with_reducible refine X.setCell ?_ (by first | (simp; done) | (simp; omega)) _ | with_reducible refine X.ext ?_ _ | with_reducible refine X.alloc ?_ _ | with_reducible refine X.drew ?_)))) (by omega) (by omega)).mono ?_; rintro _ w1 ⟨rfl, hx1⟩)
    go_ret
    exact ⟨rfl, X.below (X.trans (by (repeat (first | with_reducible exact X.refl _ | with_reducible assumption | with_reducible refine X.setCell ?_ (by first | (simp; done) | (simp; omega)) _ | with_reducible refine X.ext ?_ _ | with_reducible refine X.alloc ?_ _ | with_reducible refine X.drew ?_))) hx1)⟩
  have hz1 : 0 ≤ szFis l 1048576 := by
    unfold szDk at h3
    split at h3 <;> omega
  have hz2 : 0 ≤ szDis dl (szFis l 1048576) := by
    unfold szDk at h3
    rw [if_neg (by omega)] at h3
    split at h3 <;> omega
  have hF := hR.at hz1
  have hle1 := szFis_le l 1048576 hz1
  have hD := hQ.at hle1 hz2
  have hwt := szFis_wt hz1
  have hwd := szDis_wt hle1 hz2
  have hnn := hF.len.2
  have hdd := hD.len.2
  have okL := hF.okL
  have okD := hD.okD
  have hnl : n ≤ 1048576 := by
    have := hF.len.1
    have := wtF_len l
    omega
  have hda := dr_ok (kk := kk) (i := i) (t := ticks) okL okD
  have hdw := dr_wt l kk dl i ticks
  clear hz1 hz2 hle1
  go_enter Tryz.func4, Tryz.ntmps4
  go_wp2_with fail
  refine calls_name (fun W0 hW0 => ?_)
  have hD0 : Bx W0 w.heap.size #[.slice a n c, .int .i64 kk, .slice da dn dc] := by rw [hW0]; exact Bx.new _ _ _
  have hX0 : X w W0 := by rw [hW0]; (repeat (first | with_reducible exact X.refl _ | with_reducible assumption | with_reducible refine X.setCell ?_ (by first | (simp; done) | (simp; omega)) _ | with_reducible refine X.ext ?_ _ | with_reducible refine X.alloc ?_ _ | with_reducible refine X.drew ?_))
  clear hW0
  refine (szDisk_c l a n c kk dl da dn dc _ W0 (hR.mono hX0) (hQ.mono hX0) (by omega) (by omega)).mono ?_
  rintro _ w1 ⟨rfl, hx1⟩
  clear hR hQ
  have hX1 := hX0.trans hx1
  obtain ⟨d0, d1, d2⟩ := keepR3 (hD0.x hx1)
  have hlD := (hD0.x hx1).lt
  go_wp2_with fail
  refine calls_name (fun W2 hW2 => ?_)
  have hp2 : X w1 W2 := by rw [hW2]; (repeat (first | with_reducible exact X.refl _ | with_reducible assumption | with_reducible refine X.setCell ?_ (by first | (simp; done) | (simp; omega)) _ | with_reducible refine X.ext ?_ _ | with_reducible refine X.alloc ?_ _ | with_reducible refine X.drew ?_))
  clear hW2 d0 d1 d2 hlD
  refine (toDisk_c l a n c kk dl da dn dc 0 W2 (hF.mono ((hX1.trans hp2).fr _)) (hD.mono ((hX1.trans hp2).fr _))).mono ?_
  rintro _ w2 ⟨ra2, rd2, rfl, hO2, hP2, hx2⟩
  have hA2 := hO2.at okL
  have hQ2 := hP2.at okD
  have hX2 := (hX1.trans hp2).trans hx2
  have hD2 := (hD0.x hx1).x (hp2.trans hx2)
  go_wp2_with fail
  refine (DiskRemove_s l ra2 n n kk dl rd2 dn dn 0 i ticks w2 (hA2.less (Nat.zero_le _)) (hQ2.less (Nat.zero_le _))).mono ?_
  rintro _ w3 ⟨_, rfl, ⟨a5, c5, da5, dc5, E5, rfl, k1, k2, k3, k4⟩, hx3⟩
  have hX3 := hX2.trans hx3
  obtain ⟨d0, d1, d2⟩ := keepR3 (hD2.x hx3)
  have hlD := (hD2.x hx3).lt
  go_wp2_with fail
  refine calls_name (fun W hW => ?_)
  have hp3 : X w3 W := by rw [hW]; (repeat (first | with_reducible exact X.refl _ | with_reducible assumption | with_reducible refine X.setCell ?_ (by first | (simp; done) | (simp; omega)) _ | with_reducible refine X.ext ?_ _ | with_reducible refine X.alloc ?_ _ | with_reducible refine X.drew ?_))
  have hR5 : Bx W w3.heap.size #[.slice a5 (drL l kk dl i ticks).length c5, .int .i64 (drK l kk dl i ticks), .slice da5 (drD l kk dl i ticks).length dc5] := by rw [hW]; first | exact Bx.new _ _ _ | exact Bx.set (Bx.set (Bx.set (Bx.new _ _ _) 0 _) 1 _) 2 _
  clear hW d0 d1 d2 hlD
  have hXw := hX3.trans hp3
  have hA5 := (k3.o.at hda.1).mono (hp3.fr _)
  have hP5 := (k4.at hda.2).mono (hp3.fr _)
  have hDW := (hD2.x hx3).x hp3
  have hs0 : w.heap.size + 1 ≤ W.heap.size := by
    have := hDW.lt
    omega
  have g5W : w3.heap.size < W.heap.size := hR5.lt
  clear hA2 hQ2 hO2 hP2 hX0 hX1 hX2 hX3 hx1 hx2 hx3 hp2 hp3 k1 k2 k3 k4 hD0 hD2
  refine (toDisk_e l a n c kk dl da dn dc 0 W (hF.mono (hXw.fr _)) (hD.mono (hXw.fr _))).mono ?_
  rintro _ w4 ⟨ra4, rd4, E4, rfl, hO4, hP4, z1, z2, hx4⟩
  go_wp2_with fail
  refine calls_name (fun W6 hW6 => ?_)
  have hB5 : Bx W6 w4.heap.size #[.slice ra4 n n, .int .i64 kk, .slice rd4 dn dn] := by rw [hW6]; first | exact Bx.new _ _ _ | exact Bx.set (Bx.set (Bx.set (Bx.new _ _ _) 0 _) 1 _) 2 _
  have hX46 : X w4 W6 := by rw [hW6]; (repeat (first | with_reducible exact X.refl _ | with_reducible assumption | with_reducible refine X.setCell ?_ (by first | (simp; done) | (simp; omega)) _ | with_reducible refine X.ext ?_ _ | with_reducible refine X.alloc ?_ _ | with_reducible refine X.drew ?_))
  clear hW6
  have hXw6 := hXw.trans (hx4.trans hX46)
  refine (DiskRemove_i l ra4 n n kk dl rd4 dn dn 0 i ticks W6 (((hO4.o.at okL).mono (hX46.fr _)).less (Nat.zero_le _)) (((hP4.o.at okD).mono (hX46.fr _)).less (Nat.zero_le _)) (Nat.le_refl _) (Nat.le_refl _) (hG.mono hXw6)).mono ?_
  rintro _ w6 ⟨_, rfl, ⟨a6, c6, da6, dc6, E6, rfl, z3, z4, hO6, hP6⟩, hx6⟩
  have hX46' := hX46.trans hx6
  have hXW6 := (hx4.trans hX46').trans (X.refl _)
  have hXw6' := hXw6.trans hx6
  obtain ⟨r0, r1, r2⟩ := keepR3 (hR5.x hXW6)
  have hlR := (hR5.x hXW6).lt
  have hA6 := hO6.o.at hda.1
  have hQ6 := hP6.at hda.2
  go_wp2_with fail
  refine calls_name (fun W7 hW7 => ?_)
  have hB7 : Bx W7 w6.heap.size #[.slice a6 (drL l kk dl i ticks).length c6, .int .i64 (drK l kk dl i ticks), .slice da6 (drD l kk dl i ticks).length dc6] := by rw [hW7]; first | exact Bx.new _ _ _ | exact Bx.set (Bx.set (Bx.set (Bx.new _ _ _) 0 _) 1 _) 2 _
  have hp7 : X w6 W7 := by rw [hW7]; (repeat (first | with_reducible exact X.refl _ | with_reducible assumption | with_reducible refine X.setCell ?_ (by first | (simp; done) | (simp; omega)) _ | with_reducible refine X.ext ?_ _ | with_reducible refine X.alloc ?_ _ | with_reducible refine X.drew ?_))
  clear hW7 r0 r1 r2 hlR
  have hXW7 := hXW6.trans hp7
  refine (eqDisk_c (drL l kk dl i ticks) a6 a5 _ _ c6 c5 (drK l kk dl i ticks) (drD l kk dl i ticks) da6 da5 _ _ dc6 dc5 0 0 W7 ((hA6.mono (hp7.fr _)).less (Nat.zero_le _)) ((hA5.mono (hXW7.fr _)).less (Nat.zero_le _)) ((hQ6.mono (hp7.fr _)).less (Nat.zero_le _)) ((hP5.mono (hXW7.fr _)).less (Nat.zero_le _))).mono ?_
  rintro _ w7 ⟨rfl, hx7⟩
  have hX67 := hp7.trans hx7
  have hX47 := hX46'.trans hX67
  have hXw7 := hXw6'.trans hX67
  have bD7 := hDW.x (hXW7.trans hx7)
  have bX7 := hB5.x (hx6.trans hX67)
  obtain ⟨⟨d0, d1, d2⟩, x0, x1, x2⟩ := keepR33 bD7 bX7
  have hlD := bD7.lt
  have hlX := bX7.lt
  have hF7 := hF.mono (hXw7.fr 0)
  have hD7 := hD.mono (hXw7.fr 0)
  have hO7 := ((hO4.o.at okL).mono (hX47.fr _))
  have hP7 := ((hP4.o.at okD).mono (hX47.fr _))
  go_wp2
  go_region_held_law (fun w' => (w'.cell? ⟨w.heap.size, 0, none⟩ = some (.slice a n c) ∧ w'.cell? ⟨w.heap.size, 1, none⟩ = some (.int .i64 kk) ∧ w'.cell? ⟨w.heap.size, 2, none⟩ = some (.slice da dn dc)) ∧ w'.cell? ⟨w4.heap.size, 0, none⟩ = some (.slice ra4 n n) ∧ w'.cell? ⟨w4.heap.size, 1, none⟩ = some (.int .i64 kk) ∧ w'.cell? ⟨w4.heap.size, 2, none⟩ = some (.slice rd4 dn dn))
    (first | (refine keepR33 (bD7.x ?_) (bX7.x ?_); all_goals (repeat (first | with_reducible exact X.refl _ | with_reducible assumption | with_reducible refine X.alloc ?_ _ | with_reducible refine X.drew ?_)); done) | fail)
    (first
      | (go_at_call 11; refine (toDisk_c l a n c kk dl da dn dc 0 _ (hF7.mono (X.fr (by (repeat (first | with_reducible exact X.refl _ | with_reducible assumption | with_reducible refine X.setCell ?_ (by first | (simp; done) | (simp; omega)) _ | with_reducible refine X.ext ?_ _ | with_reducible refine X.alloc ?_ _ | with_reducible refine X.drew ?_))) _)) (hD7.mono (X.fr (by (repeat (first | with_reducible exact X.refl _ | with_reducible assumption | with_reducible refine X.setCell ?_ (by first | (simp; done) | (simp; omega)) _ | with_reducible refine X.ext ?_ _ | with_reducible refine X.alloc ?_ _ | with_reducible refine X.drew ?_))) _))).mono ?_; rintro _ wa ⟨sa, sd, rfl, hOa, hPa, hxa⟩; have hXa : X w7 wa := X.trans (by (repeat (first | with_reducible exact X.refl _ | with_reducible assumption | with_reducible refine X.setCell ?_ (by first | (simp; done) | (simp; omega)) _ | with_reducible refine X.ext ?_ _ | with_reducible refine X.alloc ?_ _ | with_reducible refine X.drew ?_))) hxa)
      | (go_at_call 14; refine (eqDisk_c l ra4 sa n n n n kk dl rd4 sd dn dn dn dn 0 0 _ ((hO7.mono (X.fr (by (repeat (first | with_reducible exact X.refl _ | with_reducible assumption | with_reducible refine X.setCell ?_ (by first | (simp; done) | (simp; omega)) _ | with_reducible refine X.ext ?_ _ | with_reducible refine X.alloc ?_ _ | with_reducible refine X.drew ?_))) _)).less (Nat.zero_le _)) (((hOa.at okL).mono (X.fr (by (repeat (first | with_reducible exact X.refl _ | with_reducible assumption | with_reducible refine X.setCell ?_ (by first | (simp; done) | (simp; omega)) _ | with_reducible refine X.ext ?_ _ | with_reducible refine X.alloc ?_ _ | with_reducible refine X.drew ?_))) _)).less (Nat.zero_le _)) ((hP7.mono (X.fr (by (repeat (first | with_reducible exact X.refl _ | with_reducible assumption | with_reducible refine X.setCell ?_ (by first | (simp; done) | (simp; omega)) _ | with_reducible refine X.ext ?_ _ | with_reducible refine X.alloc ?_ _ | with_reducible refine X.drew ?_))) _)).less (Nat.zero_le _)) (((hPa.at okD).mono (X.fr (by (repeat (first | with_reducible exact X.refl _ | with_reducible assumption | with_reducible refine X.setCell ?_ (by first | (simp; done) | (simp; omega)) _ | with_reducible refine X.ext ?_ _ | with_reducible refine X.alloc ?_ _ | with_reducible refine X.drew ?_))) _)).less (Nat.zero_le _))).mono ?_; rintro _ w8 ⟨rfl, hx8⟩; have hX8 : X w7 w8 := X.trans hXa (X.trans (by (repeat (first | with_reducible exact X.refl _ | with_reducible assumption | with_reducible refine X.setCell ?_ (by first | (simp; done) | (simp; omega)) _ | with_reducible refine X.ext ?_ _ | with_reducible refine X.alloc ?_ _ | with_reducible refine X.drew ?_))) hx8)))
  clear d0 d1 d2 x0 x1 x2 hlD hlX hF7 hD7 hO7 hP7 bD7 bX7 hXa hOa hPa hx8
  have hX69 := hX67.trans hX8
  have hX49 := hX47.trans hX8
  have hXW9 := (hXW7.trans hx7).trans hX8
  have hXw9 := hXw7.trans hX8
  have bX9 := hB5.x (hx6.trans hX69)
  obtain ⟨x0, x1, x2⟩ := keepR3 bX9
  have hlX := bX9.lt
  go_wp2_with fail
  refine calls_name (fun W10 hW10 => ?_)
  have hp10 : X w8 W10 := by rw [hW10]; (repeat (first | with_reducible exact X.refl _ | with_reducible assumption | with_reducible refine X.setCell ?_ (by first | (simp; done) | (simp; omega)) _ | with_reducible refine X.ext ?_ _ | with_reducible refine X.alloc ?_ _ | with_reducible refine X.drew ?_))
  clear hW10 x0 x1 x2 hlX
  have y46 : w4.heap.size < W6.heap.size := hB5.lt
  have y66 : W6.heap.size ≤ w6.heap.size := hx6.size
  have fw := (hXw9.trans hp10).below
  have fW := (hXW9.trans hp10).below
  have dQ : DirsE w6 E6 w6.heap.size da6 (drD l kk dl i ticks).length dc6 (drD l kk dl i ticks) := hP6.e
  refine (markDisk_e l dl kk ra4 rd4 n n dn dn W.heap.size E4 w4.heap.size 1 W10 (hO4.fr ((hX49.trans hp10).fr _)) (hP4.fr ((hX49.trans hp10).fr _)) z1 z2 ((hX49.trans hp10).size) (by omega) (by omega) (by omega)).mono ?_
  rintro _ v1 ⟨rfl, _, _, hK1⟩
  have q0 : Below w.heap.size w v1 := hK1.below (by omega) fw
  have q4 : Below W.heap.size W v1 := hK1.below (by omega) fW
  have B0 := (hDW.x (hXW9.trans hp10)).keep hK1 (.inl (by omega))
  have BR := (hR5.x (hXW9.trans hp10)).keep hK1 (.inl (by omega))
  have BG := (hB7.x (hx7.trans (hX8.trans hp10))).keep hK1 (.inr (by omega))
  have oG := (hO6.fr ((hX69.trans hp10).fr _)).fr (hK1.fr.mono (by omega))
  have dG := (dQ.fr ((hX69.trans hp10).fr _)).fr (hK1.fr.mono (by omega))
  clear fw fW hK1 hO4 hP4 hB5 hX46 hX46' hX49 hX47 hX67 hX69 hXw7 hXw9 hXw6 hXw6' hXW6 hXW7 hXW9 hx6 hx7 hX8 hp7 hp10 hB7 hA6 hQ6 hO6 hP6 dQ hx4
  obtain ⟨u0, u1, u2⟩ := keepR3 BG
  obtain ⟨r0, r1, r2⟩ := keepR3 BR
  have hlG := BG.lt
  have hlR := BR.lt
  go_wp2_with fail
  refine (eqDisk_c (drL l kk dl i ticks) a6 a5 _ _ c6 c5 (drK l kk dl i ticks) (drD l kk dl i ticks) da6 da5 _ _ dc6 dc5 0 0 v1 ((oG.o.at hda.1).less (Nat.zero_le _)) ((hA5.mono ((below_fr0 q4).mono (Nat.zero_le _))).less (Nat.zero_le _)) ((dG.o.at hda.2).less (Nat.zero_le _)) ((hP5.mono ((below_fr0 q4).mono (Nat.zero_le _))).less (Nat.zero_le _))).mono ?_
  rintro _ v3 ⟨rfl, hx3⟩
  clear u0 u1 u2 r0 r1 r2 hlG hlR
  replace q0 := below_x q0 hx3
  replace q4 := below_x q4 hx3
  replace B0 := B0.x hx3
  replace BR := BR.x hx3
  replace BG := BG.x hx3
  replace oG := oG.fr (hx3.fr _)
  replace dG := dG.fr (hx3.fr _)
  clear hx3
  obtain ⟨u0, u1, u2⟩ := keepR3 BG
  have hlG := BG.lt
  go_wp2_with fail
  refine (markDisk_e (drL l kk dl i ticks) (drD l kk dl i ticks) (drK l kk dl i ticks) a6 da6 _ c6 _ dc6 W6.heap.size E6 w6.heap.size 1 v3 oG dG z3 z4 (by omega) (by omega) (by omega) (by omega)).mono ?_
  rintro _ v4 ⟨rfl, mG, nG, hK4⟩
  replace q0 := hK4.below (by omega) q0
  replace q4 := hK4.below (by omega) q4
  replace B0 := B0.keep hK4 (.inl (by omega))
  replace BR := BR.keep hK4 (.inl (by omega))
  replace BG := BG.keep hK4 (.inr (Nat.le_refl _))
  clear u0 u1 u2 hlG oG dG hK4
  obtain ⟨u0, u1, u2⟩ := keepR3 BG
  have hlG := BG.lt
  go_wp2_with fail
  refine (heldDisk_c (drL l kk dl i ticks) (drD l kk dl i ticks) (drK l kk dl i ticks) a6 da6 _ c6 _ dc6 W6.heap.size E6 1 v4 mG nG (by omega) (by omega) (by omega)).mono ?_
  rintro _ v5 ⟨rfl, hx5⟩
  replace q0 := below_x q0 hx5
  replace q4 := below_x q4 hx5
  replace B0 := B0.x hx5
  replace BR := BR.x hx5
  replace BG := BG.x hx5
  replace mG := mG.fr (hx5.fr _)
  replace nG := nG.fr (hx5.fr _)
  clear hx5 u0 u1 u2 hlG
  obtain ⟨d0, d1, d2⟩ := keepR3 B0
  have hlD := B0.lt
  go_wp2_with fail
  refine calls_name (fun W9 hW9 => ?_)
  have hp9 : X v5 W9 := by rw [hW9]; (repeat (first | with_reducible exact X.refl _ | with_reducible assumption | with_reducible refine X.setCell ?_ (by first | (simp; done) | (simp; omega)) _ | with_reducible refine X.ext ?_ _ | with_reducible refine X.alloc ?_ _ | with_reducible refine X.drew ?_))
  clear hW9 d0 d1 d2 hlD
  replace q0 := below_x q0 hp9
  replace q4 := below_x q4 hp9
  replace B0 := B0.x hp9
  replace BR := BR.x hp9
  replace BG := BG.x hp9
  replace mG := mG.fr (hp9.fr _)
  replace nG := nG.fr (hp9.fr _)
  clear hp9
  refine (toDisk_c l a n c kk dl da dn dc 0 W9 (hF.mono (below_fr0 q0)) (hD.mono (below_fr0 q0))).mono ?_
  rintro _ v6 ⟨ra9, rd9, rfl, hO9, hP9, hx9⟩
  replace q0 := below_x q0 hx9
  replace q4 := below_x q4 hx9
  replace B0 := B0.x hx9
  replace BR := BR.x hx9
  replace BG := BG.x hx9
  replace mG := mG.fr (hx9.fr _)
  replace nG := nG.fr (hx9.fr _)
  go_wp2_with fail
  refine (DiskRemove_i l ra9 n n kk dl rd9 dn dn 0 i ticks v6 ((hO9.at okL).less (Nat.zero_le _)) ((hP9.at okD).less (Nat.zero_le _)) (Nat.le_refl _) (Nat.le_refl _) (hG.belowW q0)).mono ?_
  rintro _ v7 ⟨_, rfl, ⟨a9, c9, da9, dc9, E9, rfl, y1, y2, y3, y4⟩, hx7⟩
  replace q0 := below_x q0 hx7
  replace q4 := below_x q4 hx7
  replace BR := BR.x hx7
  replace BG := BG.x hx7
  replace mG := mG.fr (hx7.fr _)
  replace nG := nG.fr (hx7.fr _)
  clear hO9 hP9 hx9 hx7 B0
  obtain ⟨r0, r1, r2⟩ := keepR3 BR
  have hlR := BR.lt
  go_wp2_with fail
  refine calls_name (fun W11 hW11 => ?_)
  have hp11 : X v7 W11 := by rw [hW11]; (repeat (first | with_reducible exact X.refl _ | with_reducible assumption | with_reducible refine X.setCell ?_ (by first | (simp; done) | (simp; omega)) _ | with_reducible refine X.ext ?_ _ | with_reducible refine X.alloc ?_ _ | with_reducible refine X.drew ?_))
  clear hW11 r0 r1 r2 hlR
  replace q0 := below_x q0 hp11
  replace q4 := below_x q4 hp11
  replace BG := BG.x hp11
  replace mG := mG.fr (hp11.fr _)
  replace nG := nG.fr (hp11.fr _)
  refine (eqDisk_c (drL l kk dl i ticks) a9 a5 _ _ c9 c5 (drK l kk dl i ticks) (drD l kk dl i ticks) da9 da5 _ _ dc9 dc5 0 0 W11 (((y3.o.at hda.1).mono (hp11.fr _)).less (Nat.zero_le _)) ((hA5.mono ((below_fr0 q4).mono (Nat.zero_le _))).less (Nat.zero_le _)) (((y4.at hda.2).mono (hp11.fr _)).less (Nat.zero_le _)) ((hP5.mono ((below_fr0 q4).mono (Nat.zero_le _))).less (Nat.zero_le _))).mono ?_
  rintro _ v9 ⟨rfl, hx9⟩
  clear y3 y4 hp11
  replace q0 := below_x q0 hx9
  replace BG := BG.x hx9
  replace mG := mG.fr (hx9.fr _)
  replace nG := nG.fr (hx9.fr _)
  obtain ⟨u0, u1, u2⟩ := keepR3 BG
  have hlG := BG.lt
  go_wp2_with fail
  refine (heldDisk_c (drL l kk dl i ticks) (drD l kk dl i ticks) (drK l kk dl i ticks) a6 da6 _ c6 _ dc6 W6.heap.size E6 1 v9 mG nG (by omega) (by omega) (by omega)).mono ?_
  rintro _ v8 ⟨rfl, hx8⟩
  go_wp2
  go_ret
  exact ⟨rfl, below_x q0 hx8⟩

end Go.Proofs.YtgjfjjhmgbemcaaGreatDoor
