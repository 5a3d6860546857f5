/- The exact law of DiskAfter: the walk. No condition but what a reading of the arguments says. -/
import Derived.Test.YtgjfjjhmgbemcaaGreatDoorWtD
import Derived.Test.YtgjfjjhmgbemcaaGreatDoorWtR
import Derived.Test.YtgjfjjhmgbemcaaGreatDoorExL
import Derived.Test.YtgjfjjhmgbemcaaGreatDoorActM
import Derived.Test.YtgjfjjhmgbemcaaGreatDoorDaI
namespace Go.Proofs.YtgjfjjhmgbemcaaGreatDoor
open Go.RowKit

theorem keepA3 {W : World} {b : Nat} {d0 d1 d2 : Value} (hD : Bx W b #[d0, d1, d2]) : W.cell? ⟨b, 0, none⟩ = some d0 ∧ W.cell? ⟨b, 1, none⟩ = some d1 ∧ W.cell? ⟨b, 2, none⟩ = some d2 := by
  obtain ⟨_, c, _⟩ := hD.out
  exact ⟨c 0, c 1, c 2⟩
theorem szAc_wt {a : Ac} {n : Int} (h : 0 ≤ szAc a n) : szAc a n ≤ n - a.file.body.length := by
  unfold szAc at h ⊢
  split at h <;> rename_i h1
  · omega
  · rw [if_neg h1]
    split at h <;> rename_i h2
    · omega
    · rw [if_neg h2]
      have := szFi_wt (f := a.file) (n := n) (by omega)
      omega
theorem szL_wtA : ∀ {l : List Ac} {n : Int}, 0 ≤ szL szAc l n → (((l.map (fun x : Ac => (8 + 5 * x.file.body.length : Nat))).sum : Nat) : Int) ≤ 5 * (n - szL szAc l n) + 8 * l.length
  | [], n, _ => by simp [szL]
  | f :: l, n, h => by
    unfold szL at h ⊢
    by_cases h0 : szAc f n < 0
    · rw [if_pos h0] at h; omega
    · rw [if_neg h0] at h ⊢
      have h1 := szL_wtA h
      have h2 := szAc_wt (a := f) (n := n) (by omega)
      simp only [List.map_cons, List.sum_cons, List.length_cons]
      omega
theorem szAcs_wt {l : List Ac} (h : 0 ≤ szAcs l 1048576) : (l.map (fun x => 8 + 5 * x.file.body.length)).sum ≤ 16777216 := by
  unfold szAcs at h
  split at h <;> rename_i h1
  · omega
  · have := szL_wtA h
    omega
theorem aftD_I {t : Int} {l : List Ac} (hk : OkA l) (hb : aftB t l = true) : ∀ k, k ≤ l.length → DkI (aftD t l k) k := by
  unfold aftB at hb
  obtain ⟨ha, ht⟩ := Bool.and_eq_true _ _ ▸ hb
  obtain ⟨ht0, ht4⟩ := rangeB_iff.1 ht
  have h20 := acts_20 ha
  intro k
  induction k with
  | zero => intro _; exact DkI.zero
  | succ k ih =>
    intro hl
    have hi := ih (by omega)
    obtain ⟨o1, _, o3, o4⟩ := hk.2 _ (nth_mem (l := l) (k := k) (by omega))
    rw [aftD_next (by omega)]
    by_cases h3 : (nth l k).kind = 3
    · rw [step_3 h3]; exact hi.up
    · cases hc : chgB (aftD t l k) (nth l k) t
      · rw [step_n h3 hc]; exact hi.up
      · rw [step_c h3 hc]; exact hi.chg o1 o3 o4 (by omega) ht0 ht4 hc
theorem aftR_ok (t : Int) {l : List Ac} (hk : OkA l) : (OkL (aftR t l).l ∧ OkD (aftR t l).dl) ∧ wtF (aftR t l).l ≤ 540 ∧ (aftR t l).l.length ≤ 12 ∧ wtD (aftR t l).dl ≤ 60 ∧ (aftR t l).dl.length ≤ 20 := by
  unfold aftR
  cases hb : aftB t l
  · exact ⟨⟨DkI.zero.okl, DkI.zero.okd⟩, disk_wt DkI.zero.ok⟩
  · have h := aftD_I hk hb l.length (Nat.le_refl _)
    rw [aftD_all] at h
    exact ⟨⟨h.okl, h.okd⟩, disk_wt h.ok⟩
set_option maxRecDepth 100000 in
set_option maxHeartbeats 8000000 in
theorem FnExactDiskAfter_c (l : List Ac) (a : Option Addr) (n c : Nat) (t : Int) (w : World) (hR : ActsR w a n l) (hG : Gm w) :
    Calls Tryz.prog 5 #[.slice a n c, .int .i64 t] w fun e w' => e = .returned (.bool true) ∧ Below w.heap.size w w' := by
  by_cases h3 : szAcs l 1048576 < 0
  · go_enter Tryz.func5, Tryz.ntmps5
    go_wp2_with (go_at_call 21; refine (szActS_c l a n c _ _ (hR.mono (by (repeat (first | with_reducible exact X.refl _ | with_reducible assumption | with_reducible refine X.setCell ?_ (by first | (simp; done) | (simp; omega)) _ | with_reducible refine X.ext ?_ _ | with_reducible refine X.alloc ?_ _ | with_reducible refine X.drew ?_)))) (by omega) (by omega)).mono ?_; rintro _ w1 ⟨rfl, hx1⟩)
    go_ret
    exact ⟨rfl, X.below (X.trans (by (repeat (first | with_reducible exact X.refl _ | with_reducible assumption | with_reducible refine X.setCell ?_ (by first | (simp; done) | (simp; omega)) _ | with_reducible refine X.ext ?_ _ | with_reducible refine X.alloc ?_ _ | with_reducible refine X.drew ?_))) hx1)⟩
  have hz1 : 0 ≤ szAcs l 1048576 := by omega
  have hF := hR.at hz1
  have hwt := szAcs_wt hz1
  have hbw : ∀ x ∈ l, x.file.body.length ≤ 1073741824 := fun x hx => by have := (szAcs_ok hz1).2 x hx; omega
  have hnn := hF.len.2
  have okA := hF.okA
  obtain ⟨hda, hdw⟩ := aftR_ok t okA
  obtain ⟨R, hRR⟩ : ∃ R, aftR t l = R := ⟨_, rfl⟩
  rw [hRR] at hda hdw
  have HR := Lib.hid hRR
  clear hz1 hRR
  have hcs : ∀ (ra : Option Addr) (B : Nat) (W : World), ActsAt W B ra n l → Calls Tryz.prog 22 #[.slice ra n n, .int .i64 t] W fun e w' => ∃ ya yc yda ydc, e = .returned (.agg #[.slice ya R.l.length yc, .int .i64 R.kk, .slice yda R.dl.length ydc]) ∧ (∃ E1, W.heap.size ≤ E1 ∧ E1 ≤ w'.heap.size ∧ FilesE w' W.heap.size E1 ya R.l.length yc R.l ∧ DirsO w' E1 yda R.dl.length ydc R.dl) ∧ X W w' := by
    intro ra B W h
    refine (DiskAfter_s l ra n n B t W h).mono ?_
    rintro _ w' ⟨_, rfl, hO, hx⟩
    rw [HR.out] at hO
    obtain ⟨ya, yc, yda, ydc, E2, rfl, hO2⟩ := hO
    exact ⟨_, _, _, _, rfl, ⟨E2, hO2⟩, hx⟩
  have hci : ∀ (ra : Option Addr) (B : Nat) (W : World), ActsAt W B ra n l → Gm W → Calls Tryz.prog 24 #[.slice ra n n, .int .i64 t] W fun e w' => ∃ ya yc yda ydc, e = .returned (.agg #[.slice ya R.l.length yc, .int .i64 R.kk, .slice yda R.dl.length ydc]) ∧ (∃ E1, W.heap.size ≤ E1 ∧ E1 ≤ w'.heap.size ∧ FilesE w' W.heap.size E1 ya R.l.length yc R.l ∧ DirsO w' E1 yda R.dl.length ydc R.dl) ∧ X W w' := by
    intro ra B W h hg
    refine (DiskAfter_i l ra n n B t W h hg).mono ?_
    rintro _ w' ⟨_, rfl, hO, hx⟩
    rw [HR.out] at hO
    obtain ⟨ya, yc, yda, ydc, E2, rfl, hO2⟩ := hO
    exact ⟨_, _, _, _, rfl, ⟨E2, hO2⟩, hx⟩
  go_enter Tryz.func5, Tryz.ntmps5
  go_wp2_with fail
  refine (szActS_c l a n c _ _ (hR.mono (by (repeat (first | with_reducible exact X.refl _ | with_reducible assumption | with_reducible refine X.setCell ?_ (by first | (simp; done) | (simp; omega)) _ | with_reducible refine X.ext ?_ _ | with_reducible refine X.alloc ?_ _ | with_reducible refine X.drew ?_)))) (by omega) (by omega)).mono ?_
  rintro _ w1 ⟨rfl, hx1⟩
  clear hR
  go_wp2_with fail
  refine (toActS_c l a n c 0 w1 (hF.mono (hx1.fr _))).mono ?_
  rintro _ w2 ⟨ra2, rfl, hO2, hx2⟩
  have hX2 := hx1.trans hx2
  go_wp2_with fail
  refine (hcs ra2 _ w2 (hO2.at okA)).mono ?_
  rintro _ w3 ⟨a5, c5, da5, dc5, rfl, ⟨E5, k1, k2, k3, k4⟩, hx3⟩
  have hX3 := hX2.trans hx3
  go_upto_region 6 with fail
  refine wp_name (fun W hW => ?_)
  have hp3 : X w3 W := by rw [hW]; (repeat (first | with_reducible exact X.refl _ | with_reducible assumption | with_reducible refine X.setCell ?_ (by first | (simp; done) | (simp; omega)) _ | with_reducible refine X.ext ?_ _ | with_reducible refine X.alloc ?_ _ | with_reducible refine X.drew ?_))
  have hR5 : Bx W w3.heap.size #[.slice a5 R.l.length c5, .int .i64 R.kk, .slice da5 R.dl.length dc5] := by rw [hW]; exact Bx.new _ _ _
  clear hW
  have hXw := hX3.trans hp3
  have hA5 := (k3.o.at hda.1).mono (hp3.fr _)
  have hP5 := (k4.at hda.2).mono (hp3.fr _)
  have hs0 := hXw.size
  have g5W : w3.heap.size < W.heap.size := hR5.lt
  clear hO2 hX2 hX3 hx1 hx2 hx3 hp3 k1 k2 k3 k4 hcs
  go_wp2_with fail
  refine (toActS_c l a n c 0 W (hF.mono (hXw.fr _))).mono ?_
  rintro _ w4 ⟨ra4, rfl, hO4, hx4⟩
  have hXw4 := hXw.trans hx4
  go_wp2_with fail
  refine (hci ra4 _ w4 (hO4.at okA) (hG.mono hXw4)).mono ?_
  rintro _ w6 ⟨a6, c6, da6, dc6, rfl, ⟨E6, z3, z4, hO6, hP6⟩, hx6⟩
  have hA6 := hO6.o.at hda.1
  have hQ6 := hP6.at hda.2
  have dQ : DirsE w6 E6 w6.heap.size da6 R.dl.length dc6 R.dl := hP6.e
  go_upto_region 8 with fail
  refine wp_name (fun W7 hW7 => ?_)
  have hB7 : Bx W7 w6.heap.size #[.slice a6 R.l.length c6, .int .i64 R.kk, .slice da6 R.dl.length dc6] := by rw [hW7]; exact Bx.new _ _ _
  have hp7 : X w6 W7 := by rw [hW7]; (repeat (first | with_reducible exact X.refl _ | with_reducible assumption | with_reducible refine X.setCell ?_ (by first | (simp; done) | (simp; omega)) _ | with_reducible refine X.ext ?_ _ | with_reducible refine X.alloc ?_ _ | with_reducible refine X.drew ?_))
  clear hW7
  have hX47 := hx6.trans hp7
  have hXW7 := hx4.trans hX47
  obtain ⟨r0, r1, r2⟩ := keepA3 (hR5.x hXW7)
  have hlR := (hR5.x hXW7).lt
  obtain ⟨u0, u1, u2⟩ := keepA3 hB7
  have hlG := hB7.lt
  go_wp2_with fail
  refine (eqDisk_c R.l a6 a5 _ _ c6 c5 R.kk R.dl da6 da5 _ _ dc6 dc5 0 0 W7 ((hA6.mono (hp7.fr _)).less (Nat.zero_le _)) ((hA5.mono (hXW7.fr _)).less (Nat.zero_le _)) ((hQ6.mono (hp7.fr _)).less (Nat.zero_le _)) ((hP5.mono (hXW7.fr _)).less (Nat.zero_le _))).mono ?_
  rintro _ w7 ⟨rfl, hx7⟩
  clear r0 r1 r2 hlR u0 u1 u2 hlG
  have hXw7 := (hXw.trans hXW7).trans hx7
  go_wp2_with fail
  refine (toActS_c l a n c 0 w7 (hF.mono (hXw7.fr _))).mono ?_
  rintro _ wa ⟨sa, rfl, hOa, hxa⟩
  have hX4a := (hX47.trans hx7).trans hxa
  go_wp2_with fail
  refine (eqActS_c l ra4 sa n n n _ _ wa ((hO4.at okA).mono (hX4a.fr _)) (hOa.at okA)).mono ?_
  rintro _ w8 ⟨rfl, hx8⟩
  have hX48 := hX4a.trans hx8
  have hXW8 := hx4.trans hX48
  have hXw8 := hXw.trans hXW8
  have hX78 := (hx7.trans hxa).trans hx8
  have y46 : w4.heap.size ≤ w6.heap.size := hx6.size
  have y48 := hx4.size
  have fw := hXw8.below
  have fW := hXW8.below
  go_wp2_with fail
  refine (hO4.mark (k := 1) hX48 hnn (by omega) hbw).mono ?_
  rintro _ v1 ⟨q, rfl, hK1⟩
  have q0 : Below w.heap.size w v1 := hK1.below (by omega) fw
  have q4 : Below W.heap.size W v1 := hK1.below (by omega) fW
  have BR := (hR5.x hXW8).keep hK1 (.inl (by omega))
  have BG := (hB7.x hX78).keep hK1 (.inr (by omega))
  have oG := (hO6.fr ((hp7.trans hX78).fr _)).fr (hK1.fr.mono (by omega))
  have dG := (dQ.fr ((hp7.trans hX78).fr _)).fr (hK1.fr.mono (by omega))
  clear fw fW hK1 hO4 hX47 hXW7 hX48 hXW8 hXw8 hX78 hX4a hOa hxa hx8 hx7 hXw7 hB7 hp7 hA6 hQ6 hO6 hP6 dQ hx4 hXw4 hx6
  obtain ⟨u0, u1, u2⟩ := keepA3 BG
  obtain ⟨r0, r1, r2⟩ := keepA3 BR
  have hlG := BG.lt
  have hlR := BR.lt
  have hq0 : ¬ ((q : Int) < 0) := by omega
  go_wp2_with fail
  refine (eqDisk_c R.l a6 a5 _ _ c6 c5 R.kk R.dl da6 da5 _ _ dc6 dc5 0 0 v1 ((oG.o.at hda.1).less (Nat.zero_le _)) ((hA5.mono ((below_fr0 q4).mono (Nat.zero_le _))).less (Nat.zero_le _)) ((dG.o.at hda.2).less (Nat.zero_le _)) ((hP5.mono ((below_fr0 q4).mono (Nat.zero_le _))).less (Nat.zero_le _))).mono ?_
  rintro _ v3 ⟨rfl, hx3⟩
  clear u0 u1 u2 r0 r1 r2 hlG hlR
  replace q0 := below_x q0 hx3
  replace q4 := below_x q4 hx3
  replace BR := BR.x hx3
  replace BG := BG.x hx3
  replace oG := oG.fr (hx3.fr _)
  replace dG := dG.fr (hx3.fr _)
  have hs13 := hx3.size
  clear hx3
  obtain ⟨u0, u1, u2⟩ := keepA3 BG
  have hlG := BG.lt
  go_wp2_with fail
  refine (markDisk_e R.l R.dl R.kk a6 da6 _ c6 _ dc6 w4.heap.size E6 w6.heap.size 1 v3 oG dG z3 z4 (by omega) (by omega) (by omega) (by omega)).mono ?_
  rintro _ v4 ⟨rfl, mG, nG, hK4⟩
  replace q0 := hK4.below (by omega) q0
  replace q4 := hK4.below (by omega) q4
  replace BR := BR.keep hK4 (.inl (by omega))
  replace BG := BG.keep hK4 (.inr (Nat.le_refl _))
  clear u0 u1 u2 hlG oG dG hK4
  obtain ⟨u0, u1, u2⟩ := keepA3 BG
  have hlG := BG.lt
  go_wp2_with fail
  refine (heldDisk_c R.l R.dl R.kk a6 da6 _ c6 _ dc6 w4.heap.size E6 1 v4 mG nG (by omega) (by omega) (by omega)).mono ?_
  rintro _ v5 ⟨rfl, hx5⟩
  replace q0 := below_x q0 hx5
  replace q4 := below_x q4 hx5
  replace BR := BR.x hx5
  replace BG := BG.x hx5
  replace mG := mG.fr (hx5.fr _)
  replace nG := nG.fr (hx5.fr _)
  clear hx5 u0 u1 u2 hlG
  go_wp2_with fail
  refine (toActS_c l a n c 0 v5 (hF.mono (below_fr0 q0))).mono ?_
  rintro _ v6 ⟨ra9, rfl, hO9, hx9⟩
  replace q0 := below_x q0 hx9
  replace q4 := below_x q4 hx9
  replace BR := BR.x hx9
  replace BG := BG.x hx9
  replace mG := mG.fr (hx9.fr _)
  replace nG := nG.fr (hx9.fr _)
  go_wp2_with fail
  refine (hci ra9 _ v6 (hO9.at okA) (hG.belowW q0)).mono ?_
  rintro _ v7 ⟨a9, c9, da9, dc9, rfl, ⟨E9, y1, y2, y3, y4⟩, hx7⟩
  replace q0 := below_x q0 hx7
  replace q4 := below_x q4 hx7
  replace BR := BR.x hx7
  replace BG := BG.x hx7
  replace mG := mG.fr (hx7.fr _)
  replace nG := nG.fr (hx7.fr _)
  clear hO9 hx9 hx7
  go_upto_region 25 with fail
  refine wp_name (fun W11 hW11 => ?_)
  have hB11 : Bx W11 v7.heap.size #[.slice a9 R.l.length c9, .int .i64 R.kk, .slice da9 R.dl.length dc9] := by rw [hW11]; exact Bx.new _ _ _
  have hp11 : X v7 W11 := by rw [hW11]; (repeat (first | with_reducible exact X.refl _ | with_reducible assumption | with_reducible refine X.setCell ?_ (by first | (simp; done) | (simp; omega)) _ | with_reducible refine X.ext ?_ _ | with_reducible refine X.alloc ?_ _ | with_reducible refine X.drew ?_))
  clear hW11
  replace q0 := below_x q0 hp11
  replace q4 := below_x q4 hp11
  replace BR := BR.x hp11
  replace BG := BG.x hp11
  replace mG := mG.fr (hp11.fr _)
  replace nG := nG.fr (hp11.fr _)
  obtain ⟨r0, r1, r2⟩ := keepA3 BR
  obtain ⟨u0, u1, u2⟩ := keepA3 hB11
  have hlR := BR.lt
  have hlG := hB11.lt
  go_wp2_with fail
  refine (eqDisk_c R.l a9 a5 _ _ c9 c5 R.kk R.dl da9 da5 _ _ dc9 dc5 0 0 W11 (((y3.o.at hda.1).mono (hp11.fr _)).less (Nat.zero_le _)) ((hA5.mono ((below_fr0 q4).mono (Nat.zero_le _))).less (Nat.zero_le _)) (((y4.at hda.2).mono (hp11.fr _)).less (Nat.zero_le _)) ((hP5.mono ((below_fr0 q4).mono (Nat.zero_le _))).less (Nat.zero_le _))).mono ?_
  rintro _ v9 ⟨rfl, hx9⟩
  clear y3 y4 hp11 r0 r1 r2 u0 u1 u2 hlR hlG
  replace q0 := below_x q0 hx9
  replace BG := BG.x hx9
  replace mG := mG.fr (hx9.fr _)
  replace nG := nG.fr (hx9.fr _)
  obtain ⟨u0, u1, u2⟩ := keepA3 BG
  have hlG := BG.lt
  go_wp2_with fail
  refine (heldDisk_c R.l R.dl R.kk a6 da6 _ c6 _ dc6 w4.heap.size E6 1 v9 mG nG (by omega) (by omega) (by omega)).mono ?_
  rintro _ v8 ⟨rfl, hx8⟩
  go_wp2
  go_ret
  exact ⟨rfl, below_x q0 hx8⟩

end Go.Proofs.YtgjfjjhmgbemcaaGreatDoor
