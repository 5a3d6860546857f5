/- When two trees look the same, the reference's: the walks. No condition but lengths. -/
import Derived.Test.YtijcdnaammbomaaGreatDoorSameSp
import Derived.Test.YtijcdnaammbomaaGreatDoorPackW
namespace Go.Proofs.YtijcdnaammbomaaGreatDoor
open Go.RowKit

theorem sortU_two (A C : List (List UInt8)) : insAll (sortU A) (sortU C) = sortU (A ++ C) := by
  rw [← insAll_sortU A, ← insAll_app, insAll_sortU]
  refine asc_ext (sortU_facts _).1 (sortU_facts _).1 fun x => ?_
  rw [(sortU_facts _).2, (sortU_facts _).2, List.mem_append, List.mem_append, (sortU_facts _).2]
theorem same_noS {t u : List Fi} {path : List Int} (h : (treeB t && treeB u && pathB path) = false) : sameS t u path = false := by
  unfold sameS
  rw [h]
  rfl
set_option maxRecDepth 100000 in
set_option maxHeartbeats 9000000 in
theorem SameFinds_s (t u : List Fi) (a a' : Option Addr) (n n' c c' B B' : Nat) (path : List Int) (pa : Option Addr) (pn pc Bp : Nat) (w : World) (hF : FilesAt w B a n t) (hU : FilesAt w B' a' n' u) (hI : IntsAt w Bp pa pn path) (hpc : pn ≤ pc) :
    Calls Tryz.prog 21 #[.agg #[.slice a n c], .agg #[.slice a' n' c'], .slice pa pn pc] w fun e w' => e = .returned (.bool (sameS t u path)) ∧ X w w' := by
  obtain ⟨V, hV⟩ : ∃ V, sameS t u path = V := ⟨_, rfl⟩
  rw [hV]
  have HV := Lib.hid hV
  clear hV
  go_enter Tryz.func21, Tryz.ntmps21
  go_wp2_with fail
  refine calls_name (fun W hW => ?_)
  obtain ⟨hT0, hU0, hX0⟩ := bx2 hW
  clear hW
  refine (validTree_c t a n c _ W (hF.mono (hX0.fr _))).mono ?_
  rintro _ w1 ⟨rfl, hx1⟩
  have hT1 := hT0.x hx1
  have hU1 := hU0.x hx1
  have hX1 := hX0.trans hx1
  clear hT0 hU0 hX0 hx1
  have t1 := bxC hU1
  have lt1 := hU1.lt
  cases h1 : treeB t
  · obtain rfl : V = false := by rw [← HV.out]; exact same_noS (by rw [h1]; rfl)
    go_wp2
    go_ret
    exact ⟨rfl, hX1⟩
  go_wp2_with fail
  refine (validTree_c u a' n' c' _ w1 (hU.mono (hX1.fr _))).mono ?_
  rintro _ w2 ⟨rfl, hx2⟩
  have hT2 := hT1.x hx2
  have hU2 := hU1.x hx2
  have hX2 := hX1.trans hx2
  clear hT1 hU1 hX1 hx2 t1 lt1
  cases h2 : treeB u
  · obtain rfl : V = false := by rw [← HV.out]; exact same_noS (by rw [h1, h2]; rfl)
    go_wp2
    go_ret
    exact ⟨rfl, hX2⟩
  go_wp2_with fail
  refine (validPath_c path pa pn pc _ w2 (hI.mono (hX2.fr _)) hpc).mono ?_
  rintro _ w3 ⟨rfl, hx3⟩
  have hT3 := hT2.x hx3
  have hU3 := hU2.x hx3
  have hX3 := hX2.trans hx3
  clear hT2 hU2 hX2 hx3
  cases h3 : pathB path
  · obtain rfl : V = false := by rw [← HV.out]; exact same_noS (by rw [h1, h2, h3]; rfl)
    go_wp2
    go_ret
    exact ⟨rfl, hX3⟩
  have HVe := Lib.hid (show ((insAll (sortU (allP t)) (sortU (allP u))).all fun n => sameSp t u (specB t path n) (specB u path n)) = V by
    rw [← HV.out, sameS, h1, h2, h3, sortU_two]
    rfl)
  clear HV
  have t3 := bxC hT3
  have lt3 := hT3.lt
  go_wp2_with fail
  refine (names_s t a n c _ w3 (hF.mono (hX3.fr _)) h1).mono ?_
  have hl1 := namesU_len h1
  have hs1 := @namesU_short t
  have hn1 := @names_nm t
  have hl2 := namesU_len h2
  have hs2 := @namesU_short u
  have hn2 := @names_nm u
  have hVe := HVe.out
  obtain ⟨A, hA⟩ : ∃ A, sortU (allP t) = A := ⟨_, rfl⟩
  obtain ⟨U, hUe⟩ : ∃ U, sortU (allP u) = U := ⟨_, rfl⟩
  rw [hA] at hl1 hs1 hn1 ⊢
  rw [hA, hUe] at hVe
  rw [hUe] at hl2 hs2 hn2
  have HU := Lib.hid hUe
  have HV := Lib.hid hVe
  clear hA hUe hVe HVe
  rintro _ w4 ⟨g4, c4, rfl, hO4, hx4⟩
  have hT4 := hT3.x hx4
  have hU4 := hU3.x hx4
  have hX4 := hX3.trans hx4
  have hg4 := hO4.lt g4 rfl
  have hU3l := hU3.lt
  clear hT3 hU3 hX3 t3 lt3 hx4
  have t4 := bxC hU4
  have lt4 := hU4.lt
  go_wp2_with fail
  refine (names_s u a' n' c' _ w4 (hU.mono (hX4.fr _)) h2).mono ?_
  rw [HU.out]
  obtain ⟨m, hm⟩ : ∃ m, U.length = m := ⟨_, rfl⟩
  rw [hm] at hl2 ⊢
  have Hm := Lib.hid hm
  clear hm
  rintro _ w5 ⟨g5, c5, rfl, hO5, hx5⟩
  obtain ⟨na, hna⟩ : ∃ na : Option Addr, some (⟨g5, 0, none⟩ : Addr) = na := ⟨_, rfl⟩
  rw [hna] at hO5 ⊢
  clear hna
  have hS5 : StrsAt w5 w4.heap.size na m U := ⟨Hm.out.symm, by omega, fun x hx => by have := hs2 x hx; omega, Sl.of_own hO5⟩
  have hrow5 := own_fr hO4 (hx5.fr _)
  have hT5 := hT4.x hx5
  have hU5 := hU4.x hx5
  have hX5 := hX4.trans hx5
  have hs5 := hx5.size
  clear hO4 hO5 hT4 hU4 hX4 hx5 t4 lt4
  go_wp2
  go_loopw [7, 9] (fun v i wr => ∃ (j g2 rc2 : Nat), j ≤ m ∧ i = .int .i64 j ∧ v = .slice (some ⟨g2, 0, none⟩) (insAll A (U.take j)).length rc2 ∧ wr.ownsRow w3.heap.size 9 1 (.slice (some ⟨g2, 0, none⟩) (insAll A (U.take j)).length rc2) (insAll A (U.take j)).length (strs (insAll A (U.take j))) ∧ X w wr ∧ Bx wr w.heap.size #[.slice a n c] ∧ Bx wr (w.heap.size + 1) #[.slice a' n' c'] ∧ Fr w4.heap.size w5 wr ∧ (g2 < w4.heap.size ∨ w5.heap.size ≤ g2)) (fun _ i _ => m - (intOf i).toNat)
  case atStart => exact ⟨0, g4, c4, Nat.zero_le _, rfl, rfl, hrow5, hX5, hT5, hU5, Fr.refl _ _, .inl hg4.2⟩
  case round =>
    obtain ⟨j, g2, rc2, hj, rfl, rfl, hrow2, hX2, hB2, hC2, hFr, hg2⟩ := hrel
    have hshj : ∀ x ∈ insAll A (U.take j), x.length ≤ 12 := fun x hx => by
      rw [mem_insAll] at hx
      rcases hx with hx | hx
      · exact hs1 x hx
      · exact hs2 x (List.mem_of_mem_take hx)
    have hnmj : ∀ x ∈ insAll A (U.take j), nameB x = true := fun x hx => by
      rw [mem_insAll] at hx
      rcases hx with hx | hx
      · exact hn1 x hx
      · exact hn2 x (List.mem_of_mem_take hx)
    have hlj : (insAll A (U.take j)).length ≤ 72 := by
      have := @insAll_lenL (U.take j) A
      rw [List.length_take] at this
      omega
    by_cases hjt : j < m
    · obtain ⟨b2, off2, rfl, _, hb2, hc2, hl2'⟩ := (hS5.mono hFr).at_ hjt
      have htj := Lib.hid (show insAll A (U.take (j + 1)) = insS (insAll A (U.take j)) (nth U j) by rw [take_succ_nth (by rw [Hm.out]; exact hjt), insAll_app]; rfl)
      obtain ⟨D, hD⟩ : ∃ D, insAll A (U.take j) = D := ⟨_, rfl⟩
      rw [hD] at hrow2 hshj hlj htj ⊢
      clear hD hnmj
      have hlt2 := hrow2.lt g2 rfl
      go_wp2_with fail
      refine (insertText_c D g2 _ rc2 _ (nth U j) wr hrow2 (by omega) (fun x hx => by have := hshj x hx; omega) (by omega)).mono ?_
      rintro _ w6 ⟨g6, rc6, rfl, hO6, hg6, hat⟩
      go_wp2
      go_roundw
      case rel => exact ⟨j + 1, g6, rc6, by omega, by go_num, by rw [htj.out], by rw [htj.out]; exact hO6, x_own (v := .slice (some ⟨g2, 0, none⟩) D.length rc2) hX2 hrow2 (by omega) hg6, hB2.grown hg6 (fun q e => by injection e with e; omega), hC2.grown hg6 (fun q e => by injection e with e; omega), fr_grown hFr hg6 hg2, by
        have := hFr.1
        rcases hat with rfl | h
        · exact hg2
        · exact .inr (by omega)⟩
      case measure => simp [intOf]; omega
    · obtain rfl : j = m := by omega
      have hall : U.take j = U := List.take_of_length_le (by rw [Hm.out]; exact Nat.le_refl _)
      rw [hall] at hrow2 hshj hnmj hlj ⊢
      have hVe := HV.out
      obtain ⟨D, hD⟩ : ∃ D, insAll A U = D := ⟨_, rfl⟩
      rw [hD] at hrow2 hshj hnmj hlj hVe ⊢
      clear hD HV
      obtain ⟨q, hq⟩ : ∃ q, D.length = q := ⟨_, rfl⟩
      rw [hq] at hrow2 hlj ⊢
      have HV := Lib.hid hVe
      have Hq := Lib.hid hq
      clear hq hVe
      obtain ⟨wo, rfl⟩ : ∃ wo, wo = wr := ⟨_, rfl⟩
      obtain ⟨na2, hna2⟩ : ∃ na : Option Addr, some (⟨g2, 0, none⟩ : Addr) = na := ⟨_, rfl⟩
      rw [hna2] at hrow2 ⊢
      clear hna2
      have hSD : StrsAt wo w3.heap.size na2 q D := ⟨Hq.out.symm, by omega, fun x hx => by have := hshj x hx; omega, Sl.of_own hrow2⟩
      go_wp2
      go_loopw [10] (fun i wr => ∃ k : Nat, k ≤ q ∧ i = .int .i64 k ∧ ((D.take k).all fun n => sameSp t u (specB t path n) (specB u path n)) = true ∧ X wo wr) (fun i _ => q - (intOf i).toNat)
      case atStart => exact ⟨0, Nat.zero_le _, rfl, by rw [List.take_zero]; rfl, X.refl _⟩
      case round =>
        obtain ⟨k, hk, rfl, hall2, hX⟩ := hrel
        have hXX := hX2.trans hX
        by_cases hlt : k < q
        · obtain ⟨b, off, rfl, _, hb, hc, hcl⟩ := (hSD.mono (hX.fr _)).at_ hlt
          have hnm := hnmj _ (nth_mem (l := D) (k := k) (by rw [Hq.out]; exact hlt))
          have Hnx := Lib.hid (show (D.take (k + 1)).all (fun n => sameSp t u (specB t path n) (specB u path n)) = ((D.take k).all (fun n => sameSp t u (specB t path n) (specB u path n)) && sameSp t u (specB t path (nth D k)) (specB u path (nth D k))) by rw [take_succ_nth (by rw [Hq.out]; exact hlt), List.all_append]; simp)
          have Hno := Lib.hid (show sameSp t u (specB t path (nth D k)) (specB u path (nth D k)) = false → V = false from fun h => by
            rw [← HV.out, Bool.eq_false_iff]
            intro h2
            rw [List.all_eq_true] at h2
            have := h2 _ (nth_mem (l := D) (k := k) (by rw [Hq.out]; exact hlt))
            rw [h] at this
            cases this)
          generalize nth D k = x at *
          have ea : specF t path x = specB t path x := by rw [specB, h1, h3, hnm]; rfl
          have eb : specF u path x = specB u path x := by rw [specB, h2, h3, hnm]; rfl
          have hfa := Lib.hid (@spec_file t path x)
          have hfb := Lib.hid (@spec_file u path x)
          obtain ⟨oa, hoa⟩ : ∃ oa, specB t path x = oa := ⟨_, rfl⟩
          obtain ⟨ob, hob⟩ : ∃ ob, specB u path x = ob := ⟨_, rfl⟩
          rw [hoa] at ea hfa Hnx Hno
          rw [hob] at eb hfb Hnx Hno
          have hTk := hB2.x hX
          have hUk := hC2.x hX
          have t0 := bxC hTk
          have lt0 := hTk.lt
          have u0 := bxC hUk
          have lu0 := hUk.lt
          have lb : b < wr.heap.size := hb
          have q1 : (0 : Int) ≤ (k : Int) := by omega
          have q2 : (k : Int) < (q : Int) := by omega
          cases hsm : sameSp t u oa ob
          all_goals
            go_wp2
            go_region_held3 (fun W' => W'.cell? ⟨w.heap.size, 0, none⟩ = some (.slice a n c) ∧ W'.cell? ⟨w.heap.size + 1, 0, none⟩ = some (.slice a' n' c') ∧ W'.cell? ⟨b, off + k, none⟩ = some (.string ⟨(x).toArray⟩))
              (first | exact ⟨(World.cell?_ext _ _ _ _ lt0).trans t0, (World.cell?_ext _ _ _ _ lu0).trans u0, (World.cell?_ext _ _ _ _ lb).trans hc⟩ | exact ⟨t0, u0, hc⟩ | go_keep)
              (first
                | (go_at_call_of 39 a; refine (find_s t a n c _ path pa pn pc _ x _ (hF.mono (X.fr (hXX.trans (by (repeat (first | exact X.refl _ | assumption | refine X.ext ?_ _ | refine X.alloc ?_ _ | refine X.drew ?_)))) _)) (hI.mono (X.fr (hXX.trans (by (repeat (first | exact X.refl _ | assumption | refine X.ext ?_ _ | refine X.alloc ?_ _ | refine X.drew ?_)))) _)) hpc hnm).mono ?_; rw [ea]; rintro _ w6 ⟨v6, rfl, ⟨a6, c6, rfl, hc6, hI6⟩, hx6⟩; replace hx6 := X.trans (a := wr) (by (repeat (first | exact X.refl _ | assumption | refine X.ext ?_ _ | refine X.alloc ?_ _ | refine X.drew ?_))) hx6; obtain ⟨z6, rfl⟩ := hx6)
                | (go_at_call_of 39 a'; refine (find_s u a' n' c' _ path pa pn pc _ x _ (hU.mono (X.fr (hXX.trans (by (repeat (first | exact X.refl _ | assumption | refine X.ext ?_ _ | refine X.alloc ?_ _ | refine X.drew ?_)))) _)) (hI.mono (X.fr (hXX.trans (by (repeat (first | exact X.refl _ | assumption | refine X.ext ?_ _ | refine X.alloc ?_ _ | refine X.drew ?_)))) _)) hpc hnm).mono ?_; rw [eb]; rintro _ w7 ⟨v7, rfl, ⟨a7, c7, rfl, hc7, hI7⟩, hx7⟩; replace hI6 := hI6.mono (hx7.fr _); replace hx7 := X.trans (a := wr) (by (repeat (first | exact X.refl _ | assumption | refine X.ext ?_ _ | refine X.alloc ?_ _ | refine X.drew ?_))) hx7; obtain ⟨z7, rfl⟩ := hx7)
                | (go_at_call 54; refine (sameSpec_c t u a a' n n' c c' _ _ oa ob _ _ _ _ _ _ _ (hF.mono (X.fr (hXX.trans (by (repeat (first | exact X.refl _ | assumption | refine X.ext ?_ _ | refine X.alloc ?_ _ | refine X.drew ?_)))) _)) (hU.mono (X.fr (hXX.trans (by (repeat (first | exact X.refl _ | assumption | refine X.ext ?_ _ | refine X.alloc ?_ _ | refine X.drew ?_)))) _)) hI6 hI7 (fun h => hfa.out (by omega)) (fun h => hfb.out (by omega))).mono ?_; rw [hsm]; rintro _ w8 ⟨rfl, hx8⟩; replace hx8 := X.trans (a := wr) (by (repeat (first | exact X.refl _ | assumption | refine X.ext ?_ _ | refine X.alloc ?_ _ | refine X.drew ?_))) hx8; obtain ⟨z8, rfl⟩ := hx8))
            go_wp2
          · go_ret
            exact ⟨ret_boolW (Hno.out hsm).symm, hXX.trans (by (repeat (first | exact X.refl _ | assumption | refine X.ext ?_ _ | refine X.alloc ?_ _ | refine X.drew ?_)))⟩
          · go_roundw
            case rel => exact ⟨k + 1, by omega, by go_num, by rw [Hnx.out, hall2, hsm]; rfl, hX.trans (by (repeat (first | exact X.refl _ | assumption | refine X.ext ?_ _ | refine X.alloc ?_ _ | refine X.drew ?_)))⟩
            case measure => simp [intOf]; omega
        · obtain rfl : k = q := by omega
          have hvt : V = true := by
            rw [← HV.out, ← hall2, List.take_of_length_le (by rw [Hq.out]; exact Nat.le_refl _)]
          go_wp2
          go_ret
          exact ⟨ret_boolW hvt.symm, hXX⟩

end Go.Proofs.YtijcdnaammbomaaGreatDoor
