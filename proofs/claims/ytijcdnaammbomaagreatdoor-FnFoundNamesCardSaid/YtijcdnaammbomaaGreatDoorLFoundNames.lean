/- The walk of the law FnFoundNames. -/
import Derived.Test.YtijcdnaammbomaaGreatDoorFoundI
import Derived.Test.YtijcdnaammbomaaGreatDoorRises
import Derived.Test.YtijcdnaammbomaaGreatDoorDrawTree
import Derived.Deep.RegionHeld3
import Derived.Deep.RegionHeldLaw
namespace Go.Proofs.YtijcdnaammbomaaGreatDoor
open Go.RowKit

theorem found_ascL {l : List Fi} {path : List Int} : asc (foundL l path) := by
  rw [← found_i]
  exact List.Pairwise.filter _ (sortU_facts _).1
theorem found_mem {l : List Fi} {path : List Int} {x : List UInt8} : x ∈ foundL l path ↔ (x ∈ modsL l ++ packsL l) ∧ canB l path x = true := by
  rw [← found_i, List.mem_filter, namesI, (sortU_facts _).2]
set_option maxRecDepth 100000 in
set_option maxHeartbeats 4000000 in
theorem FnFoundNames_c (ca : Option Addr) (cn cc : Nat) (w : World) (hC : CodeAt w ca cn cc) (hG : Gm w) :
    Calls Tryz.prog 3 #[.slice ca cn cc] w fun e w' => e = .returned (.bool true) ∧ X w w' := by
  by_cases hbig : 1048576 < cn
  · go_enter Tryz.func3, Tryz.ntmps3
    go_wp2
    go_ret
    exact ⟨by simp, by (repeat (first | exact X.refl _ | assumption | refine X.ext ?_ _ | refine X.alloc ?_ _ | refine X.drew ?_))⟩
  · go_enter Tryz.func3, Tryz.ntmps3
    go_wp2_with fail
    refine (DrawFoundNames_c ca cn cc _ hC (by omega)).mono ?_
    rintro _ W1 ⟨l, a, n, c, path, pa, pn, pc, rfl, hF, hnc, hn11, hsm, hI, hpc, hpn3, hx1⟩
    have hVl := @foundL_len l path
    have hVs : ∀ x ∈ foundL l path, x.length ≤ 4194304 := fun x hx => by have := foundL_short x hx; omega
    have hVm := @found_mem l path
    have hasc := @found_ascL l path
    obtain ⟨V, hV⟩ : ∃ V, foundL l path = V := ⟨_, rfl⟩
    rw [hV] at hVl hVs hVm hasc
    have HV := Lib.hid hV
    have HVm := Lib.hid (fun x => @hVm x)
    clear hV hVm
    go_wp2_with fail
    refine calls_name (fun W2 hW2 => ?_)
    have hB2 : Bx W2 W1.heap.size #[.slice a n c] := by rw [hW2]; first | exact Bx.new _ _ _ | exact Bx.set (Bx.new _ _ _) 0 _
    have hx2 : X W1 W2 := by rw [hW2]; (repeat (first | with_reducible exact X.refl _ | with_reducible assumption | with_reducible refine X.setCell ?_ (by first | (simp; done) | (simp; omega)) _ | with_reducible refine X.ext ?_ _ | with_reducible refine X.alloc ?_ _ | with_reducible refine X.drew ?_))
    clear hW2
    have hxw := hx1.trans hx2
    replace hF := hF.mono (hx2.fr _)
    replace hI := hI.mono (hx2.fr _)
    replace hG := hG.mono hxw
    clear hx1 hx2
    refine (FoundNames_i l a n c _ path pa pn pc _ W2 hF hnc hI hpc hG).mono ?_
    rw [HV.out]
    rintro _ W3 ⟨ra, rc, rfl, hO, hx3⟩
    have hS3 := StrsAt.of_own hO (by omega) hVs
    have hB3 := hB2.x hx3
    clear hO hB2
    have t0 := bxC hB3
    have lt0 := hB3.lt
    go_wp2_with fail
    refine (FoundNames_s l a n c _ path pa pn pc _ W3 (hF.mono (hx3.fr _)) (hI.mono (hx3.fr _)) hpc).mono ?_
    rw [HV.out]
    rintro _ W4 ⟨ra4, rc4, rfl, hS4, hx4⟩
    go_wp2_with fail
    refine (equalTexts_c V V _ ra4 _ _ rc rc4 _ _ W4 (hS3.mono (hx4.fr _)) hS4).mono ?_
    rintro _ W5 ⟨rfl, hx5⟩
    rw [decide_eq_true (rfl : V = V)]
    have hx35 := hx4.trans hx5
    have hx25 := hx3.trans hx35
    have hS5 := hS3.mono (hx35.fr _)
    have hB5 := hB3.x hx35
    replace hxw := hxw.trans hx25
    replace hF := hF.mono (hx25.fr _)
    replace hI := hI.mono (hx25.fr _)
    replace hG := hG.mono hx25
    clear t0 lt0 hx3 hx4 hx5 hx35 hx25 hS3 hS4 hB3
    have t0 := bxC hB5
    have lt0 := hB5.lt
    go_wp2_with fail
    refine (ValidTree_c l a n c _ W5 hF hnc hG).mono ?_
    rintro _ W6 ⟨rfl, hx6⟩
    have hS6 := hS5.mono (hx6.fr _)
    have hB6 := hB5.x hx6
    replace hxw := hxw.trans hx6
    replace hF := hF.mono (hx6.fr _)
    replace hI := hI.mono (hx6.fr _)
    replace hG := hG.mono hx6
    clear t0 lt0 hx6 hS5 hB5
    have t0 := bxC hB6
    have lt0 := hB6.lt
    cases h1 : treeB l
    · go_wp2_with fail
      refine (FoundNames_s l a n c _ path pa pn pc _ W6 hF hI hpc).mono ?_
      rw [HV.out]
      rintro _ W7 ⟨ra7, rc7, rfl, hS7, hx7⟩
      go_wp2_with fail
      refine (equalTexts_c V V _ ra7 _ _ rc rc7 _ _ W7 (hS6.mono (hx7.fr _)) hS7).mono ?_
      rintro _ W8 ⟨rfl, hx8⟩
      rw [decide_eq_true (rfl : V = V)]
      go_wp2
      go_ret
      exact ⟨rfl, (hxw.trans hx7).trans hx8⟩
    go_wp2_with fail
    refine (ValidPath_c path pa pn pc _ W6 hI hpc).mono ?_
    rintro _ _ ⟨rfl, rfl⟩
    cases h2 : pathB path
    · go_wp2_with fail
      refine (FoundNames_s l a n c _ path pa pn pc _ W6 hF hI hpc).mono ?_
      rw [HV.out]
      rintro _ W7 ⟨ra7, rc7, rfl, hS7, hx7⟩
      go_wp2_with fail
      refine (equalTexts_c V V _ ra7 _ _ rc rc7 _ _ W7 (hS6.mono (hx7.fr _)) hS7).mono ?_
      rintro _ W8 ⟨rfl, hx8⟩
      rw [decide_eq_true (rfl : V = V)]
      go_wp2
      go_ret
      exact ⟨rfl, (hxw.trans hx7).trans hx8⟩
    have hm12 := @modsL_len l
    have hp36 := @packsL_len l
    have hms := @modsL_short l
    have hps := @packsL_short l
    obtain ⟨M, hM⟩ : ∃ M, modsL l = M := ⟨_, rfl⟩
    obtain ⟨Q, hQ⟩ : ∃ Q, packsL l = Q := ⟨_, rfl⟩
    have hVm := HVm.out
    rw [hM, hQ] at hVm
    rw [hM] at hm12 hms
    rw [hQ] at hp36 hps
    have HM := Lib.hid hM
    have HQ := Lib.hid hQ
    have HVq := Lib.hid hVm
    clear hM hQ hVm HVm
    have hUl : (strs Q).length = Q.length * 1 := by rw [strs_len, Nat.mul_one]
    have hU1 := strs_one Q
    go_wp2
    go_region_law (first
      | (refine step_append_slK str_T rfl _ _ rfl hrow2 rfl rfl (Sl.of_own hO2) hUl hU1 (by omega) (by unfold maxLen; omega) (by omega) ?_; intro a' c' w3 hO3 hg3 _)
      | (go_simp; go_at_call 13; refine (ModulesOf_i l a n c _ _ (hF.mono (X.fr (by (repeat (first | exact X.refl _ | assumption | refine X.ext ?_ _ | refine X.alloc ?_ _ | refine X.drew ?_))) _)) hnc (hG.mono (by (repeat (first | exact X.refl _ | assumption | refine X.ext ?_ _ | refine X.alloc ?_ _ | refine X.drew ?_))))).mono ?_; rw [HM.out]; rintro _ w1 ⟨ma, mc, rfl, hO1, hx1⟩; have hX1 : X W6 w1 := X.trans (by (repeat (first | exact X.refl _ | assumption | refine X.ext ?_ _ | refine X.alloc ?_ _ | refine X.drew ?_))) hx1; have t1 := bxC (hB6.x hX1); have lt1 := (hB6.x hX1).lt; have hs1 := hX1.size; have hO1' := own_less hO1 (show W6.heap.size ≤ _ by first | omega | (simp; done) | (simp; omega)))
      | (go_simp; go_at_call 14; refine (PackagesOf_i l a n c _ w1 (hF.mono (hX1.fr _)) hnc (hG.mono hX1)).mono ?_; rw [HQ.out]; rintro _ w2 ⟨qa, qc, rfl, hO2, hx2⟩; have hrow2 := own_fr hO1' (X.fr hx2 _); have hX2 := hX1.trans hx2; have hs2 := hX2.size))
    all_goals
      have hX3 := x_own hX2 hrow2 (Nat.le_refl _) hg3
      obtain ⟨A, hA⟩ : ∃ A, M ++ Q = A := ⟨_, rfl⟩
      obtain ⟨m, hm⟩ : ∃ m, M.length + Q.length = m := ⟨_, rfl⟩
      have hAl : A.length = m := by rw [← hA, ← hm, List.length_append]
      have hO4 : w3.ownsRow W6.heap.size 9 1 (.slice a' m c') m (strs A) := by
        rw [← hA, strs_map, List.map_append, ← strs_map, ← strs_map, ← hm]
        exact hO3
      have hVq := HVq.out
      have hm48 : m ≤ 48 := by omega
      have hAs : ∀ x ∈ A, x.length ≤ 12 := fun x hx => by
        rw [← hA, List.mem_append] at hx
        rcases hx with hx | hx
        · exact hms x hx
        · exact hps x hx
      have hVq2 : ∀ x, x ∈ V ↔ x ∈ A ∧ canB l path x = true := fun x => by rw [← hA]; exact hVq x
      rw [hm]
      have hSA : StrsAt w3 W6.heap.size a' m A := ⟨hAl.symm, by omega, fun x hx => by have := hAs x hx; omega, Sl.of_own hO4⟩
      have HAl := Lib.hid hAl
      have HVa := Lib.hid hVq2
      clear hO3 hO4 hrow2 hO2 hX2 hA hm hAl hVq HVq hVq2 hUl hU1 hO1 hO1' t1 lt1 hX1 hx1 hx2
      have hB3 := hB6.x hX3
      have hSV := hS6.mono (hX3.fr _)
      have hF3 := hF.mono (hX3.fr _)
      have hI3 := hI.mono (hX3.fr _)
      have hG3 := hG.mono hX3
      have hxw3 := hxw.trans hX3
      clear hX3 t0 lt0
      go_wp2
      go_loopw [7] (fun i wr => ∃ k : Nat, k ≤ m ∧ i = .int .i64 k ∧ X w3 wr) (fun i _ => m - (intOf i).toNat)
      case atStart => exact ⟨0, Nat.zero_le _, rfl, X.refl _⟩
      case round =>
        obtain ⟨k, hk, rfl, hX⟩ := hrel
        have t0 := bxC (hB3.x hX)
        have lt0 := (hB3.x hX).lt
        by_cases hlt : k < m
        · obtain ⟨b, off, rfl, _, hb, hc, hcl⟩ := (hSA.mono (hX.fr _)).at_ hlt
          have hin := nth_mem (l := A) (k := k) (by rw [HAl.out]; exact hlt)
          have hmm : decide (nth A k ∈ V) = canB l path (nth A k) := by
            rw [Bool.eq_iff_iff, decide_eq_true_iff, HVa.out]
            exact ⟨fun h => h.2, fun h => ⟨hin, h⟩⟩
          generalize nth A k = x at *
          have lb : b < wr.heap.size := hb
          have q1 : (0 : Int) ≤ (k : Int) := by omega
          have q2 : (k : Int) < (m : Int) := by omega
          cases hcan : canB l path x
          all_goals
            rw [hcan] at hmm
            go_wp2
            go_region_held3 (fun W' => W'.cell? ⟨W1.heap.size, 0, none⟩ = some (.slice a n c) ∧ W'.cell? ⟨b, off + k, none⟩ = some (.string ⟨(x).toArray⟩))
              (first | exact ⟨(World.cell?_ext _ _ _ _ lt0).trans t0, (World.cell?_ext _ _ _ _ lb).trans hc⟩ | exact ⟨t0, hc⟩ | go_keep)
              (first
                | (go_at_call 15; refine (hasTextL_c V _ _ rc _ x _ (hSV.mono (X.fr (hX.trans (by (repeat (first | exact X.refl _ | assumption | refine X.ext ?_ _ | refine X.alloc ?_ _ | refine X.drew ?_)))) _))).mono ?_; rw [hmm]; rintro _ wq ⟨rfl, hxq⟩; replace hxq := X.trans (a := wr) (by (repeat (first | exact X.refl _ | assumption | refine X.ext ?_ _ | refine X.alloc ?_ _ | refine X.drew ?_))) hxq; obtain ⟨zq, rfl⟩ := hxq)
                | (go_at_call 16; refine (CanFind_i l a n c _ path pa pn pc _ x _ (hF3.mono (X.fr (hX.trans (by (repeat (first | exact X.refl _ | assumption | refine X.ext ?_ _ | refine X.alloc ?_ _ | refine X.drew ?_)))) _)) hnc (hI3.mono (X.fr (hX.trans (by (repeat (first | exact X.refl _ | assumption | refine X.ext ?_ _ | refine X.alloc ?_ _ | refine X.drew ?_)))) _)) hpc hcl (hG3.mono (hX.trans (by (repeat (first | exact X.refl _ | assumption | refine X.ext ?_ _ | refine X.alloc ?_ _ | refine X.drew ?_)))))).mono ?_; rw [hcan]; rintro _ wq ⟨rfl, hxq⟩; replace hxq := X.trans (a := wr) (by (repeat (first | exact X.refl _ | assumption | refine X.ext ?_ _ | refine X.alloc ?_ _ | refine X.drew ?_))) hxq; obtain ⟨zp, rfl⟩ := hxq))
            go_wp2
            go_roundw
            case rel => exact ⟨k + 1, by omega, by go_num, hX.trans (by (repeat (first | exact X.refl _ | assumption | refine X.ext ?_ _ | refine X.alloc ?_ _ | refine X.drew ?_)))⟩
            case measure => simp [intOf]; omega
        · obtain rfl : k = m := by omega
          have hin : ∀ x ∈ V, x ∈ A := fun x hx => ((HVa.out x).1 hx).1
          go_wp2_with (first | (go_at_call 17; refine (rises_c V _ _ rc _ _ (hSV.mono (hX.fr _)) hasc).mono ?_; rintro _ w7 ⟨rfl, hx7⟩) | (go_at_call 18; refine (withinTexts_c V A _ _ _ _ rc _ _ _ _ (hSV.mono ((hX.trans hx7).fr _)) (hSA.mono ((hX.trans hx7).fr _)) hin).mono ?_; rintro _ w8 ⟨rfl, hx8⟩))
          go_ret
          exact ⟨rfl, hxw3.trans ((hX.trans hx7).trans hx8)⟩

end Go.Proofs.YtijcdnaammbomaaGreatDoor
