/- The walk of the law FnModulesOf. -/
import Derived.Test.YtlpbgingggnjpaaDoorModsW
import Derived.Test.YtlpbgingggnjpaaDoorRises
import Derived.Test.YtlpbgingggnjpaaDoorDrawMods
namespace Go.Proofs.YtlpbgingggnjpaaDoor
open Go.RowKit

theorem mods_law {t : List Fi} (h : treeB t = true) : (∀ k, k < t.length → moduleOf (nth t k) ∈ modsL t) ∧ asc (modsL t) ∧ (modsL t).length ≤ t.length := by
  have e : modsL t = sortU (t.map moduleB) := by rw [modsL, h]; rfl
  rw [e]
  refine ⟨fun k hk => (sortU_facts _).2 _ |>.2 ?_, (sortU_facts _).1, ?_⟩
  · rw [moduleOf, treeB_file h hk]
    exact List.mem_map_of_mem (nth_mem hk)
  · have := sortU_len (t.map moduleB)
    rwa [List.length_map] at this

set_option maxRecDepth 100000 in
set_option maxHeartbeats 2000000 in
theorem FnModulesOf_c (ca : Option Addr) (cn cc : Nat) (w : World) (hC : CodeAt w ca cn cc) (hG : Gm w) :
    Calls Tryd.prog 3 #[.slice ca cn cc] w fun e w' => e = .returned (.bool true) ∧ X w w' := by
  by_cases hbig : 1048576 < cn
  · go_enter Tryd.func3, Tryd.ntmps3
    go_wp2
    go_ret
    exact ⟨by simp, by (repeat (first | exact X.refl _ | assumption | refine X.ext ?_ _ | refine X.alloc ?_ _ | refine X.drew ?_))⟩
  · go_enter Tryd.func3, Tryd.ntmps3
    go_wp2_with fail
    refine (DrawModulesOf_c ca cn cc _ hC (by omega)).mono ?_
    rintro _ W1 ⟨l, a, n, c, rfl, hF, hnc, hn11, hx1⟩
    have hVl : (modsL l).length ≤ 36 := Nat.le_trans modsL_len (by omega)
    have hVs : ∀ x ∈ modsL l, x.length ≤ 4194304 := fun x hx => by have := modsL_short x hx; omega
    obtain ⟨V, hV⟩ : ∃ V, modsL l = V := ⟨_, rfl⟩
    rw [hV] at hVl hVs
    have HV := Lib.hid hV
    clear hV
    go_wp2_with fail
    refine calls_name (fun W2 hW2 => ?_)
    have hB2 : Bx W2 W1.heap.size #[.slice a n c] := by rw [hW2]; first | exact Bx.new _ _ _ | exact Bx.set (Bx.new _ _ _) 0 _
    have hx2 : X W1 W2 := by rw [hW2]; (repeat (first | with_reducible exact X.refl _ | with_reducible assumption | with_reducible refine X.setCell ?_ (by first | (simp; done) | (simp; omega)) _ | with_reducible refine X.ext ?_ _ | with_reducible refine X.alloc ?_ _ | with_reducible refine X.drew ?_))
    clear hW2
    have hxw := hx1.trans hx2
    replace hF := hF.mono (hx2.fr _)
    replace hG := hG.mono hxw
    clear hx1 hx2
    refine (ModulesOf_i l a n c _ W2 hF hnc hG).mono ?_
    rw [HV.out]
    rintro _ W3 ⟨ra, rc, rfl, hO, hx3⟩
    have hS3 := StrsAt.of_own hO (by omega) hVs
    have hB3 := hB2.x hx3
    clear hO hB2
    have t0 := bxC hB3
    have lt0 := hB3.lt
    go_wp2_with fail
    refine (ModulesOf_s l a n c _ W3 (hF.mono (hx3.fr _))).mono ?_
    rw [HV.out]
    rintro _ W4 ⟨ra4, rc4, rfl, hS4, hx4⟩
    go_wp2_with fail
    refine (equalTexts_c V V ra ra4 _ _ rc rc4 _ _ W4 (hS3.mono (hx4.fr _)) hS4).mono ?_
    rintro _ W5 ⟨rfl, hx5⟩
    rw [decide_eq_true (rfl : V = V)]
    have hx35 := hx4.trans hx5
    have hx25 := hx3.trans hx35
    have hS5 := hS3.mono (hx35.fr _)
    have hB5 := hB3.x hx35
    replace hxw := hxw.trans hx25
    replace hF := hF.mono (hx25.fr _)
    replace hG := hG.mono hx25
    clear t0 lt0 hx3 hx4 hx5 hx35 hx25 hS3 hS4 hB3
    have t0 := bxC hB5
    have lt0 := hB5.lt
    go_wp2_with fail
    refine (ValidTree_c l a n c _ W5 hF hnc hG).mono ?_
    rintro _ W6 ⟨rfl, hx6⟩
    have hS6 := hS5.mono (hx6.fr _)
    have hB6 := hB5.x hx6
    replace hxw := hxw.trans hx6
    replace hF := hF.mono (hx6.fr _)
    replace hG := hG.mono hx6
    clear t0 lt0 hx6 hS5 hB5
    have t0 := bxC hB6
    have lt0 := hB6.lt
    cases ht : treeB l
    · go_wp2_with fail
      refine (ModulesOf_s l a n c _ W6 hF).mono ?_
      rw [HV.out]
      rintro _ W7 ⟨ra7, rc7, rfl, hS7, hx7⟩
      go_wp2_with fail
      refine (equalTexts_c V V ra ra7 _ _ rc rc7 _ _ W7 (hS6.mono (hx7.fr _)) hS7).mono ?_
      rintro _ W8 ⟨rfl, hx8⟩
      rw [decide_eq_true (rfl : V = V)]
      go_wp2
      go_ret
      exact ⟨rfl, (hxw.trans hx7).trans hx8⟩
    · obtain ⟨h1, hasc, hle⟩ := mods_law ht
      rw [HV.out] at h1 hasc hle
      rw [← hF.len.1] at h1 hle
      go_wp2
      go_loopw [5] (fun i wr => ∃ k : Nat, k ≤ n ∧ i = .int .i64 k ∧ X W6 wr) (fun i _ => n - (intOf i).toNat)
      case atStart => exact ⟨0, Nat.zero_le _, rfl, X.refl _⟩
      case round =>
        obtain ⟨k, hk, rfl, hX⟩ := hrel
        clear t0 lt0
        have t0 := bxC (hB6.x hX)
        have lt0 := (hB6.x hX).lt
        by_cases hlt : k < n
        · obtain ⟨b, off, ba, bn, bc, rfl, _, hb, hok, hbc, hSb, g0, g1, g2, g3, g4, g5⟩ := (hF.mono (hX.fr _)).at_ hlt
          have hin := h1 k hlt
          generalize nth l k = f at *
          go_wp2_with fail
          refine (ModuleOf_c f ba bn bc _ wr hok hSb (hG.mono hX)).mono ?_
          rintro _ w7 ⟨rfl, hx7⟩
          go_wp2_with fail
          refine (hasTextL_c V ra _ rc _ (moduleOf f) w7 (hS6.mono ((hX.trans hx7).fr _))).mono ?_
          rw [decide_eq_true hin]
          rintro _ w8 ⟨rfl, hx8⟩
          go_wp2
          go_roundw
          case rel => exact ⟨k + 1, by omega, by go_num, (hX.trans hx7).trans hx8⟩
          case measure => simp [intOf]; omega
        · obtain rfl : k = n := by omega
          go_wp2_with fail
          refine (rises_c V ra _ rc _ wr (hS6.mono (hX.fr _)) hasc).mono ?_
          rintro _ w7 ⟨rfl, hx7⟩
          clear t0 lt0
          have t0 := bxC (hB6.x (hX.trans hx7))
          have lt0 := (hB6.x (hX.trans hx7)).lt
          go_wp2
          go_ret
          exact ⟨by simp, hxw.trans (hX.trans hx7)⟩

end Go.Proofs.YtlpbgingggnjpaaDoor
