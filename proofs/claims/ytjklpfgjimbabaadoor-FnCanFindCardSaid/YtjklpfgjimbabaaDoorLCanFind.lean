/- The walk of the law FnCanFind. -/
import Derived.Test.YtjklpfgjimbabaaDoorAbove
import Derived.Test.YtjklpfgjimbabaaDoorDrawName
namespace Go.Proofs.YtjklpfgjimbabaaDoor
open Go.RowKit

set_option maxRecDepth 100000 in
set_option maxHeartbeats 1000000 in
theorem FnCanFind_c (ca : Option Addr) (cn cc : Nat) (w : World) (hC : CodeAt w ca cn cc) (hG : Gm w) :
    Calls Tryd.prog 10 #[.slice ca cn cc] w fun e w' => e = .returned (.bool true) ∧ X w w' := by
  by_cases hbig : 1048576 < cn
  · go_enter Tryd.func10, Tryd.ntmps10
    go_wp2
    go_ret
    exact ⟨by simp, by (repeat (first | exact X.refl _ | assumption | refine X.ext ?_ _ | refine X.alloc ?_ _ | refine X.drew ?_))⟩
  · go_enter Tryd.func10, Tryd.ntmps10
    go_wp2_with fail
    refine (DrawCanFind_c ca cn cc _ hC (by omega)).mono ?_
    rintro _ W1 ⟨l, a, n, c, path, pa, pn, pc, s, rfl, hF, hnc, hn11, hsm, hI, hpc, hpn3, hsl, hx1⟩
    replace hG := hG.mono hx1
    have hB1 := Bx.new W1 #[.slice a n c] 25
    go_wp2_with fail
    refine calls_name (fun W hW => ?_)
    rw [← hW] at hB1
    have hx2 : X W1 W := by rw [hW]; (repeat (first | exact X.refl _ | assumption | refine X.ext ?_ _ | refine X.alloc ?_ _ | refine X.drew ?_))
    clear hW
    replace hF := hF.mono (hx2.fr _)
    replace hI := hI.mono (hx2.fr _)
    replace hG := hG.mono hx2
    have hxw := hx1.trans hx2
    clear hx1 hx2
    obtain ⟨hb1, hc1, hf1⟩ := hB1.out
    have d1 := hc1 0
    clear hc1
    have hsl2 : s.length ≤ 4194304 := by omega
    refine (CanFind_i l _ _ _ _ path _ _ _ _ s W hF hnc hI hpc hsl2 hG).mono ?_
    rintro _ _ ⟨rfl, x, rfl⟩
    cases hc : canB l path s
    · go_wp2_with (go_at_call 41; refine (CanFind_s l _ _ _ _ path _ _ _ _ s _ (hF.mono (X.fr (by (repeat (first | exact X.refl _ | assumption | refine X.ext ?_ _ | refine X.alloc ?_ _ | refine X.drew ?_))) _)) (hI.mono (X.fr (by (repeat (first | exact X.refl _ | assumption | refine X.ext ?_ _ | refine X.alloc ?_ _ | refine X.drew ?_))) _)) hpc hsl2).mono ?_; rintro _ _ ⟨rfl, hx⟩; obtain ⟨x, rfl⟩ := hx.of_ext)
      go_ret
      exact ⟨by simp, hxw.trans (by (repeat (first | exact X.refl _ | assumption | refine X.ext ?_ _ | refine X.alloc ?_ _ | refine X.drew ?_)))⟩
    · obtain ⟨hn, hall⟩ := can_law hc
      have htn := (nameB_iff.1 hn).2
      have hpx := fun k => pfx_len hn k
      generalize htl : (splitL 46 s).length = tn at *
      have Htl := Lib.hid htl
      clear htl
      have Hall := Lib.hid hall
      clear hall
      go_wp2_with (first
        | (go_at_call 41; refine (CanFind_s l _ _ _ _ path _ _ _ _ s _ (hF.mono (X.fr (by (repeat (first | exact X.refl _ | assumption | refine X.ext ?_ _ | refine X.alloc ?_ _ | refine X.drew ?_))) _)) (hI.mono (X.fr (by (repeat (first | exact X.refl _ | assumption | refine X.ext ?_ _ | refine X.alloc ?_ _ | refine X.drew ?_))) _)) hpc hsl2).mono ?_; rintro _ _ ⟨rfl, hx⟩; obtain ⟨x, rfl⟩ := hx.of_ext)
        | (go_at_call 42; refine (NamesAbove_c s _ hn (hG.mono (by (repeat (first | exact X.refl _ | assumption | refine X.ext ?_ _ | refine X.alloc ?_ _ | refine X.drew ?_))))).mono ?_; rintro _ w5 ⟨ta, tc, rfl, hown, hx5⟩; rw [Htl.out] at hown ⊢; replace hx5 := X.trans (a := W) (by (repeat (first | exact X.refl _ | assumption | refine X.ext ?_ _ | refine X.alloc ?_ _ | refine X.drew ?_))) hx5))
      have hS := StrsAt.of_own (l := aboveL s tn) (by rw [aboveL_len]; exact hown) (by rw [aboveL_len]; omega) (fun p hp => by
        simp only [aboveL, List.mem_map] at hp
        obtain ⟨i, _, rfl⟩ := hp
        have := hpx (i + 1)
        omega)
      rw [aboveL_len] at hS
      clear hown
      replace hF := hF.mono (hx5.fr _)
      replace hI := hI.mono (hx5.fr _)
      replace hG := hG.mono hx5
      have hlt5 : W1.heap.size < w5.heap.size := Nat.lt_of_lt_of_le hb1 hx5.size
      have d5 := (hx5.cell (p := ⟨W1.heap.size, 0, none⟩) hb1).trans d1
      replace hxw := hxw.trans hx5
      clear hx5
      go_loopw [8] (fun i wr => ∃ (k : Nat) (z : Xt), k ≤ tn ∧ i = .int .i64 k ∧ wr = World.ext w5 z) (fun i _ => tn - (intOf i).toNat)
      case atStart => exact ⟨0, _, by omega, rfl, (World.ext_refl w5).symm⟩
      case round =>
        obtain ⟨k, z, hk, rfl, rfl⟩ := hrel
        by_cases hlt : k < tn
        · obtain ⟨b, off, rfl, _, hb, hcell, _⟩ := hS.at_ hlt
          rw [aboveL_nth hlt] at hcell
          obtain ⟨hck, hpk⟩ := Hall.out k hlt
          have hp4 : (pfx s (k + 1)).length ≤ 4194304 := by have := hpx (k + 1); omega
          have q1 : IntKind.i64.wrap ((k : Int) + 1) = (k : Int) + 1 := IntWalk.i64_in _ (by omega)
          have hk1 : (k : Int) < (tn : Int) := by omega
          have hk0 : (0 : Int) ≤ (k : Int) := by omega
          by_cases hk2 : k + 1 < tn
          · have hpk2 := hpk hk2
            have hk3 : decide ((k : Int) + 1 < (tn : Int)) = true := decide_eq_true (by omega)
            clear hpk
            go_wp2_with fail
            refine wp_region_grow (by kernel_rfl) (by kernel_rfl) ?_
            repeat (go_big_quiet_step (((first | (go_at_call 40; refine grow_of (CanFind_i l _ _ _ _ path _ _ _ _ (pfx s (k + 1)) _ (hF.mono (X.fr (by (repeat (first | exact X.refl _ | assumption | refine X.ext ?_ _ | refine X.alloc ?_ _ | refine X.drew ?_))) _)) hnc (hI.mono (X.fr (by (repeat (first | exact X.refl _ | assumption | refine X.ext ?_ _ | refine X.alloc ?_ _ | refine X.drew ?_))) _)) hpc hp4 (hG.mono (by (repeat (first | exact X.refl _ | assumption | refine X.ext ?_ _ | refine X.alloc ?_ _ | refine X.drew ?_)))))) | (go_at_call 20; refine grow_of (IsPackage_i l _ _ _ _ path _ _ _ _ (pfx s (k + 1)) _ (hF.mono (X.fr (by (repeat (first | exact X.refl _ | assumption | refine X.ext ?_ _ | refine X.alloc ?_ _ | refine X.drew ?_))) _)) hnc (hI.mono (X.fr (by (repeat (first | exact X.refl _ | assumption | refine X.ext ?_ _ | refine X.alloc ?_ _ | refine X.drew ?_))) _)) hpc hp4 (hG.mono (by (repeat (first | exact X.refl _ | assumption | refine X.ext ?_ _ | refine X.alloc ?_ _ | refine X.drew ?_))))))))))
            refine wpQuiet_nil ?_
            rintro _ ⟨y, rfl⟩
            go_wp2
            go_roundw
            case rel => exact ⟨k + 1, _, by omega, by go_num, rfl⟩
            case measure => simp [intOf]; omega
          · have hk3 : decide ((k : Int) + 1 < (tn : Int)) = false := decide_eq_false (by omega)
            clear hpk
            go_wp2_with fail
            refine wp_region_grow (by kernel_rfl) (by kernel_rfl) ?_
            repeat (go_big_quiet_step (((go_at_call 40; refine grow_of (CanFind_i l _ _ _ _ path _ _ _ _ (pfx s (k + 1)) _ (hF.mono (X.fr (by (repeat (first | exact X.refl _ | assumption | refine X.ext ?_ _ | refine X.alloc ?_ _ | refine X.drew ?_))) _)) hnc (hI.mono (X.fr (by (repeat (first | exact X.refl _ | assumption | refine X.ext ?_ _ | refine X.alloc ?_ _ | refine X.drew ?_))) _)) hpc hp4 (hG.mono (by (repeat (first | exact X.refl _ | assumption | refine X.ext ?_ _ | refine X.alloc ?_ _ | refine X.drew ?_)))))))))
            refine wpQuiet_nil ?_
            rintro _ ⟨y, rfl⟩
            go_wp2
            go_roundw
            case rel => exact ⟨k + 1, _, by omega, by go_num, rfl⟩
            case measure => simp [intOf]; omega
        · obtain rfl : k = tn := by omega
          go_wp2
          go_ret
          exact ⟨by simp, hxw.trans (by (repeat (first | exact X.refl _ | assumption | refine X.ext ?_ _ | refine X.alloc ?_ _ | refine X.drew ?_)))⟩

end Go.Proofs.YtjklpfgjimbabaaDoor
