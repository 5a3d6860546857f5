/- The walk of the law FnPackagesOf. -/
import Derived.Test.YtlpbgingggnjpaaGreatDoorPackW
import Derived.Test.YtlpbgingggnjpaaGreatDoorRises
import Derived.Test.YtlpbgingggnjpaaGreatDoorDrawMods
import Derived.Deep.RegionHeld3
namespace Go.Proofs.YtlpbgingggnjpaaGreatDoor
open Go.RowKit

theorem packs_asc {t : List Fi} : asc (packsL t) := by
  unfold packsL
  split
  · exact (sortU_facts _).1
  · exact asc_nil
set_option maxRecDepth 100000 in
set_option maxHeartbeats 4000000 in
theorem FnPackagesOf_c (ca : Option Addr) (cn cc : Nat) (w : World) (hC : CodeAt w ca cn cc) (hG : Gm w) :
    Calls Tryz.prog 3 #[.slice ca cn cc] w fun e w' => e = .returned (.bool true) ∧ X w w' := by
  by_cases hbig : 1048576 < cn
  · go_enter Tryz.func3, Tryz.ntmps3
    go_wp2
    go_ret
    exact ⟨by simp, by (repeat (first | exact X.refl _ | assumption | refine X.ext ?_ _ | refine X.alloc ?_ _ | refine X.drew ?_))⟩
  · go_enter Tryz.func3, Tryz.ntmps3
    go_wp2_with fail
    refine (DrawPackagesOf_c ca cn cc _ hC (by omega)).mono ?_
    rintro _ W1 ⟨l, a, n, c, rfl, hF, hnc, hn11, hx1⟩
    have hVl : (packsL l).length ≤ 36 := packsL_len
    have hVs : ∀ x ∈ packsL l, x.length ≤ 4194304 := fun x hx => by have := packsL_short x hx; omega
    obtain ⟨V, hV⟩ : ∃ V, packsL l = V := ⟨_, rfl⟩
    rw [hV] at hVl hVs
    have HV := Lib.hid hV
    clear hV
    go_wp2_with fail
    refine calls_name (fun W2 hW2 => ?_)
    have hB2 : Bx W2 W1.heap.size #[.slice a n c] := by rw [hW2]; first | exact Bx.new _ _ _ | exact Bx.set (Bx.new _ _ _) 0 _
    have hx2 : X W1 W2 := by rw [hW2]; (repeat (first | with_reducible exact X.refl _ | with_reducible assumption | with_reducible refine X.setCell ?_ (by first | (simp; done) | (simp; omega)) _ | with_reducible refine X.ext ?_ _ | with_reducible refine X.alloc ?_ _ | with_reducible refine X.drew ?_))
    clear hW2
    have hxw := hx1.trans hx2
    replace hF := hF.mono (hx2.fr _)
    replace hG := hG.mono hxw
    clear hx1 hx2
    have hlaw := fun (h : treeB l = true) (s : List UInt8) (hs : s ∈ packsL l) => packs_law h hs
    have hasc := @packs_asc l
    rw [HV.out] at hlaw hasc
    have Hlaw := Lib.hid hlaw
    clear hlaw
    refine (PackagesOf_i l a n c _ W2 hF hnc hG).mono ?_
    rw [HV.out]
    rintro _ W3 ⟨ra, rc, rfl, hO, hx3⟩
    have hS3 := StrsAt.of_own hO (by omega) hVs
    have hB3 := hB2.x hx3
    clear hO hB2
    have t0 := bxC hB3
    have lt0 := hB3.lt
    go_wp2_with fail
    refine (PackagesOf_s l a n c _ W3 (hF.mono (hx3.fr _))).mono ?_
    rw [HV.out]
    rintro _ W4 ⟨ra4, rc4, rfl, hS4, hx4⟩
    go_wp2_with fail
    refine (equalTexts_c V V ra ra4 _ _ rc rc4 _ _ W4 (hS3.mono (hx4.fr _)) hS4).mono ?_
    rintro _ W5 ⟨rfl, hx5⟩
    rw [decide_eq_true (rfl : V = V)]
    have hx35 := hx4.trans hx5
    have hx25 := hx3.trans hx35
    have hS5 := hS3.mono (hx35.fr _)
    have hB5 := hB3.x hx35
    replace hxw := hxw.trans hx25
    replace hF := hF.mono (hx25.fr _)
    replace hG := hG.mono hx25
    clear t0 lt0 hx3 hx4 hx5 hx35 hx25 hS3 hS4 hB3
    have t0 := bxC hB5
    have lt0 := hB5.lt
    go_wp2_with fail
    refine (ValidTree_c l a n c _ W5 hF hnc hG).mono ?_
    rintro _ W6 ⟨rfl, hx6⟩
    have hS6 := hS5.mono (hx6.fr _)
    have hB6 := hB5.x hx6
    replace hxw := hxw.trans hx6
    replace hF := hF.mono (hx6.fr _)
    replace hG := hG.mono hx6
    clear t0 lt0 hx6 hS5 hB5
    have t0 := bxC hB6
    have lt0 := hB6.lt
    cases ht : treeB l
    · go_wp2_with fail
      refine (PackagesOf_s l a n c _ W6 hF).mono ?_
      rw [HV.out]
      rintro _ W7 ⟨ra7, rc7, rfl, hS7, hx7⟩
      go_wp2_with fail
      refine (equalTexts_c V V ra ra7 _ _ rc rc7 _ _ W7 (hS6.mono (hx7.fr _)) hS7).mono ?_
      rintro _ W8 ⟨rfl, hx8⟩
      rw [decide_eq_true (rfl : V = V)]
      go_wp2
      go_ret
      exact ⟨rfl, (hxw.trans hx7).trans hx8⟩
    have Hl := Lib.hid (Hlaw.out ht)
    clear Hlaw
    obtain ⟨m, hm⟩ : ∃ m, V.length = m := ⟨_, rfl⟩
    rw [hm] at hS6 hVl ⊢
    have Hm := Lib.hid hm
    clear hm
    go_wp2
    go_loopw [5] (fun i wr => ∃ k : Nat, k ≤ m ∧ i = .int .i64 k ∧ X W6 wr) (fun i _ => m - (intOf i).toNat)
    case atStart => exact ⟨0, Nat.zero_le _, rfl, X.refl _⟩
    case round =>
      obtain ⟨k, hk, rfl, hX⟩ := hrel
      clear t0 lt0
      by_cases hlt : k < m
      · obtain ⟨hnm, ⟨r0, hr0, hr1⟩, hpar⟩ := Hl.out _ (nth_mem (l := V) (k := k) (by rw [Hm.out]; exact hlt))
        have hVk := hVs _ (nth_mem (l := V) (k := k) (by rw [Hm.out]; exact hlt))
        obtain ⟨x, hx⟩ : ∃ x, nth V k = x := ⟨_, rfl⟩
        rw [hx] at hnm hr1 hpar hVk
        have Hx := Lib.hid hx
        clear hx
        obtain ⟨wo, rfl⟩ : ∃ wo, wo = wr := ⟨_, rfl⟩
        have q1 : (0 : Int) ≤ (k : Int) := by omega
        have q2 : (k : Int) < (m : Int) := by omega
        go_wp2
        go_loopw [6, 7] (fun b i wr => ∃ (r : Nat), r ≤ 3 ∧ i = .int .i64 r ∧ b = .bool (anyN (fun j => hasB l (j : Int) x) r) ∧ X wo wr) (fun _ i _ => 3 - (intOf i).toNat)
        case atStart => exact ⟨0, by omega, rfl, rfl, X.refl _⟩
        case round =>
          obtain ⟨r, hr, rfl, rfl, hX2⟩ := hrel
          have hXX := hX.trans hX2
          have t0 := bxC (hB6.x hXX)
          have lt0 := (hB6.x hXX).lt
          obtain ⟨b, off, rfl, _, hb, hc, _⟩ := (hS6.mono (hXX.fr _)).at_ hlt
          rw [Hx.out] at hc
          by_cases hr3 : r < 3
          · have hnext := @anyN_succ (fun j => hasB l (j : Int) x) r
            cases ha : anyN (fun j => hasB l (j : Int) x) r
            · rw [ha] at hnext
              simp only [Bool.false_or] at hnext
              have Hnx := Lib.hid hnext
              clear hnext ha
              have lb : b < wr.heap.size := hb
              go_wp2
              go_region_held3 (fun W' => W'.cell? ⟨W1.heap.size, 0, none⟩ = some (.slice a n c) ∧ W'.cell? ⟨b, off + k, none⟩ = some (.string ⟨(x).toArray⟩))
                (first | exact ⟨(World.cell?_ext _ _ _ _ lt0).trans t0, (World.cell?_ext _ _ _ _ lb).trans hc⟩ | exact ⟨t0, hc⟩ | go_keep)
                ((go_at_call 13; refine (HasDir_c l a n c _ (r : Int) x _ (hF.mono (X.fr (hXX.trans (by (repeat (first | exact X.refl _ | assumption | refine X.ext ?_ _ | refine X.alloc ?_ _ | refine X.drew ?_)))) _)) hnc hVk (hG.mono (hXX.trans (by (repeat (first | exact X.refl _ | assumption | refine X.ext ?_ _ | refine X.alloc ?_ _ | refine X.drew ?_)))))).mono ?_; rw [show (treeB l && rangeB (r : Int) 0 2 && pkgB x && dirS l (r : Int) x) = hasB l (r : Int) x from rfl]; rintro _ wq ⟨rfl, hxq⟩; replace hxq := X.trans (a := wr) (by (repeat (first | exact X.refl _ | assumption | refine X.ext ?_ _ | refine X.alloc ?_ _ | refine X.drew ?_))) hxq; obtain ⟨zq, rfl⟩ := hxq))
              go_wp2
              go_roundw
              case rel => exact ⟨r + 1, by omega, by go_num, by rw [Hnx.out], hX2.trans (by (repeat (first | exact X.refl _ | assumption | refine X.ext ?_ _ | refine X.alloc ?_ _ | refine X.drew ?_)))⟩
              case measure => simp [intOf]; omega
            · rw [ha] at hnext
              simp only [Bool.true_or] at hnext
              have Hnx := Lib.hid hnext
              clear hnext ha
              go_wp2
              go_region
              go_wp2
              go_roundw
              case rel => exact ⟨r + 1, by omega, by go_num, by rw [Hnx.out], hX2.trans (by (repeat (first | exact X.refl _ | assumption | refine X.ext ?_ _ | refine X.alloc ?_ _ | refine X.drew ?_)))⟩
              case measure => simp [intOf]; omega
          · obtain rfl : r = 3 := by omega
            have hany : anyN (fun j => hasB l (j : Int) x) 3 = true := anyN_yes (k := r0) hr1 hr0
            rw [hany]
            clear hany
            go_wp2_with fail
            refine (ParentOf_c x wr hVk (hG.mono hXX)).mono ?_
            rintro _ w7 ⟨rfl, hx7⟩
            have hS7 := hS6.mono ((hXX.trans hx7).fr _)
            obtain ⟨Q, hQ⟩ : ∃ Q, parentF x = Q := ⟨_, rfl⟩
            rw [hQ] at hpar ⊢
            clear hQ
            cases hQe : Q.isEmpty
            · have hin := hpar (by intro e; rw [e] at hQe; cases hQe)
              clear hpar
              go_wp2_with fail
              refine (hasTextL_c V _ _ rc _ Q w7 hS7).mono ?_
              rw [decide_eq_true hin]
              rintro _ w8 ⟨rfl, hx8⟩
              go_wp2
              go_roundw
              case rel => exact ⟨k + 1, by omega, by go_num, (hXX.trans hx7).trans hx8⟩
              case measure => simp [intOf]; omega
            · obtain rfl : Q = [] := by cases Q with | nil => rfl | cons _ _ => cases hQe
              clear hpar
              go_wp2
              go_roundw
              case rel => exact ⟨k + 1, by omega, by go_num, hXX.trans hx7⟩
              case measure => simp [intOf]; omega
      · obtain rfl : k = m := by omega
        go_wp2_with fail
        refine (rises_c V ra _ rc _ wr (hS6.mono (hX.fr _)) hasc).mono ?_
        rintro _ w7 ⟨rfl, hx7⟩
        go_wp2
        go_ret
        exact ⟨rfl, hxw.trans (hX.trans hx7)⟩

end Go.Proofs.YtlpbgingggnjpaaGreatDoor
