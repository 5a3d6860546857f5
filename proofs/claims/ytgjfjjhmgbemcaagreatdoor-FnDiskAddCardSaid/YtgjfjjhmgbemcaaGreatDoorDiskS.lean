/- Disks: the walks of the reference's functions. No condition but lengths. -/
import Derived.Test.YtgjfjjhmgbemcaaGreatDoorDisk
namespace Go.Proofs.YtgjfjjhmgbemcaaGreatDoor
open Go.RowKit

set_option maxRecDepth 100000 in
set_option maxHeartbeats 2000000 in
theorem validDirs_c (l : List Di) (a : Option Addr) (n c B : Nat) (w : World) (hD : DirsAt w B a n l) :
    Calls Tryz.prog 94 #[.slice a n c] w fun e w' => e = .returned (.bool (dirsB l 200 12)) ∧ X w w' := by
  obtain ⟨hl, hn⟩ := hD.len
  have Hl := Lib.hid hl
  clear hl
  go_enter Tryz.func94, Tryz.ntmps94
  go_wp2
  go_loopw [3] (fun i wr => ∃ k : Nat, k ≤ n ∧ i = .int .i64 k ∧ allN (dirB l 200 12) k = true ∧ X w wr) (fun i _ => n - (intOf i).toNat)
  case atStart => exact ⟨0, by omega, rfl, rfl, X.refl _⟩
  case round =>
    obtain ⟨k, hk, rfl, hall, hX⟩ := hrel
    by_cases hlt : k < n
    · have hD2 := hD.mono (hX.fr _)
      obtain ⟨b, off, ba, bn, bc, rfl, _, hb, hpk, _, hS, g0, g1, g2, g3⟩ := hD2.at_ (k := k) hlt
      have hbn := hS.1
      have hbl := hS.2.1
      have Hno := Lib.hid (show dirB l 200 12 k = false → dirsB l 200 12 = false from fun h1 => by
        unfold dirsB; rw [allN_not (k := k) h1 (by rw [← Hl.out]; exact hlt)]; rfl)
      have Hd := Lib.hid (show dirB l 200 12 k = (rangeB (nth l k).root 0 2 && pkgB (nth l k).pkg && rangeB (nth l k).stamp 0 200 && decide ((bn : Int) ≤ 12) && !decide (didx l (nth l k).root (nth l k).pkg n < (k : Int))) by
        unfold dirB
        rw [hbn, didx_lt hlt])
      clear hbn
      have hXw := hX
      cases q1 : rangeB (nth l k).root 0 2
      · go_wp2
        refine wp_region_grow0 (by kernel_rfl) (by kernel_rfl) ?_
        repeat (go_big_quiet_step (((first
          | (go_at_call 40; refine grow_same (inRange_c _ _ _ _))
          | (go_at_call 149; refine grow_of (validPackage_c (nth l k).pkg _ (by omega)))
          | (go_at_call 150; refine grow_of (dirAt_s l _ n n c B (nth l k).root (nth l k).pkg _ (hD2.mono (X.fr (by (repeat (first | exact X.refl _ | assumption | refine X.ext ?_ _ | refine X.alloc ?_ _ | refine X.drew ?_))) _)) (Nat.le_refl _)))))))
        refine wpQuiet_nil ?_
        rintro _ ⟨y, rfl⟩
        go_wp2
        go_ret
        exact ⟨ret_bool (Hno.out (by rw [Hd.out]; simp [*])).symm, hXw.trans (by (repeat (first | exact X.refl _ | assumption | refine X.ext ?_ _ | refine X.alloc ?_ _ | refine X.drew ?_)))⟩
      cases q2 : pkgB (nth l k).pkg
      · go_wp2
        refine wp_region_grow0 (by kernel_rfl) (by kernel_rfl) ?_
        repeat (go_big_quiet_step (((first
          | (go_at_call 40; refine grow_same (inRange_c _ _ _ _))
          | (go_at_call 149; refine grow_of (validPackage_c (nth l k).pkg _ (by omega)))
          | (go_at_call 150; refine grow_of (dirAt_s l _ n n c B (nth l k).root (nth l k).pkg _ (hD2.mono (X.fr (by (repeat (first | exact X.refl _ | assumption | refine X.ext ?_ _ | refine X.alloc ?_ _ | refine X.drew ?_))) _)) (Nat.le_refl _)))))))
        refine wpQuiet_nil ?_
        rintro _ ⟨y, rfl⟩
        go_wp2
        go_ret
        exact ⟨ret_bool (Hno.out (by rw [Hd.out]; simp [*])).symm, hXw.trans (by (repeat (first | exact X.refl _ | assumption | refine X.ext ?_ _ | refine X.alloc ?_ _ | refine X.drew ?_)))⟩
      cases q3 : rangeB (nth l k).stamp 0 200
      · go_wp2
        refine wp_region_grow0 (by kernel_rfl) (by kernel_rfl) ?_
        repeat (go_big_quiet_step (((first
          | (go_at_call 40; refine grow_same (inRange_c _ _ _ _))
          | (go_at_call 149; refine grow_of (validPackage_c (nth l k).pkg _ (by omega)))
          | (go_at_call 150; refine grow_of (dirAt_s l _ n n c B (nth l k).root (nth l k).pkg _ (hD2.mono (X.fr (by (repeat (first | exact X.refl _ | assumption | refine X.ext ?_ _ | refine X.alloc ?_ _ | refine X.drew ?_))) _)) (Nat.le_refl _)))))))
        refine wpQuiet_nil ?_
        rintro _ ⟨y, rfl⟩
        go_wp2
        go_ret
        exact ⟨ret_bool (Hno.out (by rw [Hd.out]; simp [*])).symm, hXw.trans (by (repeat (first | exact X.refl _ | assumption | refine X.ext ?_ _ | refine X.alloc ?_ _ | refine X.drew ?_)))⟩
      by_cases q5 : didx l (nth l k).root (nth l k).pkg n < (k : Int)
      · go_wp2
        refine wp_region_grow0 (by kernel_rfl) (by kernel_rfl) ?_
        repeat (go_big_quiet_step (((first
          | (go_at_call 40; refine grow_same (inRange_c _ _ _ _))
          | (go_at_call 149; refine grow_of (validPackage_c (nth l k).pkg _ (by omega)))
          | (go_at_call 150; refine grow_of (dirAt_s l _ n n c B (nth l k).root (nth l k).pkg _ (hD2.mono (X.fr (by (repeat (first | exact X.refl _ | assumption | refine X.ext ?_ _ | refine X.alloc ?_ _ | refine X.drew ?_))) _)) (Nat.le_refl _)))))))
        refine wpQuiet_nil ?_
        rintro _ ⟨y, rfl⟩
        go_wp2
        go_ret
        exact ⟨ret_bool (Hno.out (by rw [Hd.out]; simp [*])).symm, hXw.trans (by (repeat (first | exact X.refl _ | assumption | refine X.ext ?_ _ | refine X.alloc ?_ _ | refine X.drew ?_)))⟩
      have q5b : decide (didx l (nth l k).root (nth l k).pkg n < (k : Int)) = false := by rw [decide_eq_false_iff_not]; exact q5
      by_cases q4 : (12 : Int) < (bn : Int)
      · have q4' : decide ((bn : Int) ≤ 12) = false := by rw [decide_eq_false_iff_not]; omega
        go_wp2
        refine wp_region_grow0 (by kernel_rfl) (by kernel_rfl) ?_
        repeat (go_big_quiet_step (((first
          | (go_at_call 40; refine grow_same (inRange_c _ _ _ _))
          | (go_at_call 149; refine grow_of (validPackage_c (nth l k).pkg _ (by omega)))
          | (go_at_call 150; refine grow_of (dirAt_s l _ n n c B (nth l k).root (nth l k).pkg _ (hD2.mono (X.fr (by (repeat (first | exact X.refl _ | assumption | refine X.ext ?_ _ | refine X.alloc ?_ _ | refine X.drew ?_))) _)) (Nat.le_refl _)))))))
        refine wpQuiet_nil ?_
        rintro _ ⟨y, rfl⟩
        go_wp2
        go_ret
        exact ⟨ret_bool (Hno.out (by rw [Hd.out]; simp [*])).symm, hXw.trans (by (repeat (first | exact X.refl _ | assumption | refine X.ext ?_ _ | refine X.alloc ?_ _ | refine X.drew ?_)))⟩
      have q4' : decide ((bn : Int) ≤ 12) = true := by rw [decide_eq_true_iff]; omega
      go_wp2
      refine wp_region_grow0 (by kernel_rfl) (by kernel_rfl) ?_
      repeat (go_big_quiet_step (((first
        | (go_at_call 40; refine grow_same (inRange_c _ _ _ _))
        | (go_at_call 149; refine grow_of (validPackage_c (nth l k).pkg _ (by omega)))
        | (go_at_call 150; refine grow_of (dirAt_s l _ n n c B (nth l k).root (nth l k).pkg _ (hD2.mono (X.fr (by (repeat (first | exact X.refl _ | assumption | refine X.ext ?_ _ | refine X.alloc ?_ _ | refine X.drew ?_))) _)) (Nat.le_refl _)))))))
      refine wpQuiet_nil ?_
      rintro _ ⟨y, rfl⟩
      go_wp2
      go_roundw
      case rel => exact ⟨k + 1, by omega, by go_num, allN_next hall (by rw [Hd.out]; simp [*]), hXw.trans (by (repeat (first | exact X.refl _ | assumption | refine X.ext ?_ _ | refine X.alloc ?_ _ | refine X.drew ?_)))⟩
      case measure => simp [intOf]; omega
    · obtain rfl : k = n := by omega
      go_wp2
      go_ret
      exact ⟨ret_bool (by rw [dirsB, ← Hl.out, hall, Bool.true_and]; exact decide_eq_decide.2 (by omega)), hX⟩

set_option maxRecDepth 100000 in
set_option maxHeartbeats 2000000 in
theorem validDisk_c (l : List Fi) (a : Option Addr) (n c : Nat) (kk : Int) (dl : List Di) (da : Option Addr) (dn dc B : Nat) (w : World) (hF : FilesAt w B a n l) (hD : DirsAt w B da dn dl) :
    Calls Tryz.prog 39 #[.agg #[.slice a n c, .int .i64 kk, .slice da dn dc]] w fun e w' => e = .returned (.bool (diskB l kk dl)) ∧ X w w' := by
  obtain ⟨hl, hn⟩ := hD.len
  have Hl := Lib.hid hl
  clear hl
  have Hlaw := Lib.hid (@disk_law l kk dl)
  go_enter Tryz.func39, Tryz.ntmps39
  go_wp2
  refine wp_name (fun W0 hW0 => ?_)
  have hB0 : Bx W0 w.heap.size #[.slice a n c, .int .i64 kk, .slice da dn dc] := by rw [hW0]; exact Bx.new _ _ _
  have hX0 : X w W0 := by rw [hW0]; (repeat (first | with_reducible exact X.refl _ | with_reducible assumption | with_reducible refine X.setCell ?_ (by first | (simp; done) | (simp; omega)) _ | with_reducible refine X.ext ?_ _ | with_reducible refine X.alloc ?_ _ | with_reducible refine X.drew ?_))
  clear hW0
  obtain ⟨lb, cb, _⟩ := hB0.out
  have e0 := cb 0
  have e1 := cb 1
  have e2 := cb 2
  clear cb
  go_loopw [3] (fun i wr => ∃ k : Nat, k ≤ dn ∧ i = .int .i64 k ∧ allN (fun k => decide ((nth dl k).stamp ≤ kk) && decide (((nth dl k).names.length : Int) ≤ 0)) k = true ∧ ∃ x, wr = World.ext W0 x) (fun i _ => dn - (intOf i).toNat)
  case atStart => exact ⟨0, by omega, rfl, rfl, X.refl _⟩
  case round =>
    obtain ⟨k, hk, rfl, hall, x, rfl⟩ := hrel
    by_cases hlt : k < dn
    · obtain ⟨b, off, ba, bn, bc, rfl, _, hb, _, _, hS, g0, g1, g2, g3⟩ := (hD.mono (hX0.fr _)).at_ (k := k) hlt
      have hbn := hS.1
      have hbl := hS.2.1
      have Hbn := Lib.hid hbn
      clear hbn
      have Hno := Lib.hid (@disk_no l kk dl k (by rw [← Hl.out]; exact hlt))
      by_cases q1 : kk < (nth dl k).stamp
      · go_wp2
        refine wp_region_grow (by kernel_rfl) (by kernel_rfl) ?_
        repeat (go_big_quiet_step ((fail)))
        refine wpQuiet_nil ?_
        rintro _ ⟨y, rfl⟩
        go_wp2
        go_ret
        exact ⟨ret_bool (Hno.out (by rw [decide_eq_false (by omega)]; rfl)).symm, hX0.trans (by (repeat (first | exact X.refl _ | assumption | refine X.ext ?_ _ | refine X.alloc ?_ _ | refine X.drew ?_)))⟩
      have q1b : decide (kk < (nth dl k).stamp) = false := by rw [decide_eq_false_iff_not]; exact q1
      by_cases q2 : (0 : Int) < (bn : Int)
      · go_wp2
        refine wp_region_grow (by kernel_rfl) (by kernel_rfl) ?_
        repeat (go_big_quiet_step ((fail)))
        refine wpQuiet_nil ?_
        rintro _ ⟨y, rfl⟩
        go_wp2
        go_ret
        exact ⟨ret_bool (Hno.out (by rw [← Hbn.out, decide_eq_false (p := (bn : Int) ≤ 0) (by omega), Bool.and_false])).symm, hX0.trans (by (repeat (first | exact X.refl _ | assumption | refine X.ext ?_ _ | refine X.alloc ?_ _ | refine X.drew ?_)))⟩
      go_wp2
      refine wp_region_grow (by kernel_rfl) (by kernel_rfl) ?_
      repeat (go_big_quiet_step ((fail)))
      refine wpQuiet_nil ?_
      rintro _ ⟨y, rfl⟩
      go_wp2
      go_roundw
      case rel => exact ⟨k + 1, by omega, by go_num, allN_next hall (by rw [← Hbn.out, decide_eq_true (p := (nth dl k).stamp ≤ kk) (by omega), decide_eq_true (p := (bn : Int) ≤ 0) (by omega)]; rfl), _, rfl⟩
      case measure => simp [intOf]; omega
    · obtain rfl : k = dn := by omega
      have Hall := Lib.hid (Hlaw.out (by rw [← Hl.out]; exact hall))
      clear hall
      cases h1 : treeB l <;> cases h2 : rangeB kk 0 200
      all_goals
        go_wp2_with (first
          | (go_at_call 93; refine (validTree_c l a n c B _ (hF.mono (X.fr (hX0.trans (by (repeat (first | exact X.refl _ | assumption | refine X.ext ?_ _ | refine X.alloc ?_ _ | refine X.drew ?_)))) _))).mono ?_; rintro _ w3 ⟨rfl, hx3⟩; rw [h1]; replace hx3 := X.trans (a := W0) (by (repeat (first | exact X.refl _ | assumption | refine X.ext ?_ _ | refine X.alloc ?_ _ | refine X.drew ?_))) hx3; obtain ⟨z3, rfl⟩ := hx3)
          | (go_at_call 40; refine (inRange_c kk 0 200 _).mono ?_; rintro _ _ ⟨rfl, rfl⟩; rw [h2])
          | (go_at_call 94; refine (validDirs_c dl da k dc B _ (hD.mono (X.fr (hX0.trans (by (repeat (first | exact X.refl _ | assumption | refine X.ext ?_ _ | refine X.alloc ?_ _ | refine X.drew ?_)))) _))).mono ?_; rintro _ w4 ⟨rfl, hx4⟩; replace hx4 := X.trans (a := W0) (by (repeat (first | exact X.refl _ | assumption | refine X.ext ?_ _ | refine X.alloc ?_ _ | refine X.drew ?_))) hx4; obtain ⟨z4, rfl⟩ := hx4))
        all_goals go_ret
        all_goals exact ⟨ret_bool (by rw [← Hall.out]; simp [h1, h2]), hX0.trans (by (repeat (first | exact X.refl _ | assumption | refine X.ext ?_ _ | refine X.alloc ?_ _ | refine X.drew ?_)))⟩

end Go.Proofs.YtgjfjjhmgbemcaaGreatDoor
