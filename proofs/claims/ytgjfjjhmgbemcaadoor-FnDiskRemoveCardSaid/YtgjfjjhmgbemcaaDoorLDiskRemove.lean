/- The walk of the law FnDiskRemove. -/
import Derived.Test.YtgjfjjhmgbemcaaDoorDrawDkR
import Derived.Test.YtgjfjjhmgbemcaaDoorEqDk
import Derived.Deep.RegionHeld3
namespace Go.Proofs.YtgjfjjhmgbemcaaDoor
open Go.RowKit

theorem cells3 {W : World} {b : Nat} {d0 d1 d2 : Value} (hD : Bx W b #[d0, d1, d2]) : b < W.heap.size ∧ W.cell? ⟨b, 0, none⟩ = some d0 ∧ W.cell? ⟨b, 1, none⟩ = some d1 ∧ W.cell? ⟨b, 2, none⟩ = some d2 := by
  obtain ⟨l, c, _⟩ := hD.out
  exact ⟨l, c 0, c 1, c 2⟩
theorem tree_file {l : List Fi} (h : treeB l = true) {k : Nat} (hk : k < l.length) : fileB (nth l k) = true := by
  unfold treeB at h
  simp only [Bool.and_eq_true] at h
  have h1 := (allN_iff.1 h.1) k hk
  simp only [Bool.and_eq_true] at h1
  exact h1.1
theorem file_root {f : Fi} (h : fileB f = true) : rangeB f.root 0 2 = true := by
  unfold fileB at h
  simp only [Bool.and_eq_true] at h
  simp [h]
/-- What a removal leaves: the stamps of the file's directory and of the root. -/
theorem rem_law {l : List Fi} {kk : Int} {dl : List Di} {i t : Int} (h : drB l kk dl i t = true) :
    remB l i = true ∧ drL l kk dl i t = remL l i ∧ stampB (drL l kk dl i t) (drK l kk dl i t) (drD l kk dl i t) (nth l i.toNat).root (nth l i.toNat).pkg = drK l kk dl i t ∧
      stampB (drL l kk dl i t) (drK l kk dl i t) (drD l kk dl i t) (nth l i.toNat).root [] = drK l kk dl i t ∧ diskB (drL l kk dl i t) (drK l kk dl i t) (drD l kk dl i t) = true ∧ pkgB (nth l i.toNat).pkg = true := by
  have hd := dr_disk h
  have e1 : drL l kk dl i t = remL l i := if_pos h
  have e2 : drK l kk dl i t = kk + t := if_pos h
  have e3 : drD l kk dl i t = chD dl (nth l i.toNat).root (nth l i.toNat).pkg (kk + t) := if_pos h
  have h' := h
  unfold drB at h'
  simp only [Bool.and_eq_true] at h'
  obtain ⟨⟨⟨h1, h2⟩, h3⟩, h4⟩ := h'
  obtain ⟨k, hik, hk0⟩ := rem_in h3
  have hk : i.toNat < l.length := by omega
  have htr := (disk_parts h1).1
  have hp := tree_pkg htr hk
  have hr := file_root (tree_file htr hk)
  rw [e1, e2, e3] at hd ⊢
  refine ⟨h3, rfl, ?_, ?_, hd, hp⟩
  · rw [ch_stamp h1 h4 hr hp]
    rw [if_pos (touch_self hp)]
  · rw [ch_stamp h1 h4 hr (q := []) (by decide)]
    rw [if_pos (touch_nil _ _)]

set_option maxRecDepth 100000 in
set_option maxHeartbeats 4000000 in
theorem FnDiskRemove_c (ca : Option Addr) (cn cc : Nat) (w : World) (hC : CodeAt w ca cn cc) (hG : Gm w) :
    Calls Tryd.prog 3 #[.slice ca cn cc] w fun e w' => e = .returned (.bool true) ∧ X w w' := by
  by_cases hbig : 1048576 < cn
  · go_enter Tryd.func3, Tryd.ntmps3
    go_wp2
    go_ret
    exact ⟨by simp, by (repeat (first | exact X.refl _ | assumption | refine X.ext ?_ _ | refine X.alloc ?_ _ | refine X.drew ?_))⟩
  · go_enter Tryd.func3, Tryd.ntmps3
    go_wp2_with fail
    refine (DrawDiskRemove_c ca cn cc _ hC (by omega)).mono ?_
    rintro _ W1 ⟨l, a, n, c, kk, dl, da, dn, dc, i, t, rfl, hF, hnc, hn12, hD, hdc, hdn, hx1⟩
    go_wp2_with fail
    refine calls_name (fun W2 hW2 => ?_)
    have hB2 : Bx W2 W1.heap.size #[.slice a n c, .int .i64 kk, .slice da dn dc] := by rw [hW2]; first | exact Bx.new _ _ _ | exact Bx.set (Bx.set (Bx.set (Bx.new _ _ _) 0 _) 1 _) 2 _
    have hx2 : X W1 W2 := by rw [hW2]; (repeat (first | with_reducible exact X.refl _ | with_reducible assumption | with_reducible refine X.setCell ?_ (by first | (simp; done) | (simp; omega)) _ | with_reducible refine X.ext ?_ _ | with_reducible refine X.alloc ?_ _ | with_reducible refine X.drew ?_))
    clear hW2
    have hxw := hx1.trans hx2
    replace hF := hF.mono (hx2.fr _)
    replace hD := hD.mono (hx2.fr _)
    replace hG := hG.mono hxw
    clear hx1 hx2
    have hda := dr_ok (kk := kk) (i := i) (t := t) hF.okL hD.okD
    refine (DiskRemove_i l a n c kk dl da dn dc _ i t W2 hF hD hnc hdc hG).mono ?_
    rintro _ w3 ⟨_, rfl, ⟨a5, c5, da5, dc5, E5, rfl, k1, k2, k3, k4⟩, hx3⟩
    have hA5 := k3.o.at hda.1
    have hP5 := k4.at hda.2
    have hc5 := anv_cap k3.o
    have hd5 := anv_capD k4
    replace hB2 := hB2.x hx3
    replace hxw := hxw.trans hx3
    replace hF := hF.mono (hx3.fr _)
    replace hD := hD.mono (hx3.fr _)
    replace hG := hG.mono hx3
    clear k1 k2 k3 k4 hx3
    obtain ⟨lt0, t0, t1, t2⟩ := cells3 hB2
    go_wp2_with fail
    refine calls_name (fun W4 hW4 => ?_)
    have hB4 : Bx W4 w3.heap.size #[.slice a5 (drL l kk dl i t).length c5, .int .i64 (drK l kk dl i t), .slice da5 (drD l kk dl i t).length dc5] := by rw [hW4]; first | exact Bx.new _ _ _ | exact Bx.set (Bx.set (Bx.set (Bx.new _ _ _) 0 _) 1 _) 2 _
    have hx4 : X w3 W4 := by rw [hW4]; (repeat (first | with_reducible exact X.refl _ | with_reducible assumption | with_reducible refine X.setCell ?_ (by first | (simp; done) | (simp; omega)) _ | with_reducible refine X.ext ?_ _ | with_reducible refine X.alloc ?_ _ | with_reducible refine X.drew ?_))
    clear hW4 lt0 t0 t1 t2
    replace hB2 := hB2.x hx4
    replace hxw := hxw.trans hx4
    replace hF := hF.mono (hx4.fr _)
    replace hD := hD.mono (hx4.fr _)
    replace hA5 := hA5.mono (hx4.fr _)
    replace hP5 := hP5.mono (hx4.fr _)
    replace hG := hG.mono hx4
    clear hx4
    refine (DiskRemove_s l a n c kk dl da dn dc _ i t W4 hF hD).mono ?_
    rintro _ w5 ⟨_, rfl, ⟨a6, c6, da6, dc6, E6, rfl, k1, k2, k3, k4⟩, hx5⟩
    have hA6 := k3.o.at hda.1
    have hP6 := k4.at hda.2
    replace hB2 := hB2.x hx5
    replace hB4 := hB4.x hx5
    replace hxw := hxw.trans hx5
    replace hF := hF.mono (hx5.fr _)
    replace hD := hD.mono (hx5.fr _)
    replace hA5 := hA5.mono (hx5.fr _)
    replace hP5 := hP5.mono (hx5.fr _)
    replace hG := hG.mono hx5
    clear k1 k2 k3 k4 hx5
    obtain ⟨lt1, u0, u1, u2⟩ := cells3 hB4
    go_wp2_with fail
    refine calls_name (fun W6 hW6 => ?_)
    have hB6 : Bx W6 w5.heap.size #[.slice a6 (drL l kk dl i t).length c6, .int .i64 (drK l kk dl i t), .slice da6 (drD l kk dl i t).length dc6] := by rw [hW6]; first | exact Bx.new _ _ _ | exact Bx.set (Bx.set (Bx.set (Bx.new _ _ _) 0 _) 1 _) 2 _
    have hx6 : X w5 W6 := by rw [hW6]; (repeat (first | with_reducible exact X.refl _ | with_reducible assumption | with_reducible refine X.setCell ?_ (by first | (simp; done) | (simp; omega)) _ | with_reducible refine X.ext ?_ _ | with_reducible refine X.alloc ?_ _ | with_reducible refine X.drew ?_))
    clear hW6 lt1 u0 u1 u2
    replace hB2 := hB2.x hx6
    replace hB4 := hB4.x hx6
    replace hxw := hxw.trans hx6
    replace hF := hF.mono (hx6.fr _)
    replace hD := hD.mono (hx6.fr _)
    replace hA5 := hA5.mono (hx6.fr _)
    replace hP5 := hP5.mono (hx6.fr _)
    replace hA6 := hA6.mono (hx6.fr _)
    replace hP6 := hP6.mono (hx6.fr _)
    replace hG := hG.mono hx6
    clear hx6
    refine (equalDisk_c (drL l kk dl i t) (drK l kk dl i t) (drD l kk dl i t) a5 a6 da5 da6 _ c5 c6 _ dc5 dc6 _ _ _ _ W6 hA5 hA6 hP5 hP6).mono ?_
    rintro _ w7 ⟨rfl, hx7⟩
    replace hB2 := hB2.x hx7
    replace hB4 := hB4.x hx7
    replace hB6 := hB6.x hx7
    replace hxw := hxw.trans hx7
    replace hF := hF.mono (hx7.fr _)
    replace hD := hD.mono (hx7.fr _)
    replace hA5 := hA5.mono (hx7.fr _)
    replace hP5 := hP5.mono (hx7.fr _)
    replace hA6 := hA6.mono (hx7.fr _)
    replace hP6 := hP6.mono (hx7.fr _)
    replace hG := hG.mono hx7
    clear hx7
    cases hb : drB l kk dl i t
    · obtain ⟨lt1, u0, u1, u2⟩ := cells3 hB4
      obtain ⟨lt2, v0, v1, v2⟩ := cells3 hB6
      go_wp2_with fail
      refine (equalDisk_c (drL l kk dl i t) (drK l kk dl i t) (drD l kk dl i t) a5 a6 da5 da6 _ c5 c6 _ dc5 dc6 _ _ _ _ w7 hA5 hA6 hP5 hP6).mono ?_
      rintro _ w8 ⟨rfl, hx8⟩
      go_wp2
      go_ret
      exact ⟨rfl, hxw.trans hx8⟩
    clear hA6 hP6 hB6
    obtain ⟨h1, h2, h3, h4, h5, h6⟩ := rem_law hb
    obtain ⟨k, rfl, hkl⟩ := rem_in h1
    have h3' : stampB (drL l kk dl (k : Int) t) (drK l kk dl (k : Int) t) (drD l kk dl (k : Int) t) (nth l k).root (nth l k).pkg = drK l kk dl (k : Int) t := h3
    have h4' : stampB (drL l kk dl (k : Int) t) (drK l kk dl (k : Int) t) (drD l kk dl (k : Int) t) (nth l k).root [] = drK l kk dl (k : Int) t := h4
    have h6' : pkgB (nth l k).pkg = true := h6
    clear h3 h4 h6
    have hkn : k < n := by have := hF.len.1; omega
    obtain ⟨b, off, ba, bn, bc, rfl, hpl, hbl, hpk, hbc, hSb, g0, g1, g2, g3, g4, g5⟩ := hF.at_ hkn
    have hkn1 : (k : Int) < (n : Int) := by omega
    have hpq := hpk.1
    obtain ⟨lt0, t0, t1, t2⟩ := cells3 hB2
    go_wp2_with fail
    refine calls_name (fun W8 hW8 => ?_)
    have hB8 : Bx W8 w7.heap.size #[.int .i64 (nth l k).root, .string ⟨((nth l k).pkg).toArray⟩, .string ⟨((nth l k).name).toArray⟩, .bool (nth l k).init, .int .i64 (nth l k).stamp, .slice ba bn bc] := by rw [hW8]; first | exact Bx.new _ _ _ | exact Bx.set (Bx.set (Bx.set (Bx.set (Bx.set (Bx.set (Bx.new _ _ _) 0 _) 1 _) 2 _) 3 _) 4 _) 5 _
    have hx8 : X w7 W8 := by rw [hW8]; (repeat (first | with_reducible exact X.refl _ | with_reducible assumption | with_reducible refine X.setCell ?_ (by first | (simp; done) | (simp; omega)) _ | with_reducible refine X.ext ?_ _ | with_reducible refine X.alloc ?_ _ | with_reducible refine X.drew ?_))
    clear hW8 lt0 t0 t1 t2 g0 g1 g2 g3 g4 g5
    replace hB4 := hB4.x hx8
    replace hxw := hxw.trans hx8
    replace hF := hF.mono (hx8.fr _)
    replace hA5 := hA5.mono (hx8.fr _)
    replace hP5 := hP5.mono (hx8.fr _)
    replace hG := hG.mono hx8
    clear hx8
    refine (RemoveFile_i l (some ⟨b, off, none⟩) n c _ (k : Int) W8 hF hnc hG).mono ?_
    rintro _ w9 ⟨ra, rc, rfl, hO9, hx9⟩
    have hA9 := hO9.at (hF.okL.sublist (rem_sub l (k : Int)))
    replace hB4 := hB4.x hx9
    replace hB8 := hB8.x hx9
    replace hxw := hxw.trans hx9
    replace hA5 := hA5.mono (hx9.fr _)
    replace hP5 := hP5.mono (hx9.fr _)
    replace hG := hG.mono hx9
    clear hx9 hO9
    rw [h1]
    go_upto_region 10 with fail
    refine wp_name (fun W10 hW10 => ?_)
    have hB10 : Bx W10 w9.heap.size #[.slice ra (remL l (k : Int)).length rc] := by rw [hW10]; first | exact Bx.new _ _ _ | exact Bx.set (Bx.new _ _ _) 0 _
    have hx10 : X w9 W10 := by rw [hW10]; (repeat (first | with_reducible exact X.refl _ | with_reducible assumption | with_reducible refine X.setCell ?_ (by first | (simp; done) | (simp; omega)) _ | with_reducible refine X.ext ?_ _ | with_reducible refine X.alloc ?_ _ | with_reducible refine X.drew ?_))
    clear hW10
    replace hB4 := hB4.x hx10
    replace hB8 := hB8.x hx10
    replace hxw := hxw.trans hx10
    replace hA5 := hA5.mono (hx10.fr _)
    replace hP5 := hP5.mono (hx10.fr _)
    replace hA9 := hA9.mono (hx10.fr _)
    replace hG := hG.mono hx10
    clear hx10
    generalize drK l kk dl (k : Int) t = K at *
    generalize drD l kk dl (k : Int) t = D at *
    rw [h2] at hA5 hB4 h3' h4' h5 hc5
    clear h2 hb hda
    generalize (nth l k).root = r at *
    generalize (nth l k).pkg = q at *
    have c1 : ∀ W', X W10 W' → Calls Tryd.prog 12 #[.agg #[.slice a5 (remL l (k : Int)).length c5, .int .i64 K, .slice da5 D.length dc5], .int .i64 r, .string ⟨(q).toArray⟩] W' fun e w' => e = .returned (.int .i64 K) ∧ X W' w' := fun W' hx => by
      have := StampOf_i (remL l (k : Int)) a5 _ c5 K D da5 _ dc5 0 r q W' ((hA5.mono (hx.fr _)).less (Nat.zero_le _)) hc5 ((hP5.mono (hx.fr _)).less (Nat.zero_le _)) hd5 (by omega) (hG.mono hx)
      rwa [h3'] at this
    have c2 : ∀ W', X W10 W' → Calls Tryd.prog 12 #[.agg #[.slice a5 (remL l (k : Int)).length c5, .int .i64 K, .slice da5 D.length dc5], .int .i64 r, .string ⟨#[]⟩] W' fun e w' => e = .returned (.int .i64 K) ∧ X W' w' := fun W' hx => by
      have := StampOf_i (remL l (k : Int)) a5 _ c5 K D da5 _ dc5 0 r [] W' ((hA5.mono (hx.fr _)).less (Nat.zero_le _)) hc5 ((hP5.mono (hx.fr _)).less (Nat.zero_le _)) hd5 (by simp) (hG.mono hx)
      rwa [h4'] at this
    have c3 : ∀ W', X W10 W' → Calls Tryd.prog 13 #[.agg #[.slice a5 (remL l (k : Int)).length c5, .int .i64 K, .slice da5 D.length dc5]] W' fun e w' => e = .returned (.bool true) ∧ X W' w' := fun W' hx => by
      have := ValidDisk_i (remL l (k : Int)) a5 _ c5 K D da5 _ dc5 0 W' ((hA5.mono (hx.fr _)).less (Nat.zero_le _)) hc5 ((hP5.mono (hx.fr _)).less (Nat.zero_le _)) hd5 (hG.mono hx)
      rwa [h5] at this
    have c4 : ∀ W', X W10 W' → Calls Tryd.prog 11 #[.agg #[.slice a5 (remL l (k : Int)).length c5], .agg #[.slice ra (remL l (k : Int)).length rc]] W' fun e w' => e = .returned (.bool true) ∧ X W' w' := fun W' hx => by
      have := equalTree_c (remL l (k : Int)) (remL l (k : Int)) a5 ra _ _ c5 rc _ _ W' (hA5.mono (hx.fr _)) (hA9.mono (hx.fr _))
      rwa [decide_eq_true (rfl : remL l (k : Int) = remL l (k : Int))] at this
    obtain ⟨lt1, u0, u1, u2⟩ := cells3 hB4
    obtain ⟨lt2, q2, _⟩ := hB8.out
    have f0 := q2 0
    have f1 := q2 1
    obtain ⟨lt3, q3, _⟩ := hB10.out
    have t0 := q3 0
    clear q2 q3 hF hA5 hP5 hA9 hB4 hB8 hB10 h3' h4' h5
    go_wp2
    refine wp_region_grow0 (by kernel_rfl) (by kernel_rfl) ?_
    repeat (go_big_quiet_step (((first | (go_at_call 11; refine grow_of (c4 _ (by (repeat (first | exact X.refl _ | assumption | refine X.ext ?_ _ | refine X.alloc ?_ _ | refine X.drew ?_))))) | (go_at_call_of 12 q; refine grow_of (c1 _ (by (repeat (first | exact X.refl _ | assumption | refine X.ext ?_ _ | refine X.alloc ?_ _ | refine X.drew ?_))))) | (go_at_call 12; refine grow_of (c2 _ (by (repeat (first | exact X.refl _ | assumption | refine X.ext ?_ _ | refine X.alloc ?_ _ | refine X.drew ?_))))) | (go_at_call 13; refine grow_of (c3 _ (by (repeat (first | exact X.refl _ | assumption | refine X.ext ?_ _ | refine X.alloc ?_ _ | refine X.drew ?_)))))))))
    refine wpQuiet_nil ?_
    rintro _ ⟨y, rfl⟩
    go_wp2
    go_ret
    exact ⟨rfl, hxw.trans (by (repeat (first | exact X.refl _ | assumption | refine X.ext ?_ _ | refine X.alloc ?_ _ | refine X.drew ?_)))⟩

end Go.Proofs.YtgjfjjhmgbemcaaDoor
