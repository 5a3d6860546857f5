/- The walk of the law FnDiskAdd. -/
import Derived.Test.YtgjfjjhmgbemcaaGreatDoorDrawDkA
import Derived.Test.YtgjfjjhmgbemcaaGreatDoorEqDk
import Derived.Test.YtgjfjjhmgbemcaaGreatDoorPackW
import Derived.Deep.RegionHeld3
import Derived.Deep.CutRange
namespace Go.Proofs.YtgjfjjhmgbemcaaGreatDoor
open Go.RowKit

theorem cellsA3 {W : World} {b : Nat} {d0 d1 d2 : Value} (hD : Bx W b #[d0, d1, d2]) : b < W.heap.size ∧ W.cell? ⟨b, 0, none⟩ = some d0 ∧ W.cell? ⟨b, 1, none⟩ = some d1 ∧ W.cell? ⟨b, 2, none⟩ = some d2 := by
  obtain ⟨l, c, _⟩ := hD.out
  exact ⟨l, c 0, c 1, c 2⟩
theorem cellsA6 {W : World} {b : Nat} {d0 d1 d2 d3 d4 d5 : Value} (hD : Bx W b #[d0, d1, d2, d3, d4, d5]) : b < W.heap.size ∧ W.cell? ⟨b, 0, none⟩ = some d0 ∧ W.cell? ⟨b, 1, none⟩ = some d1 ∧ W.cell? ⟨b, 2, none⟩ = some d2 ∧ W.cell? ⟨b, 3, none⟩ = some d3 ∧ W.cell? ⟨b, 4, none⟩ = some d4 ∧ W.cell? ⟨b, 5, none⟩ = some d5 := by
  obtain ⟨l, c, _⟩ := hD.out
  exact ⟨l, c 0, c 1, c 2, c 3, c 4, c 5⟩
/-- What an addition leaves: the stamps. -/
theorem dadd_law {l : List Fi} {kk : Int} {dl : List Di} {f : Fi} {t : Int} (h : daB l kk dl f t = true) :
    (daL l kk dl f t).length = l.length + 1 ∧ daK l kk dl f t = kk + t ∧ diskB (daL l kk dl f t) (daK l kk dl f t) (daD l kk dl f t) = true ∧ rangeB kk 0 200 = true ∧ rangeB t 0 200 = true ∧
      ∀ r q, rangeB r 0 2 = true → pkgB q = true → stampB (daL l kk dl f t) (daK l kk dl f t) (daD l kk dl f t) r q = if touchB f.root f.pkg r q = true then daK l kk dl f t else stampB l kk dl r q := by
  have hd := da_disk h
  have e1 : daL l kk dl f t = addL l f := if_pos h
  have e2 : daK l kk dl f t = kk + t := if_pos h
  have e3 : daD l kk dl f t = chD dl f.root f.pkg (kk + t) := if_pos h
  have h' := h
  unfold daB at h'
  simp only [Bool.and_eq_true] at h'
  obtain ⟨⟨⟨h1, h2⟩, h3⟩, h4⟩ := h'
  rw [e1, e2, e3] at hd ⊢
  refine ⟨by rw [addL, if_pos h3, List.length_append, List.length_singleton], rfl, hd, (disk_parts h1).2.1, h2, fun r q hr hq => ch_stamp h1 h4 hr hq⟩
theorem list_pkg {L : List Fi} (h : treeB L = true) {q : List UInt8} (hq : q ∈ [] :: packsL L) : pkgB q = true ∧ q.length ≤ 12 := by
  rcases List.mem_cons.1 hq with rfl | hq
  · exact ⟨by decide, by simp⟩
  · refine ⟨?_, packsL_short q hq⟩
    obtain ⟨f, _, hf⟩ := (mem_packsL h).1 hq
    rcases mem_pathsL.1 (List.mem_cons_of_mem _ hf : q ∈ pathsL f.pkg) with rfl | ⟨_, _, hp, _⟩
    · decide
    · exact hp
theorem touch_cases (r p r' q) : (touchB r p r' q) = (r' == r && (q == [] || (p != [] && isUnder p q))) := rfl

set_option maxRecDepth 100000 in
set_option maxHeartbeats 8000000 in
theorem FnDiskAdd_c (ca : Option Addr) (cn cc : Nat) (w : World) (hC : CodeAt w ca cn cc) (hG : Gm w) :
    Calls Tryz.prog 6 #[.slice ca cn cc] w fun e w' => e = .returned (.bool true) ∧ X w w' := by
  by_cases hbig : 1048576 < cn
  · go_enter Tryz.func6, Tryz.ntmps6
    go_wp2
    go_ret
    exact ⟨by simp, by (repeat (first | exact X.refl _ | assumption | refine X.ext ?_ _ | refine X.alloc ?_ _ | refine X.drew ?_))⟩
  · go_enter Tryz.func6, Tryz.ntmps6
    go_wp2_with fail
    refine (DrawDiskAdd_c ca cn cc _ hC (by omega)).mono ?_
    rintro _ W1 ⟨l, a, n, c, kk, dl, da, dn, dc, f, ba, bn, bc, t, rfl, hF, hnc, hn12, hD, hdc, hdn, hok, hS, hbc, hbn, hx1⟩
    go_wp2_with fail
    refine calls_name (fun W2 hW2 => ?_)
    obtain ⟨hB2, hE2, hx2⟩ := bx2 hW2
    clear hW2
    have hxw := hx1.trans hx2
    replace hF := hF.mono (hx2.fr _)
    replace hD := hD.mono (hx2.fr _)
    replace hS := hS.mono (hx2.fr _)
    replace hG := hG.mono hxw
    clear hx1 hx2
    have hda := da_ok (kk := kk) (f := f) (t := t) (bn := bn) hF.okL (by have := hF.len.1; omega) hok hS.1 (by omega) hS.2.2.1 hD.okD
    refine (DiskAdd_i l a n c kk dl da dn dc _ f ba bn bc _ t W2 hF hD (by omega) hok hS hnc hdc hG).mono ?_
    rintro _ w3 ⟨_, rfl, ⟨a5, c5, da5, dc5, E5, rfl, k1, k2, k3, k4⟩, hx3⟩
    have hA5 := k3.o.at hda.1
    have hP5 := k4.at hda.2
    have hc5 := ana_cap k3.o
    have hd5 := ana_capD k4
    replace hB2 := hB2.x hx3
    replace hE2 := hE2.x hx3
    replace hS := hS.mono (hx3.fr _)
    replace hxw := hxw.trans hx3
    replace hF := hF.mono (hx3.fr _)
    replace hD := hD.mono (hx3.fr _)
    replace hG := hG.mono hx3
    clear k1 k2 k3 k4 hx3
    obtain ⟨lt0, t0, t1, t2⟩ := cellsA3 hB2
    obtain ⟨ltf, f0, f1, f2, f3, f4, f5⟩ := cellsA6 hE2
    go_wp2_with fail
    refine calls_name (fun W4 hW4 => ?_)
    have hB4 : Bx W4 w3.heap.size #[.slice a5 (daL l kk dl f t).length c5, .int .i64 (daK l kk dl f t), .slice da5 (daD l kk dl f t).length dc5] := by rw [hW4]; first | exact Bx.new _ _ _ | exact Bx.set (Bx.set (Bx.set (Bx.new _ _ _) 0 _) 1 _) 2 _
    have hx4 : X w3 W4 := by rw [hW4]; (repeat (first | with_reducible exact X.refl _ | with_reducible assumption | with_reducible refine X.setCell ?_ (by first | (simp; done) | (simp; omega)) _ | with_reducible refine X.ext ?_ _ | with_reducible refine X.alloc ?_ _ | with_reducible refine X.drew ?_))
    clear hW4 lt0 t0 t1 t2 ltf f0 f1 f2 f3 f4 f5
    replace hB2 := hB2.x hx4
    replace hE2 := hE2.x hx4
    replace hS := hS.mono (hx4.fr _)
    replace hxw := hxw.trans hx4
    replace hF := hF.mono (hx4.fr _)
    replace hD := hD.mono (hx4.fr _)
    replace hA5 := hA5.mono (hx4.fr _)
    replace hP5 := hP5.mono (hx4.fr _)
    replace hG := hG.mono hx4
    clear hx4
    refine (DiskAdd_s l a n c kk dl da dn dc _ f ba bn bc _ t W4 hF hD (by omega) hok hS).mono ?_
    rintro _ w5 ⟨_, rfl, ⟨a6, c6, da6, dc6, E6, rfl, k1, k2, k3, k4⟩, hx5⟩
    have hA6 := k3.o.at hda.1
    have hP6 := k4.at hda.2
    replace hB2 := hB2.x hx5
    replace hE2 := hE2.x hx5
    replace hS := hS.mono (hx5.fr _)
    replace hB4 := hB4.x hx5
    replace hxw := hxw.trans hx5
    replace hF := hF.mono (hx5.fr _)
    replace hD := hD.mono (hx5.fr _)
    replace hA5 := hA5.mono (hx5.fr _)
    replace hP5 := hP5.mono (hx5.fr _)
    replace hG := hG.mono hx5
    clear k1 k2 k3 k4 hx5
    obtain ⟨lt1, u0, u1, u2⟩ := cellsA3 hB4
    go_wp2_with fail
    refine calls_name (fun W6 hW6 => ?_)
    have hB6 : Bx W6 w5.heap.size #[.slice a6 (daL l kk dl f t).length c6, .int .i64 (daK l kk dl f t), .slice da6 (daD l kk dl f t).length dc6] := by rw [hW6]; first | exact Bx.new _ _ _ | exact Bx.set (Bx.set (Bx.set (Bx.new _ _ _) 0 _) 1 _) 2 _
    have hx6 : X w5 W6 := by rw [hW6]; (repeat (first | with_reducible exact X.refl _ | with_reducible assumption | with_reducible refine X.setCell ?_ (by first | (simp; done) | (simp; omega)) _ | with_reducible refine X.ext ?_ _ | with_reducible refine X.alloc ?_ _ | with_reducible refine X.drew ?_))
    clear hW6 lt1 u0 u1 u2
    replace hB2 := hB2.x hx6
    replace hE2 := hE2.x hx6
    replace hS := hS.mono (hx6.fr _)
    replace hB4 := hB4.x hx6
    replace hxw := hxw.trans hx6
    replace hF := hF.mono (hx6.fr _)
    replace hD := hD.mono (hx6.fr _)
    replace hA5 := hA5.mono (hx6.fr _)
    replace hP5 := hP5.mono (hx6.fr _)
    replace hA6 := hA6.mono (hx6.fr _)
    replace hP6 := hP6.mono (hx6.fr _)
    replace hG := hG.mono hx6
    clear hx6
    refine (equalDisk_c (daL l kk dl f t) (daK l kk dl f t) (daD l kk dl f t) a5 a6 da5 da6 _ c5 c6 _ dc5 dc6 _ _ _ _ W6 hA5 hA6 hP5 hP6).mono ?_
    rintro _ w7 ⟨rfl, hx7⟩
    replace hB2 := hB2.x hx7
    replace hE2 := hE2.x hx7
    replace hS := hS.mono (hx7.fr _)
    replace hB4 := hB4.x hx7
    replace hB6 := hB6.x hx7
    replace hxw := hxw.trans hx7
    replace hF := hF.mono (hx7.fr _)
    replace hD := hD.mono (hx7.fr _)
    replace hA5 := hA5.mono (hx7.fr _)
    replace hP5 := hP5.mono (hx7.fr _)
    replace hA6 := hA6.mono (hx7.fr _)
    replace hP6 := hP6.mono (hx7.fr _)
    replace hG := hG.mono hx7
    clear hx7
    cases hb : daB l kk dl f t
    · obtain ⟨lt1, u0, u1, u2⟩ := cellsA3 hB4
      obtain ⟨lt2, v0, v1, v2⟩ := cellsA3 hB6
      go_wp2_with fail
      refine (equalDisk_c (daL l kk dl f t) (daK l kk dl f t) (daD l kk dl f t) a5 a6 da5 da6 _ c5 c6 _ dc5 dc6 _ _ _ _ w7 hA5 hA6 hP5 hP6).mono ?_
      rintro _ w8 ⟨rfl, hx8⟩
      go_wp2
      go_ret
      exact ⟨rfl, hxw.trans hx8⟩
    clear hA6 hP6 hB6 hS
    have H := Lib.hid (dadd_law hb)
    clear hda hb
    generalize daL l kk dl f t = L at *
    generalize daD l kk dl f t = D at *
    generalize daK l kk dl f t = K at *
    obtain ⟨lt1, u0, u1, u2⟩ := cellsA3 hB4
    go_wp2_with (first
      | (go_at_call 29; refine (PackagesOf_i L a5 _ c5 _ _ (hA5.mono (X.fr (by (repeat (first | with_reducible exact X.refl _ | with_reducible assumption | with_reducible refine X.setCell ?_ (by first | (simp; done) | (simp; omega)) _ | with_reducible refine X.ext ?_ _ | with_reducible refine X.alloc ?_ _ | with_reducible refine X.drew ?_))) _)) hc5 (hG.mono (by (repeat (first | with_reducible exact X.refl _ | with_reducible assumption | with_reducible refine X.setCell ?_ (by first | (simp; done) | (simp; omega)) _ | with_reducible refine X.ext ?_ _ | with_reducible refine X.alloc ?_ _ | with_reducible refine X.drew ?_))))).mono ?_; rintro _ w8 ⟨pa, pc, rfl, hOp, hx8⟩; have hX8 : X w7 w8 := X.trans (by (repeat (first | with_reducible exact X.refl _ | with_reducible assumption | with_reducible refine X.setCell ?_ (by first | (simp; done) | (simp; omega)) _ | with_reducible refine X.ext ?_ _ | with_reducible refine X.alloc ?_ _ | with_reducible refine X.drew ?_))) hx8; have hL8 := own_fr (own_lit (w := w7) (cs := #[.string ⟨#[]⟩]) (e := 9) (B := w7.heap.size) (g := w7.heap.size) (size := 1) (n := 1) rfl (Nat.le_refl _) rfl (by omega)) (hx8.fr _); have hpl := packsL_len (l := L))
      | (at_builtin; refine wpList_append_sl str_T rfl _ _ rfl hL8 rfl rfl (Sl.of_own hOp) (by rw [strs_eq, List.length_map, Nat.mul_one]) (strs_oneD _) (by omega) (by unfold maxLen; omega) (by have := hX8.size; omega) ?_; intro pa' pc' w9 hP9 hg9))
    have hX9 : X w7 w9 := X.of_below (hX8.below.grown hg9 hX8.size (fun k hk => by simp [Value.ownBlock] at hk; omega))
    obtain ⟨M, hMd⟩ : ∃ M, M = 1 + (packsL L).length := ⟨_, rfl⟩
    have htr : treeB L = true := (disk_parts H.out.2.2.1).1
    have hlst : StrsAt w9 w7.heap.size pa' M ([] :: packsL L) := by
      refine ⟨by rw [hMd, List.length_cons]; omega, by omega, fun s hs => ?_, ?_⟩
      · have := (list_pkg htr hs).2
        omega
      · rw [hMd]
        exact Sl.of_own hP9
    rw [← hMd]
    have hM37 : M ≤ 37 := by omega
    have hmem : ∀ j, j < M → pkgB (nth ([] :: packsL L) j) = true ∧ (nth ([] :: packsL L) j).length ≤ 12 := fun j hj => list_pkg htr (nth_mem (by rw [List.length_cons]; omega))
    replace hB2 := hB2.x hX9
    replace hE2 := hE2.x hX9
    replace hB4 := hB4.x hX9
    replace hxw := hxw.trans hX9
    replace hF := hF.mono (hX9.fr _)
    replace hD := hD.mono (hX9.fr _)
    replace hA5 := hA5.mono (hX9.fr _)
    replace hP5 := hP5.mono (hX9.fr _)
    replace hG := hG.mono hX9
    have hfp := hok.1
    clear hMd hX9 hX8 hx8 hOp hL8 hP9 hg9 hpl htr lt1 u0 u1 u2
    go_loopw [11, 12, 13, 14] (fun r _ _ _ wr => ∃ k : Nat, k ≤ 3 ∧ r = .int .i64 k ∧ X w9 wr) (fun r _ _ _ _ => 3 - (intOf r).toNat)
    case atStart => exact ⟨0, by omega, rfl, X.refl _⟩
    case round =>
      obtain ⟨k, hk, rfl, hXk⟩ := hrel
      obtain ⟨wo, rfl⟩ : ∃ wo, wo = wr := ⟨_, rfl⟩
      by_cases hk3 : k < 3
      · go_wp2
        go_loopw [12, 13, 14] (fun i _ _ wr => ∃ j : Nat, j ≤ M ∧ i = .int .i64 j ∧ X wo wr) (fun i _ _ _ => M - (intOf i).toNat)
        case atStart => exact ⟨0, by omega, rfl, X.refl _⟩
        case round =>
          obtain ⟨j, hj, rfl, hXj⟩ := hrel
          by_cases hjm : j < M
          · have hXr := hXk.trans hXj
            obtain ⟨b, off, rfl, _, hbl, hq, _⟩ := (hlst.mono (hXr.fr _)).at_ hjm
            obtain ⟨hpk, hq12⟩ := hmem j hjm
            have hjM : (j : Int) < (M : Int) := by omega
            have hst := H.out.2.2.2.2.2 (k : Int) (nth ([] :: packsL L) j) (by rw [rangeB_iff]; omega) hpk
            obtain ⟨ltf, f0, f1, _, _, _, _⟩ := cellsA6 (hE2.x hXr)
            have hFr := hF.mono (hXr.fr _)
            have hDr := hD.mono (hXr.fr _)
            have hAr := hA5.mono (hXr.fr _)
            have hPr := hP5.mono (hXr.fr _)
            have hGr := hG.mono hXr
            have hB4r := hB4.x hXr
            have hB2r := hB2.x hXr
            generalize nth ([] :: packsL L) j = q at *
            have hfp' := hfp
            generalize f.root = fr at f0 hst
            generalize f.pkg = fp at f1 hst hfp'
            clear hXr hpk
            have hTd := touch_cases fr fp (k : Int) q
            obtain ⟨T, hT⟩ : ∃ T, touchB fr fp (k : Int) q = T := ⟨_, rfl⟩
            rw [hT] at hst hTd
            have cU : ∀ W', X wr W' → Calls Tryz.prog 30 #[.string ⟨(fp).toArray⟩, .string ⟨(q).toArray⟩] W' fun e w' => e = .returned (.bool (isUnder fp q)) ∧ X W' w' := fun W' hx => IsUnder_c fp q W' (by omega) (by omega) (hGr.mono hx)
            have c1 : ∀ W', X wr W' → Calls Tryz.prog 31 #[.agg #[.slice a5 L.length c5, .int .i64 K, .slice da5 D.length dc5], .int .i64 (k : Int), .string ⟨(q).toArray⟩] W' fun e w' => e = .returned (.int .i64 (if T = true then K else stampB l kk dl (k : Int) q)) ∧ X W' w' := fun W' hx => by
              have := StampOf_i L a5 _ c5 K D da5 _ dc5 0 (k : Int) q W' ((hAr.mono (hx.fr _)).less (Nat.zero_le _)) hc5 ((hPr.mono (hx.fr _)).less (Nat.zero_le _)) hd5 (by omega) (hGr.mono hx)
              rwa [hst] at this
            have c2 : ∀ W', X wr W' → Calls Tryz.prog 31 #[.agg #[.slice a n c, .int .i64 kk, .slice da dn dc], .int .i64 (k : Int), .string ⟨(q).toArray⟩] W' fun e w' => e = .returned (.int .i64 (stampB l kk dl (k : Int) q)) ∧ X W' w' := fun W' hx =>
              StampOf_i l a n c kk dl da dn dc _ (k : Int) q W' (hFr.mono (hx.fr _)) hnc (hDr.mono (hx.fr _)) hdc (by omega) (hGr.mono hx)
            generalize stampB l kk dl (k : Int) q = S0 at c1 c2
            clear hst hT hB2 hE2 hB4 hxw hF hD hA5 hP5 hG hlst hmem H hXk
            go_wp2
            go_cut [13] from 68 to 127 (fun s13 wx => s13 = .bool T ∧ X wr wx)
            case first =>
              clear c1 c2 hB4r hB2r
              cases e1 : ((k : Int) == fr)
              · have hTe : T = false := by rw [hTd, e1]; rfl
                have e1' : ¬ (k : Int) = fr := by simpa using e1
                refine wp_region_grow0 (by kernel_rfl) (by kernel_rfl) ?_
                repeat (go_big_quiet_step (((go_at_call 30; refine grow_of (cU _ (by (repeat (first | exact X.refl _ | assumption | refine X.ext ?_ _ | refine X.alloc ?_ _ | refine X.drew ?_))))))))
                refine wpQuiet_nil ?_
                rintro _ ⟨y, rfl⟩
                go_wp2
                go_meet
                exact ⟨by rw [hTe], by (repeat (first | exact X.refl _ | assumption | refine X.ext ?_ _ | refine X.alloc ?_ _ | refine X.drew ?_))⟩
              have e1' : (k : Int) = fr := by simpa using e1
              by_cases e2 : q = []
              · have hTe : T = true := by rw [hTd, e1, e2]; rfl
                subst e2
                refine wp_region_grow0 (by kernel_rfl) (by kernel_rfl) ?_
                repeat (go_big_quiet_step (((go_at_call 30; refine grow_of (cU _ (by (repeat (first | exact X.refl _ | assumption | refine X.ext ?_ _ | refine X.alloc ?_ _ | refine X.drew ?_))))))))
                refine wpQuiet_nil ?_
                rintro _ ⟨y, rfl⟩
                go_wp2
                go_meet
                exact ⟨by rw [hTe], by (repeat (first | exact X.refl _ | assumption | refine X.ext ?_ _ | refine X.alloc ?_ _ | refine X.drew ?_))⟩
              have e2' : q.isEmpty = false := by
                cases q with
                | nil => exact absurd rfl e2
                | cons _ _ => rfl
              by_cases e3 : fp = []
              · have hTe : T = false := by rw [hTd, e1, e3]; simp [e2]
                subst e3
                refine wp_region_grow0 (by kernel_rfl) (by kernel_rfl) ?_
                repeat (go_big_quiet_step (((go_at_call 30; refine grow_of (cU _ (by (repeat (first | exact X.refl _ | assumption | refine X.ext ?_ _ | refine X.alloc ?_ _ | refine X.drew ?_))))))))
                refine wpQuiet_nil ?_
                rintro _ ⟨y, rfl⟩
                go_wp2
                go_meet
                exact ⟨by rw [hTe], by (repeat (first | exact X.refl _ | assumption | refine X.ext ?_ _ | refine X.alloc ?_ _ | refine X.drew ?_))⟩
              have e3' : fp.isEmpty = false := by
                cases fp with
                | nil => exact absurd rfl e3
                | cons _ _ => rfl
              cases e4 : isUnder fp q
              · have hTe : T = false := by rw [hTd, e1, e4]; simp [e2]
                rw [e4] at cU
                refine wp_region_grow0 (by kernel_rfl) (by kernel_rfl) ?_
                repeat (go_big_quiet_step (((go_at_call 30; refine grow_of (cU _ (by (repeat (first | exact X.refl _ | assumption | refine X.ext ?_ _ | refine X.alloc ?_ _ | refine X.drew ?_))))))))
                refine wpQuiet_nil ?_
                rintro _ ⟨y, rfl⟩
                go_wp2
                go_meet
                exact ⟨by rw [hTe], by (repeat (first | exact X.refl _ | assumption | refine X.ext ?_ _ | refine X.alloc ?_ _ | refine X.drew ?_))⟩
              · have hTe : T = true := by rw [hTd, e1, e4]; simp [e3]
                rw [e4] at cU
                refine wp_region_grow0 (by kernel_rfl) (by kernel_rfl) ?_
                repeat (go_big_quiet_step (((go_at_call 30; refine grow_of (cU _ (by (repeat (first | exact X.refl _ | assumption | refine X.ext ?_ _ | refine X.alloc ?_ _ | refine X.drew ?_))))))))
                refine wpQuiet_nil ?_
                rintro _ ⟨y, rfl⟩
                go_wp2
                go_meet
                exact ⟨by rw [hTe], by (repeat (first | exact X.refl _ | assumption | refine X.ext ?_ _ | refine X.alloc ?_ _ | refine X.drew ?_))⟩
            case rest =>
              obtain ⟨rfl, hXx⟩ := hcut
              clear cU hTd f0 f1 ltf
              obtain ⟨lt1, u0, u1, u2⟩ := cellsA3 (hB4r.x hXx)
              obtain ⟨lt0, t0, t1, t2⟩ := cellsA3 (hB2r.x hXx)
              replace hq := (hXx.cell (p := ⟨b, off + j, none⟩) hbl).trans hq
              replace hbl := Nat.lt_of_lt_of_le hbl hXx.size
              clear hB4r hB2r
              cases T
              all_goals
                simp only [if_true, if_false, Bool.false_eq_true] at c1
                go_wp2
                refine wp_region_grow0 (by kernel_rfl) (by kernel_rfl) ?_
                repeat (go_big_quiet_step (((go_at_call 31; refine grow_of (c1 _ (by (repeat (first | exact X.refl _ | assumption | refine X.ext ?_ _ | refine X.alloc ?_ _ | refine X.drew ?_))))))))
                refine wpQuiet_nil ?_
                rintro _ ⟨y, rfl⟩
                go_wp2
                refine wp_region_grow (by kernel_rfl) (by kernel_rfl) ?_
                repeat (go_big_quiet_step (((go_at_call 31; refine grow_of (c2 _ (by (repeat (first | exact X.refl _ | assumption | refine X.ext ?_ _ | refine X.alloc ?_ _ | refine X.drew ?_))))))))
                refine wpQuiet_nil ?_
                rintro _ ⟨y, rfl⟩
                go_wp2
                go_roundw
                case rel => exact ⟨j + 1, by omega, by go_num, hXj.trans (by (repeat (first | exact X.refl _ | assumption | refine X.ext ?_ _ | refine X.alloc ?_ _ | refine X.drew ?_)))⟩
                case measure => simp [intOf]; omega
          · obtain rfl : j = M := by omega
            go_wp2
            go_roundw
            case rel => exact ⟨k + 1, by omega, by go_num, hXk.trans hXj⟩
            case measure => simp [intOf]; omega
      · obtain rfl : k = 3 := by omega
        obtain ⟨e1, e2, e3, e4, e5, _⟩ := H.out
        rw [rangeB_iff] at e4 e5
        have q1 : IntKind.i64.wrap (kk + t) = K := by rw [e2]; exact IntWalk.i64_in _ (by omega)
        have hnl := hF.len.1
        have q2 : IntKind.i64.wrap ((n : Int) + 1) = (L.length : Int) := by rw [e1, ← hnl]; exact IntWalk.i64_in _ (by omega)
        have He := Lib.hid (And.intro e1 (And.intro e2 hnl))
        clear e1 e2 hnl
        obtain ⟨lt1, u0, u1, u2⟩ := cellsA3 (hB4.x hXk)
        obtain ⟨lt0, t0, t1, t2⟩ := cellsA3 (hB2.x hXk)
        go_wp2_with (go_at_call 32; refine (ValidDisk_i L a5 _ c5 K D da5 _ dc5 0 _ ((hA5.mono (hXk.fr _)).less (Nat.zero_le _)) hc5 ((hP5.mono (hXk.fr _)).less (Nat.zero_le _)) hd5 (hG.mono hXk)).mono ?_; rintro _ w10 ⟨rfl, hx10⟩; rw [e3]; have hX10 := hXk.trans hx10; clear lt1 u0 u1 u2 lt0 t0 t1 t2; obtain ⟨lt1, u0, u1, u2⟩ := cellsA3 (hB4.x hX10); obtain ⟨lt0, t0, t1, t2⟩ := cellsA3 (hB2.x hX10))
        all_goals
          go_ret
          exact ⟨by simp, hxw.trans hX10⟩

end Go.Proofs.YtgjfjjhmgbemcaaGreatDoor
