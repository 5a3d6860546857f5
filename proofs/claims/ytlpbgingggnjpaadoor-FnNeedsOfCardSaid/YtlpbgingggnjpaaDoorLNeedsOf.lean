/- The walk of the law FnNeedsOf. -/
import Derived.Test.YtlpbgingggnjpaaDoorNeedT
import Derived.Test.YtlpbgingggnjpaaDoorRises
import Derived.Test.YtlpbgingggnjpaaDoorDrawName
namespace Go.Proofs.YtlpbgingggnjpaaDoor
open Go.RowKit

set_option maxRecDepth 100000 in
set_option maxHeartbeats 4000000 in
theorem FnNeedsOf_c (ca : Option Addr) (cn cc : Nat) (w : World) (hC : CodeAt w ca cn cc) (hG : Gm w) :
    Calls Tryd.prog 9 #[.slice ca cn cc] w fun e w' => e = .returned (.bool true) ∧ X w w' := by
  by_cases hbig : 1048576 < cn
  · go_enter Tryd.func9, Tryd.ntmps9
    go_wp2
    go_ret
    exact ⟨by simp, by (repeat (first | exact X.refl _ | assumption | refine X.ext ?_ _ | refine X.alloc ?_ _ | refine X.drew ?_))⟩
  · go_enter Tryd.func9, Tryd.ntmps9
    go_wp2_with fail
    refine (DrawNeedsOf_c ca cn cc _ hC (by omega)).mono ?_
    rintro _ W1 ⟨l, a, n, c, path, pa, pn, pc, s, rfl, hF, hnc, hn11, hsm, hI, hpc, hpn3, hsl, hx1⟩
    have hneeds := @needs_name l path s
    have himp := @needs_import l path s
    have hnd : (needsL l path s).Nodup := nodup_uniqL
    have hfl := @needN_file l path s
    have hcan : canB l path s = ((specB l path s).kind != 0) := rfl
    have hlen : (needsL l path s).length ≤ 8 := by
      unfold needsL
      refine Nat.le_trans uniqL_len ?_
      unfold needN
      split
      · simp
      · rename_i h
        exact Nat.le_trans bodyNames_len (bodyB_len (needN_body h))
    have hneg : (specB l path s).file < 0 → needsL l path s = [] := fun h => by rw [needsL, needN, if_pos h]; rfl
    have hbd := @needN_body l path s
    obtain ⟨V, hV⟩ : ∃ V, needsL l path s = V := ⟨_, rfl⟩
    obtain ⟨o, ho⟩ : ∃ o, specB l path s = o := ⟨_, rfl⟩
    rw [hV] at himp hnd hlen hneg
    rw [ho] at himp hfl hcan hneg hbd
    have hVs : ∀ x ∈ V, x.length ≤ 4194304 := fun x hx => by
      have := nameB_len (hneeds (x := x) (by rw [hV]; exact hx))
      omega
    have hVn : ∀ x ∈ V, nameB x = true := fun x hx => hneeds (x := x) (by rw [hV]; exact hx)
    have HV := Lib.hid hV
    have HO := Lib.hid ho
    have Himp := Lib.hid (@himp)
    have Hfl := Lib.hid hfl
    have Hbd := Lib.hid hbd
    have Hneg := Lib.hid hneg
    have Hcan := Lib.hid hcan
    have Hvn := Lib.hid hVn
    clear hV ho hneeds himp hfl hcan hneg hbd hVn
    go_wp2_with fail
    refine calls_name (fun W2 hW2 => ?_)
    have hB2 : Bx W2 W1.heap.size #[.slice a n c] := by rw [hW2]; first | exact Bx.new _ _ _ | exact Bx.set (Bx.new _ _ _) 0 _
    have hx2 : X W1 W2 := by rw [hW2]; (repeat (first | with_reducible exact X.refl _ | with_reducible assumption | with_reducible refine X.setCell ?_ (by first | (simp; done) | (simp; omega)) _ | with_reducible refine X.ext ?_ _ | with_reducible refine X.alloc ?_ _ | with_reducible refine X.drew ?_))
    clear hW2
    have hxw := hx1.trans hx2
    replace hF := hF.mono (hx2.fr _)
    replace hI := hI.mono (hx2.fr _)
    replace hG := hG.mono hxw
    clear hx1 hx2
    refine (NeedsOf_i l a n c _ path pa pn pc _ s W2 hF hnc hI hpc (by omega) hG).mono ?_
    rw [HV.out]
    rintro _ W3 ⟨ra, rc, rfl, hO, hx3⟩
    have hS3 := StrsAt.of_own hO (by omega) hVs
    have hB3 := hB2.x hx3
    clear hO hB2
    have t0 := bxC hB3
    have lt0 := hB3.lt
    go_wp2_with fail
    refine (NeedsOf_s l a n c _ path pa pn pc _ s W3 (hF.mono (hx3.fr _)) (hI.mono (hx3.fr _)) hpc (by omega)).mono ?_
    rw [HV.out]
    rintro _ W4 ⟨ra4, rc4, rfl, hS4, hx4⟩
    go_wp2_with fail
    refine (equalTexts_c V V ra ra4 _ _ rc rc4 _ _ W4 (hS3.mono (hx4.fr _)) hS4).mono ?_
    rintro _ W5 ⟨rfl, hx5⟩
    rw [decide_eq_true (rfl : V = V)]
    have hx35 := hx4.trans hx5
    have hx25 := hx3.trans hx35
    have hS5 := hS3.mono (hx35.fr _)
    have hB5 := hB3.x hx35
    replace hxw := hxw.trans hx25
    replace hF := hF.mono (hx25.fr _)
    replace hI := hI.mono (hx25.fr _)
    replace hG := hG.mono hx25
    clear t0 lt0 hx3 hx4 hx5 hx35 hx25 hS3 hS4 hB3
    have t0 := bxC hB5
    have lt0 := hB5.lt
    go_wp2_with fail
    refine (CanFind_i l a n c _ path pa pn pc _ s W5 hF hnc hI hpc (by omega) hG).mono ?_
    rintro _ W6 ⟨rfl, hx6⟩
    have hS6 := hS5.mono (hx6.fr _)
    have hB6 := hB5.x hx6
    replace hxw := hxw.trans hx6
    replace hF := hF.mono (hx6.fr _)
    replace hI := hI.mono (hx6.fr _)
    replace hG := hG.mono hx6
    clear t0 lt0 hx6 hS5 hB5
    have t0 := bxC hB6
    have lt0 := hB6.lt
    cases hcb : canB l path s
    · go_wp2_with fail
      refine (NeedsOf_s l a n c _ path pa pn pc _ s W6 hF hI hpc (by omega)).mono ?_
      rw [HV.out]
      rintro _ W7 ⟨ra7, rc7, rfl, hS7, hx7⟩
      go_wp2_with fail
      refine (equalTexts_c V V ra ra7 _ _ rc rc7 _ _ W7 (hS6.mono (hx7.fr _)) hS7).mono ?_
      rintro _ W8 ⟨rfl, hx8⟩
      rw [decide_eq_true (rfl : V = V)]
      go_wp2
      go_ret
      exact ⟨rfl, (hxw.trans hx7).trans hx8⟩
    go_wp2_with fail
    refine (FindSpec_i l a n c _ path pa pn pc _ s W6 hF hnc hI hpc (by omega) hG).mono ?_
    rw [HO.out]
    rintro _ W7 ⟨v7, rfl, ⟨aq, cq, rfl, hcq, hIq⟩, hx7⟩
    clear hIq t0 lt0
    have hB7 := hB6.x hx7
    have t0 := bxC hB7
    have lt0 := hB7.lt
    have hS7 := hS6.mono (hx7.fr _)
    replace hxw := hxw.trans hx7
    replace hF := hF.mono (hx7.fr _)
    replace hG := hG.mono hx7
    clear hx7 hS6 hB6 hI
    by_cases hneg : o.file < 0
    · have hv0 := Hneg.out hneg
      subst hv0
      go_wp2
      go_ret
      exact ⟨by simp, hxw⟩
    have hfi := Hfl.out (by omega)
    have hbd := Hbd.out (by omega)
    have himp := fun (x : St) hx hk => Himp.out (x := x) (by omega) hx hk
    obtain ⟨fi, hfe⟩ : ∃ fi : Nat, o.file.toNat = fi := ⟨_, rfl⟩
    rw [hfe] at hfi hbd himp
    obtain ⟨ht, hfl, hfx⟩ := hfi
    rw [← hfx]
    have hlt : fi < n := by rw [hF.len.1]; exact hfl
    have hnI : ¬ (fi : Int) < 0 := by omega
    have hn2 := hF.len.2
    obtain ⟨b, off, ba, bn, bc, rfl, _, hb, hok, hbc, hSb, g0, g1, g2, g3, g4, g5⟩ := hF.at_ hlt
    generalize nth l fi = f at *
    have Hbn := Lib.hid hSb.1
    have hb8 := bodyB_len hbd
    rw [← hSb.1] at hb8
    clear hneg hfe hfx hfl g0 g1 g2 g3 g4 hok Himp Hbd Hfl HO Hneg hF
    have q2 : (0 : Int) ≤ (fi : Int) := by omega
    have q3 : (fi : Int) < (n : Int) := by omega
    go_wp2
    go_loopw [8] (fun i wr => ∃ k : Nat, k ≤ bn ∧ i = .int .i64 k ∧ X W7 wr) (fun i _ => bn - (intOf i).toNat)
    case atStart => exact ⟨0, Nat.zero_le _, rfl, X.refl _⟩
    case round =>
      obtain ⟨k, hk, rfl, hX⟩ := hrel
      clear t0 lt0
      have t0 := bxC (hB7.x hX)
      have lt0 := (hB7.x hX).lt
      have g5' := (hX.cell (p := ⟨b, _, none⟩) hb).trans g5
      have hb' : b < wr.heap.size := Nat.lt_of_lt_of_le hb hX.size
      by_cases hlt2 : k < bn
      · obtain ⟨b2, off2, rfl, _, hb2, hos, s0, s1, s2, s3, s4⟩ := (hSb.mono (hX.fr _)).at_ hlt2
        have hm := nth_mem (l := f.body) (k := k) (by rw [← Hbn.out]; exact hlt2)
        have himp2 := himp _ hm
        generalize nth f.body k = t at *
        by_cases hkk : t.kind = 0 ∨ t.kind = 2
        · have hin := himp2 hkk
          rcases hkk with hkk | hkk
          all_goals
            go_wp2_with fail
            refine calls_name (fun W8 hW8 => ?_)
            have hX8 : X wr W8 := by rw [hW8]; (repeat (first | with_reducible exact X.refl _ | with_reducible assumption | with_reducible refine X.setCell ?_ (by first | (simp; done) | (simp; omega)) _ | with_reducible refine X.ext ?_ _ | with_reducible refine X.alloc ?_ _ | with_reducible refine X.drew ?_))
            clear hW8
            refine (hasTextL_c V ra _ rc _ t.mod W8 (hS7.mono ((hX.trans hX8).fr _))).mono ?_
            rw [decide_eq_true hin]
            rintro _ w9 ⟨rfl, hx9⟩
            go_wp2
            go_roundw
            case rel => exact ⟨k + 1, by omega, by go_num, (hX.trans hX8).trans hx9⟩
            case measure => simp [intOf]; omega
        · have hk1 : ¬ t.kind = 0 := fun e => hkk (.inl e)
          have hk2 : ¬ t.kind = 2 := fun e => hkk (.inr e)
          clear hkk
          go_wp2
          go_roundw
          case rel => exact ⟨k + 1, by omega, by go_num, hX.trans (by (repeat (first | with_reducible exact X.refl _ | with_reducible assumption | with_reducible refine X.setCell ?_ (by first | (simp; done) | (simp; omega)) _ | with_reducible refine X.ext ?_ _ | with_reducible refine X.alloc ?_ _ | with_reducible refine X.drew ?_)))⟩
          case measure => simp [intOf]; omega
      · obtain rfl : k = bn := by omega
        obtain ⟨wo, rfl⟩ : ∃ wo, wo = wr := ⟨_, rfl⟩
        obtain ⟨m, hm⟩ : ∃ m, V.length = m := ⟨_, rfl⟩
        have HN := Lib.hid hnd
        rw [hm] at hS7 hlen ⊢
        have Hm := Lib.hid hm
        clear hm hnd
        go_wp2
        go_loopw [10] (fun i wr => ∃ k : Nat, k ≤ m ∧ i = .int .i64 k ∧ X wo wr) (fun i _ => m - (intOf i).toNat)
        case atStart => exact ⟨0, Nat.zero_le _, rfl, X.refl _⟩
        case round =>
          obtain ⟨j, hj, rfl, hX2⟩ := hrel
          have hSj := hS7.mono ((hX.trans hX2).fr _)
          by_cases hjm : j < m
          · obtain ⟨b3, off3, rfl, _, hb3, hc3, hl3⟩ := hSj.at_ hjm
            have hfirst : firstN (fun k => nth V k == nth V j) m = (j : Int) := by
              have := nodup_first HN.out (i := j) (by rw [Hm.out]; exact hjm)
              rwa [Hm.out] at this
            have hvn := Hvn.out _ (nth_mem (l := V) (k := j) (by rw [Hm.out]; exact hjm))
            generalize nth V j = x at *
            go_wp2_with fail
            refine (textAtL_c V _ _ rc _ x wr hSj).mono ?_
            rw [hfirst]
            rintro _ w8 ⟨rfl, hx8⟩
            have hc8 := (hx8.cell (p := ⟨b3, _, none⟩) hb3).trans hc3
            have hb8' : b3 < w8.heap.size := Nat.lt_of_lt_of_le hb3 hx8.size
            go_wp2_with fail
            refine (ValidName_c x w8 hl3 (hG.mono ((hX.trans hX2).trans hx8))).mono ?_
            rw [hvn]
            rintro _ w9 ⟨rfl, hx9⟩
            go_wp2
            go_roundw
            case rel => exact ⟨j + 1, by omega, by go_num, (hX2.trans hx8).trans hx9⟩
            case measure => simp [intOf]; omega
          · obtain rfl : j = m := by omega
            go_wp2
            go_ret
            exact ⟨rfl, hxw.trans (hX.trans hX2)⟩

end Go.Proofs.YtlpbgingggnjpaaDoor
