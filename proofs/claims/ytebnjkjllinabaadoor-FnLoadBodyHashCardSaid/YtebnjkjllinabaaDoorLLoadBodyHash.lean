/- The walk of the law FnLoadBodyHash. -/
import Derived.Test.YtebnjkjllinabaaDoorLLoadBody
namespace Go.Proofs.YtebnjkjllinabaaDoor
open Go.RowKit

set_option maxRecDepth 100000 in
set_option maxHeartbeats 4000000 in
theorem FnLoadBodyHash_c (ca : Option Addr) (cn cc : Nat) (w : World) (hC : CodeAt w ca cn cc) (hG : Gm w) :
    Calls Tryd.prog 6 #[.slice ca cn cc] w fun e w' => e = .returned (.bool true) ∧ X w w' := by
  by_cases hbig : 1048576 < cn
  · go_enter Tryd.func6, Tryd.ntmps6
    go_wp2
    go_ret
    exact ⟨by simp, by (repeat (first | exact X.refl _ | assumption | refine X.ext ?_ _ | refine X.alloc ?_ _ | refine X.drew ?_))⟩
  · go_enter Tryd.func6, Tryd.ntmps6
    go_wp2_with fail
    refine (DrawLoadBody_c ca cn cc _ hC (by omega)).mono ?_
    rintro _ W1 ⟨l, a, n, c, f, ba, bn, bc, mode, rfl, hD, hok, hS, hbc, hnc, hn11, hbn5, hx1⟩
    go_wp2_with fail
    refine calls_name (fun W2 hW2 => ?_)
    have hB2 : Bx W2 W1.heap.size #[.int .i64 f.root, .string ⟨(f.pkg).toArray⟩, .string ⟨(f.name).toArray⟩, .bool f.init, .int .i64 f.stamp, .slice ba bn bc] := by rw [hW2]; first | exact Bx.new _ _ _ | exact (Bx.new _ _ _).set6 _ _ _ _ _ _
    have hx2 : X W1 W2 := by rw [hW2]; (repeat (first | with_reducible exact X.refl _ | with_reducible assumption | with_reducible refine X.setCell ?_ (by first | (simp; done) | (simp; omega)) _ | with_reducible refine X.ext ?_ _ | with_reducible refine X.alloc ?_ _ | with_reducible refine X.drew ?_))
    clear hW2
    have hxw := hx1.trans hx2
    replace hD := hD.mono (hx2.fr _)
    replace hS := hS.mono (hx2.fr _)
    replace hG := hG.mono hxw
    clear hx1 hx2
    have hbd := loadV_bodyW (f := f) (mode := mode) hD.okC (by have := hS.1; have := hS.2.1; omega) hS.2.2.1
    have hst := loadV_ok (f := f) mode hD.okC hok (by have := hS.1; have := hS.2.1; omega) hS.2.2.1
    have Hgood := Lib.hid (@loadV_good l f mode)
    obtain ⟨V, hV⟩ : ∃ V, loadV l f mode = V := ⟨_, rfl⟩
    obtain ⟨bd, st, had⟩ := V
    rw [hV] at hbd hst
    have HV := Lib.hid hV
    clear hV
    dsimp only at hbd hst
    refine (LoadBody_i l a n c _ f mode ba bn bc _ W2 hD hok hS hG).mono ?_
    rw [HV.out]
    rintro _ W3 ⟨b6, c6, r6, rc6, B1, E1, E2, rfl, hO6, hC6, _, _, _, _, _, hx3⟩
    dsimp only at hO6 hC6 ⊢
    have hS6 : StmtsAt W3 E2 b6 bd.length bd := ⟨rfl, hbd.1, hbd.2, Sl.of_own hO6⟩
    have hA6 := hC6.o.at hst
    have hB3 := hB2.x hx3
    obtain ⟨t0, t1, t2, t3, t4, t5⟩ := keepT hB3
    have hlT := hB3.lt
    clear hO6 hC6 hB2
    go_wp2_with fail
    refine (LoadBody_s l a n c _ f mode ba bn bc _ W3 (hD.mono (hx3.fr _)) hok (hS.mono (hx3.fr _))).mono ?_
    rw [HV.out]
    dsimp only
    rintro _ W4 ⟨b7, c7, r7, rc7, rfl, hS7, hA7, hx4⟩
    replace hS6 := hS6.mono (hx4.fr _)
    replace hA6 := hA6.mono (hx4.fr _)
    replace hB3 := hB3.x hx4
    have hx24 := hx3.trans hx4
    clear t0 t1 t2 t3 t4 t5 hlT
    go_wp2_with fail
    refine (equalBody_c bd bd b6 b7 _ _ c6 c7 _ _ W4 hS6 hS7).mono ?_
    rintro _ W5 ⟨rfl, hx5⟩
    rw [decide_eq_true (rfl : bd = bd)]
    go_wp2_with fail
    refine (equalStore_c st st r6 r7 _ _ rc6 rc7 _ _ W5 (hA6.mono (hx5.fr _)) (hA7.mono (hx5.fr _))).mono ?_
    rintro _ W6 ⟨rfl, hx6⟩
    rw [decide_eq_true (rfl : st = st)]
    have hx26 := (hx24.trans hx5).trans hx6
    have hx46 := hx5.trans hx6
    replace hB3 := hB3.x hx46
    clear hx3 hx4 hx5 hx6 hx24
    go_wp2_with fail
    refine (ValidStore_c l a n c _ W6 (hD.mono (hx26.fr _)) (hG.mono hx26)).mono ?_
    rintro _ W7 ⟨rfl, hx7⟩
    have hx27 := hx26.trans hx7
    have hx47 := hx46.trans hx7
    replace hB3 := hB3.x hx7
    clear hx26 hx46 hx7
    obtain ⟨t0, t1, t2, t3, t4, t5⟩ := keepT hB3
    have hlT := hB3.lt
    cases q1 : storeB l
    · go_wp2_with fail
      refine (equalBody_c bd bd b6 b7 _ _ c6 c7 _ _ W7 (hS6.mono ((hx47).fr _)) (hS7.mono ((hx47).fr _))).mono ?_
      rintro _ w9 ⟨rfl, hx9⟩
      rw [decide_eq_true (rfl : bd = bd)]
      go_wp2_with fail
      refine (equalStore_c st st r6 r7 _ _ rc6 rc7 _ _ w9 (hA6.mono (((hx47).trans hx9).fr _)) (hA7.mono (((hx47).trans hx9).fr _))).mono ?_
      rintro _ w10 ⟨rfl, hx10⟩
      rw [decide_eq_true (rfl : st = st)]
      go_wp2
      go_ret
      exact ⟨by simp, hxw.trans (((hx27).trans hx9).trans hx10)⟩
    go_wp2_with fail
    refine (ModuleOf_c f ba bn bc _ W7 hok (hS.mono (hx27.fr _)) (hG.mono hx27)).mono ?_
    rintro _ W8 ⟨rfl, hx8⟩
    have hx28 := hx27.trans hx8
    have hx48 := hx47.trans hx8
    replace hB3 := hB3.x hx8
    clear hx27 hx47 hx8 t0 t1 t2 t3 t4 t5 hlT
    cases q2 : fileB f
    · rw [show moduleOf f = [] by rw [moduleOf, q2]; rfl]
      go_wp2_with fail
      refine (equalBody_c bd bd b6 b7 _ _ c6 c7 _ _ W8 (hS6.mono ((hx48).fr _)) (hS7.mono ((hx48).fr _))).mono ?_
      rintro _ w9 ⟨rfl, hx9⟩
      rw [decide_eq_true (rfl : bd = bd)]
      go_wp2_with fail
      refine (equalStore_c st st r6 r7 _ _ rc6 rc7 _ _ w9 (hA6.mono (((hx48).trans hx9).fr _)) (hA7.mono (((hx48).trans hx9).fr _))).mono ?_
      rintro _ w10 ⟨rfl, hx10⟩
      rw [decide_eq_true (rfl : st = st)]
      go_wp2
      go_ret
      exact ⟨by simp, hxw.trans (((hx28).trans hx9).trans hx10)⟩
    rw [moduleOf_eq q2]
    obtain ⟨mx, mxs, hmx⟩ := List.exists_cons_of_ne_nil (moduleB_ne q2)
    have Hmx := Lib.hid hmx
    rw [hmx]
    clear hmx
    by_cases hm0 : mode < 0
    · go_wp2_with fail
      refine (equalBody_c bd bd b6 b7 _ _ c6 c7 _ _ W8 (hS6.mono ((hx48).fr _)) (hS7.mono ((hx48).fr _))).mono ?_
      rintro _ w9 ⟨rfl, hx9⟩
      rw [decide_eq_true (rfl : bd = bd)]
      go_wp2_with fail
      refine (equalStore_c st st r6 r7 _ _ rc6 rc7 _ _ w9 (hA6.mono (((hx48).trans hx9).fr _)) (hA7.mono (((hx48).trans hx9).fr _))).mono ?_
      rintro _ w10 ⟨rfl, hx10⟩
      rw [decide_eq_true (rfl : st = st)]
      go_wp2
      go_ret
      exact ⟨by simp, hxw.trans (((hx28).trans hx9).trans hx10)⟩
    by_cases hm2 : 2 < mode
    · go_wp2_with fail
      refine (equalBody_c bd bd b6 b7 _ _ c6 c7 _ _ W8 (hS6.mono ((hx48).fr _)) (hS7.mono ((hx48).fr _))).mono ?_
      rintro _ w9 ⟨rfl, hx9⟩
      rw [decide_eq_true (rfl : bd = bd)]
      go_wp2_with fail
      refine (equalStore_c st st r6 r7 _ _ rc6 rc7 _ _ w9 (hA6.mono (((hx48).trans hx9).fr _)) (hA7.mono (((hx48).trans hx9).fr _))).mono ?_
      rintro _ w10 ⟨rfl, hx10⟩
      rw [decide_eq_true (rfl : st = st)]
      go_wp2
      go_ret
      exact ⟨by simp, hxw.trans (((hx28).trans hx9).trans hx10)⟩
    have hlo : loadOk l f mode = true := by
      rw [loadOk, q1, q2]
      unfold rangeB
      simp
      omega
    have hvv := HV.out
    rw [loadV_good hlo] at hvv
    injection hvv with e1 hvv
    injection hvv with e2 e3
    obtain ⟨g1, g2, g3, g4, g5⟩ := hash_law hlo
    rw [e1] at g1 g2 g3 g4
    rw [e3] at g1 g2 g3
    have hD8 := hD.mono (hx28.fr _)
    have hS8 := hS.mono (hx28.fr _)
    have hSb8 := hS6.mono (hx48.fr _)
    have hG8 := hG.mono hx28
    have hxw8 := hxw.trans hx28
    have Hl := Lib.hid hD.len.1
    have G1 := Lib.hid g1
    have G2 := Lib.hid g2
    have G3 := Lib.hid g3
    have Q2 := Lib.hid q2
    clear e1 e2 e3 g1 g2 g3 hlo hx28 hx48 HV Hgood hS7 hA7 hS6 hA6 hD hS hG hxw q1 q2 hst hbd
    obtain ⟨t0, t1, t2, t3, t4, t5⟩ := keepT hB3
    have hlT := hB3.lt
    obtain ⟨M, hM⟩ : ∃ M, st.length = M := ⟨_, rfl⟩
    obtain ⟨K, hK⟩ : ∃ K, bd.length = K := ⟨_, rfl⟩
    rw [hM]
    rw [hK] at hSb8 ⊢
    clear hM hK
    go_wp2
    go_loopw [12] (fun i wr => ∃ k : Nat, k ≤ n ∧ i = .int .i64 k ∧ X W8 wr ∧ ∀ j, j < k → sameC (nth l j) f.root (moduleB f) f.init = true → ¬ (nth l j).mode = 2 ∧ ¬ ((nth l j).mode = 0 ∧ had = true)) (fun i _ => n - (intOf i).toNat)
    case atStart => exact ⟨0, Nat.zero_le _, rfl, by (repeat (first | with_reducible exact X.refl _ | with_reducible assumption | with_reducible refine X.setCell ?_ (by first | (simp; done) | (simp; omega)) _ | with_reducible refine X.ext ?_ _ | with_reducible refine X.alloc ?_ _ | with_reducible refine X.drew ?_)), fun j hj => absurd hj (by omega)⟩
    case round =>
      obtain ⟨k, hk, rfl, hX, hpre⟩ := hrel
      have hBr := hB3.x hX
      clear t0 t1 t2 t3 t4 t5 hlT
      obtain ⟨t0, t1, t2, t3, t4, t5⟩ := keepT hBr
      have hlT := hBr.lt
      by_cases hlt : k < n
      · obtain ⟨b, off, sa, sn, sc, rfl, _, hb, hml, hsc, hSk, u0, u1, u2, u3, u4, u5, u6, u7⟩ := (hD8.mono (hX.fr _)).at_ hlt
        have hSf := hS8.mono (hX.fr _)
        have hSb := hSb8.mono (hX.fr _)
        have hGr := hG8.mono hX
        have hcm : nth l k ∈ l := nth_mem (by rw [← Hl.out]; exact hlt)
        have p1 := G1.out _ hcm
        have p2 := G2.out _ hcm
        obtain ⟨d, hd⟩ : ∃ d, nth l k = d := ⟨_, rfl⟩
        have Hd := Lib.hid hd
        rw [hd] at hcm p1 p2 hml hSk u0 u1 u2 u3 u4 u5 u6
        clear hd
        have P1 := Lib.hid p1
        have P2 := Lib.hid p2
        clear p1 p2 hcm
        have Hpre := Lib.hid hpre
        cases c1 : d.root == f.root
        · have He := Lib.hid (show sameC d f.root (moduleB f) f.init = false by simp [sameC, c1])
          go_wp2
          refine wp_region_grow0 (by kernel_rfl) (by kernel_rfl) ?_
          repeat (go_big_quiet_step (((go_at_call 23; refine grow_of (moduleOf_ok Q2.out ba bn bc _ _ hok (hSf.mono (X.fr (by (repeat (first | exact X.refl _ | assumption | refine X.ext ?_ _ | refine X.alloc ?_ _ | refine X.drew ?_))) _)) (hGr.mono (by (repeat (first | exact X.refl _ | assumption | refine X.ext ?_ _ | refine X.alloc ?_ _ | refine X.drew ?_)))))))))
          refine wpQuiet_nil ?_
          rintro _ ⟨y, rfl⟩
          go_wp2
          refine wp_region_grow0 (by kernel_rfl) (by kernel_rfl) ?_
          repeat (go_big_quiet_step (((go_at_call 23; refine grow_of (moduleOf_ok Q2.out ba bn bc _ _ hok (hSf.mono (X.fr (by (repeat (first | exact X.refl _ | assumption | refine X.ext ?_ _ | refine X.alloc ?_ _ | refine X.drew ?_))) _)) (hGr.mono (by (repeat (first | exact X.refl _ | assumption | refine X.ext ?_ _ | refine X.alloc ?_ _ | refine X.drew ?_)))))))))
          refine wpQuiet_nil ?_
          rintro _ ⟨y, rfl⟩
          go_wp2
          go_roundw
          case rel => exact ⟨k + 1, by omega, by go_num, hX.trans (by (repeat (first | exact X.refl _ | assumption | refine X.ext ?_ _ | refine X.alloc ?_ _ | refine X.drew ?_))), fun j hj hs => by
            rcases Nat.lt_succ_iff_lt_or_eq.1 hj with h | rfl
            · exact hpre j h hs
            · rw [Hd.out] at hs ⊢
              rw [He.out] at hs; cases hs⟩
          case measure => simp [intOf]; omega
        cases c2 : d.mod == moduleB f
        · have He := Lib.hid (show sameC d f.root (moduleB f) f.init = false by simp [sameC, c1, c2])
          go_wp2
          refine wp_region_grow0 (by kernel_rfl) (by kernel_rfl) ?_
          repeat (go_big_quiet_step (((go_at_call 23; refine grow_of (moduleOf_ok Q2.out ba bn bc _ _ hok (hSf.mono (X.fr (by (repeat (first | exact X.refl _ | assumption | refine X.ext ?_ _ | refine X.alloc ?_ _ | refine X.drew ?_))) _)) (hGr.mono (by (repeat (first | exact X.refl _ | assumption | refine X.ext ?_ _ | refine X.alloc ?_ _ | refine X.drew ?_)))))))))
          refine wpQuiet_nil ?_
          rintro _ ⟨y, rfl⟩
          go_wp2
          refine wp_region_grow0 (by kernel_rfl) (by kernel_rfl) ?_
          repeat (go_big_quiet_step (((go_at_call 23; refine grow_of (moduleOf_ok Q2.out ba bn bc _ _ hok (hSf.mono (X.fr (by (repeat (first | exact X.refl _ | assumption | refine X.ext ?_ _ | refine X.alloc ?_ _ | refine X.drew ?_))) _)) (hGr.mono (by (repeat (first | exact X.refl _ | assumption | refine X.ext ?_ _ | refine X.alloc ?_ _ | refine X.drew ?_)))))))))
          refine wpQuiet_nil ?_
          rintro _ ⟨y, rfl⟩
          go_wp2
          go_roundw
          case rel => exact ⟨k + 1, by omega, by go_num, hX.trans (by (repeat (first | exact X.refl _ | assumption | refine X.ext ?_ _ | refine X.alloc ?_ _ | refine X.drew ?_))), fun j hj hs => by
            rcases Nat.lt_succ_iff_lt_or_eq.1 hj with h | rfl
            · exact hpre j h hs
            · rw [Hd.out] at hs ⊢
              rw [He.out] at hs; cases hs⟩
          case measure => simp [intOf]; omega
        cases c3 : d.init == f.init
        · have He := Lib.hid (show sameC d f.root (moduleB f) f.init = false by simp [sameC, c1, c2, c3])
          go_wp2
          refine wp_region_grow0 (by kernel_rfl) (by kernel_rfl) ?_
          repeat (go_big_quiet_step (((go_at_call 23; refine grow_of (moduleOf_ok Q2.out ba bn bc _ _ hok (hSf.mono (X.fr (by (repeat (first | exact X.refl _ | assumption | refine X.ext ?_ _ | refine X.alloc ?_ _ | refine X.drew ?_))) _)) (hGr.mono (by (repeat (first | exact X.refl _ | assumption | refine X.ext ?_ _ | refine X.alloc ?_ _ | refine X.drew ?_)))))))))
          refine wpQuiet_nil ?_
          rintro _ ⟨y, rfl⟩
          go_wp2
          refine wp_region_grow0 (by kernel_rfl) (by kernel_rfl) ?_
          repeat (go_big_quiet_step (((go_at_call 23; refine grow_of (moduleOf_ok Q2.out ba bn bc _ _ hok (hSf.mono (X.fr (by (repeat (first | exact X.refl _ | assumption | refine X.ext ?_ _ | refine X.alloc ?_ _ | refine X.drew ?_))) _)) (hGr.mono (by (repeat (first | exact X.refl _ | assumption | refine X.ext ?_ _ | refine X.alloc ?_ _ | refine X.drew ?_)))))))))
          refine wpQuiet_nil ?_
          rintro _ ⟨y, rfl⟩
          go_wp2
          go_roundw
          case rel => exact ⟨k + 1, by omega, by go_num, hX.trans (by (repeat (first | exact X.refl _ | assumption | refine X.ext ?_ _ | refine X.alloc ?_ _ | refine X.drew ?_))), fun j hj hs => by
            rcases Nat.lt_succ_iff_lt_or_eq.1 hj with h | rfl
            · exact hpre j h hs
            · rw [Hd.out] at hs ⊢
              rw [He.out] at hs; cases hs⟩
          case measure => simp [intOf]; omega
        have He := Lib.hid (show sameC d f.root (moduleB f) f.init = true by simp [sameC, c1, c2, c3])
        cases c4 : d.mode == 2
        · cases c0 : d.mode == 0
          · go_wp2
            refine wp_region_grow0 (by kernel_rfl) (by kernel_rfl) ?_
            repeat (go_big_quiet_step (((go_at_call 23; refine grow_of (moduleOf_ok Q2.out ba bn bc _ _ hok (hSf.mono (X.fr (by (repeat (first | exact X.refl _ | assumption | refine X.ext ?_ _ | refine X.alloc ?_ _ | refine X.drew ?_))) _)) (hGr.mono (by (repeat (first | exact X.refl _ | assumption | refine X.ext ?_ _ | refine X.alloc ?_ _ | refine X.drew ?_)))))))))
            refine wpQuiet_nil ?_
            rintro _ ⟨y, rfl⟩
            go_wp2
            refine wp_region_grow0 (by kernel_rfl) (by kernel_rfl) ?_
            repeat (go_big_quiet_step (((go_at_call 23; refine grow_of (moduleOf_ok Q2.out ba bn bc _ _ hok (hSf.mono (X.fr (by (repeat (first | exact X.refl _ | assumption | refine X.ext ?_ _ | refine X.alloc ?_ _ | refine X.drew ?_))) _)) (hGr.mono (by (repeat (first | exact X.refl _ | assumption | refine X.ext ?_ _ | refine X.alloc ?_ _ | refine X.drew ?_)))))))))
            refine wpQuiet_nil ?_
            rintro _ ⟨y, rfl⟩
            go_wp2
            go_roundw
            case rel => exact ⟨k + 1, by omega, by go_num, hX.trans (by (repeat (first | exact X.refl _ | assumption | refine X.ext ?_ _ | refine X.alloc ?_ _ | refine X.drew ?_))), fun j hj hs => by
              rcases Nat.lt_succ_iff_lt_or_eq.1 hj with h | rfl
              · exact hpre j h hs
              · rw [Hd.out] at hs ⊢
                exact ⟨by simpa using c4, fun h => by simp [h.1] at c0⟩⟩
            case measure => simp [intOf]; omega
          · cases had
            · go_wp2
              refine wp_region_grow0 (by kernel_rfl) (by kernel_rfl) ?_
              repeat (go_big_quiet_step (((go_at_call 23; refine grow_of (moduleOf_ok Q2.out ba bn bc _ _ hok (hSf.mono (X.fr (by (repeat (first | exact X.refl _ | assumption | refine X.ext ?_ _ | refine X.alloc ?_ _ | refine X.drew ?_))) _)) (hGr.mono (by (repeat (first | exact X.refl _ | assumption | refine X.ext ?_ _ | refine X.alloc ?_ _ | refine X.drew ?_)))))))))
              refine wpQuiet_nil ?_
              rintro _ ⟨y, rfl⟩
              go_wp2
              refine wp_region_grow0 (by kernel_rfl) (by kernel_rfl) ?_
              repeat (go_big_quiet_step (((go_at_call 23; refine grow_of (moduleOf_ok Q2.out ba bn bc _ _ hok (hSf.mono (X.fr (by (repeat (first | exact X.refl _ | assumption | refine X.ext ?_ _ | refine X.alloc ?_ _ | refine X.drew ?_))) _)) (hGr.mono (by (repeat (first | exact X.refl _ | assumption | refine X.ext ?_ _ | refine X.alloc ?_ _ | refine X.drew ?_)))))))))
              refine wpQuiet_nil ?_
              rintro _ ⟨y, rfl⟩
              go_wp2
              go_roundw
              case rel => exact ⟨k + 1, by omega, by go_num, hX.trans (by (repeat (first | exact X.refl _ | assumption | refine X.ext ?_ _ | refine X.alloc ?_ _ | refine X.drew ?_))), fun j hj hs => by
                rcases Nat.lt_succ_iff_lt_or_eq.1 hj with h | rfl
                · exact hpre j h hs
                · rw [Hd.out] at hs ⊢
                  exact ⟨by simpa using c4, fun h => by simp at h⟩⟩
              case measure => simp [intOf]; omega
            · go_wp2
              refine wp_region_grow0 (by kernel_rfl) (by kernel_rfl) ?_
              repeat (go_big_quiet_step (((go_at_call 23; refine grow_of (moduleOf_ok Q2.out ba bn bc _ _ hok (hSf.mono (X.fr (by (repeat (first | exact X.refl _ | assumption | refine X.ext ?_ _ | refine X.alloc ?_ _ | refine X.drew ?_))) _)) (hGr.mono (by (repeat (first | exact X.refl _ | assumption | refine X.ext ?_ _ | refine X.alloc ?_ _ | refine X.drew ?_)))))))))
              refine wpQuiet_nil ?_
              rintro _ ⟨y, rfl⟩
              generalize y = y1
              go_wp2
              refine wp_region_grow0 (by kernel_rfl) (by kernel_rfl) ?_
              repeat (go_big_quiet_step (((go_at_call 23; refine grow_of (moduleOf_ok Q2.out ba bn bc _ _ hok (hSf.mono (X.fr (by (repeat (first | exact X.refl _ | assumption | refine X.ext ?_ _ | refine X.alloc ?_ _ | refine X.drew ?_))) _)) (hGr.mono (by (repeat (first | exact X.refl _ | assumption | refine X.ext ?_ _ | refine X.alloc ?_ _ | refine X.drew ?_)))))))))
              refine wpQuiet_nil ?_
              rintro _ ⟨y, rfl⟩
              obtain ⟨z, hz⟩ := (((X.refl wr).ext y1).ext y)
              rw [hz]
              clear hz
              have hsz := Lib.hid (P2.out He.out (by simpa using c0) (by trivial))
              clear c0 c1 c2 c3 c4
              go_wp2
              refine wp_region_grow0 (by kernel_rfl) (by kernel_rfl) ?_
              repeat (go_big_quiet_step (((first | (go_at_call_of 24 b6; refine grow_of (SizeOf_c bd b6 _ _ _ _ (hSb.mono (X.fr (by (repeat (first | exact X.refl _ | assumption | refine X.ext ?_ _ | refine X.alloc ?_ _ | refine X.drew ?_))) _)) g4 (hGr.mono (by (repeat (first | exact X.refl _ | assumption | refine X.ext ?_ _ | refine X.alloc ?_ _ | refine X.drew ?_)))))) | (go_at_call_of 24 ba; refine grow_of (SizeOf_c f.body ba _ _ _ _ (hSf.mono (X.fr (by (repeat (first | exact X.refl _ | assumption | refine X.ext ?_ _ | refine X.alloc ?_ _ | refine X.drew ?_))) _)) g5 (hGr.mono (by (repeat (first | exact X.refl _ | assumption | refine X.ext ?_ _ | refine X.alloc ?_ _ | refine X.drew ?_))))))))))
              refine wpQuiet_nil ?_
              rintro _ ⟨y, rfl⟩
              go_wp2
              go_ret
              exact ⟨by simp [hsz.out], hxw8.trans (hX.trans (by (repeat (first | exact X.refl _ | assumption | refine X.ext ?_ _ | refine X.alloc ?_ _ | refine X.drew ?_))))⟩
        · obtain ⟨p1, p2⟩ := P1.out He.out (by simpa using c4)
          subst p1
          go_wp2
          refine wp_region_grow0 (by kernel_rfl) (by kernel_rfl) ?_
          repeat (go_big_quiet_step (((go_at_call 23; refine grow_of (moduleOf_ok Q2.out ba bn bc _ _ hok (hSf.mono (X.fr (by (repeat (first | exact X.refl _ | assumption | refine X.ext ?_ _ | refine X.alloc ?_ _ | refine X.drew ?_))) _)) (hGr.mono (by (repeat (first | exact X.refl _ | assumption | refine X.ext ?_ _ | refine X.alloc ?_ _ | refine X.drew ?_)))))))))
          refine wpQuiet_nil ?_
          rintro _ ⟨y, rfl⟩
          go_wp2_with fail
          refine (equalBody_c bd d.body b6 sa _ _ c6 sc _ _ _ (hSb.mono (X.fr (by (repeat (first | exact X.refl _ | assumption | refine X.ext ?_ _ | refine X.alloc ?_ _ | refine X.drew ?_))) _)) (hSk.mono (X.fr (by (repeat (first | exact X.refl _ | assumption | refine X.ext ?_ _ | refine X.alloc ?_ _ | refine X.drew ?_))) _))).mono ?_
          rintro _ w9 ⟨rfl, hx9⟩
          rw [decide_eq_true p2]
          go_wp2
          go_ret
          exact ⟨by simp, hxw8.trans (hX.trans (X.trans (by (repeat (first | exact X.refl _ | assumption | refine X.ext ?_ _ | refine X.alloc ?_ _ | refine X.drew ?_))) hx9))⟩
      · obtain rfl : k = n := by omega
        have hSf := hS8.mono (hX.fr _)
        have hSb := hSb8.mono (hX.fr _)
        have hGr := hG8.mono hX
        have hh := Lib.hid (G3.out (fun c hc => by
          obtain ⟨j, hj, rfl⟩ := List.getElem_of_mem hc
          rw [← nth_eq hj]
          exact hpre j (by rw [Hl.out]; exact hj)))
        clear hpre
        go_wp2
        refine wp_region_grow0 (by kernel_rfl) (by kernel_rfl) ?_
        repeat (go_big_quiet_step (((first | (go_at_call_of 25 b6; refine grow_of (HashOf_c bd b6 _ _ _ _ (hSb.mono (X.fr (by (repeat (first | exact X.refl _ | assumption | refine X.ext ?_ _ | refine X.alloc ?_ _ | refine X.drew ?_))) _)) g4 (hGr.mono (by (repeat (first | exact X.refl _ | assumption | refine X.ext ?_ _ | refine X.alloc ?_ _ | refine X.drew ?_)))))) | (go_at_call_of 25 ba; refine grow_of (HashOf_c f.body ba _ _ _ _ (hSf.mono (X.fr (by (repeat (first | exact X.refl _ | assumption | refine X.ext ?_ _ | refine X.alloc ?_ _ | refine X.drew ?_))) _)) g5 (hGr.mono (by (repeat (first | exact X.refl _ | assumption | refine X.ext ?_ _ | refine X.alloc ?_ _ | refine X.drew ?_))))))))))
        refine wpQuiet_nil ?_
        rintro _ ⟨y, rfl⟩
        go_wp2
        go_ret
        exact ⟨by simp [hh.out], hxw8.trans (hX.trans (by (repeat (first | exact X.refl _ | assumption | refine X.ext ?_ _ | refine X.alloc ?_ _ | refine X.drew ?_))))⟩

end Go.Proofs.YtebnjkjllinabaaDoor
