/- The walk of the law FnLoadBody. -/
import Derived.Test.YtebnjkjllinabaaDoorLbLaw
import Derived.Test.YtebnjkjllinabaaDoorGg
import Derived.Test.YtebnjkjllinabaaDoorGf
import Derived.Test.YtebnjkjllinabaaDoorDrawLb
namespace Go.Proofs.YtebnjkjllinabaaDoor
open Go.RowKit

theorem moduleB_ne {f : Fi} (h : fileB f = true) : moduleB f ≠ [] := by
  have h1 := fileB_nameS h
  intro e
  rw [e] at h1
  exact absurd h1 (by decide)
set_option maxRecDepth 100000 in
set_option maxHeartbeats 4000000 in
theorem FnLoadBody_c (ca : Option Addr) (cn cc : Nat) (w : World) (hC : CodeAt w ca cn cc) (hG : Gm w) :
    Calls Tryd.prog 5 #[.slice ca cn cc] w fun e w' => e = .returned (.bool true) ∧ X w w' := by
  by_cases hbig : 1048576 < cn
  · go_enter Tryd.func5, Tryd.ntmps5
    go_wp2
    go_ret
    exact ⟨by simp, by (repeat (first | exact X.refl _ | assumption | refine X.ext ?_ _ | refine X.alloc ?_ _ | refine X.drew ?_))⟩
  · go_enter Tryd.func5, Tryd.ntmps5
    go_wp2_with fail
    refine (DrawLoadBody_c ca cn cc _ hC (by omega)).mono ?_
    rintro _ W1 ⟨l, a, n, c, f, ba, bn, bc, mode, rfl, hD, hok, hS, hbc, hnc, hn11, hbn5, hx1⟩
    go_wp2_with fail
    refine calls_name (fun W2 hW2 => ?_)
    have hB2 : Bx W2 W1.heap.size #[.int .i64 f.root, .string ⟨(f.pkg).toArray⟩, .string ⟨(f.name).toArray⟩, .bool f.init, .int .i64 f.stamp, .slice ba bn bc] := by rw [hW2]; first | exact Bx.new _ _ _ | exact (Bx.new _ _ _).set6 _ _ _ _ _ _
    have hx2 : X W1 W2 := by rw [hW2]; (repeat (first | with_reducible exact X.refl _ | with_reducible assumption | with_reducible refine X.setCell ?_ (by first | (simp; done) | (simp; omega)) _ | with_reducible refine X.ext ?_ _ | with_reducible refine X.alloc ?_ _ | with_reducible refine X.drew ?_))
    clear hW2
    have hxw := hx1.trans hx2
    replace hD := hD.mono (hx2.fr _)
    replace hS := hS.mono (hx2.fr _)
    replace hG := hG.mono hxw
    clear hx1 hx2
    have hbd := loadV_bodyW (f := f) (mode := mode) hD.okC (by have := hS.1; have := hS.2.1; omega) hS.2.2.1
    have hst := loadV_ok (f := f) mode hD.okC hok (by have := hS.1; have := hS.2.1; omega) hS.2.2.1
    have Hgood := Lib.hid (@loadV_good l f mode)
    obtain ⟨V, hV⟩ : ∃ V, loadV l f mode = V := ⟨_, rfl⟩
    obtain ⟨bd, st, had⟩ := V
    rw [hV] at hbd hst
    have HV := Lib.hid hV
    clear hV
    dsimp only at hbd hst
    refine (LoadBody_i l a n c _ f mode ba bn bc _ W2 hD hok hS hG).mono ?_
    rw [HV.out]
    rintro _ W3 ⟨b6, c6, r6, rc6, B1, E1, E2, rfl, hO6, hC6, _, _, _, _, _, hx3⟩
    dsimp only at hO6 hC6 ⊢
    have hS6 : StmtsAt W3 E2 b6 bd.length bd := ⟨rfl, hbd.1, hbd.2, Sl.of_own hO6⟩
    have hA6 := hC6.o.at hst
    have hB3 := hB2.x hx3
    obtain ⟨t0, t1, t2, t3, t4, t5⟩ := keepT hB3
    have hlT := hB3.lt
    clear hO6 hC6 hB2
    go_wp2_with fail
    refine (LoadBody_s l a n c _ f mode ba bn bc _ W3 (hD.mono (hx3.fr _)) hok (hS.mono (hx3.fr _))).mono ?_
    rw [HV.out]
    dsimp only
    rintro _ W4 ⟨b7, c7, r7, rc7, rfl, hS7, hA7, hx4⟩
    replace hS6 := hS6.mono (hx4.fr _)
    replace hA6 := hA6.mono (hx4.fr _)
    replace hB3 := hB3.x hx4
    have hx24 := hx3.trans hx4
    clear t0 t1 t2 t3 t4 t5 hlT
    go_wp2_with fail
    refine (equalBody_c bd bd b6 b7 _ _ c6 c7 _ _ W4 hS6 hS7).mono ?_
    rintro _ W5 ⟨rfl, hx5⟩
    rw [decide_eq_true (rfl : bd = bd)]
    go_wp2_with fail
    refine (equalStore_c st st r6 r7 _ _ rc6 rc7 _ _ W5 (hA6.mono (hx5.fr _)) (hA7.mono (hx5.fr _))).mono ?_
    rintro _ W6 ⟨rfl, hx6⟩
    rw [decide_eq_true (rfl : st = st)]
    have hx26 := (hx24.trans hx5).trans hx6
    have hx46 := hx5.trans hx6
    replace hB3 := hB3.x hx46
    clear hx3 hx4 hx5 hx6 hx24
    go_wp2_with fail
    refine (ValidStore_c l a n c _ W6 (hD.mono (hx26.fr _)) (hG.mono hx26)).mono ?_
    rintro _ W7 ⟨rfl, hx7⟩
    have hx27 := hx26.trans hx7
    have hx47 := hx46.trans hx7
    replace hB3 := hB3.x hx7
    clear hx26 hx46 hx7
    obtain ⟨t0, t1, t2, t3, t4, t5⟩ := keepT hB3
    have hlT := hB3.lt
    cases q1 : storeB l
    · go_wp2_with fail
      refine (equalBody_c bd bd b6 b7 _ _ c6 c7 _ _ W7 (hS6.mono ((hx47).fr _)) (hS7.mono ((hx47).fr _))).mono ?_
      rintro _ w9 ⟨rfl, hx9⟩
      rw [decide_eq_true (rfl : bd = bd)]
      go_wp2_with fail
      refine (equalStore_c st st r6 r7 _ _ rc6 rc7 _ _ w9 (hA6.mono (((hx47).trans hx9).fr _)) (hA7.mono (((hx47).trans hx9).fr _))).mono ?_
      rintro _ w10 ⟨rfl, hx10⟩
      rw [decide_eq_true (rfl : st = st)]
      go_wp2
      go_ret
      exact ⟨by simp, hxw.trans (((hx27).trans hx9).trans hx10)⟩
    go_wp2_with fail
    refine (ModuleOf_c f ba bn bc _ W7 hok (hS.mono (hx27.fr _)) (hG.mono hx27)).mono ?_
    rintro _ W8 ⟨rfl, hx8⟩
    have hx28 := hx27.trans hx8
    have hx48 := hx47.trans hx8
    replace hB3 := hB3.x hx8
    clear hx27 hx47 hx8 t0 t1 t2 t3 t4 t5 hlT
    cases q2 : fileB f
    · rw [show moduleOf f = [] by rw [moduleOf, q2]; rfl]
      go_wp2_with fail
      refine (equalBody_c bd bd b6 b7 _ _ c6 c7 _ _ W8 (hS6.mono ((hx48).fr _)) (hS7.mono ((hx48).fr _))).mono ?_
      rintro _ w9 ⟨rfl, hx9⟩
      rw [decide_eq_true (rfl : bd = bd)]
      go_wp2_with fail
      refine (equalStore_c st st r6 r7 _ _ rc6 rc7 _ _ w9 (hA6.mono (((hx48).trans hx9).fr _)) (hA7.mono (((hx48).trans hx9).fr _))).mono ?_
      rintro _ w10 ⟨rfl, hx10⟩
      rw [decide_eq_true (rfl : st = st)]
      go_wp2
      go_ret
      exact ⟨by simp, hxw.trans (((hx28).trans hx9).trans hx10)⟩
    rw [moduleOf_eq q2]
    obtain ⟨mx, mxs, hmx⟩ := List.exists_cons_of_ne_nil (moduleB_ne q2)
    have Hmx := Lib.hid hmx
    rw [hmx]
    clear hmx
    by_cases hm0 : mode < 0
    · go_wp2_with fail
      refine (equalBody_c bd bd b6 b7 _ _ c6 c7 _ _ W8 (hS6.mono ((hx48).fr _)) (hS7.mono ((hx48).fr _))).mono ?_
      rintro _ w9 ⟨rfl, hx9⟩
      rw [decide_eq_true (rfl : bd = bd)]
      go_wp2_with fail
      refine (equalStore_c st st r6 r7 _ _ rc6 rc7 _ _ w9 (hA6.mono (((hx48).trans hx9).fr _)) (hA7.mono (((hx48).trans hx9).fr _))).mono ?_
      rintro _ w10 ⟨rfl, hx10⟩
      rw [decide_eq_true (rfl : st = st)]
      go_wp2
      go_ret
      exact ⟨by simp, hxw.trans (((hx28).trans hx9).trans hx10)⟩
    by_cases hm2 : 2 < mode
    · go_wp2_with fail
      refine (equalBody_c bd bd b6 b7 _ _ c6 c7 _ _ W8 (hS6.mono ((hx48).fr _)) (hS7.mono ((hx48).fr _))).mono ?_
      rintro _ w9 ⟨rfl, hx9⟩
      rw [decide_eq_true (rfl : bd = bd)]
      go_wp2_with fail
      refine (equalStore_c st st r6 r7 _ _ rc6 rc7 _ _ w9 (hA6.mono (((hx48).trans hx9).fr _)) (hA7.mono (((hx48).trans hx9).fr _))).mono ?_
      rintro _ w10 ⟨rfl, hx10⟩
      rw [decide_eq_true (rfl : st = st)]
      go_wp2
      go_ret
      exact ⟨by simp, hxw.trans (((hx28).trans hx9).trans hx10)⟩
    have hlo : loadOk l f mode = true := by
      rw [loadOk, q1, q2]
      unfold rangeB
      simp
      omega
    have hvv := HV.out
    rw [loadV_good hlo] at hvv
    injection hvv with e1 hvv
    injection hvv with e2 e3
    obtain ⟨g1, g2, g3, g4⟩ := load_law hlo
    rw [e2] at g1 g2 g4
    rw [e1] at g3
    rw [e3] at g2 g3
    have hD8 := hD.mono (hx28.fr _)
    have hS8 := hS.mono (hx28.fr _)
    have hA8 := hA6.mono (hx48.fr _)
    have hSb8 := hS6.mono (hx48.fr _)
    have hG8 := hG.mono hx28
    have hxw8 := hxw.trans hx28
    have hlen : n ≤ st.length := by rw [hD.len.1]; exact g4
    clear e1 e2 e3 g4 hlo hx28 hx48 HV Hgood hS7 hA7 hS6 hA6 hD hS hG hxw q1 q2 hst hbd
    obtain ⟨t0, t1, t2, t3, t4, t5⟩ := keepT hB3
    have hlT := hB3.lt
    obtain ⟨M, hM⟩ : ∃ M, st.length = M := ⟨_, rfl⟩
    obtain ⟨K, hK⟩ : ∃ K, bd.length = K := ⟨_, rfl⟩
    rw [hM] at hA8 hlen ⊢
    rw [hK] at hSb8 ⊢
    clear hM hK
    go_wp2_with fail
    refine (ValidStore_c st r6 M rc6 _ W8 hA8 hG8).mono ?_
    rintro _ W9 ⟨rfl, hx9⟩
    rw [g1]
    have hB9 := hB3.x hx9
    clear t0 t1 t2 t3 t4 t5 hlT hB3
    obtain ⟨t0, t1, t2, t3, t4, t5⟩ := keepT hB9
    have hlT := hB9.lt
    cases had
    · go_wp2_with fail
      refine (equalBody_c bd f.body b6 ba _ _ c6 bc _ _ W9 (hSb8.mono (hx9.fr _)) (hS8.mono (hx9.fr _))).mono ?_
      rintro _ W10 ⟨rfl, hx10⟩
      rw [decide_eq_true (g3 (by trivial))]
      go_wp2
      go_ret
      exact ⟨by first | rfl | (simp; done) | (simp; omega), (hxw8.trans hx9).trans hx10⟩
    · go_wp2_with fail
      refine (equalStore_c st l r6 a _ _ rc6 c _ _ W9 (hA8.mono (hx9.fr _)) (hD8.mono (hx9.fr _))).mono ?_
      rintro _ W10 ⟨rfl, hx10⟩
      rw [decide_eq_true (g2 (by trivial))]
      go_wp2
      go_ret
      exact ⟨by first | rfl | (simp; done) | (simp; omega), (hxw8.trans hx9).trans hx10⟩

end Go.Proofs.YtebnjkjllinabaaDoor
