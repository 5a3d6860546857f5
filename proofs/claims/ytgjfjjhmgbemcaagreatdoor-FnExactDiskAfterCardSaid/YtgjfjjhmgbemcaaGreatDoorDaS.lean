/- The disk after a session's acts, the reference's: the walk. No condition but lengths. -/
import Derived.Test.YtgjfjjhmgbemcaaGreatDoorChgT
namespace Go.Proofs.YtgjfjjhmgbemcaaGreatDoor
open Go.RowKit

theorem newDisk_c (w : World) : Calls Tryz.prog 60 #[] w fun e w' => e = .returned (.agg #[.slice none 0 0, .int .i64 0, .slice none 0 0]) ∧ X w w' := by
  go_enter Tryz.func60, Tryz.ntmps60
  go_wp2
  obtain ⟨_, c9, _⟩ := (Bx.new w #[.slice none 0 0, .int .i64 0, .slice none 0 0] 38).out
  have q0 := c9 0
  have q1 := c9 1
  have q2 := c9 2
  clear c9
  refine bodyPost_ret (v := .agg #[.slice none 0 0, .int .i64 0, .slice none 0 0]) (by simp [results, Tryz.results60, go_sem, Result.andThen, q0, q1, q2]) rfl ?_
  exact ⟨rfl, (X.refl w).alloc _⟩
/-- What is left of a disk after acts. -/
def DaP (w w' : World) (t : Int) (l : List Ac) (e : Ending) : Prop :=
  ∃ v, e = .returned v ∧ DkO w' w.heap.size v (aftR t l).l (aftR t l).kk (aftR t l).dl ∧ X w w'
theorem DaP.zero0 {w W : World} {t : Int} {l : List Ac} (h : aftB t l = false) (hX : X w W) : DaP w (((W.setCell ⟨w.heap.size, 0, none⟩ (.slice none 0 0)).setCell ⟨w.heap.size, 1, none⟩ (.int .i64 0)).setCell ⟨w.heap.size, 2, none⟩ (.slice none 0 0)) t l (.returned (.agg #[.slice none 0 0, .int .i64 0, .slice none 0 0])) := by
  have hx := x_set3 (b := w.heap.size) hX (Nat.le_refl _) (.slice none 0 0) (.int .i64 0) (.slice none 0 0)
  unfold DaP
  rw [show aftR t l = dk0 from if_neg (by rw [h]; simp)]
  exact ⟨_, rfl, DkO.zero _ _ hx.size, hx⟩
set_option maxRecDepth 100000 in
set_option maxHeartbeats 8000000 in
theorem DiskAfter_s (l : List Ac) (a : Option Addr) (n c B : Nat) (t : Int) (w : World) (hA : ActsAt w B a n l) :
    Calls Tryz.prog 22 #[.slice a n c, .int .i64 t] w fun e w' => DaP w w' t l e := by
  go_enter Tryz.func22, Tryz.ntmps22
  go_upto_region 1 with fail
  refine wp_name (fun W0 hW0 => ?_)
  have hR0 : Bx W0 w.heap.size #[.slice none 0 0, .int .i64 0, .slice none 0 0] := by rw [hW0]; exact Bx.new _ _ _
  have hX0 : X w W0 := by rw [hW0]; (repeat (first | with_reducible exact X.refl _ | with_reducible assumption | with_reducible refine X.setCell ?_ (by first | (simp; done) | (simp; omega)) _ | with_reducible refine X.ext ?_ _ | with_reducible refine X.alloc ?_ _ | with_reducible refine X.drew ?_))
  clear hW0
  go_wp2_with fail
  refine (validActs_s l a n c B W0 (hA.mono (hX0.fr _))).mono ?_
  rintro _ w1 ⟨rfl, hx1⟩
  have hR1 := hR0.x hx1
  have hX1 := hX0.trans hx1
  cases h1 : actsB l
  · obtain ⟨ltr, cr, fr⟩ := hR1.out
    have r0 := cr 0
    have r1 := cr 1
    have r2 := cr 2
    have fr0 := fr 0
    have fr1 := fr 1
    have fr2 := fr 2
    clear cr fr
    go_wp2
    obtain ⟨_, c9, _⟩ := (Bx.set (Bx.set (Bx.set hR1 0 (.slice none 0 0)) 1 (.int .i64 0)) 2 (.slice none 0 0)).out
    have q0 := c9 0
    have q1 := c9 1
    have q2 := c9 2
    clear c9
    refine bodyPost_ret (v := .agg #[.slice none 0 0, .int .i64 0, .slice none 0 0]) (by simp [results, Tryz.results22, go_sem, Result.andThen, q0, q1, q2]) rfl ?_
    exact DaP.zero0 (by rw [aftB, h1]; rfl) hX1
  cases h2 : rangeB t 0 4
  · obtain ⟨ltr, cr, fr⟩ := hR1.out
    have r0 := cr 0
    have r1 := cr 1
    have r2 := cr 2
    have fr0 := fr 0
    have fr1 := fr 1
    have fr2 := fr 2
    clear cr fr
    go_wp2_with (go_at_call 40; refine (inRange_c t 0 4 _).mono ?_; rintro _ _ ⟨rfl, rfl⟩; rw [h2])
    obtain ⟨_, c9, _⟩ := (Bx.set (Bx.set (Bx.set hR1 0 (.slice none 0 0)) 1 (.int .i64 0)) 2 (.slice none 0 0)).out
    have q0 := c9 0
    have q1 := c9 1
    have q2 := c9 2
    clear c9
    refine bodyPost_ret (v := .agg #[.slice none 0 0, .int .i64 0, .slice none 0 0]) (by simp [results, Tryz.results22, go_sem, Result.andThen, q0, q1, q2]) rfl ?_
    exact DaP.zero0 (by rw [aftB, h1, h2]; rfl) hX1
  obtain ⟨ht0, ht4⟩ := rangeB_iff.1 h2
  have Haf := Lib.hid (show aftB t l = true by rw [aftB, h1, h2]; rfl)
  have Hn20 := Lib.hid (acts_20 h1)
  have Hnl := Lib.hid hA.len.1
  go_upto_region 3 with (go_at_call 40; refine (inRange_c t 0 4 _).mono ?_; rintro _ _ ⟨rfl, rfl⟩; rw [h2])
  clear h1 h2
  go_wp2_with fail
  refine (newDisk_c w1).mono ?_
  rintro _ w3 ⟨rfl, hx3⟩
  go_upto_region 4 with fail
  refine wp_name (fun W5 hW5 => ?_)
  have hB5 : Bx W5 w3.heap.size #[.slice none 0 0, .int .i64 0, .slice none 0 0] := by rw [hW5]; exact Bx.new _ _ _
  have hX5 : X w3 W5 := by rw [hW5]; exact (X.refl w3).alloc _
  have hz5 : W5.heap.size = w3.heap.size + 1 := by rw [hW5]; simp
  clear hW5
  have hX3 := hX1.trans hx3
  have hR3 := hR1.x hx3
  have hs3 := hX3.size
  have hsr := hR0.out.1
  have hs13 := (hx1.trans hx3).size
  have hA3 := hA.mono (hX3.fr _)
  have Hz5 := Lib.hid hz5
  clear hz5
  go_wp2
  go_loopw [6, 7, 8] (fun i _ _ wr => ∃ k : Nat, k ≤ n ∧ i = .int .i64 k ∧ ∃ d fa fc da dc, d = aftD t l k ∧ Bx wr w3.heap.size #[.slice fa d.l.length fc, .int .i64 d.kk, .slice da d.dl.length dc] ∧ DkO wr (w3.heap.size + 1) (.agg #[.slice fa d.l.length fc, .int .i64 d.kk, .slice da d.dl.length dc]) d.l d.kk d.dl ∧ DkI d k ∧ X w3 wr) (fun i _ _ _ => n - (intOf i).toNat)
  case atStart => exact ⟨0, by omega, rfl, dk0, none, 0, none, 0, rfl, hB5, DkO.zero _ _ (by have := Hz5.out; omega), DkI.zero, hX5⟩
  case round =>
    obtain ⟨k, hk, rfl, d, fa, fc, da, dc, hd, hB5, hDk, hI, hX⟩ := hrel
    replace hd := Lib.hid hd
    by_cases hlt : k < n
    · obtain ⟨b, off, ba, bn, bc, rfl, hok, hbc, hS, hE⟩ := (hA3.mono (hX.fr _)).ever hlt
      have hk1 : (k : Int) < (n : Int) := by omega
      have hnx := Lib.hid (show aftD t l (k + 1) = stepD t d (nth l k) by rw [hd.out]; exact aftD_next (by have := Hnl.out; omega))
      have hk20 : k < 20 := by have := Hnl.out; have := Hn20.out; omega
      obtain ⟨k0, k1, k2, k3, k4, k5, k6, k7, k8⟩ := hE wr (X.refl _)
      by_cases h3 : (nth l k).kind = 3
      · go_wp2
        go_roundw
        case rel => exact ⟨k + 1, by omega, by go_num, d, fa, fc, da, dc, by rw [hnx.out, step_3 h3], hB5, hDk, hI.up, hX⟩
        case measure => simp [intOf]; omega
      obtain ⟨bb, hbb⟩ : ∃ bb, chgB d (nth l k) t = bb := ⟨_, rfl⟩
      obtain ⟨R, hR⟩ : ∃ R, chgR d (nth l k) t = R := ⟨_, rfl⟩
      have hchg : ∀ W, X wr W → Calls Tryz.prog 61 #[.agg #[.slice fa d.l.length fc, .int .i64 d.kk, .slice da d.dl.length dc], .agg #[.int .i64 ((nth l k)).kind, .int .i64 ((nth l k)).file.root, .string ⟨((nth l k)).file.pkg.toArray⟩, .string ⟨((nth l k)).file.name.toArray⟩, .bool ((nth l k)).file.init, .int .i64 ((nth l k)).file.stamp, .slice ba bn bc, .int .i64 ((nth l k)).idx, .string ⟨((nth l k)).name.toArray⟩], .int .i64 t] W fun e w' => ∃ ya yc yda ydc, e = .returned (.tuple #[.agg #[.slice ya R.l.length yc, .int .i64 R.kk, .slice yda R.dl.length ydc], .bool bb]) ∧ DkO w' W.heap.size (.agg #[.slice ya R.l.length yc, .int .i64 R.kk, .slice yda R.dl.length ydc]) R.l R.kk R.dl ∧ X W w' := by
        intro W hxW
        obtain ⟨fa', fc', da', dc', E1, e, e1, e2, hFE, hDO⟩ := hDk.fr (hxW.fr _)
        obtain ⟨⟨rfl, rfl⟩, rfl, rfl⟩ : (fa = fa' ∧ fc = fc') ∧ da = da' ∧ dc = dc' := by simpa using e
        have i1 := hI.ll
        have i2 := hI.kk
        refine (change_s d.l fa _ fc d.kk d.dl da _ dc (w3.heap.size + 1) (nth l k) ba bn bc B t W (hFE.o.at hI.okl) ((hDO.less e1).at hI.okd) (by omega) hI.ok hI.k0 (by omega) ht0 ht4 hok.1 (hS.mono (hxW.fr _))).mono ?_
        rintro _ w' ⟨_, rfl, hO, hx⟩
        obtain ⟨ya, yc, yda, ydc, E2, rfl, hO2⟩ := id hO
        have hbb2 : chgB ⟨d.l, d.kk, d.dl⟩ (nth l k) t = bb := hbb
        have hR2 : chgR ⟨d.l, d.kk, d.dl⟩ (nth l k) t = R := hR
        rw [hR2] at hO ⊢
        rw [hbb2]
        exact ⟨_, _, _, _, rfl, hO, hx⟩
      have Hbb := Lib.hid hbb
      have HR := Lib.hid hR
      clear hbb hR
      go_wp2_with fail
      clear k0 k1 k2 k3 k4 k5 k6 k7 k8
      refine wp_region_inv (fun L v W => X wr W
          ∧ (L 11 = true → L 10 = true)
          ∧ (L 11 = true → L 8 = true)
          ∧ (L 8 = true → L 7 = true)
          ∧ (L 7 = true → L 6 = true)
          ∧ (L 10 = true → ∃ g, v 10 = .pointer (some ⟨g, 0, none⟩) ∧ wr.heap.size ≤ g ∧ (L 11 = false → W.heap[g]? = some (.cells #[.slice none 0 0, .int .i64 0, .slice none 0 0] 38 (0, 0))))
          ∧ (L 6 = true → ∃ ya yc yda ydc, v 6 = .tuple #[.agg #[.slice ya R.l.length yc, .int .i64 R.kk, .slice yda R.dl.length ydc], .bool bb] ∧ (L 7 = true → v 7 = .tuple #[.agg #[.slice ya R.l.length yc, .int .i64 R.kk, .slice yda R.dl.length ydc], .bool bb]) ∧ (L 8 = true → v 8 = .agg #[.slice ya R.l.length yc, .int .i64 R.kk, .slice yda R.dl.length ydc]) ∧ DkO W wr.heap.size (.agg #[.slice ya R.l.length yc, .int .i64 R.kk, .slice yda R.dl.length ydc]) R.l R.kk R.dl ∧ (L 11 = true → ∃ g, v 10 = .pointer (some ⟨g, 0, none⟩) ∧ wr.heap.size ≤ g ∧ W.heap[g]? = some (.cells #[.slice ya R.l.length yc, .int .i64 R.kk, .slice yda R.dl.length ydc] 38 (0, 0))))
          ∧ (L 0 = true → v 0 = .agg #[.slice fa d.l.length fc, .int .i64 d.kk, .slice da d.dl.length dc])
          ∧ (L 1 = true → v 1 = .slice (some ⟨b, off, none⟩) n c)
          ∧ (L 2 = true → v 2 = .int .i64 k)
          ∧ (L 3 = true → v 3 = .pointer (some ⟨b, off + k * 9, none⟩))
          ∧ (L 4 = true → v 4 = .agg #[.int .i64 ((nth l k)).kind, .int .i64 ((nth l k)).file.root, .string ⟨((nth l k)).file.pkg.toArray⟩, .string ⟨((nth l k)).file.name.toArray⟩, .bool ((nth l k)).file.init, .int .i64 ((nth l k)).file.stamp, .slice ba bn bc, .int .i64 ((nth l k)).idx, .string ⟨((nth l k)).name.toArray⟩])
          ∧ (L 5 = true → v 5 = .int .i64 t)
          ∧ (L 9 = true → v 9 = .bool bb)
          ∧ (L 12 = true → v 12 = .bool bb)) (by kernel_rfl) (by kernel_rfl) ?_ ?_ (l := [(32, 0), (33, 1), (34, 2), (35, 3), (36, 4), (37, 5), (38, 6), (31, 7), (39, 8), (40, 9), (7, 10), (8, 12)]) (by kernel_rfl) (n := 13) rfl ?_
      · intro v
        exact ⟨(X.refl _).drew, fun h => Bool.noConfusion h, fun h => Bool.noConfusion h, fun h => Bool.noConfusion h, fun h => Bool.noConfusion h, fun h => Bool.noConfusion h, fun h => Bool.noConfusion h, fun h => Bool.noConfusion h, fun h => Bool.noConfusion h, fun h => Bool.noConfusion h, fun h => Bool.noConfusion h, fun h => Bool.noConfusion h, fun h => Bool.noConfusion h, fun h => Bool.noConfusion h, fun h => Bool.noConfusion h⟩
      · intro i hi
        have hi' : i = 0 ∨ i = 1 ∨ i = 2 ∨ i = 3 ∨ i = 4 ∨ i = 5 ∨ i = 6 ∨ i = 7 ∨ i = 8 ∨ i = 9 ∨ i = 10 ∨ i = 11 ∨ i = 12 := by
          have : i < 13 := hi
          omega
        clear hi
        rcases hi' with rfl | rfl | rfl | rfl | rfl | rfl | rfl | rfl | rfl | rfl | rfl | rfl | rfl
        all_goals
          intro o ho L v aa W hI hS hL hA K hK
          cases (show some _ = some o from ho)
          obtain ⟨xx, d10, d8, d7, d6, bx, rc, v0, v1, v2, v3, v4, v5, v9, v12⟩ := hI
        · have o5 := hS.old 5 (by kernel_rfl) rfl
          obtain ⟨lt5, ct5, _⟩ := (hB5.x xx).out
          have t0 := ct5 0
          have t1 := ct5 1
          have t2 := ct5 2
          clear ct5
          clear hS ho hA
          go_simp
          exact hK _ W ⟨xx, d10, d8, d7, d6, bx, rc, fun _ => rfl, v1, v2, v3, v4, v5, v9, v12⟩
        · have o0 := hS.old 0 (by kernel_rfl) rfl
          clear hS ho hA
          go_simp
          exact hK _ W ⟨xx, d10, d8, d7, d6, bx, rc, v0, fun _ => rfl, v2, v3, v4, v5, v9, v12⟩
        · have o6 := hS.old 6 (by kernel_rfl) rfl
          clear hS ho hA
          go_simp
          exact hK _ W ⟨xx, d10, d8, d7, d6, bx, rc, v0, v1, fun _ => rfl, v3, v4, v5, v9, v12⟩
        · have l1 : L 1 = true := hA ⟨1, .data⟩ (by simp) rfl
          have g1 := hS.get 1 33 rfl l1 (v1 l1)
          have l2 : L 2 = true := hA ⟨2, .data⟩ (by simp) rfl
          have g2 := hS.get 2 34 rfl l2 (v2 l2)
          clear hS ho hA
          go_simp
          exact hK _ W ⟨xx, d10, d8, d7, d6, bx, rc, v0, v1, v2, fun _ => rfl, v4, v5, v9, v12⟩
        · have l3 : L 3 = true := hA ⟨3, .data⟩ (by simp) rfl
          have g3 := hS.get 3 35 rfl l3 (v3 l3)
          obtain ⟨k0, k1, k2, k3, k4, k5, k6, k7, k8⟩ := hE W xx
          clear hS ho hA
          go_simp
          exact hK _ W ⟨xx, d10, d8, d7, d6, bx, rc, v0, v1, v2, v3, fun _ => rfl, v5, v9, v12⟩
        · have o1 := hS.old 1 (by kernel_rfl) rfl
          clear hS ho hA
          go_simp
          exact hK _ W ⟨xx, d10, d8, d7, d6, bx, rc, v0, v1, v2, v3, v4, fun _ => rfl, v9, v12⟩
        · have l0 : L 0 = true := hA ⟨0, .data⟩ (by simp) rfl
          have g0 := hS.get 0 32 rfl l0 (v0 l0)
          have l4 : L 4 = true := hA ⟨4, .data⟩ (by simp) rfl
          have g4 := hS.get 4 36 rfl l4 (v4 l4)
          have l5 : L 5 = true := hA ⟨5, .data⟩ (by simp) rfl
          have g5 := hS.get 5 37 rfl l5 (v5 l5)
          have n11 : L 11 = false := by rcases h : L 11 with _ | _; (· rfl); (· have := d6 (d7 (d8 h)); simp [hL] at this)
          clear hS ho hA
          go_simp
          refine (hchg W xx).mono ?_
          rintro _ w' ⟨ya, yc, yda, ydc, rfl, hO, hx⟩
          exact hK _ w' ⟨xx.trans hx, d10, d8, d7, fun _ => rfl, fun h => let ⟨g, e, hg, hb⟩ := bx h; ⟨g, e, hg, fun h => at_x2' (hb h) hx⟩, fun _ => ⟨ya, yc, yda, ydc, rfl, fun h => Bool.noConfusion (hL.symm.trans (d6 h)), fun h => Bool.noConfusion (hL.symm.trans (d6 (d7 h))), hO.less xx.size, fun h => Bool.noConfusion (n11.symm.trans h)⟩, v0, v1, v2, v3, v4, v5, v9, v12⟩
        · have l6 : L 6 = true := hA ⟨6, .data⟩ (by simp) rfl
          obtain ⟨ya, yc, yda, ydc, e6, e7, e8, hO, hf⟩ := rc l6
          have g6 := hS.get 6 38 rfl l6 e6
          clear hS ho hA
          go_simp
          exact hK _ W ⟨xx, d10, d8, fun _ => rfl, fun _ => l6, bx, fun _ => ⟨ya, yc, yda, ydc, e6, fun _ => rfl, e8, hO, hf⟩, v0, v1, v2, v3, v4, v5, v9, v12⟩
        · have l7 : L 7 = true := hA ⟨7, .data⟩ (by simp) rfl
          have l6 := d6 l7
          obtain ⟨ya, yc, yda, ydc, e6, e7, e8, hO, hf⟩ := rc l6
          have g7 := hS.get 7 31 rfl l7 (e7 l7)
          clear hS ho hA
          go_simp
          exact hK _ W ⟨xx, d10, fun _ => rfl, fun _ => l7, d6, bx, fun _ => ⟨ya, yc, yda, ydc, e6, e7, fun _ => rfl, hO, hf⟩, v0, v1, v2, v3, v4, v5, v9, v12⟩
        · have l7 : L 7 = true := hA ⟨7, .data⟩ (by simp) rfl
          obtain ⟨ya, yc, yda, ydc, e6, e7, e8, hO, hf⟩ := rc (d6 l7)
          have g7 := hS.get 7 31 rfl l7 (e7 l7)
          clear hS ho hA
          go_simp
          exact hK _ W ⟨xx, d10, d8, d7, d6, bx, rc, v0, v1, v2, v3, v4, v5, fun _ => rfl, v12⟩
        · have n11 : L 11 = false := by rcases h : L 11 with _ | _; (· rfl); (· have := d10 h; simp [hL] at this)
          clear hS ho hA
          go_simp
          exact hK _ _ ⟨xx.alloc _, fun _ => rfl, d8, d7, d6, fun _ => ⟨_, rfl, xx.size, fun _ => heap_alloc_new _ _⟩, fun h => let ⟨ya, yc, yda, ydc, e6, e7, e8, hO, hf⟩ := rc h; ⟨ya, yc, yda, ydc, e6, e7, e8, hO.fr (((X.refl W).alloc _).fr _), fun h => Bool.noConfusion (n11.symm.trans h)⟩, v0, v1, v2, v3, v4, v5, v9, v12⟩
        · have l8 : L 8 = true := hA ⟨8, .data⟩ (by simp) rfl
          have l10 : L 10 = true := hA ⟨10, .data⟩ (by simp) rfl
          have l6 := d6 (d7 l8)
          obtain ⟨ya, yc, yda, ydc, e6, e7, e8, hO, hf⟩ := rc l6
          obtain ⟨g, e10, hg, hb0⟩ := bx l10
          have hb := hb0 hL
          have g8 := hS.get 8 39 rfl l8 (e8 l8)
          have g10 := hS.get 10 7 rfl l10 e10
          obtain ⟨lb, cb, fb0⟩ := Bx.out ⟨_, hb⟩
          have f0 := fb0 0
          have f1 := fb0 1
          have f2 := fb0 2
          have c0 := cb 0
          have c1 := cb 1
          have c2 := cb 2
          clear fb0 cb
          clear hS ho hA
          go_simp
          exact hK undef _ ⟨x_set3 xx hg _ _ _, fun _ => l10, fun _ => l8, d7, d6, fun _ => ⟨g, e10, hg, fun h => Bool.noConfusion h⟩, fun _ => ⟨ya, yc, yda, ydc, e6, e7, e8, ((hO.far hb (by decide) (by decide) (by decide) (by decide) _ _).far (heap_set1 hb) (by decide) (by decide) (by decide) (by decide) _ _).far (heap_set2 hb) (by decide) (by decide) (by decide) (by decide) _ _, fun _ => ⟨g, e10, hg, heap_set3 hb _ _ _⟩⟩, v0, v1, v2, v3, v4, v5, v9, v12⟩
        · have l9 : L 9 = true := hA ⟨9, .data⟩ (by simp) rfl
          have g9 := hS.get 9 40 rfl l9 (v9 l9)
          clear hS ho hA
          go_simp
          exact hK _ W ⟨xx, d10, d8, d7, d6, bx, rc, v0, v1, v2, v3, v4, v5, v9, fun _ => rfl⟩
      intro v W9 hI
      obtain ⟨xx, d10, d8, d7, d6, bx, rc, v0, v1, v2, v3, v4, v5, v9, v12⟩ := hI
      have e0 := v0 rfl
      have e1 := v1 rfl
      have e2 := v2 rfl
      have e3 := v3 rfl
      have e4 := v4 rfl
      have e5 := v5 rfl
      have e9 := v9 rfl
      have e12 := v12 rfl
      clear v0 v1 v2 v3 v4 v5 v9 v12
      obtain ⟨ya, yc, yda, ydc, e6, e7, e8, hO, hf⟩ := rc rfl
      obtain ⟨g, e10, hg, hb⟩ := hf rfl
      replace e7 := e7 rfl
      replace e8 := e8 rfl
      clear rc hf bx d10 d8 d7 d6
      simp only [putL, List.foldl, List.setIfInBounds_toArray, List.set_cons_zero, List.set_cons_succ, e0, e1, e2, e3, e4, e5, e9, e12, e6, e7, e8, e10]
      clear e0 e1 e2 e3 e4 e5 e9 e12
      clear e6 e7 e8 e10
      have hXW := hX.trans xx
      cases hbv : bb
      · have hst := step_n h3 (Hbb.out.trans hbv)
        go_wp2
        go_roundw
        case rel => exact ⟨k + 1, by omega, by go_num, d, fa, fc, da, dc, by rw [hnx.out, hst], hB5.x xx, hDk.fr (xx.fr _), hI.up, hXW⟩
        case measure => simp [intOf]; omega
      · have hcc := Hbb.out.trans hbv
        have hst := step_c h3 hcc
        have hR2 := Lib.hid (show R = chgD d (nth l k) t from HR.out.symm.trans (chgR_c hcc))
        obtain ⟨ltg, cg, _⟩ := Bx.out ⟨_, hb⟩
        have g0 := cg 0
        have g1 := cg 1
        have g2 := cg 2
        obtain ⟨ltr, cr, fr⟩ := (hB5.x xx).out
        have r0 := cr 0
        have r1 := cr 1
        have r2 := cr 2
        have fr0 := fr 0
        have fr1 := fr 1
        have fr2 := fr 2
        clear cg cr fr
        go_wp2
        go_roundw
        case rel =>
          have hwr := hX.size
          have hlt5 := hB5.out.1
          exact ⟨k + 1, by omega, by go_num, R, ya, yc, yda, ydc, by rw [hnx.out, hst, hR2.out], bx_set3 (hB5.x xx) _ _ _, (hO.fr (fr_set3 hlt5 _ _ _)).less (by omega), by rw [hR2.out]; exact hI.chg hok.1 (by have := hS.1; have := hS.2.1; omega) hS.2.2.1 (by omega) ht0 ht4 hcc, x_set3 (b := w3.heap.size) hXW (Nat.le_refl _) _ _ _⟩
        case measure => simp [intOf]; omega
    · have hk1 : ¬ (k : Int) < (n : Int) := by omega
      obtain rfl : k = n := by omega
      obtain ⟨ltg, cg, _⟩ := hB5.out
      have g0 := cg 0
      have g1 := cg 1
      have g2 := cg 2
      have hRr := hR3.x hX
      obtain ⟨ltr, cr, fr⟩ := hRr.out
      have r0 := cr 0
      have r1 := cr 1
      have r2 := cr 2
      have fr0 := fr 0
      have fr1 := fr 1
      have fr2 := fr 2
      clear cg cr fr
      go_wp2
      obtain ⟨_, c9, _⟩ := (bx_set3 hRr (.slice fa d.l.length fc) (.int .i64 d.kk) (.slice da d.dl.length dc)).out
      have q0 := c9 0
      have q1 := c9 1
      have q2 := c9 2
      clear c9
      refine bodyPost_ret (v := .agg #[.slice fa d.l.length fc, .int .i64 d.kk, .slice da d.dl.length dc]) (by simp [results, Tryz.results22, go_sem, Result.andThen, q0, q1, q2]) rfl ?_
      obtain ⟨j1, j2⟩ := dk_end (b := w.heap.size) (hX3.trans hX) (Nat.le_refl _) (by omega) hDk
      have haf : aftR t l = d := by rw [aftR, if_pos Haf.out, ← aftD_all, hd.out, Hnl.out]
      unfold DaP
      rw [haf]
      exact ⟨_, rfl, j1, j2⟩

end Go.Proofs.YtgjfjjhmgbemcaaGreatDoor
