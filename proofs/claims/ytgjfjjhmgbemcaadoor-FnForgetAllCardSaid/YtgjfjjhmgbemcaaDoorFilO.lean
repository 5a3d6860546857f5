/- The generators of finders. No condition but that the reader has not read too far. -/
import Derived.Test.YtgjfjjhmgbemcaaDoorFilN
import Derived.Test.YtgjfjjhmgbemcaaDoorNameV
import Derived.Test.YtgjfjjhmgbemcaaDoorAnyDisk
import Derived.Test.YtgjfjjhmgbemcaaDoorCloneD
namespace Go.Proofs.YtgjfjjhmgbemcaaDoor
open Go.RowKit

theorem GrF.y {rb : Nat} {A w w' : World} {v v' : Value} (h : GrF w w' v v') (hv : ∀ b, v.ownBlock = some b → A.heap.size ≤ b) (hy : Y rb A w) : Y rb A w' :=
  ⟨h.1.os.trans hy.os, h.1.tape.trans hy.tape, h.1.output.trans hy.output, Nat.le_trans hy.size h.1.size, fun k hk hne => (h.1.block k (Nat.lt_of_lt_of_le hk hy.size) (fun e => by have := hv k e.symm; omega)).trans (hy.block k hk hne)⟩
theorem DF.fr {w w' : World} {B n c dn dc : Nat} {a da : Option Addr} {l : List Fi} {dl : List Di} {v : Value} (h : DF w B a n c da dn dc l dl v) (hx : Fr B w w') : DF w' B a n c da dn dc l dl v := ⟨h.1.fr hx, h.2.1.fr hx, h.2.2⟩
theorem DkV.gr {w w' : World} {B n c dn dc B2 fn fc : Nat} {kk : Int} {a da fa : Option Addr} {l : List Fi} {dl fl : List Di} {v' : Value} (h : DkV w B a n c kk da dn dc l dl) (ha : Apt (.slice da dn dc) (.slice fa fn fc)) (hf : DirsO w B2 fa fn fc fl) (hg : GrF w w' (.slice fa fn fc) v') : DkV w' B a n c kk da dn dc l dl :=
  ⟨h.1.gr hf hg, h.2.1.gr hf hg ha, h.2.2⟩
theorem DkV.df {w : World} {B n c dn dc : Nat} {kk : Int} {a da : Option Addr} {l : List Fi} {dl : List Di} {v : Value} (h : DkV w B a n c kk da dn dc l dl) (ha : Apt (.slice da dn dc) v) : DF w B a n c da dn dc l dl v :=
  ⟨h.1, h.2.1, h.2.2.2.1, h.2.2.2.2, (disk_parts h.2.2.1).1, ha⟩
theorem DkV.set3t {t : TypeId} {w : World} {B n c dn dc b : Nat} {kk : Int} {a da : Option Addr} {l : List Fi} {dl : List Di} {z0 z1 z2 : Value} (h : DkV w B a n c kk da dn dc l dl) (hT : Tb t w b #[z0, z1, z2]) (h1 : 36 ≠ t) (h2 : 92 ≠ t) (h3 : 71 ≠ t) (h4 : 9 ≠ t) (v0 v1 v2 : Value) : DkV (((w.setCell ⟨b, 0, none⟩ v0).setCell ⟨b, 1, none⟩ v1).setCell ⟨b, 2, none⟩ v2) B a n c kk da dn dc l dl :=
  ((h.far hT h1 h2 h3 h4 0 v0).far (heap_set1 hT) h1 h2 h3 h4 1 v1).far (heap_set2 hT) h1 h2 h3 h4 2 v2
theorem Tb.y {t : TypeId} {rb : Nat} {w w' : World} {b : Nat} {cs : Array Value} (h : Tb t w b cs) (hy : Y rb w w') (hne : b ≠ rb) : Tb t w' b cs := at_y h hy hne
theorem Tk.gr {w w' : World} {b B n c : Nat} {a : Option Addr} {l : List Di} {v' : Value} {cs : Array Value} (h : Tk w b cs) (hf : DirsO w B a n c l) (hg : GrF w w' (.slice a n c) v') : Tk w' b cs := at_gr h hf hg (by decide)
theorem Tf.y {rb : Nat} {w w' : World} {b : Nat} {cs : Array Value} (h : Tf w b cs) (hy : Y rb w w') (hne : b ≠ rb) : Tf w' b cs := at_y h hy hne
theorem FdV.zero (w : World) (B : Nat) : FdV w B none 0 0 0 0 [] := ⟨DirsO.nil w B, okD_nil, by omega, by omega, by omega⟩
theorem FdV.own_ge {w : World} {B n c : Nat} {fi hi : Int} {a : Option Addr} {l : List Di} (h : FdV w B a n c fi hi l) : ∀ b, (Value.slice a n c).ownBlock = some b → B ≤ b := fun b hb => (h.1.blk b hb).1
theorem NextP.fr {w w' : World} {B : Nat} {ok : Bool} {x0 x1 x2 : Value} (h : NextP w B ok x0 x1 x2) (hx : Fr B w w') : NextP w' B ok x0 x1 x2 :=
  ⟨h.1, fun ho => let ⟨a, n, c, kk, da, dn, dc, l, dl, e0, e1, e2, hk⟩ := h.2 ho; ⟨a, n, c, kk, da, dn, dc, l, dl, e0, e1, e2, hk.fr hx⟩⟩

set_option maxRecDepth 100000 in
set_option maxHeartbeats 2000000 in
theorem copyFinder_c (fl : List Di) (fa : Option Addr) (fn fc : Nat) (fi hi : Int) (B : Nat) (w : World) (hV : FdV w B fa fn fc fi hi fl) :
    Calls Tryd.prog 78 #[.agg #[.slice fa fn fc, .int .i64 fi, .int .i64 hi]] w fun e w' => ∃ fa2 fc2, e = .returned (.agg #[.slice fa2 fn fc2, .int .i64 fi, .int .i64 hi]) ∧ FdV w' w.heap.size fa2 fn fc2 fi hi fl ∧ X w w' := by
  go_enter Tryd.func78, Tryd.ntmps78
  go_wp2_with fail
  refine calls_name (fun W0 hW0 => ?_)
  obtain ⟨hB1, hB2, hX⟩ := bx2 hW0
  have hT0 : Tf W0 w.heap.size #[.slice fa fn fc, .int .i64 fi, .int .i64 hi] := by rw [hW0]; exact at_x2' (heap_alloc_new w _) ((X.refl _).alloc _)
  have hR0 : Tf W0 (w.heap.size + 1) #[.slice none 0 0, .int .i64 0, .int .i64 0] := by
    rw [hW0]
    exact tb_new _ _ _ (by simp)
  have hz0 : W0.heap.size = w.heap.size + 2 := by rw [hW0]; simp
  clear hW0
  refine (copyDirs_c fl fa fn fc B W0 (hV.at.mono (hX.fr _))).mono ?_
  rintro _ w1 ⟨ra, rc, rfl, hO, hx1⟩
  have hT1 := hT0.x hx1
  have hR1 := hR0.x hx1
  obtain ⟨ltf, f0, f1, f2, ff0, ff1, ff2⟩ := hT1.cells
  obtain ⟨ltr, r0, r1, r2, fr0, fr1, fr2⟩ := hR1.cells
  go_wp2
  have hne : w.heap.size + 1 ≠ w.heap.size := by omega
  refine act_name (fun W9 hW9 => ?_)
  have hR9 : Tf W9 (w.heap.size + 1) #[.slice ra fn rc, .int .i64 fi, .int .i64 hi] := by rw [hW9]; exact Tf.set3 (Tf.far hR1 (p := ⟨w.heap.size, 0, none⟩) hne _) _ _ _
  have hV9 : FdV W9 w.heap.size ra fn rc fi hi fl := by
    rw [hW9]
    refine FdV.set3 (FdV.far (t := 44) ⟨hO.less (by omega), hV.2⟩ hT1 (by decide) (by decide) 0 _) (Tf.far hR1 (p := ⟨w.heap.size, 0, none⟩) hne _) _ _ _
  have hX9 : X w W9 := by rw [hW9]; exact x_set3 ((hX.trans hx1).setCell (Nat.le_refl _) _) (by omega) _ _ _
  clear hW9
  refine bodyPost_row Tryd.results78 rfl hR9.bx finder_S rfl rfl ?_
  exact ⟨ra, rc, rfl, hV9, hX9⟩

set_option maxRecDepth 100000 in
set_option maxHeartbeats 8000000 in
theorem finderOf_c (rb m : Nat) (w : World) (hr : Rdr w rb m) (hm : m + 800 ≤ 1000000000) :
    Calls Tryd.prog 56 #[.pointer (some ⟨rb, 0, none⟩)] w fun e w' => ∃ fl fa fn fc fi hi a n c kk da dn dc, e = .returned (.tuple #[.agg #[.slice fa fn fc, .int .i64 fi, .int .i64 hi], .agg #[.slice a n c, .int .i64 kk, .slice da dn dc]]) ∧ FdV w' w.heap.size fa fn fc fi hi fl ∧ Rdr w' rb (m + 800) ∧ Y rb w w' := by
  have hlt := hr.lt
  go_enter Tryd.func56, Tryd.ntmps56
  go_wp2_with fail
  refine calls_name (fun W0 hW0 => ?_)
  have hRf0 : Tf W0 w.heap.size #[.slice none 0 0, .int .i64 0, .int .i64 0] := by rw [hW0]; exact (((tb_new w 44 _ rfl).x ((X.refl _).alloc _)).x ((X.refl _).alloc _))
  have hRd0 : Tk W0 (w.heap.size + 1) #[.slice none 0 0, .int .i64 0, .slice none 0 0] := by rw [hW0]; exact ((tb_new (w.alloc (.cells #[.slice none 0 0, .int .i64 0, .int .i64 0] 44)) 28 _ (by simp)).x ((X.refl _).alloc _))
  have hFb0 : Tf W0 (w.heap.size + 1 + 1) #[.slice none 0 0, .int .i64 0, .int .i64 0] := by rw [hW0]; exact tb_new _ 44 _ (by simp)
  have hX0 : X w W0 := by rw [hW0]; (repeat (first | with_reducible exact X.refl _ | with_reducible assumption | with_reducible refine X.setCell ?_ (by first | (simp; done) | (simp; omega)) _ | with_reducible refine X.ext ?_ _ | with_reducible refine X.alloc ?_ _ | with_reducible refine X.drew ?_))
  have hz0 : W0.heap.size = w.heap.size + 3 := by rw [hW0]; simp
  clear hW0
  refine (newDisk_c W0).mono ?_
  rintro _ w1 ⟨rfl, hx1⟩
  have hz1 := hx1.size
  obtain ⟨db, hdb⟩ : ∃ db, w1.heap.size = db := ⟨_, rfl⟩
  go_wp2_with fail
  refine calls_name (fun W1 hW1 => ?_)
  have hDb1 : Tk W1 db #[.slice none 0 0, .int .i64 0, .slice none 0 0] := by
    rw [hW1]
    first
      | exact (tb_new w1 28 _ hdb.symm).x ((X.refl _).alloc _)
      | exact tb_new w1 28 _ hdb.symm
  have hx2 : X w1 W1 := by rw [hW1]; (repeat (first | with_reducible exact X.refl _ | with_reducible assumption | with_reducible refine X.setCell ?_ (by first | (simp; done) | (simp; omega)) _ | with_reducible refine X.ext ?_ _ | with_reducible refine X.alloc ?_ _ | with_reducible refine X.drew ?_))
  have hI1 : ∃ p, IntsAt W1 (rb + 1) p 7 [5, 4, 6, 3, 8, 1, 0] ∧ p = some ⟨w1.heap.size + 1, 0, none⟩ := by
    rw [hW1]
    exact ⟨_, ints_lit (by simp) (by omega) rfl rfl (by decide), rfl⟩
  clear hW1
  obtain ⟨_, hI1, rfl⟩ := hI1
  rw [hdb] at hI1
  have hxw := (hX0.trans hx1).trans hx2
  refine (one_c rb m [5, 4, 6, 3, 8, 1, 0] _ _ _ (rb + 1) W1 (hr.x hxw) (by omega) hI1 (by omega) (by decide)).mono ?_
  rintro _ w2 ⟨n0, rfl, hn0, hr2, hy2⟩
  obtain ⟨N, rfl, hN⟩ : ∃ N : Nat, n0 = N ∧ N ≤ 8 := ⟨n0.toNat, by revert hn0; simp only [List.mem_cons, List.mem_nil_iff, or_false]; omega, by revert hn0; simp only [List.mem_cons, List.mem_nil_iff, or_false]; omega⟩
  have hdz : w.heap.size + 3 ≤ db := by omega
  have hRf := ((hRf0.x hx1).x hx2).y hy2 (by omega)
  have hRd := ((hRd0.x hx1).x hx2).y hy2 (by omega)
  have hFb := ((hFb0.x hx1).x hx2).y hy2 (by omega)
  have hDb := hDb1.y hy2 (by omega)
  have hyw := (Y.of_x (rb := rb) hxw).trans hy2
  clear hRf0 hRd0 hFb0 hDb1 hx1 hx2 hX0 hI1 hxw hn0 hy2 hr hdb
  go_wp2
  go_loopw [6, 7, 8, 9] (fun i _ _ _ wr => ∃ (k : Nat) (fl1 : List Di) (fa1 : Option Addr) (fn1 fc1 : Nat) (fi1 hi1 : Int) (a : Option Addr) (n c : Nat) (kk : Int) (da : Option Addr) (dn dc : Nat) (l : List Fi) (dl : List Di), k ≤ 8 ∧ i = .int .i64 k ∧
      Tf wr w.heap.size #[.slice none 0 0, .int .i64 0, .int .i64 0] ∧ Tk wr (w.heap.size + 1) #[.slice none 0 0, .int .i64 0, .slice none 0 0] ∧ Tf wr (w.heap.size + 1 + 1) #[.slice fa1 fn1 fc1, .int .i64 fi1, .int .i64 hi1] ∧ Tk wr db #[.slice a n c, .int .i64 kk, .slice da dn dc] ∧
      FdV wr w.heap.size fa1 fn1 fc1 fi1 hi1 fl1 ∧ DkV wr w.heap.size a n c kk da dn dc l dl ∧ Apt (.slice da dn dc) (.slice fa1 fn1 fc1) ∧ Rdr wr rb (m + 1 + (8 - k) * 90) ∧ Y rb w wr) (fun i _ _ _ _ => (intOf i).toNat)
  case atStart => exact ⟨N, [], _, _, _, _, _, _, _, _, _, _, _, _, [], [], hN, rfl, hRf, hRd, hFb, hDb, FdV.zero _ _, DkV.zero _ _, .inl rfl, hr2.weak (by omega) (by omega), hyw⟩
  case round =>
    obtain ⟨j, fl1, fa1, fn1, fc1, fi1, hi1, a, n, c, kk, da, dn, dc, l, dl, hj, rfl, hRf1, hRd1, hFb1, hDb1, hV0, hDk1, hA1, hr1, hyw1⟩ := hrel
    clear hRf hRd hFb hDb hr2 hyw
    have hw1 := hyw1.size
    by_cases h0 : 0 < j
    · go_wp2_with fail
      refine (one_c rb _ [1, 1, 1, 0] _ _ _ (rb + 1) _ (hr1.x (by (repeat (first | with_reducible exact X.refl _ | with_reducible assumption | with_reducible refine X.setCell ?_ (by first | (simp; done) | (simp; omega)) _ | with_reducible refine X.ext ?_ _ | with_reducible refine X.alloc ?_ _ | with_reducible refine X.drew ?_)))) (by omega) (ints_lit (by simp) (by omega) rfl rfl (by decide)) (by omega) (by decide)).mono ?_
      rintro _ w3 ⟨ticks, rfl, _, hr2, hy2⟩
      replace hy2 : Y rb wr w3 := (Y.of_x (by (repeat (first | with_reducible exact X.refl _ | with_reducible assumption | with_reducible refine X.setCell ?_ (by first | (simp; done) | (simp; omega)) _ | with_reducible refine X.ext ?_ _ | with_reducible refine X.alloc ?_ _ | with_reducible refine X.drew ?_)))).trans hy2
      go_wp2_with fail
      refine (pick_c rb _ 2 w3 hr2 (by omega) (by omega)).mono ?_
      rintro _ W3 ⟨k2, rfl, hk2, hr3, hy3⟩
      replace hy3 := hy2.trans hy3
      have hRf := hRf1.y hy3 (by omega)
      have hRd := hRd1.y hy3 (by omega)
      have hFb := hFb1.y hy3 (by omega)
      have hDb := hDb1.y hy3 (by omega)
      have hV1 := hV0.fr (hy3.fr.mono (by omega))
      have hDk := hDk1.fr (hy3.fr.mono (by omega))
      have hyw := hyw1.trans hy3
      have hz3 := hyw.size
      have hzd : db < W3.heap.size := hDb.bx.lt
      obtain ⟨mm, hmm, hr3⟩ : ∃ mm, mm ≤ m + 3 + (8 - j) * 90 ∧ Rdr W3 rb mm := ⟨_, by omega, hr3⟩
      clear hRf1 hRd1 hFb1 hDb1 hV0 hDk1 hyw1 hr1 hr2 hy2 hy3
      have hl12 := disk_wt hDk.2.2.1
      have hnl : n = l.length := (hDk.1.at hDk.2.2.2.1).len.1
      have hn12 : n ≤ 12 := by omega
      clear hnl
      by_cases hk0 : k2 = 0
      · subst hk0
        go_wp2
        refine wp_region_inv (fun L v W => (L 6 = false → Y rb W3 W)
            ∧ (L 3 = false → Rdr W rb mm)
            ∧ (L 5 = false → Rdr W rb (mm + 1))
            ∧ Rdr W rb (mm + 5)
            ∧ (L 6 = true → L 3 = true)
            ∧ (L 6 = true → L 5 = true)
            ∧ (L 6 = true → L 0 = true)
            ∧ (L 5 = true → L 3 = true)
            ∧ (L 7 = true → L 6 = true)
            ∧ (L 8 = true → L 7 = true)
            ∧ (L 10 = true → L 8 = true)
            ∧ Y rb w W
            ∧ W3.heap.size ≤ W.heap.size
            ∧ Tf W w.heap.size #[.slice none 0 0, .int .i64 0, .int .i64 0]
            ∧ Tk W (w.heap.size + 1) #[.slice none 0 0, .int .i64 0, .slice none 0 0]
            ∧ Tk W db #[.slice a n c, .int .i64 kk, .slice da dn dc]
            ∧ DkV W w.heap.size a n c kk da dn dc l dl
            ∧ (L 10 = false → Tf W (w.heap.size + 1 + 1) #[.slice fa1 fn1 fc1, .int .i64 fi1, .int .i64 hi1])
            ∧ (L 3 = true → ∃ (path : List Int) (pa : Option Addr) (pn pc : Nat), v 3 = .slice pa pn pc ∧ pn ≤ 3 ∧ (L 6 = false → IntsAt W W3.heap.size pa pn path))
            ∧ (L 5 = true → ∃ x : List UInt8, v 5 = .string ⟨(x).toArray⟩ ∧ nameB x = true)
            ∧ (L 6 = true → ∃ (fl2 : List Di) (fa2 : Option Addr) (fn2 fc2 : Nat) (fi2 hi2 : Int) (sv : Value), v 6 = .tuple #[.agg #[.slice fa2 fn2 fc2, .int .i64 fi2, .int .i64 hi2], sv] ∧ (L 7 = true → v 7 = .tuple #[.agg #[.slice fa2 fn2 fc2, .int .i64 fi2, .int .i64 hi2], sv]) ∧ (L 8 = true → v 8 = .agg #[.slice fa2 fn2 fc2, .int .i64 fi2, .int .i64 hi2]) ∧ FdV W w.heap.size fa2 fn2 fc2 fi2 hi2 fl2 ∧ Apt (.slice da dn dc) (.slice fa2 fn2 fc2) ∧ (L 10 = true → Tf W (w.heap.size + 1 + 1) #[.slice fa2 fn2 fc2, .int .i64 fi2, .int .i64 hi2]))
            ∧ (L 0 = true → v 0 = .agg #[.slice fa1 fn1 fc1, .int .i64 fi1, .int .i64 hi1])
            ∧ (L 1 = true → v 1 = .agg #[.slice a n c, .int .i64 kk, .slice da dn dc])
            ∧ (L 2 = true → v 2 = .pointer (some ⟨rb, 0, none⟩))
            ∧ (L 4 = true → v 4 = .pointer (some ⟨rb, 0, none⟩))) (by kernel_rfl) (by kernel_rfl) ?_ ?_ (l := [(26, 0), (27, 1), (28, 2), (29, 3), (30, 4), (31, 5), (32, 6), (25, 7), (33, 8), (34, 9)]) (by kernel_rfl) (n := 11) rfl ?_
        · intro v
          exact ⟨fun _ => (Y.refl rb W3).drewY, fun _ => hr3.drewY, fun _ => hr3.drewY.weak (by omega) (by omega), hr3.drewY.weak (by omega) (by omega), fun h => Bool.noConfusion h, fun h => Bool.noConfusion h, fun h => Bool.noConfusion h, fun h => Bool.noConfusion h, fun h => Bool.noConfusion h, fun h => Bool.noConfusion h, fun h => Bool.noConfusion h, hyw.trans (Y.refl rb W3).drewY, Nat.le_refl _, hRf.x (X.refl _).drew, hRd.x (X.refl _).drew, hDb.x (X.refl _).drew, hDk.fr ((X.refl _).drew.fr _), fun _ => hFb.x (X.refl _).drew, fun h => Bool.noConfusion h, fun h => Bool.noConfusion h, fun h => Bool.noConfusion h, fun h => Bool.noConfusion h, fun h => Bool.noConfusion h, fun h => Bool.noConfusion h, fun h => Bool.noConfusion h⟩
        · intro i hi
          have hi' : i = 0 ∨ i = 1 ∨ i = 2 ∨ i = 3 ∨ i = 4 ∨ i = 5 ∨ i = 6 ∨ i = 7 ∨ i = 8 ∨ i = 9 ∨ i = 10 := by
            have : i < 11 := hi
            omega
          clear hi
          rcases hi' with rfl | rfl | rfl | rfl | rfl | rfl | rfl | rfl | rfl | rfl | rfl
          all_goals
            intro o ho L v aa W hI hS hL hA K hK
            cases (show some _ = some o from ho)
            obtain ⟨gx, r0, r1, r2, dl3, dl5, dl0, d53, d7, d8, d10, yw, sz, rf, rd, db1, dk, ff, pa, na, rc, v0, v1, v2, v4⟩ := hI
          · have o4 := hS.old 4 (by kernel_rfl) rfl
            have nS : L 6 = false := by rcases h : L 6 with _ | _; (· rfl); (· have := dl0 h; simp [hL] at this)
            have nF : L 10 = false := by rcases h : L 10 with _ | _; (· rfl); (· have := d7 (d8 (d10 h)); simp [nS] at this)
            obtain ⟨ltf, f0, f1, f2, _⟩ := (ff nF).cells
            clear hS ho hA
            go_simp
            exact hK _ W ⟨gx, r0, r1, r2, dl3, dl5, fun _ => rfl, d53, d7, d8, d10, yw, sz, rf, rd, db1, dk, ff, pa, na, rc, fun _ => rfl, v1, v2, v4⟩
          · have o5 := hS.old 5 (by kernel_rfl) rfl
            obtain ⟨ltd, cd, _⟩ := db1.bx.out
            have d0 := cd 0
            have d1 := cd 1
            have d2 := cd 2
            clear cd
            clear hS ho hA
            go_simp
            exact hK _ W ⟨gx, r0, r1, r2, dl3, dl5, dl0, d53, d7, d8, d10, yw, sz, rf, rd, db1, dk, ff, pa, na, rc, v0, fun _ => rfl, v2, v4⟩
          · have o0 := hS.old 0 (by kernel_rfl) rfl
            clear hS ho hA
            go_simp
            exact hK _ W ⟨gx, r0, r1, r2, dl3, dl5, dl0, d53, d7, d8, d10, yw, sz, rf, rd, db1, dk, ff, pa, na, rc, v0, v1, fun _ => rfl, v4⟩
          · have l2 : L 2 = true := hA ⟨2, .data⟩ (by simp) rfl
            have g2 := hS.get 2 28 rfl l2 (v2 l2)
            have nS : L 6 = false := by rcases h : L 6 with _ | _; (· rfl); (· have := dl3 h; simp [hL] at this)
            clear hS ho hA
            go_simp
            refine (somePath_c rb mm W (r0 hL) (by omega)).mono ?_
            rintro _ w' ⟨path, pa', pn, pc, rfl, hI, _, hp3, hr, hy⟩
            exact hK _ w' ⟨fun h => (gx h).trans hy, fun h => Bool.noConfusion h, fun _ => hr, hr.weak (by omega) (by omega), fun _ => rfl, dl5, dl0, fun _ => rfl, d7, d8, d10, yw.trans hy, Nat.le_trans sz hy.size, rf.y hy (by omega), rd.y hy (by omega), db1.y hy (by omega), dk.fr (hy.fr.mono (by omega)), fun h => (ff h).y hy (by omega), fun _ => ⟨path, pa', pn, pc, rfl, hp3, fun _ => hI.less sz⟩, na, fun h => Bool.noConfusion (nS.symm.trans h), v0, v1, v2, v4⟩
          · have o0 := hS.old 0 (by kernel_rfl) rfl
            clear hS ho hA
            go_simp
            exact hK _ W ⟨gx, r0, r1, r2, dl3, dl5, dl0, d53, d7, d8, d10, yw, sz, rf, rd, db1, dk, ff, pa, na, rc, v0, v1, v2, fun _ => rfl⟩
          · have l4 : L 4 = true := hA ⟨4, .data⟩ (by simp) rfl
            have g4 := hS.get 4 30 rfl l4 (v4 l4)
            have l3 : L 3 = true := hA ⟨3, .chain⟩ (by simp) rfl
            have nS : L 6 = false := by rcases h : L 6 with _ | _; (· rfl); (· have := dl5 h; simp [hL] at this)
            have l3q := l3
            clear hS ho hA
            go_simp
            refine (aNameV_c rb (mm + 1) W (r1 hL) (by omega)).mono ?_
            rintro _ w' ⟨x, rfl, hx, hr, hy⟩
            exact hK _ w' ⟨fun h => (gx h).trans hy, fun h => Bool.noConfusion (h.symm.trans l3q), fun h => Bool.noConfusion h, hr.weak (by omega) (by omega), dl3, fun _ => rfl, dl0, fun _ => l3, d7, d8, d10, yw.trans hy, Nat.le_trans sz hy.size, rf.y hy (by omega), rd.y hy (by omega), db1.y hy (by omega), dk.fr (hy.fr.mono (by omega)), fun h => (ff h).y hy (by omega), fun h => let ⟨path, pa, pn, pc, e3, hp3, hI⟩ := pa h; ⟨path, pa, pn, pc, e3, hp3, fun q => (hI q).mono (hy.fr.mono (by omega))⟩, fun _ => ⟨x, rfl, hx⟩, fun h => Bool.noConfusion (nS.symm.trans h), v0, v1, v2, v4⟩
          · have l0 : L 0 = true := hA ⟨0, .data⟩ (by simp) rfl
            have g0 := hS.get 0 26 rfl l0 (v0 l0)
            have l1 : L 1 = true := hA ⟨1, .data⟩ (by simp) rfl
            have g1 := hS.get 1 27 rfl l1 (v1 l1)
            have l3 : L 3 = true := hA ⟨3, .data⟩ (by simp) rfl
            have l5 : L 5 = true := hA ⟨5, .data⟩ (by simp) rfl
            obtain ⟨path, pa1, pn, pc, e3, hp3, hI⟩ := pa l3
            obtain ⟨x, e5, hx⟩ := na l5
            have g3 := hS.get 3 29 rfl l3 e3
            have g5 := hS.get 5 31 rfl l5 e5
            have hVW : FdV W w.heap.size fa1 fn1 fc1 fi1 hi1 fl1 := hV1.fr ((gx hL).fr.mono (by omega))
            have hf1 := hVW.1
            have hge := hVW.own_ge
            clear hS ho hA
            go_simp
            refine (seen_c fl1 fa1 fn1 fc1 fi1 hi1 l a n c kk dl da dn dc w.heap.size W3.heap.size path pa1 pn pc x W hVW (by have := yw.size; omega) (dk.df hA1) (IntsF.of_ge (hI hL) (fun b hb => (hV1.1.blk b hb).2)) (by omega) hx).mono ?_
            rintro _ w' ⟨fl2, fa2, fn2, fc2, fi2, hi2, sv, rfl, hV2, hGc⟩
            have hbl : Below (rb + 1) W w' := hGc.below (fun b hb => by have := hge b hb; omega) (by have := yw.size; omega)
            have hA2 := hA1.gr hGc (fun b hb => (dk.2.1.blk b hb).2)
            exact hK _ w' ⟨fun h => Bool.noConfusion h, fun h => Bool.noConfusion (h.symm.trans l3), fun h => Bool.noConfusion (h.symm.trans l5), r2.below hbl, fun _ => l3, fun _ => l5, fun _ => l0, d53, fun _ => rfl, d8, d10, hGc.y hge yw, Nat.le_trans sz hGc.size, rf.gr hf1 hGc, rd.gr hf1 hGc, db1.gr hf1 hGc, dk.gr hA1 hf1 hGc, fun h => (ff h).gr hf1 hGc, fun h => let ⟨path, pa, pn, pc, e3, hp3, _⟩ := pa h; ⟨path, pa, pn, pc, e3, hp3, fun q => Bool.noConfusion q⟩, na, fun _ => ⟨fl2, fa2, fn2, fc2, fi2, hi2, sv, rfl, fun h => Bool.noConfusion (hL.symm.trans (d7 h)), fun h => Bool.noConfusion (hL.symm.trans (d7 (d8 h))), hV2, hA2, fun h => Bool.noConfusion (hL.symm.trans (d7 (d8 (d10 h))))⟩, v0, v1, v2, v4⟩
          · have l6 : L 6 = true := hA ⟨6, .data⟩ (by simp) rfl
            obtain ⟨fl2, fa2, fn2, fc2, fi2, hi2, sv, e6, e7, e8, hV2, hA2, hf2⟩ := rc l6
            have g6 := hS.get 6 32 rfl l6 e6
            clear hS ho hA
            go_simp
            exact hK _ W ⟨gx, r0, r1, r2, dl3, dl5, dl0, d53, fun _ => l6, fun _ => rfl, d10, yw, sz, rf, rd, db1, dk, ff, pa, na, fun _ => ⟨fl2, fa2, fn2, fc2, fi2, hi2, sv, e6, fun _ => rfl, e8, hV2, hA2, hf2⟩, v0, v1, v2, v4⟩
          · have l7 : L 7 = true := hA ⟨7, .data⟩ (by simp) rfl
            have l6 := d7 l7
            obtain ⟨fl2, fa2, fn2, fc2, fi2, hi2, sv, e6, e7, e8, hV2, hA2, hf2⟩ := rc l6
            have g7 := hS.get 7 25 rfl l7 (e7 l7)
            clear hS ho hA
            go_simp
            exact hK _ W ⟨gx, r0, r1, r2, dl3, dl5, dl0, d53, d7, fun _ => l7, fun _ => rfl, yw, sz, rf, rd, db1, dk, ff, pa, na, fun _ => ⟨fl2, fa2, fn2, fc2, fi2, hi2, sv, e6, e7, fun _ => rfl, hV2, hA2, hf2⟩, v0, v1, v2, v4⟩
          · have l7 : L 7 = true := hA ⟨7, .data⟩ (by simp) rfl
            have l6 := d7 l7
            obtain ⟨fl2, fa2, fn2, fc2, fi2, hi2, sv, e6, e7, e8, hV2, hA2, hf2⟩ := rc l6
            have g7 := hS.get 7 25 rfl l7 (e7 l7)
            clear hS ho hA
            go_simp
            exact hK _ W ⟨gx, r0, r1, r2, dl3, dl5, dl0, d53, d7, d8, d10, yw, sz, rf, rd, db1, dk, ff, pa, na, rc, v0, v1, v2, v4⟩
          · have o4 := hS.old 4 (by kernel_rfl) rfl
            have l8 : L 8 = true := hA ⟨8, .data⟩ (by simp) rfl
            have l7 := d8 l8
            have l6 := d7 l7
            obtain ⟨fl2, fa2, fn2, fc2, fi2, hi2, sv, e6, e7, e8, hV2, hA2, hf2⟩ := rc l6
            have g8 := hS.get 8 33 rfl l8 (e8 l8)
            have hTg := ff hL
            obtain ⟨ltg, q0, q1, q2, fz0, fz1, fz2⟩ := hTg.cells
            clear hS ho hA
            go_simp
            exact hK undef _ ⟨fun h => Bool.noConfusion (h.symm.trans l6), fun h => Bool.noConfusion (h.symm.trans (dl3 l6)), fun h => Bool.noConfusion (h.symm.trans (dl5 l6)), rdr_set3 r2 (by omega) _ _ _, dl3, dl5, dl0, d53, d7, d8, fun _ => l8, y_set3 yw (by omega) _ _ _, by simpa [World.setCell] using sz, rf.far3 (by omega) _ _ _, rd.far3 (by omega) _ _ _, db1.far3 (by omega) _ _ _, dk.set3t (t := 44) (ff hL) (by decide) (by decide) (by decide) (by decide) _ _ _, fun h => Bool.noConfusion h, fun h => let ⟨path, pa, pn, pc, e3, hp3, _⟩ := pa h; ⟨path, pa, pn, pc, e3, hp3, fun q => Bool.noConfusion (q.symm.trans l6)⟩, na, fun _ => ⟨fl2, fa2, fn2, fc2, fi2, hi2, sv, e6, e7, e8, hV2.set3 hTg _ _ _, hA2, fun _ => hTg.set3 _ _ _⟩, v0, v1, v2, v4⟩
        intro v W5 hI
        obtain ⟨gx, r0, r1, r2, dl3, dl5, dl0, d53, d7, d8, d10, yw, sz, rf, rd, db1, dk, ff, pa, na, rc, v0, v1, v2, v4⟩ := hI
        have e0 := v0 rfl
        have e1 := v1 rfl
        have e2 := v2 rfl
        have e4 := v4 rfl
        clear v0 v1 v2 v4
        obtain ⟨fl2, fa2, fn2, fc2, fi2, hi2, sv, e6, e7, e8, hV2, hA2, hf2⟩ := rc rfl
        replace e7 := e7 rfl
        replace e8 := e8 rfl
        replace hf2 := hf2 rfl
        obtain ⟨path, pa1, pn, pc, e3, _, _⟩ := pa rfl
        obtain ⟨x, e5, _⟩ := na rfl
        clear rc gx r0 r1 dl3 dl5 dl0 d53 d7 d8 d10 ff pa na
        simp only [putL, List.foldl, List.setIfInBounds_toArray, List.set_cons_zero, List.set_cons_succ, e0, e1, e2, e4, e3, e5, e6, e7, e8]
        clear e0 e1 e2 e4
        clear e3 e5 e6 e7 e8
        go_wp2
        go_roundw
        case rel => exact ⟨j - 1, fl2, fa2, fn2, fc2, fi2, hi2, a, n, c, kk, da, dn, dc, l, dl, by omega, by go_num, rf, rd, hf2, db1, hV2, dk, hA2, r2.weak (by omega) (by omega), yw⟩
        case measure => simp [intOf]; omega
      · have hk0' : ¬ (k2 : Int) = 0 := by omega
        have hfb : ∀ b, (Value.slice fa1 fn1 fc1).ownBlock = some b → b < W3.heap.size := fun b hb => (hV1.1.blk b hb).2
        go_wp2
        refine wp_region_inv (fun L v W => Y rb W3 W
            ∧ (L 2 = false → Rdr W rb mm)
            ∧ Rdr W rb (mm + 70)
            ∧ (L 4 = true → L 0 = true ∧ L 2 = true)
            ∧ (L 5 = true → L 4 = true)
            ∧ (L 6 = true → L 5 = true)
            ∧ (L 7 = true → L 5 = true)
            ∧ (L 9 = true → L 6 = true ∧ L 8 = true)
            ∧ (L 10 = true → L 7 = true)
            ∧ (L 2 = true → ∃ (f : Fi) (ba : Option Addr) (bc : Nat), v 2 = .agg #[.int .i64 (f).root, .string ⟨(f).pkg.toArray⟩, .string ⟨(f).name.toArray⟩, .bool (f).init, .int .i64 (f).stamp, .slice ba f.body.length bc] ∧ (L 4 = false → W.ownsRow W3.heap.size 92 5 (.slice ba f.body.length bc) f.body.length (f.body.flatMap scells)) ∧ f.pkg.length ≤ 20 ∧ f.name.length ≤ 20 ∧ SmallB f.body)
            ∧ (L 4 = true → ∃ (ok : Bool) (x0 x1 x2 : Value), v 4 = .tuple #[.agg #[x0, x1, x2], .bool ok] ∧ (L 5 = true → v 5 = .tuple #[.agg #[x0, x1, x2], .bool ok]) ∧ (L 6 = true → v 6 = .agg #[x0, x1, x2]) ∧ (L 7 = true → v 7 = .bool ok) ∧ (L 10 = true → v 10 = .bool ok) ∧ NextP W W3.heap.size ok x0 x1 x2 ∧ (L 9 = true → ∃ g, v 8 = .pointer (some ⟨g, 0, none⟩) ∧ W3.heap.size ≤ g ∧ Tk W g #[x0, x1, x2]))
            ∧ (L 8 = true → ∃ g, v 8 = .pointer (some ⟨g, 0, none⟩) ∧ W3.heap.size ≤ g ∧ (L 9 = false → Tk W g #[.slice none 0 0, .int .i64 0, .slice none 0 0]))
            ∧ (L 0 = true → v 0 = .agg #[.slice a n c, .int .i64 kk, .slice da dn dc])
            ∧ (L 1 = true → v 1 = .pointer (some ⟨rb, 0, none⟩))
            ∧ (L 3 = true → v 3 = .int .i64 ticks)) (by kernel_rfl) (by kernel_rfl) ?_ ?_ (l := [(36, 0), (37, 1), (38, 2), (39, 3), (40, 4), (35, 5), (41, 6), (42, 7), (8, 8), (9, 10)]) (by kernel_rfl) (n := 11) rfl ?_
        · intro v
          exact ⟨(Y.refl rb W3).drewY, fun _ => hr3.drewY, hr3.drewY.weak (by omega) (by omega), fun h => Bool.noConfusion h, fun h => Bool.noConfusion h, fun h => Bool.noConfusion h, fun h => Bool.noConfusion h, fun h => Bool.noConfusion h, fun h => Bool.noConfusion h, fun h => Bool.noConfusion h, fun h => Bool.noConfusion h, fun h => Bool.noConfusion h, fun h => Bool.noConfusion h, fun h => Bool.noConfusion h, fun h => Bool.noConfusion h⟩
        · intro i hi
          have hi' : i = 0 ∨ i = 1 ∨ i = 2 ∨ i = 3 ∨ i = 4 ∨ i = 5 ∨ i = 6 ∨ i = 7 ∨ i = 8 ∨ i = 9 ∨ i = 10 := by
            have : i < 11 := hi
            omega
          clear hi
          rcases hi' with rfl | rfl | rfl | rfl | rfl | rfl | rfl | rfl | rfl | rfl | rfl
          all_goals
            intro o ho L v aa W hI hS hL hA K hK
            cases (show some _ = some o from ho)
            obtain ⟨yy, r0, r1, d4, d5, d6, d7, d9, d10, fl, rc, v8, v0, v1, v3⟩ := hI
          · have o5 := hS.old 5 (by kernel_rfl) rfl
            have n4 : L 4 = false := by rcases h : L 4 with _ | _; (· rfl); (· have := (d4 h).1; simp [hL] at this)
            have hDW : Tk W db #[.slice a n c, .int .i64 kk, .slice da dn dc] := hDb.y yy (by omega)
            obtain ⟨ltd, cd, _⟩ := hDW.bx.out
            have d0 := cd 0
            have d1 := cd 1
            have d2 := cd 2
            clear cd
            clear hS ho hA
            go_simp
            exact hK _ W ⟨yy, r0, r1, fun h => ⟨rfl, (d4 h).2⟩, d5, d6, d7, d9, d10, fl, rc, v8, fun _ => rfl, v1, v3⟩
          · have o0 := hS.old 0 (by kernel_rfl) rfl
            clear hS ho hA
            go_simp
            exact hK _ W ⟨yy, r0, r1, d4, d5, d6, d7, d9, d10, fl, rc, v8, v0, fun _ => rfl, v3⟩
          · have l1 : L 1 = true := hA ⟨1, .data⟩ (by simp) rfl
            have g1 := hS.get 1 37 rfl l1 (v1 l1)
            have n4 : L 4 = false := by rcases h : L 4 with _ | _; (· rfl); (· have := (d4 h).2; simp [hL] at this)
            clear hS ho hA
            go_simp
            refine (someFile_c rb mm W (r0 hL) (by omega)).mono ?_
            rintro _ w' ⟨f, ba, bc, rfl, hO, hz, hr, hy⟩
            exact hK _ w' ⟨yy.trans hy, fun h => Bool.noConfusion h, hr, fun h => ⟨(d4 h).1, rfl⟩, d5, d6, d7, d9, d10, fun _ => ⟨f, ba, bc, rfl, fun _ => own_less hO yy.size, hz⟩, fun h => Bool.noConfusion (n4.symm.trans h), fun h => let ⟨g, e, hg, hz⟩ := v8 h; ⟨g, e, hg, fun q => (hz q).y hy (by omega)⟩, v0, v1, v3⟩
          · have o7 := hS.old 7 (by kernel_rfl) rfl
            clear hS ho hA
            go_simp
            exact hK _ W ⟨yy, r0, r1, d4, d5, d6, d7, d9, d10, fl, rc, v8, v0, v1, fun _ => rfl⟩
          · have l0 : L 0 = true := hA ⟨0, .data⟩ (by simp) rfl
            have g0 := hS.get 0 36 rfl l0 (v0 l0)
            have l2 : L 2 = true := hA ⟨2, .data⟩ (by simp) rfl
            have l3 : L 3 = true := hA ⟨3, .data⟩ (by simp) rfl
            have g3 := hS.get 3 39 rfl l3 (v3 l3)
            obtain ⟨f, ba, bc, e2, hO, hz1, hz2, hz3⟩ := fl l2
            have g2 := hS.get 2 38 rfl l2 e2
            have hb5 := hz3.1
            have hDW := hDk.fr (yy.fr.mono (show rb + 1 ≤ w.heap.size by omega))
            clear hS ho hA
            go_simp
            refine (DiskAdd_s l a n c kk dl da dn dc w.heap.size f ba f.body.length bc W3.heap.size ticks W (hDW.1.at hDW.2.2.2.1) (hDW.2.1.at hDW.2.2.2.2) (by omega) ⟨by omega, by omega⟩ (stmtsS (hO hL) hz3)).mono ?_
            rintro _ w' ⟨v', rfl, hk, hx⟩
            obtain ⟨x0, x1, x2, rfl, hN⟩ := nextP_add hDW.2.2.2.1 hDW.2.2.2.2 (by omega) hz1 hz2 hz3 hk
            exact hK _ w' ⟨yy.trans (Y.of_x hx), fun h => (r0 h).x hx, r1.x hx, fun _ => ⟨l0, l2⟩, fun _ => rfl, d6, d7, d9, d10, fun h => let ⟨f, ba, bc, e, ho, hz⟩ := fl h; ⟨f, ba, bc, e, fun q => Bool.noConfusion q, hz⟩, fun _ => ⟨_, x0, x1, x2, rfl, fun h => Bool.noConfusion (hL.symm.trans (d5 h)), fun h => Bool.noConfusion (hL.symm.trans (d5 (d6 h))), fun h => Bool.noConfusion (hL.symm.trans (d5 (d7 h))), fun h => Bool.noConfusion (hL.symm.trans (d5 (d7 (d10 h)))), hN.less yy.size, fun h => Bool.noConfusion (hL.symm.trans (d5 (d6 (d9 h).1)))⟩, fun h => let ⟨g, e, hg, hz⟩ := v8 h; ⟨g, e, hg, fun q => (hz q).x hx⟩, v0, v1, v3⟩
          · have l4 : L 4 = true := hA ⟨4, .data⟩ (by simp) rfl
            obtain ⟨ok, x0, x1, x2, e4, e5, e6, e7, e10, hN, hbx⟩ := rc l4
            have g4 := hS.get 4 40 rfl l4 e4
            clear hS ho hA
            go_simp
            exact hK _ W ⟨yy, r0, r1, d4, fun _ => l4, fun _ => rfl, fun _ => rfl, d9, d10, fl, fun _ => ⟨ok, x0, x1, x2, e4, fun _ => rfl, e6, e7, e10, hN, hbx⟩, v8, v0, v1, v3⟩
          · have l5 : L 5 = true := hA ⟨5, .data⟩ (by simp) rfl
            have l4 := d5 l5
            obtain ⟨ok, x0, x1, x2, e4, e5, e6, e7, e10, hN, hbx⟩ := rc l4
            have g5 := hS.get 5 35 rfl l5 (e5 l5)
            clear hS ho hA
            go_simp
            exact hK _ W ⟨yy, r0, r1, d4, d5, fun _ => l5, d7, fun h => ⟨rfl, (d9 h).2⟩, d10, fl, fun _ => ⟨ok, x0, x1, x2, e4, e5, fun _ => rfl, e7, e10, hN, hbx⟩, v8, v0, v1, v3⟩
          · have l5 : L 5 = true := hA ⟨5, .data⟩ (by simp) rfl
            have l4 := d5 l5
            obtain ⟨ok, x0, x1, x2, e4, e5, e6, e7, e10, hN, hbx⟩ := rc l4
            have g5 := hS.get 5 35 rfl l5 (e5 l5)
            clear hS ho hA
            go_simp
            exact hK _ W ⟨yy, r0, r1, d4, d5, d6, fun _ => l5, d9, fun _ => rfl, fl, fun _ => ⟨ok, x0, x1, x2, e4, e5, e6, fun _ => rfl, e10, hN, hbx⟩, v8, v0, v1, v3⟩
          · have hx : X W (W.alloc (.cells #[.slice none 0 0, .int .i64 0, .slice none 0 0] 28)) := (X.refl W).alloc _
            clear hS ho hA
            go_simp
            exact hK _ _ ⟨yy.trans (Y.of_x hx), fun h => (r0 h).x hx, r1.x hx, d4, d5, d6, d7, fun h => ⟨(d9 h).1, rfl⟩, d10, fun h => let ⟨f, ba, bc, e, ho, hz⟩ := fl h; ⟨f, ba, bc, e, fun q => own_fr (ho q) (hx.fr _), hz⟩, fun h => let ⟨ok, x0, x1, x2, e4, e5, e6, e7, e10, hN, hbx⟩ := rc h; ⟨ok, x0, x1, x2, e4, e5, e6, e7, e10, hN.fr (hx.fr _), fun q => Bool.noConfusion (hL.symm.trans (d9 q).2)⟩, fun _ => ⟨_, rfl, yy.size, fun _ => heap_alloc_new _ _⟩, v0, v1, v3⟩
          · have l8 : L 8 = true := hA ⟨8, .data⟩ (by simp) rfl
            have l6 : L 6 = true := hA ⟨6, .data⟩ (by simp) rfl
            have l5 := d6 l6
            have l4 := d5 l5
            obtain ⟨ok, x0, x1, x2, e4, e5, e6, e7, e10, hN, hbx⟩ := rc l4
            obtain ⟨g, e8, hg, hz⟩ := v8 l8
            obtain ⟨s0, s1, s2, s3, s4, s5, s6, rfl, rfl, rfl⟩ := hN.shape
            have g6 := hS.get 6 41 rfl l6 (e6 l6)
            have g8 := hS.get 8 8 rfl l8 e8
            have hTg := hz hL
            obtain ⟨ltg, cq, fq⟩ := hTg.bx.out
            have q0 := cq 0
            have q1 := cq 1
            have q2 := cq 2
            have fz0 := fq 0
            have fz1 := fq 1
            have fz2 := fq 2
            clear cq fq
            clear hS ho hA
            go_simp
            exact hK undef _ ⟨y_set3 yy hg _ _ _, fun h => rdr_set3 (r0 h) (by omega) _ _ _, rdr_set3 r1 (by omega) _ _ _, d4, d5, d6, d7, fun _ => ⟨l6, l8⟩, d10, fun h => let ⟨f, ba, bc, e, ho, hz⟩ := fl h; ⟨f, ba, bc, e, fun q => Bool.noConfusion (q.symm.trans l4), hz⟩, fun _ => ⟨ok, _, _, _, e4, e5, e6, e7, e10, hN.set3 hTg _ _ _, fun _ => ⟨g, e8, hg, hTg.set3 _ _ _⟩⟩, fun _ => ⟨g, e8, hg, fun q => Bool.noConfusion q⟩, v0, v1, v3⟩
          · have l7 : L 7 = true := hA ⟨7, .data⟩ (by simp) rfl
            have l9 : L 9 = true := hA ⟨9, .chain⟩ (by simp) rfl
            have l5 := d7 l7
            have l4 := d5 l5
            obtain ⟨ok, x0, x1, x2, e4, e5, e6, e7, e10, hN, hbx⟩ := rc l4
            have g7 := hS.get 7 42 rfl l7 (e7 l7)
            clear hS ho hA
            go_simp
            exact hK _ W ⟨yy, r0, r1, d4, d5, d6, d7, d9, fun _ => l7, fl, fun _ => ⟨ok, x0, x1, x2, e4, e5, e6, e7, fun _ => rfl, hN, hbx⟩, v8, v0, v1, v3⟩
        intro v W5 hI
        obtain ⟨yy, r0, r1, d4, d5, d6, d7, d9, d10, fl, rc, v8, v0, v1, v3⟩ := hI
        have e0 := v0 rfl
        have e1 := v1 rfl
        have e3 := v3 rfl
        clear v0 v1 v3
        obtain ⟨ok, x0, x1, x2, e4, e5, e6, e7, e10, hN, hbx⟩ := rc rfl
        replace e5 := e5 rfl
        replace e6 := e6 rfl
        replace e7 := e7 rfl
        replace e10 := e10 rfl
        obtain ⟨ng, e8, hng, hTn⟩ := hbx rfl
        obtain ⟨f, ba, bc, e2, _⟩ := fl rfl
        clear rc v8 fl r0 d4 d5 d6 d7 d9 d10
        simp only [putL, List.foldl, List.setIfInBounds_toArray, List.set_cons_zero, List.set_cons_succ, e0, e1, e3, e2, e4, e5, e6, e7, e8, e10]
        clear e0 e1 e3
        clear e2 e4 e5 e6 e7 e8 e10
        have hz5 := yy.size
        have hRf5 := hRf.y yy (by omega)
        have hRd5 := hRd.y yy (by omega)
        have hFb5 := hFb.y yy (by omega)
        have hDb5 := hDb.y yy (by omega)
        have hV5 := hV1.fr (yy.fr.mono (by omega))
        have hDk5 := hDk.fr (yy.fr.mono (by omega))
        have hyw5 := hyw.trans yy
        clear hRf hRd hFb hDb hV1 hDk hyw hr3 yy
        go_wp2_with fail
        refine (pick_c rb _ 6 W5 r1 (by omega) (by omega)).mono ?_
        rintro _ W6 ⟨k6, rfl, hk6, hr6, hy6⟩
        have hneb : db ≠ rb := by omega
        have hnen : ng ≠ rb := by omega
        have hRfE := hRf5.y hy6 (by omega)
        have hRdE := hRd5.y hy6 (by omega)
        have hFbE := hFb5.y hy6 (by omega)
        have hDbE := hDb5.y hy6 (by omega)
        have hVE := hV5.fr (hy6.fr.mono (by omega))
        have hDkE := hDk5.fr (hy6.fr.mono (by omega))
        have hyE := hyw5.trans hy6
        have hTE := hTn.y hy6 hnen
        have hNE := hN.fr (hy6.fr.mono (by omega))
        have hz6 := hy6.size
        obtain ⟨m6, hm6, hr6⟩ : ∃ m6, m6 ≤ mm + 71 ∧ Rdr W6 rb m6 := ⟨_, by omega, hr6⟩
        clear hRf5 hRd5 hFb5 hDb5 hV5 hDk5 hyw5 hy6 hTn hN r1
        obtain ⟨lD, cd, _⟩ := hDbE.bx.out
        have d0 := cd 0
        clear cd
        by_cases hc : k6 = 0 ∧ 0 < n
        · obtain ⟨rfl, hn0⟩ := hc
          have hn1 : (0 : Int) < (n : Int) := by omega
          go_wp2
          clear d0 lD
          have hB3 := hDbE
          have hN3 := hTE
          have hV3 := hDkE.less (B' := rb + 1) (by omega)
          refine wp_region_inv (fun L v W => (L 12 = false → Y rb W6 W)
              ∧ (L 12 = false → L 6 = false → Rdr W rb m6)
              ∧ (L 12 = false → Rdr W rb (m6 + 1))
              ∧ (L 12 = true → L 0 = true ∧ L 4 = true ∧ L 6 = true ∧ L 8 = true ∧ L 9 = true ∧ L 10 = true)
              ∧ (L 8 = true → L 6 = true)
              ∧ (L 9 = true → L 8 = true)
              ∧ (L 10 = true ∨ L 11 = true → L 9 = true)
              ∧ (L 13 = true → L 11 = true)
              ∧ (L 0 = true → v 0 = .agg #[.slice a n c, .int .i64 kk, .slice da dn dc])
              ∧ (L 1 = true → v 1 = .pointer (some ⟨rb, 0, none⟩))
              ∧ (L 2 = true → v 2 = .pointer (some ⟨db, 0, none⟩))
              ∧ (L 3 = true → v 3 = .pointer (some ⟨db, 0, none⟩))
              ∧ (L 4 = true → v 4 = .slice a n c)
              ∧ (L 5 = true → v 5 = .int .i64 (n : Int))
              ∧ (L 7 = true → v 7 = .int .i64 ticks)
              ∧ (L 6 = true → ∃ k : Nat, v 6 = .int .i64 (k : Int))
              ∧ (L 8 = true → L 12 = false → ∃ ok x0 x1 x2, v 8 = .tuple #[.agg #[x0, x1, x2], .bool ok] ∧ (L 9 = true → v 9 = .tuple #[.agg #[x0, x1, x2], .bool ok]) ∧ (L 10 = true → v 10 = .agg #[x0, x1, x2]) ∧ NextP W W6.heap.size ok x0 x1 x2)
              ∧ (L 9 = true → ∃ x ok, v 9 = .tuple #[x, .bool ok])
              ∧ (L 11 = true → v 11 = .bool (okOf (v 9)))
              ∧ (L 13 = true → v 13 = .bool (okOf (v 9)))
              ∧ (L 12 = true → ∃ w4 ok x0 x1 x2, v 9 = .tuple #[.agg #[x0, x1, x2], .bool ok] ∧ Y rb W6 w4 ∧ Rdr w4 rb (m6 + 1) ∧ NextP w4 W6.heap.size ok x0 x1 x2 ∧ W = (((w4.setCell ⟨ng, 0, none⟩ x0).setCell ⟨ng, 1, none⟩ x1).setCell ⟨ng, 2, none⟩ x2))
              ∧ (L 13 = true → L 12 = true)) (by kernel_rfl) (by kernel_rfl) ?_ ?_ (l := [(54, 0), (55, 1), (56, 2), (57, 3), (58, 4), (59, 5), (60, 6), (61, 7), (62, 8), (53, 9), (63, 10), (64, 11), (9, 13)]) (by kernel_rfl) (n := 14) rfl ?_
          · intro v
            exact ⟨fun _ => (Y.refl _ _).drewY, fun _ _ => hr6.drewY, fun _ => hr6.drewY.weak (by omega) (by omega), fun h => Bool.noConfusion h, fun h => Bool.noConfusion h, fun h => Bool.noConfusion h, fun h => h.elim (fun h => Bool.noConfusion h) (fun h => Bool.noConfusion h), fun h => Bool.noConfusion h, fun h => Bool.noConfusion h, fun h => Bool.noConfusion h, fun h => Bool.noConfusion h, fun h => Bool.noConfusion h, fun h => Bool.noConfusion h, fun h => Bool.noConfusion h, fun h => Bool.noConfusion h, fun h => Bool.noConfusion h, fun h => Bool.noConfusion h, fun h => Bool.noConfusion h, fun h => Bool.noConfusion h, fun h => Bool.noConfusion h, fun h => Bool.noConfusion h, fun h => Bool.noConfusion h⟩
          · intro i hi
            have hi' : i = 0 ∨ i = 1 ∨ i = 2 ∨ i = 3 ∨ i = 4 ∨ i = 5 ∨ i = 6 ∨ i = 7 ∨ i = 8 ∨ i = 9 ∨ i = 10 ∨ i = 11 ∨ i = 12 ∨ i = 13 := by
              have : i < 14 := hi
              omega
            clear hi
            rcases hi' with rfl | rfl | rfl | rfl | rfl | rfl | rfl | rfl | rfl | rfl | rfl | rfl | rfl | rfl
            all_goals
              intro o ho L v aa W hI hS hL hA K hK
              cases (show some _ = some o from ho)
              obtain ⟨yy, r0, r1, dS, d8, dM, dX, dG, v0, v1, v2, v3, v4, v5, v7, v6, r8, w9, u1, u2, fin, dF⟩ := hI
            · have a0 := hS.old 5 (by kernel_rfl) rfl
              have nS : L 12 = false := by rcases h : L 12 with _ | _; (· rfl); (· have := (dS h).1; simp [hL] at this)
              obtain ⟨lD, cd, _⟩ := (hB3.bx.y (yy nS) hneb).out
              have d0 := cd 0
              have d1 := cd 1
              have d2 := cd 2
              clear cd
              clear hS ho hA
              go_simp
              exact hK _ W ⟨yy, r0, r1, fun h => ⟨rfl, (dS h).2.1, (dS h).2.2.1, (dS h).2.2.2.1, (dS h).2.2.2.2.1, (dS h).2.2.2.2.2⟩, d8, dM, dX, dG, fun _ => rfl, v1, v2, v3, v4, v5, v7, v6, r8, w9, u1, u2, fin, dF⟩
            · have a0 := hS.old 0 (by kernel_rfl) rfl
              clear hS ho hA
              go_simp
              exact hK _ W ⟨yy, r0, r1, dS, d8, dM, dX, dG, v0, fun _ => rfl, v2, v3, v4, v5, v7, v6, r8, w9, u1, u2, fin, dF⟩
            · have a0 := hS.old 5 (by kernel_rfl) rfl
              clear hS ho hA
              go_simp
              exact hK _ W ⟨yy, r0, r1, dS, d8, dM, dX, dG, v0, v1, fun _ => rfl, v3, v4, v5, v7, v6, r8, w9, u1, u2, fin, dF⟩
            · have l2 : L 2 = true := hA ⟨2, .data⟩ (by simp) rfl
              have a2 := hS.get 2 56 rfl l2 (v2 l2)
              clear hS ho hA
              go_simp
              exact hK _ W ⟨yy, r0, r1, dS, d8, dM, dX, dG, v0, v1, v2, fun _ => rfl, v4, v5, v7, v6, r8, w9, u1, u2, fin, dF⟩
            · have l3 : L 3 = true := hA ⟨3, .data⟩ (by simp) rfl
              have a3 := hS.get 3 57 rfl l3 (v3 l3)
              have nS : L 12 = false := by rcases h : L 12 with _ | _; (· rfl); (· have := (dS h).2.1; simp [hL] at this)
              obtain ⟨lD, cd, _⟩ := (hB3.bx.y (yy nS) hneb).out
              have d0 := cd 0
              have d1 := cd 1
              have d2 := cd 2
              clear cd
              clear hS ho hA
              go_simp
              exact hK _ W ⟨yy, r0, r1, fun h => ⟨(dS h).1, rfl, (dS h).2.2.1, (dS h).2.2.2.1, (dS h).2.2.2.2.1, (dS h).2.2.2.2.2⟩, d8, dM, dX, dG, v0, v1, v2, v3, fun _ => rfl, v5, v7, v6, r8, w9, u1, u2, fin, dF⟩
            · have l4 : L 4 = true := hA ⟨4, .data⟩ (by simp) rfl
              have a4 := hS.get 4 58 rfl l4 (v4 l4)
              clear hS ho hA
              go_simp
              exact hK _ W ⟨yy, r0, r1, dS, d8, dM, dX, dG, v0, v1, v2, v3, v4, fun _ => rfl, v7, v6, r8, w9, u1, u2, fin, dF⟩
            · have l1 : L 1 = true := hA ⟨1, .data⟩ (by simp) rfl
              have l5 : L 5 = true := hA ⟨5, .data⟩ (by simp) rfl
              have a1 := hS.get 1 55 rfl l1 (v1 l1)
              have a5 := hS.get 5 59 rfl l5 (v5 l5)
              have nS : L 12 = false := by rcases h : L 12 with _ | _; (· rfl); (· have := (dS h).2.2.1; simp [hL] at this)
              clear hS ho hA
              go_simp
              refine (pick_c rb m6 _ W (r0 nS hL) (by omega) (by omega)).mono ?_
              rintro _ w' ⟨k, rfl, hk, hr, hy⟩
              exact hK _ w' ⟨fun h => (yy h).trans hy, fun _ h => Bool.noConfusion h, fun _ => hr, fun h => ⟨(dS h).1, (dS h).2.1, rfl, (dS h).2.2.2.1, (dS h).2.2.2.2.1, (dS h).2.2.2.2.2⟩, fun _ => rfl, dM, dX, dG, v0, v1, v2, v3, v4, v5, v7, fun _ => ⟨k, rfl⟩, fun h _ => Bool.noConfusion (hL.symm.trans (d8 h)), w9, u1, u2, fun h => Bool.noConfusion (nS.symm.trans h), dF⟩
            · have a0 := hS.old 7 (by kernel_rfl) rfl
              clear hS ho hA
              go_simp
              exact hK _ W ⟨yy, r0, r1, dS, d8, dM, dX, dG, v0, v1, v2, v3, v4, v5, fun _ => rfl, v6, r8, w9, u1, u2, fin, dF⟩
            · have l0 : L 0 = true := hA ⟨0, .data⟩ (by simp) rfl
              have l6 : L 6 = true := hA ⟨6, .data⟩ (by simp) rfl
              have l7 : L 7 = true := hA ⟨7, .data⟩ (by simp) rfl
              have a0 := hS.get 0 54 rfl l0 (v0 l0)
              have a7 := hS.get 7 61 rfl l7 (v7 l7)
              have nS : L 12 = false := by rcases h : L 12 with _ | _; (· rfl); (· have := (dS h).2.2.2.1; simp [hL] at this)
              obtain ⟨k, e6⟩ := v6 l6
              have a6 := hS.get 6 60 rfl l6 e6
              clear hS ho hA
              go_simp
              refine (DiskRemove_s l a n c kk dl da dn dc (rb + 1) (k : Int) ticks W ((hV3.1.at hV3.2.2.2.1).mono (yy nS).fr) ((hV3.2.1.at hV3.2.2.2.2).mono (yy nS).fr)).mono ?_
              rintro _ w' ⟨v', rfl, hk, hx⟩
              obtain ⟨x0, x1, x2, rfl, hN⟩ := nextP_rem hV3.2.2.2.1 hV3.2.2.2.2 hk
              exact hK _ w' ⟨fun h => (yy h).trans (Y.of_x hx), fun _ h => Bool.noConfusion (h.symm.trans l6), fun h => (r1 h).x hx, fun h => ⟨(dS h).1, (dS h).2.1, (dS h).2.2.1, rfl, (dS h).2.2.2.2.1, (dS h).2.2.2.2.2⟩, fun _ => l6, fun _ => rfl, dX, dG, v0, v1, v2, v3, v4, v5, v7, v6, fun _ _ => ⟨_, x0, x1, x2, rfl, fun h => Bool.noConfusion (hL.symm.trans (dM h)), fun h => Bool.noConfusion (hL.symm.trans (dM (dX (.inl h)))), hN.less (yy nS).size⟩, w9, u1, u2, fun h => Bool.noConfusion (nS.symm.trans h), dF⟩
            · have l8 : L 8 = true := hA ⟨8, .data⟩ (by simp) rfl
              have nS : L 12 = false := by rcases h : L 12 with _ | _; (· rfl); (· have := (dS h).2.2.2.2.1; simp [hL] at this)
              obtain ⟨ok, x0, x1, x2, e8, e9, e10, hN⟩ := r8 l8 nS
              have aC := hS.get 8 62 rfl l8 e8
              clear hS ho hA
              go_simp
              exact hK _ W ⟨yy, r0, r1, fun h => ⟨(dS h).1, (dS h).2.1, (dS h).2.2.1, (dS h).2.2.2.1, rfl, (dS h).2.2.2.2.2⟩, d8, fun _ => l8, fun _ => rfl, dG, v0, v1, v2, v3, v4, v5, v7, v6, fun _ _ => ⟨ok, x0, x1, x2, e8, fun _ => rfl, e10, hN⟩, fun _ => ⟨_, _, rfl⟩, fun h => Bool.noConfusion (hL.symm.trans (dX (.inr h))), fun h => Bool.noConfusion (hL.symm.trans (dX (.inr (dG h)))), fun h => Bool.noConfusion (nS.symm.trans h), dF⟩
            · have l9 : L 9 = true := hA ⟨9, .data⟩ (by simp) rfl
              have l8 := dM l9
              have nS : L 12 = false := by rcases h : L 12 with _ | _; (· rfl); (· have := (dS h).2.2.2.2.2; simp [hL] at this)
              obtain ⟨ok, x0, x1, x2, e8, e9, e10, hN⟩ := r8 l8 nS
              have aC := hS.get 9 53 rfl l9 (e9 l9)
              clear hS ho hA
              go_simp
              exact hK _ W ⟨yy, r0, r1, fun h => ⟨(dS h).1, (dS h).2.1, (dS h).2.2.1, (dS h).2.2.2.1, (dS h).2.2.2.2.1, rfl⟩, d8, dM, fun _ => l9, dG, v0, v1, v2, v3, v4, v5, v7, v6, fun _ _ => ⟨ok, x0, x1, x2, e8, e9, fun _ => rfl, hN⟩, w9, u1, u2, fin, dF⟩
            · have l9 : L 9 = true := hA ⟨9, .data⟩ (by simp) rfl
              obtain ⟨x9, ok9, e9⟩ := w9 l9
              have aC := hS.get 9 53 rfl l9 e9
              clear hS ho hA
              go_simp
              exact hK _ W ⟨yy, r0, r1, dS, d8, dM, fun _ => l9, fun _ => rfl, v0, v1, v2, v3, v4, v5, v7, v6, r8, w9, fun _ => (congrArg (fun z => Value.bool (okOf z)) e9).symm, u2, fin, dF⟩
            · have l10 : L 10 = true := hA ⟨10, .data⟩ (by simp) rfl
              have l0 : L 0 = true := hA ⟨0, .phase⟩ (by simp) rfl
              have l4 : L 4 = true := hA ⟨4, .phase⟩ (by simp) rfl
              have l6 : L 6 = true := hA ⟨6, .phase⟩ (by simp) rfl
              have l8 : L 8 = true := hA ⟨8, .phase⟩ (by simp) rfl
              have l9 : L 9 = true := hA ⟨9, .phase⟩ (by simp) rfl
              have nS := hL
              obtain ⟨ok, x0, x1, x2, e8, e9, e10, hN⟩ := r8 l8 nS
              obtain ⟨s0, s1, s2, s3, s4, s5, s6, rfl, rfl, rfl⟩ := hN.shape
              have aX := hS.get 10 63 rfl l10 (e10 l10)
              have aR := hS.old 8 (by kernel_rfl) rfl
              obtain ⟨lb, cb, fb0⟩ := (hN3.bx.y (yy hL) hnen).out
              have f0 := fb0 0
              have f1 := fb0 1
              have f2 := fb0 2
              have c0 := cb 0
              have c1 := cb 1
              have c2 := cb 2
              clear fb0 cb
              clear hS ho hA
              go_simp
              exact hK undef _ ⟨fun h => Bool.noConfusion h, fun h => Bool.noConfusion h, fun h => Bool.noConfusion h, fun _ => ⟨l0, l4, l6, l8, l9, l10⟩, d8, dM, dX, dG, v0, v1, v2, v3, v4, v5, v7, v6, fun _ h => Bool.noConfusion h, w9, u1, u2, fun _ => ⟨W, ok, _, _, _, e9 l9, yy hL, r1 hL, hN, rfl⟩, fun _ => rfl⟩
            · have l11 : L 11 = true := hA ⟨11, .data⟩ (by simp) rfl
              have lS : L 12 = true := hA ⟨12, .chain⟩ (by simp) rfl
              have aE := hS.get 11 64 rfl l11 (u1 l11)
              clear hS ho hA
              go_simp
              exact hK _ W ⟨yy, r0, r1, dS, d8, dM, dX, fun _ => l11, v0, v1, v2, v3, v4, v5, v7, v6, r8, w9, u1, fun _ => rfl, fin, fun _ => lS⟩
          intro v W7 hI
          obtain ⟨yy, r0, r1, dS, d8, dM, dX, dG, v0, v1, v2, v3, v4, v5, v7, v6, r8, w9, u1, u2, fin, dF⟩ := hI
          obtain ⟨w4, ok, x0, x1, x2, e9, hy4, hr4, hN, hWe⟩ := fin rfl
          have e13 : v 13 = .bool ok := by rw [u2 rfl, e9]; rfl
          clear e9 yy r0 r1 r8 fin dF dS d8 dM dX dG w9 u1 u2 v0 v1 v2 v3 v4 v5 v7 v6
          simp only [putL, List.foldl, List.setIfInBounds_toArray, List.set_cons_zero, List.set_cons_succ, e13]
          clear e13
          have hgz : W6.heap.size ≤ w4.heap.size := hy4.size
          have hT4 := hTE.y hy4 hnen
          have hRf7 : Tf W7 w.heap.size #[.slice none 0 0, .int .i64 0, .int .i64 0] := by rw [hWe]; exact (hRfE.y hy4 (by omega)).far3 (by omega) _ _ _
          have hRd7 : Tk W7 (w.heap.size + 1) #[.slice none 0 0, .int .i64 0, .slice none 0 0] := by rw [hWe]; exact (hRdE.y hy4 (by omega)).far3 (by omega) _ _ _
          have hFb7 : Tf W7 (w.heap.size + 1 + 1) #[.slice fa1 fn1 fc1, .int .i64 fi1, .int .i64 hi1] := by rw [hWe]; exact (hFbE.y hy4 (by omega)).far3 (by omega) _ _ _
          have hDb7 : Tk W7 db #[.slice a n c, .int .i64 kk, .slice da dn dc] := by rw [hWe]; exact (hDbE.y hy4 hneb).far3 (by omega) _ _ _
          have hV7 : FdV W7 w.heap.size fa1 fn1 fc1 fi1 hi1 fl1 := by rw [hWe]; exact FdV.set3t (t := 28) (hVE.fr (hy4.fr.mono (by omega))) hT4 (by decide) (by decide) _ _ _
          have hDk7 : DkV W7 w.heap.size a n c kk da dn dc l dl := by rw [hWe]; exact (hDkE.fr (hy4.fr.mono (by omega))).set3 hT4 _ _ _
          have hT7 : Tk W7 ng #[x0, x1, x2] := by rw [hWe]; exact hT4.set3 _ _ _
          have hN7 : NextP W7 W6.heap.size ok x0 x1 x2 := by rw [hWe]; exact hN.set3 hT4 _ _ _
          have hr7 : Rdr W7 rb (m6 + 1) := by rw [hWe]; exact rdr_set3 hr4 (by omega) _ _ _
          have hy7 : Y rb w W7 := by rw [hWe]; exact y_set3 (hyE.trans hy4) (by omega) _ _ _
          clear hWe hT4 hr4 hN hy4 hB3 hN3 hV3 hRfE hRdE hFbE hDbE hVE hDkE hTE hNE hyE hr6
          have hRfE := hRf7
          have hRdE := hRd7
          have hFbE := hFb7
          have hDbE := hDb7
          have hVE := hV7
          have hDkE := hDk7
          have hTE := hT7
          have hNE := hN7.less (B' := W3.heap.size) (by omega)
          have hrE := hr7
          have hyE := hy7
          clear hRf7 hRd7 hFb7 hDb7 hV7 hDk7 hT7 hN7 hr7 hy7
          cases ok
          · go_wp2
            go_roundw
            case rel => exact ⟨j - 1, fl1, fa1, fn1, fc1, fi1, hi1, a, n, c, kk, da, dn, dc, l, dl, by omega, by go_num, hRfE, hRdE, hFbE, hDbE, hVE, hDkE, hA1, hrE.weak (by omega) (by omega), hyE⟩
            case measure => simp [intOf]; omega
          · obtain ⟨a', n', c', kk', da', dn', dc', l', dl', rfl, rfl, rfl, hV'⟩ := hNE.2 rfl
            have hA' : Apt (.slice da' dn' dc') (.slice fa1 fn1 fc1) := Apt.of_gt (fun b hb => (hV'.2.1.blk b hb).1) hfb
            obtain ⟨lt, ct, _⟩ := hTE.bx.out
            have t0 := ct 0
            have t1 := ct 1
            have t2 := ct 2
            obtain ⟨lb, cb, fq⟩ := hDbE.bx.out
            have b0 := cb 0
            have b1 := cb 1
            have b2 := cb 2
            have fb0 := fq 0
            have fb1 := fq 1
            have fb2 := fq 2
            clear ct cb fq
            go_wp2
            go_roundw
            case rel => exact ⟨j - 1, fl1, fa1, fn1, fc1, fi1, hi1, a', n', c', kk', da', dn', dc', l', dl', by omega, by go_num, hRfE.far3 (by omega) _ _ _, hRdE.far3 (by omega) _ _ _, hFbE.far3 (by omega) _ _ _, hDbE.set3 _ _ _, FdV.set3t (t := 28) hVE hDbE (by decide) (by decide) _ _ _, (hV'.less (by omega)).set3 hDbE _ _ _, hA', (rdr_set3 hrE (by omega) _ _ _).weak (by omega) (by omega), y_set3 hyE (by omega) _ _ _⟩
            case measure => simp [intOf]; omega
        · have hc1 : ¬ ((k6 : Int) = 0 ∧ (0 : Int) < (n : Int)) := by omega
          have hrE := hr6
          by_cases hc2 : k6 = 0
          · subst hc2
            have hn1 : ¬ (0 : Int) < (n : Int) := by omega
            cases ok
            · go_wp2
              go_roundw
              case rel => exact ⟨j - 1, fl1, fa1, fn1, fc1, fi1, hi1, a, n, c, kk, da, dn, dc, l, dl, by omega, by go_num, hRfE, hRdE, hFbE, hDbE, hVE, hDkE, hA1, hrE.weak (by omega) (by omega), hyE⟩
              case measure => simp [intOf]; omega
            · obtain ⟨a', n', c', kk', da', dn', dc', l', dl', rfl, rfl, rfl, hV'⟩ := hNE.2 rfl
              have hA' : Apt (.slice da' dn' dc') (.slice fa1 fn1 fc1) := Apt.of_gt (fun b hb => (hV'.2.1.blk b hb).1) hfb
              obtain ⟨lt, ct, _⟩ := hTE.bx.out
              have t0 := ct 0
              have t1 := ct 1
              have t2 := ct 2
              obtain ⟨lb, cb, fq⟩ := hDbE.bx.out
              have b0 := cb 0
              have b1 := cb 1
              have b2 := cb 2
              have fb0 := fq 0
              have fb1 := fq 1
              have fb2 := fq 2
              clear ct cb fq
              go_wp2
              go_roundw
              case rel => exact ⟨j - 1, fl1, fa1, fn1, fc1, fi1, hi1, a', n', c', kk', da', dn', dc', l', dl', by omega, by go_num, hRfE.far3 (by omega) _ _ _, hRdE.far3 (by omega) _ _ _, hFbE.far3 (by omega) _ _ _, hDbE.set3 _ _ _, FdV.set3t (t := 28) hVE hDbE (by decide) (by decide) _ _ _, (hV'.less (by omega)).set3 hDbE _ _ _, hA', (rdr_set3 hrE (by omega) _ _ _).weak (by omega) (by omega), y_set3 hyE (by omega) _ _ _⟩
              case measure => simp [intOf]; omega
          · have hc3 : ¬ (k6 : Int) = 0 := by omega
            cases ok
            · go_wp2
              go_roundw
              case rel => exact ⟨j - 1, fl1, fa1, fn1, fc1, fi1, hi1, a, n, c, kk, da, dn, dc, l, dl, by omega, by go_num, hRfE, hRdE, hFbE, hDbE, hVE, hDkE, hA1, hrE.weak (by omega) (by omega), hyE⟩
              case measure => simp [intOf]; omega
            · obtain ⟨a', n', c', kk', da', dn', dc', l', dl', rfl, rfl, rfl, hV'⟩ := hNE.2 rfl
              have hA' : Apt (.slice da' dn' dc') (.slice fa1 fn1 fc1) := Apt.of_gt (fun b hb => (hV'.2.1.blk b hb).1) hfb
              obtain ⟨lt, ct, _⟩ := hTE.bx.out
              have t0 := ct 0
              have t1 := ct 1
              have t2 := ct 2
              obtain ⟨lb, cb, fq⟩ := hDbE.bx.out
              have b0 := cb 0
              have b1 := cb 1
              have b2 := cb 2
              have fb0 := fq 0
              have fb1 := fq 1
              have fb2 := fq 2
              clear ct cb fq
              go_wp2
              go_roundw
              case rel => exact ⟨j - 1, fl1, fa1, fn1, fc1, fi1, hi1, a', n', c', kk', da', dn', dc', l', dl', by omega, by go_num, hRfE.far3 (by omega) _ _ _, hRdE.far3 (by omega) _ _ _, hFbE.far3 (by omega) _ _ _, hDbE.set3 _ _ _, FdV.set3t (t := 28) hVE hDbE (by decide) (by decide) _ _ _, (hV'.less (by omega)).set3 hDbE _ _ _, hA', (rdr_set3 hrE (by omega) _ _ _).weak (by omega) (by omega), y_set3 hyE (by omega) _ _ _⟩
              case measure => simp [intOf]; omega
    · have h0' : ¬ (0 : Int) < (j : Int) := by omega
      have hzd : db < wr.heap.size := hDb1.bx.lt
      go_wp2
      refine wp_region_inv (fun L v W => Tf W (w.heap.size + 1 + 1) #[.slice fa1 fn1 fc1, .int .i64 fi1, .int .i64 hi1]
          ∧ Tk W db #[.slice a n c, .int .i64 kk, .slice da dn dc]
          ∧ FdV W w.heap.size fa1 fn1 fc1 fi1 hi1 fl1
          ∧ Rdr W rb (m + 800)
          ∧ Y rb w W
          ∧ (L 3 = false → Tf W w.heap.size #[.slice none 0 0, .int .i64 0, .int .i64 0])
          ∧ (L 4 = false → Tk W (w.heap.size + 1) #[.slice none 0 0, .int .i64 0, .slice none 0 0])
          ∧ (L 4 = true → Tk W (w.heap.size + 1) #[.slice a n c, .int .i64 kk, .slice da dn dc])
          ∧ (L 3 = true → L 1 = true)
          ∧ (L 1 = true → ∃ fa2 fc2, v 1 = .agg #[.slice fa2 fn1 fc2, .int .i64 fi1, .int .i64 hi1] ∧ FdV W w.heap.size fa2 fn1 fc2 fi1 hi1 fl1 ∧ (L 3 = true → Tf W w.heap.size #[.slice fa2 fn1 fc2, .int .i64 fi1, .int .i64 hi1]))
          ∧ (L 0 = true → v 0 = .agg #[.slice fa1 fn1 fc1, .int .i64 fi1, .int .i64 hi1])
          ∧ (L 2 = true → v 2 = .agg #[.slice a n c, .int .i64 kk, .slice da dn dc])) (by kernel_rfl) (by kernel_rfl) ?_ ?_ (l := [(67, 0), (68, 1), (69, 2)]) (by kernel_rfl) (n := 5) rfl ?_
      · intro v
        exact ⟨hFb1.x (X.refl _).drew, hDb1.x (X.refl _).drew, hV0.fr ((X.refl _).drew.fr _), (hr1.x (X.refl _).drew).weak (by omega) (by omega), hyw1.trans (Y.of_x (X.refl _).drew), fun _ => hRf1.x (X.refl _).drew, fun _ => hRd1.x (X.refl _).drew, fun h => Bool.noConfusion h, fun h => Bool.noConfusion h, fun h => Bool.noConfusion h, fun h => Bool.noConfusion h, fun h => Bool.noConfusion h⟩
      · intro i hi
        have hi' : i = 0 ∨ i = 1 ∨ i = 2 ∨ i = 3 ∨ i = 4 := by
          have : i < 5 := hi
          omega
        clear hi
        rcases hi' with rfl | rfl | rfl | rfl | rfl
        all_goals
          intro o ho L v aa W hI hS hL hA K hK
          cases (show some _ = some o from ho)
          obtain ⟨ff, dd, vv, rr, yw, z1, z2, z2s, d3, rc, v0, v2⟩ := hI
        · have o4 := hS.old 4 (by kernel_rfl) rfl
          obtain ⟨ltf, f0, f1, f2, _⟩ := ff.cells
          clear hS ho hA
          go_simp
          exact hK _ W ⟨ff, dd, vv, rr, yw, z1, z2, z2s, d3, rc, fun _ => rfl, v2⟩
        · have l0 : L 0 = true := hA ⟨0, .data⟩ (by simp) rfl
          have g0 := hS.get 0 67 rfl l0 (v0 l0)
          clear hS ho hA
          go_simp
          refine (copyFinder_c fl1 fa1 fn1 fc1 fi1 hi1 w.heap.size W vv).mono ?_
          rintro _ w' ⟨fa2, fc2, rfl, hV2, hx⟩
          exact hK _ w' ⟨ff.x hx, dd.x hx, vv.fr (hx.fr _), rr.x hx, yw.trans (Y.of_x hx), fun h => (z1 h).x hx, fun h => (z2 h).x hx, fun h => (z2s h).x hx, fun _ => rfl, fun _ => ⟨fa2, fc2, rfl, hV2.less (by have := yw.size; omega), fun h => Bool.noConfusion (hL.symm.trans (d3 h))⟩, v0, v2⟩
        · have o5 := hS.old 5 (by kernel_rfl) rfl
          obtain ⟨ltd, cd, _⟩ := dd.bx.out
          have d0 := cd 0
          have d1 := cd 1
          have d2 := cd 2
          clear cd
          clear hS ho hA
          go_simp
          exact hK _ W ⟨ff, dd, vv, rr, yw, z1, z2, z2s, d3, rc, v0, fun _ => rfl⟩
        · have o2 := hS.old 2 (by kernel_rfl) rfl
          have l1 : L 1 = true := hA ⟨1, .data⟩ (by simp) rfl
          obtain ⟨fa2, fc2, e1, hV2, hR2⟩ := rc l1
          have g1 := hS.get 1 68 rfl l1 e1
          have hTg := z1 hL
          obtain ⟨ltg, q0, q1, q2, fz0, fz1, fz2⟩ := hTg.cells
          clear hS ho hA
          go_simp
          exact hK undef _ ⟨ff.far3 (by omega) _ _ _, dd.far3 (by omega) _ _ _, vv.set3 (z1 hL) _ _ _, rdr_set3 rr (by omega) _ _ _, y_set3 yw (by omega) _ _ _, fun h => Bool.noConfusion h, fun h => (z2 h).far3 (by omega) _ _ _, fun h => (z2s h).far3 (by omega) _ _ _, fun _ => l1, fun _ => ⟨fa2, fc2, e1, hV2.set3 (z1 hL) _ _ _, fun _ => (z1 hL).set3 _ _ _⟩, v0, v2⟩
        · have o3 := hS.old 3 (by kernel_rfl) rfl
          have l2 : L 2 = true := hA ⟨2, .data⟩ (by simp) rfl
          have g2 := hS.get 2 69 rfl l2 (v2 l2)
          have hTg := z2 hL
          obtain ⟨ltg, cq, fq⟩ := hTg.bx.out
          have q0 := cq 0
          have q1 := cq 1
          have q2 := cq 2
          have fz0 := fq 0
          have fz1 := fq 1
          have fz2 := fq 2
          clear cq fq
          clear hS ho hA
          go_simp
          exact hK undef _ ⟨ff.far3 (by omega) _ _ _, dd.far3 (by omega) _ _ _, FdV.set3t (t := 28) vv (z2 hL) (by decide) (by decide) _ _ _, rdr_set3 rr (by omega) _ _ _, y_set3 yw (by omega) _ _ _, fun h => (z1 h).far3 (by omega) _ _ _, fun h => Bool.noConfusion h, fun _ => (z2 hL).set3 _ _ _, d3, fun h => let ⟨fa2, fc2, e1, hV2, hR2⟩ := rc h; ⟨fa2, fc2, e1, FdV.set3t (t := 28) hV2 (z2 hL) (by decide) (by decide) _ _ _, fun q => (hR2 q).far3 (by omega) _ _ _⟩, v0, v2⟩
      intro v W9 hI
      obtain ⟨ff, dd, vv, rr, yw, z1, z2, z2s, d3, rc, v0, v2⟩ := hI
      have e0 := v0 rfl
      have e2 := v2 rfl
      clear v0 v2
      obtain ⟨fa2, fc2, e1, hV2, hR2⟩ := rc rfl
      replace hR2 := hR2 rfl
      replace z2s := z2s rfl
      clear rc z1 z2 d3
      simp only [putL, List.foldl, List.setIfInBounds_toArray, List.set_cons_zero, List.set_cons_succ, e0, e2, e1]
      clear e0 e2
      clear e1
      go_wp2
      refine bodyPost_ret (v := .tuple #[.agg #[.slice fa2 fn1 fc2, .int .i64 fi1, .int .i64 hi1], .agg #[.slice a n c, .int .i64 kk, .slice da dn dc]]) ?_ rfl ?_
      · obtain ⟨_, r0, r1, r2, _⟩ := hR2.cells
        obtain ⟨_, cs, _⟩ := z2s.bx.out
        have s0 := cs 0
        have s1 := cs 1
        have s2 := cs 2
        clear cs
        simp [results, Tryd.results56, go_sem, Result.andThen, r0, r1, r2, s0, s1, s2]
      · exact ⟨fl1, fa2, fn1, fc2, fi1, hi1, a, n, c, kk, da, dn, dc, rfl, hV2, rr, yw⟩

end Go.Proofs.YtgjfjjhmgbemcaaDoor
