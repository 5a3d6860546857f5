/- The exact law of DiskAdd: the walk. No condition but what a reading of the arguments says. -/
import Derived.Test.YtgjfjjhmgbemcaaGreatDoorWtD
import Derived.Test.YtgjfjjhmgbemcaaGreatDoorExL
import Derived.Deep.RegionHeldLaw
import Derived.Deep.RegionHeld3
import Derived.Test.YtgjfjjhmgbemcaaGreatDoorInv
namespace Go.Proofs.YtgjfjjhmgbemcaaGreatDoor
open Go.RowKit

theorem keep6 {W : World} {b' : Nat} {f0 f1 f2 f3 f4 f5 : Value} (hF : Bx W b' #[f0, f1, f2, f3, f4, f5]) :
    W.cell? ⟨b', 0, none⟩ = some f0 ∧ W.cell? ⟨b', 1, none⟩ = some f1 ∧ W.cell? ⟨b', 2, none⟩ = some f2 ∧ W.cell? ⟨b', 3, none⟩ = some f3 ∧ W.cell? ⟨b', 4, none⟩ = some f4 ∧ W.cell? ⟨b', 5, none⟩ = some f5 := by
  obtain ⟨_, e, _⟩ := hF.out
  exact ⟨e 0, e 1, e 2, e 3, e 4, e 5⟩
theorem keep9 {W : World} {b b' : Nat} {d0 d1 d2 f0 f1 f2 f3 f4 f5 : Value} (hD : Bx W b #[d0, d1, d2]) (hF : Bx W b' #[f0, f1, f2, f3, f4, f5]) :
    (W.cell? ⟨b, 0, none⟩ = some d0 ∧ W.cell? ⟨b, 1, none⟩ = some d1 ∧ W.cell? ⟨b, 2, none⟩ = some d2) ∧ W.cell? ⟨b', 0, none⟩ = some f0 ∧ W.cell? ⟨b', 1, none⟩ = some f1 ∧ W.cell? ⟨b', 2, none⟩ = some f2 ∧ W.cell? ⟨b', 3, none⟩ = some f3 ∧ W.cell? ⟨b', 4, none⟩ = some f4 ∧ W.cell? ⟨b', 5, none⟩ = some f5 := by
  obtain ⟨_, c, _⟩ := hD.out
  obtain ⟨_, e, _⟩ := hF.out
  exact ⟨⟨c 0, c 1, c 2⟩, e 0, e 1, e 2, e 3, e 4, e 5⟩
theorem keep3 {W : World} {b : Nat} {d0 d1 d2 : Value} (hD : Bx W b #[d0, d1, d2]) : W.cell? ⟨b, 0, none⟩ = some d0 ∧ W.cell? ⟨b, 1, none⟩ = some d1 ∧ W.cell? ⟨b, 2, none⟩ = some d2 := by
  obtain ⟨_, c, _⟩ := hD.out
  exact ⟨c 0, c 1, c 2⟩
theorem keep33 {W : World} {b b' : Nat} {d0 d1 d2 x0 x1 x2 : Value} (hD : Bx W b #[d0, d1, d2]) (hF : Bx W b' #[x0, x1, x2]) :
    (W.cell? ⟨b, 0, none⟩ = some d0 ∧ W.cell? ⟨b, 1, none⟩ = some d1 ∧ W.cell? ⟨b, 2, none⟩ = some d2) ∧ W.cell? ⟨b', 0, none⟩ = some x0 ∧ W.cell? ⟨b', 1, none⟩ = some x1 ∧ W.cell? ⟨b', 2, none⟩ = some x2 := ⟨keep3 hD, keep3 hF⟩
set_option maxRecDepth 100000 in
set_option maxHeartbeats 1000000 in
theorem markFile_d (f : Fi) (ba : Option Addr) (bn bc B k : Nat) (w : World) (xs : List Value) (hO : w.ownsRow B 148 5 (.slice ba bn bc) bn xs) (hn : bn ≤ 1073741824) (hk : k ≤ 1073741824) :
    Calls Tryz.prog 17 #[.agg #[.int .i64 (f).root, .string ⟨(f).pkg.toArray⟩, .string ⟨(f).name.toArray⟩, .bool (f).init, .int .i64 (f).stamp, .slice ba bn bc], .int .i64 (k : Int)] w fun e w' => e = .returned (.int .i64 ((k + 5 * bn : Nat) : Int)) ∧ w.grownBy w' (Value.slice ba bn bc).ownBlock := by
  go_enter Tryz.func17, Tryz.ntmps17
  go_wp2_with fail
  refine calls_name (fun W hW => ?_)
  have hX0 : X w W := by rw [hW]; (repeat (first | with_reducible exact X.refl _ | with_reducible assumption | with_reducible refine X.setCell ?_ (by first | (simp; done) | (simp; omega)) _ | with_reducible refine X.ext ?_ _ | with_reducible refine X.alloc ?_ _ | with_reducible refine X.drew ?_))
  clear hW
  refine (markStmtS_c xs ba bn bc B k W (own_fr hO (hX0.fr _)) hn hk).mono ?_
  rintro _ w2 ⟨rfl, _, hg⟩
  go_wp2
  go_ret
  exact ⟨rfl, hX0.grown hg⟩

set_option maxRecDepth 100000 in
set_option maxHeartbeats 8000000 in
theorem FnExactDiskAdd_c (l : List Fi) (a : Option Addr) (n c : Nat) (kk : Int) (dl : List Di) (da : Option Addr) (dn dc : Nat) (f : Fi) (ba : Option Addr) (bn bc : Nat) (ticks : Int) (w : World) (hR : FilesR w a n l) (hQ : DirsR w da dn dl) (hm : f.pkg.length ≤ maxLen) (hk : f.name.length ≤ maxLen) (hSR : StmtsR w ba bn f.body) (hG : Gm w) :
    Calls Tryz.prog 3 #[.agg #[.slice a n c, .int .i64 kk, .slice da dn dc], .agg #[.int .i64 (f).root, .string ⟨(f).pkg.toArray⟩, .string ⟨(f).name.toArray⟩, .bool (f).init, .int .i64 (f).stamp, .slice ba bn bc], .int .i64 ticks] w fun e w' => e = .returned (.bool true) ∧ Below w.heap.size w w' := by
  by_cases h3 : szDk l dl 1048576 < 0
  · go_enter Tryz.func3, Tryz.ntmps3
    go_wp2_with (go_at_call 8; refine (szDisk_c l a n c kk dl da dn dc _ _ (hR.mono (by (repeat (first | with_reducible exact X.refl _ | with_reducible assumption | with_reducible refine X.setCell ?_ (by first | (simp; done) | (simp; omega)) _ | with_reducible refine X.ext ?_ _ | with_reducible refine X.alloc ?_ _ | with_reducible refine X.drew ?_)))) (hQ.mono (by (repeat (first | with_reducible exact X.refl _ | with_reducible assumption | with_reducible refine X.setCell ?_ (by first | (simp; done) | (simp; omega)) _ | with_reducible refine X.ext ?_ _ | with_reducible refine X.alloc ?_ _ | with_reducible refine X.drew ?_)))) (by omega) (by omega)).mono ?_; rintro _ w1 ⟨rfl, hx1⟩)
    go_ret
    exact ⟨rfl, X.below (X.trans (by (repeat (first | with_reducible exact X.refl _ | with_reducible assumption | with_reducible refine X.setCell ?_ (by first | (simp; done) | (simp; omega)) _ | with_reducible refine X.ext ?_ _ | with_reducible refine X.alloc ?_ _ | with_reducible refine X.drew ?_))) hx1)⟩
  have hz1 : 0 ≤ szFis l 1048576 := by
    unfold szDk at h3
    split at h3 <;> omega
  have hz2 : 0 ≤ szDis dl (szFis l 1048576) := by
    unfold szDk at h3
    rw [if_neg (by omega)] at h3
    split at h3 <;> omega
  have hF := hR.at hz1
  have hle1 := szFis_le l 1048576 hz1
  have hD := hQ.at hle1 hz2
  have hwt := szFis_wt hz1
  have hwd := szDis_wt hle1 hz2
  have hle : szDk l dl 1048576 ≤ 1048576 := by
    unfold szDk
    rw [if_neg (by omega), if_neg (by omega)]
    exact Int.le_trans (szDis_le dl _ hz2) hle1
  have H3 := Lib.hid h3
  clear hz1 hz2 hle1
  by_cases h4 : szFi f (szDk l dl 1048576) < 0
  · go_enter Tryz.func3, Tryz.ntmps3
    go_wp2_with fail
    refine calls_name (fun W0 hW0 => ?_)
    obtain ⟨hB0, hB1, hX0⟩ := bx2 hW0
    clear hW0
    refine (szDisk_c l a n c kk dl da dn dc _ W0 (hR.mono hX0) (hQ.mono hX0) (by omega) (by omega)).mono ?_
    rintro _ w1 ⟨rfl, hx1⟩
    obtain ⟨t0, t1, t2, t3, t4, t5⟩ := keep6 (hB1.x hx1)
    have hlT := (hB1.x hx1).lt
    go_wp2_with (go_at_call 9; refine (szFile_c f ba bn bc _ _ hm hk (hSR.mono (X.trans (hX0.trans hx1) (by (repeat (first | with_reducible exact X.refl _ | with_reducible assumption | with_reducible refine X.setCell ?_ (by first | (simp; done) | (simp; omega)) _ | with_reducible refine X.ext ?_ _ | with_reducible refine X.alloc ?_ _ | with_reducible refine X.drew ?_))))) (by omega) (by omega)).mono ?_; rintro _ w2 ⟨rfl, hx2⟩)
    go_ret
    exact ⟨rfl, X.below ((hX0.trans hx1).trans hx2)⟩
  have hfo := szFi_ok (f := f) (n := szDk l dl 1048576) (by omega)
  have hfS := hSR.at (by omega) (fun s hs => by have := hfo.2.2.2 s hs; omega)
  have hf : Okf f := ⟨by omega, by omega⟩
  have H4 := Lib.hid h4
  have Hle := Lib.hid hle
  have hbn := hfS.2.1
  have Hbl := Lib.hid hfS.1
  have hnn := hF.len.2
  have hdd := hD.len.2
  have okL := hF.okL
  have okD := hD.okD
  have hnl : n ≤ 1048576 := by
    have := hF.len.1
    have := wtF_len l
    omega
  clear hfo hle
  go_enter Tryz.func3, Tryz.ntmps3
  go_wp2_with fail
  refine calls_name (fun W0 hW0 => ?_)
  obtain ⟨hB0, hB1, hX0⟩ := bx2 hW0
  clear hW0
  refine (szDisk_c l a n c kk dl da dn dc _ W0 (hR.mono hX0) (hQ.mono hX0) (by omega) (by omega)).mono ?_
  rintro _ w1 ⟨rfl, hx1⟩
  obtain ⟨t0, t1, t2, t3, t4, t5⟩ := keep6 (hB1.x hx1)
  have hlT := (hB1.x hx1).lt
  go_wp2_with fail
  refine (szFile_c f ba bn bc _ w1 hm hk (hSR.mono (hX0.trans hx1)) (by have := H3.out; omega) (by have := Hle.out; omega)).mono ?_
  rintro _ w2 ⟨rfl, hx2⟩
  have h4' := H4.out
  clear t0 t1 t2 t3 t4 t5 hlT hR hQ hSR H3 Hle hm hk
  have hD2 := (hB0.x hx1).x hx2
  have hF2 := (hB1.x hx1).x hx2
  have hX2 := (hX0.trans hx1).trans hx2
  clear hx1 hx2 hX0 hB0 hB1
  have hFz := hF.mono (hX2.fr 0)
  have hDz := hD.mono (hX2.fr 0)
  have hSz := hfS.mono (hX2.fr 0)
  have hda := da_ok (f := f) (kk := kk) (t := ticks) okL (by have := hF.len.1; omega) hf Hbl.out hbn hfS.2.2.1 okD
  have hdw := da_wt l kk dl f ticks
  obtain ⟨⟨d0, d1, d2⟩, t0, t1, t2, t3, t4, t5⟩ := keep9 hD2 hF2
  have hlD := hD2.lt
  have hlF := hF2.lt
  go_wp2
  refine wp_region_inv (fun L v W => X w2 W
      ∧ (L 5 = true → L 1 = true ∧ L 3 = true)
      ∧ (L 6 = true → L 5 = true)
      ∧ (L 7 = true → L 6 = true)
      ∧ (L 8 = true → L 6 = true)
      ∧ (L 10 = true → L 7 = true ∧ L 9 = true)
      ∧ (L 0 = true → v 0 = .agg #[.slice a n c, .int .i64 kk, .slice da dn dc])
      ∧ (L 1 = true → L 10 = false → ∃ ra rd, v 1 = .agg #[.slice ra n n, .int .i64 kk, .slice rd dn dn] ∧ FilesO W w2.heap.size ra n n l ∧ DirsO W w2.heap.size rd dn dn dl)
      ∧ (L 2 = true → v 2 = .agg #[.int .i64 (f).root, .string ⟨(f).pkg.toArray⟩, .string ⟨(f).name.toArray⟩, .bool (f).init, .int .i64 (f).stamp, .slice ba bn bc])
      ∧ (L 3 = true → L 10 = false → ∃ rb, v 3 = .agg #[.int .i64 (f).root, .string ⟨(f).pkg.toArray⟩, .string ⟨(f).name.toArray⟩, .bool (f).init, .int .i64 (f).stamp, .slice rb bn bn] ∧ W.ownsRow w2.heap.size 148 5 (.slice rb bn bn) bn (f.body.flatMap scells))
      ∧ (L 4 = true → v 4 = .int .i64 ticks)
      ∧ (L 5 = true → L 10 = false → ∃ a5 c5 da5 dc5 E5, v 5 = .tuple #[.agg #[.slice a5 (daL l kk dl f ticks).length c5, .int .i64 (daK l kk dl f ticks), .slice da5 (daD l kk dl f ticks).length dc5], .bool (daB l kk dl f ticks)] ∧ (L 6 = true → v 6 = .tuple #[.agg #[.slice a5 (daL l kk dl f ticks).length c5, .int .i64 (daK l kk dl f ticks), .slice da5 (daD l kk dl f ticks).length dc5], .bool (daB l kk dl f ticks)]) ∧ (L 7 = true → v 7 = .agg #[.slice a5 (daL l kk dl f ticks).length c5, .int .i64 (daK l kk dl f ticks), .slice da5 (daD l kk dl f ticks).length dc5]) ∧ w2.heap.size ≤ E5 ∧ E5 ≤ W.heap.size ∧ FilesE W w2.heap.size E5 a5 (daL l kk dl f ticks).length c5 (daL l kk dl f ticks) ∧ DirsO W E5 da5 (daD l kk dl f ticks).length dc5 (daD l kk dl f ticks))
      ∧ (L 9 = true → ∃ g, v 9 = .pointer (some ⟨g, 0, none⟩) ∧ w2.heap.size ≤ g ∧ (L 10 = false → W.heap[g]? = some (.cells #[.slice none 0 0, .int .i64 0, .slice none 0 0] 38 (0, 0))))
      ∧ (L 6 = true → ∃ x, v 6 = .tuple #[x, .bool (daB l kk dl f ticks)])
      ∧ (L 8 = true → v 8 = .bool (daB l kk dl f ticks))
      ∧ (L 11 = true → v 11 = .bool (daB l kk dl f ticks))
      ∧ (L 10 = true → ∃ g a5 c5 da5 dc5 E5, v 9 = .pointer (some ⟨g, 0, none⟩) ∧ w2.heap.size ≤ g ∧ W.heap[g]? = some (.cells #[.slice a5 (daL l kk dl f ticks).length c5, .int .i64 (daK l kk dl f ticks), .slice da5 (daD l kk dl f ticks).length dc5] 38 (0, 0)) ∧ w2.heap.size ≤ E5 ∧ E5 ≤ W.heap.size ∧ FilesE W w2.heap.size E5 a5 (daL l kk dl f ticks).length c5 (daL l kk dl f ticks) ∧ DirsO W E5 da5 (daD l kk dl f ticks).length dc5 (daD l kk dl f ticks))) (by kernel_rfl) (by kernel_rfl) ?_ ?_ (l := [(30, 0), (31, 1), (32, 2), (33, 3), (34, 4), (35, 5), (29, 6), (36, 7), (37, 8), (8, 9), (9, 11)]) (by kernel_rfl) (n := 12) rfl ?_
  · intro v
    exact ⟨(X.refl _).drew, fun h => Bool.noConfusion h, fun h => Bool.noConfusion h, fun h => Bool.noConfusion h, fun h => Bool.noConfusion h, fun h => Bool.noConfusion h, fun h => Bool.noConfusion h, fun h => Bool.noConfusion h, fun h => Bool.noConfusion h, fun h => Bool.noConfusion h, fun h => Bool.noConfusion h, fun h => Bool.noConfusion h, fun h => Bool.noConfusion h, fun h => Bool.noConfusion h, fun h => Bool.noConfusion h, fun h => Bool.noConfusion h, fun h => Bool.noConfusion h⟩
  · intro i hi
    have hi' : i = 0 ∨ i = 1 ∨ i = 2 ∨ i = 3 ∨ i = 4 ∨ i = 5 ∨ i = 6 ∨ i = 7 ∨ i = 8 ∨ i = 9 ∨ i = 10 ∨ i = 11 := by
      have : i < 12 := hi
      omega
    clear hi
    rcases hi' with rfl | rfl | rfl | rfl | rfl | rfl | rfl | rfl | rfl | rfl | rfl | rfl
    all_goals
      intro o ho L v aa W hI hS hL hA K hK
      cases (show some _ = some o from ho)
      obtain ⟨xx, d5, d6, d7, d8, d10, v0, v1, v2, v3, v4, r5, v9, w6, v8, v11, fin⟩ := hI
    · have a0 := hS.old 3 (by kernel_rfl) rfl
      obtain ⟨⟨d0, d1, d2⟩, t0, t1, t2, t3, t4, t5⟩ := keep9 (hD2.x xx) (hF2.x xx)
      have lD := Nat.lt_of_lt_of_le hD2.lt xx.size
      have lF := Nat.lt_of_lt_of_le hF2.lt xx.size
      clear hS ho hA
      go_simp
      exact hK _ W ⟨xx, d5, d6, d7, d8, d10, fun _ => rfl, v1, v2, v3, v4, r5, v9, w6, v8, v11, fin⟩
    · have l0 : L 0 = true := hA ⟨0, .data⟩ (by simp) rfl
      have a0 := hS.get 0 30 rfl l0 (v0 l0)
      have n10 : L 10 = false := by rcases h : L 10 with _ | _; (· rfl); (· have := (d5 (d6 (d7 (d10 h).1))).1; simp [hL] at this)
      clear hS ho hA
      go_simp
      refine (toDisk_c l a n c kk dl da dn dc 0 W (hFz.mono (xx.fr _)) (hDz.mono (xx.fr _))).mono ?_
      rintro _ w' ⟨ra, rd, rfl, hO, hP, hx⟩
      exact hK _ w' ⟨xx.trans hx, fun h => ⟨rfl, (d5 h).2⟩, d6, d7, d8, d10, v0, fun _ _ => ⟨ra, rd, rfl, hO.less xx.size, hP.less xx.size⟩, v2, fun h n => let ⟨rb, e, k1⟩ := v3 h n; ⟨rb, e, own_fr k1 (hx.fr _)⟩, v4, fun h n => let ⟨a5, c5, da5, dc5, E5, e, e6, e7, k1, k2, k3, k4⟩ := r5 h n; ⟨a5, c5, da5, dc5, E5, e, e6, e7, k1, Nat.le_trans k2 (hx).size, k3.fr ((hx).fr _), k4.fr ((hx).fr _)⟩, fun h => let ⟨g, e, hg, hb⟩ := v9 h; ⟨g, e, hg, fun h => at_x2' (hb h) hx⟩, w6, v8, v11, fun h => Bool.noConfusion (n10.symm.trans h)⟩
    · have a0 := hS.old 4 (by kernel_rfl) rfl
      obtain ⟨⟨d0, d1, d2⟩, t0, t1, t2, t3, t4, t5⟩ := keep9 (hD2.x xx) (hF2.x xx)
      have lD := Nat.lt_of_lt_of_le hD2.lt xx.size
      have lF := Nat.lt_of_lt_of_le hF2.lt xx.size
      clear hS ho hA
      go_simp
      exact hK _ W ⟨xx, d5, d6, d7, d8, d10, v0, v1, fun _ => rfl, v3, v4, r5, v9, w6, v8, v11, fin⟩
    · have l2 : L 2 = true := hA ⟨2, .data⟩ (by simp) rfl
      have a2 := hS.get 2 32 rfl l2 (v2 l2)
      have n10 : L 10 = false := by rcases h : L 10 with _ | _; (· rfl); (· have := (d5 (d6 (d7 (d10 h).1))).2; simp [hL] at this)
      clear hS ho hA
      go_simp
      refine (toFile_c f ba bn bc 0 W (hSz.mono (xx.fr _))).mono ?_
      rintro _ w' ⟨rb, rfl, hO, hx⟩
      exact hK _ w' ⟨xx.trans hx, fun h => ⟨(d5 h).1, rfl⟩, d6, d7, d8, d10, v0, fun h n => let ⟨ra, rd, e, k1, k2⟩ := v1 h n; ⟨ra, rd, e, k1.fr (hx.fr _), k2.fr (hx.fr _)⟩, v2, fun _ _ => ⟨rb, rfl, own_less hO xx.size⟩, v4, fun h n => let ⟨a5, c5, da5, dc5, E5, e, e6, e7, k1, k2, k3, k4⟩ := r5 h n; ⟨a5, c5, da5, dc5, E5, e, e6, e7, k1, Nat.le_trans k2 (hx).size, k3.fr ((hx).fr _), k4.fr ((hx).fr _)⟩, fun h => let ⟨g, e, hg, hb⟩ := v9 h; ⟨g, e, hg, fun h => at_x2' (hb h) hx⟩, w6, v8, v11, fun h => Bool.noConfusion (n10.symm.trans h)⟩
    · have a0 := hS.old 2 (by kernel_rfl) rfl
      clear hS ho hA
      go_simp
      exact hK _ W ⟨xx, d5, d6, d7, d8, d10, v0, v1, v2, v3, fun _ => rfl, r5, v9, w6, v8, v11, fin⟩
    · have l1 : L 1 = true := hA ⟨1, .data⟩ (by simp) rfl
      have l3 : L 3 = true := hA ⟨3, .data⟩ (by simp) rfl
      have l4 : L 4 = true := hA ⟨4, .data⟩ (by simp) rfl
      have n10 : L 10 = false := by rcases h : L 10 with _ | _; (· rfl); (· have := d6 (d7 (d10 h).1); simp [hL] at this)
      obtain ⟨ra, rd, e1, hO1, hP1⟩ := v1 l1 n10
      obtain ⟨rb, e3, hO3⟩ := v3 l3 n10
      have a1 := hS.get 1 31 rfl l1 e1
      have a3 := hS.get 3 33 rfl l3 e3
      have a4 := hS.get 4 34 rfl l4 (v4 l4)
      clear hS ho hA
      go_simp
      refine (DiskAdd_s l ra n n kk dl rd dn dn 0 f rb bn bn 0 ticks W ((hO1.at okL).less (Nat.zero_le _)) ((hP1.at okD).less (Nat.zero_le _)) (by omega) hf ⟨Hbl.out, hbn, hfS.2.2.1, (Sl.of_own hO3).less (Nat.zero_le _)⟩).mono ?_
      rintro _ w' ⟨v', rfl, ⟨a5, c5, da5, dc5, E5, rfl, k1, k2, k3, k4⟩, hx⟩
      exact hK _ w' ⟨xx.trans hx, fun _ => ⟨l1, l3⟩, fun _ => rfl, d7, d8, d10, v0, fun h n => let ⟨ra, rd, e, k1, k2⟩ := v1 h n; ⟨ra, rd, e, k1.fr (hx.fr _), k2.fr (hx.fr _)⟩, v2, fun h n => let ⟨rb, e, k1⟩ := v3 h n; ⟨rb, e, own_fr k1 (hx.fr _)⟩, v4, fun _ _ => ⟨a5, c5, da5, dc5, E5, rfl, fun h => Bool.noConfusion (hL.symm.trans (d6 h)), fun h => Bool.noConfusion (hL.symm.trans (d6 (d7 h))), Nat.le_trans xx.size k1, k2, k3.lessB xx.size, k4⟩, fun h => let ⟨g, e, hg, hb⟩ := v9 h; ⟨g, e, hg, fun h => at_x2' (hb h) hx⟩, w6, v8, v11, fun h => Bool.noConfusion (n10.symm.trans h)⟩
    · have l5 : L 5 = true := hA ⟨5, .data⟩ (by simp) rfl
      have n10 : L 10 = false := by rcases h : L 10 with _ | _; (· rfl); (· have := d7 (d10 h).1; simp [hL] at this)
      obtain ⟨a5, c5, da5, dc5, E5, e5, e6, e7, k1, k2, k3, k4⟩ := r5 l5 n10
      have b5 := hS.get 5 35 rfl l5 e5
      clear hS ho hA
      go_simp
      exact hK _ W ⟨xx, d5, fun _ => l5, fun _ => rfl, fun _ => rfl, d10, v0, v1, v2, v3, v4, fun _ _ => ⟨a5, c5, da5, dc5, E5, e5, fun _ => rfl, e7, k1, k2, k3, k4⟩, v9, fun _ => ⟨_, rfl⟩, v8, v11, fin⟩
    · have l6 : L 6 = true := hA ⟨6, .data⟩ (by simp) rfl
      have l5 := d6 l6
      have n10 : L 10 = false := by rcases h : L 10 with _ | _; (· rfl); (· have := (d10 h).1; simp [hL] at this)
      obtain ⟨a5, c5, da5, dc5, E5, e5, e6, e7, k1, k2, k3, k4⟩ := r5 l5 n10
      have a6 := hS.get 6 29 rfl l6 (e6 l6)
      clear hS ho hA
      go_simp
      exact hK _ W ⟨xx, d5, d6, fun _ => l6, d8, fun h => ⟨rfl, (d10 h).2⟩, v0, v1, v2, v3, v4, fun _ _ => ⟨a5, c5, da5, dc5, E5, e5, e6, fun _ => rfl, k1, k2, k3, k4⟩, v9, w6, v8, v11, fin⟩
    · have l6 : L 6 = true := hA ⟨6, .data⟩ (by simp) rfl
      obtain ⟨x6, e6⟩ := w6 l6
      have a6 := hS.get 6 29 rfl l6 e6
      clear hS ho hA
      go_simp
      exact hK _ W ⟨xx, d5, d6, d7, fun _ => l6, d10, v0, v1, v2, v3, v4, r5, v9, w6, fun _ => rfl, v11, fin⟩
    · have n10 : L 10 = false := by rcases h : L 10 with _ | _; (· rfl); (· have := (d10 h).2; simp [hL] at this)
      clear hS ho hA
      go_simp
      exact hK _ _ ⟨xx.alloc _, d5, d6, d7, d8, fun h => ⟨(d10 h).1, rfl⟩, v0, fun h n => let ⟨ra, rd, e, k1, k2⟩ := v1 h n; ⟨ra, rd, e, k1.fr (((X.refl W).alloc _).fr _), k2.fr (((X.refl W).alloc _).fr _)⟩, v2, fun h n => let ⟨rb, e, k1⟩ := v3 h n; ⟨rb, e, own_fr k1 (((X.refl W).alloc _).fr _)⟩, v4, fun h n => let ⟨a5, c5, da5, dc5, E5, e, e6, e7, k1, k2, k3, k4⟩ := r5 h n; ⟨a5, c5, da5, dc5, E5, e, e6, e7, k1, Nat.le_trans k2 (((X.refl W).alloc _)).size, k3.fr ((((X.refl W).alloc _)).fr _), k4.fr ((((X.refl W).alloc _)).fr _)⟩, fun _ => ⟨_, rfl, xx.size, fun _ => heap_alloc_new _ _⟩, w6, v8, v11, fun h => Bool.noConfusion (n10.symm.trans h)⟩
    · have l9 : L 9 = true := hA ⟨9, .data⟩ (by simp) rfl
      have l7 : L 7 = true := hA ⟨7, .data⟩ (by simp) rfl
      have l5 := d6 (d7 l7)
      have n10 := hL
      obtain ⟨a5, c5, da5, dc5, E5, e5, e6, e7, k1, k2, k3, k4⟩ := r5 l5 n10
      obtain ⟨g, e9, hg, hb0⟩ := v9 l9
      have hb := hb0 hL
      have a7 := hS.get 7 36 rfl l7 (e7 l7)
      have a9 := hS.get 9 8 rfl l9 e9
      obtain ⟨lb, cb, fb0⟩ := Bx.out ⟨_, hb⟩
      have f0 := fb0 0
      have f1 := fb0 1
      have f2 := fb0 2
      have c0 := cb 0
      have c1 := cb 1
      have c2 := cb 2
      clear fb0 cb
      clear hS ho hA
      go_simp
      exact hK undef _ ⟨x_set3 xx hg _ _ _, d5, d6, d7, d8, fun _ => ⟨l7, l9⟩, v0, fun _ h => Bool.noConfusion h, v2, fun _ h => Bool.noConfusion h, v4, fun _ h => Bool.noConfusion h, fun _ => ⟨g, e9, hg, fun h => Bool.noConfusion h⟩, w6, v8, v11, fun _ => ⟨g, a5, c5, da5, dc5, E5, e9, hg, heap_set3 hb _ _ _, k1, Nat.le_trans k2 (by simp [World.setCell]), ((k3.far hb (by decide) (by decide) _ _).far (heap_set1 hb) (by decide) (by decide) _ _).far (heap_set2 hb) (by decide) (by decide) _ _, ((k4.far hb (by decide) (by decide) _ _).far (heap_set1 hb) (by decide) (by decide) _ _).far (heap_set2 hb) (by decide) (by decide) _ _⟩⟩
    · have l8 : L 8 = true := hA ⟨8, .data⟩ (by simp) rfl
      have a8 := hS.get 8 37 rfl l8 (v8 l8)
      clear hS ho hA
      go_simp
      exact hK _ W ⟨xx, d5, d6, d7, d8, d10, v0, v1, v2, v3, v4, r5, v9, w6, v8, fun _ => rfl, fin⟩
  intro v W hI
  obtain ⟨xx, d5, d6, d7, d8, d10, v0, v1, v2, v3, v4, r5, v9, w6, v8, v11, fin⟩ := hI
  obtain ⟨g5, a5, c5, da5, dc5, E5, e9, hg5, hb5, k1, k2, k3, k4⟩ := fin rfl
  have e11 := v11 rfl
  clear fin v0 v1 v2 v3 v4 r5 v9 w6 v8 v11 d5 d6 d7 d8 d10
  simp only [putL, List.foldl, List.setIfInBounds_toArray, List.set_cons_zero, List.set_cons_succ, e9, e11]
  clear e9 e11
  have hXw := hX2.trans xx
  have hs0 : w.heap.size + 2 ≤ W.heap.size := by
    have := hF2.lt
    have := xx.size
    omega
  clear hFz hDz hSz d0 d1 d2 t0 t1 t2 t3 t4 t5 hlD hlF
  replace hD2 := hD2.x xx
  replace hF2 := hF2.x xx
  have hR5 : Bx W g5 #[.slice a5 (daL l kk dl f ticks).length c5, .int .i64 (daK l kk dl f ticks), .slice da5 (daD l kk dl f ticks).length dc5] := ⟨_, hb5⟩
  have hA5 := k3.o.at hda.1
  have hP5 := k4.at hda.2
  clear hb5 k3 k4 hX2 xx
  obtain ⟨⟨d0, d1, d2⟩, t0, t1, t2, t3, t4, t5⟩ := keep9 hD2 hF2
  have hlD := hD2.lt
  have hlF := hF2.lt
  go_wp2_with fail
  refine (toDisk_e l a n c kk dl da dn dc 0 W (hF.mono (hXw.fr _)) (hD.mono (hXw.fr _))).mono ?_
  rintro _ w4 ⟨ra4, rd4, E4, rfl, hO4, hP4, z1, z2, hx4⟩
  clear d0 d1 d2 t0 t1 t2 t3 t4 t5 hlD hlF
  obtain ⟨t0, t1, t2, t3, t4, t5⟩ := keep6 (hF2.x hx4)
  have hlF := (hF2.x hx4).lt
  go_wp2_with fail
  refine calls_name (fun W5 hW5 => ?_)
  have hB5 : Bx W5 w4.heap.size #[.slice ra4 n n, .int .i64 kk, .slice rd4 dn dn] := by rw [hW5]; first | exact Bx.new _ _ _ | exact Bx.set (Bx.set (Bx.set (Bx.new _ _ _) 0 _) 1 _) 2 _
  have hp5 : X w4 W5 := by rw [hW5]; (repeat (first | with_reducible exact X.refl _ | with_reducible assumption | with_reducible refine X.setCell ?_ (by first | (simp; done) | (simp; omega)) _ | with_reducible refine X.ext ?_ _ | with_reducible refine X.alloc ?_ _ | with_reducible refine X.drew ?_))
  clear hW5 t0 t1 t2 t3 t4 t5 hlF
  have hXw5 := hXw.trans (hx4.trans hp5)
  refine (toFile_c f ba bn bc 0 W5 (hfS.mono (hXw5.fr _))).mono ?_
  rintro _ w5 ⟨fa5, rfl, hO5, hx5⟩
  obtain ⟨x0, x1, x2⟩ := keep3 (hB5.x hx5)
  have hlX := (hB5.x hx5).lt
  go_wp2_with fail
  refine calls_name (fun W6 hW6 => ?_)
  have hB6 : Bx W6 w5.heap.size #[.int .i64 f.root, .string ⟨(f.pkg).toArray⟩, .string ⟨(f.name).toArray⟩, .bool f.init, .int .i64 f.stamp, .slice fa5 bn bn] := by rw [hW6]; first | exact Bx.new _ _ _ | exact Bx.set (Bx.set (Bx.set (Bx.set (Bx.set (Bx.set (Bx.new _ _ _) 0 _) 1 _) 2 _) 3 _) 4 _) 5 _
  have hp6 : X w5 W6 := by rw [hW6]; (repeat (first | with_reducible exact X.refl _ | with_reducible assumption | with_reducible refine X.setCell ?_ (by first | (simp; done) | (simp; omega)) _ | with_reducible refine X.ext ?_ _ | with_reducible refine X.alloc ?_ _ | with_reducible refine X.drew ?_))
  clear hW6 x0 x1 x2 hlX
  have hX46 : X w4 W6 := (hp5.trans hx5).trans hp6
  have hXw6 := hXw.trans (hx4.trans hX46)
  refine (DiskAdd_i l ra4 n n kk dl rd4 dn dn 0 f fa5 bn bn 0 ticks W6 (((hO4.o.at okL).mono (hX46.fr _)).less (Nat.zero_le _)) (((hP4.o.at okD).mono (hX46.fr _)).less (Nat.zero_le _)) (by omega) hf ⟨Hbl.out, hbn, hfS.2.2.1, ((Sl.of_own hO5).less (Nat.zero_le _)).mono (hp6.fr _)⟩ (Nat.le_refl _) (Nat.le_refl _) (hG.mono hXw6)).mono ?_
  rintro _ w6 ⟨_, rfl, ⟨a6, c6, da6, dc6, E6, rfl, z3, z4, hO6, hP6⟩, hx6⟩
  have hX46' := hX46.trans hx6
  have hXW6 := (hx4.trans hX46').trans (X.refl _)
  have hXw6' := hXw6.trans hx6
  obtain ⟨r0, r1, r2⟩ := keep3 (hR5.x hXW6)
  have hlR := (hR5.x hXW6).lt
  have hA6 := hO6.o.at hda.1
  have hQ6 := hP6.at hda.2
  go_wp2_with fail
  refine calls_name (fun W7 hW7 => ?_)
  have hB7 : Bx W7 w6.heap.size #[.slice a6 (daL l kk dl f ticks).length c6, .int .i64 (daK l kk dl f ticks), .slice da6 (daD l kk dl f ticks).length dc6] := by rw [hW7]; first | exact Bx.new _ _ _ | exact Bx.set (Bx.set (Bx.set (Bx.new _ _ _) 0 _) 1 _) 2 _
  have hp7 : X w6 W7 := by rw [hW7]; (repeat (first | with_reducible exact X.refl _ | with_reducible assumption | with_reducible refine X.setCell ?_ (by first | (simp; done) | (simp; omega)) _ | with_reducible refine X.ext ?_ _ | with_reducible refine X.alloc ?_ _ | with_reducible refine X.drew ?_))
  clear hW7 r0 r1 r2 hlR
  have hXW7 := hXW6.trans hp7
  refine (eqDisk_c (daL l kk dl f ticks) a6 a5 _ _ c6 c5 (daK l kk dl f ticks) (daD l kk dl f ticks) da6 da5 _ _ dc6 dc5 0 0 W7 ((hA6.mono (hp7.fr _)).less (Nat.zero_le _)) ((hA5.mono (hXW7.fr _)).less (Nat.zero_le _)) ((hQ6.mono (hp7.fr _)).less (Nat.zero_le _)) ((hP5.mono (hXW7.fr _)).less (Nat.zero_le _))).mono ?_
  rintro _ w7 ⟨rfl, hx7⟩
  have hX67 := hp7.trans hx7
  have hX47 := hX46'.trans hX67
  have hXw7 := hXw6'.trans hX67
  have bD7 := hD2.x (hXW7.trans hx7)
  have bX7 := (hB5.x (hx5.trans hp6)).x (hx6.trans hX67)
  obtain ⟨⟨d0, d1, d2⟩, x0, x1, x2⟩ := keep33 bD7 bX7
  have hlD := bD7.lt
  have hlX := bX7.lt
  have hF7 := hF.mono (hXw7.fr 0)
  have hD7 := hD.mono (hXw7.fr 0)
  have hO7 := ((hO4.o.at okL).mono (hX47.fr _))
  have hP7 := ((hP4.o.at okD).mono (hX47.fr _))
  go_wp2
  go_region_held_law (fun w' => (w'.cell? ⟨w.heap.size, 0, none⟩ = some (.slice a n c) ∧ w'.cell? ⟨w.heap.size, 1, none⟩ = some (.int .i64 kk) ∧ w'.cell? ⟨w.heap.size, 2, none⟩ = some (.slice da dn dc)) ∧ w'.cell? ⟨w4.heap.size, 0, none⟩ = some (.slice ra4 n n) ∧ w'.cell? ⟨w4.heap.size, 1, none⟩ = some (.int .i64 kk) ∧ w'.cell? ⟨w4.heap.size, 2, none⟩ = some (.slice rd4 dn dn))
    (first | (refine keep33 (bD7.x ?_) (bX7.x ?_); all_goals (repeat (first | with_reducible exact X.refl _ | with_reducible assumption | with_reducible refine X.alloc ?_ _ | with_reducible refine X.drew ?_)); done) | fail)
    (first
      | (go_at_call 11; refine (toDisk_c l a n c kk dl da dn dc 0 _ (hF7.mono (X.fr (by (repeat (first | with_reducible exact X.refl _ | with_reducible assumption | with_reducible refine X.setCell ?_ (by first | (simp; done) | (simp; omega)) _ | with_reducible refine X.ext ?_ _ | with_reducible refine X.alloc ?_ _ | with_reducible refine X.drew ?_))) _)) (hD7.mono (X.fr (by (repeat (first | with_reducible exact X.refl _ | with_reducible assumption | with_reducible refine X.setCell ?_ (by first | (simp; done) | (simp; omega)) _ | with_reducible refine X.ext ?_ _ | with_reducible refine X.alloc ?_ _ | with_reducible refine X.drew ?_))) _))).mono ?_; rintro _ wa ⟨sa, sd, rfl, hOa, hPa, hxa⟩; have hXa : X w7 wa := X.trans (by (repeat (first | with_reducible exact X.refl _ | with_reducible assumption | with_reducible refine X.setCell ?_ (by first | (simp; done) | (simp; omega)) _ | with_reducible refine X.ext ?_ _ | with_reducible refine X.alloc ?_ _ | with_reducible refine X.drew ?_))) hxa)
      | (go_at_call 14; refine (eqDisk_c l ra4 sa n n n n kk dl rd4 sd dn dn dn dn 0 0 _ ((hO7.mono (X.fr (by (repeat (first | with_reducible exact X.refl _ | with_reducible assumption | with_reducible refine X.setCell ?_ (by first | (simp; done) | (simp; omega)) _ | with_reducible refine X.ext ?_ _ | with_reducible refine X.alloc ?_ _ | with_reducible refine X.drew ?_))) _)).less (Nat.zero_le _)) (((hOa.at okL).mono (X.fr (by (repeat (first | with_reducible exact X.refl _ | with_reducible assumption | with_reducible refine X.setCell ?_ (by first | (simp; done) | (simp; omega)) _ | with_reducible refine X.ext ?_ _ | with_reducible refine X.alloc ?_ _ | with_reducible refine X.drew ?_))) _)).less (Nat.zero_le _)) ((hP7.mono (X.fr (by (repeat (first | with_reducible exact X.refl _ | with_reducible assumption | with_reducible refine X.setCell ?_ (by first | (simp; done) | (simp; omega)) _ | with_reducible refine X.ext ?_ _ | with_reducible refine X.alloc ?_ _ | with_reducible refine X.drew ?_))) _)).less (Nat.zero_le _)) (((hPa.at okD).mono (X.fr (by (repeat (first | with_reducible exact X.refl _ | with_reducible assumption | with_reducible refine X.setCell ?_ (by first | (simp; done) | (simp; omega)) _ | with_reducible refine X.ext ?_ _ | with_reducible refine X.alloc ?_ _ | with_reducible refine X.drew ?_))) _)).less (Nat.zero_le _))).mono ?_; rintro _ w8 ⟨rfl, hx8⟩; have hX8 : X w7 w8 := X.trans hXa (X.trans (by (repeat (first | with_reducible exact X.refl _ | with_reducible assumption | with_reducible refine X.setCell ?_ (by first | (simp; done) | (simp; omega)) _ | with_reducible refine X.ext ?_ _ | with_reducible refine X.alloc ?_ _ | with_reducible refine X.drew ?_))) hx8)))
  clear d0 d1 d2 x0 x1 x2 hlD hlX hF7 hD7 hO7 hP7 bD7 bX7 hXa hOa hPa hx8
  have hXw8 := hXw7.trans hX8
  have bF8 := hF2.x ((hXW7.trans hx7).trans hX8)
  have bY8 := (hB6.x hx6).x (hX67.trans hX8)
  obtain ⟨t0, t1, t2, t3, t4, t5⟩ := keep6 bF8
  obtain ⟨u0, u1, u2, u3, u4, u5⟩ := keep6 bY8
  have hlF := bF8.lt
  have hlY := bY8.lt
  have hS8 := hfS.mono (hXw8.fr 0)
  have hX58 : X w5 w8 := hp6.trans (hx6.trans (hX67.trans hX8))
  have hSf8 : StmtsAt w8 W5.heap.size fa5 bn f.body := StmtsAt.mono ⟨Hbl.out, hbn, hfS.2.2.1, Sl.of_own hO5⟩ (hX58.fr _)
  go_wp2
  go_region_held_law (fun w' => (w'.cell? ⟨w.heap.size + 1, 0, none⟩ = some (.int .i64 f.root) ∧ w'.cell? ⟨w.heap.size + 1, 1, none⟩ = some (.string ⟨(f.pkg).toArray⟩) ∧ w'.cell? ⟨w.heap.size + 1, 2, none⟩ = some (.string ⟨(f.name).toArray⟩) ∧ w'.cell? ⟨w.heap.size + 1, 3, none⟩ = some (.bool f.init) ∧ w'.cell? ⟨w.heap.size + 1, 4, none⟩ = some (.int .i64 f.stamp) ∧ w'.cell? ⟨w.heap.size + 1, 5, none⟩ = some (.slice ba bn bc)) ∧ w'.cell? ⟨w5.heap.size, 0, none⟩ = some (.int .i64 f.root) ∧ w'.cell? ⟨w5.heap.size, 1, none⟩ = some (.string ⟨(f.pkg).toArray⟩) ∧ w'.cell? ⟨w5.heap.size, 2, none⟩ = some (.string ⟨(f.name).toArray⟩) ∧ w'.cell? ⟨w5.heap.size, 3, none⟩ = some (.bool f.init) ∧ w'.cell? ⟨w5.heap.size, 4, none⟩ = some (.int .i64 f.stamp) ∧ w'.cell? ⟨w5.heap.size, 5, none⟩ = some (.slice fa5 bn bn))
    (first | (refine ⟨keep6 (bF8.x ?_), keep6 (bY8.x ?_)⟩; all_goals (repeat (first | with_reducible exact X.refl _ | with_reducible assumption | with_reducible refine X.alloc ?_ _ | with_reducible refine X.drew ?_)); done) | fail)
    (first
      | (go_at_call 12; refine (toFile_c f ba bn bc 0 _ (hS8.mono (X.fr (by (repeat (first | with_reducible exact X.refl _ | with_reducible assumption | with_reducible refine X.setCell ?_ (by first | (simp; done) | (simp; omega)) _ | with_reducible refine X.ext ?_ _ | with_reducible refine X.alloc ?_ _ | with_reducible refine X.drew ?_))) _))).mono ?_; rintro _ wb ⟨fb, rfl, hOb, hxb⟩; have hXb : X w8 wb := X.trans (by (repeat (first | with_reducible exact X.refl _ | with_reducible assumption | with_reducible refine X.setCell ?_ (by first | (simp; done) | (simp; omega)) _ | with_reducible refine X.ext ?_ _ | with_reducible refine X.alloc ?_ _ | with_reducible refine X.drew ?_))) hxb)
      | (go_at_call 15; refine (eqFile_c f f fa5 fb bn bn bn bn _ _ _ (hSf8.mono (X.fr (by (repeat (first | with_reducible exact X.refl _ | with_reducible assumption | with_reducible refine X.setCell ?_ (by first | (simp; done) | (simp; omega)) _ | with_reducible refine X.ext ?_ _ | with_reducible refine X.alloc ?_ _ | with_reducible refine X.drew ?_))) _)) (StmtsAt.mono ⟨Hbl.out, hbn, hfS.2.2.1, Sl.of_own hOb⟩ (X.fr (by (repeat (first | with_reducible exact X.refl _ | with_reducible assumption | with_reducible refine X.setCell ?_ (by first | (simp; done) | (simp; omega)) _ | with_reducible refine X.ext ?_ _ | with_reducible refine X.alloc ?_ _ | with_reducible refine X.drew ?_))) _))).mono ?_; rintro _ w9 ⟨rfl, hx9⟩; rw [decide_eq_true (rfl : f = f)]; have hX9 : X w8 w9 := X.trans hXb (X.trans (by (repeat (first | with_reducible exact X.refl _ | with_reducible assumption | with_reducible refine X.setCell ?_ (by first | (simp; done) | (simp; omega)) _ | with_reducible refine X.ext ?_ _ | with_reducible refine X.alloc ?_ _ | with_reducible refine X.drew ?_))) hx9)))
  clear t0 t1 t2 t3 t4 t5 u0 u1 u2 u3 u4 u5 hlF hlY hS8 hSf8 hXb hOb bF8 bY8 hx9
  have hX69 := hX67.trans (hX8.trans hX9)
  have hX49 := hX47.trans (hX8.trans hX9)
  have hX59 := hX58.trans hX9
  have hXW9 := (hXW7.trans hx7).trans (hX8.trans hX9)
  have hXw9 := hXw8.trans hX9
  have bX9 := (hB5.x (hx5.trans hp6)).x (hx6.trans hX69)
  obtain ⟨x0, x1, x2⟩ := keep3 bX9
  have hlX := bX9.lt
  go_wp2_with fail
  refine calls_name (fun W10 hW10 => ?_)
  have hp10 : X w9 W10 := by rw [hW10]; (repeat (first | with_reducible exact X.refl _ | with_reducible assumption | with_reducible refine X.setCell ?_ (by first | (simp; done) | (simp; omega)) _ | with_reducible refine X.ext ?_ _ | with_reducible refine X.alloc ?_ _ | with_reducible refine X.drew ?_))
  clear hW10 x0 x1 x2 hlX
  have y45 : w4.heap.size ≤ W5.heap.size := hp5.size
  have y55 : W5.heap.size ≤ w5.heap.size := hx5.size
  have y56 : w5.heap.size < W6.heap.size := hB6.lt
  have y66 : W6.heap.size ≤ w6.heap.size := hx6.size
  have g5W : g5 < W.heap.size := hR5.lt
  have fw := (hXw9.trans hp10).below
  have fW := (hXW9.trans hp10).below
  have dQ : DirsE w6 E6 w6.heap.size da6 (daD l kk dl f ticks).length dc6 (daD l kk dl f ticks) := hP6.e
  refine (markDisk_e l dl kk ra4 rd4 n n dn dn W.heap.size E4 w4.heap.size 1 W10 (hO4.fr ((hX49.trans hp10).fr _)) (hP4.fr ((hX49.trans hp10).fr _)) z1 z2 ((hX49.trans hp10).size) (by omega) (by omega) (by omega)).mono ?_
  rintro _ v1 ⟨rfl, _, _, hK1⟩
  have q0 : Below w.heap.size w v1 := hK1.below (by omega) fw
  have q4 : Below W.heap.size W v1 := hK1.below (by omega) fW
  have B0 := (hD2.x (hXW9.trans hp10)).keep hK1 (.inl (by omega))
  have BF := (hF2.x (hXW9.trans hp10)).keep hK1 (.inl (by omega))
  have BR := (hR5.x (hXW9.trans hp10)).keep hK1 (.inl (by omega))
  have BG := (hB7.x (hx7.trans ((hX8.trans hX9).trans hp10))).keep hK1 (.inr (by omega))
  have BY := ((hB6.x hx6).x (hX69.trans hp10)).keep hK1 (.inr (by omega))
  have oY := own_keep (own_fr hO5 ((hX59.trans hp10).fr _)) hK1 (by omega)
  have oG := (hO6.fr ((hX69.trans hp10).fr _)).fr (hK1.fr.mono (by omega))
  have dG := (dQ.fr ((hX69.trans hp10).fr _)).fr (hK1.fr.mono (by omega))
  clear fw fW hK1 hO4 hP4 hB5 hp5 hX46 hX46' hX49 hX47 hX67 hX69 hX59 hX58 hXw7 hXw8 hXw9 hXw6 hXw6' hXw5 hXW6 hXW7 hXW9 hx6 hx7 hX8 hX9 hp7 hp10 hB6 hB7 hA6 hQ6 hO6 hP6 dQ hx5 hp6 hx4
  obtain ⟨u0, u1, u2, u3, u4, u5⟩ := keep6 BY
  have hlY := BY.lt
  go_wp2_with fail
  refine (markFile_d f fa5 bn bn W5.heap.size (1 + wtF l + wtD dl) v1 _ oY (by omega) (by omega)).mono ?_
  rintro _ v2 ⟨rfl, hg2⟩
  have hK2 : Keep W5.heap.size w5.heap.size v1 v2 := keep_row hO5 hg2
  replace q0 := hK2.below (by omega) q0
  replace q4 := hK2.below (by omega) q4
  replace B0 := B0.keep hK2 (.inl (by omega))
  replace BF := BF.keep hK2 (.inl (by omega))
  replace BR := BR.keep hK2 (.inl (by omega))
  replace BG := BG.keep hK2 (.inr (by omega))
  replace oG := oG.fr (hK2.fr.mono (by omega))
  replace dG := dG.fr (hK2.fr.mono (by omega))
  clear u0 u1 u2 u3 u4 u5 hlY BY oY hg2 hK2 hO5
  obtain ⟨u0, u1, u2⟩ := keep3 BG
  obtain ⟨r0, r1, r2⟩ := keep3 BR
  have hlG := BG.lt
  have hlR := BR.lt
  go_wp2_with fail
  refine (eqDisk_c (daL l kk dl f ticks) a6 a5 _ _ c6 c5 (daK l kk dl f ticks) (daD l kk dl f ticks) da6 da5 _ _ dc6 dc5 0 0 v2 ((oG.o.at hda.1).less (Nat.zero_le _)) ((hA5.mono ((below_fr0 q4).mono (Nat.zero_le _))).less (Nat.zero_le _)) ((dG.o.at hda.2).less (Nat.zero_le _)) ((hP5.mono ((below_fr0 q4).mono (Nat.zero_le _))).less (Nat.zero_le _))).mono ?_
  rintro _ v3 ⟨rfl, hx3⟩
  clear u0 u1 u2 r0 r1 r2 hlG hlR
  replace q0 := below_x q0 hx3
  replace q4 := below_x q4 hx3
  replace B0 := B0.x hx3
  replace BF := BF.x hx3
  replace BR := BR.x hx3
  replace BG := BG.x hx3
  replace oG := oG.fr (hx3.fr _)
  replace dG := dG.fr (hx3.fr _)
  clear hx3
  obtain ⟨u0, u1, u2⟩ := keep3 BG
  have hlG := BG.lt
  go_wp2_with fail
  refine (markDisk_e (daL l kk dl f ticks) (daD l kk dl f ticks) (daK l kk dl f ticks) a6 da6 _ c6 _ dc6 W6.heap.size E6 w6.heap.size 1 v3 oG dG z3 z4 (by omega) (by omega) (by omega) (by omega)).mono ?_
  rintro _ v4 ⟨rfl, mG, nG, hK4⟩
  replace q0 := hK4.below (by omega) q0
  replace q4 := hK4.below (by omega) q4
  replace B0 := B0.keep hK4 (.inl (by omega))
  replace BF := BF.keep hK4 (.inl (by omega))
  replace BR := BR.keep hK4 (.inl (by omega))
  replace BG := BG.keep hK4 (.inr (Nat.le_refl _))
  clear u0 u1 u2 hlG oG dG hK4
  obtain ⟨u0, u1, u2⟩ := keep3 BG
  have hlG := BG.lt
  go_wp2_with fail
  refine (heldDisk_c (daL l kk dl f ticks) (daD l kk dl f ticks) (daK l kk dl f ticks) a6 da6 _ c6 _ dc6 W6.heap.size E6 1 v4 mG nG (by omega) (by omega) (by omega)).mono ?_
  rintro _ v5 ⟨rfl, hx5⟩
  replace q0 := below_x q0 hx5
  replace q4 := below_x q4 hx5
  replace B0 := B0.x hx5
  replace BF := BF.x hx5
  replace BR := BR.x hx5
  replace BG := BG.x hx5
  replace mG := mG.fr (hx5.fr _)
  replace nG := nG.fr (hx5.fr _)
  clear hx5 u0 u1 u2 hlG
  have hFy := hF.mono (below_fr0 q0)
  have hDy := hD.mono (below_fr0 q0)
  have hSy := hfS.mono (below_fr0 q0)
  have hGy := hG.belowW q0
  go_wp2
  refine wp_region_inv (fun L v W => X v5 W
      ∧ (L 5 = true → L 1 = true ∧ L 3 = true)
      ∧ (L 6 = true → L 5 = true)
      ∧ (L 7 = true → L 6 = true)
      ∧ (L 8 = true → L 6 = true)
      ∧ (L 10 = true → L 7 = true ∧ L 9 = true)
      ∧ (L 0 = true → v 0 = .agg #[.slice a n c, .int .i64 kk, .slice da dn dc])
      ∧ (L 1 = true → L 10 = false → ∃ ra rd, v 1 = .agg #[.slice ra n n, .int .i64 kk, .slice rd dn dn] ∧ FilesO W v5.heap.size ra n n l ∧ DirsO W v5.heap.size rd dn dn dl)
      ∧ (L 2 = true → v 2 = .agg #[.int .i64 (f).root, .string ⟨(f).pkg.toArray⟩, .string ⟨(f).name.toArray⟩, .bool (f).init, .int .i64 (f).stamp, .slice ba bn bc])
      ∧ (L 3 = true → L 10 = false → ∃ rb, v 3 = .agg #[.int .i64 (f).root, .string ⟨(f).pkg.toArray⟩, .string ⟨(f).name.toArray⟩, .bool (f).init, .int .i64 (f).stamp, .slice rb bn bn] ∧ W.ownsRow v5.heap.size 148 5 (.slice rb bn bn) bn (f.body.flatMap scells))
      ∧ (L 4 = true → v 4 = .int .i64 ticks)
      ∧ (L 5 = true → L 10 = false → ∃ a5 c5 da5 dc5 E5, v 5 = .tuple #[.agg #[.slice a5 (daL l kk dl f ticks).length c5, .int .i64 (daK l kk dl f ticks), .slice da5 (daD l kk dl f ticks).length dc5], .bool (daB l kk dl f ticks)] ∧ (L 6 = true → v 6 = .tuple #[.agg #[.slice a5 (daL l kk dl f ticks).length c5, .int .i64 (daK l kk dl f ticks), .slice da5 (daD l kk dl f ticks).length dc5], .bool (daB l kk dl f ticks)]) ∧ (L 7 = true → v 7 = .agg #[.slice a5 (daL l kk dl f ticks).length c5, .int .i64 (daK l kk dl f ticks), .slice da5 (daD l kk dl f ticks).length dc5]) ∧ v5.heap.size ≤ E5 ∧ E5 ≤ W.heap.size ∧ FilesE W v5.heap.size E5 a5 (daL l kk dl f ticks).length c5 (daL l kk dl f ticks) ∧ DirsO W E5 da5 (daD l kk dl f ticks).length dc5 (daD l kk dl f ticks))
      ∧ (L 9 = true → ∃ g, v 9 = .pointer (some ⟨g, 0, none⟩) ∧ v5.heap.size ≤ g ∧ (L 10 = false → W.heap[g]? = some (.cells #[.slice none 0 0, .int .i64 0, .slice none 0 0] 38 (0, 0))))
      ∧ (L 6 = true → ∃ x, v 6 = .tuple #[x, .bool (daB l kk dl f ticks)])
      ∧ (L 8 = true → v 8 = .bool (daB l kk dl f ticks))
      ∧ (L 11 = true → v 11 = .bool (daB l kk dl f ticks))
      ∧ (L 10 = true → ∃ g a5 c5 da5 dc5 E5, v 9 = .pointer (some ⟨g, 0, none⟩) ∧ v5.heap.size ≤ g ∧ W.heap[g]? = some (.cells #[.slice a5 (daL l kk dl f ticks).length c5, .int .i64 (daK l kk dl f ticks), .slice da5 (daD l kk dl f ticks).length dc5] 38 (0, 0)) ∧ v5.heap.size ≤ E5 ∧ E5 ≤ W.heap.size ∧ FilesE W v5.heap.size E5 a5 (daL l kk dl f ticks).length c5 (daL l kk dl f ticks) ∧ DirsO W E5 da5 (daD l kk dl f ticks).length dc5 (daD l kk dl f ticks))) (by kernel_rfl) (by kernel_rfl) ?_ ?_ (l := [(99, 0), (100, 1), (101, 2), (102, 3), (103, 4), (104, 5), (98, 6), (105, 7), (106, 8), (17, 9), (18, 11)]) (by kernel_rfl) (n := 12) rfl ?_
  · intro v
    exact ⟨(X.refl _).drew, fun h => Bool.noConfusion h, fun h => Bool.noConfusion h, fun h => Bool.noConfusion h, fun h => Bool.noConfusion h, fun h => Bool.noConfusion h, fun h => Bool.noConfusion h, fun h => Bool.noConfusion h, fun h => Bool.noConfusion h, fun h => Bool.noConfusion h, fun h => Bool.noConfusion h, fun h => Bool.noConfusion h, fun h => Bool.noConfusion h, fun h => Bool.noConfusion h, fun h => Bool.noConfusion h, fun h => Bool.noConfusion h, fun h => Bool.noConfusion h⟩
  · intro i hi
    have hi' : i = 0 ∨ i = 1 ∨ i = 2 ∨ i = 3 ∨ i = 4 ∨ i = 5 ∨ i = 6 ∨ i = 7 ∨ i = 8 ∨ i = 9 ∨ i = 10 ∨ i = 11 := by
      have : i < 12 := hi
      omega
    clear hi
    rcases hi' with rfl | rfl | rfl | rfl | rfl | rfl | rfl | rfl | rfl | rfl | rfl | rfl
    all_goals
      intro o ho L v aa W hI hS hL hA K hK
      cases (show some _ = some o from ho)
      obtain ⟨xx, d5, d6, d7, d8, d10, v0, v1, v2, v3, v4, r5, v9, w6, v8, v11, fin⟩ := hI
    · have a0 := hS.old 3 (by kernel_rfl) rfl
      obtain ⟨⟨d0, d1, d2⟩, t0, t1, t2, t3, t4, t5⟩ := keep9 (B0.x xx) (BF.x xx)
      have lD := Nat.lt_of_lt_of_le B0.lt xx.size
      have lF := Nat.lt_of_lt_of_le BF.lt xx.size
      clear hS ho hA
      go_simp
      exact hK _ W ⟨xx, d5, d6, d7, d8, d10, fun _ => rfl, v1, v2, v3, v4, r5, v9, w6, v8, v11, fin⟩
    · have l0 : L 0 = true := hA ⟨0, .data⟩ (by simp) rfl
      have a0 := hS.get 0 99 rfl l0 (v0 l0)
      have n10 : L 10 = false := by rcases h : L 10 with _ | _; (· rfl); (· have := (d5 (d6 (d7 (d10 h).1))).1; simp [hL] at this)
      clear hS ho hA
      go_simp
      refine (toDisk_c l a n c kk dl da dn dc 0 W (hFy.mono (xx.fr _)) (hDy.mono (xx.fr _))).mono ?_
      rintro _ w' ⟨ra, rd, rfl, hO, hP, hx⟩
      exact hK _ w' ⟨xx.trans hx, fun h => ⟨rfl, (d5 h).2⟩, d6, d7, d8, d10, v0, fun _ _ => ⟨ra, rd, rfl, hO.less xx.size, hP.less xx.size⟩, v2, fun h n => let ⟨rb, e, k1⟩ := v3 h n; ⟨rb, e, own_fr k1 (hx.fr _)⟩, v4, fun h n => let ⟨a5, c5, da5, dc5, E5, e, e6, e7, k1, k2, k3, k4⟩ := r5 h n; ⟨a5, c5, da5, dc5, E5, e, e6, e7, k1, Nat.le_trans k2 (hx).size, k3.fr ((hx).fr _), k4.fr ((hx).fr _)⟩, fun h => let ⟨g, e, hg, hb⟩ := v9 h; ⟨g, e, hg, fun h => at_x2' (hb h) hx⟩, w6, v8, v11, fun h => Bool.noConfusion (n10.symm.trans h)⟩
    · have a0 := hS.old 4 (by kernel_rfl) rfl
      obtain ⟨⟨d0, d1, d2⟩, t0, t1, t2, t3, t4, t5⟩ := keep9 (B0.x xx) (BF.x xx)
      have lD := Nat.lt_of_lt_of_le B0.lt xx.size
      have lF := Nat.lt_of_lt_of_le BF.lt xx.size
      clear hS ho hA
      go_simp
      exact hK _ W ⟨xx, d5, d6, d7, d8, d10, v0, v1, fun _ => rfl, v3, v4, r5, v9, w6, v8, v11, fin⟩
    · have l2 : L 2 = true := hA ⟨2, .data⟩ (by simp) rfl
      have a2 := hS.get 2 101 rfl l2 (v2 l2)
      have n10 : L 10 = false := by rcases h : L 10 with _ | _; (· rfl); (· have := (d5 (d6 (d7 (d10 h).1))).2; simp [hL] at this)
      clear hS ho hA
      go_simp
      refine (toFile_c f ba bn bc 0 W (hSy.mono (xx.fr _))).mono ?_
      rintro _ w' ⟨rb, rfl, hO, hx⟩
      exact hK _ w' ⟨xx.trans hx, fun h => ⟨(d5 h).1, rfl⟩, d6, d7, d8, d10, v0, fun h n => let ⟨ra, rd, e, k1, k2⟩ := v1 h n; ⟨ra, rd, e, k1.fr (hx.fr _), k2.fr (hx.fr _)⟩, v2, fun _ _ => ⟨rb, rfl, own_less hO xx.size⟩, v4, fun h n => let ⟨a5, c5, da5, dc5, E5, e, e6, e7, k1, k2, k3, k4⟩ := r5 h n; ⟨a5, c5, da5, dc5, E5, e, e6, e7, k1, Nat.le_trans k2 (hx).size, k3.fr ((hx).fr _), k4.fr ((hx).fr _)⟩, fun h => let ⟨g, e, hg, hb⟩ := v9 h; ⟨g, e, hg, fun h => at_x2' (hb h) hx⟩, w6, v8, v11, fun h => Bool.noConfusion (n10.symm.trans h)⟩
    · have a0 := hS.old 2 (by kernel_rfl) rfl
      clear hS ho hA
      go_simp
      exact hK _ W ⟨xx, d5, d6, d7, d8, d10, v0, v1, v2, v3, fun _ => rfl, r5, v9, w6, v8, v11, fin⟩
    · have l1 : L 1 = true := hA ⟨1, .data⟩ (by simp) rfl
      have l3 : L 3 = true := hA ⟨3, .data⟩ (by simp) rfl
      have l4 : L 4 = true := hA ⟨4, .data⟩ (by simp) rfl
      have n10 : L 10 = false := by rcases h : L 10 with _ | _; (· rfl); (· have := d6 (d7 (d10 h).1); simp [hL] at this)
      obtain ⟨ra, rd, e1, hO1, hP1⟩ := v1 l1 n10
      obtain ⟨rb, e3, hO3⟩ := v3 l3 n10
      have a1 := hS.get 1 100 rfl l1 e1
      have a3 := hS.get 3 102 rfl l3 e3
      have a4 := hS.get 4 103 rfl l4 (v4 l4)
      clear hS ho hA
      go_simp
      refine (DiskAdd_i l ra n n kk dl rd dn dn 0 f rb bn bn 0 ticks W ((hO1.at okL).less (Nat.zero_le _)) ((hP1.at okD).less (Nat.zero_le _)) (by omega) hf ⟨Hbl.out, hbn, hfS.2.2.1, (Sl.of_own hO3).less (Nat.zero_le _)⟩ (Nat.le_refl _) (Nat.le_refl _) (hGy.mono xx)).mono ?_
      rintro _ w' ⟨v', rfl, ⟨a5, c5, da5, dc5, E5, rfl, k1, k2, k3, k4⟩, hx⟩
      exact hK _ w' ⟨xx.trans hx, fun _ => ⟨l1, l3⟩, fun _ => rfl, d7, d8, d10, v0, fun h n => let ⟨ra, rd, e, k1, k2⟩ := v1 h n; ⟨ra, rd, e, k1.fr (hx.fr _), k2.fr (hx.fr _)⟩, v2, fun h n => let ⟨rb, e, k1⟩ := v3 h n; ⟨rb, e, own_fr k1 (hx.fr _)⟩, v4, fun _ _ => ⟨a5, c5, da5, dc5, E5, rfl, fun h => Bool.noConfusion (hL.symm.trans (d6 h)), fun h => Bool.noConfusion (hL.symm.trans (d6 (d7 h))), Nat.le_trans xx.size k1, k2, k3.lessB xx.size, k4⟩, fun h => let ⟨g, e, hg, hb⟩ := v9 h; ⟨g, e, hg, fun h => at_x2' (hb h) hx⟩, w6, v8, v11, fun h => Bool.noConfusion (n10.symm.trans h)⟩
    · have l5 : L 5 = true := hA ⟨5, .data⟩ (by simp) rfl
      have n10 : L 10 = false := by rcases h : L 10 with _ | _; (· rfl); (· have := d7 (d10 h).1; simp [hL] at this)
      obtain ⟨a5, c5, da5, dc5, E5, e5, e6, e7, k1, k2, k3, k4⟩ := r5 l5 n10
      have b5 := hS.get 5 104 rfl l5 e5
      clear hS ho hA
      go_simp
      exact hK _ W ⟨xx, d5, fun _ => l5, fun _ => rfl, fun _ => rfl, d10, v0, v1, v2, v3, v4, fun _ _ => ⟨a5, c5, da5, dc5, E5, e5, fun _ => rfl, e7, k1, k2, k3, k4⟩, v9, fun _ => ⟨_, rfl⟩, v8, v11, fin⟩
    · have l6 : L 6 = true := hA ⟨6, .data⟩ (by simp) rfl
      have l5 := d6 l6
      have n10 : L 10 = false := by rcases h : L 10 with _ | _; (· rfl); (· have := (d10 h).1; simp [hL] at this)
      obtain ⟨a5, c5, da5, dc5, E5, e5, e6, e7, k1, k2, k3, k4⟩ := r5 l5 n10
      have a6 := hS.get 6 98 rfl l6 (e6 l6)
      clear hS ho hA
      go_simp
      exact hK _ W ⟨xx, d5, d6, fun _ => l6, d8, fun h => ⟨rfl, (d10 h).2⟩, v0, v1, v2, v3, v4, fun _ _ => ⟨a5, c5, da5, dc5, E5, e5, e6, fun _ => rfl, k1, k2, k3, k4⟩, v9, w6, v8, v11, fin⟩
    · have l6 : L 6 = true := hA ⟨6, .data⟩ (by simp) rfl
      obtain ⟨x6, e6⟩ := w6 l6
      have a6 := hS.get 6 98 rfl l6 e6
      clear hS ho hA
      go_simp
      exact hK _ W ⟨xx, d5, d6, d7, fun _ => l6, d10, v0, v1, v2, v3, v4, r5, v9, w6, fun _ => rfl, v11, fin⟩
    · have n10 : L 10 = false := by rcases h : L 10 with _ | _; (· rfl); (· have := (d10 h).2; simp [hL] at this)
      clear hS ho hA
      go_simp
      exact hK _ _ ⟨xx.alloc _, d5, d6, d7, d8, fun h => ⟨(d10 h).1, rfl⟩, v0, fun h n => let ⟨ra, rd, e, k1, k2⟩ := v1 h n; ⟨ra, rd, e, k1.fr (((X.refl W).alloc _).fr _), k2.fr (((X.refl W).alloc _).fr _)⟩, v2, fun h n => let ⟨rb, e, k1⟩ := v3 h n; ⟨rb, e, own_fr k1 (((X.refl W).alloc _).fr _)⟩, v4, fun h n => let ⟨a5, c5, da5, dc5, E5, e, e6, e7, k1, k2, k3, k4⟩ := r5 h n; ⟨a5, c5, da5, dc5, E5, e, e6, e7, k1, Nat.le_trans k2 (((X.refl W).alloc _)).size, k3.fr ((((X.refl W).alloc _)).fr _), k4.fr ((((X.refl W).alloc _)).fr _)⟩, fun _ => ⟨_, rfl, xx.size, fun _ => heap_alloc_new _ _⟩, w6, v8, v11, fun h => Bool.noConfusion (n10.symm.trans h)⟩
    · have l9 : L 9 = true := hA ⟨9, .data⟩ (by simp) rfl
      have l7 : L 7 = true := hA ⟨7, .data⟩ (by simp) rfl
      have l5 := d6 (d7 l7)
      have n10 := hL
      obtain ⟨a5, c5, da5, dc5, E5, e5, e6, e7, k1, k2, k3, k4⟩ := r5 l5 n10
      obtain ⟨g, e9, hg, hb0⟩ := v9 l9
      have hb := hb0 hL
      have a7 := hS.get 7 105 rfl l7 (e7 l7)
      have a9 := hS.get 9 17 rfl l9 e9
      obtain ⟨lb, cb, fb0⟩ := Bx.out ⟨_, hb⟩
      have f0 := fb0 0
      have f1 := fb0 1
      have f2 := fb0 2
      have c0 := cb 0
      have c1 := cb 1
      have c2 := cb 2
      clear fb0 cb
      clear hS ho hA
      go_simp
      exact hK undef _ ⟨x_set3 xx hg _ _ _, d5, d6, d7, d8, fun _ => ⟨l7, l9⟩, v0, fun _ h => Bool.noConfusion h, v2, fun _ h => Bool.noConfusion h, v4, fun _ h => Bool.noConfusion h, fun _ => ⟨g, e9, hg, fun h => Bool.noConfusion h⟩, w6, v8, v11, fun _ => ⟨g, a5, c5, da5, dc5, E5, e9, hg, heap_set3 hb _ _ _, k1, Nat.le_trans k2 (by simp [World.setCell]), ((k3.far hb (by decide) (by decide) _ _).far (heap_set1 hb) (by decide) (by decide) _ _).far (heap_set2 hb) (by decide) (by decide) _ _, ((k4.far hb (by decide) (by decide) _ _).far (heap_set1 hb) (by decide) (by decide) _ _).far (heap_set2 hb) (by decide) (by decide) _ _⟩⟩
    · have l8 : L 8 = true := hA ⟨8, .data⟩ (by simp) rfl
      have a8 := hS.get 8 106 rfl l8 (v8 l8)
      clear hS ho hA
      go_simp
      exact hK _ W ⟨xx, d5, d6, d7, d8, d10, v0, v1, v2, v3, v4, r5, v9, w6, v8, fun _ => rfl, fin⟩
  intro v W9 hI
  obtain ⟨xx, d5, d6, d7, d8, d10, v0, v1, v2, v3, v4, r5, v9, w6, v8, v11, fin⟩ := hI
  obtain ⟨g9, a9, c9, da9, dc9, E9, e9, hg9, hb9, y1, y2, y3, y4⟩ := fin rfl
  have e11 := v11 rfl
  clear fin v0 v1 v2 v3 v4 r5 v9 w6 v8 v11 d5 d6 d7 d8 d10
  simp only [putL, List.foldl, List.setIfInBounds_toArray, List.set_cons_zero, List.set_cons_succ, e9, e11]
  clear e9 e11
  clear hFy hDy hSy hGy
  replace q0 := below_x q0 xx
  replace q4 := below_x q4 xx
  replace BR := BR.x xx
  replace BG := BG.x xx
  replace mG := mG.fr (xx.fr _)
  replace nG := nG.fr (xx.fr _)
  have BH : Bx W9 g9 #[.slice a9 (daL l kk dl f ticks).length c9, .int .i64 (daK l kk dl f ticks), .slice da9 (daD l kk dl f ticks).length dc9] := ⟨_, hb9⟩
  obtain ⟨u0, u1, u2⟩ := keep3 BH
  obtain ⟨r0, r1, r2⟩ := keep3 BR
  have hlG := BH.lt
  have hlR := BR.lt
  clear BH hb9
  go_wp2_with fail
  refine (eqDisk_c (daL l kk dl f ticks) a9 a5 _ _ c9 c5 (daK l kk dl f ticks) (daD l kk dl f ticks) da9 da5 _ _ dc9 dc5 0 0 W9 ((y3.o.at hda.1).less (Nat.zero_le _)) ((hA5.mono ((below_fr0 q4).mono (Nat.zero_le _))).less (Nat.zero_le _)) ((y4.at hda.2).less (Nat.zero_le _)) ((hP5.mono ((below_fr0 q4).mono (Nat.zero_le _))).less (Nat.zero_le _))).mono ?_
  rintro _ v7 ⟨rfl, hx7⟩
  clear u0 u1 u2 r0 r1 r2 hlG hlR y3 y4
  replace q0 := below_x q0 hx7
  replace BG := BG.x hx7
  replace mG := mG.fr (hx7.fr _)
  replace nG := nG.fr (hx7.fr _)
  obtain ⟨u0, u1, u2⟩ := keep3 BG
  have hlG := BG.lt
  go_wp2_with fail
  refine (heldDisk_c (daL l kk dl f ticks) (daD l kk dl f ticks) (daK l kk dl f ticks) a6 da6 _ c6 _ dc6 W6.heap.size E6 1 v7 mG nG (by omega) (by omega) (by omega)).mono ?_
  rintro _ v8 ⟨rfl, hx8⟩
  go_wp2
  go_ret
  exact ⟨rfl, below_x q0 hx8⟩

end Go.Proofs.YtgjfjjhmgbemcaaGreatDoor
