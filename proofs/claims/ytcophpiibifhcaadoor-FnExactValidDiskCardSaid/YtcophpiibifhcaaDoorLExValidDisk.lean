/- The exact law of ValidDisk: the walk. No condition but what a reading of the argument says. -/
import Derived.Test.YtcophpiibifhcaaDoorDiskS
import Derived.Test.YtcophpiibifhcaaDoorDirT
import Derived.Test.YtcophpiibifhcaaDoorOpx
import Derived.Deep.RegionHeld3
namespace Go.Proofs.YtcophpiibifhcaaDoor
open Go.RowKit

set_option maxRecDepth 100000 in
theorem ssTy : SsTy Tryd.prog 96 := ⟨_, Tryd.underlying96, by kernel_rfl, Tryd.underlying9⟩
set_option maxRecDepth 100000 in
theorem diTy : DiTy Tryd.prog 112 := ⟨by kernel_rfl, _, _, _, _, _, Tryd.underlying112, ⟨rfl, Tryd.underlying3, by kernel_rfl⟩, ⟨rfl, Tryd.underlying9, by kernel_rfl⟩, ⟨rfl, Tryd.underlying3, by kernel_rfl⟩, ⟨rfl, Tryd.underlying96, by kernel_rfl⟩, ssTy⟩
theorem disTy : DisTy Tryd.prog 53 := ⟨_, Tryd.underlying53, diTy⟩
set_option maxRecDepth 100000 in
theorem dkTy : DkTy Tryd.prog 55 := ⟨by kernel_rfl, _, _, _, Tryd.underlying55, rfl, by kernel_rfl, trTy, ⟨rfl, Tryd.underlying3, by kernel_rfl⟩, rfl, by kernel_rfl, disTy⟩

set_option maxRecDepth 100000 in
set_option maxHeartbeats 2000000 in
theorem FnExactValidDisk_c (l : List Fi) (a : Option Addr) (n c : Nat) (kk : Int) (dl : List Di) (da : Option Addr) (dn dc : Nat) (w : World) (hR : FilesR w a n l) (hQ : DirsR w da dn dl) (hG : Gm w) :
    Calls Tryd.prog 10 #[.agg #[.slice a n c, .int .i64 kk, .slice da dn dc]] w fun e w' => e = .returned (.bool true) ∧ X w w' := by
  by_cases h3 : szDk l dl 1048576 < 0
  · go_enter Tryd.func10, Tryd.ntmps10
    go_wp2_with (go_at_call 38; refine (szDisk_c l a n c kk dl da dn dc _ _ (hR.mono (by (repeat (first | with_reducible exact X.refl _ | with_reducible assumption | with_reducible refine X.setCell ?_ (by first | (simp; done) | (simp; omega)) _ | with_reducible refine X.ext ?_ _ | with_reducible refine X.alloc ?_ _ | with_reducible refine X.drew ?_)))) (hQ.mono (by (repeat (first | with_reducible exact X.refl _ | with_reducible assumption | with_reducible refine X.setCell ?_ (by first | (simp; done) | (simp; omega)) _ | with_reducible refine X.ext ?_ _ | with_reducible refine X.alloc ?_ _ | with_reducible refine X.drew ?_)))) (by omega) (by omega)).mono ?_; rintro _ w1 ⟨rfl, hx1⟩)
    go_ret
    exact ⟨rfl, X.trans (by (repeat (first | with_reducible exact X.refl _ | with_reducible assumption | with_reducible refine X.setCell ?_ (by first | (simp; done) | (simp; omega)) _ | with_reducible refine X.ext ?_ _ | with_reducible refine X.alloc ?_ _ | with_reducible refine X.drew ?_))) hx1⟩
  have hz1 : 0 ≤ szFis l 1048576 := by
    unfold szDk at h3
    split at h3 <;> omega
  have hz2 : 0 ≤ szDis dl (szFis l 1048576) := by
    unfold szDk at h3
    rw [if_neg (by omega)] at h3
    split at h3 <;> omega
  have hF := hR.at hz1
  have hD := hQ.at (szFis_le l 1048576 hz1) hz2
  have hH3 := Lib.hid h3
  clear hz1 hz2
  go_enter Tryd.func10, Tryd.ntmps10
  go_wp2_with fail
  refine calls_name (fun W0 hW0 => ?_)
  have hB0 : Bx W0 w.heap.size #[.slice a n c, .int .i64 kk, .slice da dn dc] := by rw [hW0]; exact Bx.new _ _ _
  have hX0 : X w W0 := by rw [hW0]; (repeat (first | with_reducible exact X.refl _ | with_reducible assumption | with_reducible refine X.setCell ?_ (by first | (simp; done) | (simp; omega)) _ | with_reducible refine X.ext ?_ _ | with_reducible refine X.alloc ?_ _ | with_reducible refine X.drew ?_))
  clear hW0
  refine (szDisk_c l a n c kk dl da dn dc _ W0 (hR.mono hX0) (hQ.mono hX0) (by omega) (by omega)).mono ?_
  rintro _ w1 ⟨rfl, hx1⟩
  clear hR hQ
  have okL := hF.okL
  have okD := hD.okD
  have hx_d1 : X W0 w1 := by (repeat (first | with_reducible exact X.refl _ | with_reducible assumption | (refine X.trans ?_ (by with_reducible assumption))))
  have l01 : w.heap.size < w1.heap.size := Nat.lt_of_lt_of_le hB0.lt hx_d1.size
  have b01_0 := (hx_d1.cell (p := ⟨w.heap.size, 0, none⟩) hB0.lt).trans (hB0.out.2.1 0)
  have b01_1 := (hx_d1.cell (p := ⟨w.heap.size, 1, none⟩) hB0.lt).trans (hB0.out.2.1 1)
  have b01_2 := (hx_d1.cell (p := ⟨w.heap.size, 2, none⟩) hB0.lt).trans (hB0.out.2.1 2)
  clear hx_d1
  go_wp2_with fail
  refine calls_name (fun W2 hW2 => ?_)
  have hp2 : X w1 W2 := by rw [hW2]; (repeat (first | with_reducible exact X.refl _ | with_reducible assumption | with_reducible refine X.setCell ?_ (by first | (simp; done) | (simp; omega)) _ | with_reducible refine X.ext ?_ _ | with_reducible refine X.alloc ?_ _ | with_reducible refine X.drew ?_))
  clear hW2
  refine (toDisk_c l a n c kk dl da dn dc 0 W2 (hF.mono (X.fr (by (repeat (first | with_reducible exact X.refl _ | with_reducible assumption | (refine X.trans ?_ (by with_reducible assumption))))) _)) (hD.mono (X.fr (by (repeat (first | with_reducible exact X.refl _ | with_reducible assumption | (refine X.trans ?_ (by with_reducible assumption))))) _))).mono ?_
  rintro _ w2 ⟨ra2, rd2, rfl, hO2, hP2, hx2⟩
  have hA2 := hO2.at okL
  have hC2 := hP2.at okD
  have hx_d2 : X W0 w2 := by (repeat (first | with_reducible exact X.refl _ | with_reducible assumption | (refine X.trans ?_ (by with_reducible assumption))))
  have l02 : w.heap.size < w2.heap.size := Nat.lt_of_lt_of_le hB0.lt hx_d2.size
  have b02_0 := (hx_d2.cell (p := ⟨w.heap.size, 0, none⟩) hB0.lt).trans (hB0.out.2.1 0)
  have b02_1 := (hx_d2.cell (p := ⟨w.heap.size, 1, none⟩) hB0.lt).trans (hB0.out.2.1 1)
  have b02_2 := (hx_d2.cell (p := ⟨w.heap.size, 2, none⟩) hB0.lt).trans (hB0.out.2.1 2)
  clear hx_d2
  go_wp2_with fail
  refine calls_name (fun W3 hW3 => ?_)
  have hp3 : X w2 W3 := by rw [hW3]; (repeat (first | with_reducible exact X.refl _ | with_reducible assumption | with_reducible refine X.setCell ?_ (by first | (simp; done) | (simp; omega)) _ | with_reducible refine X.ext ?_ _ | with_reducible refine X.alloc ?_ _ | with_reducible refine X.drew ?_))
  clear hW3
  refine (ValidDisk_s l ra2 n n kk dl rd2 dn dn _ W3 ((hA2.less (Nat.zero_le _)).mono (X.fr (by (repeat (first | with_reducible exact X.refl _ | with_reducible assumption | (refine X.trans ?_ (by with_reducible assumption))))) _)) ((hC2.less (Nat.zero_le _)).mono (X.fr (by (repeat (first | with_reducible exact X.refl _ | with_reducible assumption | (refine X.trans ?_ (by with_reducible assumption))))) _))).mono ?_
  rintro _ w3 ⟨rfl, hx3⟩
  have hx_d3 : X W0 w3 := by (repeat (first | with_reducible exact X.refl _ | with_reducible assumption | (refine X.trans ?_ (by with_reducible assumption))))
  have l03 : w.heap.size < w3.heap.size := Nat.lt_of_lt_of_le hB0.lt hx_d3.size
  have b03_0 := (hx_d3.cell (p := ⟨w.heap.size, 0, none⟩) hB0.lt).trans (hB0.out.2.1 0)
  have b03_1 := (hx_d3.cell (p := ⟨w.heap.size, 1, none⟩) hB0.lt).trans (hB0.out.2.1 1)
  have b03_2 := (hx_d3.cell (p := ⟨w.heap.size, 2, none⟩) hB0.lt).trans (hB0.out.2.1 2)
  clear hx_d3
  go_wp2_with fail
  refine calls_name (fun W4 hW4 => ?_)
  have hp4 : X w3 W4 := by rw [hW4]; (repeat (first | with_reducible exact X.refl _ | with_reducible assumption | with_reducible refine X.setCell ?_ (by first | (simp; done) | (simp; omega)) _ | with_reducible refine X.ext ?_ _ | with_reducible refine X.alloc ?_ _ | with_reducible refine X.drew ?_))
  clear hW4
  refine (toDisk_c l a n c kk dl da dn dc 0 W4 (hF.mono (X.fr (by (repeat (first | with_reducible exact X.refl _ | with_reducible assumption | (refine X.trans ?_ (by with_reducible assumption))))) _)) (hD.mono (X.fr (by (repeat (first | with_reducible exact X.refl _ | with_reducible assumption | (refine X.trans ?_ (by with_reducible assumption))))) _))).mono ?_
  rintro _ w4 ⟨ra4, rd4, rfl, hO4, hP4, hx4⟩
  have hA4 := hO4.at okL
  have hC4 := hP4.at okD
  have hx_d4 : X W0 w4 := by (repeat (first | with_reducible exact X.refl _ | with_reducible assumption | (refine X.trans ?_ (by with_reducible assumption))))
  have l04 : w.heap.size < w4.heap.size := Nat.lt_of_lt_of_le hB0.lt hx_d4.size
  have b04_0 := (hx_d4.cell (p := ⟨w.heap.size, 0, none⟩) hB0.lt).trans (hB0.out.2.1 0)
  have b04_1 := (hx_d4.cell (p := ⟨w.heap.size, 1, none⟩) hB0.lt).trans (hB0.out.2.1 1)
  have b04_2 := (hx_d4.cell (p := ⟨w.heap.size, 2, none⟩) hB0.lt).trans (hB0.out.2.1 2)
  clear hx_d4
  go_wp2_with fail
  refine calls_name (fun W5 hW5 => ?_)
  have hB5 : Bx W5 w4.heap.size #[.slice ra4 n n, .int .i64 kk, .slice rd4 dn dn] := by rw [hW5]; first | exact Bx.new _ _ _ | exact Bx.set (Bx.set (Bx.set (Bx.new _ _ _) 0 _) 1 _) 2 _
  have hp5 : X w4 W5 := by rw [hW5]; (repeat (first | with_reducible exact X.refl _ | with_reducible assumption | with_reducible refine X.setCell ?_ (by first | (simp; done) | (simp; omega)) _ | with_reducible refine X.ext ?_ _ | with_reducible refine X.alloc ?_ _ | with_reducible refine X.drew ?_))
  clear hW5
  refine (ValidDisk_i l ra4 n n kk dl rd4 dn dn _ W5 ((hA4.less (Nat.zero_le _)).mono (X.fr (by (repeat (first | with_reducible exact X.refl _ | with_reducible assumption | (refine X.trans ?_ (by with_reducible assumption))))) _)) (Nat.le_refl _) ((hC4.less (Nat.zero_le _)).mono (X.fr (by (repeat (first | with_reducible exact X.refl _ | with_reducible assumption | (refine X.trans ?_ (by with_reducible assumption))))) _)) (Nat.le_refl _) (hG.mono (by (repeat (first | with_reducible exact X.refl _ | with_reducible assumption | (refine X.trans ?_ (by with_reducible assumption))))))).mono ?_
  rintro _ w5 ⟨rfl, hx5⟩
  have hx_d5 : X W0 w5 := by (repeat (first | with_reducible exact X.refl _ | with_reducible assumption | (refine X.trans ?_ (by with_reducible assumption))))
  have l05 : w.heap.size < w5.heap.size := Nat.lt_of_lt_of_le hB0.lt hx_d5.size
  have b05_0 := (hx_d5.cell (p := ⟨w.heap.size, 0, none⟩) hB0.lt).trans (hB0.out.2.1 0)
  have b05_1 := (hx_d5.cell (p := ⟨w.heap.size, 1, none⟩) hB0.lt).trans (hB0.out.2.1 1)
  have b05_2 := (hx_d5.cell (p := ⟨w.heap.size, 2, none⟩) hB0.lt).trans (hB0.out.2.1 2)
  clear hx_d5
  have hx_5_5 : X W5 w5 := by (repeat (first | with_reducible exact X.refl _ | with_reducible assumption | (refine X.trans ?_ (by with_reducible assumption))))
  have b5_5_0 := (hx_5_5.cell (p := ⟨w4.heap.size, 0, none⟩) hB5.lt).trans (hB5.out.2.1 0)
  have b5_5_1 := (hx_5_5.cell (p := ⟨w4.heap.size, 1, none⟩) hB5.lt).trans (hB5.out.2.1 1)
  have b5_5_2 := (hx_5_5.cell (p := ⟨w4.heap.size, 2, none⟩) hB5.lt).trans (hB5.out.2.1 2)
  have l5_5 : w4.heap.size < w5.heap.size := Nat.lt_of_lt_of_le hB5.lt hx_5_5.size
  clear hx_5_5
  skip
  go_wp2_with fail
  have hAe := hA4.mono (X.fr (by (repeat (first | with_reducible exact X.refl _ | with_reducible assumption | (refine X.trans ?_ (by with_reducible assumption)))) : X w4 w5) _)
  have hCe := hC4.mono (X.fr (by (repeat (first | with_reducible exact X.refl _ | with_reducible assumption | (refine X.trans ?_ (by with_reducible assumption)))) : X w4 w5) _)
  have hXe : X w w5 := by (repeat (first | with_reducible exact X.refl _ | with_reducible assumption | (refine X.trans ?_ (by with_reducible assumption))))
  go_region_held3 (fun w' => (w'.cell? ⟨w.heap.size, 0, none⟩ = some (.slice a n c) ∧ w'.cell? ⟨w.heap.size, 1, none⟩ = some (.int .i64 kk) ∧ w'.cell? ⟨w.heap.size, 2, none⟩ = some (.slice da dn dc)) ∧ w'.cell? ⟨w4.heap.size, 0, none⟩ = some (.slice ra4 n n) ∧ w'.cell? ⟨w4.heap.size, 1, none⟩ = some (.int .i64 kk) ∧ w'.cell? ⟨w4.heap.size, 2, none⟩ = some (.slice rd4 dn dn))
    (first | exact ⟨⟨(World.cell?_ext _ _ _ _ l05).trans b05_0, (World.cell?_ext _ _ _ _ l05).trans b05_1, (World.cell?_ext _ _ _ _ l05).trans b05_2⟩, (World.cell?_ext _ _ _ _ l5_5).trans b5_5_0, (World.cell?_ext _ _ _ _ l5_5).trans b5_5_1, (World.cell?_ext _ _ _ _ l5_5).trans b5_5_2⟩ | exact ⟨⟨b05_0, b05_1, b05_2⟩, b5_5_0, b5_5_1, b5_5_2⟩ | go_keep)
    ((first
      | (go_at_call 40; refine (toDisk_c l a n c kk dl da dn dc 0 _ (hF.mono (X.fr (hXe.trans (by (repeat (first | exact X.refl _ | assumption | refine X.ext ?_ _ | refine X.alloc ?_ _ | refine X.drew ?_)))) _)) (hD.mono (X.fr (hXe.trans (by (repeat (first | exact X.refl _ | assumption | refine X.ext ?_ _ | refine X.alloc ?_ _ | refine X.drew ?_)))) _))).mono ?_; rintro _ wt ⟨rat, rdt, rfl, hOt, hPt, hxt⟩; have hAt := hOt.at okL; have hCt := hPt.at okD; replace hxt := X.trans (a := w5) (by (repeat (first | exact X.refl _ | assumption | refine X.ext ?_ _ | refine X.alloc ?_ _ | refine X.drew ?_))) hxt; obtain ⟨zt, rfl⟩ := hxt)
      | (go_at_call 42; refine (eqDisk_c l ra4 rat n n n n kk dl rd4 rdt dn dn dn dn _ _ _ (hAe.mono (X.fr (by (repeat (first | exact X.refl _ | assumption | refine X.ext ?_ _ | refine X.alloc ?_ _ | refine X.drew ?_))) _)) (hAt.mono (X.fr (by (repeat (first | exact X.refl _ | assumption | refine X.ext ?_ _ | refine X.alloc ?_ _ | refine X.drew ?_))) _)) (hCe.mono (X.fr (by (repeat (first | exact X.refl _ | assumption | refine X.ext ?_ _ | refine X.alloc ?_ _ | refine X.drew ?_))) _)) (hCt.mono (X.fr (by (repeat (first | exact X.refl _ | assumption | refine X.ext ?_ _ | refine X.alloc ?_ _ | refine X.drew ?_))) _))).mono ?_; rintro _ wq ⟨rfl, hxq⟩; replace hxq := X.trans (a := w5) (by (repeat (first | exact X.refl _ | assumption | refine X.ext ?_ _ | refine X.alloc ?_ _ | refine X.drew ?_))) hxq; obtain ⟨zq, rfl⟩ := hxq)))
  go_wp2
  go_ret
  exact ⟨rfl, hXe.trans (by (repeat (first | exact X.refl _ | assumption | refine X.ext ?_ _ | refine X.alloc ?_ _ | refine X.drew ?_)))⟩

end Go.Proofs.YtcophpiibifhcaaDoor
