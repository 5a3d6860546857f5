/- The exact law of FormatTree: the walk. No condition but what a reading of the arguments says. -/
import Derived.Test.YtjonaihgldmmmaaDoorFmtI
import Derived.Test.YtjonaihgldmmmaaDoorMb
import Derived.Test.YtjonaihgldmmmaaDoorOpx
namespace Go.Proofs.YtjonaihgldmmmaaDoor
open Go.RowKit

set_option maxRecDepth 100000 in
set_option maxHeartbeats 2000000 in
theorem FnExactFormatTree_c (l : List Fi) (a : Option Addr) (n c : Nat) (w : World) (hR : FilesR w a n l) (hG : Gm w) :
    Calls Tryd.prog 3 #[.agg #[.slice a n c]] w fun e w' => e = .returned (.bool true) ∧ X w w' := by
  by_cases h3 : szFis l 1048576 < 0
  · go_enter Tryd.func3, Tryd.ntmps3
    go_wp2_with (go_at_call 4; refine (szTree_c l a n c _ _ (hR.mono (by (repeat (first | with_reducible exact X.refl _ | with_reducible assumption | with_reducible refine X.setCell ?_ (by first | (simp; done) | (simp; omega)) _ | with_reducible refine X.ext ?_ _ | with_reducible refine X.alloc ?_ _ | with_reducible refine X.drew ?_)))) (by omega) (by omega)).mono ?_; rintro _ w1 ⟨rfl, hx1⟩)
    go_ret
    exact ⟨rfl, X.trans (by (repeat (first | with_reducible exact X.refl _ | with_reducible assumption | with_reducible refine X.setCell ?_ (by first | (simp; done) | (simp; omega)) _ | with_reducible refine X.ext ?_ _ | with_reducible refine X.alloc ?_ _ | with_reducible refine X.drew ?_))) hx1⟩
  have hF := hR.at (by omega)
  go_enter Tryd.func3, Tryd.ntmps3
  go_wp2_with fail
  refine calls_name (fun W0 hW0 => ?_)
  have hB0 : Bx W0 w.heap.size #[.slice a n c] := by rw [hW0]; exact Bx.new _ _ _
  have hX0 : X w W0 := by rw [hW0]; (repeat (first | with_reducible exact X.refl _ | with_reducible assumption | with_reducible refine X.setCell ?_ (by first | (simp; done) | (simp; omega)) _ | with_reducible refine X.ext ?_ _ | with_reducible refine X.alloc ?_ _ | with_reducible refine X.drew ?_))
  clear hW0
  refine (szTree_c l a n c _ W0 (hR.mono hX0) (by omega) (by omega)).mono ?_
  rintro _ w1 ⟨rfl, hx1⟩
  clear hR
  have okL := hF.okL
  have b01 := (X.cell (w := W0) (by (repeat (first | with_reducible exact X.refl _ | with_reducible assumption | (refine X.trans ?_ (by with_reducible assumption)))) : X W0 w1) (p := ⟨w.heap.size, 0, none⟩) hB0.lt).trans (hB0.out.2.1 0)
  go_wp2_with fail
  refine calls_name (fun W2 hW2 => ?_)
  have hp2 : X w1 W2 := by rw [hW2]; (repeat (first | with_reducible exact X.refl _ | with_reducible assumption | with_reducible refine X.setCell ?_ (by first | (simp; done) | (simp; omega)) _ | with_reducible refine X.ext ?_ _ | with_reducible refine X.alloc ?_ _ | with_reducible refine X.drew ?_))
  clear hW2
  refine (toTree_c l a n c 0 W2 (hF.mono (X.fr (by (repeat (first | with_reducible exact X.refl _ | with_reducible assumption | (refine X.trans ?_ (by with_reducible assumption))))) _))).mono ?_
  rintro _ w2 ⟨ra2, rfl, hO2, hx2⟩
  have hA2 := hO2.at okL
  go_wp2_with fail
  refine calls_name (fun W4 hW4 => ?_)
  have hp4 : X w2 W4 := by rw [hW4]; (repeat (first | with_reducible exact X.refl _ | with_reducible assumption | with_reducible refine X.setCell ?_ (by first | (simp; done) | (simp; omega)) _ | with_reducible refine X.ext ?_ _ | with_reducible refine X.alloc ?_ _ | with_reducible refine X.drew ?_))
  clear hW4
  refine (FormatTree_s l ra2 n n _ W4 (hA2.mono (X.fr (by (repeat (first | with_reducible exact X.refl _ | with_reducible assumption | (refine X.trans ?_ (by with_reducible assumption))))) _))).mono ?_
  rintro _ w4 ⟨rfl, hx4⟩
  have b04 := (X.cell (w := W0) (by (repeat (first | with_reducible exact X.refl _ | with_reducible assumption | (refine X.trans ?_ (by with_reducible assumption)))) : X W0 w4) (p := ⟨w.heap.size, 0, none⟩) hB0.lt).trans (hB0.out.2.1 0)
  go_wp2_with fail
  refine calls_name (fun W5 hW5 => ?_)
  have hp5 : X w4 W5 := by rw [hW5]; (repeat (first | with_reducible exact X.refl _ | with_reducible assumption | with_reducible refine X.setCell ?_ (by first | (simp; done) | (simp; omega)) _ | with_reducible refine X.ext ?_ _ | with_reducible refine X.alloc ?_ _ | with_reducible refine X.drew ?_))
  clear hW5
  refine (toTree_c l a n c 0 W5 (hF.mono (X.fr (by (repeat (first | with_reducible exact X.refl _ | with_reducible assumption | (refine X.trans ?_ (by with_reducible assumption))))) _))).mono ?_
  rintro _ w5 ⟨ra5, rfl, hO5, hx5⟩
  have hA5 := hO5.at okL
  have b05 := (X.cell (w := W0) (by (repeat (first | with_reducible exact X.refl _ | with_reducible assumption | (refine X.trans ?_ (by with_reducible assumption)))) : X W0 w5) (p := ⟨w.heap.size, 0, none⟩) hB0.lt).trans (hB0.out.2.1 0)
  go_wp2_with fail
  refine calls_name (fun W6 hW6 => ?_)
  have hB6 : Bx W6 w5.heap.size #[.slice ra5 n n] := by rw [hW6]; first | exact Bx.new _ _ _ | exact Bx.set (Bx.new _ _ _) 0 _
  have hp6 : X w5 W6 := by rw [hW6]; (repeat (first | with_reducible exact X.refl _ | with_reducible assumption | with_reducible refine X.setCell ?_ (by first | (simp; done) | (simp; omega)) _ | with_reducible refine X.ext ?_ _ | with_reducible refine X.alloc ?_ _ | with_reducible refine X.drew ?_))
  clear hW6
  refine (FormatTree_i l ra5 n n _ W6 (hA5.mono (X.fr (by (repeat (first | with_reducible exact X.refl _ | with_reducible assumption | (refine X.trans ?_ (by with_reducible assumption))))) _)) (Nat.le_refl _) (hG.mono (by (repeat (first | with_reducible exact X.refl _ | with_reducible assumption | (refine X.trans ?_ (by with_reducible assumption))))))).mono ?_
  rintro _ w7 ⟨rfl, hx7⟩
  have b07 := (X.cell (w := W0) (by (repeat (first | with_reducible exact X.refl _ | with_reducible assumption | (refine X.trans ?_ (by with_reducible assumption)))) : X W0 w7) (p := ⟨w.heap.size, 0, none⟩) hB0.lt).trans (hB0.out.2.1 0)
  have b67 := (X.cell (w := W6) (by (repeat (first | with_reducible exact X.refl _ | with_reducible assumption | (refine X.trans ?_ (by with_reducible assumption)))) : X W6 w7) (p := ⟨w5.heap.size, 0, none⟩) hB6.lt).trans (hB6.out.2.1 0)
  go_wp2_with fail
  have hAe := hA5.mono (X.fr (by (repeat (first | with_reducible exact X.refl _ | with_reducible assumption | (refine X.trans ?_ (by with_reducible assumption)))) : X w5 w7) _)
  have hl0 : w.heap.size < w7.heap.size := Nat.lt_of_lt_of_le hB0.lt (X.size (by (repeat (first | with_reducible exact X.refl _ | with_reducible assumption | (refine X.trans ?_ (by with_reducible assumption))))))
  have hl6 : w5.heap.size < w7.heap.size := Nat.lt_of_lt_of_le hB6.lt (X.size (by (repeat (first | with_reducible exact X.refl _ | with_reducible assumption | (refine X.trans ?_ (by with_reducible assumption))))))
  have hXe : X w w7 := by (repeat (first | with_reducible exact X.refl _ | with_reducible assumption | (refine X.trans ?_ (by with_reducible assumption))))
  go_region_held3 (fun w' => w'.cell? ⟨w.heap.size, 0, none⟩ = some (.slice a n c) ∧ w'.cell? ⟨w5.heap.size, 0, none⟩ = some (.slice ra5 n n))
    (first | exact ⟨(World.cell?_ext _ _ _ _ hl0).trans b07, (World.cell?_ext _ _ _ _ hl6).trans b67⟩ | exact ⟨b07, b67⟩ | go_keep)
    ((first
      | (go_at_call 6; refine (toTree_c l a n c 0 _ (hF.mono (X.fr (hXe.trans (by (repeat (first | exact X.refl _ | assumption | refine X.ext ?_ _ | refine X.alloc ?_ _ | refine X.drew ?_)))) _))).mono ?_; rintro _ wt ⟨rat, rfl, hOt, hxt⟩; have hAt := hOt.at okL; replace hxt := X.trans (a := w7) (by (repeat (first | exact X.refl _ | assumption | refine X.ext ?_ _ | refine X.alloc ?_ _ | refine X.drew ?_))) hxt; obtain ⟨zt, rfl⟩ := hxt)
      | (go_at_call 8; refine (eqTree_c l l ra5 rat n n n n _ _ _ (hAe.mono (X.fr (by (repeat (first | exact X.refl _ | assumption | refine X.ext ?_ _ | refine X.alloc ?_ _ | refine X.drew ?_))) _)) (hAt.mono (X.fr (by (repeat (first | exact X.refl _ | assumption | refine X.ext ?_ _ | refine X.alloc ?_ _ | refine X.drew ?_))) _))).mono ?_; rintro _ wq ⟨rfl, hxq⟩; rw [decide_eq_true (rfl : l = l)]; replace hxq := X.trans (a := w7) (by (repeat (first | exact X.refl _ | assumption | refine X.ext ?_ _ | refine X.alloc ?_ _ | refine X.drew ?_))) hxq; obtain ⟨zq, rfl⟩ := hxq)))
  go_wp2
  go_ret
  exact ⟨rfl, hXe.trans (by (repeat (first | exact X.refl _ | assumption | refine X.ext ?_ _ | refine X.alloc ?_ _ | refine X.drew ?_)))⟩

end Go.Proofs.YtjonaihgldmmmaaDoor
