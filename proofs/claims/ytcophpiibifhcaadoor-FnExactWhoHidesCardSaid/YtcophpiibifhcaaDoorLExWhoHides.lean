/- The exact law of WhoHides: the walk. No condition but what a reading of the arguments says. -/
import Derived.Test.YtcophpiibifhcaaDoorMkF
import Derived.Test.YtcophpiibifhcaaDoorWho
import Derived.Test.YtcophpiibifhcaaDoorOpx
namespace Go.Proofs.YtcophpiibifhcaaDoor
open Go.RowKit

set_option maxRecDepth 100000 in
set_option maxHeartbeats 2000000 in
theorem FnExactWhoHides_c (l : List Fi) (a : Option Addr) (n c : Nat) (path : List Int) (pa : Option Addr) (pn pc : Nat) (i : Int) (w : World) (hR : FilesR w a n l) (hIR : IntsR w pa pn path) (hG : Gm w) :
    Calls Tryd.prog 5 #[.agg #[.slice a n c], .slice pa pn pc, .int .i64 i] w fun e w' => e = .returned (.bool true) ∧ X w w' := by
  by_cases h1 : (1048576 : Int) < (pn : Int)
  · go_enter Tryd.func5, Tryd.ntmps5
    go_wp2
    go_ret
    exact ⟨rfl, by (repeat (first | with_reducible exact X.refl _ | with_reducible assumption | with_reducible refine X.setCell ?_ (by first | (simp; done) | (simp; omega)) _ | with_reducible refine X.ext ?_ _ | with_reducible refine X.alloc ?_ _ | with_reducible refine X.drew ?_))⟩
  have hI := hIR.at (by omega)
  by_cases h3 : szFis l 1048576 < 0
  · go_enter Tryd.func5, Tryd.ntmps5
    go_wp2_with (go_at_call 12; refine (szTree_c l a n c _ _ (hR.mono (by (repeat (first | with_reducible exact X.refl _ | with_reducible assumption | with_reducible refine X.setCell ?_ (by first | (simp; done) | (simp; omega)) _ | with_reducible refine X.ext ?_ _ | with_reducible refine X.alloc ?_ _ | with_reducible refine X.drew ?_)))) (by omega) (by omega)).mono ?_; rintro _ w1 ⟨rfl, hx1⟩)
    go_ret
    exact ⟨rfl, X.trans (by (repeat (first | with_reducible exact X.refl _ | with_reducible assumption | with_reducible refine X.setCell ?_ (by first | (simp; done) | (simp; omega)) _ | with_reducible refine X.ext ?_ _ | with_reducible refine X.alloc ?_ _ | with_reducible refine X.drew ?_))) hx1⟩
  have hF := hR.at (by omega)
  clear hIR
  have hwt : True := trivial
  go_enter Tryd.func5, Tryd.ntmps5
  go_wp2_with fail
  refine calls_name (fun W0 hW0 => ?_)
  have hB0 : Bx W0 w.heap.size #[.slice a n c] := by rw [hW0]; exact Bx.new _ _ _
  have hX0 : X w W0 := by rw [hW0]; (repeat (first | with_reducible exact X.refl _ | with_reducible assumption | with_reducible refine X.setCell ?_ (by first | (simp; done) | (simp; omega)) _ | with_reducible refine X.ext ?_ _ | with_reducible refine X.alloc ?_ _ | with_reducible refine X.drew ?_))
  clear hW0
  refine (szTree_c l a n c _ W0 (hR.mono hX0) (by omega) (by omega)).mono ?_
  rintro _ w1 ⟨rfl, hx1⟩
  clear hR
  have okL := hF.okL
  have b01 := (X.cell (w := W0) (by (repeat (first | with_reducible exact X.refl _ | with_reducible assumption | (refine X.trans ?_ (by with_reducible assumption)))) : X W0 w1) (p := ⟨w.heap.size, 0, none⟩) hB0.lt).trans (hB0.out.2.1 0)
  go_wp2_with fail
  refine calls_name (fun W2 hW2 => ?_)
  have hp2 : X w1 W2 := by rw [hW2]; (repeat (first | with_reducible exact X.refl _ | with_reducible assumption | with_reducible refine X.setCell ?_ (by first | (simp; done) | (simp; omega)) _ | with_reducible refine X.ext ?_ _ | with_reducible refine X.alloc ?_ _ | with_reducible refine X.drew ?_))
  clear hW2
  refine (toTree_c l a n c 0 W2 (hF.mono (X.fr (by (repeat (first | with_reducible exact X.refl _ | with_reducible assumption | (refine X.trans ?_ (by with_reducible assumption))))) _))).mono ?_
  rintro _ w2 ⟨ra2, rfl, hO2, hx2⟩
  have hA2 := hO2.at okL
  have b02 := (X.cell (w := W0) (by (repeat (first | with_reducible exact X.refl _ | with_reducible assumption | (refine X.trans ?_ (by with_reducible assumption)))) : X W0 w2) (p := ⟨w.heap.size, 0, none⟩) hB0.lt).trans (hB0.out.2.1 0)
  go_wp2_with fail
  refine calls_name (fun W3 hW3 => ?_)
  have hp3 : X w2 W3 := by rw [hW3]; (repeat (first | with_reducible exact X.refl _ | with_reducible assumption | with_reducible refine X.setCell ?_ (by first | (simp; done) | (simp; omega)) _ | with_reducible refine X.ext ?_ _ | with_reducible refine X.alloc ?_ _ | with_reducible refine X.drew ?_))
  clear hW3
  refine (toIntS_c path pa pn pc 0 W3 (hI.mono (X.fr (by (repeat (first | with_reducible exact X.refl _ | with_reducible assumption | (refine X.trans ?_ (by with_reducible assumption))))) _))).mono ?_
  rintro _ w3 ⟨ra3, rfl, hO3, hx3⟩
  have hI3 := IntsAt.of_own hO3 hI.1 hI.2.1
  have b03 := (X.cell (w := W0) (by (repeat (first | with_reducible exact X.refl _ | with_reducible assumption | (refine X.trans ?_ (by with_reducible assumption)))) : X W0 w3) (p := ⟨w.heap.size, 0, none⟩) hB0.lt).trans (hB0.out.2.1 0)
  go_wp2_with fail
  refine calls_name (fun W4 hW4 => ?_)
  have hp4 : X w3 W4 := by rw [hW4]; (repeat (first | with_reducible exact X.refl _ | with_reducible assumption | with_reducible refine X.setCell ?_ (by first | (simp; done) | (simp; omega)) _ | with_reducible refine X.ext ?_ _ | with_reducible refine X.alloc ?_ _ | with_reducible refine X.drew ?_))
  clear hW4
  refine (WhoHides_s l ra2 n n _ path ra3 pn pn _ i W4 (hA2.mono (X.fr (by (repeat (first | with_reducible exact X.refl _ | with_reducible assumption | (refine X.trans ?_ (by with_reducible assumption))))) _)) (hI3.mono (X.fr (by (repeat (first | with_reducible exact X.refl _ | with_reducible assumption | (refine X.trans ?_ (by with_reducible assumption))))) _)) (Nat.le_refl _)).mono ?_
  rintro _ w4 ⟨rfl, hx4⟩
  have b04 := (X.cell (w := W0) (by (repeat (first | with_reducible exact X.refl _ | with_reducible assumption | (refine X.trans ?_ (by with_reducible assumption)))) : X W0 w4) (p := ⟨w.heap.size, 0, none⟩) hB0.lt).trans (hB0.out.2.1 0)
  go_wp2_with fail
  refine calls_name (fun W5 hW5 => ?_)
  have hp5 : X w4 W5 := by rw [hW5]; (repeat (first | with_reducible exact X.refl _ | with_reducible assumption | with_reducible refine X.setCell ?_ (by first | (simp; done) | (simp; omega)) _ | with_reducible refine X.ext ?_ _ | with_reducible refine X.alloc ?_ _ | with_reducible refine X.drew ?_))
  clear hW5
  refine (toTree_c l a n c 0 W5 (hF.mono (X.fr (by (repeat (first | with_reducible exact X.refl _ | with_reducible assumption | (refine X.trans ?_ (by with_reducible assumption))))) _))).mono ?_
  rintro _ w5 ⟨ra5, rfl, hO5, hx5⟩
  have hA5 := hO5.at okL
  have b05 := (X.cell (w := W0) (by (repeat (first | with_reducible exact X.refl _ | with_reducible assumption | (refine X.trans ?_ (by with_reducible assumption)))) : X W0 w5) (p := ⟨w.heap.size, 0, none⟩) hB0.lt).trans (hB0.out.2.1 0)
  go_wp2_with fail
  refine calls_name (fun W6 hW6 => ?_)
  have hB6 : Bx W6 w5.heap.size #[.slice ra5 n n] := by rw [hW6]; first | exact Bx.new _ _ _ | exact Bx.set (Bx.new _ _ _) 0 _
  have hp6 : X w5 W6 := by rw [hW6]; (repeat (first | with_reducible exact X.refl _ | with_reducible assumption | with_reducible refine X.setCell ?_ (by first | (simp; done) | (simp; omega)) _ | with_reducible refine X.ext ?_ _ | with_reducible refine X.alloc ?_ _ | with_reducible refine X.drew ?_))
  clear hW6
  refine (toIntS_c path pa pn pc 0 W6 (hI.mono (X.fr (by (repeat (first | with_reducible exact X.refl _ | with_reducible assumption | (refine X.trans ?_ (by with_reducible assumption))))) _))).mono ?_
  rintro _ w6 ⟨ra6, rfl, hO6, hx6⟩
  have hI6 := IntsAt.of_own hO6 hI.1 hI.2.1
  have b06 := (X.cell (w := W0) (by (repeat (first | with_reducible exact X.refl _ | with_reducible assumption | (refine X.trans ?_ (by with_reducible assumption)))) : X W0 w6) (p := ⟨w.heap.size, 0, none⟩) hB0.lt).trans (hB0.out.2.1 0)
  have b66 := (X.cell (w := W6) (by (repeat (first | with_reducible exact X.refl _ | with_reducible assumption | (refine X.trans ?_ (by with_reducible assumption)))) : X W6 w6) (p := ⟨w5.heap.size, 0, none⟩) hB6.lt).trans (hB6.out.2.1 0)
  go_wp2_with fail
  refine calls_name (fun W7 hW7 => ?_)
  have hp7 : X w6 W7 := by rw [hW7]; (repeat (first | with_reducible exact X.refl _ | with_reducible assumption | with_reducible refine X.setCell ?_ (by first | (simp; done) | (simp; omega)) _ | with_reducible refine X.ext ?_ _ | with_reducible refine X.alloc ?_ _ | with_reducible refine X.drew ?_))
  clear hW7
  refine (WhoHides_i l ra5 n n _ path ra6 pn pn _ i W7 (hA5.mono (X.fr (by (repeat (first | with_reducible exact X.refl _ | with_reducible assumption | (refine X.trans ?_ (by with_reducible assumption))))) _)) (Nat.le_refl _) (hI6.mono (X.fr (by (repeat (first | with_reducible exact X.refl _ | with_reducible assumption | (refine X.trans ?_ (by with_reducible assumption))))) _)) (Nat.le_refl _) (hG.mono (by (repeat (first | with_reducible exact X.refl _ | with_reducible assumption | (refine X.trans ?_ (by with_reducible assumption))))))).mono ?_
  rintro _ w7 ⟨rfl, hx7⟩
  have b07 := (X.cell (w := W0) (by (repeat (first | with_reducible exact X.refl _ | with_reducible assumption | (refine X.trans ?_ (by with_reducible assumption)))) : X W0 w7) (p := ⟨w.heap.size, 0, none⟩) hB0.lt).trans (hB0.out.2.1 0)
  have b67 := (X.cell (w := W6) (by (repeat (first | with_reducible exact X.refl _ | with_reducible assumption | (refine X.trans ?_ (by with_reducible assumption)))) : X W6 w7) (p := ⟨w5.heap.size, 0, none⟩) hB6.lt).trans (hB6.out.2.1 0)
  go_wp2_with fail
  have hx7b : X w6 w7 := by (repeat (first | with_reducible exact X.refl _ | with_reducible assumption | (refine X.trans ?_ (by with_reducible assumption))))
  have hIe := hI6.mono (X.fr hx7b _)
  clear hx7b
  have hAe := hA5.mono (X.fr (by (repeat (first | with_reducible exact X.refl _ | with_reducible assumption | (refine X.trans ?_ (by with_reducible assumption)))) : X w5 w7) _)
  have hl0 : w.heap.size < w7.heap.size := Nat.lt_of_lt_of_le hB0.lt (X.size (by (repeat (first | with_reducible exact X.refl _ | with_reducible assumption | (refine X.trans ?_ (by with_reducible assumption))))))
  have hl6 : w5.heap.size < w7.heap.size := Nat.lt_of_lt_of_le hB6.lt (X.size (by (repeat (first | with_reducible exact X.refl _ | with_reducible assumption | (refine X.trans ?_ (by with_reducible assumption))))))
  have hXe : X w w7 := by (repeat (first | with_reducible exact X.refl _ | with_reducible assumption | (refine X.trans ?_ (by with_reducible assumption))))
  go_region_held3 (fun w' => w'.cell? ⟨w.heap.size, 0, none⟩ = some (.slice a n c) ∧ w'.cell? ⟨w5.heap.size, 0, none⟩ = some (.slice ra5 n n))
    (first | exact ⟨(World.cell?_ext _ _ _ _ hl0).trans b07, (World.cell?_ext _ _ _ _ hl6).trans b67⟩ | exact ⟨b07, b67⟩ | go_keep)
    ((first
      | (go_at_call 14; refine (toTree_c l a n c 0 _ (hF.mono (X.fr (hXe.trans (by (repeat (first | exact X.refl _ | assumption | refine X.ext ?_ _ | refine X.alloc ?_ _ | refine X.drew ?_)))) _))).mono ?_; rintro _ w8 ⟨ra8, rfl, hO8, hx8⟩; have hA8 := hO8.at okL; replace hx8 := X.trans (a := w7) (by (repeat (first | exact X.refl _ | assumption | refine X.ext ?_ _ | refine X.alloc ?_ _ | refine X.drew ?_))) hx8; obtain ⟨z8, rfl⟩ := hx8)
      | (go_at_call 17; refine (eqTree_c l l ra5 ra8 n n n n _ _ _ (hAe.mono (X.fr (by (repeat (first | exact X.refl _ | assumption | refine X.ext ?_ _ | refine X.alloc ?_ _ | refine X.drew ?_))) _)) (hA8.mono (X.fr (by (repeat (first | exact X.refl _ | assumption | refine X.ext ?_ _ | refine X.alloc ?_ _ | refine X.drew ?_))) _))).mono ?_; rintro _ w9 ⟨rfl, hx9⟩; rw [decide_eq_true (rfl : l = l)]; replace hx9 := X.trans (a := w7) (by (repeat (first | exact X.refl _ | assumption | refine X.ext ?_ _ | refine X.alloc ?_ _ | refine X.drew ?_))) hx9; obtain ⟨z9, rfl⟩ := hx9)))
  go_wp2_with (first
    | (go_at_call 15; refine (toIntS_c path pa pn pc 0 _ (hI.mono (X.fr (hXe.trans (by (repeat (first | exact X.refl _ | assumption | refine X.ext ?_ _ | refine X.alloc ?_ _ | refine X.drew ?_)))) _))).mono ?_; rintro _ w10 ⟨ra10, rfl, hO10, hx10⟩; have hI10 := IntsAt.of_own hO10 hI.1 hI.2.1; replace hx10 := X.trans (a := w7) (by (repeat (first | exact X.refl _ | assumption | refine X.ext ?_ _ | refine X.alloc ?_ _ | refine X.drew ?_))) hx10)
    | (go_at_call 18; refine (eqIntS_c path path ra6 ra10 pn pn pn pn _ _ _ (hIe.mono (X.fr (by (repeat (first | exact X.refl _ | assumption | refine X.ext ?_ _ | refine X.alloc ?_ _ | refine X.drew ?_))) _)) (hI10.mono (X.fr (by (repeat (first | exact X.refl _ | assumption | refine X.ext ?_ _ | refine X.alloc ?_ _ | refine X.drew ?_))) _))).mono ?_; rintro _ w11 ⟨rfl, hx11⟩; rw [decide_eq_true (rfl : path = path)]; replace hx11 := X.trans (a := w7) (by (repeat (first | exact X.refl _ | assumption | refine X.ext ?_ _ | refine X.alloc ?_ _ | refine X.drew ?_))) hx11))
  go_ret
  exact ⟨rfl, hXe.trans (by (repeat (first | exact X.refl _ | assumption | refine X.ext ?_ _ | refine X.alloc ?_ _ | refine X.drew ?_)))⟩

end Go.Proofs.YtcophpiibifhcaaDoor
