/- The exact law of EdgesOf: the walk. No condition but what a reading of the arguments says. -/
import Derived.Test.YtlpbgingggnjpaaGreatDoorEdgS
import Derived.Test.YtlpbgingggnjpaaGreatDoorMkStr
import Derived.Test.YtlpbgingggnjpaaGreatDoorDirW
import Derived.Test.YtlpbgingggnjpaaGreatDoorExL
namespace Go.Proofs.YtlpbgingggnjpaaGreatDoor
open Go.RowKit

theorem edgesL_len {l : List Fi} {path : List Int} {s : List UInt8} : (edgesL l path s).length ≤ 24 := by
  unfold edgesL
  have h1 := @uniqL_len ((needsL l path s).flatMap aboveP)
  have h2 := flat_len (needsL l path s)
  have h3 := @needsL_le l path s
  omega
theorem edgesL_short {l : List Fi} {path : List Int} {s : List UInt8} : ∀ x ∈ edgesL l path s, x.length ≤ 12 := fun x hx => flat_short _ x (mem_uniqL.1 hx)

set_option maxRecDepth 100000 in
set_option maxHeartbeats 4000000 in
theorem FnExactEdgesOf_c (l : List Fi) (a : Option Addr) (n c : Nat) (path : List Int) (pa : Option Addr) (pn pc : Nat) (s : List UInt8) (w : World) (hR : FilesR w a n l) (hIR : IntsR w pa pn path) (hG : Gm w) :
    Calls Tryz.prog 7 #[.agg #[.slice a n c], .slice pa pn pc, .string ⟨(s).toArray⟩] w fun e w' => e = .returned (.bool true) ∧ Below w.heap.size w w' := by
  by_cases h1 : (1048576 : Int) < (pn : Int)
  · go_enter Tryz.func7, Tryz.ntmps7
    go_wp2
    go_ret
    exact ⟨rfl, X.below (by (repeat (first | with_reducible exact X.refl _ | with_reducible assumption | with_reducible refine X.setCell ?_ (by first | (simp; done) | (simp; omega)) _ | with_reducible refine X.ext ?_ _ | with_reducible refine X.alloc ?_ _ | with_reducible refine X.drew ?_)))⟩
  by_cases h2' : (1048576 : Int) < (s.length : Int)
  · go_enter Tryz.func7, Tryz.ntmps7
    go_wp2
    go_ret
    exact ⟨rfl, X.below (by (repeat (first | with_reducible exact X.refl _ | with_reducible assumption | with_reducible refine X.setCell ?_ (by first | (simp; done) | (simp; omega)) _ | with_reducible refine X.ext ?_ _ | with_reducible refine X.alloc ?_ _ | with_reducible refine X.drew ?_)))⟩
  have hI := hIR.at (by omega)
  by_cases h3 : szFis l 1048576 < 0
  · go_enter Tryz.func7, Tryz.ntmps7
    go_wp2_with (go_at_call 17; refine (szTree_c l a n c _ _ (hR.mono (by (repeat (first | with_reducible exact X.refl _ | with_reducible assumption | with_reducible refine X.setCell ?_ (by first | (simp; done) | (simp; omega)) _ | with_reducible refine X.ext ?_ _ | with_reducible refine X.alloc ?_ _ | with_reducible refine X.drew ?_)))) (by omega) (by omega)).mono ?_; rintro _ w1 ⟨rfl, hx1⟩)
    go_ret
    exact ⟨rfl, X.below (X.trans (by (repeat (first | with_reducible exact X.refl _ | with_reducible assumption | with_reducible refine X.setCell ?_ (by first | (simp; done) | (simp; omega)) _ | with_reducible refine X.ext ?_ _ | with_reducible refine X.alloc ?_ _ | with_reducible refine X.drew ?_))) hx1)⟩
  have hF := hR.at (by omega)
  have hsl : s.length ≤ 4194304 := by omega
  have hwt := szFis_wt (l := l) (by omega)
  have hnn := hF.len.2
  clear hIR
  have hvl : (edgesL l path s).length ≤ 36 := Nat.le_trans edgesL_len (by omega)
  have hvs : ∀ x ∈ edgesL l path s, x.length ≤ 4194304 := fun x hx => by have := edgesL_short x hx; omega
  go_enter Tryz.func7, Tryz.ntmps7
  go_wp2_with fail
  refine calls_name (fun W0 hW0 => ?_)
  have hB0 : Bx W0 w.heap.size #[.slice a n c] := by rw [hW0]; exact Bx.new _ _ _
  have hX0 : X w W0 := by rw [hW0]; (repeat (first | with_reducible exact X.refl _ | with_reducible assumption | with_reducible refine X.setCell ?_ (by first | (simp; done) | (simp; omega)) _ | with_reducible refine X.ext ?_ _ | with_reducible refine X.alloc ?_ _ | with_reducible refine X.drew ?_))
  have hs0 : w.heap.size < W0.heap.size := hB0.lt
  clear hW0
  refine (szTree_c l a n c _ W0 (hR.mono hX0) (by omega) (by omega)).mono ?_
  rintro _ w1 ⟨rfl, hx1⟩
  clear hR
  have okL := hF.okL
  have b01 := (X.cell (w := W0) (by (repeat (first | with_reducible exact X.refl _ | with_reducible assumption | (refine X.trans ?_ (by with_reducible assumption)))) : X W0 w1) (p := ⟨w.heap.size, 0, none⟩) hB0.lt).trans (hB0.out.2.1 0)
  go_wp2_with fail
  refine calls_name (fun W2 hW2 => ?_)
  have hp2 : X w1 W2 := by rw [hW2]; (repeat (first | with_reducible exact X.refl _ | with_reducible assumption | with_reducible refine X.setCell ?_ (by first | (simp; done) | (simp; omega)) _ | with_reducible refine X.ext ?_ _ | with_reducible refine X.alloc ?_ _ | with_reducible refine X.drew ?_))
  clear hW2
  refine (toTree_c l a n c 0 W2 (hF.mono (X.fr (by (repeat (first | with_reducible exact X.refl _ | with_reducible assumption | (refine X.trans ?_ (by with_reducible assumption))))) _))).mono ?_
  rintro _ w2 ⟨ra2, rfl, hO2, hx2⟩
  have hA2 := hO2.at okL
  go_wp2_with fail
  refine calls_name (fun W3 hW3 => ?_)
  have hp3 : X w2 W3 := by rw [hW3]; (repeat (first | with_reducible exact X.refl _ | with_reducible assumption | with_reducible refine X.setCell ?_ (by first | (simp; done) | (simp; omega)) _ | with_reducible refine X.ext ?_ _ | with_reducible refine X.alloc ?_ _ | with_reducible refine X.drew ?_))
  clear hW3
  refine (toIntS_c path pa pn pc 0 W3 (hI.mono (X.fr (by (repeat (first | with_reducible exact X.refl _ | with_reducible assumption | (refine X.trans ?_ (by with_reducible assumption))))) _))).mono ?_
  rintro _ w3 ⟨ra3, rfl, hO3, hx3⟩
  have hI3 := IntsAt.of_own hO3 hI.1 hI.2.1
  go_wp2_with fail
  refine calls_name (fun W4 hW4 => ?_)
  have hp4 : X w3 W4 := by rw [hW4]; (repeat (first | with_reducible exact X.refl _ | with_reducible assumption | with_reducible refine X.setCell ?_ (by first | (simp; done) | (simp; omega)) _ | with_reducible refine X.ext ?_ _ | with_reducible refine X.alloc ?_ _ | with_reducible refine X.drew ?_))
  clear hW4
  have hAs := hA2.mono (X.fr (by (repeat (first | with_reducible exact X.refl _ | with_reducible assumption | (refine X.trans ?_ (by with_reducible assumption)))) : X w2 W4) _)
  have hIs := hI3.mono (X.fr (by (repeat (first | with_reducible exact X.refl _ | with_reducible assumption | (refine X.trans ?_ (by with_reducible assumption)))) : X w3 W4) _)
  refine (EdgesOf_s l ra2 n n _ path ra3 pn pn _ s W4 hAs hIs (Nat.le_refl _) hsl).mono ?_
  rintro _ w4 ⟨ra4, rc4, rfl, hI4, hx4⟩
  have b04 := (X.cell (w := W0) (by (repeat (first | with_reducible exact X.refl _ | with_reducible assumption | (refine X.trans ?_ (by with_reducible assumption)))) : X W0 w4) (p := ⟨w.heap.size, 0, none⟩) hB0.lt).trans (hB0.out.2.1 0)
  go_wp2_with fail
  refine calls_name (fun W5 hW5 => ?_)
  have hp5 : X w4 W5 := by rw [hW5]; (repeat (first | with_reducible exact X.refl _ | with_reducible assumption | with_reducible refine X.setCell ?_ (by first | (simp; done) | (simp; omega)) _ | with_reducible refine X.ext ?_ _ | with_reducible refine X.alloc ?_ _ | with_reducible refine X.drew ?_))
  clear hW5
  have hs5 : w4.heap.size ≤ W5.heap.size := hp5.size
  refine (toTree_c l a n c 0 W5 (hF.mono (X.fr (by (repeat (first | with_reducible exact X.refl _ | with_reducible assumption | (refine X.trans ?_ (by with_reducible assumption))))) _))).mono ?_
  rintro _ w5 ⟨ra5, rfl, hO5, hx5⟩
  have hA5 := hO5.at okL
  have b05 := (X.cell (w := W0) (by (repeat (first | with_reducible exact X.refl _ | with_reducible assumption | (refine X.trans ?_ (by with_reducible assumption)))) : X W0 w5) (p := ⟨w.heap.size, 0, none⟩) hB0.lt).trans (hB0.out.2.1 0)
  go_wp2_with fail
  refine calls_name (fun W6 hW6 => ?_)
  have hB6 : Bx W6 w5.heap.size #[.slice ra5 n n] := by rw [hW6]; first | exact Bx.new _ _ _ | exact Bx.set (Bx.new _ _ _) 0 _
  have hp6 : X w5 W6 := by rw [hW6]; (repeat (first | with_reducible exact X.refl _ | with_reducible assumption | with_reducible refine X.setCell ?_ (by first | (simp; done) | (simp; omega)) _ | with_reducible refine X.ext ?_ _ | with_reducible refine X.alloc ?_ _ | with_reducible refine X.drew ?_))
  clear hW6
  have hs6 : w5.heap.size < W6.heap.size := hB6.lt
  refine (toIntS_c path pa pn pc 0 W6 (hI.mono (X.fr (by (repeat (first | with_reducible exact X.refl _ | with_reducible assumption | (refine X.trans ?_ (by with_reducible assumption))))) _))).mono ?_
  rintro _ w6 ⟨ra6, rfl, hO6, hx6⟩
  have hI6 := IntsAt.of_own hO6 hI.1 hI.2.1
  have b66 := (X.cell (w := W6) (by (repeat (first | with_reducible exact X.refl _ | with_reducible assumption | (refine X.trans ?_ (by with_reducible assumption)))) : X W6 w6) (p := ⟨w5.heap.size, 0, none⟩) hB6.lt).trans (hB6.out.2.1 0)
  go_wp2_with fail
  refine calls_name (fun W7 hW7 => ?_)
  have hp7 : X w6 W7 := by rw [hW7]; (repeat (first | with_reducible exact X.refl _ | with_reducible assumption | with_reducible refine X.setCell ?_ (by first | (simp; done) | (simp; omega)) _ | with_reducible refine X.ext ?_ _ | with_reducible refine X.alloc ?_ _ | with_reducible refine X.drew ?_))
  clear hW7
  have hAi := hA5.mono (X.fr (by (repeat (first | with_reducible exact X.refl _ | with_reducible assumption | (refine X.trans ?_ (by with_reducible assumption)))) : X w5 W7) _)
  have hIi := hI6.mono (X.fr (by (repeat (first | with_reducible exact X.refl _ | with_reducible assumption | (refine X.trans ?_ (by with_reducible assumption)))) : X w6 W7) _)
  have hGi : Gm W7 := hG.mono (by (repeat (first | with_reducible exact X.refl _ | with_reducible assumption | (refine X.trans ?_ (by with_reducible assumption)))))
  refine (EdgesOf_i l ra5 n n _ path ra6 pn pn _ s W7 hAi (Nat.le_refl _) hIi (Nat.le_refl _) hsl hGi).mono ?_
  rintro _ w7 ⟨ra7, rc7, rfl, hown7, hx7⟩
  go_wp2_with fail
  refine calls_name (fun W8 hW8 => ?_)
  have hp8 : X w7 W8 := by rw [hW8]; (repeat (first | with_reducible exact X.refl _ | with_reducible assumption | with_reducible refine X.setCell ?_ (by first | (simp; done) | (simp; omega)) _ | with_reducible refine X.ext ?_ _ | with_reducible refine X.alloc ?_ _ | with_reducible refine X.drew ?_))
  clear hW8
  have hs8 : w7.heap.size ≤ W8.heap.size := hp8.size
  have hI7 := StrsAt.of_own hown7 (by omega) hvs
  refine (eqStringS_c (edgesL l path s) (edgesL l path s) ra7 ra4 _ _ rc7 rc4 _ _ W8 (hI7.mono (X.fr (by (repeat (first | with_reducible exact X.refl _ | with_reducible assumption | (refine X.trans ?_ (by with_reducible assumption))))) _)) (hI4.mono (X.fr (by (repeat (first | with_reducible exact X.refl _ | with_reducible assumption | (refine X.trans ?_ (by with_reducible assumption))))) _))).mono ?_
  rintro _ w8 ⟨rfl, hx8⟩
  rw [decide_eq_true (rfl : edgesL l path s = edgesL l path s)]
  have b08 := (X.cell (w := W0) (by (repeat (first | with_reducible exact X.refl _ | with_reducible assumption | (refine X.trans ?_ (by with_reducible assumption)))) : X W0 w8) (p := ⟨w.heap.size, 0, none⟩) hB0.lt).trans (hB0.out.2.1 0)
  have b68 := (X.cell (w := W6) (by (repeat (first | with_reducible exact X.refl _ | with_reducible assumption | (refine X.trans ?_ (by with_reducible assumption)))) : X W6 w8) (p := ⟨w5.heap.size, 0, none⟩) hB6.lt).trans (hB6.out.2.1 0)
  go_wp2_with fail
  have hx6b : X w6 w8 := by (repeat (first | with_reducible exact X.refl _ | with_reducible assumption | (refine X.trans ?_ (by with_reducible assumption))))
  have hIe := hI6.mono (X.fr hx6b _)
  clear hx6b
  have hAe := hA5.mono (X.fr (by (repeat (first | with_reducible exact X.refl _ | with_reducible assumption | (refine X.trans ?_ (by with_reducible assumption)))) : X w5 w8) _)
  have hl0 : w.heap.size < w8.heap.size := Nat.lt_of_lt_of_le hB0.lt (X.size (by (repeat (first | with_reducible exact X.refl _ | with_reducible assumption | (refine X.trans ?_ (by with_reducible assumption))))))
  have hl6 : w5.heap.size < w8.heap.size := Nat.lt_of_lt_of_le hB6.lt (X.size (by (repeat (first | with_reducible exact X.refl _ | with_reducible assumption | (refine X.trans ?_ (by with_reducible assumption))))))
  have hXe : X w w8 := by (repeat (first | with_reducible exact X.refl _ | with_reducible assumption | (refine X.trans ?_ (by with_reducible assumption))))
  go_region_held3 (fun w' => w'.cell? ⟨w.heap.size, 0, none⟩ = some (.slice a n c) ∧ w'.cell? ⟨w5.heap.size, 0, none⟩ = some (.slice ra5 n n))
    (first | exact ⟨(World.cell?_ext _ _ _ _ hl0).trans b08, (World.cell?_ext _ _ _ _ hl6).trans b68⟩ | exact ⟨b08, b68⟩ | go_keep)
    ((first
      | (go_at_call 18; refine (toTree_c l a n c 0 _ (hF.mono (X.fr (hXe.trans (by (repeat (first | exact X.refl _ | assumption | refine X.ext ?_ _ | refine X.alloc ?_ _ | refine X.drew ?_)))) _))).mono ?_; rintro _ wt ⟨rat, rfl, hOt, hxt⟩; have hAt := hOt.at okL; replace hxt := X.trans (a := w8) (by (repeat (first | exact X.refl _ | assumption | refine X.ext ?_ _ | refine X.alloc ?_ _ | refine X.drew ?_))) hxt; obtain ⟨zt, rfl⟩ := hxt)
      | (go_at_call 20; refine (eqTree_c l l ra5 rat n n n n _ _ _ (hAe.mono (X.fr (by (repeat (first | exact X.refl _ | assumption | refine X.ext ?_ _ | refine X.alloc ?_ _ | refine X.drew ?_))) _)) (hAt.mono (X.fr (by (repeat (first | exact X.refl _ | assumption | refine X.ext ?_ _ | refine X.alloc ?_ _ | refine X.drew ?_))) _))).mono ?_; rintro _ wq ⟨rfl, hxq⟩; rw [decide_eq_true (rfl : l = l)]; replace hxq := X.trans (a := w8) (by (repeat (first | exact X.refl _ | assumption | refine X.ext ?_ _ | refine X.alloc ?_ _ | refine X.drew ?_))) hxq; obtain ⟨zq, rfl⟩ := hxq)))
  go_wp2_with (first
    | (go_at_call 25; refine (toIntS_c path pa pn pc 0 _ (hI.mono (X.fr (hXe.trans (by (repeat (first | exact X.refl _ | assumption | refine X.ext ?_ _ | refine X.alloc ?_ _ | refine X.drew ?_)))) _))).mono ?_; rintro _ w10 ⟨ra10, rfl, hO10, hx10⟩; have hI10 := IntsAt.of_own hO10 hI.1 hI.2.1; replace hx10 := X.trans (a := w8) (by (repeat (first | exact X.refl _ | assumption | refine X.ext ?_ _ | refine X.alloc ?_ _ | refine X.drew ?_))) hx10)
    | (go_at_call 27; refine (eqIntS_c path path ra6 ra10 pn pn pn pn _ _ _ (hIe.mono (X.fr (by (repeat (first | exact X.refl _ | assumption | refine X.ext ?_ _ | refine X.alloc ?_ _ | refine X.drew ?_))) _)) (hI10.mono (X.fr (by (repeat (first | exact X.refl _ | assumption | refine X.ext ?_ _ | refine X.alloc ?_ _ | refine X.drew ?_))) _))).mono ?_; rintro _ w11 ⟨rfl, hx11⟩; rw [decide_eq_true (rfl : path = path)]; replace hx11 := X.trans (a := w8) (by (repeat (first | exact X.refl _ | assumption | refine X.ext ?_ _ | refine X.alloc ?_ _ | refine X.drew ?_))) hx11; have b611 := (hx11.cell (p := ⟨w5.heap.size, 0, none⟩) hl6).trans b68))
  obtain ⟨f0, f4, f5, f5', f6, f6', f7⟩ : X W0 w11 ∧ X w4 w11 ∧ X w5 w11 ∧ X W5 w11 ∧ X w6 w11 ∧ X W6 w11 ∧ X w7 w11 := by
    have hxw : X w w11 := hXe.trans hx11
    clear hXe hxw
    exact ⟨by (repeat (first | with_reducible exact X.refl _ | with_reducible assumption | (refine X.trans ?_ (by with_reducible assumption)))), by (repeat (first | with_reducible exact X.refl _ | with_reducible assumption | (refine X.trans ?_ (by with_reducible assumption)))), by (repeat (first | with_reducible exact X.refl _ | with_reducible assumption | (refine X.trans ?_ (by with_reducible assumption)))), by (repeat (first | with_reducible exact X.refl _ | with_reducible assumption | (refine X.trans ?_ (by with_reducible assumption)))), by (repeat (first | with_reducible exact X.refl _ | with_reducible assumption | (refine X.trans ?_ (by with_reducible assumption)))), by (repeat (first | with_reducible exact X.refl _ | with_reducible assumption | (refine X.trans ?_ (by with_reducible assumption)))), by (repeat (first | with_reducible exact X.refl _ | with_reducible assumption | (refine X.trans ?_ (by with_reducible assumption))))⟩
  obtain ⟨z1, z2, z3, z4, z5⟩ : W0.heap.size ≤ w4.heap.size ∧ W5.heap.size ≤ w5.heap.size ∧ W6.heap.size ≤ w6.heap.size ∧ w6.heap.size ≤ W7.heap.size ∧ W7.heap.size ≤ w7.heap.size := by
    clear hXe f0 f4 f5 f5' f6 f6' f7
    exact ⟨X.size (by (repeat (first | with_reducible exact X.refl _ | with_reducible assumption | (refine X.trans ?_ (by with_reducible assumption))))), X.size (by (repeat (first | with_reducible exact X.refl _ | with_reducible assumption | (refine X.trans ?_ (by with_reducible assumption))))), X.size (by (repeat (first | with_reducible exact X.refl _ | with_reducible assumption | (refine X.trans ?_ (by with_reducible assumption))))), X.size (by (repeat (first | with_reducible exact X.refl _ | with_reducible assumption | (refine X.trans ?_ (by with_reducible assumption))))), X.size (by (repeat (first | with_reducible exact X.refl _ | with_reducible assumption | (refine X.trans ?_ (by with_reducible assumption)))))⟩
  have fw : X w w11 := hXe.trans hx11
  refine (markTree_c l ra5 n n W5.heap.size 1 w5 w11 hO5 f5 hnn (by omega)).mono ?_
  rintro _ v1 ⟨rfl, _, hK1⟩
  have q0 : Below w.heap.size w v1 := hK1.below (by omega) fw.below
  have q4 : Below w4.heap.size w4 v1 := hK1.below (by omega) f4.below
  have B0 := (hB0.x f0).keep hK1 (.inl (by omega))
  have o6 := own_keep (own_fr hO6 (f6.fr _)) hK1 (by omega)
  have o7 := own_keep (own_fr hown7 (f7.fr _)) hK1 (by omega)
  clear fw f0 f4 f5 f5' f6 f6' f7 hXe hx11 hx10
  go_wp2_with fail
  refine (markIntS_v _ ra6 pn pn W6.heap.size (1 + wtF l) _ v1 (by omega) o6 (by omega) (by omega)).mono ?_
  rintro _ v2 ⟨rfl, _, hg2⟩
  have hK2 := keep_row hO6 hg2
  replace q0 := hK2.below (by omega) q0
  replace q4 := hK2.below (by omega) q4
  replace B0 := B0.keep hK2 (.inl (by omega))
  replace o7 := own_keep o7 hK2 (by omega)
  clear hK1 hK2 hg2 o6
  go_wp2_with fail
  refine (eqStringS_c (edgesL l path s) (edgesL l path s) ra7 ra4 _ _ rc7 rc4 _ _ v2 (StrsAt.of_own o7 (by omega) hvs) (hI4.mono ((below_fr0 q4).mono (Nat.zero_le _)))).mono ?_
  rintro _ v3 ⟨rfl, hx3⟩
  rw [decide_eq_true (rfl : edgesL l path s = edgesL l path s)]
  replace q0 := below_x q0 hx3
  replace q4 := below_x q4 hx3
  replace B0 := B0.x hx3
  replace o7 := own_fr o7 (X.fr hx3 _)
  clear hx3
  go_wp2_with fail
  refine (markStringS_v _ ra7 _ rc7 _ 1 _ v3 (by omega) o7 (by omega) (by omega)).mono ?_
  rintro _ v4 ⟨rfl, o7, hg4⟩
  have hK4 := keep_row hown7 hg4
  replace q0 := hK4.below (by omega) q0
  replace q4 := hK4.below (by omega) q4
  replace B0 := B0.keep hK4 (.inl (by omega))
  clear hK4 hg4
  go_wp2_with fail
  refine (heldStringS_c ra7 _ rc7 _ 1 v4 (strsAt_of o7 mtxN_len (by omega) (mtxN_short (by omega))) (by omega)).mono ?_
  rintro _ v5 ⟨rfl, hx5⟩
  replace q0 := below_x q0 hx5
  replace q4 := below_x q4 hx5
  replace B0 := B0.x hx5
  replace o7 := own_fr o7 (X.fr hx5 _)
  clear hx5
  obtain ⟨ltt, cct, _⟩ := Bx.out B0
  have et0 := cct 0
  clear cct
  go_wp2_with fail
  refine (toTree_c l a n c 0 v5 (hF.mono (below_fr0 q0))).mono ?_
  rintro _ v6 ⟨ra8, rfl, hO8, hx6⟩
  replace q0 := below_x q0 hx6
  replace q4 := below_x q4 hx6
  replace B0 := B0.x hx6
  replace o7 := own_fr o7 (X.fr hx6 _)
  clear hx6
  go_wp2_with fail
  refine (toIntS_c path pa pn pc 0 v6 (hI.mono (below_fr0 q0))).mono ?_
  rintro _ v7 ⟨ra9, rfl, hO9, hx7⟩
  have A8 := (hO8.at okL).mono (hx7.fr _)
  replace q0 := below_x q0 hx7
  replace q4 := below_x q4 hx7
  replace B0 := B0.x hx7
  replace o7 := own_fr o7 (X.fr hx7 _)
  clear hx7
  go_wp2_with fail
  have hIj := IntsAt.of_own hO9 hI.1 hI.2.1
  have hGj := hG.belowW q0
  refine (EdgesOf_i l ra8 n n _ path ra9 pn pn _ s v7 A8 (Nat.le_refl _) hIj (Nat.le_refl _) hsl hGj).mono ?_
  rintro _ v8 ⟨ra10, rc10, rfl, hown10, hx8⟩
  replace q0 := below_x q0 hx8
  replace q4 := below_x q4 hx8
  replace B0 := B0.x hx8
  replace o7 := own_fr o7 (X.fr hx8 _)
  clear hx8
  go_wp2_with fail
  refine (eqStringS_c (edgesL l path s) (edgesL l path s) ra10 ra4 _ _ rc10 rc4 _ _ v8 (StrsAt.of_own hown10 (by omega) hvs) (hI4.mono ((below_fr0 q4).mono (Nat.zero_le _)))).mono ?_
  rintro _ v9 ⟨rfl, hx9⟩
  rw [decide_eq_true (rfl : edgesL l path s = edgesL l path s)]
  replace q0 := below_x q0 hx9
  replace q4 := below_x q4 hx9
  replace B0 := B0.x hx9
  replace o7 := own_fr o7 (X.fr hx9 _)
  clear hx9
  go_wp2_with fail
  refine (heldStringS_c ra7 _ rc7 _ 1 v9 (strsAt_of o7 mtxN_len (by omega) (mtxN_short (by omega))) (by omega)).mono ?_
  rintro _ v10 ⟨rfl, hx10⟩
  go_wp2
  go_ret
  exact ⟨rfl, below_x q0 hx10⟩

end Go.Proofs.YtlpbgingggnjpaaGreatDoor
