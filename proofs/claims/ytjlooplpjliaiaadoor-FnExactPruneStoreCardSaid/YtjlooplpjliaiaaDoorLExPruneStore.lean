/- The exact law of PruneStore: the walk. No condition but what a reading of the arguments says. -/
import Derived.Test.YtjlooplpjliaiaaDoorPruneS
import Derived.Test.YtjlooplpjliaiaaDoorCoM
import Derived.Test.YtjlooplpjliaiaaDoorExL
import Derived.Test.YtjlooplpjliaiaaDoorSzM
namespace Go.Proofs.YtjlooplpjliaiaaDoor
open Go.RowKit

set_option maxRecDepth 100000 in
set_option maxHeartbeats 8000000 in
theorem FnExactPruneStore_c (l : List Co) (a : Option Addr) (n c : Nat) (t : List Fi) (ta : Option Addr) (tn tc : Nat) (w : World) (hR : CosR w a n l) (hT : FilesR w ta tn t) (hG : Gm w) :
    Calls Tryd.prog 5 #[.slice a n c, .agg #[.slice ta tn tc]] w fun e w' => e = .returned (.bool true) ∧ Below w.heap.size w w' := by
  by_cases h3 : szCos l 1048576 < 0
  · go_enter Tryd.func5, Tryd.ntmps5
    go_wp2_with (go_at_call 16; refine (szCompiledS_c l a n c _ _ (hR.mono (by (repeat (first | with_reducible exact X.refl _ | with_reducible assumption | with_reducible refine X.setCell ?_ (by first | (simp; done) | (simp; omega)) _ | with_reducible refine X.ext ?_ _ | with_reducible refine X.alloc ?_ _ | with_reducible refine X.drew ?_)))) (by omega) (by omega)).mono ?_; rintro _ w1 ⟨rfl, hx1⟩)
    go_ret
    exact ⟨rfl, X.below (X.trans (by (repeat (first | with_reducible exact X.refl _ | with_reducible assumption | with_reducible refine X.setCell ?_ (by first | (simp; done) | (simp; omega)) _ | with_reducible refine X.ext ?_ _ | with_reducible refine X.alloc ?_ _ | with_reducible refine X.drew ?_))) hx1)⟩
  have hle := szCos_le l 1048576 (by omega)
  have hD := hR.at (m := 1048576) (by omega) (by omega)
  have hwt := szCos_wt (l := l) (m := 1048576) (by omega) (by omega)
  have H3 := Lib.hid h3
  by_cases h4 : szFis t (szCos l 1048576) < 0
  · go_enter Tryd.func5, Tryd.ntmps5
    go_wp2_with fail
    refine calls_name (fun W0 hW0 => ?_)
    have hB0 : Bx W0 w.heap.size #[.slice ta tn tc] := by rw [hW0]; exact Bx.new _ _ _
    have hX0 : X w W0 := by rw [hW0]; (repeat (first | with_reducible exact X.refl _ | with_reducible assumption | with_reducible refine X.setCell ?_ (by first | (simp; done) | (simp; omega)) _ | with_reducible refine X.ext ?_ _ | with_reducible refine X.alloc ?_ _ | with_reducible refine X.drew ?_))
    clear hW0
    refine (szCompiledS_c l a n c _ W0 (hR.mono hX0) (by omega) (by omega)).mono ?_
    rintro _ w1 ⟨rfl, hx1⟩
    have t0 := keepB1 (hB0.x hx1)
    have hlT := (hB0.x hx1).lt
    go_wp2_with (go_at_call 7; refine (szTree_c t ta tn tc _ _ (hT.mono (X.trans (hX0.trans hx1) (by (repeat (first | with_reducible exact X.refl _ | with_reducible assumption | with_reducible refine X.setCell ?_ (by first | (simp; done) | (simp; omega)) _ | with_reducible refine X.ext ?_ _ | with_reducible refine X.alloc ?_ _ | with_reducible refine X.drew ?_))))) (by omega) (by omega)).mono ?_; rintro _ w2 ⟨rfl, hx2⟩)
    go_ret
    exact ⟨rfl, X.below ((hX0.trans hx1).trans hx2)⟩
  have hF := hT.atm (m := szCos l 1048576) (by omega) (by omega)
  have hwf := szFis_wtm (l := t) (m := szCos l 1048576) (by omega) (by omega)
  have H4 := Lib.hid h4
  have Hle := Lib.hid hle
  have hnn := hD.len.2
  have htn := hF.len.2
  have okL := hF.okL
  have hok := hD.okC
  have hll := hD.len.1
  have htl := hF.len.1
  have hvl := pruneL_len l t
  have hvw := pruneL_wt l t
  have hok2 := pruneL_ok (t := t) hok
  have hvl2 := hok2.1
  have Hll := Lib.hid (And.intro hll htl)
  clear hle hll htl
  obtain ⟨V, hV⟩ : ∃ V, pruneL l t = V := ⟨_, rfl⟩
  rw [hV] at hvl hvw hok2 hvl2
  go_enter Tryd.func5, Tryd.ntmps5
  go_wp2_with fail
  refine calls_name (fun W0 hW0 => ?_)
  have hB0 : Bx W0 w.heap.size #[.slice ta tn tc] := by rw [hW0]; exact Bx.new _ _ _
  have hX0 : X w W0 := by rw [hW0]; (repeat (first | with_reducible exact X.refl _ | with_reducible assumption | with_reducible refine X.setCell ?_ (by first | (simp; done) | (simp; omega)) _ | with_reducible refine X.ext ?_ _ | with_reducible refine X.alloc ?_ _ | with_reducible refine X.drew ?_))
  clear hW0
  refine (szCompiledS_c l a n c _ W0 (hR.mono hX0) (by omega) (by omega)).mono ?_
  rintro _ w1 ⟨rfl, hx1⟩
  have t0 := keepB1 (hB0.x hx1)
  have hlT := (hB0.x hx1).lt
  go_wp2_with fail
  refine (szTree_c t ta tn tc _ w1 (hT.mono (hX0.trans hx1)) (by have := H3.out; omega) (by have := Hle.out; omega)).mono ?_
  rintro _ w2 ⟨rfl, hx2⟩
  have h4' := H4.out
  clear t0 hlT hR hT H3 Hle
  have hB2 := (hB0.x hx1).x hx2
  have hX2 := (hX0.trans hx1).trans hx2
  clear hx1 hx2 hX0 hB0
  have t0 := keepB1 hB2
  have hlT := hB2.lt
  have hD2 := hD.mono (hX2.fr _)
  have hF2 := hF.mono (hX2.fr _)
  go_wp2
  go_region_held_law (fun w' => w'.cell? ⟨w.heap.size, 0, none⟩ = some (.slice ta tn tc))
    (first | (refine keepB1 (hB2.x ?_); (repeat (first | with_reducible exact X.refl _ | with_reducible assumption | with_reducible refine X.alloc ?_ _ | with_reducible refine X.drew ?_)); done) | fail)
    (first
      | (go_at_call 19; refine (toCompiledS_c l a n c 0 _ (hD2.mono (X.fr (by (repeat (first | with_reducible exact X.refl _ | with_reducible assumption | with_reducible refine X.setCell ?_ (by first | (simp; done) | (simp; omega)) _ | with_reducible refine X.ext ?_ _ | with_reducible refine X.alloc ?_ _ | with_reducible refine X.drew ?_))) _))).mono ?_; rintro _ wa ⟨sa, rfl, hOa, hxa⟩; have hXa : X w2 wa := X.trans (by (repeat (first | with_reducible exact X.refl _ | with_reducible assumption | with_reducible refine X.setCell ?_ (by first | (simp; done) | (simp; omega)) _ | with_reducible refine X.ext ?_ _ | with_reducible refine X.alloc ?_ _ | with_reducible refine X.drew ?_))) hxa)
      | (go_at_call 9; refine (toTree_c t ta tn tc 0 _ (hF2.mono (X.fr (by (repeat (first | with_reducible exact X.refl _ | with_reducible assumption | with_reducible refine X.setCell ?_ (by first | (simp; done) | (simp; omega)) _ | with_reducible refine X.ext ?_ _ | with_reducible refine X.alloc ?_ _ | with_reducible refine X.drew ?_))) _))).mono ?_; rintro _ wb ⟨fa, rfl, hOb, hxb⟩; have hXab : X wa wb := X.trans (by (repeat (first | with_reducible exact X.refl _ | with_reducible assumption | with_reducible refine X.setCell ?_ (by first | (simp; done) | (simp; omega)) _ | with_reducible refine X.ext ?_ _ | with_reducible refine X.alloc ?_ _ | with_reducible refine X.drew ?_))) hxb; have hXb : X w2 wb := X.trans hXa hXab)
      | (go_at_call 27; refine (PruneStore_s l sa n n _ t fa tn tn _ _ (((hOa.at hok).mono (hXab.fr _)).mono (X.fr (by (repeat (first | with_reducible exact X.refl _ | with_reducible assumption | with_reducible refine X.setCell ?_ (by first | (simp; done) | (simp; omega)) _ | with_reducible refine X.ext ?_ _ | with_reducible refine X.alloc ?_ _ | with_reducible refine X.drew ?_))) _)) ((hOb.at okL).mono (X.fr (by (repeat (first | with_reducible exact X.refl _ | with_reducible assumption | with_reducible refine X.setCell ?_ (by first | (simp; done) | (simp; omega)) _ | with_reducible refine X.ext ?_ _ | with_reducible refine X.alloc ?_ _ | with_reducible refine X.drew ?_))) _)) (Nat.le_refl _)).mono ?_; rw [hV]; rintro _ w3 ⟨r3, rc3, rfl, hO3, hx3⟩; have hX3 : X w2 w3 := X.trans hXb (X.trans (by (repeat (first | with_reducible exact X.refl _ | with_reducible assumption | with_reducible refine X.setCell ?_ (by first | (simp; done) | (simp; omega)) _ | with_reducible refine X.ext ?_ _ | with_reducible refine X.alloc ?_ _ | with_reducible refine X.drew ?_))) hx3)))
  all_goals
    clear hXa hXab hXb hOa hOb t0 hlT hD2 hF2
    have hA3 := hO3.at hok2
    have hXw3 := hX2.trans hX3
    go_wp2_with fail
    refine calls_name (fun W4 hW4 => ?_)
    have hp4 : X w3 W4 := by rw [hW4]; (repeat (first | with_reducible exact X.refl _ | with_reducible assumption | with_reducible refine X.setCell ?_ (by first | (simp; done) | (simp; omega)) _ | with_reducible refine X.ext ?_ _ | with_reducible refine X.alloc ?_ _ | with_reducible refine X.drew ?_))
    clear hW4
    refine (toCompiledS_c l a n c 0 W4 (hD.mono (X.fr (hXw3.trans hp4) _))).mono ?_
    rintro _ w4 ⟨ra4, rfl, hO4, hx4⟩
    have hB4 := (hB2.x hX3).x (hp4.trans hx4)
    have hXw4 := hXw3.trans (hp4.trans hx4)
    have t0 := keepB1 hB4
    have hlT := hB4.lt
    have hsW4 : w.heap.size < W4.heap.size := Nat.lt_of_lt_of_le hB2.lt (Nat.le_trans hX3.size hp4.size)
    have hs34 : w3.heap.size ≤ W4.heap.size := hp4.size
    have hs4 : W4.heap.size ≤ w4.heap.size := hx4.size
    go_wp2_with fail
    refine calls_name (fun W5 hW5 => ?_)
    have hp5 : X w4 W5 := by rw [hW5]; (repeat (first | with_reducible exact X.refl _ | with_reducible assumption | with_reducible refine X.setCell ?_ (by first | (simp; done) | (simp; omega)) _ | with_reducible refine X.ext ?_ _ | with_reducible refine X.alloc ?_ _ | with_reducible refine X.drew ?_))
    clear hW5
    have hs45 : w4.heap.size ≤ W5.heap.size := hp5.size
    refine (toTree_c t ta tn tc 0 W5 (hF.mono (X.fr (hXw4.trans hp5) _))).mono ?_
    rintro _ w5 ⟨fa5, rfl, hO5, hx5⟩
    have hs5 : W5.heap.size ≤ w5.heap.size := hx5.size
    have hXw5 := hXw4.trans (hp5.trans hx5)
    clear t0 hlT
    go_wp2_with fail
    refine calls_name (fun W6 hW6 => ?_)
    have hB6 : Bx W6 w5.heap.size #[.slice fa5 tn tn] := by rw [hW6]; first | exact Bx.new _ _ _ | exact Bx.set (Bx.new _ _ _) 0 _
    have hp6 : X w5 W6 := by rw [hW6]; (repeat (first | with_reducible exact X.refl _ | with_reducible assumption | with_reducible refine X.setCell ?_ (by first | (simp; done) | (simp; omega)) _ | with_reducible refine X.ext ?_ _ | with_reducible refine X.alloc ?_ _ | with_reducible refine X.drew ?_))
    clear hW6
    have hs56 : w5.heap.size ≤ W6.heap.size := hp6.size
    have hX46 : X w4 W6 := (hp5.trans hx5).trans hp6
    refine (PruneStore_i l ra4 n n _ t fa5 tn tn _ W6 ((hO4.at hok).mono (hX46.fr _)) ((hO5.at okL).mono (hp6.fr _)) (Nat.le_refl _) (hG.mono (hXw5.trans hp6))).mono ?_
    rw [hV]
    rintro _ w6 ⟨r6, rc6, rfl, hO6, hx6⟩
    have hA6 := hO6.at hok2
    have hs6 : W6.heap.size ≤ w6.heap.size := hx6.size
    have hX36 : X w3 w6 := ((hp4.trans hx4).trans hX46).trans hx6
    have hX46' : X w4 w6 := hX46.trans hx6
    have hX56 : X w5 w6 := hp6.trans hx6
    have hXw6 := hXw3.trans hX36
    clear hp4 hx4 hp5 hx5 hX46
    go_wp2_with fail
    refine calls_name (fun W8 hW8 => ?_)
    have hp8 : X w6 W8 := by rw [hW8]; (repeat (first | with_reducible exact X.refl _ | with_reducible assumption | with_reducible refine X.setCell ?_ (by first | (simp; done) | (simp; omega)) _ | with_reducible refine X.ext ?_ _ | with_reducible refine X.alloc ?_ _ | with_reducible refine X.drew ?_))
    clear hW8
    refine (eqCompiledS_c V V r6 r3 _ _ rc6 rc3 _ _ W8 (hA6.mono (X.fr hp8 _)) (hA3.mono (X.fr (hX36.trans hp8) _))).mono ?_
    rintro _ w8 ⟨rfl, hx8⟩
    rw [decide_eq_true (rfl : V = V)]
    replace hx8 := hp8.trans hx8
    clear hp8
    go_wp2_with fail
    refine calls_name (fun W9 hW9 => ?_)
    have hp9 : X w8 W9 := by rw [hW9]; (repeat (first | with_reducible exact X.refl _ | with_reducible assumption | with_reducible refine X.setCell ?_ (by first | (simp; done) | (simp; omega)) _ | with_reducible refine X.ext ?_ _ | with_reducible refine X.alloc ?_ _ | with_reducible refine X.drew ?_))
    clear hW9
    refine (toCompiledS_c l a n c 0 W9 (hD.mono (X.fr (hXw6.trans (hx8.trans hp9)) _))).mono ?_
    rintro _ w9 ⟨ra9, rfl, hO9, hx9⟩
    replace hx9 := (hx8.trans hp9).trans hx9
    clear hp9 hx8
    go_wp2_with fail
    refine calls_name (fun W10 hW10 => ?_)
    have hp10 : X w9 W10 := by rw [hW10]; (repeat (first | with_reducible exact X.refl _ | with_reducible assumption | with_reducible refine X.setCell ?_ (by first | (simp; done) | (simp; omega)) _ | with_reducible refine X.ext ?_ _ | with_reducible refine X.alloc ?_ _ | with_reducible refine X.drew ?_))
    clear hW10
    refine (eqCompiledS_c l l ra4 ra9 _ _ n n _ _ W10 ((hO4.at hok).mono (X.fr (hX46'.trans (hx9.trans hp10)) _)) ((hO9.at hok).mono (hp10.fr _))).mono ?_
    rintro _ w10 ⟨rfl, hx10⟩
    rw [decide_eq_true (rfl : l = l)]
    replace hx10 := (hx9.trans hp10).trans hx10
    clear hp10 hx9
    have hB10 := (hB4.x hX46').x hx10
    have hF10 := (hB6.x hx6).x hx10
    have t0 := keepB1 hB10
    have u0 := keepB1 hF10
    have hlT := hB10.lt
    have hlU := hF10.lt
    have hS10 := hF.mono (X.fr (hXw6.trans hx10) _)
    have hSf10 := (hO5.at okL).mono (X.fr (hX56.trans hx10) _)
    go_wp2
    go_region_held_law (fun w' => w'.cell? ⟨w.heap.size, 0, none⟩ = some (.slice ta tn tc) ∧ w'.cell? ⟨w5.heap.size, 0, none⟩ = some (.slice fa5 tn tn))
      (first | (refine ⟨keepB1 (hB10.x ?_), keepB1 (hF10.x ?_)⟩; all_goals (repeat (first | with_reducible exact X.refl _ | with_reducible assumption | with_reducible refine X.alloc ?_ _ | with_reducible refine X.drew ?_)); done) | fail)
      (first
        | (go_at_call 9; refine (toTree_c t ta tn tc 0 _ (hS10.mono (X.fr (by (repeat (first | with_reducible exact X.refl _ | with_reducible assumption | with_reducible refine X.setCell ?_ (by first | (simp; done) | (simp; omega)) _ | with_reducible refine X.ext ?_ _ | with_reducible refine X.alloc ?_ _ | with_reducible refine X.drew ?_))) _))).mono ?_; rintro _ wb ⟨fb, rfl, hOb, hxb⟩; have hXb : X w10 wb := X.trans (by (repeat (first | with_reducible exact X.refl _ | with_reducible assumption | with_reducible refine X.setCell ?_ (by first | (simp; done) | (simp; omega)) _ | with_reducible refine X.ext ?_ _ | with_reducible refine X.alloc ?_ _ | with_reducible refine X.drew ?_))) hxb)
        | (go_at_call 12; refine (eqTree_c t t fa5 fb tn tn tn tn _ _ _ (hSf10.mono (X.fr (by (repeat (first | with_reducible exact X.refl _ | with_reducible assumption | with_reducible refine X.setCell ?_ (by first | (simp; done) | (simp; omega)) _ | with_reducible refine X.ext ?_ _ | with_reducible refine X.alloc ?_ _ | with_reducible refine X.drew ?_))) _)) ((hOb.at okL).mono (X.fr (by (repeat (first | with_reducible exact X.refl _ | with_reducible assumption | with_reducible refine X.setCell ?_ (by first | (simp; done) | (simp; omega)) _ | with_reducible refine X.ext ?_ _ | with_reducible refine X.alloc ?_ _ | with_reducible refine X.drew ?_))) _))).mono ?_; rintro _ w11 ⟨rfl, hx11⟩; rw [decide_eq_true (rfl : t = t)]; have hX11 : X w10 w11 := X.trans hXb (X.trans (by (repeat (first | with_reducible exact X.refl _ | with_reducible assumption | with_reducible refine X.setCell ?_ (by first | (simp; done) | (simp; omega)) _ | with_reducible refine X.ext ?_ _ | with_reducible refine X.alloc ?_ _ | with_reducible refine X.drew ?_))) hx11)))
  all_goals
    clear t0 u0 hlT hlU hS10 hSf10 hXb hOb hB10 hF10
    go_wp2_with fail
    refine calls_name (fun W12 hW12 => ?_)
    have hp12 : X w11 W12 := by rw [hW12]; (repeat (first | with_reducible exact X.refl _ | with_reducible assumption | with_reducible refine X.setCell ?_ (by first | (simp; done) | (simp; omega)) _ | with_reducible refine X.ext ?_ _ | with_reducible refine X.alloc ?_ _ | with_reducible refine X.drew ?_))
    clear hW12
    have hX6' : X w6 W12 := (hx10.trans hX11).trans hp12
    clear hx10 hX11 hp12
    have fw := hXw6.trans hX6'
    refine (markCompiledS_e l ra4 n n W4.heap.size w4.heap.size 1 W12 (hO4.e.fr (X.fr (hX46'.trans hX6') _)) (by omega) (by omega)).mono ?_
    rintro _ v1 ⟨rfl, _, hK1⟩
    have q0 : Below w.heap.size w v1 := hK1.below (by omega) fw.below
    have q3 : Below w3.heap.size w3 v1 := hK1.below (by omega) (X.below (hX36.trans hX6'))
    have o5 := (hO5.e.fr (X.fr (hX56.trans hX6') _)).fr (hK1.fr.mono (by omega))
    have o6 := (hO6.e.fr (X.fr hX6' _)).fr (hK1.fr.mono (by omega))
    have B0 := ((hB4.x hX46').x hX6').keep hK1 (.inl (by omega))
    have B6 := ((hB6.x hx6).x hX6').keep hK1 (.inr (by omega))
    clear hK1 fw hX6' hX36 hX46' hX56 hXw6 hA6 hx6 hB6 hB4 hO4 hO6
    have u0 := keepB1 B6
    have hlU := B6.lt
    go_wp2_with fail
    refine (markTree_e t fa5 tn tn W5.heap.size w5.heap.size (1 + wtC l) v1 o5 (by omega) (by omega)).mono ?_
    rintro _ v2 ⟨rfl, _, hK2⟩
    replace q0 := hK2.below (by omega) q0
    replace q3 := hK2.below (by omega) q3
    replace o6 := o6.fr (hK2.fr.mono (by omega))
    replace B0 := B0.keep hK2 (.inl (by omega))
    clear u0 hlU B6 o5 hK2
    go_wp2_with fail
    refine (eqCompiledS_c V V r6 r3 _ _ rc6 rc3 _ _ v2 (o6.o.at hok2) (hA3.mono ((below_fr0 q3).mono (Nat.zero_le _)))).mono ?_
    rintro _ v3 ⟨rfl, hx3⟩
    rw [decide_eq_true (rfl : V = V)]
    replace q0 := below_x q0 hx3
    replace q3 := below_x q3 hx3
    replace B0 := B0.x hx3
    replace o6 := o6.fr (X.fr hx3 _)
    clear hx3
    go_wp2_with fail
    refine (markCompiledS_e V r6 _ rc6 W6.heap.size w6.heap.size 1 v3 o6 (by omega) (by omega)).mono ?_
    rintro _ v4 ⟨rfl, m6, hK4⟩
    skip
    replace q0 := hK4.below (by omega) q0
    replace q3 := hK4.below (by omega) q3
    replace B0 := B0.keep hK4 (.inl (by omega))
    clear hK4 o6
    go_wp2_with fail
    refine (heldCompiledS_c V r6 _ rc6 _ 1 v4 m6 (by omega) (by omega)).mono ?_
    rintro _ v5 ⟨rfl, hx5⟩
    replace q0 := below_x q0 hx5
    replace q3 := below_x q3 hx5
    replace B0 := B0.x hx5
    replace m6 := m6.fr (X.fr hx5 _)
    clear hx5
    have t0 := keepB1 B0
    have hlT := B0.lt
    have hD8 := hD.mono (below_fr0 q0)
    have hS8 := hF.mono (below_fr0 q0)
    have hG8 := hG.belowW q0
    go_wp2
    go_region_held_law (fun w' => w'.cell? ⟨w.heap.size, 0, none⟩ = some (.slice ta tn tc))
      (first | (refine keepB1 (B0.x ?_); (repeat (first | with_reducible exact X.refl _ | with_reducible assumption | with_reducible refine X.alloc ?_ _ | with_reducible refine X.drew ?_)); done) | fail)
      (first
        | (go_at_call 19; refine (toCompiledS_c l a n c 0 _ (hD8.mono (X.fr (by (repeat (first | with_reducible exact X.refl _ | with_reducible assumption | with_reducible refine X.setCell ?_ (by first | (simp; done) | (simp; omega)) _ | with_reducible refine X.ext ?_ _ | with_reducible refine X.alloc ?_ _ | with_reducible refine X.drew ?_))) _))).mono ?_; rintro _ wa ⟨sa9, rfl, hOa, hxa⟩; have hXa : X v5 wa := X.trans (by (repeat (first | with_reducible exact X.refl _ | with_reducible assumption | with_reducible refine X.setCell ?_ (by first | (simp; done) | (simp; omega)) _ | with_reducible refine X.ext ?_ _ | with_reducible refine X.alloc ?_ _ | with_reducible refine X.drew ?_))) hxa)
        | (go_at_call 9; refine (toTree_c t ta tn tc 0 _ (hS8.mono (X.fr (by (repeat (first | with_reducible exact X.refl _ | with_reducible assumption | with_reducible refine X.setCell ?_ (by first | (simp; done) | (simp; omega)) _ | with_reducible refine X.ext ?_ _ | with_reducible refine X.alloc ?_ _ | with_reducible refine X.drew ?_))) _))).mono ?_; rintro _ wb ⟨fa9, rfl, hOb, hxb⟩; have hXab : X wa wb := X.trans (by (repeat (first | with_reducible exact X.refl _ | with_reducible assumption | with_reducible refine X.setCell ?_ (by first | (simp; done) | (simp; omega)) _ | with_reducible refine X.ext ?_ _ | with_reducible refine X.alloc ?_ _ | with_reducible refine X.drew ?_))) hxb; have hXb : X v5 wb := X.trans hXa hXab)
        | (go_at_call 28; refine (PruneStore_i l sa9 n n _ t fa9 tn tn _ _ (((hOa.at hok).mono (hXab.fr _)).mono (X.fr (by (repeat (first | with_reducible exact X.refl _ | with_reducible assumption | with_reducible refine X.setCell ?_ (by first | (simp; done) | (simp; omega)) _ | with_reducible refine X.ext ?_ _ | with_reducible refine X.alloc ?_ _ | with_reducible refine X.drew ?_))) _)) ((hOb.at okL).mono (X.fr (by (repeat (first | with_reducible exact X.refl _ | with_reducible assumption | with_reducible refine X.setCell ?_ (by first | (simp; done) | (simp; omega)) _ | with_reducible refine X.ext ?_ _ | with_reducible refine X.alloc ?_ _ | with_reducible refine X.drew ?_))) _)) (Nat.le_refl _) (hG8.mono (X.trans hXb (by (repeat (first | with_reducible exact X.refl _ | with_reducible assumption | with_reducible refine X.setCell ?_ (by first | (simp; done) | (simp; omega)) _ | with_reducible refine X.ext ?_ _ | with_reducible refine X.alloc ?_ _ | with_reducible refine X.drew ?_)))))).mono ?_; rw [hV]; rintro _ v9 ⟨r9, rc9, rfl, hO9', hx9⟩; have hX9 : X v5 v9 := X.trans hXb (X.trans (by (repeat (first | with_reducible exact X.refl _ | with_reducible assumption | with_reducible refine X.setCell ?_ (by first | (simp; done) | (simp; omega)) _ | with_reducible refine X.ext ?_ _ | with_reducible refine X.alloc ?_ _ | with_reducible refine X.drew ?_))) hx9)))
  all_goals
    have hA9 := hO9'.at hok2
    clear hXa hXab hXb hOa hOb t0 hlT hD8 hS8 hG8 hx9
    replace q0 := below_x q0 hX9
    replace q3 := below_x q3 hX9
    replace B0 := B0.x hX9
    replace m6 := m6.fr (X.fr hX9 _)
    clear hX9
    go_wp2_with fail
    refine (eqCompiledS_c V V r9 r3 _ _ rc9 rc3 _ _ v9 hA9 (hA3.mono ((below_fr0 q3).mono (Nat.zero_le _)))).mono ?_
    rintro _ v10 ⟨rfl, hx10⟩
    rw [decide_eq_true (rfl : V = V)]
    replace q0 := below_x q0 hx10
    replace q3 := below_x q3 hx10
    replace B0 := B0.x hx10
    replace m6 := m6.fr (X.fr hx10 _)
    clear hx10
    go_wp2_with fail
    refine (heldCompiledS_c V r6 _ rc6 _ 1 v10 m6 (by omega) (by omega)).mono ?_
    rintro _ v11 ⟨rfl, hx11⟩
    go_wp2
    go_ret
    exact ⟨rfl, below_x q0 hx11⟩

end Go.Proofs.YtjlooplpjliaiaaDoor
