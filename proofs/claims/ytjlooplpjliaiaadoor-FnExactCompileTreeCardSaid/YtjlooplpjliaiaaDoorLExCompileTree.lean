/- The exact law of CompileTree: the walk. No condition but what a reading of the arguments says. -/
import Derived.Test.YtjlooplpjliaiaaDoorCompTree
import Derived.Test.YtjlooplpjliaiaaDoorCoM
import Derived.Test.YtjlooplpjliaiaaDoorExL
namespace Go.Proofs.YtjlooplpjliaiaaDoor
open Go.RowKit

theorem wtC_comp : ∀ (l : List Fi) (mode : Int), wtC (l.map (fun f => compB f mode)) = wtF l + 2 * l.length
  | [], _ => by simp [wtC, wtF]
  | f :: l, mode => by
    have := wtC_comp l mode
    simp only [List.map_cons, wtC, wtF, List.length_cons, compB_len, this]
    omega
theorem compL_cases (l : List Fi) (mode : Int) : compL l mode = l.map (fun f => compB f mode) ∨ compL l mode = [] := by
  unfold compL
  split
  · exact .inl rfl
  · exact .inr rfl
theorem compL_okC {l : List Fi} (h : OkL l) (mode : Int) : OkC (compL l mode) := by
  rcases compL_cases l mode with e | e <;> rw [e]
  · refine ⟨by rw [List.length_map]; exact h.1, fun c hc => ?_⟩
    obtain ⟨f, hf, rfl⟩ := List.mem_map.1 hc
    obtain ⟨h1, h2, h3⟩ := h.2 f hf
    refine ⟨?_, h2, h3⟩
    show (moduleB f).length ≤ 4194304
    have := childL_length f.pkg f.name h1.1 h1.2
    have := h1.1
    unfold moduleB
    split <;> omega
  · exact ⟨by simp, fun c hc => by cases hc⟩
theorem compL_len (l : List Fi) (mode : Int) : (compL l mode).length ≤ l.length := by
  rcases compL_cases l mode with e | e <;> rw [e] <;> simp
theorem compL_wt (l : List Fi) (mode : Int) : wtC (compL l mode) ≤ wtF l + 2 * l.length := by
  rcases compL_cases l mode with e | e <;> rw [e]
  · rw [wtC_comp]; exact Nat.le_refl _
  · simp [wtC]

set_option maxRecDepth 100000 in
set_option maxHeartbeats 4000000 in
theorem FnExactCompileTree_c (l : List Fi) (a : Option Addr) (n c : Nat) (i : Int) (w : World) (hR : FilesR w a n l) (hG : Gm w) :
    Calls Tryd.prog 3 #[.agg #[.slice a n c], .int .i64 i] w fun e w' => e = .returned (.bool true) ∧ Below w.heap.size w w' := by
  by_cases h3 : szFis l 1048576 < 0
  · go_enter Tryd.func3, Tryd.ntmps3
    go_wp2_with (go_at_call 7; refine (szTree_c l a n c _ _ (hR.mono (by (repeat (first | with_reducible exact X.refl _ | with_reducible assumption | with_reducible refine X.setCell ?_ (by first | (simp; done) | (simp; omega)) _ | with_reducible refine X.ext ?_ _ | with_reducible refine X.alloc ?_ _ | with_reducible refine X.drew ?_)))) (by omega) (by omega)).mono ?_; rintro _ w1 ⟨rfl, hx1⟩)
    go_ret
    exact ⟨rfl, X.below (X.trans (by (repeat (first | with_reducible exact X.refl _ | with_reducible assumption | with_reducible refine X.setCell ?_ (by first | (simp; done) | (simp; omega)) _ | with_reducible refine X.ext ?_ _ | with_reducible refine X.alloc ?_ _ | with_reducible refine X.drew ?_))) hx1)⟩
  have hF := hR.at (by omega)
  have hwt := szFis_wt (l := l) (by omega)
  have hnn := hF.len.2
  have hll := hF.len.1
  have hrs := compL_len l i
  have hrw := compL_wt l i
  rw [← hll] at hrs hrw
  clear hll
  generalize hV : (compL l i) = V at *
  go_enter Tryd.func3, Tryd.ntmps3
  go_wp2_with fail
  refine calls_name (fun W0 hW0 => ?_)
  have hB0 : Bx W0 w.heap.size #[.slice a n c] := by rw [hW0]; exact Bx.new _ _ _
  have hX0 : X w W0 := by rw [hW0]; (repeat (first | with_reducible exact X.refl _ | with_reducible assumption | with_reducible refine X.setCell ?_ (by first | (simp; done) | (simp; omega)) _ | with_reducible refine X.ext ?_ _ | with_reducible refine X.alloc ?_ _ | with_reducible refine X.drew ?_))
  have hs0 : w.heap.size < W0.heap.size := hB0.lt
  clear hW0
  refine (szTree_c l a n c _ W0 (hR.mono hX0) (by omega) (by omega)).mono ?_
  rintro _ w1 ⟨rfl, hx1⟩
  clear hR
  have okL := hF.okL
  have okC : OkC V := by rw [← hV]; exact compL_okC okL i
  have b01 := (X.cell (w := W0) (by (repeat (first | with_reducible exact X.refl _ | with_reducible assumption | (refine X.trans ?_ (by with_reducible assumption)))) : X W0 w1) (p := ⟨w.heap.size, 0, none⟩) hB0.lt).trans (hB0.out.2.1 0)
  go_wp2_with fail
  refine calls_name (fun W2 hW2 => ?_)
  have hp2 : X w1 W2 := by rw [hW2]; (repeat (first | with_reducible exact X.refl _ | with_reducible assumption | with_reducible refine X.setCell ?_ (by first | (simp; done) | (simp; omega)) _ | with_reducible refine X.ext ?_ _ | with_reducible refine X.alloc ?_ _ | with_reducible refine X.drew ?_))
  clear hW2
  refine (toTree_c l a n c 0 W2 (hF.mono (X.fr (by (repeat (first | with_reducible exact X.refl _ | with_reducible assumption | (refine X.trans ?_ (by with_reducible assumption))))) _))).mono ?_
  rintro _ w2 ⟨ra2, rfl, hO2, hx2⟩
  have hA2 := hO2.at okL
  go_wp2_with fail
  refine calls_name (fun W3 hW3 => ?_)
  have hp3 : X w2 W3 := by rw [hW3]; (repeat (first | with_reducible exact X.refl _ | with_reducible assumption | with_reducible refine X.setCell ?_ (by first | (simp; done) | (simp; omega)) _ | with_reducible refine X.ext ?_ _ | with_reducible refine X.alloc ?_ _ | with_reducible refine X.drew ?_))
  clear hW3
  refine (CompileTree_s l ra2 n n _ i W3 (hA2.mono (X.fr (by (repeat (first | with_reducible exact X.refl _ | with_reducible assumption | (refine X.trans ?_ (by with_reducible assumption))))) _))).mono ?_
  rw [hV]
  rintro _ w3 ⟨ra3, rc3, rfl, hO3, hx3⟩
  have hA3 := hO3.at okC
  have b03 := (X.cell (w := W0) (by (repeat (first | with_reducible exact X.refl _ | with_reducible assumption | (refine X.trans ?_ (by with_reducible assumption)))) : X W0 w3) (p := ⟨w.heap.size, 0, none⟩) hB0.lt).trans (hB0.out.2.1 0)
  go_wp2_with fail
  refine calls_name (fun W4 hW4 => ?_)
  have hp4 : X w3 W4 := by rw [hW4]; (repeat (first | with_reducible exact X.refl _ | with_reducible assumption | with_reducible refine X.setCell ?_ (by first | (simp; done) | (simp; omega)) _ | with_reducible refine X.ext ?_ _ | with_reducible refine X.alloc ?_ _ | with_reducible refine X.drew ?_))
  clear hW4
  have hs4 : w3.heap.size ≤ W4.heap.size := hp4.size
  refine (toTree_c l a n c 0 W4 (hF.mono (X.fr (by (repeat (first | with_reducible exact X.refl _ | with_reducible assumption | (refine X.trans ?_ (by with_reducible assumption))))) _))).mono ?_
  rintro _ w4 ⟨ra4, rfl, hO4, hx4⟩
  have hA4 := hO4.at okL
  have b0_4 := (X.cell (w := W0) (by (repeat (first | with_reducible exact X.refl _ | with_reducible assumption | (refine X.trans ?_ (by with_reducible assumption)))) : X W0 w4) (p := ⟨w.heap.size, 0, none⟩) hB0.lt).trans (hB0.out.2.1 0)
  have l0_4 : w.heap.size < w4.heap.size := Nat.lt_of_lt_of_le hB0.lt (X.size (by (repeat (first | with_reducible exact X.refl _ | with_reducible assumption | (refine X.trans ?_ (by with_reducible assumption))))))
  go_wp2_with fail
  refine calls_name (fun W5 hW5 => ?_)
  have hp5 : X w4 W5 := by rw [hW5]; (repeat (first | with_reducible exact X.refl _ | with_reducible assumption | with_reducible refine X.setCell ?_ (by first | (simp; done) | (simp; omega)) _ | with_reducible refine X.ext ?_ _ | with_reducible refine X.alloc ?_ _ | with_reducible refine X.drew ?_))
  have hB5 : Bx W5 w4.heap.size #[.slice ra4 n n] := by rw [hW5]; first | exact Bx.new _ _ _ | exact Bx.set (Bx.new _ _ _) 0 _
  clear hW5
  have hs5 : w4.heap.size < W5.heap.size := hB5.lt
  refine (CompileTree_c l ra4 n n _ i W5 (hA4.mono (X.fr (by (repeat (first | with_reducible exact X.refl _ | with_reducible assumption | (refine X.trans ?_ (by with_reducible assumption))))) _)) (Nat.le_refl _) (hG.mono (by (repeat (first | with_reducible exact X.refl _ | with_reducible assumption | (refine X.trans ?_ (by with_reducible assumption))))))).mono ?_
  rw [hV]
  rintro _ w5 ⟨ra5, rc5, rfl, hO5, hx5⟩
  have hA5 := hO5.at okC
  go_wp2_with fail
  refine calls_name (fun W6 hW6 => ?_)
  have hp6 : X w5 W6 := by rw [hW6]; (repeat (first | with_reducible exact X.refl _ | with_reducible assumption | with_reducible refine X.setCell ?_ (by first | (simp; done) | (simp; omega)) _ | with_reducible refine X.ext ?_ _ | with_reducible refine X.alloc ?_ _ | with_reducible refine X.drew ?_))
  clear hW6
  have hs6 : w5.heap.size ≤ W6.heap.size := hp6.size
  refine (eqCompiledS_c V V ra5 ra3 _ _ rc5 rc3 _ _ W6 (hA5.mono (X.fr (by (repeat (first | with_reducible exact X.refl _ | with_reducible assumption | (refine X.trans ?_ (by with_reducible assumption))))) _)) (hA3.mono (X.fr (by (repeat (first | with_reducible exact X.refl _ | with_reducible assumption | (refine X.trans ?_ (by with_reducible assumption))))) _))).mono ?_
  rintro _ w6 ⟨rfl, hx6⟩
  rw [decide_eq_true (rfl : V = V)]
  have b0_6 := (X.cell (w := W0) (by (repeat (first | with_reducible exact X.refl _ | with_reducible assumption | (refine X.trans ?_ (by with_reducible assumption)))) : X W0 w6) (p := ⟨w.heap.size, 0, none⟩) hB0.lt).trans (hB0.out.2.1 0)
  have l0_6 : w.heap.size < w6.heap.size := Nat.lt_of_lt_of_le hB0.lt (X.size (by (repeat (first | with_reducible exact X.refl _ | with_reducible assumption | (refine X.trans ?_ (by with_reducible assumption))))))
  have b5_6 := (X.cell (w := W5) (by (repeat (first | with_reducible exact X.refl _ | with_reducible assumption | (refine X.trans ?_ (by with_reducible assumption)))) : X W5 w6) (p := ⟨w4.heap.size, 0, none⟩) hB5.lt).trans (hB5.out.2.1 0)
  have l5_6 : w4.heap.size < w6.heap.size := Nat.lt_of_lt_of_le hB5.lt (X.size (by (repeat (first | with_reducible exact X.refl _ | with_reducible assumption | (refine X.trans ?_ (by with_reducible assumption))))))
  go_wp2_with fail
  have hAe := hA4.mono (X.fr (by (repeat (first | with_reducible exact X.refl _ | with_reducible assumption | (refine X.trans ?_ (by with_reducible assumption)))) : X w4 w6) _)
  have hXe : X w w6 := by (repeat (first | with_reducible exact X.refl _ | with_reducible assumption | (refine X.trans ?_ (by with_reducible assumption))))
  go_region_held3 (fun w' => w'.cell? ⟨w.heap.size, 0, none⟩ = some (.slice a n c) ∧ w'.cell? ⟨w4.heap.size, 0, none⟩ = some (.slice ra4 n n))
    (first | exact ⟨(World.cell?_ext _ _ _ _ l0_6).trans b0_6, (World.cell?_ext _ _ _ _ l5_6).trans b5_6⟩ | exact ⟨b0_6, b5_6⟩ | go_keep)
    ((first
      | (go_at_call 9; refine (toTree_c l a n c 0 _ (hF.mono (X.fr (hXe.trans (by (repeat (first | exact X.refl _ | assumption | refine X.ext ?_ _ | refine X.alloc ?_ _ | refine X.drew ?_)))) _))).mono ?_; rintro _ wt ⟨rat, rfl, hOt, hxt⟩; have hAt := hOt.at okL; replace hxt := X.trans (a := w6) (by (repeat (first | exact X.refl _ | assumption | refine X.ext ?_ _ | refine X.alloc ?_ _ | refine X.drew ?_))) hxt; obtain ⟨zt, rfl⟩ := hxt)
      | (go_at_call 12; refine (eqTree_c l l ra4 rat n n n n _ _ _ (hAe.mono (X.fr (by (repeat (first | exact X.refl _ | assumption | refine X.ext ?_ _ | refine X.alloc ?_ _ | refine X.drew ?_))) _)) (hAt.mono (X.fr (by (repeat (first | exact X.refl _ | assumption | refine X.ext ?_ _ | refine X.alloc ?_ _ | refine X.drew ?_))) _))).mono ?_; rintro _ wq ⟨rfl, hxq⟩; rw [decide_eq_true (rfl : l = l)]; replace hxq := X.trans (a := w6) (by (repeat (first | exact X.refl _ | assumption | refine X.ext ?_ _ | refine X.alloc ?_ _ | refine X.drew ?_))) hxq; obtain ⟨zq, rfl⟩ := hxq)))
  have b511 := (World.cell?_ext w6 zq _ _ l5_6).trans b5_6
  go_wp2_with fail
  refine calls_name (fun W7 hW7 => ?_)
  have hp7 : X w6 W7 := by rw [hW7]; (repeat (first | exact X.refl _ | assumption | refine X.ext ?_ _ | refine X.alloc ?_ _ | refine X.drew ?_))
  clear hW7
  -- the worlds up to here
  obtain ⟨f0, f3, f4, f4', f5, f6⟩ : X W0 W7 ∧ X w3 W7 ∧ X w4 W7 ∧ X W4 W7 ∧ X w5 W7 ∧ X W6 W7 := by
    clear hXe
    exact ⟨by (repeat (first | with_reducible exact X.refl _ | with_reducible assumption | (refine X.trans ?_ (by with_reducible assumption)))), by (repeat (first | with_reducible exact X.refl _ | with_reducible assumption | (refine X.trans ?_ (by with_reducible assumption)))), by (repeat (first | with_reducible exact X.refl _ | with_reducible assumption | (refine X.trans ?_ (by with_reducible assumption)))), by (repeat (first | with_reducible exact X.refl _ | with_reducible assumption | (refine X.trans ?_ (by with_reducible assumption)))), by (repeat (first | with_reducible exact X.refl _ | with_reducible assumption | (refine X.trans ?_ (by with_reducible assumption)))), by (repeat (first | with_reducible exact X.refl _ | with_reducible assumption | (refine X.trans ?_ (by with_reducible assumption))))⟩
  obtain ⟨z1, z2, z3⟩ : W0.heap.size ≤ w3.heap.size ∧ W4.heap.size ≤ w4.heap.size ∧ W5.heap.size ≤ w5.heap.size := by
    clear hXe f0 f3 f4 f4' f5 f6
    exact ⟨X.size (by (repeat (first | with_reducible exact X.refl _ | with_reducible assumption | (refine X.trans ?_ (by with_reducible assumption))))), X.size (by (repeat (first | with_reducible exact X.refl _ | with_reducible assumption | (refine X.trans ?_ (by with_reducible assumption))))), X.size (by (repeat (first | with_reducible exact X.refl _ | with_reducible assumption | (refine X.trans ?_ (by with_reducible assumption)))))⟩
  have fw : X w W7 := hXe.trans hp7
  refine (markTree_c l ra4 n n W4.heap.size 1 w4 W7 hO4 f4 hnn (by omega)).mono ?_
  rintro _ v1 ⟨rfl, _, hK1⟩
  have q0 : Below w.heap.size w v1 := hK1.below (by omega) fw.below
  have q3 : Below w3.heap.size w3 v1 := hK1.below (by omega) f3.below
  have B0 := (hB0.x f0).keep hK1 (.inl (by omega))
  have o5 := (hO5.e.fr (f5.fr _)).fr (hK1.fr.mono (by omega))
  clear fw f0 f3 f4 f4' f5 f6 hXe hp7
  go_wp2_with fail
  refine (eqCompiledS_c V V ra5 ra3 _ _ rc5 rc3 _ _ v1 (o5.o.at okC) (hA3.mono ((below_fr0 q3).mono (Nat.zero_le _)))).mono ?_
  rintro _ v2 ⟨rfl, hx2⟩
  rw [decide_eq_true (rfl : V = V)]
  replace q0 := below_x q0 hx2
  replace q3 := below_x q3 hx2
  replace B0 := B0.x hx2
  replace o5 := o5.fr (X.fr hx2 _)
  clear hx2
  go_wp2_with fail
  refine (markCompiledS_e V ra5 _ rc5 W5.heap.size w5.heap.size 1 v2 o5 (by omega) (by omega)).mono ?_
  rintro _ v3 ⟨rfl, m5, hK3⟩
  replace q0 := hK3.below (by omega) q0
  replace q3 := hK3.below (by omega) q3
  replace B0 := B0.keep hK3 (.inl (by omega))
  clear o5 hK3
  go_wp2_with fail
  refine (heldCompiledS_c V ra5 _ rc5 _ 1 v3 m5 (by omega) (by omega)).mono ?_
  rintro _ v4 ⟨rfl, hx4⟩
  replace q0 := below_x q0 hx4
  replace q3 := below_x q3 hx4
  replace B0 := B0.x hx4
  replace m5 := m5.fr (X.fr hx4 _)
  clear hx4
  obtain ⟨ltt, cct, _⟩ := Bx.out B0
  have et0 := cct 0
  clear cct
  go_wp2_with fail
  refine (toTree_c l a n c 0 v4 (hF.mono (below_fr0 q0))).mono ?_
  rintro _ v5 ⟨ra8, rfl, hO8, hx5⟩
  clear et0 ltt
  replace q0 := below_x q0 hx5
  replace q3 := below_x q3 hx5
  replace B0 := B0.x hx5
  replace m5 := m5.fr (X.fr hx5 _)
  clear hx5
  go_wp2_with fail
  refine (CompileTree_c l ra8 n n _ i v5 (hO8.at okL) (Nat.le_refl _) (hG.belowW q0)).mono ?_
  rw [hV]
  rintro _ v6 ⟨ra9, rc9, rfl, hO9, hx6⟩
  replace q0 := below_x q0 hx6
  replace q3 := below_x q3 hx6
  replace B0 := B0.x hx6
  replace m5 := m5.fr (X.fr hx6 _)
  clear hx6
  go_wp2_with fail
  refine (eqCompiledS_c V V ra9 ra3 _ _ rc9 rc3 _ _ v6 (hO9.at okC) (hA3.mono ((below_fr0 q3).mono (Nat.zero_le _)))).mono ?_
  rintro _ v7 ⟨rfl, hx7⟩
  rw [decide_eq_true (rfl : V = V)]
  replace q0 := below_x q0 hx7
  replace q3 := below_x q3 hx7
  replace B0 := B0.x hx7
  replace m5 := m5.fr (X.fr hx7 _)
  clear hx7
  go_wp2_with fail
  refine (heldCompiledS_c V ra5 _ rc5 _ 1 v7 m5 (by omega) (by omega)).mono ?_
  rintro _ v8 ⟨rfl, hx8⟩
  go_wp2
  go_ret
  exact ⟨rfl, below_x q0 hx8⟩

end Go.Proofs.YtjlooplpjliaiaaDoor
