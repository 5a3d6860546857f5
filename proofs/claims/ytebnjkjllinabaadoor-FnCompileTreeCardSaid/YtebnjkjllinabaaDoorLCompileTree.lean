/- The walk of the law FnCompileTree. -/
import Derived.Test.YtebnjkjllinabaaDoorGg
import Derived.Test.YtebnjkjllinabaaDoorGh
namespace Go.Proofs.YtebnjkjllinabaaDoor
open Go.RowKit

theorem compL_okS {l : List Fi} (h : OkL l) (mode : Int) : OkC (compL l mode) := by
  unfold compL
  split
  · refine ⟨by rw [List.length_map]; exact h.1, fun c hc => ?_⟩
    obtain ⟨f, hf, rfl⟩ := List.mem_map.1 hc
    obtain ⟨h1, h2, h3⟩ := h.2 f hf
    exact compB_okC mode h1 h2 h3
  · exact okC_nil

set_option maxRecDepth 100000 in
set_option maxHeartbeats 2000000 in
theorem FnCompileTree_c (ca : Option Addr) (cn cc : Nat) (w : World) (hC : CodeAt w ca cn cc) (hG : Gm w) :
    Calls Tryd.prog 3 #[.slice ca cn cc] w fun e w' => e = .returned (.bool true) ∧ X w w' := by
  by_cases hbig : 1048576 < cn
  · go_enter Tryd.func3, Tryd.ntmps3
    go_wp2
    go_ret
    exact ⟨by simp, by (repeat (first | exact X.refl _ | assumption | refine X.ext ?_ _ | refine X.alloc ?_ _ | refine X.drew ?_))⟩
  · go_enter Tryd.func3, Tryd.ntmps3
    go_wp2_with fail
    refine (DrawCompileTree_c ca cn cc _ hC (by omega)).mono ?_
    rintro _ W1 ⟨l, a, n, c, mode, rfl, hF, hnc, hn11, hx1⟩
    go_wp2_with fail
    refine calls_name (fun W2 hW2 => ?_)
    have hB2 : Bx W2 W1.heap.size #[.slice a n c] := by rw [hW2]; first | exact Bx.new _ _ _ | exact Bx.set (Bx.new _ _ _) 0 _
    have hx2 : X W1 W2 := by rw [hW2]; (repeat (first | with_reducible exact X.refl _ | with_reducible assumption | with_reducible refine X.setCell ?_ (by first | (simp; done) | (simp; omega)) _ | with_reducible refine X.ext ?_ _ | with_reducible refine X.alloc ?_ _ | with_reducible refine X.drew ?_))
    clear hW2
    have hxw := hx1.trans hx2
    replace hF := hF.mono (hx2.fr _)
    replace hG := hG.mono hxw
    clear hx1 hx2
    have hok := compL_okS hF.okL mode
    have hlen := hF.len.1
    have hVl : (compL l mode).length ≤ n := by
      unfold compL
      split
      · rw [List.length_map]; omega
      · simp
    have Hgood := Lib.hid (show 0 < (compL l mode).length → (compL l mode).length = n ∧ storeB (compL l mode) = true ∧ wrongL (compL l mode) l = [] ∧ pruneL (compL l mode) l = compL l mode from fun h0 => by
      unfold compL at h0 ⊢
      split at h0
      · rename_i h
        simp only [Bool.and_eq_true] at h
        rw [if_pos (by simp [h.1, h.2])]
        exact ⟨by rw [List.length_map]; exact hlen.symm, comp_law h.1 h.2⟩
      · simp at h0)
    clear hlen
    obtain ⟨V, hV⟩ : ∃ V, compL l mode = V := ⟨_, rfl⟩
    rw [hV] at hok hVl Hgood
    obtain ⟨N, hN⟩ : ∃ N, V.length = N := ⟨_, rfl⟩
    rw [hN] at hVl Hgood
    refine (CompileTree_c l a n c _ mode W2 hF hnc hG).mono ?_
    rw [hV, hN]
    rintro _ W3 ⟨ra, rc, rfl, hO, hx3⟩
    have hA := hO.at hok
    have hB3 := hB2.x hx3
    replace hxw := hxw.trans hx3
    replace hF := hF.mono (hx3.fr _)
    replace hG := hG.mono hx3
    clear hO hx3 hB2
    have HN := Lib.hid hN
    clear hN
    obtain ⟨lt3, ct3, _⟩ := hB3.out
    have t0 := ct3 0
    clear ct3
    go_wp2_with fail
    refine (CompileTree_s l a n c _ mode W3 hF).mono ?_
    rw [hV, HN.out]
    rintro _ W4 ⟨ra4, rc4, rfl, hO4, hx4⟩
    have hA4 := hO4.at hok
    go_wp2_with fail
    refine (equalStore_c V V ra ra4 _ _ rc rc4 _ _ W4 (hA.mono (hx4.fr _)) hA4).mono ?_
    rintro _ W5 ⟨rfl, hx5⟩
    rw [decide_eq_true (rfl : V = V)]
    have hx35 := hx4.trans hx5
    have hB5 := hB3.x hx35
    have hxw5 := hxw.trans hx35
    have hF5 := hF.mono (hx35.fr _)
    have hG5 := hG.mono hx35
    have hA5 := hA.mono (hx35.fr _)
    clear hx4 hx5 hx35 hA4 hO4 hB3 t0 lt3 hxw hF hG hA
    obtain ⟨lt5, ct5, _⟩ := hB5.out
    have t0 := ct5 0
    clear ct5
    rcases Nat.eq_zero_or_pos N with rfl | h0
    · go_wp2_with fail
      refine (CompileTree_s l a n c _ mode W5 hF5).mono ?_
      rw [hV]
      rw [HN.out]
      rintro _ W6 ⟨ra6, rc6, rfl, hO6, hx6⟩
      have hA6 := hO6.at hok
      go_wp2_with fail
      refine (equalStore_c V V ra ra6 _ _ rc rc6 _ _ W6 (hA5.mono (hx6.fr _)) hA6).mono ?_
      rintro _ W7 ⟨rfl, hx7⟩
      rw [decide_eq_true (rfl : V = V)]
      go_wp2
      go_ret
      exact ⟨rfl, (hxw5.trans hx6).trans hx7⟩
    · obtain ⟨hNn, g2, g3, g4⟩ := Hgood.out (by omega)
      obtain rfl : n = N := hNn.symm
      clear hNn
      go_wp2_with fail
      refine (ValidStore_c V ra _ rc _ W5 hA5 hG5).mono ?_
      rintro _ W6 ⟨rfl, hx6⟩
      rw [g2]
      have t6 := (hx6.cell (p := ⟨W1.heap.size, 0, none⟩) lt5).trans t0
      have lt6 : W1.heap.size < W6.heap.size := Nat.lt_of_lt_of_le lt5 hx6.size
      go_wp2_with fail
      refine (WrongFiles_i V ra _ rc _ l a n c _ W6 (hA5.mono (hx6.fr _)) (hF5.mono (hx6.fr _)) hnc (hG5.mono hx6)).mono ?_
      rw [g3]
      simp only [List.length_nil]
      have G4 := Lib.hid g4
      clear g3 g4
      rintro _ W7 ⟨ra7, rc7, rfl, _, hx7⟩
      have hx57 := hx6.trans hx7
      clear t6 lt6
      have t7 := (hx57.cell (p := ⟨W1.heap.size, 0, none⟩) lt5).trans t0
      have lt7 : W1.heap.size < W7.heap.size := Nat.lt_of_lt_of_le lt5 hx57.size
      go_wp2_with fail
      refine (PruneStore_i V ra _ rc _ l a n c _ W7 (hA5.mono (hx57.fr _)) (hF5.mono (hx57.fr _)) hnc (hG5.mono hx57)).mono ?_
      rw [G4.out, HN.out]
      rintro _ W8 ⟨ra8, rc8, rfl, hO8, hx8⟩
      have hx58 := hx57.trans hx8
      go_wp2_with fail
      refine (equalStore_c V V ra8 ra _ _ rc8 rc _ _ W8 (hO8.at hok) (hA5.mono (hx58.fr _))).mono ?_
      rintro _ W9 ⟨rfl, hx9⟩
      rw [decide_eq_true (rfl : V = V)]
      go_wp2
      go_ret
      exact ⟨rfl, (hxw5.trans hx58).trans hx9⟩

end Go.Proofs.YtebnjkjllinabaaDoor
