/- A tree, a path and an index, as they are generated. No condition. -/
import Derived.Test.YtjklpfgjimbabaaDoorDrawFind
import Derived.Deep.RegionHeld3
import Derived.IntWalk
namespace Go.Proofs.YtjklpfgjimbabaaDoor
open Go.RowKit

set_option maxRecDepth 100000 in
set_option maxHeartbeats 1000000 in
theorem DrawWhoHides_c (ca : Option Addr) (cn cc : Nat) (w : World) (hC : CodeAt w ca cn cc) (hn : cn ≤ 1048576) :
    Calls Tryd.prog 31 #[.slice ca cn cc] w fun e w' => ∃ (l : List Fi) (a : Option Addr) (n c : Nat) (path : List Int) (pa : Option Addr) (pn pc : Nat) (i : Int),
      e = .returned (.tuple #[.agg #[.slice a n c], .slice pa pn pc, .int .i64 i]) ∧ FilesAt w' w.heap.size a n l ∧ n ≤ c ∧ n ≤ 11 ∧ (∀ f ∈ l, SmallF f) ∧ IntsAt w' w.heap.size pa pn path ∧ pn ≤ pc ∧ pn ≤ 3 ∧ X w w' := by
  have hBr := Bx.new w #[.slice none 0 0] 25
  go_enter Tryd.func31, Tryd.ntmps31
  go_wp2_with fail
  refine (newReader_c ca cn cc _ hC.1 (fun h => by
    obtain ⟨b, off, h1, h2, h3⟩ := hC.2 h
    exact ⟨b, off, h1, by simp; omega, fun i hi => by
      obtain ⟨v, hv, hc⟩ := h3 i hi
      exact ⟨v, hv, by rw [World.cell?_alloc_lt _ _ _ h2]; exact hc⟩⟩) hn).mono ?_
  rintro _ w1 ⟨rfl, hr, hx⟩
  rw [World.size_alloc] at hr
  replace hBr := hBr.x hx
  have hxx : X w w1 := X.trans (by (repeat (first | exact X.refl _ | assumption | refine X.ext ?_ _ | refine X.alloc ?_ _ | refine X.drew ?_))) hx
  have hlt := hr.lt
  have hne : w.heap.size ≠ w.heap.size + 1 := by omega
  simp only [World.size_alloc]
  have hy : Y (w.heap.size + 1) w w1 := Y.of_x hxx
  clear hx hxx
  go_wp2_with fail
  refine (anyTree_c _ _ _ hr (by omega)).mono ?_
  rintro _ w2 ⟨l, a, n, c, rfl, hF, hnc, hn11, hsm, hr', hy'⟩
  replace hBr := hBr.y hy' hne
  replace hF := hF.less (B' := w.heap.size + 2) (by omega)
  replace hy := hy.trans ((Y.of_x (by (repeat (first | exact X.refl _ | assumption | refine X.ext ?_ _ | refine X.alloc ?_ _ | refine X.drew ?_)))).trans hy'); replace hr := hr'; clear hr' hy'
  have hlt2 := hr.lt
  have hNs := hBr.lt
  have hBt := Bx.new w2 #[.slice a n c] 25
  have hneT : w2.heap.size ≠ w.heap.size + 1 := by omega
  have hTN : w.heap.size ≠ w2.heap.size := by omega
  have q1 : IntKind.i64.wrap ((n : Int) + 1) = (n : Int) + 1 := IntWalk.i64_in _ (by omega)
  go_wp2_with fail
  refine wp_name (fun W hW => ?_)
  rw [← hW] at hBt
  have hxW : X w2 W := hW ▸ (by (repeat (first | exact X.refl _ | assumption | refine X.ext ?_ _ | refine X.alloc ?_ _ | refine X.drew ?_)))
  clear hW
  replace hBr := hBr.x hxW
  replace hF := hF.mono (hxW.fr _)
  replace hr := hr.x hxW
  replace hy := hy.trans (Y.of_x hxW)
  obtain ⟨hbN, hcN, hfN⟩ := hBr.out
  have t3 := hBt.out.2.1 0
  have hWs := hBt.lt
  go_region_held3 (fun w' => w'.cell? ⟨w2.heap.size, 0, none⟩ = some (.slice a n c)) (first | exact t3 | exact (World.cell?_setCell_far _ _ _ _ hTN).trans t3 | exact (World.cell?_alloc_lt _ _ _ hBt.lt).trans t3 | go_keep)
    ((first
      | (go_at_call 45; refine (anyPath_c _ _ _ (hr.x (by (repeat (first | exact X.refl _ | assumption | refine X.ext ?_ _ | refine X.alloc ?_ _ | refine X.drew ?_)))) (by omega)).mono ?_; rintro _ w3 ⟨path, pa, pn, pc, rfl, hI, hpc, hp3, hr', hy'⟩; replace hI := hI.less (B' := w.heap.size + 2) (by first | omega | (simp; omega)); replace hBr := hBr.y ((Y.of_x (by (repeat (first | exact X.refl _ | assumption | refine X.ext ?_ _ | refine X.alloc ?_ _ | refine X.drew ?_)))).trans hy') hne; replace hBt := hBt.y ((Y.of_x (by (repeat (first | exact X.refl _ | assumption | refine X.ext ?_ _ | refine X.alloc ?_ _ | refine X.drew ?_)))).trans hy') hneT; replace hF := hF.mono ((X.fr (by (repeat (first | exact X.refl _ | assumption | refine X.ext ?_ _ | refine X.alloc ?_ _ | refine X.drew ?_))) _).trans (hy'.fr.mono (by omega))); replace hy := hy.trans ((Y.of_x (by (repeat (first | exact X.refl _ | assumption | refine X.ext ?_ _ | refine X.alloc ?_ _ | refine X.drew ?_)))).trans hy'); replace hr := hr'; replace t3 := hBt.out.2.1 0)
      | (go_at_call 72; refine (pick_c _ _ ((n : Int) + 1) _ (hr.x (by (repeat (first | exact X.refl _ | assumption | refine X.ext ?_ _ | refine X.alloc ?_ _ | refine X.drew ?_)))) (by omega) (by omega)).mono ?_; rintro _ w4 ⟨k, rfl, hk, hr', hy'⟩; replace hI := hI.mono ((X.fr (by (repeat (first | exact X.refl _ | assumption | refine X.ext ?_ _ | refine X.alloc ?_ _ | refine X.drew ?_))) _).trans (hy'.fr.mono (by omega))); replace hBr := hBr.y ((Y.of_x (by (repeat (first | exact X.refl _ | assumption | refine X.ext ?_ _ | refine X.alloc ?_ _ | refine X.drew ?_)))).trans hy') hne; replace hBt := hBt.y ((Y.of_x (by (repeat (first | exact X.refl _ | assumption | refine X.ext ?_ _ | refine X.alloc ?_ _ | refine X.drew ?_)))).trans hy') hneT; replace hF := hF.mono ((X.fr (by (repeat (first | exact X.refl _ | assumption | refine X.ext ?_ _ | refine X.alloc ?_ _ | refine X.drew ?_))) _).trans (hy'.fr.mono (by omega))); replace hy := hy.trans ((Y.of_x (by (repeat (first | exact X.refl _ | assumption | refine X.ext ?_ _ | refine X.alloc ?_ _ | refine X.drew ?_)))).trans hy'); replace hr := hr'; replace t3 := hBt.out.2.1 0)
      | (go_at_call 71; refine (one_c _ _ [_, 0, _, -1] _ _ _ (w.heap.size + 2) _ (hr.x (by (repeat (first | exact X.refl _ | assumption | refine X.ext ?_ _ | refine X.alloc ?_ _ | refine X.drew ?_)))) (by omega) (ints_lit rfl (by have := hr.lt; first | omega | (simp; omega)) rfl rfl (by simp)) (by omega) (by simp)).mono ?_; rintro _ w5 ⟨x, rfl, _, hr', hy'⟩; replace hI := hI.mono ((X.fr (by (repeat (first | exact X.refl _ | assumption | refine X.ext ?_ _ | refine X.alloc ?_ _ | refine X.drew ?_))) _).trans (hy'.fr.mono (by omega))); replace hBr := hBr.y ((Y.of_x (by (repeat (first | exact X.refl _ | assumption | refine X.ext ?_ _ | refine X.alloc ?_ _ | refine X.drew ?_)))).trans hy') hne; replace hBt := hBt.y ((Y.of_x (by (repeat (first | exact X.refl _ | assumption | refine X.ext ?_ _ | refine X.alloc ?_ _ | refine X.drew ?_)))).trans hy') hneT; replace hF := hF.mono ((X.fr (by (repeat (first | exact X.refl _ | assumption | refine X.ext ?_ _ | refine X.alloc ?_ _ | refine X.drew ?_))) _).trans (hy'.fr.mono (by omega))); replace hy := hy.trans ((Y.of_x (by (repeat (first | exact X.refl _ | assumption | refine X.ext ?_ _ | refine X.alloc ?_ _ | refine X.drew ?_)))).trans hy'); replace hr := hr'; replace t3 := hBt.out.2.1 0; obtain ⟨hbN5, hcN5, hfN5⟩ := hBr.out)))
  have hB2 := Bx.set hBr 0 (.slice a n c)
  go_wp2
  refine bodyPost_ret (v := .tuple #[.agg #[.slice a n c], .slice pa pn pc, .int .i64 x]) ?_ rfl ?_
  · obtain ⟨hb2, hc2, hf2⟩ := hB2.out
    have e0 : (w5.setCell ⟨w.heap.size, 0, none⟩ (.slice a n c)).cell? ⟨w.heap.size, 0, none⟩ = some (.slice a n c) := hc2 0
    simp [results, Tryd.results31, go_sem, e0, Result.andThen]
  · exact ⟨l, a, n, c, path, pa, pn, pc, x, rfl, (hF.mono (Fr.set (Fr.refl _ _) (.inr (by simp)) _)).less (by omega), hnc, hn11, hsm, (hI.mono (Fr.set (Fr.refl _ _) (.inr (by simp)) _)).less (by omega), hpc, hp3, Y.x (Y.set2 hy (by simp) _) (by omega)⟩

end Go.Proofs.YtjklpfgjimbabaaDoor
