/- A tree and a path, as they are generated. No condition. -/
import Derived.Test.YtijcdnaammbomaaGreatDoorId
namespace Go.Proofs.YtijcdnaammbomaaGreatDoor
open Go.RowKit

/-- What is drawn: a tree, a path. -/
def Drawn2 (w w' : World) (e : Ending) : Prop := ∃ (l : List Fi) (a : Option Addr) (n c : Nat) (path : List Int) (pa : Option Addr) (pn pc : Nat),
  e = .returned (.tuple #[.agg #[.slice a n c], .slice pa pn pc]) ∧ FilesAt w' w.heap.size a n l ∧ n ≤ c ∧ n ≤ 11 ∧ (∀ f ∈ l, SmallF f) ∧ IntsAt w' w.heap.size pa pn path ∧ pn ≤ pc ∧ pn ≤ 3 ∧ X w w'
set_option maxRecDepth 100000 in
set_option maxHeartbeats 1000000 in
theorem DrawFoundNames_c (ca : Option Addr) (cn cc : Nat) (w : World) (hC : CodeAt w ca cn cc) (hn : cn ≤ 1048576) :
    Calls Tryz.prog 7 #[.slice ca cn cc] w fun e w' => Drawn2 w w' e := by
  have hBr := Bx.new w #[.slice none 0 0] 25
  go_enter Tryz.func7, Tryz.ntmps7
  go_wp2_with fail
  refine (newReader_c ca cn cc _ hC.1 (fun h => by
    obtain ⟨b, off, h1, h2, h3⟩ := hC.2 h
    exact ⟨b, off, h1, by simp; omega, fun i hi => by
      obtain ⟨v, hv, hc⟩ := h3 i hi
      exact ⟨v, hv, by rw [World.cell?_alloc_lt _ _ _ h2]; exact hc⟩⟩) hn).mono ?_
  rintro _ w1 ⟨rfl, hr, hx⟩
  rw [World.size_alloc] at hr
  replace hBr := hBr.x hx
  have hxx : X w w1 := X.trans (by (repeat (first | exact X.refl _ | assumption | refine X.ext ?_ _ | refine X.alloc ?_ _ | refine X.drew ?_))) hx
  have hlt := hr.lt
  have hne : w.heap.size ≠ w.heap.size + 1 := by omega
  simp only [World.size_alloc]
  have hy : Y (w.heap.size + 1) w w1 := Y.of_x hxx
  clear hx hxx
  go_wp2_with fail
  refine (anyTree_c _ _ _ hr (by omega)).mono ?_
  rintro _ w2 ⟨l, a, n, c, rfl, hF, hnc, hn11, hsm, hr', hy'⟩
  replace hBr := hBr.y hy' hne
  replace hF := hF.less (B' := w.heap.size + 2) (by omega)
  replace hy := hy.trans ((Y.of_x (by (repeat (first | exact X.refl _ | assumption | refine X.ext ?_ _ | refine X.alloc ?_ _ | refine X.drew ?_)))).trans hy'); replace hr := hr'; clear hr' hy'
  have hlt2 := hr.lt
  go_wp2_with fail
  refine (anyPath_c _ _ _ hr (by omega)).mono ?_
  rintro _ w3 ⟨path, pa, pn, pc, rfl, hI, hpc, hp3, hr', hy'⟩
  replace hBr := hBr.y hy' hne
  replace hF := hF.mono (hy'.fr.mono (by omega))
  replace hI := hI.less (B' := w.heap.size + 2) (by omega)
  replace hy := hy.trans ((Y.of_x (by (repeat (first | exact X.refl _ | assumption | refine X.ext ?_ _ | refine X.alloc ?_ _ | refine X.drew ?_)))).trans hy'); replace hr := hr'; clear hr' hy'
  obtain ⟨hb, hc, hf⟩ := hBr.out
  have hB2 := Bx.set hBr 0 (.slice a n c)
  go_wp2
  refine bodyPost_ret (v := .tuple #[.agg #[.slice a n c], .slice pa pn pc]) ?_ rfl ?_
  · obtain ⟨hb2, hc2, hf2⟩ := hB2.out
    clear hb hc hf
    have e0 : (w3.setCell ⟨w.heap.size, 0, none⟩ (.slice a n c)).cell? ⟨w.heap.size, 0, none⟩ = some (.slice a n c) := hc2 0
    simp [results, Tryz.results7, go_sem, e0, Result.andThen]
  · exact ⟨l, a, n, c, path, pa, pn, pc, rfl, (hF.mono (Fr.set (Fr.refl _ _) (.inr (by simp)) _)).less (by omega), hnc, hn11, hsm, (hI.mono (Fr.set (Fr.refl _ _) (.inr (by simp)) _)).less (by omega), hpc, hp3, Y.x (Y.set2 hy (by simp) _) (by omega)⟩
set_option maxRecDepth 100000 in
set_option maxHeartbeats 1000000 in
theorem DrawHiddenFiles_c (ca : Option Addr) (cn cc : Nat) (w : World) (hC : CodeAt w ca cn cc) (hn : cn ≤ 1048576) :
    Calls Tryz.prog 22 #[.slice ca cn cc] w fun e w' => Drawn2 w w' e := by
  have hBr := Bx.new w #[.slice none 0 0] 25
  go_enter Tryz.func22, Tryz.ntmps22
  go_wp2_with fail
  refine (DrawFoundNames_c ca cn cc _ ⟨hC.1, fun h => by
    obtain ⟨b, off, h1, h2, h3⟩ := hC.2 h
    exact ⟨b, off, h1, by simp; omega, fun i hi => by
      obtain ⟨v, hv, hc⟩ := h3 i hi
      exact ⟨v, hv, by rw [World.cell?_alloc_lt _ _ _ h2]; exact hc⟩⟩⟩ hn).mono ?_
  rintro _ w1 ⟨l, a, n, c, path, pa, pn, pc, rfl, hF, hnc, hn11, hsm, hI, hpc, hp3, hx⟩
  replace hBr := hBr.x hx
  have hx1 : X w w1 := X.trans (by (repeat (first | exact X.refl _ | assumption | refine X.ext ?_ _ | refine X.alloc ?_ _ | refine X.drew ?_))) hx
  rw [World.size_alloc] at hF hI
  obtain ⟨hb, hc, hf⟩ := hBr.out
  have hB2 := Bx.set hBr 0 (.slice a n c)
  go_wp2
  refine bodyPost_ret (v := .tuple #[.agg #[.slice a n c], .slice pa pn pc]) ?_ rfl ?_
  · obtain ⟨hb2, hc2, hf2⟩ := hB2.out
    clear hb hc hf
    have e0 : (w1.setCell ⟨w.heap.size, 0, none⟩ (.slice a n c)).cell? ⟨w.heap.size, 0, none⟩ = some (.slice a n c) := hc2 0
    simp [results, Tryz.results22, go_sem, e0, Result.andThen]
  · exact ⟨l, a, n, c, path, pa, pn, pc, rfl, (hF.mono (Fr.set (Fr.refl _ _) (.inr (by simp)) _)).less (by omega), hnc, hn11, hsm, (hI.mono (Fr.set (Fr.refl _ _) (.inr (by simp)) _)).less (by omega), hpc, hp3, by (repeat (first | exact X.refl _ | assumption | refine X.setCell ?_ (by first | (simp; done) | (simp; omega)) _ | refine X.ext ?_ _ | refine X.alloc ?_ _ | refine X.drew ?_))⟩

end Go.Proofs.YtijcdnaammbomaaGreatDoor
