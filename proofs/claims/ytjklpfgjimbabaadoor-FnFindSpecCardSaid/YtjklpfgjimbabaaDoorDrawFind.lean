/- The arguments of FindIn, as they are generated. -/
import Derived.Test.YtjklpfgjimbabaaDoorAnyTree
import Derived.Test.YtjklpfgjimbabaaDoorPath
namespace Go.Proofs.YtjklpfgjimbabaaDoor
open Go.RowKit

theorem Y.x {rb : Nat} {w w' : World} (h : Y rb w w') (hr : w.heap.size ≤ rb) : X w w' :=
  X.of_below ⟨h.os, h.tape, h.output, h.size, fun k hk => h.block k hk (by simp; omega)⟩
/-- A slice of bytes as the law receives it. -/
def CodeAt (w : World) (ca : Option Addr) (cn cc : Nat) : Prop := cn ≤ cc ∧ (0 < cn → ∃ b off, ca = some ⟨b, off, none⟩ ∧ b < w.heap.size ∧ ∀ i, i < cn → ∃ v : Nat, v < 256 ∧ w.cell? ⟨b, off + i, none⟩ = some (.int .u8 (v : Int)))

set_option maxRecDepth 100000 in
set_option maxHeartbeats 1000000 in
theorem DrawFindIn_c (ca : Option Addr) (cn cc : Nat) (w : World) (hC : CodeAt w ca cn cc) (hn : cn ≤ 1048576) :
    Calls Tryd.prog 11 #[.slice ca cn cc] w fun e w' => ∃ (l : List Fi) (a : Option Addr) (n c : Nat) (path : List Int) (pa : Option Addr) (pn pc : Nat) (p s : List UInt8),
      e = .returned (.tuple #[.agg #[.slice a n c], .slice pa pn pc, .string ⟨(p).toArray⟩, .string ⟨(s).toArray⟩]) ∧ FilesAt w' w.heap.size a n l ∧ n ≤ c ∧ n ≤ 11 ∧ (∀ f ∈ l, SmallF f) ∧ IntsAt w' w.heap.size pa pn path ∧ pn ≤ pc ∧ pn ≤ 3 ∧ p.length ≤ 20 ∧ s.length ≤ 20 ∧ X w w' := by
  have hBr := Bx.new w #[.slice none 0 0] 25
  go_enter Tryd.func11, Tryd.ntmps11
  go_wp2_with fail
  refine (newReader_c ca cn cc _ hC.1 (fun h => by
    obtain ⟨b, off, h1, h2, h3⟩ := hC.2 h
    exact ⟨b, off, h1, by simp; omega, fun i hi => by
      obtain ⟨v, hv, hc⟩ := h3 i hi
      exact ⟨v, hv, by rw [World.cell?_alloc_lt _ _ _ h2]; exact hc⟩⟩) hn).mono ?_
  rintro _ w1 ⟨rfl, hr, hx⟩
  rw [World.size_alloc] at hr
  replace hBr := hBr.x hx
  have hxx : X w w1 := X.trans (by (repeat (first | exact X.refl _ | assumption | refine X.ext ?_ _ | refine X.alloc ?_ _ | refine X.drew ?_))) hx
  have hlt := hr.lt
  have hne : w.heap.size ≠ w.heap.size + 1 := by omega
  simp only [World.size_alloc]
  have hy : Y (w.heap.size + 1) w w1 := Y.of_x hxx
  clear hx hxx
  go_wp2_with fail
  refine (anyTree_c _ _ _ hr (by omega)).mono ?_
  rintro _ w2 ⟨l, a, n, c, rfl, hF, hnc, hn11, hsm, hr', hy'⟩
  replace hBr := hBr.y hy' hne
  replace hF := hF.less (B' := w.heap.size + 2) (by omega)
  replace hy := hy.trans ((Y.of_x (by (repeat (first | exact X.refl _ | assumption | refine X.ext ?_ _ | refine X.alloc ?_ _ | refine X.drew ?_)))).trans hy'); replace hr := hr'; clear hr' hy'
  have hlt2 := hr.lt
  go_wp2_with fail
  refine (anyPath_c _ _ _ hr (by omega)).mono ?_
  rintro _ w3 ⟨path, pa, pn, pc, rfl, hI, hpc, hp3, hr', hy'⟩
  replace hBr := hBr.y hy' hne
  replace hF := hF.mono (hy'.fr.mono (by omega))
  replace hI := hI.less (B' := w.heap.size + 2) (by omega)
  replace hy := hy.trans ((Y.of_x (by (repeat (first | exact X.refl _ | assumption | refine X.ext ?_ _ | refine X.alloc ?_ _ | refine X.drew ?_)))).trans hy'); replace hr := hr'; clear hr' hy'
  go_wp2_with fail
  refine (anyPackage_c _ _ _ hr (by omega)).mono ?_
  rintro _ w4 ⟨p, rfl, hp, hr', hy'⟩
  replace hBr := hBr.y hy' hne
  replace hF := hF.mono (hy'.fr.mono (by omega))
  replace hI := hI.mono (hy'.fr.mono (by omega))
  replace hy := hy.trans ((Y.of_x (by (repeat (first | exact X.refl _ | assumption | refine X.ext ?_ _ | refine X.alloc ?_ _ | refine X.drew ?_)))).trans hy'); replace hr := hr'; clear hr' hy'
  go_wp2_with fail
  refine (anyPart_c _ _ _ hr (by omega)).mono ?_
  rintro _ w5 ⟨s, rfl, hs, hr', hy'⟩
  replace hBr := hBr.y hy' hne
  replace hF := hF.mono (hy'.fr.mono (by omega))
  replace hI := hI.mono (hy'.fr.mono (by omega))
  replace hy := hy.trans ((Y.of_x (by (repeat (first | exact X.refl _ | assumption | refine X.ext ?_ _ | refine X.alloc ?_ _ | refine X.drew ?_)))).trans hy'); replace hr := hr'; clear hr' hy'
  obtain ⟨hb, hc, hf⟩ := hBr.out
  have hB2 := Bx.set hBr 0 (.slice a n c)
  go_wp2
  refine bodyPost_ret (v := .tuple #[.agg #[.slice a n c], .slice pa pn pc, .string ⟨(p).toArray⟩, .string ⟨(s).toArray⟩]) ?_ rfl ?_
  · obtain ⟨hb2, hc2, hf2⟩ := hB2.out
    clear hb hc hf
    have e0 : (w5.setCell ⟨w.heap.size, 0, none⟩ (.slice a n c)).cell? ⟨w.heap.size, 0, none⟩ = some (.slice a n c) := hc2 0
    simp [results, Tryd.results11, go_sem, e0, Result.andThen]
  · exact ⟨l, a, n, c, path, pa, pn, pc, p, s, rfl, (hF.mono (Fr.set (Fr.refl _ _) (.inr (by simp)) _)).less (by omega), hnc, hn11, hsm, (hI.mono (Fr.set (Fr.refl _ _) (.inr (by simp)) _)).less (by omega), hpc, hp3, hp, hs, Y.x (Y.set2 hy (by simp) _) (by omega)⟩

end Go.Proofs.YtjklpfgjimbabaaDoor
