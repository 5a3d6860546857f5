/- The arguments of FindSpec, CanFind and IsPackage, as they are generated. No condition. -/
import Derived.Test.YtlpbgingggnjpaaGreatDoorNameOf
namespace Go.Proofs.YtlpbgingggnjpaaGreatDoor
open Go.RowKit

/-- What is drawn: a tree, a path, a name. -/
def Drawn3 (w w' : World) (e : Ending) : Prop := ∃ (l : List Fi) (a : Option Addr) (n c : Nat) (path : List Int) (pa : Option Addr) (pn pc : Nat) (s : List UInt8),
  e = .returned (.tuple #[.agg #[.slice a n c], .slice pa pn pc, .string ⟨(s).toArray⟩]) ∧ FilesAt w' w.heap.size a n l ∧ n ≤ c ∧ n ≤ 11 ∧ (∀ f ∈ l, SmallF f) ∧ IntsAt w' w.heap.size pa pn path ∧ pn ≤ pc ∧ pn ≤ 3 ∧ s.length ≤ 100 ∧ X w w'

set_option maxRecDepth 100000 in
set_option maxHeartbeats 1000000 in
theorem DrawEdgesOf_c (ca : Option Addr) (cn cc : Nat) (w : World) (hC : CodeAt w ca cn cc) (hn : cn ≤ 1048576) :
    Calls Tryz.prog 29 #[.slice ca cn cc] w fun e w' => Drawn3 w w' e := by
  have hBr := Bx.new w #[.slice none 0 0] 25
  go_enter Tryz.func29, Tryz.ntmps29
  go_wp2_with fail
  refine (newReader_c ca cn cc _ hC.1 (fun h => by
    obtain ⟨b, off, h1, h2, h3⟩ := hC.2 h
    exact ⟨b, off, h1, by simp; omega, fun i hi => by
      obtain ⟨v, hv, hc⟩ := h3 i hi
      exact ⟨v, hv, by rw [World.cell?_alloc_lt _ _ _ h2]; exact hc⟩⟩) hn).mono ?_
  rintro _ w1 ⟨rfl, hr, hx⟩
  rw [World.size_alloc] at hr
  replace hBr := hBr.x hx
  have hxx : X w w1 := X.trans (by (repeat (first | exact X.refl _ | assumption | refine X.ext ?_ _ | refine X.alloc ?_ _ | refine X.drew ?_))) hx
  have hlt := hr.lt
  have hne : w.heap.size ≠ w.heap.size + 1 := by omega
  simp only [World.size_alloc]
  have hy : Y (w.heap.size + 1) w w1 := Y.of_x hxx
  clear hx hxx
  go_wp2_with fail
  refine (nameOf_c _ _ _ hr (by omega)).mono ?_
  rintro _ w2 ⟨l, a, n, c, path, pa, pn, pc, s, rfl, hF, hnc, hn11, hsm, hI, hpc, hp3, hs, hy'⟩
  replace hBr := hBr.y hy' hne
  replace hF := hF.less (B' := w.heap.size + 2) (by omega)
  replace hI := hI.less (B' := w.heap.size + 2) (by omega)
  replace hy := hy.trans hy'
  obtain ⟨hb, hc, hf⟩ := hBr.out
  have hB2 := Bx.set hBr 0 (.slice a n c)
  go_wp2
  refine bodyPost_ret (v := .tuple #[.agg #[.slice a n c], .slice pa pn pc, .string ⟨(s).toArray⟩]) ?_ rfl ?_
  · obtain ⟨hb2, hc2, hf2⟩ := hB2.out
    clear hb hc hf
    have e0 : (w2.setCell ⟨w.heap.size, 0, none⟩ (.slice a n c)).cell? ⟨w.heap.size, 0, none⟩ = some (.slice a n c) := hc2 0
    simp [results, Tryz.results29, go_sem, e0, Result.andThen]
  · exact ⟨l, a, n, c, path, pa, pn, pc, s, rfl, (hF.mono (Fr.set (Fr.refl _ _) (.inr (by simp)) _)).less (by omega), hnc, hn11, hsm, (hI.mono (Fr.set (Fr.refl _ _) (.inr (by simp)) _)).less (by omega), hpc, hp3, hs, Y.x (Y.set2 hy (by simp) _) (by omega)⟩

end Go.Proofs.YtlpbgingggnjpaaGreatDoor
