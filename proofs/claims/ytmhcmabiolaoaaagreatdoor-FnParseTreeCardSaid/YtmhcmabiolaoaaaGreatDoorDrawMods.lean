/- Trees, as they are generated for the laws on lists of modules and packages and on directories. No condition. -/
import Derived.Test.YtmhcmabiolaoaaaGreatDoorDrawFind
namespace Go.Proofs.YtmhcmabiolaoaaaGreatDoor
open Go.RowKit

theorem tree_Sm : StrT Tryz.prog 24 1 := ⟨⟨_, Tryz.underlying24⟩, by kernel_rfl⟩
set_option maxRecDepth 100000 in
set_option maxHeartbeats 1000000 in
theorem DrawFormatTree_c (ca : Option Addr) (cn cc : Nat) (w : World) (hC : CodeAt w ca cn cc) (hn : cn ≤ 1048576) :
    Calls Tryz.prog 11 #[.slice ca cn cc] w fun e w' => ∃ (l : List Fi) (a : Option Addr) (n c : Nat), e = .returned (.agg #[.slice a n c]) ∧ FilesAt w' w.heap.size a n l ∧ n ≤ c ∧ n ≤ 11 ∧ X w w' := by
  have hBr := Bx.new w #[.slice none 0 0] 24
  go_enter Tryz.func11, Tryz.ntmps11
  go_wp2_with fail
  refine (newReader_c ca cn cc _ hC.1 (fun h => by
    obtain ⟨b, off, h1, h2, h3⟩ := hC.2 h
    exact ⟨b, off, h1, by simp; omega, fun i hi => by
      obtain ⟨v, hv, hc⟩ := h3 i hi
      exact ⟨v, hv, by rw [World.cell?_alloc_lt _ _ _ h2]; exact hc⟩⟩) hn).mono ?_
  rintro _ w1 ⟨rfl, hr, hx⟩
  rw [World.size_alloc] at hr
  replace hBr := hBr.x hx
  have hxx : X w w1 := X.trans (by (repeat (first | exact X.refl _ | assumption | refine X.ext ?_ _ | refine X.alloc ?_ _ | refine X.drew ?_))) hx
  have hlt := hr.lt
  have hne : w.heap.size ≠ w.heap.size + 1 := by omega
  simp only [World.size_alloc]
  have hy : Y (w.heap.size + 1) w w1 := Y.of_x hxx
  clear hx hxx
  go_wp2_with fail
  refine (anyTree_c _ _ _ hr (by omega)).mono ?_
  rintro _ w2 ⟨l, a, n, c, rfl, hF, hnc, hn11, hsm, hr', hy'⟩
  replace hBr := hBr.y hy' hne
  replace hF := hF.less (B' := w.heap.size + 2) (by omega)
  replace hy := hy.trans ((Y.of_x (by (repeat (first | exact X.refl _ | assumption | refine X.ext ?_ _ | refine X.alloc ?_ _ | refine X.drew ?_)))).trans hy'); replace hr := hr'; clear hr' hy'
  have hlt2 := hr.lt
  obtain ⟨hb, hc, hf⟩ := hBr.out
  have hB2 := Bx.set hBr 0 (.slice a n c)
  go_wp2
  refine bodyPost_row Tryz.results11 rfl hB2 tree_Sm rfl rfl ?_
  exact ⟨l, a, n, c, rfl, (hF.mono (Fr.set (Fr.refl _ _) (.inr (by simp)) _)).less (by omega), hnc, hn11, Y.x (Y.set2 hy (by simp) _) (by omega)⟩
/-- What is drawn: a tree, a root, a package. -/
def DrawnTRP (w w' : World) (e : Ending) : Prop := ∃ (l : List Fi) (a : Option Addr) (n c : Nat) (q : Int) (p : List UInt8),
  e = .returned (.tuple #[.agg #[.slice a n c], .int .i64 q, .string ⟨(p).toArray⟩]) ∧ FilesAt w' w.heap.size a n l ∧ n ≤ c ∧ n ≤ 11 ∧ q ∈ [0, 1, 2, 3, -1] ∧ p.length ≤ 20 ∧ X w w'

end Go.Proofs.YtmhcmabiolaoaaaGreatDoor
