/- The argument of a law, opened: a slice of bytes; what a world of the program's shape says of the library's variable. No condition. -/
import Derived.Test.YtgjfjjhmgbemcaaGreatDoorId
import Derived.Test.YtgjfjjhmgbemcaaGreatDoorTie
import Derived.Test.YtgjfjjhmgbemcaaGreatDoorCards
import Derived.ProofKit
import Derived.SizedLaws
import Derived.OpenShut
import Derived.Deep.DeepHandedRow
import Derived.Lib.LaidTab
import Derived.Lay
namespace Go.Proofs.YtgjfjjhmgbemcaaGreatDoor
open Go.ChangeShapes Go.WideShapes Go.ChangeAt Go.RowKit

theorem own : ownKnob Tryz.prog.godebug = none := by kernel_rfl
theorem laidOut : laidOutB Tryz.prog = true := by kernel_rfl
theorem cells5 : Tryz.prog.cellsOf 5 = 1 := by kernel_rfl
theorem gm_of {W : World} (h : W.ShapedOpen Tryz.prog) : Gm W := by
  obtain ⟨m, hm⟩ := Go.Proofs.cell_of_shapedOpen_int (g := 0) (zero := #[.int .i64 0]) (t := 3) h (of_decide_eq_true (by kernel_rfl)) (by kernel_rfl) rfl (by kernel_rfl) (by kernel_rfl) Tryz.underlying3
  exact ⟨m, hm, World.block_lt_of_cell? _ _ hm⟩
theorem code_of {H : Type} {enc : TypeId × Value → H} {W : World} {a0 : Option Addr} {len cap : Nat} {d : DataW H} {p : List MemPlace}
    (h : DataW.Trod enc Tryz.prog W 0 (fun _ => true) true 61 (.slice a0 len cap) d p) : CodeAt W a0 len cap := by
  obtain ⟨fuel, hf⟩ := h
  rcases open_ints Tryz.underlying61 Tryz.underlying5 cells5 hf with ⟨hcs, _⟩ | ⟨a, len', cap', zs, hcs, _, hl, _, hz, _, hcell, hwz⟩
  · simp [Value.cells] at hcs
    obtain ⟨rfl, rfl, rfl⟩ := hcs
    exact ⟨Nat.le_refl _, fun h => absurd h (Nat.lt_irrefl _)⟩
  · simp [Value.cells] at hcs
    obtain ⟨rfl, rfl, rfl⟩ := hcs
    simp only [if_true] at hz
    refine ⟨hl, fun hp => ?_⟩
    obtain ⟨b, off, spot⟩ := a
    have hspot : spot = none := by simpa [Addr.add] using World.cell?_spot (hcell 0 (by omega))
    subst hspot
    have cj : ∀ j, j < len → W.cell? ⟨b, off + j, none⟩ = some (.int .u8 (zs.getD j 0)) := fun j hj => by rw [← add_plain]; exact hcell j (by omega)
    refine ⟨b, off, rfl, World.block_lt_of_cell? _ _ (cj 0 hp), fun i hi => ?_⟩
    have hm : zs.getD i 0 ∈ zs := by
      rw [List.getD_eq_getElem?_getD, List.getElem?_eq_getElem (by omega), Option.getD_some]
      exact List.getElem_mem _
    obtain ⟨h1, h2⟩ := bounds_u8 (hwz _ hm)
    exact ⟨(zs.getD i 0).toNat, by omega, by rw [cj i hi, Int.toNat_of_nonneg h1]⟩

end Go.Proofs.YtgjfjjhmgbemcaaGreatDoor
