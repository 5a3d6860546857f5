/- The arguments of an exact law, opened: a tree, numbers; what a world of the program's shape says of the library's variable. No condition. -/
import Derived.Test.YtgjfjjhmgbemcaaGreatDoorIb
import Derived.Test.YtgjfjjhmgbemcaaGreatDoorIa
import Derived.Test.YtgjfjjhmgbemcaaGreatDoorTie
import Derived.Test.YtgjfjjhmgbemcaaGreatDoorCards
import Derived.ProofKit
import Derived.SizedLaws
import Derived.OpenShut
import Derived.ChangeMaps5
import Derived.Deep.DeepHandedRow
import Derived.Lib.LaidTab
import Derived.Lay
namespace Go.Proofs.YtgjfjjhmgbemcaaGreatDoor
open Go.ChangeShapes Go.WideShapes Go.ChangeAt Go.RowKit

theorem own : ownKnob Tryz.prog.godebug = none := by kernel_rfl
theorem laidOut : laidOutB Tryz.prog = true := by kernel_rfl
set_option maxRecDepth 100000 in
theorem gm_of {W : World} (h : W.ShapedOpen Tryz.prog) : Gm W := by
  obtain ⟨m, hm⟩ := Go.Proofs.cell_of_shapedOpen_int (g := 0) (zero := #[.int .i64 0]) (t := 3) h (of_decide_eq_true (by kernel_rfl)) (by kernel_rfl) rfl (by kernel_rfl) (by kernel_rfl) Tryz.underlying3
  exact ⟨m, hm, World.block_lt_of_cell? _ _ hm⟩
/-- Numbers of whatever length. -/
def IntsR (w : World) (a : Option Addr) (n : Nat) (l : List Int) : Prop := n = l.length ∧ n ≤ maxLen ∧ Sl w 0 a n (ints l)
theorem IntsR.at {w : World} {a : Option Addr} {n : Nat} {l : List Int} (h : IntsR w a n l) (hn : n ≤ 2097152) : IntsAt w 0 a n l := ⟨h.1, hn, h.2.2⟩
set_option maxRecDepth 100000 in
theorem stTy : StTy Tryz.prog 139 := ⟨by kernel_rfl, _, _, _, _, _, Tryz.underlying139, ⟨rfl, Tryz.underlying3, by kernel_rfl⟩, ⟨rfl, Tryz.underlying9, by kernel_rfl⟩, ⟨rfl, Tryz.underlying3, by kernel_rfl⟩, ⟨rfl, Tryz.underlying9, by kernel_rfl⟩, ⟨rfl, Tryz.underlying3, by kernel_rfl⟩⟩
theorem stsTy : StsTy Tryz.prog 28 := ⟨_, Tryz.underlying28, stTy⟩
set_option maxRecDepth 100000 in
theorem fiTy : FiTy Tryz.prog 30 := ⟨by kernel_rfl, _, _, _, _, _, _, _, Tryz.underlying30, ⟨rfl, Tryz.underlying3, by kernel_rfl⟩, ⟨rfl, Tryz.underlying9, by kernel_rfl⟩, ⟨rfl, Tryz.underlying9, by kernel_rfl⟩, ⟨rfl, Tryz.underlying4, by kernel_rfl⟩, ⟨rfl, Tryz.underlying3, by kernel_rfl⟩, ⟨rfl, Tryz.underlying28, by kernel_rfl⟩, stsTy⟩
theorem fisTy : FisTy Tryz.prog 22 := ⟨_, Tryz.underlying22, fiTy⟩
theorem trTy : TrTy Tryz.prog 24 := ⟨by kernel_rfl, _, _, Tryz.underlying24, ⟨rfl, Tryz.underlying22, by kernel_rfl⟩, fisTy⟩
theorem cellsI : Tryz.prog.cellsOf 3 = 1 := by kernel_rfl
set_option maxRecDepth 100000 in
/-- Numbers as an argument. -/
theorem arg_ints {H : Type} {enc : TypeId × Value → H} {W : World} {base : Nat} {v : Value} {d : DataW H} {p : List MemPlace} (hv : Value.okWide Tryz.prog W .any base 75 v)
    (h : DataW.Trod enc Tryz.prog W 0 (fun _ => true) true 75 v d p) : ∃ a n c l, v = .slice a n c ∧ n ≤ c ∧ IntsR W a n l := by
  obtain ⟨a0, len, cap, rfl⟩ := okWide_slice Tryz.underlying75 hv
  obtain ⟨fuel, hf⟩ := h
  rcases open_ints Tryz.underlying75 Tryz.underlying3 cellsI hf with ⟨hcs, _⟩ | ⟨a, len', cap', zs, hcs, _, hl, hm, hz, _, hcell, hwz⟩
  · simp [Value.cells] at hcs
    obtain ⟨rfl, rfl, rfl⟩ := hcs
    exact ⟨_, _, _, [], rfl, Nat.le_refl _, rfl, Nat.zero_le _, fun h => absurd h (Nat.lt_irrefl _)⟩
  · simp [Value.cells] at hcs
    obtain ⟨rfl, rfl, rfl⟩ := hcs
    simp only [if_true] at hz
    have hl' : (zs.take len).length = len := by rw [List.length_take]; omega
    refine ⟨_, _, _, zs.take len, rfl, hl, hl'.symm, by omega, sl_of hl'.symm (s := 1) (fun _ => rfl) (by omega) (fun i hi j hj => ?_)⟩
    obtain rfl : j = 0 := by omega
    have := hcell i (by omega)
    rw [Nat.mul_one, Nat.add_zero, this, nth_take hi]
    rfl
end Go.Proofs.YtgjfjjhmgbemcaaGreatDoor
