/- The arguments of an exact law, opened: a tree, numbers; what a world of the program's shape says of the library's variable. No condition. -/
import Derived.Test.YtjonaihgldmmmaaDoorMb
import Derived.Test.YtjonaihgldmmmaaDoorMa
import Derived.Test.YtjonaihgldmmmaaDoorTie
import Derived.Test.YtjonaihgldmmmaaDoorCards
import Derived.ProofKit
import Derived.SizedLaws
import Derived.OpenShut
import Derived.ChangeMaps5
import Derived.Deep.DeepHandedRow
import Derived.Lib.LaidTab
import Derived.Lay
namespace Go.Proofs.YtjonaihgldmmmaaDoor
open Go.ChangeShapes Go.WideShapes Go.ChangeAt Go.RowKit

theorem own : ownKnob Tryd.prog.godebug = none := by kernel_rfl
theorem laidOut : laidOutB Tryd.prog = true := by kernel_rfl
set_option maxRecDepth 100000 in
theorem gm_of {W : World} (h : W.ShapedOpen Tryd.prog) : Gm W := by
  obtain ⟨m, hm⟩ := Go.Proofs.cell_of_shapedOpen_int (g := 1) (zero := #[.int .i64 0]) (t := 3) h (of_decide_eq_true (by kernel_rfl)) (by kernel_rfl) rfl (by kernel_rfl) (by kernel_rfl) Tryd.underlying3
  exact ⟨m, hm, World.block_lt_of_cell? _ _ hm⟩
/-- Numbers of whatever length. -/
def IntsR (w : World) (a : Option Addr) (n : Nat) (l : List Int) : Prop := n = l.length ∧ n ≤ maxLen ∧ Sl w 0 a n (ints l)
theorem IntsR.at {w : World} {a : Option Addr} {n : Nat} {l : List Int} (h : IntsR w a n l) (hn : n ≤ 2097152) : IntsAt w 0 a n l := ⟨h.1, hn, h.2.2⟩
set_option maxRecDepth 100000 in
theorem stTy : StTy Tryd.prog 77 := ⟨by kernel_rfl, _, _, _, _, _, Tryd.underlying77, ⟨rfl, Tryd.underlying3, by kernel_rfl⟩, ⟨rfl, Tryd.underlying9, by kernel_rfl⟩, ⟨rfl, Tryd.underlying3, by kernel_rfl⟩, ⟨rfl, Tryd.underlying9, by kernel_rfl⟩, ⟨rfl, Tryd.underlying3, by kernel_rfl⟩⟩
theorem stsTy : StsTy Tryd.prog 48 := ⟨_, Tryd.underlying48, stTy⟩
set_option maxRecDepth 100000 in
theorem fiTy : FiTy Tryd.prog 50 := ⟨by kernel_rfl, _, _, _, _, _, _, _, Tryd.underlying50, ⟨rfl, Tryd.underlying3, by kernel_rfl⟩, ⟨rfl, Tryd.underlying9, by kernel_rfl⟩, ⟨rfl, Tryd.underlying9, by kernel_rfl⟩, ⟨rfl, Tryd.underlying4, by kernel_rfl⟩, ⟨rfl, Tryd.underlying3, by kernel_rfl⟩, ⟨rfl, Tryd.underlying48, by kernel_rfl⟩, stsTy⟩
theorem fisTy : FisTy Tryd.prog 22 := ⟨_, Tryd.underlying22, fiTy⟩
theorem trTy : TrTy Tryd.prog 24 := ⟨by kernel_rfl, _, _, Tryd.underlying24, ⟨rfl, Tryd.underlying22, by kernel_rfl⟩, fisTy⟩
theorem cellsI : Tryd.prog.cellsOf 3 = 1 := by kernel_rfl
end Go.Proofs.YtjonaihgldmmmaaDoor
