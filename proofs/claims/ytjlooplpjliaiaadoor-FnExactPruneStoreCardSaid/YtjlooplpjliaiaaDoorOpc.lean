/- The types of a store as an argument. No condition. -/
import Derived.Test.YtjlooplpjliaiaaDoorCoR
import Derived.Test.YtjlooplpjliaiaaDoorOpx
namespace Go.Proofs.YtjlooplpjliaiaaDoor
open Go.ChangeShapes Go.WideShapes Go.ChangeAt Go.RowKit
set_option maxRecDepth 100000 in
theorem coTy : CoTy Tryd.prog 75 := ⟨by kernel_rfl, _, _, _, _, _, _, _, _, _, Tryd.underlying75, ⟨rfl, Tryd.underlying3, by kernel_rfl⟩, ⟨rfl, Tryd.underlying9, by kernel_rfl⟩, ⟨rfl, Tryd.underlying4, by kernel_rfl⟩, ⟨rfl, Tryd.underlying3, by kernel_rfl⟩, ⟨rfl, Tryd.underlying3, by kernel_rfl⟩, ⟨rfl, Tryd.underlying3, by kernel_rfl⟩, ⟨rfl, Tryd.underlying3, by kernel_rfl⟩, ⟨rfl, Tryd.underlying38, by kernel_rfl⟩, stsTy⟩
theorem cosTy : CosTy Tryd.prog 37 := ⟨_, Tryd.underlying37, coTy⟩
end Go.Proofs.YtjlooplpjliaiaaDoor
