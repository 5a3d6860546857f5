/- The types of disks, and a file as an argument. No condition. -/
import Derived.Test.YtgjfjjhmgbemcaaGreatDoorDirW
import Derived.Test.YtgjfjjhmgbemcaaGreatDoorOpx
import Derived.Test.YtgjfjjhmgbemcaaGreatDoorRawF
namespace Go.Proofs.YtgjfjjhmgbemcaaGreatDoor
open Go.RowKit

set_option maxRecDepth 100000 in
theorem ssTy : SsTy Tryz.prog 64 := ⟨_, Tryz.underlying64, by kernel_rfl, Tryz.underlying9⟩
set_option maxRecDepth 100000 in
theorem diTy : DiTy Tryz.prog 136 := ⟨by kernel_rfl, _, _, _, _, _, Tryz.underlying136, ⟨rfl, Tryz.underlying3, by kernel_rfl⟩, ⟨rfl, Tryz.underlying9, by kernel_rfl⟩, ⟨rfl, Tryz.underlying3, by kernel_rfl⟩, ⟨rfl, Tryz.underlying64, by kernel_rfl⟩, ssTy⟩
theorem disTy : DisTy Tryz.prog 25 := ⟨_, Tryz.underlying25, diTy⟩
set_option maxRecDepth 100000 in
theorem dkTy : DkTy Tryz.prog 27 := ⟨by kernel_rfl, _, _, _, Tryz.underlying27, rfl, by kernel_rfl, trTy, ⟨rfl, Tryz.underlying3, by kernel_rfl⟩, rfl, by kernel_rfl, disTy⟩

end Go.Proofs.YtgjfjjhmgbemcaaGreatDoor
