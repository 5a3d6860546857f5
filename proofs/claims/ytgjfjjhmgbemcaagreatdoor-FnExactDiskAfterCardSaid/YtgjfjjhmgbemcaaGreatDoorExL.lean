/- Lemmas that the walks of the exact laws share. No condition. -/
import Derived.Test.YtgjfjjhmgbemcaaGreatDoorIb
import Derived.Test.YtgjfjjhmgbemcaaGreatDoorOpx
import Derived.Deep.RegionHeld3
namespace Go.Proofs.YtgjfjjhmgbemcaaGreatDoor
open Go.RowKit

theorem Gm.belowW {w w' : World} (h : Gm w) (hx : Below w.heap.size w w') : Gm w' := by
  obtain ⟨m, h1, h2⟩ := h
  exact ⟨m, (hx.cell (p := ⟨0, 0, none⟩) h2).trans h1, Nat.lt_of_lt_of_le h2 hx.size⟩
theorem keep_row {w0 w w' : World} {B e size n : Nat} {v : Value} {xs : List Value} (h : w0.ownsRow B e size v n xs) (hg : w.grownBy w' v.ownBlock) : Keep B w0.heap.size w w' := Keep.of_grown hg (fun g hv => h.lt g hv)

end Go.Proofs.YtgjfjjhmgbemcaaGreatDoor
