/- The arguments of FindIn, as they are generated. -/
import Derived.Test.YtmhcmabiolaoaaaGreatDoorMe
import Derived.Test.YtmhcmabiolaoaaaGreatDoorPath
namespace Go.Proofs.YtmhcmabiolaoaaaGreatDoor
open Go.RowKit

theorem Y.x {rb : Nat} {w w' : World} (h : Y rb w w') (hr : w.heap.size ≤ rb) : X w w' :=
  X.of_below ⟨h.os, h.tape, h.output, h.size, fun k hk => h.block k hk (by simp; omega)⟩
/-- A slice of bytes as the law receives it. -/
def CodeAt (w : World) (ca : Option Addr) (cn cc : Nat) : Prop := cn ≤ cc ∧ (0 < cn → ∃ b off, ca = some ⟨b, off, none⟩ ∧ b < w.heap.size ∧ ∀ i, i < cn → ∃ v : Nat, v < 256 ∧ w.cell? ⟨b, off + i, none⟩ = some (.int .u8 (v : Int)))

end Go.Proofs.YtmhcmabiolaoaaaGreatDoor
