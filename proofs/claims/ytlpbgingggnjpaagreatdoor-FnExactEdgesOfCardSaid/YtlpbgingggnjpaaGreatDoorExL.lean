/- Lemmas that the walks of the exact laws share. No condition. -/
import Derived.Test.YtlpbgingggnjpaaGreatDoorIb
import Derived.Test.YtlpbgingggnjpaaGreatDoorOpx
import Derived.Deep.RegionHeld3
namespace Go.Proofs.YtlpbgingggnjpaaGreatDoor
open Go.RowKit

theorem markIntS_v (xs : List Value) (a : Option Addr) (n c B k : Nat) (v : Int) (w : World) (hv : v = (k : Int)) (hO : w.ownsRow B 3 1 (.slice a n c) n xs) (hn : n ≤ 2097152) (hk : k ≤ 1073741824) :
    Calls Tryz.prog 28 #[.slice a n c, .int .i64 v] w fun e w' => e = .returned (.int .i64 ((k + n : Nat) : Int)) ∧ w'.ownsRow B 3 1 (.slice a n c) n (ints (upN k n)) ∧ w.grownBy w' (Value.slice a n c).ownBlock := by
  subst hv
  exact markIntS_c xs a n c B k w hO hn hk
theorem Gm.belowW {w w' : World} (h : Gm w) (hx : Below w.heap.size w w') : Gm w' := by
  obtain ⟨m, h1, h2⟩ := h
  exact ⟨m, (hx.cell (p := ⟨0, 0, none⟩) h2).trans h1, Nat.lt_of_lt_of_le h2 hx.size⟩
theorem keep_row {w0 w w' : World} {B e size n : Nat} {v : Value} {xs : List Value} (h : w0.ownsRow B e size v n xs) (hg : w.grownBy w' v.ownBlock) : Keep B w0.heap.size w w' := Keep.of_grown hg (fun g hv => h.lt g hv)

end Go.Proofs.YtlpbgingggnjpaaGreatDoor
