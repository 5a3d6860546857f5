/- The arguments of AddFile, as they are generated. No condition. -/
import Derived.Test.YtijcdnaammbomaaGreatDoorAnyFile
namespace Go.Proofs.YtijcdnaammbomaaGreatDoor
open Go.RowKit

theorem CodeAt.x {w w' : World} {ca : Option Addr} {cn cc : Nat} (h : CodeAt w ca cn cc) (hx : X w w') : CodeAt w' ca cn cc :=
  ⟨h.1, fun h0 => by
    obtain ⟨b, off, h1, h2, h3⟩ := h.2 h0
    exact ⟨b, off, h1, Nat.lt_of_lt_of_le h2 hx.size, fun i hi => by
      obtain ⟨v, hv, hc⟩ := h3 i hi
      exact ⟨v, hv, (hx.cell (p := ⟨b, off + i, none⟩) h2).trans hc⟩⟩⟩
/-- What is drawn: a tree, a file. -/
def DrawnTF (w w' : World) (e : Ending) : Prop := ∃ (l : List Fi) (a : Option Addr) (n c : Nat) (f : Fi) (ba : Option Addr) (bn bc : Nat),
  e = .returned (.tuple #[.agg #[.slice a n c], .agg #[.int .i64 (f).root, .string ⟨(f).pkg.toArray⟩, .string ⟨(f).name.toArray⟩, .bool (f).init, .int .i64 (f).stamp, .slice ba bn bc]]) ∧ FilesAt w' w.heap.size a n l ∧ n ≤ c ∧ n ≤ 11 ∧ Okf f ∧ StmtsAt w' w.heap.size ba bn f.body ∧ bn ≤ bc ∧ bn ≤ 5 ∧ X w w'
end Go.Proofs.YtijcdnaammbomaaGreatDoor
