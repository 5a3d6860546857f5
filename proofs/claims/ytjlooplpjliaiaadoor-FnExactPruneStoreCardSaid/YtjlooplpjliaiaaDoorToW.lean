/- The laws' own copying of numbers and of statements. No condition but lengths. -/
import Derived.Test.YtjlooplpjliaiaaDoorToS
import Derived.Test.YtjlooplpjliaiaaDoorMk
import Derived.Deep.OwnRows
namespace Go.Proofs.YtjlooplpjliaiaaDoor
open Go.RowKit

theorem own_here {w : World} {B e size n c g : Nat} {xs : List Value} (h : w.ownsRow B e size (.slice (some ⟨g, 0, none⟩) n c) n xs) {j : Nat} (hj : j < n * size) : ∃ u, w.cell? ⟨g, j, none⟩ = some u := by
  have hl : j < xs.length := by rw [h.1]; exact hj
  exact ⟨xs[j], row_cell h j _ (List.getElem?_eq_getElem hl)⟩
theorem IntsAt.of_own {w : World} {B e c : Nat} {a : Option Addr} {l : List Int} {n : Nat} (h : w.ownsRow B e 1 (.slice a n c) n (ints l)) (hl : n = l.length) (hn : n ≤ 2097152) : IntsAt w B a n l := ⟨hl, hn, Sl.of_own h⟩

end Go.Proofs.YtjlooplpjliaiaaDoor
