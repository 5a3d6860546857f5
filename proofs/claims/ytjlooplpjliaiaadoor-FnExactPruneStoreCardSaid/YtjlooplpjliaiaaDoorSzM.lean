/- Sizes of trees with a bound of their own; small lemmas of the exact laws over a store and a tree. No condition. -/
import Derived.Test.YtjlooplpjliaiaaDoorCoR
import Derived.Test.YtjlooplpjliaiaaDoorMk
import Derived.Test.YtjlooplpjliaiaaDoorRw
namespace Go.Proofs.YtjlooplpjliaiaaDoor
open Go.RowKit

theorem keepB1 {tb : Nat} {v : Value} {w : World} (h : Bx w tb #[v]) : w.cell? ⟨tb, 0, none⟩ = some v := h.out.2.1 0
theorem szFis_wtm {l : List Fi} {m : Int} (hm : m ≤ 1048576) (h : 0 ≤ szFis l m) : wtF l ≤ 5242880 := by
  unfold szFis at h
  split at h <;> rename_i h1
  · omega
  · have := szL_wt h
    omega
theorem FilesR.atm {w : World} {a : Option Addr} {n : Nat} {l : List Fi} {m : Int} (h : FilesR w a n l) (hm : m ≤ 1048576) (hz : 0 ≤ szFis l m) : FilesAt w 0 a n l := by
  obtain ⟨z1, z2⟩ := szFis_ok hz
  obtain ⟨vs, e, h1, _, _, h4, h5⟩ := h
  refine ⟨vs, e, h1, by omega, fun f hf => by have := z2 f hf; exact ⟨by omega, by omega⟩, h4, fun x hx => ?_⟩
  obtain ⟨ba, bn, bc, e2, hbc, hS⟩ := h5 x hx
  have hm' : x.1 ∈ l := by rw [e]; exact List.mem_map.2 ⟨x, hx, rfl⟩
  obtain ⟨_, _, b3, b4⟩ := z2 x.1 hm'
  exact ⟨ba, bn, bc, e2, hbc, hS.at (by omega) (fun s hs => by have := b4 s hs; omega)⟩
/-- Numbers of the call's own. -/
def RowI (w : World) (B : Nat) (a : Option Addr) (n c : Nat) (xs : List Value) : Prop := w.ownsRow B 3 1 (.slice a n c) n xs ∧ True
theorem RowI.mk {w : World} {B n c : Nat} {a : Option Addr} {xs : List Value} (h : w.ownsRow B 3 1 (.slice a n c) n xs) : RowI w B a n c xs := ⟨h, trivial⟩
theorem RowI.fr {w w' : World} {B n c : Nat} {a : Option Addr} {xs : List Value} (h : RowI w B a n c xs) (hx : Fr B w w') : RowI w' B a n c xs := ⟨own_fr h.1 hx, trivial⟩

end Go.Proofs.YtjlooplpjliaiaaDoor
