/- The laws' own marks on files, the blocks told: the walk. No condition but sizes. -/
import Derived.Test.YtgjfjjhmgbemcaaDoorIb
namespace Go.Proofs.YtgjfjjhmgbemcaaDoor
open Go.RowKit

/-- A row whose block has not changed. -/
theorem own_same {w w' : World} {B e size n : Nat} {v : Value} {xs : List Value} (h : w.ownsRow B e size v n xs) (hb : ∀ b, v.ownBlock = some b → w'.heap[b]? = w.heap[b]?) : w'.ownsRow B e size v n xs := by
  refine ⟨h.1, ?_⟩
  rcases h.2 with h0 | ⟨g, cap, cur, hv, hB, hg, r⟩
  · exact .inl h0
  · exact .inr ⟨g, cap, cur, hv, hB, (hb g (by rw [hv]; rfl)).trans hg, r⟩
theorem FilesE.keepE {w w' : World} {B E E' n c : Nat} {a : Option Addr} {l : List Fi} (h : FilesE w B E a n c l) (hK : Keep E E' w w') : FilesE w' B E a n c l := by
  obtain ⟨vs, e, h1, h2, hs, h3, h4, h5⟩ := h
  refine ⟨vs, e, h1, own_same h2 fun b hb => hK.block b (h2.lt b hb).2 (.inl (h4 b hb)), hs, fun x hx => ?_, h4, h5⟩
  obtain ⟨ba, bc, e2, ho⟩ := h3 x hx
  exact ⟨ba, bc, e2, own_same ho fun b hb => hK.block b (ho.lt b hb).2 (.inl (h5 x hx b (by rw [e2]; exact hb)))⟩
end Go.Proofs.YtgjfjjhmgbemcaaDoor
