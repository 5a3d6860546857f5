/- The laws' own marks in slices of strings: the walks. No condition but sizes. -/
import Derived.Test.YtgjfjjhmgbemcaaDoorIb
import Derived.Test.YtgjfjjhmgbemcaaDoorExL
namespace Go.Proofs.YtgjfjjhmgbemcaaDoor
open Go.RowKit

def mtxN (k n : Nat) : List (List UInt8) := (List.range n).map fun i => mtxt (k + i)
theorem mtxN_len {k n : Nat} : (mtxN k n).length = n := by simp [mtxN]
theorem mtxN_nth {k n i : Nat} (h : i < n) : nth (mtxN k n) i = mtxt (k + i) := by
  rw [nth_eq (by rw [mtxN_len]; exact h)]
  simp [mtxN]
theorem mtD_le : ∀ k, (mtD k).length ≤ k
  | 0 => by unfold mtD; simp
  | k + 1 => by
    have := mtD_le ((k + 1) / 10)
    unfold mtD
    rw [dif_neg (by omega), List.length_append, List.length_singleton]
    omega
  decreasing_by omega
theorem mtxt_len (k : Nat) : (mtxt k).length ≤ k + 2 := by
  unfold mtxt
  split
  · simp
  · have := mtD_le k
    rw [List.length_cons]
    omega
theorem mtxN_short {k n : Nat} (h : k + n ≤ 4000000) : ∀ s ∈ mtxN k n, s.length ≤ 4194304 := by
  intro s hs
  obtain ⟨i, hi, rfl⟩ := List.mem_map.1 hs
  have := mtxt_len (k + i)
  have := List.mem_range.1 hi
  omega
theorem strsAt_of {w : World} {B e n c : Nat} {a : Option Addr} {l : List (List UInt8)} (h : w.ownsRow B e 1 (.slice a n c) n (strs l)) (hn : l.length = n) (hl : n ≤ 8388608) (hs : ∀ s ∈ l, s.length ≤ 4194304) : StrsAt w B a n l := by
  subst hn
  exact StrsAt.of_own h hl hs
end Go.Proofs.YtgjfjjhmgbemcaaDoor
