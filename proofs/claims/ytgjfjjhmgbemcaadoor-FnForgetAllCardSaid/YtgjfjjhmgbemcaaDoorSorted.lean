/- Sorting texts, each once: the program's own function, by the library's contracts. No condition but lengths. -/
import Derived.Test.YtgjfjjhmgbemcaaDoorLc
import Derived.Test.YtgjfjjhmgbemcaaDoorIe
import Derived.Lib.OwnBridge
import Derived.Sort.OwnSorted
namespace Go.Proofs.YtgjfjjhmgbemcaaDoor
open Go.RowKit Go.Sort

theorem strs_map (l : List (List UInt8)) : strs l = l.map encStr := by
  unfold strs
  induction l with
  | nil => rfl
  | cons x l ih => rw [List.flatMap_cons, ih]; rfl
theorem own_sorted {w : World} {B g cap n q e : Nat} {os : Array Obj} {l ts : List (List UInt8)} (h : w.ownsRow B e 1 (.slice (some ⟨g, 0, none⟩) n cap) n (strs l)) (hl : l.length = n) (ht : ts.length = n) :
    (grow (putRow encStr (Sort.ahead w q) g 0 ts.toArray) os).ownsRow B e 1 (.slice (some ⟨g, 0, none⟩) n cap) n (strs ts) := by
  subst hl
  rw [strs_map] at h ⊢
  rcases h.2 with ⟨h0, _⟩ | ⟨g', cap', cur, hv, hbase, hb, h1, h2, h3, h4⟩
  · cases h0
  · injection hv with e1 _ e3
    injection e1 with e1
    injection e1 with e1
    subst e1 e3
    exact ownsRow_sorted (n := q) (os := os) (ts := ts) ht hbase hb h1 h2 h3
theorem own_put {w : World} {B g cap n q k e : Nat} {l ys : List (List UInt8)} (h : w.ownsRow B e 1 (.slice (some ⟨g, 0, none⟩) n cap) n (strs l)) (hy : ys.length = n) (hk : k ≤ n) :
    (putRow encStr (Sort.ahead w q) g 0 ys.toArray).ownsRow B e 1 (.slice (some ⟨g, 0, none⟩) k cap) k (strs (ys.take k)) := by
  rw [strs_map] at h ⊢
  exact Lib.ownsRow_putRow (enc := encStr) (zs := l) h hy hk
theorem grown_put {w : World} {g q : Nat} (d : Array (List UInt8)) : w.grownBy (putRow encStr (Sort.ahead w q) g 0 d) (some g) := by
  have := grownBy_sorted (w := w) (g := g) (n := q) (os := #[]) d
  rwa [grow_empty] at this
/-- A block of the call's own has grown. -/
theorem grown_over {w W w' : World} {row : Option Nat} {k : Nat} (h : w.grownBy W row) (hg : W.grownBy w' (some k)) (hk : w.heap.size ≤ k) : w.grownBy w' row :=
  ⟨hg.os.trans h.os, hg.tape.trans h.tape, hg.output.trans h.output, Nat.le_trans h.size hg.size, fun j hj hne => (hg.block j (Nat.lt_of_lt_of_le hj h.size) (by intro e; injection e; omega)).trans (h.block j hj hne)⟩
theorem strs_one (l : List (List UInt8)) : ∀ u ∈ strs l, u.oneCell' = true := by
  intro u hu
  rw [strs_map] at hu
  obtain ⟨x, _, rfl⟩ := List.mem_map.1 hu
  rfl
theorem strs_len (l : List (List UInt8)) : (strs l).length = l.length := by rw [strs_map, List.length_map]

end Go.Proofs.YtgjfjjhmgbemcaaDoor
