/- Sorting texts, each once: the program's own function, by the library's contracts. No condition but lengths. -/
import Derived.Test.YtgjfjjhmgbemcaaGreatDoorLc
import Derived.Test.YtgjfjjhmgbemcaaGreatDoorIe
import Derived.Lib.OwnBridge
import Derived.Sort.OwnSorted
namespace Go.Proofs.YtgjfjjhmgbemcaaGreatDoor
open Go.RowKit Go.Sort

theorem strs_map (l : List (List UInt8)) : strs l = l.map encStr := by
  unfold strs
  induction l with
  | nil => rfl
  | cons x l ih => rw [List.flatMap_cons, ih]; rfl
theorem own_sorted {w : World} {B g cap n q e : Nat} {os : Array Obj} {l ts : List (List UInt8)} (h : w.ownsRow B e 1 (.slice (some ⟨g, 0, none⟩) n cap) n (strs l)) (hl : l.length = n) (ht : ts.length = n) :
    (grow (putRow encStr (Sort.ahead w q) g 0 ts.toArray) os).ownsRow B e 1 (.slice (some ⟨g, 0, none⟩) n cap) n (strs ts) := by
  subst hl
  rw [strs_map] at h ⊢
  rcases h.2 with ⟨h0, _⟩ | ⟨g', cap', cur, hv, hbase, hb, h1, h2, h3, h4⟩
  · cases h0
  · injection hv with e1 _ e3
    injection e1 with e1
    injection e1 with e1
    subst e1 e3
    exact ownsRow_sorted (n := q) (os := os) (ts := ts) ht hbase hb h1 h2 h3
theorem own_put {w : World} {B g cap n q k e : Nat} {l ys : List (List UInt8)} (h : w.ownsRow B e 1 (.slice (some ⟨g, 0, none⟩) n cap) n (strs l)) (hy : ys.length = n) (hk : k ≤ n) :
    (putRow encStr (Sort.ahead w q) g 0 ys.toArray).ownsRow B e 1 (.slice (some ⟨g, 0, none⟩) k cap) k (strs (ys.take k)) := by
  rw [strs_map] at h ⊢
  exact Lib.ownsRow_putRow (enc := encStr) (zs := l) h hy hk
theorem grown_put {w : World} {g q : Nat} (d : Array (List UInt8)) : w.grownBy (putRow encStr (Sort.ahead w q) g 0 d) (some g) := by
  have := grownBy_sorted (w := w) (g := g) (n := q) (os := #[]) d
  rwa [grow_empty] at this
/-- A block of the call's own has grown. -/
theorem grown_over {w W w' : World} {row : Option Nat} {k : Nat} (h : w.grownBy W row) (hg : W.grownBy w' (some k)) (hk : w.heap.size ≤ k) : w.grownBy w' row :=
  ⟨hg.os.trans h.os, hg.tape.trans h.tape, hg.output.trans h.output, Nat.le_trans h.size hg.size, fun j hj hne => (hg.block j (Nat.lt_of_lt_of_le hj h.size) (by intro e; injection e; omega)).trans (h.block j hj hne)⟩
theorem strs_one (l : List (List UInt8)) : ∀ u ∈ strs l, u.oneCell' = true := by
  intro u hu
  rw [strs_map] at hu
  obtain ⟨x, _, rfl⟩ := List.mem_map.1 hu
  rfl
theorem strs_len (l : List (List UInt8)) : (strs l).length = l.length := by rw [strs_map, List.length_map]

set_option maxRecDepth 100000 in
set_option maxHeartbeats 1000000 in
theorem sorted_c (l : List (List UInt8)) (a : Option Addr) (n c B : Nat) (w : World) (hO : w.ownsRow B 9 1 (.slice a n c) n (strs l)) (hn : n ≤ 1048576) :
    Calls Tryz.prog 76 #[.slice a n c] w fun e w' => ∃ ra rc, e = .returned (.slice ra (sortU l).length rc) ∧ w'.ownsRow w.heap.size 9 1 (.slice ra (sortU l).length rc) (sortU l).length (strs (sortU l)) ∧ w.grownBy w' (Value.slice a n c).ownBlock := by
  have hl : l.length = n := by have := hO.1; rw [strs_len] at this; omega
  rcases Nat.eq_zero_or_pos n with h0 | h0
  · subst h0
    obtain rfl : l = [] := List.eq_nil_of_length_eq_zero hl
    have hs : sortU [] = [] := by simp [sortU, Lib.compact, Lib.compactUpTo]
    rw [hs]
    go_enter Tryz.func76, Tryz.ntmps76
    go_wp2_with (first
      | (go_at_call 129; refine (Tryz.slices_Sort_string_none _ _ _).mono ?_; rintro _ _ ⟨rfl, rfl⟩)
      | (go_at_call 130; refine (Tryz.slices_Compact_string_empty _ _ _).mono ?_; rintro _ _ ⟨rfl, rfl⟩)
      | (at_builtin; refine wpList_append_sl str_T rfl _ _ rfl (own_lit (n := 0) (size := 1) rfl (Nat.le_refl _) rfl (by omega)) rfl rfl (Sl.of_own (own_fr hO (X.fr (by (repeat (first | with_reducible exact X.refl _ | with_reducible assumption | with_reducible refine X.setCell ?_ (by first | (simp; done) | (simp; omega)) _ | with_reducible refine X.ext ?_ _ | with_reducible refine X.alloc ?_ _ | with_reducible refine X.drew ?_))) _))) (by rfl) (by simp [strs]) (by omega) (by unfold maxLen; omega) (by simp) ?_; intro a' c' w1 hO1 hg1))
    go_ret
    exact ⟨a', c', rfl, by simpa using hO1, X.grown (X.of_lit hg1) (World.grownBy.refl _ _)⟩
  · obtain ⟨g, rfl, hB, hgl⟩ := own_form hO h0
    obtain ⟨g', cap, hv, _, _, hnc, hcm, _, hH⟩ := Lib.holds_of_ownsRow (enc := encStr) (zs := l) (by rw [← strs_map]; exact hO) (by simp)
    injection hv with e1 _ e3
    injection e1 with e1
    injection e1 with e1
    subst e1 e3
    have hm : (l.mergeSort fun x y => decide (x ≤ y)).length = n := by rw [List.length_mergeSort, hl]
    have hsort := Tryz.slices_Sort_string g 0 c l w hH hgl (by omega)
    rw [hl] at hsort
    have hs : Lib.compact (l.mergeSort fun x y => decide (x ≤ y)) = sortU l := rfl
    have hk := sortU_len l
    obtain ⟨V, hV⟩ : ∃ V, sortU l = V := ⟨_, rfl⟩
    rw [hV] at hs hk ⊢
    clear hV
    have Hs := Lib.hid hs
    clear hs
    have HO := Lib.hid hO
    have Hl := Lib.hid hl
    clear hO hl hH
    generalize (l.mergeSort fun x y => decide (x ≤ y)) = m at *
    go_enter Tryz.func76, Tryz.ntmps76
    go_wp2_with fail
    refine hsort.mono ?_
    rintro _ _ ⟨rfl, q, os, rfl⟩
    have hO1 := own_sorted (q := q) (os := os) HO.out Hl.out hm
    have hg1 := grownBy_sorted (w := w) (g := g) (n := q) (os := os) m.toArray
    generalize (grow (putRow encStr (Sort.ahead w q) g 0 m.toArray) os) = W1 at *
    have hs1 : w.heap.size ≤ W1.heap.size := hg1.size
    go_wp2_with fail
    refine calls_name (fun W2 hW2 => ?_)
    have hO2 : W2.ownsRow B 9 1 (.slice (some ⟨g, 0, none⟩) n c) n (strs m) := own_fr hO1 (by rw [hW2]; exact X.fr (by (repeat (first | with_reducible exact X.refl _ | with_reducible assumption | with_reducible refine X.setCell ?_ (by first | (simp; done) | (simp; omega)) _ | with_reducible refine X.ext ?_ _ | with_reducible refine X.alloc ?_ _ | with_reducible refine X.drew ?_))) _)
    have hg2 : w.grownBy W2 (some g) := grown_x hg1 (by rw [hW2]; (repeat (first | with_reducible exact X.refl _ | with_reducible assumption | with_reducible refine X.setCell ?_ (by first | (simp; done) | (simp; omega)) _ | with_reducible refine X.ext ?_ _ | with_reducible refine X.alloc ?_ _ | with_reducible refine X.drew ?_)))
    have hL2 : W2.ownsRow w.heap.size 9 1 (.slice (some ⟨W1.heap.size, 0, none⟩) 0 0) 0 [] := by rw [hW2]; exact own_lit (n := 0) (size := 1) rfl hs1 rfl (by omega)
    have hs2 : W1.heap.size < W2.heap.size := by rw [hW2]; simp
    clear hW2 hsort
    obtain ⟨_, _, hv, _, _, _, _, _, hH2⟩ := Lib.holds_of_ownsRow (enc := encStr) (zs := m) (by rw [← strs_map]; exact hO2) (by simp)
    injection hv with e1 _ e3
    injection e1 with e1
    injection e1 with e1
    subst e1 e3
    have hcomp := Tryz.slices_Compact_string g 0 c m W2 hH2 (by omega) (by omega)
    rw [hm, Hs.out] at hcomp
    refine hcomp.mono ?_
    clear hcomp hH2
    rintro _ _ ⟨rfl, q2, rfl⟩
    have hO3 := own_put (q := q2) (k := (V).length) (ys := V ++ List.replicate (n - (V).length) []) hO2 (by simp; omega) (by omega)
    rw [List.take_left] at hO3
    have hg3 := grown_put (w := W2) (g := g) (q := q2) (V ++ List.replicate (n - (V).length) []).toArray
    generalize (putRow encStr (Sort.ahead W2 q2) g 0 (V ++ List.replicate (n - (V).length) []).toArray) = W3 at *
    have hL3 : W3.ownsRow w.heap.size 9 1 (.slice (some ⟨W1.heap.size, 0, none⟩) 0 0) 0 [] := hL2.kept hg3 (.inr (by show some W1.heap.size ≠ some g; intro e; injection e; omega))
    have hs3 := hg3.size
    have hlen := strs_len V
    have hone := strs_one V
    go_wp2_with (at_builtin; refine wpList_append_sl str_T rfl _ _ rfl hL3 rfl rfl (Sl.of_own hO3) (by rw [hlen, Nat.mul_one]) hone (by omega) (by unfold maxLen; omega) (by omega) ?_; intro a' c' w4 hO4 hg4)
    go_ret
    refine ⟨a', c', rfl, ?_, ?_⟩
    · rw [Nat.zero_add] at hO4
      simpa using hO4
    · have hg5 : w.grownBy W3 (some g) := hg2.trans hg3
      exact grown_over hg5 hg4 hs1

end Go.Proofs.YtgjfjjhmgbemcaaGreatDoor
