/- The laws' own comparing of bodies, files and trees (laws over []byte): the walks. No condition but lengths. -/
import Derived.Test.YtgjfjjhmgbemcaaDoorIa
import Derived.Test.YtgjfjjhmgbemcaaDoorIb
namespace Go.Proofs.YtgjfjjhmgbemcaaDoor
open Go.RowKit

theorem st_extT {s t : St} (h0 : s.kind = t.kind) (h1 : s.mod = t.mod) (h2 : s.level = t.level) (h3 : s.name = t.name) (h4 : s.val = t.val) : s = t := by
  cases s
  cases t
  simp_all
set_option maxRecDepth 100000 in
set_option maxHeartbeats 2000000 in
theorem equalBody_c (l m : List St) (a a' : Option Addr) (n n' c c' B B' : Nat) (w : World) (hL : StmtsAt w B a n l) (hM : StmtsAt w B' a' n' m) :
    Calls Tryd.prog 54 #[.slice a n c, .slice a' n' c'] w fun e w' => e = .returned (.bool (decide (l = m))) ∧ X w w' := by
  have h1 := hL.1
  have h2 := hM.1
  have hn := hL.2.1
  have Hl := Lib.hid h1
  have Hm := Lib.hid h2
  by_cases hne : n = n'
  · subst hne
    clear h1 h2
    go_enter Tryd.func54, Tryd.ntmps54
    go_wp2
    go_loopw [5] (fun i wr => ∃ k : Nat, k ≤ n ∧ i = .int .i64 k ∧ allN (fun k => decide (nth l k = nth m k)) k = true ∧ ∃ x, wr = World.ext w x) (fun i _ => n - (intOf i).toNat)
    case atStart => exact ⟨0, by omega, rfl, rfl, X.refl _⟩
    case round =>
      obtain ⟨k, hk, rfl, hall, x, rfl⟩ := hrel
      by_cases hlt : k < n
      · obtain ⟨b, off, rfl, _, hb, _, g0, g1, g2, g3, g4⟩ := hL.at_ hlt
        obtain ⟨b', off', rfl, _, hb', _, u0, u1, u2, u3, u4⟩ := hM.at_ hlt
        have hk1 : (k : Int) < (n : Int) := by omega
        generalize hs : nth l k = s at *
        generalize ht : nth m k = t at *
        have Hs := Lib.hid hs
        have Ht := Lib.hid ht
        clear hs ht
        by_cases e0 : s.kind = t.kind
        case neg =>
          go_wp2
          go_region
          go_wp2
          go_ret
          exact ⟨ret_boolW (by rw [decide_eq_false]; intro e; exact e0 (by rw [← Hs.out, ← Ht.out, e])), by (repeat (first | exact X.refl _ | assumption | refine X.ext ?_ _ | refine X.alloc ?_ _ | refine X.drew ?_))⟩
        by_cases e1 : s.mod = t.mod
        case neg =>
          go_wp2
          go_region
          go_wp2
          go_ret
          exact ⟨ret_boolW (by rw [decide_eq_false]; intro e; exact e1 (by rw [← Hs.out, ← Ht.out, e])), by (repeat (first | exact X.refl _ | assumption | refine X.ext ?_ _ | refine X.alloc ?_ _ | refine X.drew ?_))⟩
        by_cases e2 : s.level = t.level
        case neg =>
          go_wp2
          go_region
          go_wp2
          go_ret
          exact ⟨ret_boolW (by rw [decide_eq_false]; intro e; exact e2 (by rw [← Hs.out, ← Ht.out, e])), by (repeat (first | exact X.refl _ | assumption | refine X.ext ?_ _ | refine X.alloc ?_ _ | refine X.drew ?_))⟩
        by_cases e3 : s.name = t.name
        case neg =>
          go_wp2
          go_region
          go_wp2
          go_ret
          exact ⟨ret_boolW (by rw [decide_eq_false]; intro e; exact e3 (by rw [← Hs.out, ← Ht.out, e])), by (repeat (first | exact X.refl _ | assumption | refine X.ext ?_ _ | refine X.alloc ?_ _ | refine X.drew ?_))⟩
        by_cases e4 : s.val = t.val
        case neg =>
          go_wp2
          go_region
          go_wp2
          go_ret
          exact ⟨ret_boolW (by rw [decide_eq_false]; intro e; exact e4 (by rw [← Hs.out, ← Ht.out, e])), by (repeat (first | exact X.refl _ | assumption | refine X.ext ?_ _ | refine X.alloc ?_ _ | refine X.drew ?_))⟩
        go_wp2
        go_region
        go_wp2
        go_roundw
        case rel => exact ⟨k + 1, by omega, by go_num, allN_next hall (decide_eq_true (by rw [Hs.out, Ht.out]; exact st_extT e0 e1 e2 e3 e4)), by (repeat (first | exact X.refl _ | assumption | refine X.ext ?_ _ | refine X.alloc ?_ _ | refine X.drew ?_))⟩
        case measure => simp [intOf]; omega
      · obtain rfl : k = n := by omega
        go_wp2
        go_ret
        refine ⟨ret_boolW ?_, by (repeat (first | exact X.refl _ | assumption | refine X.ext ?_ _ | refine X.alloc ?_ _ | refine X.drew ?_))⟩
        rw [decide_eq_true]
        exact nth_ext2 (by rw [← Hl.out, ← Hm.out]) fun j hj => of_decide_eq_true (allN_iff.1 hall j (by rw [Hl.out]; exact hj))
  · go_enter Tryd.func54, Tryd.ntmps54
    go_wp2
    go_ret
    exact ⟨ret_boolW (by rw [decide_eq_false]; intro e; apply hne; rw [h1, h2, e]), by (repeat (first | exact X.refl _ | assumption | refine X.ext ?_ _ | refine X.alloc ?_ _ | refine X.drew ?_))⟩

set_option maxRecDepth 100000 in
set_option maxHeartbeats 1000000 in
theorem equalFile_c (f g : Fi) (ba ba' : Option Addr) (bn bc bn' bc' B B' : Nat) (w : World) (hS : StmtsAt w B ba bn f.body) (hS' : StmtsAt w B' ba' bn' g.body) :
    Calls Tryd.prog 35 #[.agg #[.int .i64 (f).root, .string ⟨(f).pkg.toArray⟩, .string ⟨(f).name.toArray⟩, .bool (f).init, .int .i64 (f).stamp, .slice ba bn bc], .agg #[.int .i64 (g).root, .string ⟨(g).pkg.toArray⟩, .string ⟨(g).name.toArray⟩, .bool (g).init, .int .i64 (g).stamp, .slice ba' bn' bc']] w fun e w' => e = .returned (.bool (decide (f = g))) ∧ X w w' := by
  obtain ⟨r, pk, nm, it, st, bo⟩ := f
  obtain ⟨r', pk', nm', it', st', bo'⟩ := g
  have hR : decide ((⟨r, pk, nm, it, st, bo⟩ : Fi) = ⟨r', pk', nm', it', st', bo'⟩) = ((r == r') && (pk == pk') && (nm == nm') && (it == it') && (st == st') && decide (bo = bo')) := by
    rw [Bool.eq_iff_iff]; simp [and_assoc]
  rw [hR]
  clear hR
  cases h1 : r == r'
  · go_enter Tryd.func35, Tryd.ntmps35
    go_wp2
    go_ret
    exact ⟨by simp, by (repeat (first | exact X.refl _ | assumption | refine X.ext ?_ _ | refine X.alloc ?_ _ | refine X.drew ?_))⟩
  cases h2 : pk == pk'
  · go_enter Tryd.func35, Tryd.ntmps35
    go_wp2
    go_ret
    exact ⟨by simp, by (repeat (first | exact X.refl _ | assumption | refine X.ext ?_ _ | refine X.alloc ?_ _ | refine X.drew ?_))⟩
  cases h3 : nm == nm'
  · go_enter Tryd.func35, Tryd.ntmps35
    go_wp2
    go_ret
    exact ⟨by simp, by (repeat (first | exact X.refl _ | assumption | refine X.ext ?_ _ | refine X.alloc ?_ _ | refine X.drew ?_))⟩
  cases h4 : it == it'
  · go_enter Tryd.func35, Tryd.ntmps35
    go_wp2
    go_ret
    exact ⟨by simp, by (repeat (first | exact X.refl _ | assumption | refine X.ext ?_ _ | refine X.alloc ?_ _ | refine X.drew ?_))⟩
  cases h5 : st == st'
  · go_enter Tryd.func35, Tryd.ntmps35
    go_wp2
    go_ret
    exact ⟨by simp, by (repeat (first | exact X.refl _ | assumption | refine X.ext ?_ _ | refine X.alloc ?_ _ | refine X.drew ?_))⟩
  cases h6 : decide (bo = bo')
  all_goals
    go_enter Tryd.func35, Tryd.ntmps35
    go_wp2_with (go_at_call 54; refine (equalBody_c bo bo' _ _ _ _ _ _ _ _ _ (hS.mono (X.fr (by (repeat (first | exact X.refl _ | assumption | refine X.ext ?_ _ | refine X.alloc ?_ _ | refine X.drew ?_))) _)) (hS'.mono (X.fr (by (repeat (first | exact X.refl _ | assumption | refine X.ext ?_ _ | refine X.alloc ?_ _ | refine X.drew ?_))) _))).mono ?_; rintro _ _ ⟨rfl, hx⟩; replace hx := X.trans (a := w) (by (repeat (first | exact X.refl _ | assumption | refine X.ext ?_ _ | refine X.alloc ?_ _ | refine X.drew ?_))) hx; obtain ⟨x, rfl⟩ := hx; rw [h6])
    go_ret
    exact ⟨by simp, by (repeat (first | exact X.refl _ | assumption | refine X.ext ?_ _ | refine X.alloc ?_ _ | refine X.drew ?_))⟩

set_option maxRecDepth 100000 in
set_option maxHeartbeats 2000000 in
theorem equalTree_c (l m : List Fi) (a a' : Option Addr) (n n' c c' B B' : Nat) (w : World) (hL : FilesAt w B a n l) (hM : FilesAt w B' a' n' m) :
    Calls Tryd.prog 11 #[.agg #[.slice a n c], .agg #[.slice a' n' c']] w fun e w' => e = .returned (.bool (decide (l = m))) ∧ X w w' := by
  have h1 := hL.len.1
  have h2 := hM.len.1
  have hn := hL.len.2
  have Hl := Lib.hid h1
  have Hm := Lib.hid h2
  by_cases hne : n = n'
  · subst hne
    clear h1 h2
    go_enter Tryd.func11, Tryd.ntmps11
    go_wp2
    refine wp_name (fun W hW => ?_)
    obtain ⟨hB1, hB2, hX⟩ := bx2 hW
    clear hW
    replace hL := hL.mono (hX.fr _)
    replace hM := hM.mono (hX.fr _)
    obtain ⟨lt1, q1, _⟩ := hB1.out
    obtain ⟨lt2, q2, _⟩ := hB2.out
    have t1 := q1 0
    have t2 := q2 0
    clear q1 q2
    go_loopw [5] (fun i wr => ∃ k : Nat, k ≤ n ∧ i = .int .i64 k ∧ allN (fun k => decide (nth l k = nth m k)) k = true ∧ ∃ x, wr = World.ext W x) (fun i _ => n - (intOf i).toNat)
    case atStart => exact ⟨0, by omega, rfl, rfl, X.refl _⟩
    case round =>
      obtain ⟨k, hk, rfl, hall, x, rfl⟩ := hrel
      by_cases hlt : k < n
      · obtain ⟨b, off, ba, bn, bc, rfl, _, hb, _, _, hS, g0, g1, g2, g3, g4, g5⟩ := hL.at_ hlt
        obtain ⟨b', off', ba', bn', bc', rfl, _, hb', _, _, hS', u0, u1, u2, u3, u4, u5⟩ := hM.at_ hlt
        cases hd : decide (nth l k = nth m k)
        all_goals
          go_wp2
          refine wp_region_grow (by kernel_rfl) (by kernel_rfl) ?_
          repeat (go_big_quiet_step (((go_at_call 35; refine grow_of (equalFile_c (nth l k) (nth m k) ba ba' bn bc bn' bc' _ _ _ (hS.mono (X.fr (by (repeat (first | exact X.refl _ | assumption | refine X.ext ?_ _ | refine X.alloc ?_ _ | refine X.drew ?_))) _)) (hS'.mono (X.fr (by (repeat (first | exact X.refl _ | assumption | refine X.ext ?_ _ | refine X.alloc ?_ _ | refine X.drew ?_))) _)))))))
          refine wpQuiet_nil ?_
          rintro _ ⟨y, rfl⟩
          go_wp2
        · go_ret
          have hs : ¬ nth l k = nth m k := of_decide_eq_false hd
          exact ⟨ret_boolW (by rw [decide_eq_false]; intro e; exact hs (by rw [e])), hX.trans (by (repeat (first | exact X.refl _ | assumption | refine X.ext ?_ _ | refine X.alloc ?_ _ | refine X.drew ?_)))⟩
        · go_roundw
          case rel => exact ⟨k + 1, by omega, by go_num, allN_next hall hd, _, rfl⟩
          case measure => simp [intOf]; omega
      · obtain rfl : k = n := by omega
        go_wp2
        go_ret
        refine ⟨ret_boolW ?_, hX.trans (by (repeat (first | exact X.refl _ | assumption | refine X.ext ?_ _ | refine X.alloc ?_ _ | refine X.drew ?_)))⟩
        rw [decide_eq_true]
        exact nth_ext2 (by rw [← Hl.out, ← Hm.out]) fun j hj => of_decide_eq_true (allN_iff.1 hall j (by rw [Hl.out]; exact hj))
  · go_enter Tryd.func11, Tryd.ntmps11
    go_wp2
    go_ret
    exact ⟨ret_boolW (by rw [decide_eq_false]; intro e; apply hne; rw [h1, h2, e]), by (repeat (first | exact X.refl _ | assumption | refine X.ext ?_ _ | refine X.alloc ?_ _ | refine X.drew ?_))⟩

end Go.Proofs.YtgjfjjhmgbemcaaDoor
