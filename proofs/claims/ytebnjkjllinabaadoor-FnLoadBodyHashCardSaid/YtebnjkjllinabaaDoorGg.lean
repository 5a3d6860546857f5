/- Several texts in one: SameB, EqH, Wrong, Prune, PruneS, StLaw. No condition but lengths. -/
import Derived.Test.YtebnjkjllinabaaDoorGa
import Derived.Test.YtebnjkjllinabaaDoorGc
import Derived.Test.YtebnjkjllinabaaDoorGf
import Derived.Test.YtebnjkjllinabaaDoorGe
namespace Go.Proofs.YtebnjkjllinabaaDoor
open Go.RowKit

theorem st_ext {s t : St} (h0 : s.kind = t.kind) (h1 : s.mod = t.mod) (h2 : s.level = t.level) (h3 : s.name = t.name) (h4 : s.val = t.val) : s = t := by
  cases s
  cases t
  simp_all
set_option maxRecDepth 100000 in
set_option maxHeartbeats 2000000 in
theorem sameBody_c (l m : List St) (a a' : Option Addr) (n n' c c' B B' : Nat) (w : World) (hL : StmtsAt w B a n l) (hM : StmtsAt w B' a' n' m) :
    Calls Tryd.prog 65 #[.slice a n c, .slice a' n' c'] w fun e w' => e = .returned (.bool (decide (l = m))) ∧ X w w' := by
  have h1 := hL.1
  have h2 := hM.1
  have hn := hL.2.1
  have Hl := Lib.hid h1
  have Hm := Lib.hid h2
  by_cases hne : n = n'
  · subst hne
    clear h1 h2
    go_enter Tryd.func65, Tryd.ntmps65
    go_wp2
    go_loopw [5] (fun i wr => ∃ k : Nat, k ≤ n ∧ i = .int .i64 k ∧ allN (fun k => decide (nth l k = nth m k)) k = true ∧ ∃ x, wr = World.ext w x) (fun i _ => n - (intOf i).toNat)
    case atStart => exact ⟨0, by omega, rfl, rfl, X.refl _⟩
    case round =>
      obtain ⟨k, hk, rfl, hall, x, rfl⟩ := hrel
      by_cases hlt : k < n
      · obtain ⟨b, off, rfl, _, hb, _, g0, g1, g2, g3, g4⟩ := hL.at_ hlt
        obtain ⟨b', off', rfl, _, hb', _, u0, u1, u2, u3, u4⟩ := hM.at_ hlt
        have hk1 : (k : Int) < (n : Int) := by omega
        generalize hs : nth l k = s at *
        generalize ht : nth m k = t at *
        have Hs := Lib.hid hs
        have Ht := Lib.hid ht
        clear hs ht
        by_cases e0 : s.kind = t.kind
        case neg =>
          go_wp2
          go_region
          go_wp2
          go_ret
          exact ⟨ret_boolW (by rw [decide_eq_false]; intro e; exact e0 (by rw [← Hs.out, ← Ht.out, e])), by (repeat (first | exact X.refl _ | assumption | refine X.ext ?_ _ | refine X.alloc ?_ _ | refine X.drew ?_))⟩
        by_cases e1 : s.mod = t.mod
        case neg =>
          go_wp2
          go_region
          go_wp2
          go_ret
          exact ⟨ret_boolW (by rw [decide_eq_false]; intro e; exact e1 (by rw [← Hs.out, ← Ht.out, e])), by (repeat (first | exact X.refl _ | assumption | refine X.ext ?_ _ | refine X.alloc ?_ _ | refine X.drew ?_))⟩
        by_cases e2 : s.level = t.level
        case neg =>
          go_wp2
          go_region
          go_wp2
          go_ret
          exact ⟨ret_boolW (by rw [decide_eq_false]; intro e; exact e2 (by rw [← Hs.out, ← Ht.out, e])), by (repeat (first | exact X.refl _ | assumption | refine X.ext ?_ _ | refine X.alloc ?_ _ | refine X.drew ?_))⟩
        by_cases e3 : s.name = t.name
        case neg =>
          go_wp2
          go_region
          go_wp2
          go_ret
          exact ⟨ret_boolW (by rw [decide_eq_false]; intro e; exact e3 (by rw [← Hs.out, ← Ht.out, e])), by (repeat (first | exact X.refl _ | assumption | refine X.ext ?_ _ | refine X.alloc ?_ _ | refine X.drew ?_))⟩
        by_cases e4 : s.val = t.val
        case neg =>
          go_wp2
          go_region
          go_wp2
          go_ret
          exact ⟨ret_boolW (by rw [decide_eq_false]; intro e; exact e4 (by rw [← Hs.out, ← Ht.out, e])), by (repeat (first | exact X.refl _ | assumption | refine X.ext ?_ _ | refine X.alloc ?_ _ | refine X.drew ?_))⟩
        go_wp2
        go_region
        go_wp2
        go_roundw
        case rel => exact ⟨k + 1, by omega, by go_num, allN_next hall (decide_eq_true (by rw [Hs.out, Ht.out]; exact st_ext e0 e1 e2 e3 e4)), by (repeat (first | exact X.refl _ | assumption | refine X.ext ?_ _ | refine X.alloc ?_ _ | refine X.drew ?_))⟩
        case measure => simp [intOf]; omega
      · obtain rfl : k = n := by omega
        go_wp2
        go_ret
        refine ⟨ret_boolW ?_, by (repeat (first | exact X.refl _ | assumption | refine X.ext ?_ _ | refine X.alloc ?_ _ | refine X.drew ?_))⟩
        rw [decide_eq_true]
        exact nth_ext2 (by rw [← Hl.out, ← Hm.out]) fun j hj => of_decide_eq_true (allN_iff.1 hall j (by rw [Hl.out]; exact hj))
  · go_enter Tryd.func65, Tryd.ntmps65
    go_wp2
    go_ret
    exact ⟨ret_boolW (by rw [decide_eq_false]; intro e; apply hne; rw [h1, h2, e]), by (repeat (first | exact X.refl _ | assumption | refine X.ext ?_ _ | refine X.alloc ?_ _ | refine X.drew ?_))⟩

set_option maxRecDepth 100000 in
set_option maxHeartbeats 2000000 in
theorem EqualS_c (l m : List St) (a a' : Option Addr) (n n' c c' B B' : Nat) (w : World) (hL : StmtsAt w B a n l) (hM : StmtsAt w B' a' n' m) :
    Calls Tryd.prog 44 #[.slice a n c, .slice a' n' c'] w fun e w' => e = .returned (.bool (decide (l = m))) ∧ X w w' := by
  have h1 := hL.1
  have h2 := hM.1
  have hn := hL.2.1
  have Hl := Lib.hid h1
  have Hm := Lib.hid h2
  by_cases hne : n = n'
  · subst hne
    clear h1 h2
    go_enter Tryd.func44, Tryd.ntmps44
    go_wp2
    go_loopw [13] (fun i wr => ∃ k : Nat, k ≤ n ∧ i = .int .i64 k ∧ allN (fun k => decide (nth l k = nth m k)) k = true ∧ ∃ x, wr = World.ext w x) (fun i _ => n - (intOf i).toNat)
    case atStart => exact ⟨0, by omega, rfl, rfl, X.refl _⟩
    case round =>
      obtain ⟨k, hk, rfl, hall, x, rfl⟩ := hrel
      by_cases hlt : k < n
      · obtain ⟨b, off, rfl, _, hb, _, g0, g1, g2, g3, g4⟩ := hL.at_ hlt
        obtain ⟨b', off', rfl, _, hb', _, u0, u1, u2, u3, u4⟩ := hM.at_ hlt
        have hk1 : (k : Int) < (n : Int) := by omega
        generalize hs : nth l k = s at *
        generalize ht : nth m k = t at *
        have Hs := Lib.hid hs
        have Ht := Lib.hid ht
        clear hs ht
        by_cases e0 : s.kind = t.kind
        case neg =>
          go_wp2
          go_region
          go_wp2
          go_ret
          exact ⟨ret_boolW (by rw [decide_eq_false]; intro e; exact e0 (by rw [← Hs.out, ← Ht.out, e])), by (repeat (first | exact X.refl _ | assumption | refine X.ext ?_ _ | refine X.alloc ?_ _ | refine X.drew ?_))⟩
        by_cases e1 : s.mod = t.mod
        case neg =>
          go_wp2
          go_region
          go_wp2
          go_ret
          exact ⟨ret_boolW (by rw [decide_eq_false]; intro e; exact e1 (by rw [← Hs.out, ← Ht.out, e])), by (repeat (first | exact X.refl _ | assumption | refine X.ext ?_ _ | refine X.alloc ?_ _ | refine X.drew ?_))⟩
        by_cases e2 : s.level = t.level
        case neg =>
          go_wp2
          go_region
          go_wp2
          go_ret
          exact ⟨ret_boolW (by rw [decide_eq_false]; intro e; exact e2 (by rw [← Hs.out, ← Ht.out, e])), by (repeat (first | exact X.refl _ | assumption | refine X.ext ?_ _ | refine X.alloc ?_ _ | refine X.drew ?_))⟩
        by_cases e3 : s.name = t.name
        case neg =>
          go_wp2
          go_region
          go_wp2
          go_ret
          exact ⟨ret_boolW (by rw [decide_eq_false]; intro e; exact e3 (by rw [← Hs.out, ← Ht.out, e])), by (repeat (first | exact X.refl _ | assumption | refine X.ext ?_ _ | refine X.alloc ?_ _ | refine X.drew ?_))⟩
        by_cases e4 : s.val = t.val
        case neg =>
          go_wp2
          go_region
          go_wp2
          go_ret
          exact ⟨ret_boolW (by rw [decide_eq_false]; intro e; exact e4 (by rw [← Hs.out, ← Ht.out, e])), by (repeat (first | exact X.refl _ | assumption | refine X.ext ?_ _ | refine X.alloc ?_ _ | refine X.drew ?_))⟩
        go_wp2
        go_region
        go_wp2
        go_roundw
        case rel => exact ⟨k + 1, by omega, by go_num, allN_next hall (decide_eq_true (by rw [Hs.out, Ht.out]; exact st_ext e0 e1 e2 e3 e4)), by (repeat (first | exact X.refl _ | assumption | refine X.ext ?_ _ | refine X.alloc ?_ _ | refine X.drew ?_))⟩
        case measure => simp [intOf]; omega
      · obtain rfl : k = n := by omega
        go_wp2
        go_ret
        refine ⟨ret_boolW ?_, by (repeat (first | exact X.refl _ | assumption | refine X.ext ?_ _ | refine X.alloc ?_ _ | refine X.drew ?_))⟩
        rw [decide_eq_true]
        exact nth_ext2 (by rw [← Hl.out, ← Hm.out]) fun j hj => of_decide_eq_true (allN_iff.1 hall j (by rw [Hl.out]; exact hj))
  · go_enter Tryd.func44, Tryd.ntmps44
    go_wp2
    go_ret
    exact ⟨ret_boolW (by rw [decide_eq_false]; intro e; apply hne; rw [h1, h2, e]), by (repeat (first | exact X.refl _ | assumption | refine X.ext ?_ _ | refine X.alloc ?_ _ | refine X.drew ?_))⟩

end Go.Proofs.YtebnjkjllinabaaDoor

namespace Go.Proofs.YtebnjkjllinabaaDoor
open Go.RowKit

set_option maxRecDepth 100000 in
set_option maxHeartbeats 2000000 in
theorem equalBody_c (l m : List St) (a a' : Option Addr) (n n' c c' B B' : Nat) (w : World) (hL : StmtsAt w B a n l) (hM : StmtsAt w B' a' n' m) :
    Calls Tryd.prog 20 #[.slice a n c, .slice a' n' c'] w fun e w' => e = .returned (.bool (decide (l = m))) ∧ X w w' := by
  have h1 := hL.1
  have h2 := hM.1
  have hn := hL.2.1
  have Hl := Lib.hid h1
  have Hm := Lib.hid h2
  by_cases hne : n = n'
  · subst hne
    clear h1 h2
    go_enter Tryd.func20, Tryd.ntmps20
    go_wp2
    go_loopw [5] (fun i wr => ∃ k : Nat, k ≤ n ∧ i = .int .i64 k ∧ allN (fun k => decide (nth l k = nth m k)) k = true ∧ ∃ x, wr = World.ext w x) (fun i _ => n - (intOf i).toNat)
    case atStart => exact ⟨0, by omega, rfl, rfl, X.refl _⟩
    case round =>
      obtain ⟨k, hk, rfl, hall, x, rfl⟩ := hrel
      by_cases hlt : k < n
      · obtain ⟨b, off, rfl, _, hb, _, g0, g1, g2, g3, g4⟩ := hL.at_ hlt
        obtain ⟨b', off', rfl, _, hb', _, u0, u1, u2, u3, u4⟩ := hM.at_ hlt
        have hk1 : (k : Int) < (n : Int) := by omega
        generalize hs : nth l k = s at *
        generalize ht : nth m k = t at *
        have Hs := Lib.hid hs
        have Ht := Lib.hid ht
        clear hs ht
        by_cases e0 : s.kind = t.kind
        case neg =>
          go_wp2
          go_region
          go_wp2
          go_ret
          exact ⟨ret_boolW (by rw [decide_eq_false]; intro e; exact e0 (by rw [← Hs.out, ← Ht.out, e])), by (repeat (first | exact X.refl _ | assumption | refine X.ext ?_ _ | refine X.alloc ?_ _ | refine X.drew ?_))⟩
        by_cases e1 : s.mod = t.mod
        case neg =>
          go_wp2
          go_region
          go_wp2
          go_ret
          exact ⟨ret_boolW (by rw [decide_eq_false]; intro e; exact e1 (by rw [← Hs.out, ← Ht.out, e])), by (repeat (first | exact X.refl _ | assumption | refine X.ext ?_ _ | refine X.alloc ?_ _ | refine X.drew ?_))⟩
        by_cases e2 : s.level = t.level
        case neg =>
          go_wp2
          go_region
          go_wp2
          go_ret
          exact ⟨ret_boolW (by rw [decide_eq_false]; intro e; exact e2 (by rw [← Hs.out, ← Ht.out, e])), by (repeat (first | exact X.refl _ | assumption | refine X.ext ?_ _ | refine X.alloc ?_ _ | refine X.drew ?_))⟩
        by_cases e3 : s.name = t.name
        case neg =>
          go_wp2
          go_region
          go_wp2
          go_ret
          exact ⟨ret_boolW (by rw [decide_eq_false]; intro e; exact e3 (by rw [← Hs.out, ← Ht.out, e])), by (repeat (first | exact X.refl _ | assumption | refine X.ext ?_ _ | refine X.alloc ?_ _ | refine X.drew ?_))⟩
        by_cases e4 : s.val = t.val
        case neg =>
          go_wp2
          go_region
          go_wp2
          go_ret
          exact ⟨ret_boolW (by rw [decide_eq_false]; intro e; exact e4 (by rw [← Hs.out, ← Ht.out, e])), by (repeat (first | exact X.refl _ | assumption | refine X.ext ?_ _ | refine X.alloc ?_ _ | refine X.drew ?_))⟩
        go_wp2
        go_region
        go_wp2
        go_roundw
        case rel => exact ⟨k + 1, by omega, by go_num, allN_next hall (decide_eq_true (by rw [Hs.out, Ht.out]; exact st_ext e0 e1 e2 e3 e4)), by (repeat (first | exact X.refl _ | assumption | refine X.ext ?_ _ | refine X.alloc ?_ _ | refine X.drew ?_))⟩
        case measure => simp [intOf]; omega
      · obtain rfl : k = n := by omega
        go_wp2
        go_ret
        refine ⟨ret_boolW ?_, by (repeat (first | exact X.refl _ | assumption | refine X.ext ?_ _ | refine X.alloc ?_ _ | refine X.drew ?_))⟩
        rw [decide_eq_true]
        exact nth_ext2 (by rw [← Hl.out, ← Hm.out]) fun j hj => of_decide_eq_true (allN_iff.1 hall j (by rw [Hl.out]; exact hj))
  · go_enter Tryd.func20, Tryd.ntmps20
    go_wp2
    go_ret
    exact ⟨ret_boolW (by rw [decide_eq_false]; intro e; apply hne; rw [h1, h2, e]), by (repeat (first | exact X.refl _ | assumption | refine X.ext ?_ _ | refine X.alloc ?_ _ | refine X.drew ?_))⟩

set_option maxRecDepth 100000 in
set_option maxHeartbeats 1000000 in
theorem equalCompiled_c (f g : Co) (ba ba' : Option Addr) (bn bc bn' bc' B B' : Nat) (w : World) (hS : StmtsAt w B ba bn f.body) (hS' : StmtsAt w B' ba' bn' g.body) :
    Calls Tryd.prog 36 #[.agg #[.int .i64 (f).root, .string ⟨(f).mod.toArray⟩, .bool (f).init, .int .i64 (f).mode, .int .i64 (f).stamp, .int .i64 (f).size, .int .i64 (f).hash, .slice ba bn bc], .agg #[.int .i64 (g).root, .string ⟨(g).mod.toArray⟩, .bool (g).init, .int .i64 (g).mode, .int .i64 (g).stamp, .int .i64 (g).size, .int .i64 (g).hash, .slice ba' bn' bc']] w fun e w' => e = .returned (.bool (decide (f = g))) ∧ X w w' := by
  obtain ⟨r, pk, it, mo, st, sz, hs, bo⟩ := f
  obtain ⟨r', pk', it', mo', st', sz', hs', bo'⟩ := g
  have hR : decide ((⟨r, pk, it, mo, st, sz, hs, bo⟩ : Co) = ⟨r', pk', it', mo', st', sz', hs', bo'⟩) = ((r == r') && (pk == pk') && (it == it') && (mo == mo') && (st == st') && (sz == sz') && (hs == hs') && decide (bo = bo')) := by
    rw [Bool.eq_iff_iff]; simp [and_assoc]
  rw [hR]
  clear hR
  cases h1 : r == r'
  · go_enter Tryd.func36, Tryd.ntmps36
    go_wp2
    go_ret
    exact ⟨by simp, by (repeat (first | exact X.refl _ | assumption | refine X.ext ?_ _ | refine X.alloc ?_ _ | refine X.drew ?_))⟩
  cases h2 : pk == pk'
  · go_enter Tryd.func36, Tryd.ntmps36
    go_wp2
    go_ret
    exact ⟨by simp, by (repeat (first | exact X.refl _ | assumption | refine X.ext ?_ _ | refine X.alloc ?_ _ | refine X.drew ?_))⟩
  cases h3 : it == it'
  · go_enter Tryd.func36, Tryd.ntmps36
    go_wp2
    go_ret
    exact ⟨by simp, by (repeat (first | exact X.refl _ | assumption | refine X.ext ?_ _ | refine X.alloc ?_ _ | refine X.drew ?_))⟩
  cases h4 : mo == mo'
  · go_enter Tryd.func36, Tryd.ntmps36
    go_wp2
    go_ret
    exact ⟨by simp, by (repeat (first | exact X.refl _ | assumption | refine X.ext ?_ _ | refine X.alloc ?_ _ | refine X.drew ?_))⟩
  cases h5 : st == st'
  · go_enter Tryd.func36, Tryd.ntmps36
    go_wp2
    go_ret
    exact ⟨by simp, by (repeat (first | exact X.refl _ | assumption | refine X.ext ?_ _ | refine X.alloc ?_ _ | refine X.drew ?_))⟩
  cases h7 : sz == sz'
  · go_enter Tryd.func36, Tryd.ntmps36
    go_wp2
    go_ret
    exact ⟨by simp, by (repeat (first | exact X.refl _ | assumption | refine X.ext ?_ _ | refine X.alloc ?_ _ | refine X.drew ?_))⟩
  cases h8 : hs == hs'
  · go_enter Tryd.func36, Tryd.ntmps36
    go_wp2
    go_ret
    exact ⟨by simp, by (repeat (first | exact X.refl _ | assumption | refine X.ext ?_ _ | refine X.alloc ?_ _ | refine X.drew ?_))⟩
  cases h6 : decide (bo = bo')
  all_goals
    go_enter Tryd.func36, Tryd.ntmps36
    go_wp2_with (go_at_call 20; refine (equalBody_c bo bo' _ _ _ _ _ _ _ _ _ (hS.mono (X.fr (by (repeat (first | exact X.refl _ | assumption | refine X.ext ?_ _ | refine X.alloc ?_ _ | refine X.drew ?_))) _)) (hS'.mono (X.fr (by (repeat (first | exact X.refl _ | assumption | refine X.ext ?_ _ | refine X.alloc ?_ _ | refine X.drew ?_))) _))).mono ?_; rintro _ _ ⟨rfl, hx⟩; replace hx := X.trans (a := w) (by (repeat (first | exact X.refl _ | assumption | refine X.ext ?_ _ | refine X.alloc ?_ _ | refine X.drew ?_))) hx; obtain ⟨x, rfl⟩ := hx; rw [h6])
    go_ret
    exact ⟨by simp, by (repeat (first | exact X.refl _ | assumption | refine X.ext ?_ _ | refine X.alloc ?_ _ | refine X.drew ?_))⟩

set_option maxRecDepth 100000 in
set_option maxHeartbeats 1000000 in
theorem equalStore_c (l m : List Co) (a a' : Option Addr) (n n' c c' B B' : Nat) (w : World) (hL : CosAt w B a n l) (hM : CosAt w B' a' n' m) :
    Calls Tryd.prog 11 #[.slice a n c, .slice a' n' c'] w fun e w' => e = .returned (.bool (decide (l = m))) ∧ X w w' := by
  have h1 := hL.len.1
  have h2 := hM.len.1
  have hn := hL.len.2
  have Hl := Lib.hid h1
  have Hm := Lib.hid h2
  by_cases hne : n = n'
  · subst hne
    clear h1 h2
    go_enter Tryd.func11, Tryd.ntmps11
    go_wp2
    go_loopw [5] (fun i wr => ∃ k : Nat, k ≤ n ∧ i = .int .i64 k ∧ allN (fun k => decide (nth l k = nth m k)) k = true ∧ ∃ x, wr = World.ext w x) (fun i _ => n - (intOf i).toNat)
    case atStart => exact ⟨0, by omega, rfl, rfl, X.refl _⟩
    case round =>
      obtain ⟨k, hk, rfl, hall, x, rfl⟩ := hrel
      by_cases hlt : k < n
      · obtain ⟨b, off, ba, bn, bc, rfl, _, hb, _, _, hS, g0, g1, g2, g3, g4, g5, g6, g7⟩ := hL.at_ hlt
        obtain ⟨b', off', ba', bn', bc', rfl, _, hb', _, _, hS', u0, u1, u2, u3, u4, u5, u6, u7⟩ := hM.at_ hlt
        cases hd : decide (nth l k = nth m k)
        all_goals
          go_wp2
          refine wp_region_grow (by kernel_rfl) (by kernel_rfl) ?_
          repeat (go_big_quiet_step (((go_at_call 36; refine grow_of (equalCompiled_c (nth l k) (nth m k) ba ba' bn bc bn' bc' _ _ _ (hS.mono (X.fr (by (repeat (first | exact X.refl _ | assumption | refine X.ext ?_ _ | refine X.alloc ?_ _ | refine X.drew ?_))) _)) (hS'.mono (X.fr (by (repeat (first | exact X.refl _ | assumption | refine X.ext ?_ _ | refine X.alloc ?_ _ | refine X.drew ?_))) _)))))))
          refine wpQuiet_nil ?_
          rintro _ ⟨y, rfl⟩
          go_wp2
        · go_ret
          have hs : ¬ nth l k = nth m k := of_decide_eq_false hd
          exact ⟨ret_boolW (by rw [decide_eq_false]; intro e; exact hs (by rw [e])), by (repeat (first | exact X.refl _ | assumption | refine X.ext ?_ _ | refine X.alloc ?_ _ | refine X.drew ?_))⟩
        · go_roundw
          case rel => exact ⟨k + 1, by omega, by go_num, allN_next hall hd, _, rfl⟩
          case measure => simp [intOf]; omega
      · obtain rfl : k = n := by omega
        go_wp2
        go_ret
        refine ⟨ret_boolW ?_, by (repeat (first | exact X.refl _ | assumption | refine X.ext ?_ _ | refine X.alloc ?_ _ | refine X.drew ?_))⟩
        rw [decide_eq_true]
        exact nth_ext2 (by rw [← Hl.out, ← Hm.out]) fun j hj => of_decide_eq_true (allN_iff.1 hall j (by rw [Hl.out]; exact hj))
  · go_enter Tryd.func11, Tryd.ntmps11
    go_wp2
    go_ret
    exact ⟨ret_boolW (by rw [decide_eq_false]; intro e; apply hne; rw [h1, h2, e]), by (repeat (first | exact X.refl _ | assumption | refine X.ext ?_ _ | refine X.alloc ?_ _ | refine X.drew ?_))⟩

end Go.Proofs.YtebnjkjllinabaaDoor

namespace Go.Proofs.YtebnjkjllinabaaDoor
open Go.RowKit

def wrongK (l : List Co) (f : Fi) : Bool := !decide (bodyLd l f = f.body)
def wrongN (l : List Co) (t : List Fi) (n : Nat) : List Int := ((List.range n).filter (fun i => wrongK l (nth t i))).map fun i : Nat => (i : Int)
def wrongL (l : List Co) (t : List Fi) : List Int := if storeB l && treeB t then wrongN l t t.length else []
theorem wrongN_next {l : List Co} {t : List Fi} {k : Nat} : wrongN l t (k + 1) = if wrongK l (nth t k) then wrongN l t k ++ [(k : Int)] else wrongN l t k := by
  rw [wrongN, List.range_succ, List.filter_append, List.map_append]
  cases h : wrongK l (nth t k) <;> simp [h, wrongN]
theorem wrongN_len {l : List Co} {t : List Fi} {n : Nat} : (wrongN l t n).length ≤ n := by
  rw [wrongN, List.length_map]
  exact Nat.le_trans (List.length_filter_le _ _) (by simp)
theorem wrongL_len {l : List Co} {t : List Fi} : (wrongL l t).length ≤ t.length := by
  unfold wrongL
  split
  · exact wrongN_len
  · simp
theorem loadV_bodyW {l : List Co} {f : Fi} {mode : Int} (h : OkC l) (h2 : f.body.length ≤ 2097152) (h3 : ∀ s ∈ f.body, Oks s) : (loadV l f mode).1.length ≤ 2097152 ∧ ∀ s ∈ (loadV l f mode).1, Oks s := by
  unfold loadV
  split
  · show (bodyLd l f).length ≤ _ ∧ _
    rcases cix_cases l f with hc | ⟨k, hk, hc⟩
    · rw [(load_none hc).2.1]; exact ⟨h2, h3⟩
    · rw [(load_some hc).2.1]
      split
      · exact (h.2 _ (nth_mem hk)).2
      · exact ⟨h2, h3⟩
  · exact ⟨by simp, fun s hs => by cases hs⟩
theorem int_Tw : AppT Tryd.prog 32 3 1 8 := AppT.of (z := .int .i64 0) (by kernel_rfl) (by kernel_rfl) rfl (by omega)
theorem wrong_yes {l : List Co} {t : List Fi} {k : Nat} (h : decide (bodyLd l (nth t k) = (nth t k).body) = false) : wrongN l t (k + 1) = wrongN l t k ++ [(k : Int)] := by rw [wrongN_next, wrongK, h]; rfl
theorem wrong_no {l : List Co} {t : List Fi} {k : Nat} (h : decide (bodyLd l (nth t k) = (nth t k).body) = true) : wrongN l t (k + 1) = wrongN l t k := by rw [wrongN_next, wrongK, h]; rfl

set_option maxRecDepth 100000 in
set_option maxHeartbeats 4000000 in
theorem WrongFiles_i (l : List Co) (a : Option Addr) (n c B : Nat) (t : List Fi) (ta : Option Addr) (tn tc B2 : Nat) (w : World) (hD : CosAt w B a n l) (hF : FilesAt w B2 ta tn t) (htc : tn ≤ tc) (hG : Gm w) :
    Calls Tryd.prog 14 #[.slice a n c, .agg #[.slice ta tn tc]] w fun e w' => ∃ ra rc, e = .returned (.slice ra (wrongL l t).length rc) ∧ w'.ownsRow w.heap.size 3 1 (.slice ra (wrongL l t).length rc) (wrongL l t).length (ints (wrongL l t)) ∧ X w w' := by
  obtain ⟨hl, hn⟩ := hF.len
  have Hl := Lib.hid hl
  cases q1 : storeB l <;> cases q2 : treeB t
  case true.true =>
    rw [show wrongL l t = wrongN l t tn by rw [wrongL, q1, q2, hl]; rfl]
    clear hl
    go_enter Tryd.func14, Tryd.ntmps14
    go_wp2_with fail
    refine calls_name (fun W0 hW0 => ?_)
    obtain ⟨hT0, hE0, hX0⟩ := bx2 hW0
    have hrow0 : W0.ownsRow (w.heap.size + 1) 3 1 (.slice (some ⟨w.heap.size + 1, 0, none⟩) 0 0) 0 [] := by
      rw [hW0]
      exact own_lit (w := w.alloc (.cells #[.slice ta tn tc] 25)) (cs := #[]) (e := 3) (B := w.heap.size + 1) (g := w.heap.size + 1) (size := 1) (n := 0) (by simp) (by simp) rfl (by omega)
    have hs0 : w.heap.size + 1 < W0.heap.size := hE0.lt
    clear hW0 hE0
    refine (ValidStore_c l a n c B W0 (hD.mono (hX0.fr _)) (hG.mono hX0)).mono ?_
    rintro _ w1 ⟨rfl, hx1⟩
    rw [q1]
    obtain ⟨lt2, ct2, _⟩ := (hT0.x hx1).out
    have t0 := ct2 0
    clear ct2
    go_wp2_with fail
    refine (ValidTree_c t ta tn tc B2 w1 (hF.mono (X.fr (hX0.trans hx1) _)) htc (hG.mono (hX0.trans hx1))).mono ?_
    rintro _ w2 ⟨rfl, hx2⟩
    rw [q2]
    clear t0 lt2
    have hT2 := (hT0.x hx1).x hx2
    have hXw := (hX0.trans hx1).trans hx2
    have hrow2 := own_fr hrow0 ((hx1.trans hx2).fr _)
    obtain ⟨lt2, ct2, _⟩ := hT2.out
    have t0 := ct2 0
    clear ct2 hx1 hx2 hX0 hrow0 hT0
    go_wp2
    go_loopw [5, 24] (fun v i wr => ∃ (k : Nat) (ra : Option Addr) (rc : Nat), k ≤ tn ∧ i = .int .i64 k ∧ v = .slice ra (wrongN l t k).length rc ∧ wr.ownsRow (w.heap.size + 1) 3 1 (.slice ra (wrongN l t k).length rc) (wrongN l t k).length (ints (wrongN l t k)) ∧ X w wr ∧ w.heap.size + 1 ≤ wr.heap.size) (fun _ i _ => tn - (intOf i).toNat)
    case atStart => exact ⟨0, _, _, Nat.zero_le _, rfl, rfl, hrow2, hXw, lt2⟩
    case round =>
      obtain ⟨k, ra, rc, hk, rfl, rfl, hrow, hX, hsz⟩ := hrel
      clear hXw hrow2 t0 lt2
      have hln := @wrongN_len l t k
      by_cases hlt : k < tn
      · obtain ⟨b, off, ba, bn, bc, rfl, _, hb, hok, hbc, hSb, g0, g1, g2, g3, g4, g5⟩ := (hF.mono (hX.fr _)).at_ hlt
        have Hbn := Lib.hid hSb.1
        have hfb := treeB_file q2 (k := k) (by rw [← Hl.out]; exact hlt)
        have hV := loadV_good (l := l) (f := nth t k) (mode := 0) (by rw [loadOk, q1, hfb]; rfl)
        have hbd := loadV_bodyW (f := nth t k) (mode := 0) hD.okC (by have := hSb.1; have := hSb.2.1; omega) hSb.2.2.1
        rw [hV] at hbd
        dsimp only at hbd
        have Hy := Lib.hid (@wrong_yes l t k)
        have Hn := Lib.hid (@wrong_no l t k)
        generalize nth t k = f at *
        go_wp2_with fail
        refine calls_name (fun W3 hW3 => ?_)
        have hB3 : Bx W3 wr.heap.size #[.int .i64 f.root, .string ⟨(f.pkg).toArray⟩, .string ⟨(f.name).toArray⟩, .bool f.init, .int .i64 f.stamp, .slice ba bn bc] := by rw [hW3]; exact Bx.new _ _ _
        have hX3 : X wr W3 := by rw [hW3]; (repeat (first | with_reducible exact X.refl _ | with_reducible assumption | with_reducible refine X.setCell ?_ (by first | (simp; done) | (simp; omega)) _ | with_reducible refine X.ext ?_ _ | with_reducible refine X.alloc ?_ _ | with_reducible refine X.drew ?_))
        clear hW3
        refine (LoadBody_i l a n c B f 0 ba bn bc B2 W3 (hD.mono (X.fr (hX.trans hX3) _)) hok (hSb.mono (hX3.fr _)) (hG.mono (hX.trans hX3))).mono ?_
        rw [hV]
        rintro _ w4 ⟨b6, c6, r6, rc6, B1, E1, E2, rfl, hO6, _, _, _, _, _, _, hx4⟩
        dsimp only at hO6 ⊢
        have hS6 : StmtsAt w4 E2 b6 (bodyLd l f).length (bodyLd l f) := ⟨rfl, hbd.1, hbd.2, Sl.of_own hO6⟩
        clear hV hO6
        obtain ⟨t0, t1, t2, t3, t4, t5⟩ := keepT (hB3.x hx4)
        have hlT := (hB3.x hx4).lt
        generalize bodyLd l f = bd at *
        generalize storeLd l f 0 = st at *
        generalize hadB l f = had at *
        have hX4 : X wr w4 := hX3.trans hx4
        go_wp2_with fail
        refine (EqualS_c bd f.body b6 ba _ bn c6 bc E2 B2 w4 hS6 (hSb.mono (hX4.fr _))).mono ?_
        rintro _ w5 ⟨rfl, hx5⟩
        have hX5 : X wr w5 := hX4.trans hx5
        have hrow5 := own_fr hrow (hX5.fr _)
        have hsz5 : w.heap.size + 1 ≤ w5.heap.size := Nat.le_trans hsz hX5.size
        cases hd : decide (bd = f.body)
        · have He := Lib.hid (Hy.out hd)
          go_wp2_with (at_builtin; refine wpList_append_g int_Tw rfl _ _ rfl hrow5 rfl rfl rfl rfl (by simp [Value.oneCell']) (by omega) (by omega) hsz5 ?_; intro a' c' w' hrow' hg')
          have hXw' : X w w' := X.of_below (((X.alloc (hX.trans hX5) _).below).grown hg' (X.size (X.alloc (hX.trans hX5) _)) (fun g hg => by have := (hrow5.lt g hg).1; omega))
          go_roundw
          case rel => exact ⟨k + 1, a', c', by omega, by go_num, by rw [He.out, List.length_append, List.length_singleton], by rw [He.out, List.length_append, List.length_singleton]; simpa [flat_snoc] using hrow', hXw', Nat.le_trans hsz5 (by have := hg'.size; rw [World.size_alloc] at this; omega)⟩
          case measure => simp [intOf]; omega
        · have He := Lib.hid (Hn.out hd)
          go_wp2
          go_roundw
          case rel => exact ⟨k + 1, ra, rc, by omega, by go_num, by rw [He.out], by rw [He.out]; exact hrow5, hX.trans hX5, hsz5⟩
          case measure => simp [intOf]; omega
      · obtain rfl : k = tn := by omega
        go_wp2
        go_ret
        exact ⟨ra, rc, rfl, own_less hrow (by omega), hX⟩
  all_goals
    rw [show wrongL l t = [] by rw [wrongL, q1, q2]; rfl]
    clear hl
    go_enter Tryd.func14, Tryd.ntmps14
    go_wp2_with fail
    refine calls_name (fun W0 hW0 => ?_)
    obtain ⟨hT0, hE0, hX0⟩ := bx2 hW0
    have hrow0 : W0.ownsRow (w.heap.size + 1) 3 1 (.slice (some ⟨w.heap.size + 1, 0, none⟩) 0 0) 0 [] := by
      rw [hW0]
      exact own_lit (w := w.alloc (.cells #[.slice ta tn tc] 25)) (cs := #[]) (e := 3) (B := w.heap.size + 1) (g := w.heap.size + 1) (size := 1) (n := 0) (by simp) (by simp) rfl (by omega)
    clear hW0 hE0
    refine (ValidStore_c l a n c B W0 (hD.mono (hX0.fr _)) (hG.mono hX0)).mono ?_
    rintro _ w1 ⟨rfl, hx1⟩
    rw [q1]
    obtain ⟨lt2, ct2, _⟩ := (hT0.x hx1).out
    have t0 := ct2 0
    clear ct2
    have hXw := hX0.trans hx1
    have hrow1 := own_fr hrow0 (hx1.fr _)
    go_wp2_with (go_at_call 18; refine (ValidTree_c t ta tn tc B2 w1 (hF.mono (X.fr hXw _)) htc (hG.mono hXw)).mono ?_; rintro _ w2 ⟨rfl, hx2⟩; rw [q2]; replace hXw := hXw.trans hx2; replace hrow1 := own_fr hrow1 (hx2.fr _))
    go_ret
    exact ⟨_, _, rfl, own_less hrow1 (by omega), hXw⟩

set_option maxRecDepth 100000 in
set_option maxHeartbeats 4000000 in
theorem WrongFiles_s (l : List Co) (a : Option Addr) (n c B : Nat) (t : List Fi) (ta : Option Addr) (tn tc B2 : Nat) (w : World) (hD : CosAt w B a n l) (hF : FilesAt w B2 ta tn t) :
    Calls Tryd.prog 28 #[.slice a n c, .agg #[.slice ta tn tc]] w fun e w' => ∃ ra rc, e = .returned (.slice ra (wrongL l t).length rc) ∧ w'.ownsRow w.heap.size 3 1 (.slice ra (wrongL l t).length rc) (wrongL l t).length (ints (wrongL l t)) ∧ X w w' := by
  obtain ⟨hl, hn⟩ := hF.len
  have Hl := Lib.hid hl
  have Hnl := Lib.hid hD.len.1
  cases q1 : storeB l <;> cases q2 : treeB t
  case true.true =>
    rw [show wrongL l t = wrongN l t tn by rw [wrongL, q1, q2, hl]; rfl]
    clear hl
    go_enter Tryd.func28, Tryd.ntmps28
    go_wp2_with fail
    refine calls_name (fun W0 hW0 => ?_)
    have hT0 : Bx W0 w.heap.size #[.slice ta tn tc] := by rw [hW0]; exact Bx.new _ _ _
    have hX0 : X w W0 := by rw [hW0]; (repeat (first | with_reducible exact X.refl _ | with_reducible assumption | with_reducible refine X.setCell ?_ (by first | (simp; done) | (simp; omega)) _ | with_reducible refine X.ext ?_ _ | with_reducible refine X.alloc ?_ _ | with_reducible refine X.drew ?_))
    clear hW0
    refine (validStore_c l a n c B W0 (hD.mono (hX0.fr _))).mono ?_
    rintro _ w1 ⟨rfl, hx1⟩
    rw [q1]
    obtain ⟨lt2, ct2, _⟩ := (hT0.x hx1).out
    have t0 := ct2 0
    clear ct2
    go_wp2_with fail
    refine (validTree_c t ta tn tc B2 w1 (hF.mono (X.fr (hX0.trans hx1) _))).mono ?_
    rintro _ w2 ⟨rfl, hx2⟩
    rw [q2]
    clear t0 lt2
    have hT2 := (hT0.x hx1).x hx2
    have hXw := (hX0.trans hx1).trans hx2
    clear hx1 hx2 hX0 hT0
    go_wp2
    refine wp_name (fun W2 hW2 => ?_)
    have hrow2 : W2.ownsRow (w.heap.size + 1) 3 1 (.slice (some ⟨w2.heap.size, 0, none⟩) 0 0) 0 [] := by
      rw [hW2]
      exact own_lit (w := w2) (cs := #[]) (e := 3) (B := w.heap.size + 1) (g := w2.heap.size) (size := 1) (n := 0) rfl hT2.lt rfl (by omega)
    have hX2 : X w2 W2 := by rw [hW2]; (repeat (first | with_reducible exact X.refl _ | with_reducible assumption | with_reducible refine X.setCell ?_ (by first | (simp; done) | (simp; omega)) _ | with_reducible refine X.ext ?_ _ | with_reducible refine X.alloc ?_ _ | with_reducible refine X.drew ?_))
    clear hW2
    have hT := hT2.x hX2
    replace hXw := hXw.trans hX2
    clear hT2 hX2
    go_loopw [5, 6] (fun v i wr => ∃ (k : Nat) (ra : Option Addr) (rc : Nat), k ≤ tn ∧ i = .int .i64 k ∧ v = .slice ra (wrongN l t k).length rc ∧ wr.ownsRow (w.heap.size + 1) 3 1 (.slice ra (wrongN l t k).length rc) (wrongN l t k).length (ints (wrongN l t k)) ∧ X w wr ∧ Bx wr w.heap.size #[.slice ta tn tc]) (fun _ i _ => tn - (intOf i).toNat)
    case atStart => exact ⟨0, _, _, Nat.zero_le _, rfl, rfl, hrow2, hXw, hT⟩
    case round =>
      obtain ⟨k, ra, rc, hk, rfl, rfl, hrow, hX, hT⟩ := hrel
      clear hXw hrow2
      have hsz : w.heap.size + 1 ≤ wr.heap.size := hT.lt
      have hln := @wrongN_len l t k
      obtain ⟨ltT, cT, _⟩ := hT.out
      have z0 := cT 0
      clear cT
      by_cases hlt : k < tn
      · obtain ⟨b, off, ba, bn, bc, rfl, _, hb, hok, hbc, hSb, g0, g1, g2, g3, g4, g5⟩ := (hF.mono (hX.fr _)).at_ hlt
        have Hbn := Lib.hid hSb.1
        have hfb := treeB_file q2 (k := k) (by rw [← Hl.out]; exact hlt)
        have hDr := hD.mono (hX.fr _)
        have Hy := Lib.hid (@wrong_yes l t k)
        have Hn := Lib.hid (@wrong_no l t k)
        generalize nth t k = f at *
        go_wp2
        refine wp_name (fun W3 hW3 => ?_)
        have hB3 : Bx W3 wr.heap.size #[.int .i64 f.root, .string ⟨(f.pkg).toArray⟩, .string ⟨(f.name).toArray⟩, .bool f.init, .int .i64 f.stamp, .slice ba bn bc] := by rw [hW3]; exact Bx.new _ _ _
        have hX3 : X wr W3 := by rw [hW3]; (repeat (first | with_reducible exact X.refl _ | with_reducible assumption | with_reducible refine X.setCell ?_ (by first | (simp; done) | (simp; omega)) _ | with_reducible refine X.ext ?_ _ | with_reducible refine X.alloc ?_ _ | with_reducible refine X.drew ?_))
        clear hW3
        obtain ⟨t0, t1, t2, t3, t4, t5⟩ := keepT hB3
        have hlT := hB3.lt
        have hD3 := hDr.mono (hX3.fr _)
        have hS3 := hSb.mono (hX3.fr _)
        have hrow3 := own_fr hrow (hX3.fr _)
        refine wp_region_grow0 (by kernel_rfl) (by kernel_rfl) ?_
        repeat (go_big_quiet_step (((first | (go_at_call 51; refine grow_of (moduleName_c f _ _ hok)) | (go_at_call 63; refine grow_of (compiledAt_s l a n c _ f.root (moduleB f) f.init _ (hD3.mono (X.fr (by (repeat (first | exact X.refl _ | assumption | refine X.ext ?_ _ | refine X.alloc ?_ _ | refine X.drew ?_))) _))))))))
        refine wpQuiet_nil ?_
        rintro _ ⟨y, rfl⟩
        rcases cix_cases l f with hc | ⟨j, hjl, hc⟩
        · have hc2 : cidx l f.root (moduleB f) f.init n = -1 := by rw [Hnl.out]; exact hc
          have He := Lib.hid (Hn.out (by rw [(load_none hc).2.1]; exact decide_eq_true rfl))
          rw [hc2]
          clear hc hc2
          go_wp2
          refine wp_region_grow (by kernel_rfl) (by kernel_rfl) ?_
          repeat (go_big_quiet_step ((fail)))
          refine wpQuiet_nil ?_
          rintro _ ⟨y, rfl⟩
          go_wp2
          go_roundw
          case rel => exact ⟨k + 1, ra, rc, by omega, by go_num, by rw [He.out], by rw [He.out]; exact own_fr hrow3 (X.fr (by (repeat (first | exact X.refl _ | assumption | refine X.ext ?_ _ | refine X.alloc ?_ _ | refine X.drew ?_))) _), hX.trans (hX3.trans (by (repeat (first | exact X.refl _ | assumption | refine X.ext ?_ _ | refine X.alloc ?_ _ | refine X.drew ?_)))), (hT.x hX3).x (by (repeat (first | exact X.refl _ | assumption | refine X.ext ?_ _ | refine X.alloc ?_ _ | refine X.drew ?_)))⟩
          case measure => simp [intOf]; omega
        · have hc2 : cidx l f.root (moduleB f) f.init n = (j : Int) := by rw [Hnl.out]; exact hc
          have hjn : j < n := by rw [Hnl.out]; exact hjl
          obtain ⟨cb, coff, ka, kn, kc, rfl, _, hcb, _, hkc, hSk, u0, u1, u2, u3, u4, u5, u6, u7⟩ := hD3.at_ hjn
          have hji : (j : Int) < (n : Int) := by omega
          rw [hc2]
          cases hu : usableB (nth l j) f
          · have He := Lib.hid (Hn.out (by rw [(load_some hc).2.1, hu]; exact decide_eq_true rfl))
            have hus : ∀ w', X W3 w' → Calls Tryd.prog 64 #[.agg #[.int .i64 ((nth l j)).root, .string ⟨((nth l j)).mod.toArray⟩, .bool ((nth l j)).init, .int .i64 ((nth l j)).mode, .int .i64 ((nth l j)).stamp, .int .i64 ((nth l j)).size, .int .i64 ((nth l j)).hash, .slice ka kn kc], .agg #[.int .i64 (f).root, .string ⟨(f).pkg.toArray⟩, .string ⟨(f).name.toArray⟩, .bool (f).init, .int .i64 (f).stamp, .slice ba bn bc]] w' fun e w'' => e = .returned (.bool false) ∧ X w' w'' := fun w' hx => by
              have := usable_s (nth l j) (.slice ka kn kc) f ba bn bc _ w' (hS3.mono (hx.fr _)) (fileB_body hfb)
              rwa [hu] at this
            clear hc hc2
            go_wp2
            refine wp_region_grow (by kernel_rfl) (by kernel_rfl) ?_
            repeat (go_big_quiet_step (((go_at_call 64; refine grow_of (hus _ (by (repeat (first | exact X.refl _ | assumption | refine X.ext ?_ _ | refine X.alloc ?_ _ | refine X.drew ?_))))))))
            refine wpQuiet_nil ?_
            rintro _ ⟨y, rfl⟩
            go_wp2
            go_roundw
            case rel => exact ⟨k + 1, ra, rc, by omega, by go_num, by rw [He.out], by rw [He.out]; exact own_fr hrow3 (X.fr (by (repeat (first | exact X.refl _ | assumption | refine X.ext ?_ _ | refine X.alloc ?_ _ | refine X.drew ?_))) _), hX.trans (hX3.trans (by (repeat (first | exact X.refl _ | assumption | refine X.ext ?_ _ | refine X.alloc ?_ _ | refine X.drew ?_)))), (hT.x hX3).x (by (repeat (first | exact X.refl _ | assumption | refine X.ext ?_ _ | refine X.alloc ?_ _ | refine X.drew ?_)))⟩
            case measure => simp [intOf]; omega
          · have hbq : bodyLd l f = (nth l j).body := by rw [(load_some hc).2.1, hu, if_pos rfl]
            have hus : ∀ w', X W3 w' → Calls Tryd.prog 64 #[.agg #[.int .i64 ((nth l j)).root, .string ⟨((nth l j)).mod.toArray⟩, .bool ((nth l j)).init, .int .i64 ((nth l j)).mode, .int .i64 ((nth l j)).stamp, .int .i64 ((nth l j)).size, .int .i64 ((nth l j)).hash, .slice ka kn kc], .agg #[.int .i64 (f).root, .string ⟨(f).pkg.toArray⟩, .string ⟨(f).name.toArray⟩, .bool (f).init, .int .i64 (f).stamp, .slice ba bn bc]] w' fun e w'' => e = .returned (.bool true) ∧ X w' w'' := fun w' hx => by
              have := usable_s (nth l j) (.slice ka kn kc) f ba bn bc _ w' (hS3.mono (hx.fr _)) (fileB_body hfb)
              rwa [hu] at this
            clear hc hc2
            cases hd : decide ((nth l j).body = f.body)
            · have He := Lib.hid (Hy.out (by rw [hbq]; exact hd))
              have hsb : ∀ w', X W3 w' → Calls Tryd.prog 65 #[.slice ka kn kc, .slice ba bn bc] w' fun e w'' => e = .returned (.bool false) ∧ X w' w'' := fun w' hx => by
                have := sameBody_c (nth l j).body f.body ka ba kn bn kc bc _ _ w' (hSk.mono (hx.fr _)) (hS3.mono (hx.fr _))
                rwa [hd] at this
              clear hbq
              go_wp2
              refine wp_region_grow (by kernel_rfl) (by kernel_rfl) ?_
              repeat (go_big_quiet_step (((first | (go_at_call 64; refine grow_of (hus _ (by (repeat (first | exact X.refl _ | assumption | refine X.ext ?_ _ | refine X.alloc ?_ _ | refine X.drew ?_))))) | (go_at_call 65; refine grow_of (hsb _ (by (repeat (first | exact X.refl _ | assumption | refine X.ext ?_ _ | refine X.alloc ?_ _ | refine X.drew ?_)))))))))
              refine wpQuiet_nil ?_
              rintro _ ⟨y, rfl⟩
              have hX5 : X W3 (World.ext W3 y) := ⟨y, rfl⟩
              generalize World.ext W3 y = w5 at *
              have hrow5 := own_fr hrow3 (hX5.fr _)
              have hsz5 : w.heap.size + 1 ≤ w5.heap.size := Nat.le_trans hsz (Nat.le_trans hX3.size hX5.size)
              go_wp2_with (at_builtin; refine wpList_append_g int_Tw rfl _ _ rfl hrow5 rfl rfl rfl rfl (by simp [Value.oneCell']) (by omega) (by omega) hsz5 ?_; intro a' c' w' hrow' hg')
              have hXw5 := hX.trans (hX3.trans hX5)
              have hXw' : X w w' := X.of_below (((X.alloc hXw5 _).below).grown hg' (X.size (X.alloc hXw5 _)) (fun g hg => by have := (hrow5.lt g hg).1; omega))
              have hga : w5.grownBy w' (Value.slice ra (wrongN l t k).length rc).ownBlock := X.grown ((X.refl w5).alloc _) hg'
              have hT' := ((hT.x hX3).x hX5).grown hga (fun g hg => by have := (hrow5.lt g hg).1; omega)
              go_roundw
              case rel => exact ⟨k + 1, a', c', by omega, by go_num, by rw [He.out, List.length_append, List.length_singleton], by rw [He.out, List.length_append, List.length_singleton]; simpa [flat_snoc] using hrow', hXw', hT'⟩
              case measure => simp [intOf]; omega
            · have He := Lib.hid (Hn.out (by rw [hbq]; exact hd))
              have hsb : ∀ w', X W3 w' → Calls Tryd.prog 65 #[.slice ka kn kc, .slice ba bn bc] w' fun e w'' => e = .returned (.bool true) ∧ X w' w'' := fun w' hx => by
                have := sameBody_c (nth l j).body f.body ka ba kn bn kc bc _ _ w' (hSk.mono (hx.fr _)) (hS3.mono (hx.fr _))
                rwa [hd] at this
              clear hbq
              go_wp2
              refine wp_region_grow (by kernel_rfl) (by kernel_rfl) ?_
              repeat (go_big_quiet_step (((first | (go_at_call 64; refine grow_of (hus _ (by (repeat (first | exact X.refl _ | assumption | refine X.ext ?_ _ | refine X.alloc ?_ _ | refine X.drew ?_))))) | (go_at_call 65; refine grow_of (hsb _ (by (repeat (first | exact X.refl _ | assumption | refine X.ext ?_ _ | refine X.alloc ?_ _ | refine X.drew ?_)))))))))
              refine wpQuiet_nil ?_
              rintro _ ⟨y, rfl⟩
              have hX5 : X W3 (World.ext W3 y) := ⟨y, rfl⟩
              go_wp2
              go_roundw
              case rel => exact ⟨k + 1, ra, rc, by omega, by go_num, by rw [He.out], by rw [He.out]; exact own_fr hrow3 (X.fr (by (repeat (first | exact X.refl _ | assumption | refine X.ext ?_ _ | refine X.alloc ?_ _ | refine X.drew ?_))) _), hX.trans (hX3.trans (by (repeat (first | exact X.refl _ | assumption | refine X.ext ?_ _ | refine X.alloc ?_ _ | refine X.drew ?_)))), (hT.x hX3).x (by (repeat (first | exact X.refl _ | assumption | refine X.ext ?_ _ | refine X.alloc ?_ _ | refine X.drew ?_)))⟩
              case measure => simp [intOf]; omega
      · obtain rfl : k = tn := by omega
        go_wp2
        go_ret
        exact ⟨ra, rc, rfl, own_less hrow (by omega), hX⟩
  all_goals
    rw [show wrongL l t = [] by rw [wrongL, q1, q2]; rfl]
    clear hl
    go_enter Tryd.func28, Tryd.ntmps28
    go_wp2_with fail
    refine calls_name (fun W0 hW0 => ?_)
    have hT0 : Bx W0 w.heap.size #[.slice ta tn tc] := by rw [hW0]; exact Bx.new _ _ _
    have hX0 : X w W0 := by rw [hW0]; (repeat (first | with_reducible exact X.refl _ | with_reducible assumption | with_reducible refine X.setCell ?_ (by first | (simp; done) | (simp; omega)) _ | with_reducible refine X.ext ?_ _ | with_reducible refine X.alloc ?_ _ | with_reducible refine X.drew ?_))
    clear hW0
    refine (validStore_c l a n c B W0 (hD.mono (hX0.fr _))).mono ?_
    rintro _ w1 ⟨rfl, hx1⟩
    rw [q1]
    obtain ⟨lt2, ct2, _⟩ := (hT0.x hx1).out
    have t0 := ct2 0
    clear ct2
    have hXw := hX0.trans hx1
    go_wp2_with (go_at_call 37; refine (validTree_c t ta tn tc B2 w1 (hF.mono (X.fr hXw _))).mono ?_; rintro _ w2 ⟨rfl, hx2⟩; rw [q2]; replace hXw := hXw.trans hx2)
    go_ret
    exact ⟨none, 0, rfl, ⟨rfl, .inl ⟨rfl, rfl⟩⟩, hXw⟩

end Go.Proofs.YtebnjkjllinabaaDoor

namespace Go.Proofs.YtebnjkjllinabaaDoor
open Go.RowKit

def samePl (f : Fi) (c : Co) : Bool := f.root == c.root && moduleB f == c.mod && f.init == c.init
def metB (t : List Fi) (c : Co) (n : Nat) : Bool := anyN (fun j => samePl (nth t j) c) n
def pruneN (l : List Co) (t : List Fi) (k : Nat) : List Co := (l.take k).filter (fun c => metB t c t.length)
def pruneL (l : List Co) (t : List Fi) : List Co := if storeB l && treeB t then pruneN l t l.length else []
theorem pruneN_next {l : List Co} {t : List Fi} {k : Nat} (hk : k < l.length) : pruneN l t (k + 1) = if metB t (nth l k) t.length then pruneN l t k ++ [nth l k] else pruneN l t k := by
  rw [pruneN, take_succ_nth hk, List.filter_append]
  cases h : metB t (nth l k) t.length <;> simp [h, pruneN]
theorem pruneN_sub {l : List Co} {t : List Fi} {k : Nat} : ∀ x ∈ pruneN l t k, x ∈ l := fun _ hx => List.mem_of_mem_take (List.mem_filter.1 hx).1
theorem pruneN_len {l : List Co} {t : List Fi} {k : Nat} : (pruneN l t k).length ≤ k := Nat.le_trans (List.length_filter_le _ _) (by rw [List.length_take]; omega)
theorem wtC_filter (p : Co → Bool) : ∀ l : List Co, wtC (l.filter p) ≤ wtC l
  | [] => by simp [wtC]
  | c :: l => by
    have := wtC_filter p l
    rw [List.filter_cons]
    split <;> simp only [wtC] <;> omega
theorem pruneL_len (l : List Co) (t : List Fi) : (pruneL l t).length ≤ l.length := by
  unfold pruneL
  split
  · exact pruneN_len
  · simp
theorem pruneL_wt (l : List Co) (t : List Fi) : wtC (pruneL l t) ≤ wtC l := by
  unfold pruneL
  split
  · exact Nat.le_trans (wtC_filter _ _) (wtC_take _ _)
  · simp [wtC]
theorem pruneL_ok {l : List Co} {t : List Fi} (h : OkC l) : OkC (pruneL l t) := by
  refine ⟨Nat.le_trans (pruneL_len l t) h.1, fun c hc => ?_⟩
  unfold pruneL at hc
  split at hc
  · exact h.2 c (pruneN_sub c hc)
  · cases hc

theorem coKeep {cb : Nat} {c : Co} {bv : Value} {w : World} (hT : Bx w cb #[.int .i64 c.root, .string ⟨(c.mod).toArray⟩, .bool c.init, .int .i64 c.mode, .int .i64 c.stamp, .int .i64 c.size, .int .i64 c.hash, bv]) :
    w.cell? ⟨cb, 0, none⟩ = some (.int .i64 c.root) ∧ w.cell? ⟨cb, 1, none⟩ = some (.string ⟨(c.mod).toArray⟩) ∧ w.cell? ⟨cb, 2, none⟩ = some (.bool c.init) ∧ w.cell? ⟨cb, 3, none⟩ = some (.int .i64 c.mode) ∧ w.cell? ⟨cb, 4, none⟩ = some (.int .i64 c.stamp) ∧ w.cell? ⟨cb, 5, none⟩ = some (.int .i64 c.size) ∧ w.cell? ⟨cb, 6, none⟩ = some (.int .i64 c.hash) ∧ w.cell? ⟨cb, 7, none⟩ = some bv := by
  obtain ⟨_, hc, _⟩ := hT.out
  exact ⟨hc 0, hc 1, hc 2, hc 3, hc 4, hc 5, hc 6, hc 7⟩

set_option maxRecDepth 100000 in
set_option maxHeartbeats 2000000 in
theorem prune1_c (f : Fi) (ba : Option Addr) (bn bc B : Nat) (c : Co) (bv : Value) (cb : Nat) (w : World) (hf : Okf f) (hS : StmtsAt w B ba bn f.body) (hfb : fileB f = true) (hC : Bx w cb #[.int .i64 c.root, .string ⟨(c.mod).toArray⟩, .bool c.init, .int .i64 c.mode, .int .i64 c.stamp, .int .i64 c.size, .int .i64 c.hash, bv]) (hG : Gm w) :
    Calls Tryd.prog 46 #[.agg #[.int .i64 (f).root, .string ⟨(f).pkg.toArray⟩, .string ⟨(f).name.toArray⟩, .bool (f).init, .int .i64 (f).stamp, .slice ba bn bc], .pointer (some ⟨cb, 0, none⟩)] w fun e w' => e = .returned (.bool (samePl f c)) ∧ X w w' := by
  cases c1 : f.root == c.root <;> cases c2 : moduleB f == c.mod <;> cases c3 : f.init == c.init
  all_goals
    go_enter Tryd.func46, Tryd.ntmps46
    go_wp2
    refine wp_name (fun W hW => ?_)
    have hT : Bx W w.heap.size #[.int .i64 f.root, .string ⟨(f.pkg).toArray⟩, .string ⟨(f.name).toArray⟩, .bool f.init, .int .i64 f.stamp, .slice ba bn bc] := by rw [hW]; exact Bx.new _ _ _
    have hX0 : X w W := by rw [hW]; (repeat (first | with_reducible exact X.refl _ | with_reducible assumption | with_reducible refine X.setCell ?_ (by first | (simp; done) | (simp; omega)) _ | with_reducible refine X.ext ?_ _ | with_reducible refine X.alloc ?_ _ | with_reducible refine X.drew ?_))
    clear hW
    obtain ⟨t0, t1, t2, t3, t4, t5⟩ := keepT hT
    have hlT := hT.lt
    obtain ⟨u0, u1, u2, _, _, _, _, _⟩ := coKeep (hC.x hX0)
    have hlU := (hC.x hX0).lt
    refine wp_region_grow0 (by kernel_rfl) (by kernel_rfl) ?_
    repeat (go_big_quiet_step (((go_at_call 23; refine grow_of (moduleOf_ok hfb ba bn bc B _ hf (hS.mono (X.fr (hX0.trans (by (repeat (first | exact X.refl _ | assumption | refine X.ext ?_ _ | refine X.alloc ?_ _ | refine X.drew ?_)))) _)) (hG.mono (hX0.trans (by (repeat (first | exact X.refl _ | assumption | refine X.ext ?_ _ | refine X.alloc ?_ _ | refine X.drew ?_))))))))))
    refine wpQuiet_nil ?_
    rintro _ ⟨y, rfl⟩
    go_wp2
    go_ret
    exact ⟨by simp [samePl, c1, c2, c3], hX0.trans (by (repeat (first | exact X.refl _ | assumption | refine X.ext ?_ _ | refine X.alloc ?_ _ | refine X.drew ?_)))⟩

set_option maxRecDepth 100000 in
set_option maxHeartbeats 1000000 in
theorem IndexFuncP_c (t : List Fi) (a : Option Addr) (n c B : Nat) (d : Co) (bv : Value) (cb : Nat) (w : World) (hF : FilesAt w B a n t) (hv : treeB t = true) (hC : Bx w cb #[.int .i64 d.root, .string ⟨(d.mod).toArray⟩, .bool d.init, .int .i64 d.mode, .int .i64 d.stamp, .int .i64 d.size, .int .i64 d.hash, bv]) (hG : Gm w) :
    Calls Tryd.prog 75 #[.slice a n c, .func (.func 46) #[] #[.pointer (some ⟨cb, 0, none⟩)]] w fun e w' => e = .returned (.int .i64 (firstN (fun j => samePl (nth t j) d) n)) ∧ X w w' := by
  have hn := hF.len.2
  have Hl := Lib.hid hF.len.1
  go_enter Tryd.func75, Tryd.ntmps75
  go_wp2
  go_loopw [8] (fun i wr => ∃ k : Nat, k ≤ n ∧ i = .int .i64 k ∧ anyN (fun j => samePl (nth t j) d) k = false ∧ X w wr) (fun i _ => n - (intOf i).toNat)
  case atStart => exact ⟨0, by omega, rfl, rfl, X.refl _⟩
  case round =>
    obtain ⟨k, hk, rfl, hno, hX⟩ := hrel
    by_cases hlt : k < n
    · obtain ⟨b, off, ba, bn, bc, rfl, _, hb, hok, _, hS, g0, g1, g2, g3, g4, g5⟩ := (hF.mono (hX.fr _)).at_ (k := k) (by omega)
      have hfb := treeB_file hv (k := k) (by rw [← Hl.out]; exact hlt)
      cases hs : samePl (nth t k) d
      all_goals
        go_wp2_with (go_at_call 46; refine (prune1_c (nth t k) ba bn bc _ d bv cb _ hok hS hfb (hC.x hX) (hG.mono hX)).mono ?_; rintro _ w3 ⟨rfl, hx3⟩; rw [hs])
      · go_roundw
        case rel => exact ⟨k + 1, by omega, by go_num, anyN_next hno hs, hX.trans hx3⟩
        case measure => simp [intOf]; omega
      · go_ret
        exact ⟨ret_intC (firstN_some (p := fun j => samePl (nth t j) d) hno hs hlt).symm, hX.trans hx3⟩
    · obtain rfl : k = n := by omega
      go_wp2
      go_ret
      exact ⟨ret_intC (firstN_none (p := fun j => samePl (nth t j) d) hno).symm, hX⟩
set_option maxRecDepth 100000 in
set_option maxHeartbeats 1000000 in
theorem ContainsP_c (t : List Fi) (a : Option Addr) (n c B : Nat) (d : Co) (bv : Value) (cb : Nat) (w : World) (hF : FilesAt w B a n t) (hv : treeB t = true) (hC : Bx w cb #[.int .i64 d.root, .string ⟨(d.mod).toArray⟩, .bool d.init, .int .i64 d.mode, .int .i64 d.stamp, .int .i64 d.size, .int .i64 d.hash, bv]) (hG : Gm w) :
    Calls Tryd.prog 45 #[.slice a n c, .func (.func 46) #[] #[.pointer (some ⟨cb, 0, none⟩)]] w fun e w' => e = .returned (.bool (metB t d t.length)) ∧ X w w' := by
  have Hl := Lib.hid hF.len.1
  go_enter Tryd.func45, Tryd.ntmps45
  go_wp2_with fail
  refine (IndexFuncP_c t a n c B d bv cb w hF hv hC hG).mono ?_
  rintro _ w2 ⟨rfl, hx2⟩
  go_wp2
  go_ret
  refine ⟨?_, hx2⟩
  have h := @firstN_nonneg (fun j => samePl (nth t j) d) n
  rw [metB, ← Hl.out, Bool.eq_iff_iff.2 (show decide (0 ≤ firstN (fun j => samePl (nth t j) d) n) = true ↔ anyN (fun j => samePl (nth t j) d) n = true by rw [decide_eq_true_iff, h])]
  rfl

set_option maxRecDepth 100000 in
set_option maxHeartbeats 4000000 in
theorem PruneStore_i (l : List Co) (a : Option Addr) (n c B : Nat) (t : List Fi) (ta : Option Addr) (tn tc B2 : Nat) (w : World) (hD : CosAt w B a n l) (hF : FilesAt w B2 ta tn t) (htc : tn ≤ tc) (hG : Gm w) :
    Calls Tryd.prog 15 #[.slice a n c, .agg #[.slice ta tn tc]] w fun e w' => ∃ ra rc, e = .returned (.slice ra (pruneL l t).length rc) ∧ CosO w' w.heap.size ra (pruneL l t).length rc (pruneL l t) ∧ X w w' := by
  obtain ⟨hl, hn⟩ := hD.len
  have Hl := Lib.hid hl
  have hokC := hD.okC
  cases q1 : storeB l <;> cases q2 : treeB t
  case true.true =>
    rw [show pruneL l t = pruneN l t n by rw [pruneL, q1, q2, hl]; rfl]
    clear hl
    go_enter Tryd.func15, Tryd.ntmps15
    go_wp2_with fail
    refine calls_name (fun W0 hW0 => ?_)
    obtain ⟨hT0, hE0, hX0⟩ := bx2 hW0
    have hrow0 : W0.ownsRow (w.heap.size + 1) 49 8 (.slice (some ⟨w.heap.size + 1, 0, none⟩) 0 0) 0 [] := by
      rw [hW0]
      exact own_lit (w := w.alloc (.cells #[.slice ta tn tc] 25)) (cs := #[]) (e := 49) (B := w.heap.size + 1) (g := w.heap.size + 1) (size := 8) (n := 0) (by simp) (by simp) rfl (by omega)
    have hs0 : w.heap.size + 1 < W0.heap.size := hE0.lt
    clear hW0 hE0
    refine (ValidStore_c l a n c B W0 (hD.mono (hX0.fr _)) (hG.mono hX0)).mono ?_
    rintro _ w1 ⟨rfl, hx1⟩
    rw [q1]
    obtain ⟨lt2, ct2, _⟩ := (hT0.x hx1).out
    have t0 := ct2 0
    clear ct2
    go_wp2_with fail
    refine (ValidTree_c t ta tn tc B2 w1 (hF.mono (X.fr (hX0.trans hx1) _)) htc (hG.mono (hX0.trans hx1))).mono ?_
    rintro _ w2 ⟨rfl, hx2⟩
    rw [q2]
    clear t0 lt2
    have hT2 := (hT0.x hx1).x hx2
    have hXw := (hX0.trans hx1).trans hx2
    have hrow2 := own_fr hrow0 ((hx1.trans hx2).fr _)
    clear hx1 hx2 hX0 hrow0 hT0
    go_wp2
    go_loopw [5, 20] (fun v i wr => ∃ (k : Nat) (vs : List (Co × Value)) (ra : Option Addr) (rc : Nat), k ≤ n ∧ i = .int .i64 k ∧ v = .slice ra vs.length rc ∧ vs.map (·.1) = pruneN l t k ∧ wr.ownsRow (w.heap.size + 1) 49 8 (.slice ra vs.length rc) vs.length (vs.flatMap ccells) ∧
      (∀ x ∈ vs, ∃ ba bn bc, x.2 = .slice ba bn bc ∧ bn ≤ bc ∧ StmtsAt w B ba bn x.1.body) ∧ X w wr ∧ Bx wr w.heap.size #[.slice ta tn tc]) (fun _ i _ => n - (intOf i).toNat)
    case atStart => exact ⟨0, [], _, _, Nat.zero_le _, rfl, rfl, rfl, hrow2, (fun _ h => by cases h), hXw, hT2⟩
    case round =>
      obtain ⟨k, vs, ra, rc, hk, rfl, rfl, hvs, hrow, hbd, hX, hT⟩ := hrel
      clear hXw hrow2 hT2
      have hsz : w.heap.size + 1 ≤ wr.heap.size := hT.lt
      have hvl : vs.length ≤ 2097152 := by have := congrArg List.length hvs; rw [List.length_map] at this; have := @pruneN_len l t k; omega
      have Hv := Lib.hid (And.intro hvs hbd)
      clear hvs hbd
      obtain ⟨ltT, cT, _⟩ := hT.out
      have z0 := cT 0
      clear cT
      by_cases hlt : k < n
      · obtain ⟨b, off, ba, bn, bc, rfl, _, hb, hok, hbc, hSb, g0, g1, g2, g3, g4, g5, g6, g7⟩ := (hD.mono (hX.fr _)).at_ hlt
        have hS0 : StmtsAt w B ba bn (nth l k).body := by
          obtain ⟨b', off', ba', bn', bc', e, _, hb', _, hbc', hS', u0, _, _, _, _, _, _, u7⟩ := hD.at_ hlt
          injection e with e
          injection e with e1 e2
          subst e1 e2
          have := (hX.cell (p := ⟨b, off + k * 8 + 7, none⟩) hb').trans u7
          rw [g7] at this
          injection this with this
          injection this with h1 h2 h3
          rw [h1, h2]
          exact hS'
        have Hn := Lib.hid (@pruneN_next l t k (by rw [← Hl.out]; exact hlt))
        generalize nth l k = cf at *
        go_wp2_with fail
        refine calls_name (fun W3 hW3 => ?_)
        have hB3 : Bx W3 wr.heap.size #[.int .i64 cf.root, .string ⟨(cf.mod).toArray⟩, .bool cf.init, .int .i64 cf.mode, .int .i64 cf.stamp, .int .i64 cf.size, .int .i64 cf.hash, .slice ba bn bc] := by rw [hW3]; exact Bx.new _ _ _
        have hX3 : X wr W3 := by rw [hW3]; (repeat (first | with_reducible exact X.refl _ | with_reducible assumption | with_reducible refine X.setCell ?_ (by first | (simp; done) | (simp; omega)) _ | with_reducible refine X.ext ?_ _ | with_reducible refine X.alloc ?_ _ | with_reducible refine X.drew ?_))
        clear hW3
        refine (ContainsP_c t ta tn tc B2 cf (.slice ba bn bc) wr.heap.size W3 (hF.mono (X.fr (hX.trans hX3) _)) q2 hB3 (hG.mono (hX.trans hX3))).mono ?_
        rintro _ w4 ⟨rfl, hx4⟩
        have hX4 : X wr w4 := hX3.trans hx4
        obtain ⟨e0, e1, e2, e3, e4, e5, e6, e7⟩ := coKeep (hB3.x hx4)
        have hl4 := (hB3.x hx4).lt
        have hrow4 := own_fr hrow (hX4.fr _)
        have hsz4 : w.heap.size + 1 ≤ w4.heap.size := Nat.le_trans hsz hX4.size
        cases hd : metB t cf t.length
        · have He : pruneN l t (k + 1) = pruneN l t k := by rw [Hn.out, hd]; rfl
          have He := Lib.hid He
          go_wp2
          go_roundw
          case rel => exact ⟨k + 1, vs, ra, rc, by omega, by go_num, rfl, by rw [He.out, Hv.out.1], hrow4, Hv.out.2, hX.trans hX4, hT.x hX4⟩
          case measure => simp [intOf]; omega
        · have He : pruneN l t (k + 1) = pruneN l t k ++ [cf] := by rw [Hn.out, hd]; rfl
          have He := Lib.hid He
          go_wp2_with (at_builtin; refine wpList_append_g co_T rfl _ _ rfl hrow4 rfl rfl rfl rfl (by simp [Value.oneCell']) (by omega) (by omega) hsz4 ?_; intro a' c' w' hrow' hg')
          have hga : w4.grownBy w' (Value.slice ra vs.length rc).ownBlock := X.grown ((X.refl w4).alloc _) hg'
          have hXw' : X w w' := X.of_below (((hX.trans hX4).below).grown hga (X.size (hX.trans hX4)) (fun g hg => by have := (hrow4.lt g hg).1; omega))
          have hT' := (hT.x hX4).grown hga (fun g hg => by have := (hrow4.lt g hg).1; omega)
          go_roundw
          case rel => exact ⟨k + 1, vs ++ [(cf, .slice ba bn bc)], a', c', by omega, by go_num, by rw [List.length_append]; rfl, by rw [List.map_append, Hv.out.1, He.out]; rfl, by
              rw [List.length_append, List.flatMap_append]
              exact hrow', fun x hx => by
              rcases List.mem_append.1 hx with hx | hx
              · exact Hv.out.2 x hx
              · rw [List.mem_singleton.1 hx]
                exact ⟨ba, bn, bc, rfl, hbc, hS0⟩, hXw', hT'⟩
          case measure => simp [intOf]; omega
      · obtain rfl : k = n := by omega
        obtain ⟨hvs, hbd⟩ := Hv.out
        have hA : CosAt wr 0 ra vs.length (pruneN l t k) := by
          refine ⟨vs, hvs.symm, by rw [← hvs, List.length_map], hvl, fun x hx => (hokC.2 x (pruneN_sub x hx)).1, (Sl.of_own hrow).less (Nat.zero_le _), fun x hx => ?_⟩
          obtain ⟨ba, bn, bc, e, h1, h2⟩ := hbd x hx
          exact ⟨ba, bn, bc, e, h1, (h2.mono (hX.fr _)).less (Nat.zero_le _)⟩
        have hvl2 : vs.length = (pruneN l t k).length := by rw [← hvs, List.length_map]
        have Hvl := Lib.hid hvl2
        clear hvl2 hvs hbd
        go_wp2_with fail
        refine (cloneStore_c (pruneN l t k) ra vs.length rc 0 wr hA).mono ?_
        rintro _ w5 ⟨ra5, rc5, rfl, hO5, hx5⟩
        go_wp2
        go_ret
        rw [← Hvl.out]
        exact ⟨ra5, rc5, rfl, hO5.less (by omega), hX.trans hx5⟩
  all_goals
    rw [show pruneL l t = [] by rw [pruneL, q1, q2]; rfl]
    clear hl
    go_enter Tryd.func15, Tryd.ntmps15
    go_wp2_with fail
    refine calls_name (fun W0 hW0 => ?_)
    obtain ⟨hT0, hE0, hX0⟩ := bx2 hW0
    have hrow0 : W0.ownsRow (w.heap.size + 1) 49 8 (.slice (some ⟨w.heap.size + 1, 0, none⟩) 0 0) 0 [] := by
      rw [hW0]
      exact own_lit (w := w.alloc (.cells #[.slice ta tn tc] 25)) (cs := #[]) (e := 49) (B := w.heap.size + 1) (g := w.heap.size + 1) (size := 8) (n := 0) (by simp) (by simp) rfl (by omega)
    clear hW0 hE0
    refine (ValidStore_c l a n c B W0 (hD.mono (hX0.fr _)) (hG.mono hX0)).mono ?_
    rintro _ w1 ⟨rfl, hx1⟩
    rw [q1]
    obtain ⟨lt2, ct2, _⟩ := (hT0.x hx1).out
    have t0 := ct2 0
    clear ct2
    have hXw := hX0.trans hx1
    have hrow1 := own_fr hrow0 (hx1.fr _)
    go_wp2_with (go_at_call 18; refine (ValidTree_c t ta tn tc B2 w1 (hF.mono (X.fr hXw _)) htc (hG.mono hXw)).mono ?_; rintro _ w2 ⟨rfl, hx2⟩; rw [q2]; replace hXw := hXw.trans hx2; replace hrow1 := own_fr hrow1 (hx2.fr _))
    go_ret
    exact ⟨_, _, rfl, (CosO.nil hrow1).less (by omega), hXw⟩

end Go.Proofs.YtebnjkjllinabaaDoor

namespace Go.Proofs.YtebnjkjllinabaaDoor
open Go.RowKit

theorem Sl.one8 {w : World} {B b o : Nat} {x : Co × Value} (hB : B ≤ b) (hb : b < w.heap.size) (h : ∀ j (hj : j < 8), w.cell? ⟨b, o + j, none⟩ = some ((ccells x)[j]'hj)) : Sl w B (some ⟨b, o, none⟩) 1 ([x].flatMap ccells) := fun _ =>
  ⟨b, o, rfl, hB, hb, fun i hi => by
    have hi8 : i < 8 := by simpa [ccells] using hi
    rw [h i hi8]
    congr 1⟩
theorem CosAt.one {w : World} {B b o : Nat} {c : Co} {ba : Option Addr} {bn bc : Nat} (hB : B ≤ b) (hb : b < w.heap.size) (hm : c.mod.length ≤ 4194304) (hbc : bn ≤ bc) (hS : StmtsAt w B ba bn c.body)
    (h0 : w.cell? ⟨b, o, none⟩ = some (.int .i64 c.root)) (h1 : w.cell? ⟨b, o + 1, none⟩ = some (.string ⟨(c.mod).toArray⟩)) (h2 : w.cell? ⟨b, o + 2, none⟩ = some (.bool c.init)) (h3 : w.cell? ⟨b, o + 3, none⟩ = some (.int .i64 c.mode)) (h4 : w.cell? ⟨b, o + 4, none⟩ = some (.int .i64 c.stamp))
    (h5 : w.cell? ⟨b, o + 5, none⟩ = some (.int .i64 c.size)) (h6 : w.cell? ⟨b, o + 6, none⟩ = some (.int .i64 c.hash)) (h7 : w.cell? ⟨b, o + 7, none⟩ = some (.slice ba bn bc)) : CosAt w B (some ⟨b, o, none⟩) 1 [c] := by
  refine ⟨[(c, .slice ba bn bc)], rfl, rfl, by omega, (fun x hx => by rw [List.mem_singleton.1 hx]; exact hm), Sl.one8 hB hb ?_, fun x hx => ?_⟩
  · intro j hj
    match j, hj with
    | 0, _ => exact h0
    | 1, _ => exact h1
    | 2, _ => exact h2
    | 3, _ => exact h3
    | 4, _ => exact h4
    | 5, _ => exact h5
    | 6, _ => exact h6
    | 7, _ => exact h7
  · rw [List.mem_singleton.1 hx]
    exact ⟨ba, bn, bc, rfl, hbc, hS⟩
theorem metB_next {t : List Fi} {c : Co} {k : Nat} : metB t c (k + 1) = (metB t c k || samePl (nth t k) c) := anyN_succ

set_option maxRecDepth 100000 in
set_option maxHeartbeats 4000000 in
theorem PruneStore_s (l : List Co) (a : Option Addr) (n c B : Nat) (t : List Fi) (ta : Option Addr) (tn tc B2 : Nat) (w : World) (hD : CosAt w B a n l) (hF : FilesAt w B2 ta tn t) (hnc : n ≤ c) :
    Calls Tryd.prog 17 #[.slice a n c, .agg #[.slice ta tn tc]] w fun e w' => ∃ ra rc, e = .returned (.slice ra (pruneL l t).length rc) ∧ CosO w' w.heap.size ra (pruneL l t).length rc (pruneL l t) ∧ X w w' := by
  obtain ⟨hl, hn⟩ := hD.len
  have Hl := Lib.hid hl
  have htn := hF.len.2
  have Htl := Lib.hid hF.len.1
  cases q1 : storeB l <;> cases q2 : treeB t
  case true.true =>
    rw [show pruneL l t = pruneN l t n by rw [pruneL, q1, q2, hl]; rfl]
    clear hl
    go_enter Tryd.func17, Tryd.ntmps17
    go_wp2_with fail
    refine calls_name (fun W0 hW0 => ?_)
    have hT0 : Bx W0 w.heap.size #[.slice ta tn tc] := by rw [hW0]; exact Bx.new _ _ _
    have hX0 : X w W0 := by rw [hW0]; (repeat (first | with_reducible exact X.refl _ | with_reducible assumption | with_reducible refine X.setCell ?_ (by first | (simp; done) | (simp; omega)) _ | with_reducible refine X.ext ?_ _ | with_reducible refine X.alloc ?_ _ | with_reducible refine X.drew ?_))
    clear hW0
    refine (validStore_c l a n c B W0 (hD.mono (hX0.fr _))).mono ?_
    rintro _ w1 ⟨rfl, hx1⟩
    rw [q1]
    obtain ⟨lt2, ct2, _⟩ := (hT0.x hx1).out
    have t0 := ct2 0
    clear ct2
    go_wp2_with fail
    refine (validTree_c t ta tn tc B2 w1 (hF.mono (X.fr (hX0.trans hx1) _))).mono ?_
    rintro _ w2 ⟨rfl, hx2⟩
    rw [q2]
    clear t0 lt2
    have hT2 := (hT0.x hx1).x hx2
    have hXw := (hX0.trans hx1).trans hx2
    clear hx1 hx2 hX0 hT0
    go_wp2
    refine wp_name (fun W2 hW2 => ?_)
    have hrow2 : W2.ownsRow (w.heap.size + 1) 49 8 (.slice (some ⟨w2.heap.size, 0, none⟩) 0 0) 0 [] := by
      rw [hW2]
      exact own_lit (w := w2) (cs := #[]) (e := 49) (B := w.heap.size + 1) (g := w2.heap.size) (size := 8) (n := 0) rfl hT2.lt rfl (by omega)
    have hX2 : X w2 W2 := by rw [hW2]; (repeat (first | with_reducible exact X.refl _ | with_reducible assumption | with_reducible refine X.setCell ?_ (by first | (simp; done) | (simp; omega)) _ | with_reducible refine X.ext ?_ _ | with_reducible refine X.alloc ?_ _ | with_reducible refine X.drew ?_))
    clear hW2
    have hT := hT2.x hX2
    replace hXw := hXw.trans hX2
    clear hT2 hX2
    go_loopw [5, 6] (fun v i wr => ∃ (k : Nat) (vs : List (Co × Value)) (ra : Option Addr) (rc : Nat), k ≤ n ∧ i = .int .i64 k ∧ v = .slice ra vs.length rc ∧ vs.map (·.1) = pruneN l t k ∧ wr.ownsRow (w.heap.size + 1) 49 8 (.slice ra vs.length rc) vs.length (vs.flatMap ccells) ∧ SepC vs ∧
      (∀ x ∈ vs, BodyC wr (w.heap.size + 1) x) ∧ X w wr ∧ Bx wr w.heap.size #[.slice ta tn tc]) (fun _ i _ => n - (intOf i).toNat)
    case atStart => exact ⟨0, [], _, _, Nat.zero_le _, rfl, rfl, rfl, hrow2, List.Pairwise.nil, (fun _ h => by cases h), hXw, hT⟩
    case round =>
      obtain ⟨k, vs, ra, rc, hk, rfl, rfl, hvs, hrow, hsep, hbd, hX, hT⟩ := hrel
      clear hXw hrow2
      have hsz : w.heap.size + 1 ≤ wr.heap.size := hT.lt
      have hvl : vs.length ≤ 2097152 := by have := congrArg List.length hvs; rw [List.length_map] at this; have := @pruneN_len l t k; omega
      have Hv := Lib.hid (And.intro hvs (And.intro hsep hbd))
      clear hvs hsep hbd
      obtain ⟨ltT, cT, _⟩ := hT.out
      have z0 := cT 0
      clear cT
      by_cases hlt : k < n
      · obtain ⟨b, off, ba, bn, bc, rfl, hBb, hb, hok, hbc, hSb, g0, g1, g2, g3, g4, g5, g6, g7⟩ := (hD.mono (hX.fr _)).at_ hlt
        have hk1 : (k : Int) < (n : Int) := by omega
        have Hn := Lib.hid (@pruneN_next l t k (by rw [← Hl.out]; exact hlt))
        generalize nth l k = cf at *
        go_wp2
        obtain ⟨wo, rfl⟩ : ∃ wo, wo = wr := ⟨_, rfl⟩
        go_loopw [7, 8] (fun m j wr => ∃ q : Nat, q ≤ tn ∧ j = .int .i64 q ∧ m = .bool (metB t cf q) ∧ X wo wr) (fun _ j _ => tn - (intOf j).toNat)
        case atStart => exact ⟨0, Nat.zero_le _, rfl, rfl, X.refl _⟩
        case round =>
          obtain ⟨q, hq, rfl, rfl, hXs⟩ := hrel
          obtain ⟨ltS, cS, _⟩ := (hT.x hXs).out
          have y0 := cS 0
          clear cS
          by_cases hqt : q < tn
          · obtain ⟨fb, foff, fa, fn, fc, rfl, _, hfb0, hfok, hfbc, hSf, h0, h1, h2, h3, h4, h5⟩ := (hF.mono (X.fr (hX.trans hXs) _)).at_ hqt
            have Hm := Lib.hid (@metB_next t cf q)
            generalize nth t q = f at *
            go_wp2
            refine wp_name (fun W3 hW3 => ?_)
            have hB3 : Bx W3 wr.heap.size #[.int .i64 f.root, .string ⟨(f.pkg).toArray⟩, .string ⟨(f.name).toArray⟩, .bool f.init, .int .i64 f.stamp, .slice fa fn fc] := by rw [hW3]; exact Bx.new _ _ _
            have hX3 : X wr W3 := by rw [hW3]; (repeat (first | with_reducible exact X.refl _ | with_reducible assumption | with_reducible refine X.setCell ?_ (by first | (simp; done) | (simp; omega)) _ | with_reducible refine X.ext ?_ _ | with_reducible refine X.alloc ?_ _ | with_reducible refine X.drew ?_))
            clear hW3
            obtain ⟨t0, t1, t2, t3, t4, t5⟩ := keepT hB3
            have hlT := hB3.lt
            have hXs3 := hXs.trans hX3
            have hb3 : b < W3.heap.size := Nat.lt_of_lt_of_le hb hXs3.size
            have u0 := (hXs3.cell (p := ⟨b, off + k * 8, none⟩) hb).trans g0
            have u1 := (hXs3.cell (p := ⟨b, off + k * 8 + 1, none⟩) hb).trans g1
            have u2 := (hXs3.cell (p := ⟨b, off + k * 8 + 2, none⟩) hb).trans g2
            cases hm : metB t cf q
            · cases c1 : f.root == cf.root <;> cases c2 : moduleB f == cf.mod <;> cases c3 : f.init == cf.init
              all_goals
                have He := Lib.hid (show metB t cf (q + 1) = _ by rw [Hm.out, hm, samePl, c1, c2, c3])
                refine wp_region_grow0 (by kernel_rfl) (by kernel_rfl) ?_
                repeat (go_big_quiet_step (((go_at_call 51; refine grow_of (moduleName_c f _ _ hfok)))))
                refine wpQuiet_nil ?_
                rintro _ ⟨y, rfl⟩
                go_wp2
                go_roundw
                case rel => exact ⟨q + 1, by omega, by go_num, by rw [He.out]; rfl, hXs3.trans (by (repeat (first | exact X.refl _ | assumption | refine X.ext ?_ _ | refine X.alloc ?_ _ | refine X.drew ?_)))⟩
                case measure => simp [intOf]; omega
            · have He := Lib.hid (show metB t cf (q + 1) = true by rw [Hm.out, hm]; rfl)
              refine wp_region_grow0 (by kernel_rfl) (by kernel_rfl) ?_
              repeat (go_big_quiet_step ((fail)))
              refine wpQuiet_nil ?_
              rintro _ ⟨y, rfl⟩
              go_wp2
              go_roundw
              case rel => exact ⟨q + 1, by omega, by go_num, by rw [He.out], hXs3.trans (by (repeat (first | exact X.refl _ | assumption | refine X.ext ?_ _ | refine X.alloc ?_ _ | refine X.drew ?_)))⟩
              case measure => simp [intOf]; omega
          · obtain rfl : q = tn := by omega
            have hXr := hX.trans hXs
            have hTr := hT.x hXs
            have hrowr := own_fr hrow (hXs.fr _)
            have hszr : w.heap.size + 1 ≤ wr.heap.size := Nat.le_trans hsz hXs.size
            cases hd : metB t cf q
            · have He : pruneN l t (k + 1) = pruneN l t k := by rw [Hn.out, ← Htl.out, hd]; rfl
              have He := Lib.hid He
              go_wp2
              go_roundw
              case rel => exact ⟨k + 1, vs, ra, rc, by omega, by go_num, rfl, by rw [He.out, Hv.out.1], hrowr, Hv.out.2.1, (fun x hx => (Hv.out.2.2 x hx).fr (hXs.fr _)), hXr, hTr⟩
              case measure => simp [intOf]; omega
            · have He : pruneN l t (k + 1) = pruneN l t k ++ [cf] := by rw [Hn.out, ← Htl.out, hd]; rfl
              have He := Lib.hid He
              have hck : ¬ c = k := by omega
              have hbr : b < wr.heap.size := Nat.lt_of_lt_of_le hb hXs.size
              have hC1 : CosAt wr B (some ⟨b, off + k * 8, none⟩) 1 [cf] := CosAt.one hBb hbr hok hbc (hSb.mono (hXs.fr _)) ((hXs.cell (p := ⟨b, off + k * 8, none⟩) hb).trans g0) ((hXs.cell (p := ⟨b, off + k * 8 + 1, none⟩) hb).trans g1) ((hXs.cell (p := ⟨b, off + k * 8 + 2, none⟩) hb).trans g2) ((hXs.cell (p := ⟨b, off + k * 8 + 3, none⟩) hb).trans g3) ((hXs.cell (p := ⟨b, off + k * 8 + 4, none⟩) hb).trans g4) ((hXs.cell (p := ⟨b, off + k * 8 + 5, none⟩) hb).trans g5) ((hXs.cell (p := ⟨b, off + k * 8 + 6, none⟩) hb).trans g6) ((hXs.cell (p := ⟨b, off + k * 8 + 7, none⟩) hb).trans g7)
              go_wp2_with fail
              refine (copyStore_c [cf] (some ⟨b, off + k * 8, none⟩) 1 (c - k) B wr hC1).mono ?_
              rintro _ w5 ⟨ra5, rc5, rfl, ⟨zs, hz, hz1, hrow5, hsep5, hbd5⟩, hx5⟩
              obtain ⟨x, rfl⟩ : ∃ x, zs = [x] := by
                match zs, hz with
                | [x], _ => exact ⟨x, rfl⟩
              have hxc : x.1 = cf := by simpa using hz.symm
              have hbx := hbd5 x (List.mem_singleton.2 rfl)
              have hone : ∀ u ∈ [x].flatMap ccells, u.oneCell' = true := by
                obtain ⟨xa, xc, e, _⟩ := hbx
                intro u hu
                simp only [List.flatMap_cons, List.flatMap_nil, List.append_nil, ccells, List.mem_cons, List.not_mem_nil, or_false, e] at hu
                rcases hu with rfl | rfl | rfl | rfl | rfl | rfl | rfl | rfl <;> rfl
              have hrow6 := own_fr hrowr (hx5.fr _)
              have hsz5 : w.heap.size + 1 ≤ w5.heap.size := Nat.le_trans hszr hx5.size
              clear hz hz1 hsep5 hbd5
              go_wp2_with (at_builtin; refine wpList_append_sl co_T rfl _ _ rfl hrow6 rfl rfl (Sl.of_own hrow5) rfl hone (by omega) (by unfold maxLen; omega) hsz5 ?_; intro a' c' w' hrow' hg')
              have hXw' : X w w' := X.of_below (((hXr.trans hx5).below).grown hg' (X.size (hXr.trans hx5)) (fun g hg => by have := (hrow6.lt g hg).1; omega))
              have hT' := (hTr.x hx5).grown hg' (fun g hg => by have := (hrow6.lt g hg).1; omega)
              go_roundw
              case rel => exact ⟨k + 1, vs ++ [x], a', c', by omega, by go_num, by rw [List.length_append]; rfl, by rw [List.map_append, Hv.out.1, He.out, ← hxc]; rfl, by
                  rw [List.length_append, List.flatMap_append]
                  exact hrow', sepC_snoc (E := wr.heap.size) Hv.out.2.1 (bodyC_lt (fun y hy => (Hv.out.2.2 y hy).fr (hXs.fr _))) (fun b hb => by
                    obtain ⟨xa, xc, e, ho⟩ := hbx
                    rw [e] at hb
                    exact (ho.lt b hb).1), fun y hy => by
                  have hy5 : BodyC w5 (w.heap.size + 1) y := by
                    rcases List.mem_append.1 hy with hy | hy
                    · exact (Hv.out.2.2 y hy).fr (X.fr (hXs.trans hx5) _)
                    · rw [List.mem_singleton.1 hy]
                      exact hbx.less hszr
                  refine hy5.kept hg' ?_
                  obtain ⟨ya, yc, e, ho⟩ := hy5
                  rw [e]
                  exact row_ne ho hrow6 (by decide), hXw', hT'⟩
              case measure => simp [intOf]; omega
      · obtain rfl : k = n := by omega
        go_wp2
        go_ret
        have hvl2 : vs.length = (pruneN l t k).length := by rw [← Hv.out.1, List.length_map]
        rw [← hvl2]
        have hFO : CosO wr (w.heap.size + 1) ra vs.length rc (pruneN l t k) := ⟨vs, Hv.out.1.symm, hvl2, hrow, Hv.out.2.1, Hv.out.2.2⟩
        exact ⟨ra, rc, rfl, hFO.less (by omega), hX⟩
  all_goals
    rw [show pruneL l t = [] by rw [pruneL, q1, q2]; rfl]
    clear hl
    go_enter Tryd.func17, Tryd.ntmps17
    go_wp2_with fail
    refine calls_name (fun W0 hW0 => ?_)
    have hT0 : Bx W0 w.heap.size #[.slice ta tn tc] := by rw [hW0]; exact Bx.new _ _ _
    have hX0 : X w W0 := by rw [hW0]; (repeat (first | with_reducible exact X.refl _ | with_reducible assumption | with_reducible refine X.setCell ?_ (by first | (simp; done) | (simp; omega)) _ | with_reducible refine X.ext ?_ _ | with_reducible refine X.alloc ?_ _ | with_reducible refine X.drew ?_))
    clear hW0
    refine (validStore_c l a n c B W0 (hD.mono (hX0.fr _))).mono ?_
    rintro _ w1 ⟨rfl, hx1⟩
    rw [q1]
    obtain ⟨lt2, ct2, _⟩ := (hT0.x hx1).out
    have t0 := ct2 0
    clear ct2
    have hXw := hX0.trans hx1
    go_wp2_with (go_at_call 37; refine (validTree_c t ta tn tc B2 w1 (hF.mono (X.fr hXw _))).mono ?_; rintro _ w2 ⟨rfl, hx2⟩; rw [q2]; replace hXw := hXw.trans hx2)
    go_ret
    exact ⟨none, 0, rfl, CosO.nil ⟨rfl, .inl ⟨rfl, rfl⟩⟩, hXw⟩

end Go.Proofs.YtebnjkjllinabaaDoor

namespace Go.Proofs.YtebnjkjllinabaaDoor
open Go.RowKit

/-! ### Names and places -/
theorem part_no_dot {s : List UInt8} (h : partB s = true) : ∀ x ∈ s, x ≠ 46 := by
  unfold partB at h
  simp only [Bool.and_eq_true] at h
  intro x hx e
  obtain ⟨k, hk, rfl⟩ := List.getElem_of_mem hx
  have := allN_iff.1 h.2 k hk
  rw [nth_eq hk, e] at this
  exact absurd this (by decide)
theorem last_dot {a b s u : List UInt8} (h : a ++ 46 :: s = b ++ 46 :: u) (hs : ∀ x ∈ s, x ≠ 46) (hu : ∀ x ∈ u, x ≠ 46) : a = b ∧ s = u := by
  rcases List.append_eq_append_iff.1 h with ⟨c, h1, h2⟩ | ⟨c, h1, h2⟩
  · cases c with
    | nil => simp at h1 h2; exact ⟨h1.symm, h2⟩
    | cons x c =>
      simp only [List.cons_append, List.cons.injEq] at h2
      exact absurd rfl (hs 46 (by rw [h2.2]; simp))
  · cases c with
    | nil => simp at h1 h2; exact ⟨h1, h2.symm⟩
    | cons x c =>
      simp only [List.cons_append, List.cons.injEq] at h2
      exact absurd rfl (hu 46 (by rw [h2.2]; simp))
theorem childL_inj {p q s u : List UInt8} (hs : partB s = true) (hu : partB u = true) (h : childL p s = childL q u) : p = q ∧ s = u := by
  have h1 := part_no_dot hs
  have h2 := part_no_dot hu
  unfold childL at h
  cases p with
  | nil =>
    cases q with
    | nil => exact ⟨rfl, h⟩
    | cons y q =>
      simp only [List.isEmpty_nil, List.isEmpty_cons, if_true, Bool.false_eq_true, if_false] at h
      exact absurd rfl (h1 46 (by rw [h]; simp))
  | cons x p =>
    cases q with
    | nil =>
      simp only [List.isEmpty_nil, List.isEmpty_cons, if_true, Bool.false_eq_true, if_false] at h
      exact absurd rfl (h2 46 (by rw [← h]; simp))
    | cons y q =>
      simp only [List.isEmpty_cons, Bool.false_eq_true, if_false] at h
      exact last_dot h h1 h2
theorem file_inj {f g : Fi} (hf : fileB f = true) (hg : fileB g = true) (hr : f.root = g.root) (hm : moduleB f = moduleB g) (hi : f.init = g.init) : sameP f g = true := by
  rw [sameP_iff]
  unfold fileB at hf hg
  unfold moduleB at hm
  cases h1 : f.init with
  | false =>
    rw [h1] at hf hm hi
    rw [← hi] at hg hm
    simp only [Bool.and_eq_true, Bool.false_eq_true, if_false] at hf hg hm
    obtain ⟨e1, e2⟩ := childL_inj hf.2.1 hg.2.1 hm
    exact ⟨hr, e1, hi, e2⟩
  | true =>
    rw [h1] at hf hm hi
    rw [← hi] at hg hm
    simp only [Bool.and_eq_true, if_true, List.isEmpty_iff] at hf hg hm
    exact ⟨hr, hm, hi, by rw [hf.2.2, hg.2.2]⟩
theorem treeB_uniq {t : List Fi} (h : treeB t = true) {i j : Nat} (hi : i < t.length) (hj : j < t.length) (hs : sameP (nth t i) (nth t j) = true) : i = j := by
  have key : ∀ i j, i < j → j < t.length → sameP (nth t i) (nth t j) = true → False := fun i j hij hj hs => by
    unfold treeB at h
    simp only [Bool.and_eq_true] at h
    have h1 := allN_iff.1 h.1 j hj
    simp only [Bool.and_eq_true, Bool.not_eq_true'] at h1
    have h2 := h1.2
    exact Bool.false_ne_true (h2.symm.trans (anyN_yes (p := fun q => sameP (nth t q) (nth t j)) hs hij))
  rcases Nat.lt_trichotomy i j with h1 | h1 | h1
  · exact (key i j h1 hj hs).elim
  · exact h1
  · exact (key j i h1 hi (by rw [sameP_comm]; exact hs)).elim

/-! ### Stores -/
def okCo (c : Co) : Bool := rangeB c.root 0 2 && nameB c.mod && rangeB c.mode 0 2 && rangeB c.stamp 0 99 && bodyB c.body && c.size == ((szN c.body : Nat) : Int) && c.hash == hashZ c.body
def sameK (a b : Co) : Bool := sameC a b.root b.mod b.init
theorem sameC_iff {c : Co} {r : Int} {s : List UInt8} {it : Bool} : sameC c r s it = true ↔ c.root = r ∧ c.mod = s ∧ c.init = it := by simp [sameC, and_assoc]
theorem sameK_iff {a b : Co} : sameK a b = true ↔ a.root = b.root ∧ a.mod = b.mod ∧ a.init = b.init := sameC_iff
theorem storeB_iff {l : List Co} : storeB l = true ↔ (∀ c ∈ l, okCo c = true) ∧ l.Pairwise (fun a b => sameK a b = false) ∧ l.length ≤ 12 := by
  unfold storeB
  rw [Bool.and_eq_true, decide_eq_true_iff, allN_iff]
  have hco : ∀ k, k < l.length → (coB l l.length k = true ↔ okCo (nth l k) = true ∧ ∀ i, i < k → sameK (nth l i) (nth l k) = false) := fun k hk => by
    have hp : ∀ q, (!decide (cidx l (nth l k).root (nth l k).mod (nth l k).init l.length < (k : Int))) = q ↔ decide (∀ i, i < k → sameK (nth l i) (nth l k) = false) = q := fun q => by
      have : (!decide (cidx l (nth l k).root (nth l k).mod (nth l k).init l.length < (k : Int))) = decide (∀ i, i < k → sameK (nth l i) (nth l k) = false) := by
        rw [Bool.eq_iff_iff]
        simp only [Bool.not_eq_true', decide_eq_false_iff_not, decide_eq_true_eq]
        have hself : sameC (nth l k) (nth l k).root (nth l k).mod (nth l k).init = true := sameC_iff.2 ⟨rfl, rfl, rfl⟩
        constructor
        · intro h i hi
          cases hs : sameK (nth l i) (nth l k) with
          | false => rfl
          | true =>
            exfalso
            apply h
            rcases firstN_cases (fun j => sameC (nth l j) (nth l k).root (nth l k).mod (nth l k).init) l.length with ⟨h1, _⟩ | ⟨j, hj, h1, h2, h3⟩
            · have := anyN_false.1 h1 k hk
              rw [hself] at this; cases this
            · rw [show cidx l (nth l k).root (nth l k).mod (nth l k).init l.length = (j : Int) from h3]
              rcases Nat.lt_or_ge i j with h4 | h4
              · have h5 := anyN_false.1 h2 i h4
                have h6 : sameC (nth l i) (nth l k).root (nth l k).mod (nth l k).init = true := hs
                rw [h6] at h5; cases h5
              · omega
        · intro h h1
          rcases firstN_cases (fun j => sameC (nth l j) (nth l k).root (nth l k).mod (nth l k).init) l.length with ⟨h2, _⟩ | ⟨j, hj, h2, _, h3⟩
          · have := anyN_false.1 h2 k hk
            rw [hself] at this; cases this
          · rw [show cidx l (nth l k).root (nth l k).mod (nth l k).init l.length = (j : Int) from h3] at h1
            have h5 := h j (by omega)
            have h6 : sameK (nth l j) (nth l k) = true := h2
            rw [h6] at h5; cases h5
      rw [this]
    unfold coB okCo
    rw [Bool.and_eq_true, hp true, decide_eq_true_iff]
    simp only [bne, Bool.not_not]
  constructor
  · rintro ⟨h1, h2⟩
    refine ⟨fun c hc => ?_, List.pairwise_iff_getElem.2 fun i j hi hj hij => ?_, h2⟩
    · obtain ⟨k, hk, rfl⟩ := List.getElem_of_mem hc
      rw [← nth_eq hk]
      exact ((hco k hk).1 (h1 k hk)).1
    · rw [← nth_eq hi, ← nth_eq hj]
      exact ((hco j hj).1 (h1 j hj)).2 i hij
  · rintro ⟨h1, h2, h3⟩
    refine ⟨fun k hk => (hco k hk).2 ⟨h1 _ (nth_mem hk), fun i hi => ?_⟩, h3⟩
    have := List.pairwise_iff_getElem.1 h2 i k (by omega) hk hi
    rwa [← nth_eq, ← nth_eq] at this
/-- What a store has of a file. -/
def findC (l : List Co) (f : Fi) : Option Co := l.find? (fun c => sameC c f.root (moduleB f) f.init)
theorem findC_none {l : List Co} {f : Fi} : findC l f = none ↔ cix l f = -1 := by
  unfold findC
  rw [List.find?_eq_none]
  constructor
  · intro h
    exact firstN_none (anyN_false.2 fun k hk => by simpa using h _ (nth_mem hk))
  · intro h x hx
    rcases firstN_cases (fun j => sameC (nth l j) f.root (moduleB f) f.init) l.length with ⟨h1, _⟩ | ⟨j, hj, _, _, h3⟩
    · obtain ⟨k, hk, rfl⟩ := List.getElem_of_mem hx
      have := anyN_false.1 h1 k hk
      rw [nth_eq hk] at this
      simp [this]
    · rw [show cix l f = (j : Int) from h3] at h; omega
theorem findC_some {l : List Co} {f : Fi} {k : Nat} (hk : k < l.length) (h : cix l f = (k : Int)) : findC l f = some (nth l k) ∧ sameC (nth l k) f.root (moduleB f) f.init = true ∧ ∀ i, i < k → sameC (nth l i) f.root (moduleB f) f.init = false := by
  rcases firstN_cases (fun j => sameC (nth l j) f.root (moduleB f) f.init) l.length with ⟨_, h2⟩ | ⟨j, hj, h1, h2, h3⟩
  · rw [show cix l f = -1 from h2] at h; omega
  · have hjk : j = k := by rw [show cix l f = (j : Int) from h3] at h; omega
    subst hjk
    refine ⟨?_, h1, fun i hi => anyN_false.1 h2 i hi⟩
    unfold findC
    rw [List.find?_eq_some_iff_getElem]
    refine ⟨h1, j, hj, (nth_eq hj).symm, fun i hi => ?_⟩
    have := anyN_false.1 h2 i hi
    rw [nth_eq (by omega)] at this
    simp [this]
theorem had_find (l : List Co) (f : Fi) : hadB l f = match findC l f with | some c => usableB c f | none => false := by
  rcases cix_cases l f with h | ⟨k, hk, h⟩
  · rw [findC_none.2 h, (load_none h).1]
  · rw [(findC_some hk h).1, (load_some h).1]
theorem body_find (l : List Co) (f : Fi) : bodyLd l f = match findC l f with | some c => if usableB c f then c.body else f.body | none => f.body := by
  rcases cix_cases l f with h | ⟨k, hk, h⟩
  · rw [findC_none.2 h, (load_none h).2.1]
  · rw [(findC_some hk h).1, (load_some h).2.1]
theorem findC_mem {l : List Co} {f : Fi} {c : Co} (h : findC l f = some c) : c ∈ l ∧ sameC c f.root (moduleB f) f.init = true := ⟨List.mem_of_find?_eq_some h, by have := List.find?_some h; simpa using this⟩
theorem fileB_nameS {f : Fi} (h : fileB f = true) : nameB (moduleB f) = true := by
  unfold fileB at h
  unfold moduleB
  cases hi : f.init <;> rw [hi] at h <;> simp only [Bool.and_eq_true, Bool.false_eq_true, if_false, if_true] at h ⊢
  · exact h.2.2
  · rw [pkgB_ne h.1.1.1.2]; exact h.2.1
theorem compB_ok {f : Fi} {mode : Int} (hf : fileB f = true) (hm : rangeB mode 0 2 = true) : okCo (compB f mode) = true := by
  have h1 := fileB_nameS hf
  have h2 := fileB_body hf
  unfold fileB at hf
  simp only [Bool.and_eq_true] at hf
  simp [okCo, compB, h1, h2, hm, hf.1.1.1.1, hf.1.1.2]
theorem compB_key {f : Fi} {mode : Int} : sameC (compB f mode) f.root (moduleB f) f.init = true := sameC_iff.2 ⟨rfl, rfl, rfl⟩
theorem compB_use {f : Fi} {mode : Int} : usableB (compB f mode) f = true := by
  unfold usableB
  split
  · simp [compB]
  · split
    · simp [compB]
    · rfl

/-! ### The laws -/
theorem load_law {l : List Co} {f : Fi} {mode : Int} (h : loadOk l f mode = true) :
    storeB (storeLd l f mode) = true ∧ (hadB l f = true → storeLd l f mode = l) ∧ (hadB l f = false → bodyLd l f = f.body) ∧ l.length ≤ (storeLd l f mode).length := by
  unfold loadOk at h
  simp only [Bool.and_eq_true] at h
  obtain ⟨⟨h1, h2⟩, h3⟩ := h
  obtain ⟨a1, a2, a3⟩ := storeB_iff.1 h1
  rcases cix_cases l f with hc | ⟨k, hk, hc⟩
  · obtain ⟨r1, r2, r3⟩ := load_none hc
    rw [r1, r2, r3 mode]
    refine ⟨?_, (fun e => by cases e), fun _ => rfl, ?_⟩
    · split
      · rename_i h12
        refine storeB_iff.2 ⟨fun c hc' => ?_, List.pairwise_append.2 ⟨a2, List.pairwise_singleton _ _, fun x hx y hy => ?_⟩, by rw [List.length_append, List.length_singleton]; omega⟩
        · rcases List.mem_append.1 hc' with hc' | hc'
          · exact a1 c hc'
          · rw [List.mem_singleton.1 hc']; exact compB_ok h2 h3
        · rw [List.mem_singleton.1 hy]
          have := List.find?_eq_none.1 (findC_none.2 hc) x hx
          exact Bool.eq_false_iff.2 this
      · exact h1
    · split
      · rw [List.length_append]; omega
      · exact Nat.le_refl _
  · obtain ⟨r1, r2, r3⟩ := load_some hc
    obtain ⟨_, hkey, _⟩ := findC_some hk hc
    rw [r1, r2, r3 mode]
    cases hu : usableB (nth l k) f
    · rw [if_neg (by simp), if_neg (by simp)]
      refine ⟨storeB_iff.2 ⟨fun c hc' => ?_, ?_, by rw [List.length_set]; exact a3⟩, (fun e => by cases e), fun _ => rfl, by rw [List.length_set]; exact Nat.le_refl _⟩
      · rcases List.mem_or_eq_of_mem_set hc' with hc' | rfl
        · exact a1 c hc'
        · exact compB_ok h2 h3
      · rw [List.pairwise_iff_getElem] at a2 ⊢
        intro i j hi hj hij
        rw [List.length_set] at hi hj
        obtain ⟨k1, k2, k3⟩ := sameC_iff.1 hkey
        rw [List.getElem_set, List.getElem_set]
        split
        · rename_i e
          subst e
          rw [if_neg (by omega)]
          have := a2 k j hk hj hij
          rw [← nth_eq hk] at this
          unfold sameK sameC at this ⊢
          rw [k1, k2, k3] at this
          exact this
        · split
          · rename_i e
            subst e
            have := a2 i k hi hk hij
            rw [← nth_eq hk] at this
            unfold sameK at this ⊢
            rw [k1, k2, k3] at this
            exact this
          · exact a2 i j hi hj hij
    · rw [if_pos rfl]
      exact ⟨h1, fun _ => rfl, (fun e => by cases e), Nat.le_refl _⟩
theorem twice_law {l : List Co} {f : Fi} {mode : Int} :
    bodyLd (storeLd l f mode) f = bodyLd l f ∧ (12 ≤ l.length ∨ (hadB (storeLd l f mode) f = true ∧ storeLd (storeLd l f mode) f mode = storeLd l f mode)) := by
  rcases cix_cases l f with hc | ⟨k, hk, hc⟩
  · obtain ⟨r1, r2, r3⟩ := load_none hc
    rw [r3 mode]
    split
    · have hf : findC (l ++ [compB f mode]) f = some (compB f mode) := by
        unfold findC
        rw [List.find?_append, show l.find? (fun c => sameC c f.root (moduleB f) f.init) = none from findC_none.2 hc]
        simp [compB_key]
      have hh : hadB (l ++ [compB f mode]) f = true := by rw [had_find, hf]; exact compB_use
      refine ⟨?_, .inr ⟨hh, by rw [storeLd, hh, if_pos rfl]⟩⟩
      rw [r2, body_find, hf]
      simp [compB_use, compB_len]
    · rename_i h12
      exact ⟨rfl, .inl (by omega)⟩
  · obtain ⟨r1, r2, r3⟩ := load_some hc
    obtain ⟨hfk, hkey, hno⟩ := findC_some hk hc
    rw [r3 mode]
    cases hu : usableB (nth l k) f
    · rw [if_neg (by simp)]
      have hf : findC (l.set k (compB f mode)) f = some (compB f mode) := by
        unfold findC
        rw [List.find?_eq_some_iff_getElem]
        refine ⟨compB_key, k, by rw [List.length_set]; exact hk, by rw [List.getElem_set_self], fun i hi => ?_⟩
        rw [List.getElem_set_ne (by omega)]
        have := hno i hi
        rw [nth_eq (by omega)] at this
        simp [this]
      have hh : hadB (l.set k (compB f mode)) f = true := by rw [had_find, hf]; exact compB_use
      refine ⟨?_, .inr ⟨hh, by rw [storeLd, hh, if_pos rfl]⟩⟩
      rw [r2, hu, body_find, hf]
      simp [compB_use, compB_len]
    · rw [if_pos rfl]
      have hh : hadB l f = true := by rw [r1]; exact hu
      exact ⟨rfl, .inr ⟨hh, by rw [storeLd, hh, if_pos rfl]⟩⟩
theorem findC_filter {l : List Co} {t : List Fi} {f : Fi} {i : Nat} (hi : i < t.length) (hf : nth t i = f) : findC (pruneN l t l.length) f = findC l f := by
  unfold findC pruneN
  rw [List.take_length, List.find?_filter]
  congr 1
  funext c
  cases hs : sameC c f.root (moduleB f) f.init with
  | false => simp
  | true =>
    have hm : metB t c t.length = true := anyN_yes (k := i) (by
      rw [hf]
      obtain ⟨e1, e2, e3⟩ := sameC_iff.1 hs
      simp [samePl, e1, e2, e3]) hi
    simp [hm]
theorem keys_len : ∀ (t : List Fi) (out : List Co), out.Pairwise (fun a b => sameK a b = false) → (∀ c ∈ out, ∃ f ∈ t, samePl f c = true) → out.length ≤ t.length
  | [], out, _, h => by
    cases out with
    | nil => simp
    | cons c out => obtain ⟨f, hf, _⟩ := h c List.mem_cons_self; cases hf
  | f :: t, out, hp, h => by
    have h1 := keys_len t (out.filter (fun c => !samePl f c)) (hp.sublist List.filter_sublist) (fun c hc => by
      obtain ⟨hc1, hc2⟩ := List.mem_filter.1 hc
      obtain ⟨g, hg, hs⟩ := h c hc1
      rcases List.mem_cons.1 hg with rfl | hg
      · rw [hs] at hc2; cases hc2
      · exact ⟨g, hg, hs⟩)
    have h2 : (out.filter (fun c => samePl f c)).length ≤ 1 := by
      have hp2 := hp.sublist (List.filter_sublist (p := fun c => samePl f c))
      cases hq : out.filter (fun c => samePl f c) with
      | nil => simp
      | cons a m =>
        cases m with
        | nil => simp
        | cons b m =>
          exfalso
          rw [hq] at hp2
          have ha : samePl f a = true := by
            have : a ∈ out.filter (fun c => samePl f c) := by rw [hq]; simp
            exact (List.mem_filter.1 this).2
          have hb : samePl f b = true := by
            have : b ∈ out.filter (fun c => samePl f c) := by rw [hq]; simp
            exact (List.mem_filter.1 this).2
          have := (List.pairwise_cons.1 hp2).1 b (by simp)
          simp [samePl] at ha hb
          have hk : sameK a b = true := sameK_iff.2 ⟨by rw [← ha.1.1, hb.1.1], by rw [← ha.1.2, hb.1.2], by rw [← ha.2, hb.2]⟩
          rw [hk] at this; cases this
    have h3 : out.length = (out.filter (fun c => samePl f c)).length + (out.filter (fun c => !samePl f c)).length := by
      rw [← List.countP_eq_length_filter, ← List.countP_eq_length_filter]
      have := List.length_eq_countP_add_countP (fun c => samePl f c) (l := out)
      simpa using this
    rw [List.length_cons]
    omega
theorem prune_law {l : List Co} {t : List Fi} (h1 : storeB l = true) (h2 : treeB t = true) :
    (∀ i, i < t.length → bodyLd (pruneL l t) (nth t i) = bodyLd l (nth t i) ∧ hadB (pruneL l t) (nth t i) = hadB l (nth t i)) ∧ storeB (pruneL l t) = true ∧ (pruneL l t).length ≤ t.length ∧ pruneL (pruneL l t) t = pruneL l t := by
  have he : pruneL l t = pruneN l t l.length := by rw [pruneL, h1, h2]; rfl
  obtain ⟨a1, a2, a3⟩ := storeB_iff.1 h1
  have hfe : pruneN l t l.length = l.filter (fun c => metB t c t.length) := by rw [pruneN, List.take_length]
  have hst : storeB (pruneN l t l.length) = true := by
    rw [hfe]
    exact storeB_iff.2 ⟨fun c hc => a1 c (List.mem_filter.1 hc).1, a2.sublist List.filter_sublist, Nat.le_trans (List.length_filter_le _ _) a3⟩
  rw [he]
  refine ⟨fun i hi => ?_, hst, ?_, ?_⟩
  · have := findC_filter (l := l) hi rfl
    rw [body_find, body_find, had_find, had_find, this]
    exact ⟨rfl, rfl⟩
  · refine keys_len t _ (storeB_iff.1 hst).2.1 (fun c hc => ?_)
    rw [hfe] at hc
    obtain ⟨k, hk, hs⟩ := anyN_iff.1 (List.mem_filter.1 hc).2
    exact ⟨_, nth_mem hk, hs⟩
  · rw [pruneL, hst, h2]
    show pruneN _ t _ = _
    rw [pruneN, List.take_length, hfe, List.filter_filter]
    congr 1
    funext c
    simp
theorem comp_law {t : List Fi} {mode : Int} (h1 : treeB t = true) (h2 : rangeB mode 0 2 = true) :
    storeB (t.map (fun f => compB f mode)) = true ∧ wrongL (t.map (fun f => compB f mode)) t = [] ∧ pruneL (t.map (fun f => compB f mode)) t = t.map (fun f => compB f mode) := by
  have huni : ∀ i j, (hi : i < t.length) → (hj : j < t.length) → sameK (compB (nth t i) mode) (compB (nth t j) mode) = true → i = j := fun i j hi hj hs => by
    obtain ⟨e1, e2, e3⟩ := sameK_iff.1 hs
    exact treeB_uniq h1 hi hj (file_inj (treeB_file h1 hi) (treeB_file h1 hj) e1 e2 e3)
  have hst : storeB (t.map (fun f => compB f mode)) = true := by
    refine storeB_iff.2 ⟨fun c hc => ?_, List.pairwise_iff_getElem.2 fun i j hi hj hij => ?_, by rw [List.length_map]; exact treeB_len h1⟩
    · obtain ⟨f, hf, rfl⟩ := List.mem_map.1 hc
      obtain ⟨k, hk, rfl⟩ := List.getElem_of_mem hf
      have := treeB_file h1 hk
      rw [nth_eq hk] at this
      exact compB_ok this h2
    · rw [List.length_map] at hi hj
      rw [List.getElem_map, List.getElem_map, ← nth_eq hi, ← nth_eq hj]
      cases hs : sameK (compB (nth t i) mode) (compB (nth t j) mode) with
      | false => rfl
      | true => have := huni i j hi hj hs; omega
  refine ⟨hst, ?_, ?_⟩
  · have hno : ∀ i, i < t.length → wrongK (t.map (fun f => compB f mode)) (nth t i) = false := fun i hi => by
      have : bodyLd (t.map (fun f => compB f mode)) (nth t i) = (nth t i).body := by
        rw [body_find]
        cases hc : findC (t.map (fun f => compB f mode)) (nth t i) with
        | none => rfl
        | some c =>
          obtain ⟨hm, hs⟩ := findC_mem hc
          obtain ⟨f, hf, rfl⟩ := List.mem_map.1 hm
          obtain ⟨k, hk, rfl⟩ := List.getElem_of_mem hf
          rw [← nth_eq hk] at hs ⊢
          have hik : k = i := huni k i hk hi hs
          subst hik
          simp [compB_len]
      rw [wrongK, decide_eq_true this]; rfl
    rw [wrongL, hst, h1]
    show wrongN _ t t.length = []
    rw [wrongN, List.map_eq_nil_iff, List.filter_eq_nil_iff]
    intro i hi
    rw [hno i (List.mem_range.1 hi)]
    exact Bool.false_ne_true
  · rw [pruneL, hst, h1]
    show pruneN _ t _ = _
    rw [pruneN, List.take_length, List.filter_eq_self]
    intro c hc
    obtain ⟨f, hf, rfl⟩ := List.mem_map.1 hc
    obtain ⟨k, hk, rfl⟩ := List.getElem_of_mem hf
    exact anyN_yes (k := k) (by rw [nth_eq hk]; simp [samePl, compB]) hk

end Go.Proofs.YtebnjkjllinabaaDoor
