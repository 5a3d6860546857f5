/- The walks of the laws' own counting of sizes. Conditions: lengths. -/
import Derived.Test.YtjlooplpjliaiaaDoorProg
import Derived.Test.YtjlooplpjliaiaaDoorSz
import Derived.IntWalk
namespace Go.Proofs.YtjlooplpjliaiaaDoor
open Go.RowKit

theorem i64_sub (n : Int) (k : Nat) (h0 : 0 ≤ n) (h1 : n ≤ 1048576) (hk : k ≤ maxLen) : IntKind.i64.wrap (n - (k : Int)) = n - (k : Int) := IntWalk.i64_in _ (by unfold maxLen at hk; omega)
set_option maxRecDepth 100000 in
set_option maxHeartbeats 400000 in
theorem szStmt_c (s : St) (n : Int) (w : World) (hm : s.mod.length ≤ maxLen) (hk : s.name.length ≤ maxLen) (h0 : 0 ≤ n) (h1 : n ≤ 1048576) :
    Calls Tryd.prog 76 #[.agg #[.int .i64 (s).kind, .string ⟨(s).mod.toArray⟩, .int .i64 (s).level, .string ⟨(s).name.toArray⟩, .int .i64 (s).val], .int .i64 n] w fun e w' => e = .returned (.int .i64 (szSt s n)) ∧ X w w' := by
  have q1 := i64_sub n s.mod.length h0 h1 hm
  by_cases c1 : n - (s.mod.length : Int) < 0
  · rw [show szSt s n = -1 by rw [szSt, if_pos c1]]
    go_enter Tryd.func76, Tryd.ntmps76
    go_wp2
    go_ret
    exact ⟨by simp, by (repeat (first | exact X.refl _ | assumption | refine X.ext ?_ _ | refine X.alloc ?_ _ | refine X.drew ?_))⟩
  · have q2 := i64_sub (n - (s.mod.length : Int)) s.name.length (by omega) (by omega) hk
    by_cases c2 : n - (s.mod.length : Int) - (s.name.length : Int) < 0
    · rw [show szSt s n = -1 by rw [szSt, if_neg c1, if_pos c2]]
      go_enter Tryd.func76, Tryd.ntmps76
      go_wp2
      go_ret
      exact ⟨by simp, by (repeat (first | exact X.refl _ | assumption | refine X.ext ?_ _ | refine X.alloc ?_ _ | refine X.drew ?_))⟩
    · rw [show szSt s n = n - (s.mod.length : Int) - (s.name.length : Int) by rw [szSt, if_neg c1, if_neg c2]]
      go_enter Tryd.func76, Tryd.ntmps76
      go_wp2
      go_ret
      exact ⟨by simp, by (repeat (first | exact X.refl _ | assumption | refine X.ext ?_ _ | refine X.alloc ?_ _ | refine X.drew ?_))⟩
set_option maxRecDepth 100000 in
set_option maxHeartbeats 1000000 in
theorem szStmtS_c (l : List St) (a : Option Addr) (n c : Nat) (m0 : Int) (w : World) (hS : StmtsR w a n l) (h0 : 0 ≤ m0) (h1 : m0 ≤ 1048576) :
    Calls Tryd.prog 47 #[.slice a n c, .int .i64 m0] w fun e w' => e = .returned (.int .i64 (szSts l m0)) ∧ X w w' := by
  have hl := hS.1
  have hn := hS.2.1
  have q1 := i64_sub m0 n h0 h1 hn
  by_cases c1 : m0 - (n : Int) < 0
  · rw [show szSts l m0 = -1 by rw [szSts, ← hl, if_pos c1]]
    clear hl
    go_enter Tryd.func47, Tryd.ntmps47
    go_wp2
    go_ret
    exact ⟨by simp, by (repeat (first | exact X.refl _ | assumption | refine X.ext ?_ _ | refine X.alloc ?_ _ | refine X.drew ?_))⟩
  · rw [show szSts l m0 = szL szSt l (m0 - (n : Int)) by rw [szSts, ← hl, if_neg c1]]
    have Hl := Lib.hid hl
    clear hl
    go_enter Tryd.func47, Tryd.ntmps47
    go_wp2
    go_loopw [1, 5] (fun v i wr => ∃ (k : Nat) (m : Int) (x : Xt), k ≤ n ∧ i = .int .i64 k ∧ v = .int .i64 m ∧ 0 ≤ m ∧ m ≤ 1048576 ∧ szL szSt (l.drop k) m = szL szSt l (m0 - (n : Int)) ∧ wr = World.ext w x) (fun _ i _ => n - (intOf i).toNat)
    case atStart => exact ⟨0, m0 - (n : Int), _, by omega, rfl, rfl, by omega, by omega, rfl, (World.ext_refl w).symm⟩
    case round =>
      obtain ⟨k, m, x, hk, rfl, rfl, hm0, hm1, hz, rfl⟩ := hrel
      by_cases hlt : k < n
      · obtain ⟨b, off, rfl, hb, hb2, g0, g1, g2, g3, g4⟩ := hS.at_ hlt
        rw [szL_round (by rw [← Hl.out]; exact hlt)] at hz
        have hle := szSt_le (nth l k) m
        by_cases c2 : szSt (nth l k) m < 0
        · rw [if_pos c2] at hz
          have Hz := Lib.hid hz
          clear hz
          go_wp2_with (go_at_call 76; refine (szStmt_c (nth l k) m _ hb2.1 hb2.2 hm0 hm1).mono ?_; rintro _ _ ⟨rfl, hx⟩; obtain ⟨x, rfl⟩ := hx.of_ext)
          go_ret
          exact ⟨by rw [← Hz.out]; simp, by (repeat (first | exact X.refl _ | assumption | refine X.ext ?_ _ | refine X.alloc ?_ _ | refine X.drew ?_))⟩
        · rw [if_neg c2] at hz
          have Hz := Lib.hid hz
          clear hz
          go_wp2_with (go_at_call 76; refine (szStmt_c (nth l k) m _ hb2.1 hb2.2 hm0 hm1).mono ?_; rintro _ _ ⟨rfl, hx⟩; obtain ⟨x, rfl⟩ := hx.of_ext)
          go_roundw
          case rel => exact ⟨k + 1, szSt (nth l k) m, x, by omega, by go_num, rfl, by omega, by have := hle (by omega); omega, Hz.out, rfl⟩
          case measure => simp [intOf]; omega
      · obtain rfl : k = n := by omega
        have he : m = szL szSt l (m0 - (k : Int)) := by rw [← hz, List.drop_eq_nil_of_le (by rw [← Hl.out]; omega), szL]
        have He := Lib.hid he
        clear he hz
        go_wp2
        go_ret
        exact ⟨by rw [← He.out]; rfl, by (repeat (first | exact X.refl _ | assumption | refine X.ext ?_ _ | refine X.alloc ?_ _ | refine X.drew ?_))⟩

set_option maxRecDepth 100000 in
set_option maxHeartbeats 1000000 in
theorem szFile_c (f : Fi) (ba : Option Addr) (bn bc : Nat) (n : Int) (w : World) (hm : f.pkg.length ≤ maxLen) (hk : f.name.length ≤ maxLen) (hS : StmtsR w ba bn f.body) (h0 : 0 ≤ n) (h1 : n ≤ 1048576) :
    Calls Tryd.prog 17 #[.agg #[.int .i64 (f).root, .string ⟨(f).pkg.toArray⟩, .string ⟨(f).name.toArray⟩, .bool (f).init, .int .i64 (f).stamp, .slice ba bn bc], .int .i64 n] w fun e w' => e = .returned (.int .i64 (szFi f n)) ∧ X w w' := by
  have q1 := i64_sub n f.pkg.length h0 h1 hm
  by_cases c1 : n - (f.pkg.length : Int) < 0
  · rw [show szFi f n = -1 by rw [szFi, if_pos c1]]
    go_enter Tryd.func17, Tryd.ntmps17
    go_wp2
    go_ret
    exact ⟨by simp, by (repeat (first | exact X.refl _ | assumption | refine X.ext ?_ _ | refine X.alloc ?_ _ | refine X.drew ?_))⟩
  · have q2 := i64_sub (n - (f.pkg.length : Int)) f.name.length (by omega) (by omega) hk
    by_cases c2 : n - (f.pkg.length : Int) - (f.name.length : Int) < 0
    · rw [show szFi f n = -1 by rw [szFi, if_neg c1, if_pos c2]]
      go_enter Tryd.func17, Tryd.ntmps17
      go_wp2
      go_ret
      exact ⟨by simp, by (repeat (first | exact X.refl _ | assumption | refine X.ext ?_ _ | refine X.alloc ?_ _ | refine X.drew ?_))⟩
    · rw [show szFi f n = szSts f.body (n - (f.pkg.length : Int) - (f.name.length : Int)) by rw [szFi, if_neg c1, if_neg c2]]
      have hneg : szSts f.body (n - (f.pkg.length : Int) - (f.name.length : Int)) < 0 → szSts f.body (n - (f.pkg.length : Int) - (f.name.length : Int)) = -1 := szSts_neg
      have Hneg := Lib.hid hneg
      clear hneg
      by_cases c3 : szSts f.body (n - (f.pkg.length : Int) - (f.name.length : Int)) < 0
      all_goals
        go_enter Tryd.func17, Tryd.ntmps17
        go_wp2_with (go_at_call 47; refine (szStmtS_c f.body _ _ _ _ _ (hS.mono (by (repeat (first | exact X.refl _ | assumption | refine X.ext ?_ _ | refine X.alloc ?_ _ | refine X.drew ?_)))) (by omega) (by omega)).mono ?_; rintro _ _ ⟨rfl, hx⟩; replace hx := X.trans (a := w) (by (repeat (first | exact X.refl _ | assumption | refine X.ext ?_ _ | refine X.alloc ?_ _ | refine X.drew ?_))) hx; obtain ⟨x, rfl⟩ := hx)
        go_ret
      · exact ⟨by rw [Hneg.out c3]; rfl, by (repeat (first | exact X.refl _ | assumption | refine X.ext ?_ _ | refine X.alloc ?_ _ | refine X.drew ?_))⟩
      · exact ⟨rfl, by (repeat (first | exact X.refl _ | assumption | refine X.ext ?_ _ | refine X.alloc ?_ _ | refine X.drew ?_))⟩
set_option maxRecDepth 100000 in
set_option maxHeartbeats 1000000 in
theorem szFileS_c (l : List Fi) (a : Option Addr) (n c : Nat) (m0 : Int) (w : World) (hS : FilesR w a n l) (h0 : 0 ≤ m0) (h1 : m0 ≤ 1048576) :
    Calls Tryd.prog 34 #[.slice a n c, .int .i64 m0] w fun e w' => e = .returned (.int .i64 (szFis l m0)) ∧ X w w' := by
  have hl : n = l.length := by obtain ⟨_, _, h, _⟩ := hS; exact h
  have hn : n ≤ maxLen := by obtain ⟨_, _, _, h, _⟩ := hS; exact h
  have q1 := i64_sub m0 n h0 h1 hn
  by_cases c1 : m0 - (n : Int) < 0
  · rw [show szFis l m0 = -1 by rw [szFis, ← hl, if_pos c1]]
    clear hl
    go_enter Tryd.func34, Tryd.ntmps34
    go_wp2
    go_ret
    exact ⟨by simp, by (repeat (first | exact X.refl _ | assumption | refine X.ext ?_ _ | refine X.alloc ?_ _ | refine X.drew ?_))⟩
  · rw [show szFis l m0 = szL szFi l (m0 - (n : Int)) by rw [szFis, ← hl, if_neg c1]]
    have Hl := Lib.hid hl
    clear hl
    go_enter Tryd.func34, Tryd.ntmps34
    go_wp2
    go_loopw [1, 5] (fun v i wr => ∃ (k : Nat) (m : Int) (x : Xt), k ≤ n ∧ i = .int .i64 k ∧ v = .int .i64 m ∧ 0 ≤ m ∧ m ≤ 1048576 ∧ szL szFi (l.drop k) m = szL szFi l (m0 - (n : Int)) ∧ wr = World.ext w x) (fun _ i _ => n - (intOf i).toNat)
    case atStart => exact ⟨0, m0 - (n : Int), _, by omega, rfl, rfl, by omega, by omega, rfl, (World.ext_refl w).symm⟩
    case round =>
      obtain ⟨k, m, x, hk, rfl, rfl, hm0, hm1, hz, rfl⟩ := hrel
      by_cases hlt : k < n
      · obtain ⟨b, off, ba, bn, bc, rfl, hb, hb2, _, hSb, g0, g1, g2, g3, g4, g5⟩ := hS.at_ hlt
        rw [szL_round (by rw [← Hl.out]; exact hlt)] at hz
        have hle := szFi_le (nth l k) m
        by_cases c2 : szFi (nth l k) m < 0
        · rw [if_pos c2] at hz
          have Hz := Lib.hid hz
          clear hz
          go_wp2_with (go_at_call 17; refine (szFile_c (nth l k) ba bn bc m _ hb2.1 hb2.2 (hSb.mono (by (repeat (first | exact X.refl _ | assumption | refine X.ext ?_ _ | refine X.alloc ?_ _ | refine X.drew ?_)))) hm0 hm1).mono ?_; rintro _ _ ⟨rfl, hx⟩; obtain ⟨x, rfl⟩ := hx.of_ext)
          go_ret
          exact ⟨by rw [← Hz.out]; simp, by (repeat (first | exact X.refl _ | assumption | refine X.ext ?_ _ | refine X.alloc ?_ _ | refine X.drew ?_))⟩
        · rw [if_neg c2] at hz
          have Hz := Lib.hid hz
          clear hz
          go_wp2_with (go_at_call 17; refine (szFile_c (nth l k) ba bn bc m _ hb2.1 hb2.2 (hSb.mono (by (repeat (first | exact X.refl _ | assumption | refine X.ext ?_ _ | refine X.alloc ?_ _ | refine X.drew ?_)))) hm0 hm1).mono ?_; rintro _ _ ⟨rfl, hx⟩; obtain ⟨x, rfl⟩ := hx.of_ext)
          go_roundw
          case rel => exact ⟨k + 1, szFi (nth l k) m, x, by omega, by go_num, rfl, by omega, by have := hle (by omega); omega, Hz.out, rfl⟩
          case measure => simp [intOf]; omega
      · obtain rfl : k = n := by omega
        have he : m = szL szFi l (m0 - (k : Int)) := by rw [← hz, List.drop_eq_nil_of_le (by rw [← Hl.out]; omega), szL]
        have He := Lib.hid he
        clear he hz
        go_wp2
        go_ret
        exact ⟨by rw [← He.out]; rfl, by (repeat (first | exact X.refl _ | assumption | refine X.ext ?_ _ | refine X.alloc ?_ _ | refine X.drew ?_))⟩

set_option maxRecDepth 100000 in
set_option maxHeartbeats 1000000 in
theorem szTree_c (l : List Fi) (a : Option Addr) (n c : Nat) (m0 : Int) (w : World) (hS : FilesR w a n l) (h0 : 0 ≤ m0) (h1 : m0 ≤ 1048576) :
    Calls Tryd.prog 7 #[.agg #[.slice a n c], .int .i64 m0] w fun e w' => e = .returned (.int .i64 (szFis l m0)) ∧ X w w' := by
  have Hneg := Lib.hid (@szFis_neg l m0)
  by_cases c3 : szFis l m0 < 0
  all_goals
    go_enter Tryd.func7, Tryd.ntmps7
    go_wp2_with (go_at_call 34; refine (szFileS_c l _ _ _ _ _ (hS.mono (by (repeat (first | exact X.refl _ | assumption | refine X.ext ?_ _ | refine X.alloc ?_ _ | refine X.drew ?_)))) (by omega) (by omega)).mono ?_; rintro _ _ ⟨rfl, hx⟩; replace hx := X.trans (a := w) (by (repeat (first | exact X.refl _ | assumption | refine X.ext ?_ _ | refine X.alloc ?_ _ | refine X.drew ?_))) hx; obtain ⟨x, rfl⟩ := hx)
    go_ret
  · exact ⟨by rw [Hneg.out c3]; rfl, by (repeat (first | exact X.refl _ | assumption | refine X.ext ?_ _ | refine X.alloc ?_ _ | refine X.drew ?_))⟩
  · exact ⟨rfl, by (repeat (first | exact X.refl _ | assumption | refine X.ext ?_ _ | refine X.alloc ?_ _ | refine X.drew ?_))⟩

end Go.Proofs.YtjlooplpjliaiaaDoor
