/- The laws' own counting, comparing and copying of directories and disks: the walks. No condition but lengths. -/
import Derived.Test.YtgjfjjhmgbemcaaGreatDoorDir
import Derived.Test.YtgjfjjhmgbemcaaGreatDoorIa
namespace Go.Proofs.YtgjfjjhmgbemcaaGreatDoor
open Go.RowKit

set_option maxRecDepth 100000 in
set_option maxHeartbeats 1000000 in
theorem szStringS_c (l : List (List UInt8)) (a : Option Addr) (n c : Nat) (m0 : Int) (w : World) (hS : StrsR w a n l) (h0 : 0 ≤ m0) (h1 : m0 ≤ 1048576) :
    Calls Tryz.prog 147 #[.slice a n c, .int .i64 m0] w fun e w' => e = .returned (.int .i64 (szStrs l m0)) ∧ X w w' := by
  have hl := hS.1
  have hn := hS.2.1
  have q1 := i64_sub m0 n h0 h1 hn
  by_cases c1 : m0 - (n : Int) < 0
  · rw [show szStrs l m0 = -1 by rw [szStrs, ← hl, if_pos c1]]
    clear hl
    go_enter Tryz.func147, Tryz.ntmps147
    go_wp2
    go_ret
    exact ⟨by simp, by (repeat (first | with_reducible exact X.refl _ | with_reducible assumption | with_reducible refine X.setCell ?_ (by first | (simp; done) | (simp; omega)) _ | with_reducible refine X.ext ?_ _ | with_reducible refine X.alloc ?_ _ | with_reducible refine X.drew ?_))⟩
  · rw [show szStrs l m0 = szL szStr l (m0 - (n : Int)) by rw [szStrs, ← hl, if_neg c1]]
    have Hl := Lib.hid hl
    clear hl
    go_enter Tryz.func147, Tryz.ntmps147
    go_wp2
    go_loopw [1, 5] (fun v i wr => ∃ (k : Nat) (m : Int), k ≤ n ∧ i = .int .i64 k ∧ v = .int .i64 m ∧ 0 ≤ m ∧ m ≤ 1048576 ∧ szL szStr (l.drop k) m = szL szStr l (m0 - (n : Int)) ∧ wr = w) (fun _ i _ => n - (intOf i).toNat)
    case atStart => exact ⟨0, m0 - (n : Int), by omega, rfl, rfl, by omega, by omega, rfl, rfl⟩
    case round =>
      obtain ⟨k, m, hk, rfl, rfl, hm0, hm1, hz, rfl⟩ := hrel
      by_cases hlt : k < n
      · obtain ⟨b, off, rfl, hb, hc, hcl⟩ := hS.at_ hlt
        rw [szL_round (by rw [← Hl.out]; exact hlt), szStr] at hz
        have q2 := i64_sub m (nth l k).length hm0 hm1 hcl
        by_cases c2 : m - ((nth l k).length : Int) < 0
        · rw [if_pos c2, if_pos (by omega)] at hz
          have Hz := Lib.hid hz
          clear hz
          go_wp2
          go_ret
          exact ⟨by rw [← Hz.out]; simp, by (repeat (first | with_reducible exact X.refl _ | with_reducible assumption | with_reducible refine X.setCell ?_ (by first | (simp; done) | (simp; omega)) _ | with_reducible refine X.ext ?_ _ | with_reducible refine X.alloc ?_ _ | with_reducible refine X.drew ?_))⟩
        · rw [if_neg c2, if_neg (by omega)] at hz
          have Hz := Lib.hid hz
          clear hz
          go_wp2
          go_roundw
          case rel => exact ⟨k + 1, m - ((nth l k).length : Int), by omega, by go_num, rfl, by omega, by omega, Hz.out, trivial⟩
          case measure => simp [intOf]; omega
      · obtain rfl : k = n := by omega
        have he : m = szL szStr l (m0 - (k : Int)) := by rw [← hz, List.drop_eq_nil_of_le (by rw [← Hl.out]; omega), szL]
        have He := Lib.hid he
        clear he hz
        go_wp2
        go_ret
        exact ⟨by rw [← He.out]; rfl, by (repeat (first | with_reducible exact X.refl _ | with_reducible assumption | with_reducible refine X.setCell ?_ (by first | (simp; done) | (simp; omega)) _ | with_reducible refine X.ext ?_ _ | with_reducible refine X.alloc ?_ _ | with_reducible refine X.drew ?_))⟩

set_option maxRecDepth 100000 in
set_option maxHeartbeats 1000000 in
theorem szDir_c (d : Di) (ba : Option Addr) (bn bc : Nat) (n : Int) (w : World) (hm : d.pkg.length ≤ maxLen) (hS : StrsR w ba bn d.names) (h0 : 0 ≤ n) (h1 : n ≤ 1048576) :
    Calls Tryz.prog 91 #[.agg #[.int .i64 (d).root, .string ⟨(d).pkg.toArray⟩, .int .i64 (d).stamp, .slice ba bn bc], .int .i64 n] w fun e w' => e = .returned (.int .i64 (szDi d n)) ∧ X w w' := by
  have q1 := i64_sub n d.pkg.length h0 h1 hm
  by_cases c1 : n - (d.pkg.length : Int) < 0
  · rw [show szDi d n = -1 by rw [szDi, if_pos c1]]
    go_enter Tryz.func91, Tryz.ntmps91
    go_wp2
    go_ret
    exact ⟨by simp, by (repeat (first | with_reducible exact X.refl _ | with_reducible assumption | with_reducible refine X.setCell ?_ (by first | (simp; done) | (simp; omega)) _ | with_reducible refine X.ext ?_ _ | with_reducible refine X.alloc ?_ _ | with_reducible refine X.drew ?_))⟩
  · rw [show szDi d n = szStrs d.names (n - (d.pkg.length : Int)) by rw [szDi, if_neg c1]]
    have hneg : szStrs d.names (n - (d.pkg.length : Int)) < 0 → szStrs d.names (n - (d.pkg.length : Int)) = -1 := szStrs_neg
    have Hneg := Lib.hid hneg
    clear hneg
    by_cases c3 : szStrs d.names (n - (d.pkg.length : Int)) < 0
    all_goals
      go_enter Tryz.func91, Tryz.ntmps91
      go_wp2_with (go_at_call 147; refine (szStringS_c d.names _ _ _ _ _ (hS.mono (by (repeat (first | exact X.refl _ | assumption | refine X.ext ?_ _ | refine X.alloc ?_ _ | refine X.drew ?_)))) (by omega) (by omega)).mono ?_; rintro _ _ ⟨rfl, hx⟩; replace hx := X.trans (a := w) (by (repeat (first | exact X.refl _ | assumption | refine X.ext ?_ _ | refine X.alloc ?_ _ | refine X.drew ?_))) hx; obtain ⟨x, rfl⟩ := hx)
      go_ret
    · exact ⟨by rw [Hneg.out c3]; rfl, by (repeat (first | exact X.refl _ | assumption | refine X.ext ?_ _ | refine X.alloc ?_ _ | refine X.drew ?_))⟩
    · exact ⟨rfl, by (repeat (first | exact X.refl _ | assumption | refine X.ext ?_ _ | refine X.alloc ?_ _ | refine X.drew ?_))⟩
set_option maxRecDepth 100000 in
set_option maxHeartbeats 1000000 in
theorem szDirS_c (l : List Di) (a : Option Addr) (n c : Nat) (m0 : Int) (w : World) (hS : DirsR w a n l) (h0 : 0 ≤ m0) (h1 : m0 ≤ 1048576) :
    Calls Tryz.prog 37 #[.slice a n c, .int .i64 m0] w fun e w' => e = .returned (.int .i64 (szDis l m0)) ∧ X w w' := by
  have hl : n = l.length := by obtain ⟨_, _, h, _⟩ := hS; exact h
  have hn : n ≤ maxLen := by obtain ⟨_, _, _, h, _⟩ := hS; exact h
  have q1 := i64_sub m0 n h0 h1 hn
  by_cases c1 : m0 - (n : Int) < 0
  · rw [show szDis l m0 = -1 by rw [szDis, ← hl, if_pos c1]]
    clear hl
    go_enter Tryz.func37, Tryz.ntmps37
    go_wp2
    go_ret
    exact ⟨by simp, by (repeat (first | with_reducible exact X.refl _ | with_reducible assumption | with_reducible refine X.setCell ?_ (by first | (simp; done) | (simp; omega)) _ | with_reducible refine X.ext ?_ _ | with_reducible refine X.alloc ?_ _ | with_reducible refine X.drew ?_))⟩
  · rw [show szDis l m0 = szL szDi l (m0 - (n : Int)) by rw [szDis, ← hl, if_neg c1]]
    have Hl := Lib.hid hl
    clear hl
    go_enter Tryz.func37, Tryz.ntmps37
    go_wp2
    go_loopw [1, 5] (fun v i wr => ∃ (k : Nat) (m : Int) (x : Xt), k ≤ n ∧ i = .int .i64 k ∧ v = .int .i64 m ∧ 0 ≤ m ∧ m ≤ 1048576 ∧ szL szDi (l.drop k) m = szL szDi l (m0 - (n : Int)) ∧ wr = World.ext w x) (fun _ i _ => n - (intOf i).toNat)
    case atStart => exact ⟨0, m0 - (n : Int), _, by omega, rfl, rfl, by omega, by omega, rfl, (World.ext_refl w).symm⟩
    case round =>
      obtain ⟨k, m, x, hk, rfl, rfl, hm0, hm1, hz, rfl⟩ := hrel
      by_cases hlt : k < n
      · obtain ⟨b, off, ba, bn, bc, rfl, hb, hb2, _, hSb, g0, g1, g2, g3⟩ := hS.at_ hlt
        rw [szL_round (by rw [← Hl.out]; exact hlt)] at hz
        have hle := szDi_le (nth l k) m
        by_cases c2 : szDi (nth l k) m < 0
        · rw [if_pos c2] at hz
          have Hz := Lib.hid hz
          clear hz
          go_wp2_with (go_at_call 91; refine (szDir_c (nth l k) ba bn bc m _ hb2 (hSb.mono (by (repeat (first | exact X.refl _ | assumption | refine X.ext ?_ _ | refine X.alloc ?_ _ | refine X.drew ?_)))) hm0 hm1).mono ?_; rintro _ _ ⟨rfl, hx⟩; obtain ⟨x, rfl⟩ := hx.of_ext)
          go_ret
          exact ⟨by rw [← Hz.out]; simp, by (repeat (first | exact X.refl _ | assumption | refine X.ext ?_ _ | refine X.alloc ?_ _ | refine X.drew ?_))⟩
        · rw [if_neg c2] at hz
          have Hz := Lib.hid hz
          clear hz
          go_wp2_with (go_at_call 91; refine (szDir_c (nth l k) ba bn bc m _ hb2 (hSb.mono (by (repeat (first | exact X.refl _ | assumption | refine X.ext ?_ _ | refine X.alloc ?_ _ | refine X.drew ?_)))) hm0 hm1).mono ?_; rintro _ _ ⟨rfl, hx⟩; obtain ⟨x, rfl⟩ := hx.of_ext)
          go_roundw
          case rel => exact ⟨k + 1, szDi (nth l k) m, x, by omega, by go_num, rfl, by omega, by have := hle (by omega); omega, Hz.out, rfl⟩
          case measure => simp [intOf]; omega
      · obtain rfl : k = n := by omega
        have he : m = szL szDi l (m0 - (k : Int)) := by rw [← hz, List.drop_eq_nil_of_le (by rw [← Hl.out]; omega), szL]
        have He := Lib.hid he
        clear he hz
        go_wp2
        go_ret
        exact ⟨by rw [← He.out]; rfl, by (repeat (first | exact X.refl _ | assumption | refine X.ext ?_ _ | refine X.alloc ?_ _ | refine X.drew ?_))⟩
/-- The size of a disk. -/
def szDk (l : List Fi) (dl : List Di) (n : Int) : Int := if szFis l n < 0 then -1 else if szDis dl (szFis l n) < 0 then -1 else szDis dl (szFis l n)
set_option maxRecDepth 100000 in
set_option maxHeartbeats 1000000 in
theorem szDisk_c (l : List Fi) (a : Option Addr) (n c : Nat) (kk : Int) (dl : List Di) (da : Option Addr) (dn dc : Nat) (m0 : Int) (w : World) (hS : FilesR w a n l) (hD : DirsR w da dn dl) (h0 : 0 ≤ m0) (h1 : m0 ≤ 1048576) :
    Calls Tryz.prog 8 #[.agg #[.slice a n c, .int .i64 kk, .slice da dn dc], .int .i64 m0] w fun e w' => e = .returned (.int .i64 (szDk l dl m0)) ∧ X w w' := by
  have hle := szFis_le l m0
  by_cases c1 : szFis l m0 < 0
  · rw [show szDk l dl m0 = -1 by rw [szDk, if_pos c1]]
    go_enter Tryz.func8, Tryz.ntmps8
    go_wp2_with (go_at_call 36; refine (szTree_c l _ _ _ _ _ (hS.mono (by (repeat (first | exact X.refl _ | assumption | refine X.ext ?_ _ | refine X.alloc ?_ _ | refine X.drew ?_)))) (by omega) (by omega)).mono ?_; rintro _ _ ⟨rfl, hx⟩; replace hx := X.trans (a := w) (by (repeat (first | exact X.refl _ | assumption | refine X.ext ?_ _ | refine X.alloc ?_ _ | refine X.drew ?_))) hx; obtain ⟨x, rfl⟩ := hx)
    go_ret
    exact ⟨rfl, by (repeat (first | exact X.refl _ | assumption | refine X.ext ?_ _ | refine X.alloc ?_ _ | refine X.drew ?_))⟩
  · have hz0 : 0 ≤ szFis l m0 := by omega
    have hz1 := hle hz0
    have hneg : szDis dl (szFis l m0) < 0 → szDis dl (szFis l m0) = -1 := szDis_neg
    have Hneg := Lib.hid hneg
    clear hneg
    rw [show szDk l dl m0 = szDis dl (szFis l m0) by rw [szDk, if_neg c1]; split <;> rename_i h <;> first | rfl | exact (Hneg.out h).symm]
    by_cases c2 : szDis dl (szFis l m0) < 0
    all_goals
      go_enter Tryz.func8, Tryz.ntmps8
      go_wp2_with fail
      refine calls_name (fun W0 hW0 => ?_)
      have hB0 : Bx W0 w.heap.size #[.slice a n c, .int .i64 kk, .slice da dn dc] := by rw [hW0]; exact Bx.new _ _ _
      have hX0 : X w W0 := by rw [hW0]; (repeat (first | with_reducible exact X.refl _ | with_reducible assumption | with_reducible refine X.setCell ?_ (by first | (simp; done) | (simp; omega)) _ | with_reducible refine X.ext ?_ _ | with_reducible refine X.alloc ?_ _ | with_reducible refine X.drew ?_))
      clear hW0
      refine (szTree_c l a n c _ W0 (hS.mono hX0) h0 h1).mono ?_
      rintro _ w1 ⟨rfl, hx1⟩
      have b2 := (hx1.cell (p := ⟨w.heap.size, 2, none⟩) hB0.lt).trans (hB0.out.2.1 2)
      go_wp2_with fail
      refine calls_name (fun W2 hW2 => ?_)
      have hX2 : X w1 W2 := by rw [hW2]; (repeat (first | with_reducible exact X.refl _ | with_reducible assumption | with_reducible refine X.setCell ?_ (by first | (simp; done) | (simp; omega)) _ | with_reducible refine X.ext ?_ _ | with_reducible refine X.alloc ?_ _ | with_reducible refine X.drew ?_))
      clear hW2
      refine (szDirS_c dl da dn dc _ W2 (hD.mono ((hX0.trans hx1).trans hX2)) hz0 (by omega)).mono ?_
      rintro _ w3 ⟨rfl, hx3⟩
      go_wp2
      go_ret
    · exact ⟨by rw [Hneg.out c2]; rfl, ((hX0.trans hx1).trans hX2).trans hx3⟩
    · exact ⟨rfl, ((hX0.trans hx1).trans hX2).trans hx3⟩

/-! ### Comparing -/
set_option maxRecDepth 100000 in
set_option maxHeartbeats 1000000 in
theorem eqStringS_c (l m : List (List UInt8)) (a a' : Option Addr) (n n' c c' B B' : Nat) (w : World) (hL : StrsAt w B a n l) (hM : StrsAt w B' a' n' m) :
    Calls Tryz.prog 156 #[.slice a n c, .slice a' n' c'] w fun e w' => e = .returned (.bool (decide (l = m))) ∧ X w w' := by
  have h1 := hL.1
  have h2 := hM.1
  have hn := hL.2.1
  have Hl := Lib.hid h1
  have Hm := Lib.hid h2
  by_cases hne : n = n'
  · subst hne
    clear h1 h2
    go_enter Tryz.func156, Tryz.ntmps156
    go_wp2
    go_loopw [5] (fun i wr => ∃ k : Nat, k ≤ n ∧ i = .int .i64 k ∧ allN (fun k => nth l k == nth m k) k = true ∧ ∃ x, wr = World.ext w x) (fun i _ => n - (intOf i).toNat)
    case atStart => exact ⟨0, by omega, rfl, rfl, X.refl _⟩
    case round =>
      obtain ⟨k, hk, rfl, hall, x, rfl⟩ := hrel
      by_cases hlt : k < n
      · obtain ⟨b, off, rfl, _, hb, hc, _⟩ := hL.at_ hlt
        obtain ⟨b', off', rfl, _, hb', hc', _⟩ := hM.at_ hlt
        go_wp2
        refine wp_region_grow (by kernel_rfl) (by kernel_rfl) ?_
        repeat (go_big_quiet_step ((fail)))
        refine wpQuiet_nil ?_
        rintro _ ⟨y, rfl⟩
        go_wp2
        · go_ret
          have h0 : (nth l k != nth m k) = true := by first | assumption | (simp; assumption) | (simp; omega)
          have hs : ¬ nth l k = nth m k := by simpa using h0
          exact ⟨ret_boolW (by rw [decide_eq_false]; intro e; exact hs (by rw [e])), by (repeat (first | exact X.refl _ | assumption | refine X.ext ?_ _ | refine X.alloc ?_ _ | refine X.drew ?_))⟩
        · have h0 : (nth l k != nth m k) = false := by first | assumption | (simp; assumption) | (simp; omega)
          have hs : nth l k = nth m k := by simpa using h0
          go_roundw
          case rel => exact ⟨k + 1, by omega, by go_num, allN_next hall (by simp [hs]), _, rfl⟩
          case measure => simp [intOf]; omega
      · obtain rfl : k = n := by omega
        go_wp2
        go_ret
        refine ⟨ret_boolW ?_, by (repeat (first | exact X.refl _ | assumption | refine X.ext ?_ _ | refine X.alloc ?_ _ | refine X.drew ?_))⟩
        rw [decide_eq_true]
        exact nth_ext2 (by rw [← Hl.out, ← Hm.out]) fun j hj => by simpa using allN_iff.1 hall j (by rw [Hl.out]; exact hj)
  · go_enter Tryz.func156, Tryz.ntmps156
    go_wp2
    go_ret
    exact ⟨ret_boolW (by rw [decide_eq_false]; intro e; apply hne; rw [h1, h2, e]), by (repeat (first | exact X.refl _ | assumption | refine X.ext ?_ _ | refine X.alloc ?_ _ | refine X.drew ?_))⟩

set_option maxRecDepth 100000 in
set_option maxHeartbeats 1000000 in
theorem eqDir_c (d e : Di) (ba ba' : Option Addr) (bn bc bn' bc' B B' : Nat) (w : World) (hS : StrsAt w B ba bn d.names) (hS' : StrsAt w B' ba' bn' e.names) :
    Calls Tryz.prog 107 #[.agg #[.int .i64 (d).root, .string ⟨(d).pkg.toArray⟩, .int .i64 (d).stamp, .slice ba bn bc], .agg #[.int .i64 (e).root, .string ⟨(e).pkg.toArray⟩, .int .i64 (e).stamp, .slice ba' bn' bc']] w fun e_1 w' => e_1 = .returned (.bool (decide (d = e))) ∧ X w w' := by
  obtain ⟨r, pk, st, nm⟩ := d
  obtain ⟨r', pk', st', nm'⟩ := e
  have hR : decide ((⟨r, pk, st, nm⟩ : Di) = ⟨r', pk', st', nm'⟩) = ((r == r') && (pk == pk') && (st == st') && decide (nm = nm')) := by
    rw [Bool.eq_iff_iff]; simp [and_assoc]
  rw [hR]
  clear hR
  cases h1 : r == r'
  · go_enter Tryz.func107, Tryz.ntmps107
    go_wp2
    go_ret
    exact ⟨by simp, by (repeat (first | exact X.refl _ | assumption | refine X.ext ?_ _ | refine X.alloc ?_ _ | refine X.drew ?_))⟩
  cases h2 : pk == pk'
  · go_enter Tryz.func107, Tryz.ntmps107
    go_wp2
    go_ret
    exact ⟨by simp, by (repeat (first | exact X.refl _ | assumption | refine X.ext ?_ _ | refine X.alloc ?_ _ | refine X.drew ?_))⟩
  cases h3 : st == st'
  · go_enter Tryz.func107, Tryz.ntmps107
    go_wp2
    go_ret
    exact ⟨by simp, by (repeat (first | exact X.refl _ | assumption | refine X.ext ?_ _ | refine X.alloc ?_ _ | refine X.drew ?_))⟩
  cases h6 : decide (nm = nm')
  all_goals
    go_enter Tryz.func107, Tryz.ntmps107
    go_wp2_with (go_at_call 156; refine (eqStringS_c nm nm' _ _ _ _ _ _ _ _ _ (hS.mono (X.fr (by (repeat (first | exact X.refl _ | assumption | refine X.ext ?_ _ | refine X.alloc ?_ _ | refine X.drew ?_))) _)) (hS'.mono (X.fr (by (repeat (first | exact X.refl _ | assumption | refine X.ext ?_ _ | refine X.alloc ?_ _ | refine X.drew ?_))) _))).mono ?_; rintro _ _ ⟨rfl, hx⟩; replace hx := X.trans (a := w) (by (repeat (first | exact X.refl _ | assumption | refine X.ext ?_ _ | refine X.alloc ?_ _ | refine X.drew ?_))) hx; obtain ⟨x, rfl⟩ := hx; rw [h6])
    go_ret
    exact ⟨by simp, by (repeat (first | exact X.refl _ | assumption | refine X.ext ?_ _ | refine X.alloc ?_ _ | refine X.drew ?_))⟩
set_option maxRecDepth 100000 in
set_option maxHeartbeats 1000000 in
theorem eqDirS_c (l m : List Di) (a a' : Option Addr) (n n' c c' B B' : Nat) (w : World) (hL : DirsAt w B a n l) (hM : DirsAt w B' a' n' m) :
    Calls Tryz.prog 49 #[.slice a n c, .slice a' n' c'] w fun e w' => e = .returned (.bool (decide (l = m))) ∧ X w w' := by
  have h1 := hL.len.1
  have h2 := hM.len.1
  have hn := hL.len.2
  have Hl := Lib.hid h1
  have Hm := Lib.hid h2
  by_cases hne : n = n'
  · subst hne
    clear h1 h2
    go_enter Tryz.func49, Tryz.ntmps49
    go_wp2
    go_loopw [5] (fun i wr => ∃ k : Nat, k ≤ n ∧ i = .int .i64 k ∧ allN (fun k => decide (nth l k = nth m k)) k = true ∧ ∃ x, wr = World.ext w x) (fun i _ => n - (intOf i).toNat)
    case atStart => exact ⟨0, by omega, rfl, rfl, X.refl _⟩
    case round =>
      obtain ⟨k, hk, rfl, hall, x, rfl⟩ := hrel
      by_cases hlt : k < n
      · obtain ⟨b, off, ba, bn, bc, rfl, _, hb, _, _, hS, g0, g1, g2, g3⟩ := hL.at_ hlt
        obtain ⟨b', off', ba', bn', bc', rfl, _, hb', _, _, hS', u0, u1, u2, u3⟩ := hM.at_ hlt
        cases hd : decide (nth l k = nth m k)
        all_goals
          go_wp2
          refine wp_region_grow (by kernel_rfl) (by kernel_rfl) ?_
          repeat (go_big_quiet_step (((go_at_call 107; refine grow_of (eqDir_c (nth l k) (nth m k) ba ba' bn bc bn' bc' _ _ _ (hS.mono (X.fr (by (repeat (first | exact X.refl _ | assumption | refine X.ext ?_ _ | refine X.alloc ?_ _ | refine X.drew ?_))) _)) (hS'.mono (X.fr (by (repeat (first | exact X.refl _ | assumption | refine X.ext ?_ _ | refine X.alloc ?_ _ | refine X.drew ?_))) _)))))))
          refine wpQuiet_nil ?_
          rintro _ ⟨y, rfl⟩
          go_wp2
        · go_ret
          have hs : ¬ nth l k = nth m k := of_decide_eq_false hd
          exact ⟨ret_boolW (by rw [decide_eq_false]; intro e; exact hs (by rw [e])), by (repeat (first | exact X.refl _ | assumption | refine X.ext ?_ _ | refine X.alloc ?_ _ | refine X.drew ?_))⟩
        · go_roundw
          case rel => exact ⟨k + 1, by omega, by go_num, allN_next hall hd, _, rfl⟩
          case measure => simp [intOf]; omega
      · obtain rfl : k = n := by omega
        go_wp2
        go_ret
        refine ⟨ret_boolW ?_, by (repeat (first | exact X.refl _ | assumption | refine X.ext ?_ _ | refine X.alloc ?_ _ | refine X.drew ?_))⟩
        rw [decide_eq_true]
        exact nth_ext2 (by rw [← Hl.out, ← Hm.out]) fun j hj => of_decide_eq_true (allN_iff.1 hall j (by rw [Hl.out]; exact hj))
  · go_enter Tryz.func49, Tryz.ntmps49
    go_wp2
    go_ret
    exact ⟨ret_boolW (by rw [decide_eq_false]; intro e; apply hne; rw [h1, h2, e]), by (repeat (first | exact X.refl _ | assumption | refine X.ext ?_ _ | refine X.alloc ?_ _ | refine X.drew ?_))⟩
set_option maxRecDepth 100000 in
set_option maxHeartbeats 1000000 in
/-- Two disks with the same content. -/
theorem eqDisk_c (l : List Fi) (a a' : Option Addr) (n n' c c' : Nat) (kk : Int) (dl : List Di) (da da' : Option Addr) (dn dn' dc dc' B B' : Nat) (w : World) (hL : FilesAt w B a n l) (hM : FilesAt w B' a' n' l) (hD : DirsAt w B da dn dl) (hE : DirsAt w B' da' dn' dl) :
    Calls Tryz.prog 14 #[.agg #[.slice a n c, .int .i64 kk, .slice da dn dc], .agg #[.slice a' n' c', .int .i64 kk, .slice da' dn' dc']] w fun e w' => e = .returned (.bool true) ∧ X w w' := by
  go_enter Tryz.func14, Tryz.ntmps14
  go_wp2_with fail
  refine calls_name (fun W0 hW0 => ?_)
  obtain ⟨hB0, hB1, hX0⟩ := bx2 hW0
  clear hW0
  refine (eqTree_c l l a a' n n' c c' _ _ W0 (hL.mono (hX0.fr _)) (hM.mono (hX0.fr _))).mono ?_
  rintro _ w1 ⟨rfl, hx1⟩
  rw [decide_eq_true (rfl : l = l)]
  have b1 := (hx1.cell (p := ⟨w.heap.size, 1, none⟩) hB0.lt).trans (hB0.out.2.1 1)
  have b2 := (hx1.cell (p := ⟨w.heap.size, 2, none⟩) hB0.lt).trans (hB0.out.2.1 2)
  have c1 := (hx1.cell (p := ⟨w.heap.size + 1, 1, none⟩) hB1.lt).trans (hB1.out.2.1 1)
  have c2 := (hx1.cell (p := ⟨w.heap.size + 1, 2, none⟩) hB1.lt).trans (hB1.out.2.1 2)
  go_wp2_with fail
  refine calls_name (fun W2 hW2 => ?_)
  have hX2 : X w1 W2 := by rw [hW2]; (repeat (first | with_reducible exact X.refl _ | with_reducible assumption | with_reducible refine X.setCell ?_ (by first | (simp; done) | (simp; omega)) _ | with_reducible refine X.ext ?_ _ | with_reducible refine X.alloc ?_ _ | with_reducible refine X.drew ?_))
  clear hW2
  have hXX := (hX0.trans hx1).trans hX2
  refine (eqDirS_c dl dl da da' dn dn' dc dc' _ _ W2 (hD.mono (hXX.fr _)) (hE.mono (hXX.fr _))).mono ?_
  rintro _ w3 ⟨rfl, hx3⟩
  rw [decide_eq_true (rfl : dl = dl)]
  go_wp2
  go_ret
  exact ⟨rfl, hXX.trans hx3⟩

end Go.Proofs.YtgjfjjhmgbemcaaGreatDoor
