/- The laws' own counting, comparing and copying of acts: the walks. No condition but lengths. -/
import Derived.Test.YtgjfjjhmgbemcaaGreatDoorAct
import Derived.Test.YtgjfjjhmgbemcaaGreatDoorIa
import Derived.Deep.CutRange
namespace Go.Proofs.YtgjfjjhmgbemcaaGreatDoor
open Go.RowKit

set_option maxRecDepth 100000 in
set_option maxHeartbeats 1000000 in
theorem szAct_c (d : Ac) (ba : Option Addr) (bn bc : Nat) (n : Int) (w : World) (h1 : d.file.pkg.length ≤ maxLen) (h2 : d.file.name.length ≤ maxLen) (h3 : d.name.length ≤ maxLen) (hS : StmtsR w ba bn d.file.body) (hn0 : 0 ≤ n) (hn1 : n ≤ 1048576) :
    Calls Tryz.prog 58 #[.agg #[.int .i64 (d).kind, .int .i64 (d).file.root, .string ⟨(d).file.pkg.toArray⟩, .string ⟨(d).file.name.toArray⟩, .bool (d).file.init, .int .i64 (d).file.stamp, .slice ba bn bc, .int .i64 (d).idx, .string ⟨(d).name.toArray⟩], .int .i64 n] w fun e w' => e = .returned (.int .i64 (szAc d n)) ∧ X w w' := by
  have hle := szFi_le d.file n
  by_cases c1 : szFi d.file n < 0
  · rw [show szAc d n = -1 by rw [szAc, if_pos c1]]
    go_enter Tryz.func58, Tryz.ntmps58
    go_wp2_with fail
    refine calls_name (fun W0 hW0 => ?_)
    have hX0 : X w W0 := by rw [hW0]; (repeat (first | with_reducible exact X.refl _ | with_reducible assumption | with_reducible refine X.setCell ?_ (by first | (simp; done) | (simp; omega)) _ | with_reducible refine X.ext ?_ _ | with_reducible refine X.alloc ?_ _ | with_reducible refine X.drew ?_))
    clear hW0
    refine (szFile_c d.file ba bn bc n W0 h1 h2 (hS.mono hX0) hn0 hn1).mono ?_
    rintro _ w1 ⟨rfl, hx1⟩
    go_wp2
    go_ret
    exact ⟨rfl, hX0.trans hx1⟩
  · have hz0 : 0 ≤ szFi d.file n := by omega
    have hz1 := hle hz0
    have q1 := i64_sub (szFi d.file n) d.name.length hz0 (by omega) h3
    by_cases c2 : szFi d.file n - (d.name.length : Int) < 0
    · rw [show szAc d n = -1 by rw [szAc, if_neg c1, if_pos c2]]
      go_enter Tryz.func58, Tryz.ntmps58
      go_wp2_with fail
      refine calls_name (fun W0 hW0 => ?_)
      have hB0 : Bx W0 w.heap.size #[.int .i64 (d).kind, .int .i64 (d).file.root, .string ⟨(d).file.pkg.toArray⟩, .string ⟨(d).file.name.toArray⟩, .bool (d).file.init, .int .i64 (d).file.stamp, .slice ba bn bc, .int .i64 (d).idx, .string ⟨(d).name.toArray⟩] := by rw [hW0]; exact Bx.new _ _ _
      have hX0 : X w W0 := by rw [hW0]; (repeat (first | with_reducible exact X.refl _ | with_reducible assumption | with_reducible refine X.setCell ?_ (by first | (simp; done) | (simp; omega)) _ | with_reducible refine X.ext ?_ _ | with_reducible refine X.alloc ?_ _ | with_reducible refine X.drew ?_))
      clear hW0
      refine (szFile_c d.file ba bn bc n W0 h1 h2 (hS.mono hX0) hn0 hn1).mono ?_
      rintro _ w1 ⟨rfl, hx1⟩
      obtain ⟨lt0, cc, _⟩ := (hB0.x hx1).out
      have e8 := cc 8
      clear cc
      go_wp2
      go_ret
      exact ⟨rfl, hX0.trans hx1⟩
    · rw [show szAc d n = szFi d.file n - (d.name.length : Int) by rw [szAc, if_neg c1, if_neg c2]]
      go_enter Tryz.func58, Tryz.ntmps58
      go_wp2_with fail
      refine calls_name (fun W0 hW0 => ?_)
      have hB0 : Bx W0 w.heap.size #[.int .i64 (d).kind, .int .i64 (d).file.root, .string ⟨(d).file.pkg.toArray⟩, .string ⟨(d).file.name.toArray⟩, .bool (d).file.init, .int .i64 (d).file.stamp, .slice ba bn bc, .int .i64 (d).idx, .string ⟨(d).name.toArray⟩] := by rw [hW0]; exact Bx.new _ _ _
      have hX0 : X w W0 := by rw [hW0]; (repeat (first | with_reducible exact X.refl _ | with_reducible assumption | with_reducible refine X.setCell ?_ (by first | (simp; done) | (simp; omega)) _ | with_reducible refine X.ext ?_ _ | with_reducible refine X.alloc ?_ _ | with_reducible refine X.drew ?_))
      clear hW0
      refine (szFile_c d.file ba bn bc n W0 h1 h2 (hS.mono hX0) hn0 hn1).mono ?_
      rintro _ w1 ⟨rfl, hx1⟩
      obtain ⟨lt0, cc, _⟩ := (hB0.x hx1).out
      have e8 := cc 8
      clear cc
      go_wp2
      go_ret
      exact ⟨by simp, hX0.trans hx1⟩
set_option maxRecDepth 100000 in
set_option maxHeartbeats 1000000 in
theorem szActS_c (l : List Ac) (a : Option Addr) (n c : Nat) (m0 : Int) (w : World) (hS : ActsR w a n l) (h0 : 0 ≤ m0) (h1 : m0 ≤ 1048576) :
    Calls Tryz.prog 21 #[.slice a n c, .int .i64 m0] w fun e w' => e = .returned (.int .i64 (szAcs l m0)) ∧ X w w' := by
  have hl : n = l.length := by obtain ⟨_, _, h, _⟩ := hS; exact h
  have hn : n ≤ maxLen := by obtain ⟨_, _, _, h, _⟩ := hS; exact h
  have q1 := i64_sub m0 n h0 h1 hn
  by_cases c1 : m0 - (n : Int) < 0
  · rw [show szAcs l m0 = -1 by rw [szAcs, ← hl, if_pos c1]]
    clear hl
    go_enter Tryz.func21, Tryz.ntmps21
    go_wp2
    go_ret
    exact ⟨by simp, by (repeat (first | with_reducible exact X.refl _ | with_reducible assumption | with_reducible refine X.setCell ?_ (by first | (simp; done) | (simp; omega)) _ | with_reducible refine X.ext ?_ _ | with_reducible refine X.alloc ?_ _ | with_reducible refine X.drew ?_))⟩
  · rw [show szAcs l m0 = szL szAc l (m0 - (n : Int)) by rw [szAcs, ← hl, if_neg c1]]
    have Hl := Lib.hid hl
    clear hl
    go_enter Tryz.func21, Tryz.ntmps21
    go_wp2
    go_loopw [1, 5] (fun v i wr => ∃ (k : Nat) (m : Int) (x : Xt), k ≤ n ∧ i = .int .i64 k ∧ v = .int .i64 m ∧ 0 ≤ m ∧ m ≤ 1048576 ∧ szL szAc (l.drop k) m = szL szAc l (m0 - (n : Int)) ∧ wr = World.ext w x) (fun _ i _ => n - (intOf i).toNat)
    case atStart => exact ⟨0, m0 - (n : Int), _, by omega, rfl, rfl, by omega, by omega, rfl, (World.ext_refl w).symm⟩
    case round =>
      obtain ⟨k, m, x, hk, rfl, rfl, hm0, hm1, hz, rfl⟩ := hrel
      by_cases hlt : k < n
      · obtain ⟨b, off, ba, bn, bc, rfl, hb, ⟨hq1, hq2, hq3⟩, _, hSb, g0, g1, g2, g3, g4, g5, g6, g7, g8⟩ := hS.at_ hlt
        rw [szL_round (by rw [← Hl.out]; exact hlt)] at hz
        have hle := szAc_le (nth l k) m
        by_cases c2 : szAc (nth l k) m < 0
        · rw [if_pos c2] at hz
          have Hz := Lib.hid hz
          clear hz
          go_wp2_with (go_at_call 58; refine (szAct_c (nth l k) ba bn bc m _ hq1 hq2 hq3 (hSb.mono (by (repeat (first | exact X.refl _ | assumption | refine X.ext ?_ _ | refine X.alloc ?_ _ | refine X.drew ?_)))) hm0 hm1).mono ?_; rintro _ _ ⟨rfl, hx⟩; obtain ⟨x, rfl⟩ := hx.of_ext)
          go_ret
          exact ⟨by rw [← Hz.out]; simp, by (repeat (first | exact X.refl _ | assumption | refine X.ext ?_ _ | refine X.alloc ?_ _ | refine X.drew ?_))⟩
        · rw [if_neg c2] at hz
          have Hz := Lib.hid hz
          clear hz
          go_wp2_with (go_at_call 58; refine (szAct_c (nth l k) ba bn bc m _ hq1 hq2 hq3 (hSb.mono (by (repeat (first | exact X.refl _ | assumption | refine X.ext ?_ _ | refine X.alloc ?_ _ | refine X.drew ?_)))) hm0 hm1).mono ?_; rintro _ _ ⟨rfl, hx⟩; obtain ⟨x, rfl⟩ := hx.of_ext)
          go_roundw
          case rel => exact ⟨k + 1, szAc (nth l k) m, x, by omega, by go_num, rfl, by omega, by have := hle (by omega); omega, Hz.out, rfl⟩
          case measure => simp [intOf]; omega
      · obtain rfl : k = n := by omega
        have he : m = szL szAc l (m0 - (k : Int)) := by rw [← hz, List.drop_eq_nil_of_le (by rw [← Hl.out]; omega), szL]
        have He := Lib.hid he
        clear he hz
        go_wp2
        go_ret
        exact ⟨by rw [← He.out]; rfl, by (repeat (first | exact X.refl _ | assumption | refine X.ext ?_ _ | refine X.alloc ?_ _ | refine X.drew ?_))⟩

/-! ### Comparing: the same acts -/
set_option maxRecDepth 100000 in
set_option maxHeartbeats 1000000 in
theorem eqAct_c (d : Ac) (ba ba' : Option Addr) (bn bc bn' bc' B B' : Nat) (w : World) (hS : StmtsAt w B ba bn d.file.body) (hS' : StmtsAt w B' ba' bn' d.file.body) :
    Calls Tryz.prog 66 #[.agg #[.int .i64 (d).kind, .int .i64 (d).file.root, .string ⟨(d).file.pkg.toArray⟩, .string ⟨(d).file.name.toArray⟩, .bool (d).file.init, .int .i64 (d).file.stamp, .slice ba bn bc, .int .i64 (d).idx, .string ⟨(d).name.toArray⟩], .agg #[.int .i64 (d).kind, .int .i64 (d).file.root, .string ⟨(d).file.pkg.toArray⟩, .string ⟨(d).file.name.toArray⟩, .bool (d).file.init, .int .i64 (d).file.stamp, .slice ba' bn' bc', .int .i64 (d).idx, .string ⟨(d).name.toArray⟩]] w fun e w' => e = .returned (.bool true) ∧ X w w' := by
  go_enter Tryz.func66, Tryz.ntmps66
  go_wp2_with fail
  refine calls_name (fun W0 hW0 => ?_)
  have hB0 : Bx W0 w.heap.size #[.int .i64 (d).kind, .int .i64 (d).file.root, .string ⟨(d).file.pkg.toArray⟩, .string ⟨(d).file.name.toArray⟩, .bool (d).file.init, .int .i64 (d).file.stamp, .slice ba bn bc, .int .i64 (d).idx, .string ⟨(d).name.toArray⟩] ∧ Bx W0 (w.heap.size + 1) #[.int .i64 (d).kind, .int .i64 (d).file.root, .string ⟨(d).file.pkg.toArray⟩, .string ⟨(d).file.name.toArray⟩, .bool (d).file.init, .int .i64 (d).file.stamp, .slice ba' bn' bc', .int .i64 (d).idx, .string ⟨(d).name.toArray⟩] ∧ X w W0 := bx2 hW0
  obtain ⟨hB0, hB1, hX0⟩ := hB0
  clear hW0
  refine (eqFile_c d.file d.file ba ba' bn bc bn' bc' _ _ W0 (hS.mono (hX0.fr _)) (hS'.mono (hX0.fr _))).mono ?_
  rintro _ w1 ⟨rfl, hx1⟩
  rw [decide_eq_true (rfl : d.file = d.file)]
  obtain ⟨lt0, cc0, _⟩ := (hB0.x hx1).out
  obtain ⟨lt1, cc1, _⟩ := (hB1.x hx1).out
  have e7 := cc0 7
  have e8 := cc0 8
  have u7 := cc1 7
  have u8 := cc1 8
  clear cc0 cc1
  go_wp2
  go_ret
  exact ⟨rfl, hX0.trans hx1⟩
set_option maxRecDepth 100000 in
set_option maxHeartbeats 1000000 in
theorem eqActS_c (l : List Ac) (a a' : Option Addr) (n c c' B B' : Nat) (w : World) (hL : ActsAt w B a n l) (hM : ActsAt w B' a' n l) :
    Calls Tryz.prog 25 #[.slice a n c, .slice a' n c'] w fun e w' => e = .returned (.bool true) ∧ X w w' := by
  have hn := hL.len.2
  go_enter Tryz.func25, Tryz.ntmps25
  go_wp2
  go_loopw [5] (fun i wr => ∃ k : Nat, k ≤ n ∧ i = .int .i64 k ∧ ∃ x, wr = World.ext w x) (fun i _ => n - (intOf i).toNat)
  case atStart => exact ⟨0, by omega, rfl, X.refl _⟩
  case round =>
    obtain ⟨k, hk, rfl, x, rfl⟩ := hrel
    by_cases hlt : k < n
    · obtain ⟨b, off, ba, bn, bc, rfl, _, hb, _, _, hS, g0, g1, g2, g3, g4, g5, g6, g7, g8⟩ := hL.at_ hlt
      obtain ⟨b', off', ba', bn', bc', rfl, _, hb', _, _, hS', u0, u1, u2, u3, u4, u5, u6, u7, u8⟩ := hM.at_ hlt
      go_wp2
      refine wp_region_grow (by kernel_rfl) (by kernel_rfl) ?_
      repeat (go_big_quiet_step (((go_at_call 66; refine grow_of (eqAct_c (nth l k) ba ba' bn bc bn' bc' _ _ _ (hS.mono (X.fr (by (repeat (first | exact X.refl _ | assumption | refine X.ext ?_ _ | refine X.alloc ?_ _ | refine X.drew ?_))) _)) (hS'.mono (X.fr (by (repeat (first | exact X.refl _ | assumption | refine X.ext ?_ _ | refine X.alloc ?_ _ | refine X.drew ?_))) _)))))))
      refine wpQuiet_nil ?_
      rintro _ ⟨y, rfl⟩
      go_wp2
      go_roundw
      case rel => exact ⟨k + 1, by omega, by go_num, _, rfl⟩
      case measure => simp [intOf]; omega
    · obtain rfl : k = n := by omega
      go_wp2
      go_ret
      exact ⟨rfl, by (repeat (first | exact X.refl _ | assumption | refine X.ext ?_ _ | refine X.alloc ?_ _ | refine X.drew ?_))⟩

/-! ### Copying -/
theorem acells9 (x : Ac × Value) : (acells x).length = 9 := rfl
theorem info_act : (Tryz.prog.info? 77).map (fun i => (i.zero, i.size, i.bytes)) = some (some (.agg #[.int .i64 0, .int .i64 0, .string ⟨#[]⟩, .string ⟨#[]⟩, .bool false, .int .i64 0, .slice none 0 0, .int .i64 0, .string ⟨#[]⟩]), 9, 112) := by kernel_rfl
theorem act_S : StrT Tryz.prog 77 9 := ⟨⟨_, Tryz.underlying77⟩, by kernel_rfl⟩

theorem fill9 {A Z : List Value} {o : Nat} (ho : o = A.length) (hz : 9 ≤ Z.length) (v0 v1 v2 v3 v4 v5 v6 v7 v8 : Value) :
    (((((((((A ++ Z).set o v0).set (o + 1) v1).set (o + 2) v2).set (o + 3) v3).set (o + 4) v4).set (o + 5) v5).set (o + 6) v6).set (o + 7) v7).set (o + 8) v8 = A ++ ([v0, v1, v2, v3, v4, v5, v6, v7, v8] ++ Z.drop 9) := by
  subst ho
  match Z, hz with
  | a :: b :: c :: d :: e :: f :: g :: h :: i :: Z, _ =>
    have h0 := set_off (A := A) (Z := a :: b :: c :: d :: e :: f :: g :: h :: i :: Z) 0 v0
    rw [Nat.add_zero] at h0
    rw [h0, set_off, set_off, set_off, set_off, set_off, set_off, set_off, set_off]
    rfl
theorem own_set9 {w : World} {B e size n c g : Nat} {xs : List Value} (h : w.ownsRow B e size (.slice (some ⟨g, 0, none⟩) n c) n xs) (o : Nat) (v0 v1 v2 v3 v4 v5 v6 v7 v8 : Value) :
    (((((((((w.setCell ⟨g, o, none⟩ v0).setCell ⟨g, o + 1, none⟩ v1).setCell ⟨g, o + 2, none⟩ v2).setCell ⟨g, o + 3, none⟩ v3).setCell ⟨g, o + 4, none⟩ v4).setCell ⟨g, o + 5, none⟩ v5).setCell ⟨g, o + 6, none⟩ v6).setCell ⟨g, o + 7, none⟩ v7).setCell ⟨g, o + 8, none⟩ v8).ownsRow B e size (.slice (some ⟨g, 0, none⟩) n c) n
      (((((((((xs.set o v0).set (o + 1) v1).set (o + 2) v2).set (o + 3) v3).set (o + 4) v4).set (o + 5) v5).set (o + 6) v6).set (o + 7) v7).set (o + 8) v8) := own_set (own_set (own_set (own_set (own_set (own_set (own_set (own_set (own_set h v0) v1) v2) v3) v4) v5) v6) v7) v8
theorem bx_set8 {W : World} {b : Nat} {v1 v2 v3 v4 v5 v6 v7 v8 c0 c1 c2 c3 c4 c5 c6 c7 c8 : Value} (h : Bx W b #[c0, c1, c2, c3, c4, c5, c6, c7, c8]) : Bx ((((((((W.setCell ⟨b, 1, none⟩ v1).setCell ⟨b, 2, none⟩ v2).setCell ⟨b, 3, none⟩ v3).setCell ⟨b, 4, none⟩ v4).setCell ⟨b, 5, none⟩ v5).setCell ⟨b, 6, none⟩ v6).setCell ⟨b, 7, none⟩ v7).setCell ⟨b, 8, none⟩ v8) b #[c0, v1, v2, v3, v4, v5, v6, v7, v8] := by
  have h1 : Bx (W.setCell ⟨b, 1, none⟩ v1) b #[c0, v1, c2, c3, c4, c5, c6, c7, c8] := Bx.set h 1 _
  have h2 : Bx ((W.setCell ⟨b, 1, none⟩ v1).setCell ⟨b, 2, none⟩ v2) b #[c0, v1, v2, c3, c4, c5, c6, c7, c8] := Bx.set h1 2 _
  have h3 : Bx (((W.setCell ⟨b, 1, none⟩ v1).setCell ⟨b, 2, none⟩ v2).setCell ⟨b, 3, none⟩ v3) b #[c0, v1, v2, v3, c4, c5, c6, c7, c8] := Bx.set h2 3 _
  have h4 : Bx ((((W.setCell ⟨b, 1, none⟩ v1).setCell ⟨b, 2, none⟩ v2).setCell ⟨b, 3, none⟩ v3).setCell ⟨b, 4, none⟩ v4) b #[c0, v1, v2, v3, v4, c5, c6, c7, c8] := Bx.set h3 4 _
  have h5 : Bx (((((W.setCell ⟨b, 1, none⟩ v1).setCell ⟨b, 2, none⟩ v2).setCell ⟨b, 3, none⟩ v3).setCell ⟨b, 4, none⟩ v4).setCell ⟨b, 5, none⟩ v5) b #[c0, v1, v2, v3, v4, v5, c6, c7, c8] := Bx.set h4 5 _
  have h6 : Bx ((((((W.setCell ⟨b, 1, none⟩ v1).setCell ⟨b, 2, none⟩ v2).setCell ⟨b, 3, none⟩ v3).setCell ⟨b, 4, none⟩ v4).setCell ⟨b, 5, none⟩ v5).setCell ⟨b, 6, none⟩ v6) b #[c0, v1, v2, v3, v4, v5, v6, c7, c8] := Bx.set h5 6 _
  have h7 : Bx (((((((W.setCell ⟨b, 1, none⟩ v1).setCell ⟨b, 2, none⟩ v2).setCell ⟨b, 3, none⟩ v3).setCell ⟨b, 4, none⟩ v4).setCell ⟨b, 5, none⟩ v5).setCell ⟨b, 6, none⟩ v6).setCell ⟨b, 7, none⟩ v7) b #[c0, v1, v2, v3, v4, v5, v6, v7, c8] := Bx.set h6 7 _
  have h8 : Bx ((((((((W.setCell ⟨b, 1, none⟩ v1).setCell ⟨b, 2, none⟩ v2).setCell ⟨b, 3, none⟩ v3).setCell ⟨b, 4, none⟩ v4).setCell ⟨b, 5, none⟩ v5).setCell ⟨b, 6, none⟩ v6).setCell ⟨b, 7, none⟩ v7).setCell ⟨b, 8, none⟩ v8) b #[c0, v1, v2, v3, v4, v5, v6, v7, v8] := Bx.set h7 8 _
  exact h8
theorem bx_set9 {W : World} {b : Nat} {v0 v1 v2 v3 v4 v5 v6 v7 v8 c0 c1 c2 c3 c4 c5 c6 c7 c8 : Value} (h : Bx W b #[c0, c1, c2, c3, c4, c5, c6, c7, c8]) : Bx (((((((((W.setCell ⟨b, 0, none⟩ v0).setCell ⟨b, 1, none⟩ v1).setCell ⟨b, 2, none⟩ v2).setCell ⟨b, 3, none⟩ v3).setCell ⟨b, 4, none⟩ v4).setCell ⟨b, 5, none⟩ v5).setCell ⟨b, 6, none⟩ v6).setCell ⟨b, 7, none⟩ v7).setCell ⟨b, 8, none⟩ v8) b #[v0, v1, v2, v3, v4, v5, v6, v7, v8] := by
  have h0 : Bx (W.setCell ⟨b, 0, none⟩ v0) b #[v0, c1, c2, c3, c4, c5, c6, c7, c8] := Bx.set h 0 _
  have h1 : Bx ((W.setCell ⟨b, 0, none⟩ v0).setCell ⟨b, 1, none⟩ v1) b #[v0, v1, c2, c3, c4, c5, c6, c7, c8] := Bx.set h0 1 _
  have h2 : Bx (((W.setCell ⟨b, 0, none⟩ v0).setCell ⟨b, 1, none⟩ v1).setCell ⟨b, 2, none⟩ v2) b #[v0, v1, v2, c3, c4, c5, c6, c7, c8] := Bx.set h1 2 _
  have h3 : Bx ((((W.setCell ⟨b, 0, none⟩ v0).setCell ⟨b, 1, none⟩ v1).setCell ⟨b, 2, none⟩ v2).setCell ⟨b, 3, none⟩ v3) b #[v0, v1, v2, v3, c4, c5, c6, c7, c8] := Bx.set h2 3 _
  have h4 : Bx (((((W.setCell ⟨b, 0, none⟩ v0).setCell ⟨b, 1, none⟩ v1).setCell ⟨b, 2, none⟩ v2).setCell ⟨b, 3, none⟩ v3).setCell ⟨b, 4, none⟩ v4) b #[v0, v1, v2, v3, v4, c5, c6, c7, c8] := Bx.set h3 4 _
  have h5 : Bx ((((((W.setCell ⟨b, 0, none⟩ v0).setCell ⟨b, 1, none⟩ v1).setCell ⟨b, 2, none⟩ v2).setCell ⟨b, 3, none⟩ v3).setCell ⟨b, 4, none⟩ v4).setCell ⟨b, 5, none⟩ v5) b #[v0, v1, v2, v3, v4, v5, c6, c7, c8] := Bx.set h4 5 _
  have h6 : Bx (((((((W.setCell ⟨b, 0, none⟩ v0).setCell ⟨b, 1, none⟩ v1).setCell ⟨b, 2, none⟩ v2).setCell ⟨b, 3, none⟩ v3).setCell ⟨b, 4, none⟩ v4).setCell ⟨b, 5, none⟩ v5).setCell ⟨b, 6, none⟩ v6) b #[v0, v1, v2, v3, v4, v5, v6, c7, c8] := Bx.set h5 6 _
  have h7 : Bx ((((((((W.setCell ⟨b, 0, none⟩ v0).setCell ⟨b, 1, none⟩ v1).setCell ⟨b, 2, none⟩ v2).setCell ⟨b, 3, none⟩ v3).setCell ⟨b, 4, none⟩ v4).setCell ⟨b, 5, none⟩ v5).setCell ⟨b, 6, none⟩ v6).setCell ⟨b, 7, none⟩ v7) b #[v0, v1, v2, v3, v4, v5, v6, v7, c8] := Bx.set h6 7 _
  have h8 : Bx (((((((((W.setCell ⟨b, 0, none⟩ v0).setCell ⟨b, 1, none⟩ v1).setCell ⟨b, 2, none⟩ v2).setCell ⟨b, 3, none⟩ v3).setCell ⟨b, 4, none⟩ v4).setCell ⟨b, 5, none⟩ v5).setCell ⟨b, 6, none⟩ v6).setCell ⟨b, 7, none⟩ v7).setCell ⟨b, 8, none⟩ v8) b #[v0, v1, v2, v3, v4, v5, v6, v7, v8] := Bx.set h7 8 _
  exact h8
theorem x_set9 {A W : World} {b : Nat} {v0 v1 v2 v3 v4 v5 v6 v7 v8 : Value} (h : X A W) (hb : A.heap.size ≤ b) : X A (((((((((W.setCell ⟨b, 0, none⟩ v0).setCell ⟨b, 1, none⟩ v1).setCell ⟨b, 2, none⟩ v2).setCell ⟨b, 3, none⟩ v3).setCell ⟨b, 4, none⟩ v4).setCell ⟨b, 5, none⟩ v5).setCell ⟨b, 6, none⟩ v6).setCell ⟨b, 7, none⟩ v7).setCell ⟨b, 8, none⟩ v8) := (X.setCell (X.setCell (X.setCell (X.setCell (X.setCell (X.setCell (X.setCell (X.setCell (X.setCell h hb _) hb _) hb _) hb _) hb _) hb _) hb _) hb _) hb _)
theorem fr_set9 {W : World} {B b : Nat} {v0 v1 v2 v3 v4 v5 v6 v7 v8 : Value} (hb : b < B) : Fr B W (((((((((W.setCell ⟨b, 0, none⟩ v0).setCell ⟨b, 1, none⟩ v1).setCell ⟨b, 2, none⟩ v2).setCell ⟨b, 3, none⟩ v3).setCell ⟨b, 4, none⟩ v4).setCell ⟨b, 5, none⟩ v5).setCell ⟨b, 6, none⟩ v6).setCell ⟨b, 7, none⟩ v7).setCell ⟨b, 8, none⟩ v8) := (Fr.set (Fr.set (Fr.set (Fr.set (Fr.set (Fr.set (Fr.set (Fr.set (Fr.set (Fr.refl _ _) (.inr hb) _) (.inr hb) _) (.inr hb) _) (.inr hb) _) (.inr hb) _) (.inr hb) _) (.inr hb) _) (.inr hb) _) (.inr hb) _)
set_option maxRecDepth 100000 in
set_option maxHeartbeats 2000000 in
theorem toAct_c (d : Ac) (ba : Option Addr) (bn bc B : Nat) (w : World) (hS : StmtsAt w B ba bn d.file.body) :
    Calls Tryz.prog 62 #[.agg #[.int .i64 (d).kind, .int .i64 (d).file.root, .string ⟨(d).file.pkg.toArray⟩, .string ⟨(d).file.name.toArray⟩, .bool (d).file.init, .int .i64 (d).file.stamp, .slice ba bn bc, .int .i64 (d).idx, .string ⟨(d).name.toArray⟩]] w fun e w' => ∃ ra, e = .returned (.agg #[.int .i64 (d).kind, .int .i64 (d).file.root, .string ⟨(d).file.pkg.toArray⟩, .string ⟨(d).file.name.toArray⟩, .bool (d).file.init, .int .i64 (d).file.stamp, .slice ra bn bn, .int .i64 (d).idx, .string ⟨(d).name.toArray⟩]) ∧ w'.ownsRow w.heap.size 148 5 (.slice ra bn bn) bn (d.file.body.flatMap scells) ∧ X w w' := by
  go_enter Tryz.func62, Tryz.ntmps62
  go_wp2_with fail
  refine calls_name (fun W hW => ?_)
  obtain ⟨hA, hR, hT, hX0⟩ := bx3 hW
  have hsz : W.heap.size = w.heap.size + 3 := by rw [hW]; simp
  clear hW
  refine (toFile_c d.file ba bn bc _ W (hS.mono (hX0.fr _))).mono ?_
  rintro _ w3 ⟨ra, rfl, hO, hX3⟩
  have hXw := hX0.trans hX3
  have hs3 := hX3.size
  replace hA := hA.x hX3
  replace hR := hR.x hX3
  replace hT := hT.x hX3
  replace hO := own_less hO (Nat.le_of_eq hsz.symm)
  clear hX0 hX3 hsz
  obtain ⟨hbA, hcA, _⟩ := hA.out
  obtain ⟨hbT, hcT, hfT⟩ := hT.out
  have a7 := hcA 7
  have a8 := hcA 8
  have ft0 := hfT 0
  have t1 := hcT 1
  have t2 := hcT 2
  have t3 := hcT 3
  have t4 := hcT 4
  have t5 := hcT 5
  have t6 := hcT 6
  have t7 := hcT 7
  have t8 := hcT 8
  clear hcA hcT
  have hne : w.heap.size + 1 ≠ w.heap.size + 1 + 1 := by omega
  have hle2 : w.heap.size ≤ w.heap.size + 1 + 1 := by omega
  have hlt2 : w.heap.size + 1 + 1 < w.heap.size + 3 := by omega
  have hle1 : w.heap.size ≤ w.heap.size + 1 := by omega
  have hlt1 : w.heap.size + 1 < w.heap.size + 3 := by omega
  go_upto_region 6 with fail
  refine wp_name (fun W5 hW5 => ?_)
  have hR5 : Bx W5 (w.heap.size + 1) #[.int .i64 0, .int .i64 0, .string ⟨#[]⟩, .string ⟨#[]⟩, .bool false, .int .i64 0, .slice none 0 0, .int .i64 0, .string ⟨#[]⟩] := by rw [hW5]; exact (Bx.far (Bx.far (Bx.far (Bx.far (Bx.far (Bx.far (Bx.far (Bx.far hR hne _) hne _) hne _) hne _) hne _) hne _) hne _) hne _)
  have hT5 : Bx W5 (w.heap.size + 1 + 1) (#[.int .i64 (d).kind, .int .i64 (d).file.root, .string ⟨(d).file.pkg.toArray⟩, .string ⟨(d).file.name.toArray⟩, .bool (d).file.init, .int .i64 (d).file.stamp, .slice ra bn bn, .int .i64 (d).idx, .string ⟨(d).name.toArray⟩]) := by rw [hW5]; exact bx_set8 hT
  have hX5 : X w W5 := by rw [hW5]; exact (X.setCell (X.setCell (X.setCell (X.setCell (X.setCell (X.setCell (X.setCell (X.setCell hXw hle2 _) hle2 _) hle2 _) hle2 _) hle2 _) hle2 _) hle2 _) hle2 _)
  have hO5 : W5.ownsRow (w.heap.size + 3) 148 5 (.slice ra bn bn) bn (d.file.body.flatMap scells) := by rw [hW5]; exact own_fr hO (Fr.set (Fr.set (Fr.set (Fr.set (Fr.set (Fr.set (Fr.set (Fr.set (Fr.refl _ _) (.inr hlt2) _) (.inr hlt2) _) (.inr hlt2) _) (.inr hlt2) _) (.inr hlt2) _) (.inr hlt2) _) (.inr hlt2) _) (.inr hlt2) _)
  clear hW5 hT hA hXw hO ft0 hbT hbA a7 a8 hR hle2 hlt2 hne t1 t2 t3 t4 t5 t6 t7 t8
  obtain ⟨hbR, hcR, hfR⟩ := hR5.out
  obtain ⟨hbT, hcT, hfT⟩ := hT5.out
  have fr0 := hfR 0
  have fr1 := hfR 1
  have fr2 := hfR 2
  have fr3 := hfR 3
  have fr4 := hfR 4
  have fr5 := hfR 5
  have fr6 := hfR 6
  have fr7 := hfR 7
  have fr8 := hfR 8
  have t0 := hcT 0
  have t1 := hcT 1
  have t2 := hcT 2
  have t3 := hcT 3
  have t4 := hcT 4
  have t5 := hcT 5
  have t6 := hcT 6
  have t7 := hcT 7
  have t8 := hcT 8
  have r0 := hcR 0
  have r1 := hcR 1
  have r2 := hcR 2
  have r3 := hcR 3
  have r4 := hcR 4
  have r5 := hcR 5
  have r6 := hcR 6
  have r7 := hcR 7
  have r8 := hcR 8
  clear hcR hcT hfR hfT
  go_wp2
  refine bodyPost_row Tryz.results62 rfl (bx_set9 hR5) act_S rfl rfl ?_
  exact ⟨ra, rfl, own_less (own_fr hO5 (fr_set9 hlt1)) (by omega), x_set9 hX5 hle1⟩
/-- No two bodies lie in one block. -/
def SepA (vs : List (Ac × Value)) : Prop := vs.Pairwise fun x y => x.2.ownBlock = none ∨ y.2.ownBlock = none ∨ y.2.ownBlock ≠ x.2.ownBlock
/-- Acts that the call itself has made: the table and each body is a row of its own. -/
def ActsO (w : World) (B : Nat) (a : Option Addr) (n c : Nat) (l : List Ac) : Prop :=
  ∃ vs : List (Ac × Value), l = vs.map (·.1) ∧ n = l.length ∧ w.ownsRow B 77 9 (.slice a n c) n (vs.flatMap acells) ∧ SepA vs ∧
    ∀ x ∈ vs, ∃ ba bc, x.2 = .slice ba x.1.file.body.length bc ∧ w.ownsRow B 148 5 (.slice ba x.1.file.body.length bc) x.1.file.body.length (x.1.file.body.flatMap scells)
theorem ActsO.fr {w w' : World} {B n c : Nat} {a : Option Addr} {l : List Ac} (h : ActsO w B a n c l) (hx : Fr B w w') : ActsO w' B a n c l := by
  obtain ⟨vs, e, h1, h2, hs, h3⟩ := h
  exact ⟨vs, e, h1, own_fr h2 hx, hs, fun x hm => let ⟨ba, bc, e, ho⟩ := h3 x hm; ⟨ba, bc, e, own_fr ho hx⟩⟩
theorem ActsO.less {w : World} {B B' n c : Nat} {a : Option Addr} {l : List Ac} (h : ActsO w B a n c l) (hB : B' ≤ B) : ActsO w B' a n c l := by
  obtain ⟨vs, e, h1, h2, hs, h3⟩ := h
  exact ⟨vs, e, h1, own_less h2 hB, hs, fun x hm => let ⟨ba, bc, e, ho⟩ := h3 x hm; ⟨ba, bc, e, own_less ho hB⟩⟩
/-- No text of the acts is too long. -/
def OkA (l : List Ac) : Prop := l.length ≤ 2097152 ∧ ∀ f ∈ l, Okf f.file ∧ f.name.length ≤ 1048576 ∧ f.file.body.length ≤ 2097152 ∧ ∀ s ∈ f.file.body, Oks s
theorem ActsAt.okA {w : World} {B n : Nat} {a : Option Addr} {l : List Ac} (h : ActsAt w B a n l) : OkA l := by
  obtain ⟨vs, e, h1, h2, h3, _, h5⟩ := h
  refine ⟨by omega, fun f hf => ⟨(h3 f hf).1, (h3 f hf).2, ?_⟩⟩
  rw [e] at hf
  obtain ⟨x, hx, rfl⟩ := List.mem_map.1 hf
  obtain ⟨ba, bn, bc, _, _, hS⟩ := h5 x hx
  exact ⟨by have := hS.1; have := hS.2.1; omega, hS.2.2.1⟩
theorem ActsO.at {w : World} {B n c : Nat} {a : Option Addr} {l : List Ac} (h : ActsO w B a n c l) (hk : OkA l) : ActsAt w B a n l := by
  obtain ⟨vs, e, h1, h2, _, h3⟩ := h
  refine ⟨vs, e, h1, by have := hk.1; omega, fun f hf => ⟨(hk.2 f hf).1, (hk.2 f hf).2.1⟩, Sl.of_own h2, fun x hx => ?_⟩
  obtain ⟨ba, bc, e2, ho⟩ := h3 x hx
  have hm : x.1 ∈ l := by rw [e]; exact List.mem_map.2 ⟨x, hx, rfl⟩
  exact ⟨ba, _, bc, e2, own_cap ho, rfl, (hk.2 _ hm).2.2.1, (hk.2 _ hm).2.2.2, Sl.of_own ho⟩

set_option maxRecDepth 100000 in
set_option maxHeartbeats 2000000 in
theorem toActS_c (l : List Ac) (a : Option Addr) (n c B : Nat) (w : World) (hF : ActsAt w B a n l) :
    Calls Tryz.prog 23 #[.slice a n c] w fun e w' => ∃ ra, e = .returned (.slice ra n n) ∧ ActsO w' w.heap.size ra n n l ∧ X w w' := by
  obtain ⟨hl, hn⟩ := hF.len
  obtain ⟨i0, hi, hz0, hz1, hz2⟩ := info_parts info_act
  have hz : (madeCells (Value.agg #[.int .i64 0, .int .i64 0, .string ⟨#[]⟩, .string ⟨#[]⟩, .bool false, .int .i64 0, .slice none 0 0, .int .i64 0, .string ⟨#[]⟩]).cells (n * 9)).toList.length = n * 9 := by rw [Array.length_toList, size_madeCells]
  have Hz := Lib.hid hz
  have Hl := Lib.hid hl
  clear hl hz
  generalize hZ : (madeCells (Value.agg #[.int .i64 0, .int .i64 0, .string ⟨#[]⟩, .string ⟨#[]⟩, .bool false, .int .i64 0, .slice none 0 0, .int .i64 0, .string ⟨#[]⟩]).cells (n * 9)).toList = Z at *
  go_enter Tryz.func23, Tryz.ntmps23
  go_wp2_with (at_make; refine wpList_make_full _ rfl _ _ 56 rfl w.heap.size 77 i0 (.agg #[.int .i64 0, .int .i64 0, .string ⟨#[]⟩, .string ⟨#[]⟩, .bool false, .int .i64 0, .slice none 0 0, .int .i64 0, .string ⟨#[]⟩]) 9 Tryz.underlying56 hi hz0 hz1 _ _ _ _ n rfl rfl rfl rfl (by rw [hz2]; omega) (by unfold maxLen; omega) (Nat.le_refl _) ?_; intro w1 hO1 hg1; rw [hZ] at hO1; clear hZ)
  have hX0 : X w w1 := X.of_grown hg1
  clear hg1
  go_loopw [4] (fun i wr => ∃ (k : Nat) (vs : List (Ac × Value)), k ≤ n ∧ i = .int .i64 k ∧ X w wr ∧ vs.map (·.1) = l.take k ∧ wr.ownsRow w.heap.size 77 9 (.slice (some ⟨w.heap.size, 0, none⟩) n n) n (vs.flatMap acells ++ Z.drop (k * 9)) ∧ SepA vs ∧
    ∀ x ∈ vs, ∃ ba bc, x.2 = .slice ba x.1.file.body.length bc ∧ wr.ownsRow w.heap.size 148 5 (.slice ba x.1.file.body.length bc) x.1.file.body.length (x.1.file.body.flatMap scells)) (fun i _ => n - (intOf i).toNat)
  case atStart => exact ⟨0, [], Nat.zero_le _, rfl, hX0, rfl, by rw [Nat.zero_mul]; exact hO1, List.Pairwise.nil, fun _ h => by cases h⟩
  case round =>
    obtain ⟨k, vs, hk, rfl, hX, hvs, hO, hsep, hbd⟩ := hrel
    have Hsep := Lib.hid hsep
    clear hsep
    clear hX0 hO1
    have Hvs := Lib.hid hvs
    clear hvs
    have Hbd := Lib.hid hbd
    clear hbd
    have hvl : vs.length = k := by have := congrArg List.length Hvs.out; rw [List.length_map, List.length_take, ← Hl.out] at this; omega
    have Hvl := Lib.hid hvl
    clear hvl
    by_cases hlt : k < n
    · obtain ⟨b, off, ba, bn, bc, rfl, _, hb, hok, hbc, hSb, g0, g1, g2, g3, g4, g5, g6, g7, g8⟩ := (hF.mono (hX.fr _)).at_ hlt
      have hbn := hSb.1
      have Hbn := Lib.hid hbn
      clear hbn
      go_wp2_with (go_at_call 62; refine (toAct_c (nth l k) ba bn bc _ _ hSb).mono ?_; rintro _ w3 ⟨ra, rfl, hOb, hx3⟩; have hO3 := own_fr hO (hx3.fr _); have hX3 := hX.trans hx3; have hg3 := (hO3.lt w.heap.size rfl).2; have hf0 := (hO3).frozenAt (k * 9); obtain ⟨u0, hu0⟩ := own_here hO3 (j := k * 9) (by omega); have hf1 := (hO3).frozenAt (k * 9 + 1); obtain ⟨u1, hu1⟩ := own_here hO3 (j := k * 9 + 1) (by omega); have hf2 := (hO3).frozenAt (k * 9 + 2); obtain ⟨u2, hu2⟩ := own_here hO3 (j := k * 9 + 2) (by omega); have hf3 := (hO3).frozenAt (k * 9 + 3); obtain ⟨u3, hu3⟩ := own_here hO3 (j := k * 9 + 3) (by omega); have hf4 := (hO3).frozenAt (k * 9 + 4); obtain ⟨u4, hu4⟩ := own_here hO3 (j := k * 9 + 4) (by omega); have hf5 := (hO3).frozenAt (k * 9 + 5); obtain ⟨u5, hu5⟩ := own_here hO3 (j := k * 9 + 5) (by omega); have hf6 := (hO3).frozenAt (k * 9 + 6); obtain ⟨u6, hu6⟩ := own_here hO3 (j := k * 9 + 6) (by omega); have hf7 := (hO3).frozenAt (k * 9 + 7); obtain ⟨u7, hu7⟩ := own_here hO3 (j := k * 9 + 7) (by omega); have hf8 := (hO3).frozenAt (k * 9 + 8); obtain ⟨u8, hu8⟩ := own_here hO3 (j := k * 9 + 8) (by omega))
      have hgr : ∀ v0 v1 v2 v3 v4 v5 v6 v7 v8, w3.grownBy (((((((((w3.setCell ⟨w.heap.size, k * 9, none⟩ v0).setCell ⟨w.heap.size, k * 9 + 1, none⟩ v1).setCell ⟨w.heap.size, k * 9 + 2, none⟩ v2).setCell ⟨w.heap.size, k * 9 + 3, none⟩ v3).setCell ⟨w.heap.size, k * 9 + 4, none⟩ v4).setCell ⟨w.heap.size, k * 9 + 5, none⟩ v5).setCell ⟨w.heap.size, k * 9 + 6, none⟩ v6).setCell ⟨w.heap.size, k * 9 + 7, none⟩ v7).setCell ⟨w.heap.size, k * 9 + 8, none⟩ v8) (some w.heap.size) :=
        fun v0 v1 v2 v3 v4 v5 v6 v7 v8 => grown_next (grown_next (grown_next (grown_next (grown_next (grown_next (grown_next (grown_next (grown_set _ _ _) _ _) _ _) _ _) _ _) _ _) _ _) _ _) _ _
      obtain ⟨cs3, hb3⟩ := own_block hO3
      go_roundw
      case rel =>
        have hle : w.heap.size ≤ w.heap.size := Nat.le_refl _
        refine ⟨k + 1, vs ++ [(nth l k, .slice ra bn bn)], by omega, by go_num, ?_, by rw [List.map_append, Hvs.out, take_succ_nth (by rw [← Hl.out]; exact hlt)]; rfl, ?_, List.pairwise_append.2 ⟨Hsep.out, List.pairwise_singleton _ _, fun x hx y hy => ?_⟩, fun x hx => ?_⟩
        · exact X.setCell (X.setCell (X.setCell (X.setCell (X.setCell (X.setCell (X.setCell (X.setCell (X.setCell hX3 hle _) hle _) hle _) hle _) hle _) hle _) hle _) hle _) hle _
        · have h6 := own_set9 hO3 (k * 9) (.int .i64 (nth l k).kind) (.int .i64 (nth l k).file.root) (.string ⟨((nth l k).file.pkg).toArray⟩) (.string ⟨((nth l k).file.name).toArray⟩) (.bool (nth l k).file.init) (.int .i64 (nth l k).file.stamp) (.slice ra bn bn) (.int .i64 (nth l k).idx) (.string ⟨((nth l k).name).toArray⟩)
          rw [fill9 (by rw [flat_length 9 acells acells9, Hvl.out]) (left_len Hz.out hlt), List.drop_drop] at h6
          rw [List.flatMap_append, List.append_assoc, Nat.succ_mul]
          exact h6
        · rw [List.mem_singleton.1 hy]
          obtain ⟨ba', bc', e, ho⟩ := Hbd.out x hx
          rw [e]
          exact row_far ho rfl hOb
        · rcases List.mem_append.1 hx with hx | hx
          · obtain ⟨ba', bc', e, ho⟩ := Hbd.out x hx
            have ho3 := own_fr ho (hx3.fr _)
            exact ⟨ba', bc', e, ho3.kept (hgr _ _ _ _ _ _ _ _ _) (.inr (own_ne_at ho3 hb3 (by decide)))⟩
          · rw [List.mem_singleton.1 hx]
            have ho3 := own_less hOb hX.size
            rw [Hbn.out] at ho3 ⊢
            exact ⟨ra, _, rfl, ho3.kept (hgr _ _ _ _ _ _ _ _ _) (.inr (own_ne_at ho3 hb3 (by decide)))⟩
      case measure => simp [intOf]; omega
    · obtain rfl : k = n := by omega
      go_wp2
      go_ret
      refine ⟨_, rfl, ⟨vs, by rw [Hvs.out, List.take_of_length_le (by rw [← Hl.out]; omega)], Hl.out, ?_, Hsep.out, Hbd.out⟩, hX⟩
      rw [List.drop_eq_nil_of_le (by rw [Hz.out]; omega), List.append_nil] at hO
      exact hO

end Go.Proofs.YtgjfjjhmgbemcaaGreatDoor
