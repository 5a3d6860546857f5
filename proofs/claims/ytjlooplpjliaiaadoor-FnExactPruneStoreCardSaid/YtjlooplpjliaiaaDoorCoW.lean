/- The laws' own counting and copying of stores: the walks. No condition but lengths. -/
import Derived.Test.YtjlooplpjliaiaaDoorCoR
import Derived.Test.YtjlooplpjliaiaaDoorToT
import Derived.Test.YtjlooplpjliaiaaDoorSzW
namespace Go.Proofs.YtjlooplpjliaiaaDoor
open Go.RowKit

theorem co8_set {w : World} {b : Nat} {u0 u1 u2 u3 u4 u5 u6 u7 : Value} (h : Bx w b #[u0, u1, u2, u3, u4, u5, u6, u7]) (v0 v1 v2 v3 v4 v5 v6 v7 : Value) :
    Bx ((((((((w.setCell ⟨b, 0, none⟩ v0).setCell ⟨b, 1, none⟩ v1).setCell ⟨b, 2, none⟩ v2).setCell ⟨b, 3, none⟩ v3).setCell ⟨b, 4, none⟩ v4).setCell ⟨b, 5, none⟩ v5).setCell ⟨b, 6, none⟩ v6).setCell ⟨b, 7, none⟩ v7) b #[v0, v1, v2, v3, v4, v5, v6, v7] := by
  simpa using (((((((h.set 0 v0).set 1 v1).set 2 v2).set 3 v3).set 4 v4).set 5 v5).set 6 v6).set 7 v7
theorem fill8 {A Z : List Value} {o : Nat} (ho : o = A.length) (hz : 8 ≤ Z.length) (v0 v1 v2 v3 v4 v5 v6 v7 : Value) :
    ((((((((A ++ Z).set o v0).set (o + 1) v1).set (o + 2) v2).set (o + 3) v3).set (o + 4) v4).set (o + 5) v5).set (o + 6) v6).set (o + 7) v7 = A ++ ([v0, v1, v2, v3, v4, v5, v6, v7] ++ Z.drop 8) := by
  subst ho
  match Z, hz with
  | a :: b :: c :: d :: e :: f :: g :: h :: Z, _ =>
    have h0 := set_off (A := A) (Z := a :: b :: c :: d :: e :: f :: g :: h :: Z) 0 v0
    rw [Nat.add_zero] at h0
    rw [h0, set_off, set_off, set_off, set_off, set_off, set_off, set_off]
    rfl
theorem own_set8 {w : World} {B e size n c g : Nat} {xs : List Value} (h : w.ownsRow B e size (.slice (some ⟨g, 0, none⟩) n c) n xs) (o : Nat) (v0 v1 v2 v3 v4 v5 v6 v7 : Value) :
    ((((((((w.setCell ⟨g, o, none⟩ v0).setCell ⟨g, o + 1, none⟩ v1).setCell ⟨g, o + 2, none⟩ v2).setCell ⟨g, o + 3, none⟩ v3).setCell ⟨g, o + 4, none⟩ v4).setCell ⟨g, o + 5, none⟩ v5).setCell ⟨g, o + 6, none⟩ v6).setCell ⟨g, o + 7, none⟩ v7).ownsRow B e size (.slice (some ⟨g, 0, none⟩) n c) n
      ((((((((xs.set o v0).set (o + 1) v1).set (o + 2) v2).set (o + 3) v3).set (o + 4) v4).set (o + 5) v5).set (o + 6) v6).set (o + 7) v7) := own_set (own_set (own_set6 h o v0 v1 v2 v3 v4 v5) v6) v7
theorem co_S' : StrT Tryd.prog 65 8 := ⟨⟨_, Tryd.underlying65⟩, by kernel_rfl⟩
theorem info_co : (Tryd.prog.info? 65).map (fun i => (i.zero, i.size, i.bytes)) = some (some (.agg #[.int .i64 0, .string ⟨#[]⟩, .bool false, .int .i64 0, .int .i64 0, .int .i64 0, .int .i64 0, .slice none 0 0]), 8, 88) := by kernel_rfl

set_option maxRecDepth 100000 in
set_option maxHeartbeats 1000000 in
theorem szCompiled_c (f : Co) (ba : Option Addr) (bn bc : Nat) (n : Int) (w : World) (hm : f.mod.length ≤ maxLen) (hS : StmtsR w ba bn f.body) (h0 : 0 ≤ n) (h1 : n ≤ 1048576) :
    Calls Tryd.prog 46 #[.agg #[.int .i64 (f).root, .string ⟨(f).mod.toArray⟩, .bool (f).init, .int .i64 (f).mode, .int .i64 (f).stamp, .int .i64 (f).size, .int .i64 (f).hash, .slice ba bn bc], .int .i64 n] w fun e w' => e = .returned (.int .i64 (szCo f n)) ∧ X w w' := by
  have q1 := i64_sub n f.mod.length h0 h1 hm
  by_cases c1 : n - (f.mod.length : Int) < 0
  · rw [show szCo f n = -1 by rw [szCo, if_pos c1]]
    go_enter Tryd.func46, Tryd.ntmps46
    go_wp2
    go_ret
    exact ⟨by simp, by (repeat (first | with_reducible exact X.refl _ | with_reducible assumption | with_reducible refine X.setCell ?_ (by first | (simp; done) | (simp; omega)) _ | with_reducible refine X.ext ?_ _ | with_reducible refine X.alloc ?_ _ | with_reducible refine X.drew ?_))⟩
  · rw [show szCo f n = szSts f.body (n - (f.mod.length : Int)) by rw [szCo, if_neg c1]]
    have hneg : szSts f.body (n - (f.mod.length : Int)) < 0 → szSts f.body (n - (f.mod.length : Int)) = -1 := szSts_neg
    have Hneg := Lib.hid hneg
    clear hneg
    by_cases c3 : szSts f.body (n - (f.mod.length : Int)) < 0
    all_goals
      go_enter Tryd.func46, Tryd.ntmps46
      go_wp2_with (go_at_call 47; refine (szStmtS_c f.body _ _ _ _ _ (hS.mono (by (repeat (first | exact X.refl _ | assumption | refine X.ext ?_ _ | refine X.alloc ?_ _ | refine X.drew ?_)))) (by omega) (by omega)).mono ?_; rintro _ _ ⟨rfl, hx⟩; replace hx := X.trans (a := w) (by (repeat (first | exact X.refl _ | assumption | refine X.ext ?_ _ | refine X.alloc ?_ _ | refine X.drew ?_))) hx; obtain ⟨x, rfl⟩ := hx)
      go_ret
    · exact ⟨by rw [Hneg.out c3]; rfl, by (repeat (first | exact X.refl _ | assumption | refine X.ext ?_ _ | refine X.alloc ?_ _ | refine X.drew ?_))⟩
    · exact ⟨rfl, by (repeat (first | exact X.refl _ | assumption | refine X.ext ?_ _ | refine X.alloc ?_ _ | refine X.drew ?_))⟩
set_option maxRecDepth 100000 in
set_option maxHeartbeats 1000000 in
theorem szCompiledS_c (l : List Co) (a : Option Addr) (n c : Nat) (m0 : Int) (w : World) (hS : CosR w a n l) (h0 : 0 ≤ m0) (h1 : m0 ≤ 1048576) :
    Calls Tryd.prog 16 #[.slice a n c, .int .i64 m0] w fun e w' => e = .returned (.int .i64 (szCos l m0)) ∧ X w w' := by
  have hl : n = l.length := by obtain ⟨_, _, h, _⟩ := hS; exact h
  have hn : n ≤ maxLen := by obtain ⟨_, _, _, h, _⟩ := hS; exact h
  have q1 := i64_sub m0 n h0 h1 hn
  by_cases c1 : m0 - (n : Int) < 0
  · rw [show szCos l m0 = -1 by rw [szCos, ← hl, if_pos c1]]
    clear hl
    go_enter Tryd.func16, Tryd.ntmps16
    go_wp2
    go_ret
    exact ⟨by simp, by (repeat (first | with_reducible exact X.refl _ | with_reducible assumption | with_reducible refine X.setCell ?_ (by first | (simp; done) | (simp; omega)) _ | with_reducible refine X.ext ?_ _ | with_reducible refine X.alloc ?_ _ | with_reducible refine X.drew ?_))⟩
  · rw [show szCos l m0 = szL szCo l (m0 - (n : Int)) by rw [szCos, ← hl, if_neg c1]]
    have Hl := Lib.hid hl
    clear hl
    go_enter Tryd.func16, Tryd.ntmps16
    go_wp2
    go_loopw [1, 5] (fun v i wr => ∃ (k : Nat) (m : Int) (x : Xt), k ≤ n ∧ i = .int .i64 k ∧ v = .int .i64 m ∧ 0 ≤ m ∧ m ≤ 1048576 ∧ szL szCo (l.drop k) m = szL szCo l (m0 - (n : Int)) ∧ wr = World.ext w x) (fun _ i _ => n - (intOf i).toNat)
    case atStart => exact ⟨0, m0 - (n : Int), _, by omega, rfl, rfl, by omega, by omega, rfl, (World.ext_refl w).symm⟩
    case round =>
      obtain ⟨k, m, x, hk, rfl, rfl, hm0, hm1, hz, rfl⟩ := hrel
      by_cases hlt : k < n
      · obtain ⟨b, off, ba, bn, bc, rfl, hb, hb2, _, hSb, g0, g1, g2, g3, g4, g5, g6, g7⟩ := hS.at_ hlt
        rw [szL_round (by rw [← Hl.out]; exact hlt)] at hz
        have hle := szCo_le (nth l k) m
        by_cases c2 : szCo (nth l k) m < 0
        · rw [if_pos c2] at hz
          have Hz := Lib.hid hz
          clear hz
          go_wp2_with (go_at_call 46; refine (szCompiled_c (nth l k) ba bn bc m _ hb2 (hSb.mono (by (repeat (first | exact X.refl _ | assumption | refine X.ext ?_ _ | refine X.alloc ?_ _ | refine X.drew ?_)))) hm0 hm1).mono ?_; rintro _ _ ⟨rfl, hx⟩; obtain ⟨x, rfl⟩ := hx.of_ext)
          go_ret
          exact ⟨by rw [← Hz.out]; simp, by (repeat (first | exact X.refl _ | assumption | refine X.ext ?_ _ | refine X.alloc ?_ _ | refine X.drew ?_))⟩
        · rw [if_neg c2] at hz
          have Hz := Lib.hid hz
          clear hz
          go_wp2_with (go_at_call 46; refine (szCompiled_c (nth l k) ba bn bc m _ hb2 (hSb.mono (by (repeat (first | exact X.refl _ | assumption | refine X.ext ?_ _ | refine X.alloc ?_ _ | refine X.drew ?_)))) hm0 hm1).mono ?_; rintro _ _ ⟨rfl, hx⟩; obtain ⟨x, rfl⟩ := hx.of_ext)
          go_roundw
          case rel => exact ⟨k + 1, szCo (nth l k) m, x, by omega, by go_num, rfl, by omega, by have := hle (by omega); omega, Hz.out, rfl⟩
          case measure => simp [intOf]; omega
      · obtain rfl : k = n := by omega
        have he : m = szL szCo l (m0 - (k : Int)) := by rw [← hz, List.drop_eq_nil_of_le (by rw [← Hl.out]; omega), szL]
        have He := Lib.hid he
        clear he hz
        go_wp2
        go_ret
        exact ⟨by rw [← He.out]; rfl, by (repeat (first | exact X.refl _ | assumption | refine X.ext ?_ _ | refine X.alloc ?_ _ | refine X.drew ?_))⟩

set_option maxRecDepth 100000 in
set_option maxHeartbeats 1000000 in
theorem toCompiled_c (f : Co) (ba : Option Addr) (bn bc B : Nat) (w : World) (hS : StmtsAt w B ba bn f.body) :
    Calls Tryd.prog 52 #[.agg #[.int .i64 (f).root, .string ⟨(f).mod.toArray⟩, .bool (f).init, .int .i64 (f).mode, .int .i64 (f).stamp, .int .i64 (f).size, .int .i64 (f).hash, .slice ba bn bc]] w fun e w' => ∃ ra, e = .returned (.agg #[.int .i64 (f).root, .string ⟨(f).mod.toArray⟩, .bool (f).init, .int .i64 (f).mode, .int .i64 (f).stamp, .int .i64 (f).size, .int .i64 (f).hash, .slice ra bn bn]) ∧ w'.ownsRow w.heap.size 88 5 (.slice ra bn bn) bn (f.body.flatMap scells) ∧ X w w' := by
  go_enter Tryd.func52, Tryd.ntmps52
  go_wp2_with fail
  refine calls_name (fun W hW => ?_)
  obtain ⟨_, hR, hT, hX0⟩ := bx3 hW
  have hsz : W.heap.size = w.heap.size + 3 := by rw [hW]; simp
  clear hW
  refine (toStmtS_c f.body ba bn bc _ W (hS.mono (hX0.fr _))).mono ?_
  rintro _ w3 ⟨ra, rfl, hO, hX3⟩
  have hXw := hX0.trans hX3
  replace hR := hR.x hX3
  replace hT := hT.x hX3
  obtain ⟨hbR, hcR, hfR⟩ := hR.out
  obtain ⟨hbT, hcT, hfT⟩ := hT.out
  have r0 := hcR 0
  have r1 := hcR 1
  have r2 := hcR 2
  have r3 := hcR 3
  have r4 := hcR 4
  have r5 := hcR 5
  have r6 := hcR 6
  have r7 := hcR 7
  have t0 := hcT 0
  have t1 := hcT 1
  have t2 := hcT 2
  have t3 := hcT 3
  have t4 := hcT 4
  have t5 := hcT 5
  have t6 := hcT 6
  have t7 := hcT 7
  clear hcR hcT
  go_wp2
  refine bodyPost_row Tryd.results52 rfl (co8_set (Bx.far hR (by simp) _) _ _ _ _ _ _ _ _) co_S' rfl rfl ?_
  refine ⟨ra, rfl, own_less (own_fr hO (by (repeat (first | with_reducible exact Fr.refl _ _ | with_reducible assumption | with_reducible refine Fr.set ?_ (.inr (by first | (simp; done) | (simp; omega))) _)))) (by omega), by (repeat (first | with_reducible exact X.refl _ | with_reducible assumption | with_reducible refine X.setCell ?_ (by first | (simp; done) | (simp; omega)) _ | with_reducible refine X.ext ?_ _ | with_reducible refine X.alloc ?_ _ | with_reducible refine X.drew ?_))⟩

end Go.Proofs.YtjlooplpjliaiaaDoor
