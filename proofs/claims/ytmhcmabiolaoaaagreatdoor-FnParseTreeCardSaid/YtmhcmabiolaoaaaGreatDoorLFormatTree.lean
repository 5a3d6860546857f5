/- The walk of the law FnFormatTree. -/
import Derived.Test.YtmhcmabiolaoaaaGreatDoorLExParseTree
import Derived.Test.YtmhcmabiolaoaaaGreatDoorDrawMods
import Derived.Test.YtmhcmabiolaoaaaGreatDoorEqTr
namespace Go.Proofs.YtmhcmabiolaoaaaGreatDoor
open Go.RowKit

theorem nlN_next {s : List UInt8} {k : Nat} (hk : k < s.length) : nlN (s.take (k + 1)) = nlN (s.take k) + if nth s k = 10 then 1 else 0 := by
  unfold nlN
  rw [take_succ_nth hk, List.countP_append, List.countP_singleton]
  by_cases h : nth s k = 10 <;> simp [h]
theorem nlN_le (s : List UInt8) : nlN s ≤ s.length := List.countP_le_length
set_option maxRecDepth 100000 in
theorem newlines_c (s : List UInt8) (w : World) (hs : s.length ≤ 1048576) : Calls Tryz.prog 16 #[.string ⟨(s).toArray⟩] w fun e w' => e = .returned (.int .i64 (nlN s : Int)) ∧ w = w' := by
  have Hn := Lib.hid (fun k hk => @nlN_next s k hk)
  have Hl := Lib.hid (fun k => Nat.le_trans (nlN_le (s.take k)) (List.length_take_le k s))
  go_enter Tryz.func16, Tryz.ntmps16
  go_wp2
  go_loopw [3, 4] (fun v i wr => ∃ k m : Nat, k ≤ s.length ∧ i = .int .i64 k ∧ v = .int .i64 (m : Int) ∧ m ≤ k ∧ m = nlN (s.take k) ∧ wr = w) (fun _ i _ => s.length - (intOf i).toNat)
  case atStart => exact ⟨0, 0, by omega, rfl, rfl, by omega, rfl, rfl⟩
  case round =>
    obtain ⟨k, m, hk, rfl, rfl, hmk, hm, rfl⟩ := hrel
    have Hm := Lib.hid hm
    clear hm
    by_cases hlt : k < s.length
    · cases hc : ((nth s k).toNat : Int) == 10
      · have hc' : ¬ nth s k = 10 := by rintro h; rw [h] at hc; simp at hc
        have hx : m = nlN (s.take (k + 1)) := by rw [Hn.out k hlt, if_neg hc', Hm.out, Nat.add_zero]
        have Hx := Lib.hid hx
        clear hx hc'
        go_wp2
        go_roundw
        case rel => exact ⟨k + 1, m, by omega, by go_num, rfl, by omega, Hx.out, by trivial⟩
        case measure => simp [intOf]; omega
      · have hc' : nth s k = 10 := by have := beq_iff_eq.1 hc; exact UInt8.toNat_inj.1 (by show _ = 10; omega)
        have hx : m + 1 = nlN (s.take (k + 1)) := by rw [Hn.out k hlt, if_pos hc', Hm.out]
        have Hx := Lib.hid hx
        clear hx hc'
        go_wp2
        go_roundw
        case rel => exact ⟨k + 1, m + 1, by omega, by go_num, by go_num, by omega, Hx.out, by trivial⟩
        case measure => simp [intOf]; omega
    · obtain rfl : k = s.length := by omega
      have hx : (m : Int) = (nlN s : Int) := by rw [Hm.out, List.take_length]
      have Hx := Lib.hid hx
      clear hx
      go_wp2
      go_ret
      exact ⟨by rw [← Hx.out]; rfl, by trivial⟩
/-- How many statements the first k files have. -/
def stN (l : List Fi) (k : Nat) : Nat := ((l.take k).map fun f => f.body.length).sum
theorem stN_next {l : List Fi} {k : Nat} (hk : k < l.length) : stN l (k + 1) = stN l k + (nth l k).body.length := by
  unfold stN
  rw [take_succ_nth hk, List.map_append, List.sum_append]
  simp
theorem sum_one : ∀ l : List Fi, (l.map fun f => 1 + f.body.length).sum = l.length + (l.map fun f => f.body.length).sum
  | [] => rfl
  | f :: l => by
    rw [List.map_cons, List.sum_cons, sum_one l, List.map_cons, List.sum_cons, List.length_cons]
    omega
theorem bxCf {w : World} {b : Nat} {v : Value} (h : Bx w b #[v]) : w.cell? ⟨b, 0, none⟩ = some v := h.out.2.1 0
set_option maxRecDepth 100000 in
set_option maxHeartbeats 2000000 in
theorem FnFormatTree_c (ca : Option Addr) (cn cc : Nat) (w : World) (hC : CodeAt w ca cn cc) (hG : Gm w) (hE : Es w) :
    Calls Tryz.prog 4 #[.slice ca cn cc] w fun e w' => e = .returned (.bool true) ∧ X w w' := by
  by_cases hbig : 1048576 < cn
  · go_enter Tryz.func4, Tryz.ntmps4
    go_wp2
    go_ret
    exact ⟨by simp, by (repeat (first | exact X.refl _ | assumption | refine X.ext ?_ _ | refine X.alloc ?_ _ | refine X.drew ?_))⟩
  · go_enter Tryz.func4, Tryz.ntmps4
    go_wp2_with fail
    refine (DrawFormatTree_c ca cn cc _ hC (by omega)).mono ?_
    rintro _ W1 ⟨l, a, n, c, rfl, hF, hnc, hn11, hx1⟩
    go_wp2_with fail
    refine calls_name (fun W2 hW2 => ?_)
    have hB2 : Bx W2 W1.heap.size #[.slice a n c] := by rw [hW2]; first | exact Bx.new _ _ _ | exact Bx.set (Bx.new _ _ _) 0 _
    have hp2 : X W1 W2 := by rw [hW2]; (repeat (first | with_reducible exact X.refl _ | with_reducible assumption | with_reducible refine X.setCell ?_ (by first | (simp; done) | (simp; omega)) _ | with_reducible refine X.ext ?_ _ | with_reducible refine X.alloc ?_ _ | with_reducible refine X.drew ?_))
    clear hW2
    replace hF := hF.mono (hp2.fr _)
    have hX2 : X w W2 := hx1.trans hp2
    clear hx1 hp2
    refine (FormatTree_i l a n c _ W2 hF hnc (hG.mono hX2)).mono ?_
    rintro _ W3 ⟨rfl, hx3⟩
    have okl := hF.okL
    have Hl := Lib.hid hF.len.1
    obtain ⟨D, hD⟩ : ∃ D, fmtV l = D := ⟨_, rfl⟩
    rw [hD]
    have t3 := bxCf (hB2.x hx3)
    have l3 := (hB2.x hx3).lt
    have HD := Lib.hid hD
    clear hD
    go_wp2_with fail
    refine (FormatTree_s l a n c _ W3 (hF.mono (hx3.fr _))).mono ?_
    rw [HD.out]
    rintro _ W4 ⟨rfl, hx4⟩
    clear t3 l3
    have hX4 := hx3.trans hx4
    have t4 := bxCf (hB2.x hX4)
    have l4 := (hB2.x hX4).lt
    go_wp2_with fail
    refine (ValidTree_c l a n c _ W4 (hF.mono (hX4.fr _)) hnc (hG.mono (hX2.trans hX4))).mono ?_
    rintro _ W5 ⟨rfl, hx5⟩
    clear t4 l4
    have hX5 := hX4.trans hx5
    have t5 := bxCf (hB2.x hX5)
    have l5 := (hB2.x hX5).lt
    cases ht : treeB l
    · go_wp2_with fail
      refine (FormatTree_s l a n c _ W5 (hF.mono (hX5.fr _))).mono ?_
      rw [HD.out]
      rintro _ W6 ⟨rfl, hx6⟩
      go_wp2
      go_ret
      exact ⟨by simp, (hX2.trans hX5).trans hx6⟩
    · have hDt : D = fmtT l := by rw [← HD.out, fmtV, if_pos ht]
      have hDl : D.length ≤ 1048576 := by
        rw [hDt]
        have := fmtT_len (treeB_all ht)
        have := hF.len.1
        omega
      obtain ⟨hok, hpar⟩ := par_fmt ht
      rw [← hDt] at hok hpar
      have hnl : nlN D = n + stN l n := by
        rw [hDt, nl_fmt ht, sum_one, ← Hl.out, stN, List.take_of_length_le (by rw [← Hl.out]; omega)]
      have Hnl := Lib.hid hnl
      have hPT := fun w hG hE => ParseTree_i D w hDl hG hE
      rw [hok, hpar] at hPT
      have hNL := newlines_c D
      have Hst := Lib.hid (fun k hk => @stN_next l k hk)
      clear hDt hok hpar hnl
      simp only [← Hl.out] at hPT
      go_wp2
      go_loopw [5, 6] (fun v i wr => ∃ k q : Nat, k ≤ n ∧ i = .int .i64 k ∧ v = .int .i64 ((n + q : Nat) : Int) ∧ q ≤ k * 2097152 ∧ q = stN l k ∧ wr = W5) (fun _ i _ => n - (intOf i).toNat)
      case atStart => exact ⟨0, 0, Nat.zero_le _, rfl, rfl, Nat.zero_le _, rfl, rfl⟩
      case round =>
        obtain ⟨k, q, hk, rfl, rfl, hqk, hq, rfl⟩ := hrel
        have Hq := Lib.hid hq
        clear hq
        by_cases hlt : k < n
        · obtain ⟨b, off, ba, bn, bc, rfl, _, hb, hok, hbc, hSb, g0, g1, g2, g3, g4, g5⟩ := (hF.mono (hX5.fr _)).at_ hlt
          have hbn := hSb.2.1
          have hx : q + bn = stN l (k + 1) := by rw [Hst.out k (by rw [← Hl.out]; exact hlt), Hq.out, hSb.1]
          have Hx := Lib.hid hx
          clear hx
          go_wp2
          go_roundw
          case rel => exact ⟨k + 1, q + bn, by omega, by go_num, by go_num, by omega, Hx.out, by trivial⟩
          case measure => simp [intOf]; omega
        · obtain rfl : k = n := by omega
          have hqn : ((k + q : Nat) : Int) = (nlN D : Int) := by rw [Hnl.out, ← Hq.out]
          have Hqn := Lib.hid hqn
          clear hqn
          obtain ⟨N, hN⟩ : ∃ N : Int, N = ((k + q : Nat) : Int) := ⟨_, rfl⟩
          rw [← hN]
          have HN := Lib.hid hN
          clear hN
          go_wp2_with fail
          refine (hPT wr (hG.mono (hX2.trans hX5)) (hE.mono (hX2.trans hX5))).mono ?_
          rintro _ W7 ⟨ra, rc, rfl, hO7, hx7⟩
          have hA7 := hO7.at okl
          clear t5 l5
          have hX7 := hX5.trans hx7
          have t7 := bxCf (hB2.x hX7)
          have l7 := (hB2.x hX7).lt
          go_wp2_with fail
          refine calls_name (fun W8 hW8 => ?_)
          have hp8 : X W7 W8 := by rw [hW8]; (repeat (first | with_reducible exact X.refl _ | with_reducible assumption | with_reducible refine X.setCell ?_ (by first | (simp; done) | (simp; omega)) _ | with_reducible refine X.ext ?_ _ | with_reducible refine X.alloc ?_ _ | with_reducible refine X.drew ?_))
          clear hW8
          refine (equalTree_c l l ra a k k rc c _ _ W8 (hA7.mono (hp8.fr _)) (hF.mono (X.fr (hX7.trans hp8) _))).mono ?_
          rintro _ W9 ⟨rfl, hx9⟩
          rw [decide_eq_true (rfl : l = l)]
          go_wp2_with fail
          refine (hNL W9 hDl).mono ?_
          rintro _ _ ⟨rfl, rfl⟩
          rw [← Hqn.out, ← HN.out]
          go_wp2
          go_ret
          exact ⟨by simp, ((hX2.trans hX7).trans hp8).trans hx9⟩

end Go.Proofs.YtmhcmabiolaoaaaGreatDoor
