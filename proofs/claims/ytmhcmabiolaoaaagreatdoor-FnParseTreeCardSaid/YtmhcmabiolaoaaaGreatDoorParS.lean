/- Reading numbers, statements and the place of a file, the reference's: the walks. No condition but lengths. -/
import Derived.Test.YtmhcmabiolaoaaaGreatDoorParQ
import Derived.Test.YtmhcmabiolaoaaaGreatDoorParK
import Derived.Test.YtmhcmabiolaoaaaGreatDoorFmtS
import Derived.IntWalk
namespace Go.Proofs.YtmhcmabiolaoaaaGreatDoor
open Go.RowKit

set_option maxRecDepth 100000 in
set_option maxHeartbeats 1000000 in
theorem readNumber_c (s : List UInt8) (w : World) (hs : s.length ≤ 4194304) : Calls Tryz.prog 66 #[.string ⟨(s).toArray⟩] w fun e w' => e = .returned (.int .i64 (numS s)) ∧ w = w' := by
  obtain ⟨r, hr⟩ : ∃ r, numS s = r := ⟨_, rfl⟩
  rw [hr]
  have Hr := Lib.hid hr
  clear hr
  go_enter Tryz.func66, Tryz.ntmps66
  go_wp2
  go_loopw [3, 4] (fun n i wr => ∃ (k : Nat) (m : Nat), k ≤ s.length ∧ m ≤ 99 ∧ i = .int .i64 k ∧ n = .int .i64 m ∧ numGo 0 s = numGo (m : Int) (s.drop k) ∧ wr = w) (fun _ i _ => s.length - (intOf i).toNat)
  case atStart => exact ⟨0, 0, by omega, by omega, rfl, rfl, rfl, rfl⟩
  case round =>
    obtain ⟨k, m, hk, hm, rfl, rfl, hg, rfl⟩ := hrel
    have Hg := Lib.hid hg
    clear hg
    by_cases hlt : k < s.length
    · have hbad : (((nth s k).toNat : Int) < 48 ∨ 57 < ((nth s k).toNat : Int) ∨ 9 < (m : Int)) → r = -1 := fun h => by rw [← Hr.out, numS, Hg.out, numGo_bad hlt h]
      by_cases h1 : ((nth s k).toNat : Int) < 48
      · have := hbad (.inl h1)
        subst this
        go_wp2
        go_ret
        exact ⟨rfl, rfl⟩
      by_cases h2 : 57 < ((nth s k).toNat : Int)
      · have := hbad (.inr (.inl h2))
        subst this
        go_wp2
        go_ret
        exact ⟨rfl, rfl⟩
      by_cases h3 : 9 < (m : Int)
      · have := hbad (.inr (.inr h3))
        subst this
        go_wp2
        go_ret
        exact ⟨rfl, rfl⟩
      have Hn := Lib.hid (numGo_next (n := (m : Int)) hlt (by omega) (by omega) (by omega))
      have q1 : IntKind.u8.wrap (((nth s k).toNat : Int) - 48) = ((nth s k).toNat : Int) - 48 := IntWalk.u8_in _ (by omega)
      clear hbad
      go_wp2
      go_roundw
      case rel => exact ⟨k + 1, 10 * m + ((nth s k).toNat - 48), by omega, by omega, by go_num, by go_num, by rw [Hg.out, Hn.out]; congr 1; omega, by trivial⟩
      case measure => simp [intOf]; omega
    · obtain rfl : k = s.length := by omega
      have hgo : numGo 0 s = some (m : Int) := by rw [Hg.out, List.drop_eq_nil_of_le (Nat.le_refl _), numGo]
      have hnum : numS s = if s = [] ∨ s ≠ Lib.decDigits m then -1 else (m : Int) := by rw [numS, hgo]; rfl
      rw [Hr.out] at hnum
      have Hnum := Lib.hid hnum
      clear hnum hgo
      obtain ⟨D, hD⟩ : ∃ D, Lib.decDigits m = D := ⟨_, rfl⟩
      have HD := Lib.hid hD
      clear hD
      cases h1 : (s == [])
      · cases h2 : (s == D)
        · have hv : r = -1 := by rw [Hnum.out, HD.out, if_pos]; exact .inr (by simpa using h2)
          subst hv
          go_wp2_with fail
          refine (number_nat m (by omega) wr).mono ?_
          rintro _ _ ⟨rfl, rfl⟩
          rw [HD.out]
          go_wp2
          go_ret
          exact ⟨rfl, rfl⟩
        · have hv : r = m := by
            rw [Hnum.out, HD.out, if_neg]
            rintro (h | h)
            · rw [h] at h1; simp at h1
            · exact h (by simpa using h2)
          subst hv
          go_wp2_with fail
          refine (number_nat m (by omega) wr).mono ?_
          rintro _ _ ⟨rfl, rfl⟩
          rw [HD.out]
          go_wp2
          go_ret
          exact ⟨rfl, rfl⟩
      · have hv : r = -1 := by rw [Hnum.out, if_pos]; exact .inl (by simpa using h1)
        subst hv
        go_wp2
        go_ret
        exact ⟨rfl, rfl⟩
theorem stmt_Sp : StrT Tryz.prog 53 5 := ⟨⟨_, Tryz.underlying53⟩, by kernel_rfl⟩
theorem fromDash_c (s : List UInt8) (w : World) : Calls Tryz.prog 67 #[.string ⟨(s).toArray⟩] w fun e w' => e = .returned (.string ⟨(undash s).toArray⟩) ∧ w = w' := by
  rw [undash]
  by_cases h : s = [45]
  · subst h
    go_enter Tryz.func67, Tryz.ntmps67
    go_wp2
    go_ret
    exact ⟨rfl, rfl⟩
  · rw [if_neg h]
    have hb : (s == [45]) = false := by simpa using h
    go_enter Tryz.func67, Tryz.ntmps67
    go_wp2
    go_ret
    exact ⟨rfl, rfl⟩
set_option maxRecDepth 100000 in
set_option maxHeartbeats 2000000 in
theorem readStmt_c (ws : List (List UInt8)) (sa : Option Addr) (sn sc B : Nat) (w : World) (hS : StrsAt w B sa sn ws) (h0 : 0 < sn) : Calls Tryz.prog 38 #[.slice sa sn sc] w fun e w' => e = .returned (.agg #[.int .i64 (stS ws).kind, .string ⟨(stS ws).mod.toArray⟩, .int .i64 (stS ws).level, .string ⟨(stS ws).name.toArray⟩, .int .i64 (stS ws).val]) ∧ X w w' := by
  obtain ⟨b, off, rfl, _, hb, c0, _⟩ := hS.at_ h0
  rw [Nat.add_zero] at c0
  have hn := hS.2.1
  have hl : ws.length = sn := hS.1.symm
  have Hl := Lib.hid hl
  have HS := Lib.hid hS
  clear hl hS
  obtain ⟨r, hr⟩ : ∃ r, stS ws = r := ⟨_, rfl⟩
  rw [hr]
  have Hr := Lib.hid hr
  clear hr
  by_cases k1 : nth ws 0 = kImport
  · have c0k := c0
    rw [k1] at c0k
    unfold kImport at c0k
    clear c0
    by_cases hl : sn = 2
    · subst hl
      obtain ⟨_, _, e1, _, _, c1, l1⟩ := HS.out.at_ (k := 1) (by omega)
      cases e1
      have hv : r = ⟨0, nth ws 1, 0, [], 0⟩ := by rw [← Hr.out]; unfold stS; rw [if_pos ⟨k1, Hl.out⟩]
      subst hv
      clear k1
      go_enter Tryz.func38, Tryz.ntmps38
      go_wp2
      refine bodyPost_row Tryz.results38 rfl (Bx.new _ _ _) stmt_Sp rfl rfl ?_
      exact ⟨rfl, by (repeat (first | with_reducible exact X.refl _ | with_reducible assumption | with_reducible refine X.setCell ?_ (by first | (simp; done) | (simp; omega)) _ | with_reducible refine X.ext ?_ _ | with_reducible refine X.alloc ?_ _ | with_reducible refine X.drew ?_))⟩
    · have hv : r = ⟨-1, [], 0, [], 0⟩ := by rw [← Hr.out]; unfold stS; simp [k1, Hl.out, hl, kImport, kFrom, kStar, kSet, kPrint, kFail]
      subst hv
      have hl2 : ((sn : Int) == 2) = false := by simp; omega
      clear k1 hl
      go_enter Tryz.func38, Tryz.ntmps38
      go_wp2
      refine bodyPost_row Tryz.results38 rfl (Bx.new _ _ _) stmt_Sp rfl rfl ?_
      exact ⟨rfl, by (repeat (first | with_reducible exact X.refl _ | with_reducible assumption | with_reducible refine X.setCell ?_ (by first | (simp; done) | (simp; omega)) _ | with_reducible refine X.ext ?_ _ | with_reducible refine X.alloc ?_ _ | with_reducible refine X.drew ?_))⟩
  have q1 : (nth ws 0 == [105, 109, 112, 111, 114, 116]) = false := by unfold kImport at k1; simpa using k1
  by_cases k2 : nth ws 0 = kFrom
  · have c0k := c0
    rw [k2] at c0k
    unfold kFrom at c0k
    clear c0
    by_cases hl : sn = 4
    · subst hl
      obtain ⟨_, _, e1, _, _, c1, l1⟩ := HS.out.at_ (k := 1) (by omega)
      cases e1
      obtain ⟨_, _, e2, _, _, c2, l2⟩ := HS.out.at_ (k := 2) (by omega)
      cases e2
      obtain ⟨_, _, e3, _, _, c3, l3⟩ := HS.out.at_ (k := 3) (by omega)
      cases e3
      have hv : r = ⟨1, undash (nth ws 2), numS (nth ws 1), nth ws 3, 0⟩ := by rw [← Hr.out]; unfold stS; rw [if_neg (fun h => k1 h.1), if_pos ⟨k2, Hl.out⟩]
      subst hv
      clear k1 k2
      go_enter Tryz.func38, Tryz.ntmps38
      go_wp2
      go_region_law (first | (go_simp; go_at_call 66; refine (readNumber_c (nth ws 1) _ l1).mono ?_; rintro _ _ ⟨rfl, rfl⟩) | (go_simp; go_at_call 67; refine (fromDash_c (nth ws 2) _).mono ?_; rintro _ _ ⟨rfl, rfl⟩))
      all_goals
        go_wp2
        refine bodyPost_row Tryz.results38 rfl (Bx.new _ _ _) stmt_Sp rfl rfl ?_
        exact ⟨rfl, by (repeat (first | with_reducible exact X.refl _ | with_reducible assumption | with_reducible refine X.setCell ?_ (by first | (simp; done) | (simp; omega)) _ | with_reducible refine X.ext ?_ _ | with_reducible refine X.alloc ?_ _ | with_reducible refine X.drew ?_))⟩
    · have hv : r = ⟨-1, [], 0, [], 0⟩ := by rw [← Hr.out]; unfold stS; simp [k2, Hl.out, hl, kImport, kFrom, kStar, kSet, kPrint, kFail]
      subst hv
      have hl2 : ((sn : Int) == 4) = false := by simp; omega
      clear k1 k2 hl
      go_enter Tryz.func38, Tryz.ntmps38
      go_wp2
      refine bodyPost_row Tryz.results38 rfl (Bx.new _ _ _) stmt_Sp rfl rfl ?_
      exact ⟨rfl, by (repeat (first | with_reducible exact X.refl _ | with_reducible assumption | with_reducible refine X.setCell ?_ (by first | (simp; done) | (simp; omega)) _ | with_reducible refine X.ext ?_ _ | with_reducible refine X.alloc ?_ _ | with_reducible refine X.drew ?_))⟩
  have q2 : (nth ws 0 == [102, 114, 111, 109]) = false := by unfold kFrom at k2; simpa using k2
  by_cases k3 : nth ws 0 = kStar
  · have c0k := c0
    rw [k3] at c0k
    unfold kStar at c0k
    clear c0
    by_cases hl : sn = 2
    · subst hl
      obtain ⟨_, _, e1, _, _, c1, l1⟩ := HS.out.at_ (k := 1) (by omega)
      cases e1
      have hv : r = ⟨2, nth ws 1, 0, [], 0⟩ := by rw [← Hr.out]; unfold stS; rw [if_neg (fun h => k1 h.1), if_neg (fun h => k2 h.1), if_pos ⟨k3, Hl.out⟩]
      subst hv
      clear k1 k2 k3
      go_enter Tryz.func38, Tryz.ntmps38
      go_wp2
      refine bodyPost_row Tryz.results38 rfl (Bx.new _ _ _) stmt_Sp rfl rfl ?_
      exact ⟨rfl, by (repeat (first | with_reducible exact X.refl _ | with_reducible assumption | with_reducible refine X.setCell ?_ (by first | (simp; done) | (simp; omega)) _ | with_reducible refine X.ext ?_ _ | with_reducible refine X.alloc ?_ _ | with_reducible refine X.drew ?_))⟩
    · have hv : r = ⟨-1, [], 0, [], 0⟩ := by rw [← Hr.out]; unfold stS; simp [k3, Hl.out, hl, kImport, kFrom, kStar, kSet, kPrint, kFail]
      subst hv
      have hl2 : ((sn : Int) == 2) = false := by simp; omega
      clear k1 k2 k3 hl
      go_enter Tryz.func38, Tryz.ntmps38
      go_wp2
      refine bodyPost_row Tryz.results38 rfl (Bx.new _ _ _) stmt_Sp rfl rfl ?_
      exact ⟨rfl, by (repeat (first | with_reducible exact X.refl _ | with_reducible assumption | with_reducible refine X.setCell ?_ (by first | (simp; done) | (simp; omega)) _ | with_reducible refine X.ext ?_ _ | with_reducible refine X.alloc ?_ _ | with_reducible refine X.drew ?_))⟩
  have q3 : (nth ws 0 == [115, 116, 97, 114]) = false := by unfold kStar at k3; simpa using k3
  by_cases k4 : nth ws 0 = kSet
  · have c0k := c0
    rw [k4] at c0k
    unfold kSet at c0k
    clear c0
    by_cases hl : sn = 3
    · subst hl
      obtain ⟨_, _, e1, _, _, c1, l1⟩ := HS.out.at_ (k := 1) (by omega)
      cases e1
      obtain ⟨_, _, e2, _, _, c2, l2⟩ := HS.out.at_ (k := 2) (by omega)
      cases e2
      have hv : r = ⟨3, [], 0, nth ws 1, numS (nth ws 2)⟩ := by rw [← Hr.out]; unfold stS; rw [if_neg (fun h => k1 h.1), if_neg (fun h => k2 h.1), if_neg (fun h => k3 h.1), if_pos ⟨k4, Hl.out⟩]
      subst hv
      clear k1 k2 k3 k4
      go_enter Tryz.func38, Tryz.ntmps38
      go_wp2
      go_region_law ((go_simp; go_at_call 66; refine (readNumber_c (nth ws 2) _ l2).mono ?_; rintro _ _ ⟨rfl, rfl⟩))
      all_goals
        go_wp2
        refine bodyPost_row Tryz.results38 rfl (Bx.new _ _ _) stmt_Sp rfl rfl ?_
        exact ⟨rfl, by (repeat (first | with_reducible exact X.refl _ | with_reducible assumption | with_reducible refine X.setCell ?_ (by first | (simp; done) | (simp; omega)) _ | with_reducible refine X.ext ?_ _ | with_reducible refine X.alloc ?_ _ | with_reducible refine X.drew ?_))⟩
    · have hv : r = ⟨-1, [], 0, [], 0⟩ := by rw [← Hr.out]; unfold stS; simp [k4, Hl.out, hl, kImport, kFrom, kStar, kSet, kPrint, kFail]
      subst hv
      have hl2 : ((sn : Int) == 3) = false := by simp; omega
      clear k1 k2 k3 k4 hl
      go_enter Tryz.func38, Tryz.ntmps38
      go_wp2
      refine bodyPost_row Tryz.results38 rfl (Bx.new _ _ _) stmt_Sp rfl rfl ?_
      exact ⟨rfl, by (repeat (first | with_reducible exact X.refl _ | with_reducible assumption | with_reducible refine X.setCell ?_ (by first | (simp; done) | (simp; omega)) _ | with_reducible refine X.ext ?_ _ | with_reducible refine X.alloc ?_ _ | with_reducible refine X.drew ?_))⟩
  have q4 : (nth ws 0 == [115, 101, 116]) = false := by unfold kSet at k4; simpa using k4
  by_cases k5 : nth ws 0 = kPrint
  · have c0k := c0
    rw [k5] at c0k
    unfold kPrint at c0k
    clear c0
    by_cases hl : sn = 2
    · subst hl
      obtain ⟨_, _, e1, _, _, c1, l1⟩ := HS.out.at_ (k := 1) (by omega)
      cases e1
      have hv : r = ⟨4, [], 0, nth ws 1, 0⟩ := by rw [← Hr.out]; unfold stS; rw [if_neg (fun h => k1 h.1), if_neg (fun h => k2 h.1), if_neg (fun h => k3 h.1), if_neg (fun h => k4 h.1), if_pos ⟨k5, Hl.out⟩]
      subst hv
      clear k1 k2 k3 k4 k5
      go_enter Tryz.func38, Tryz.ntmps38
      go_wp2
      refine bodyPost_row Tryz.results38 rfl (Bx.new _ _ _) stmt_Sp rfl rfl ?_
      exact ⟨rfl, by (repeat (first | with_reducible exact X.refl _ | with_reducible assumption | with_reducible refine X.setCell ?_ (by first | (simp; done) | (simp; omega)) _ | with_reducible refine X.ext ?_ _ | with_reducible refine X.alloc ?_ _ | with_reducible refine X.drew ?_))⟩
    · have hv : r = ⟨-1, [], 0, [], 0⟩ := by rw [← Hr.out]; unfold stS; simp [k5, Hl.out, hl, kImport, kFrom, kStar, kSet, kPrint, kFail]
      subst hv
      have hl2 : ((sn : Int) == 2) = false := by simp; omega
      clear k1 k2 k3 k4 k5 hl
      go_enter Tryz.func38, Tryz.ntmps38
      go_wp2
      refine bodyPost_row Tryz.results38 rfl (Bx.new _ _ _) stmt_Sp rfl rfl ?_
      exact ⟨rfl, by (repeat (first | with_reducible exact X.refl _ | with_reducible assumption | with_reducible refine X.setCell ?_ (by first | (simp; done) | (simp; omega)) _ | with_reducible refine X.ext ?_ _ | with_reducible refine X.alloc ?_ _ | with_reducible refine X.drew ?_))⟩
  have q5 : (nth ws 0 == [112, 114, 105, 110, 116]) = false := by unfold kPrint at k5; simpa using k5
  by_cases k6 : nth ws 0 = kFail
  · have c0k := c0
    rw [k6] at c0k
    unfold kFail at c0k
    clear c0
    by_cases hl : sn = 1
    · subst hl
      have hv : r = ⟨5, [], 0, [], 0⟩ := by rw [← Hr.out]; unfold stS; rw [if_neg (fun h => k1 h.1), if_neg (fun h => k2 h.1), if_neg (fun h => k3 h.1), if_neg (fun h => k4 h.1), if_neg (fun h => k5 h.1), if_pos ⟨k6, Hl.out⟩]
      subst hv
      clear k1 k2 k3 k4 k5 k6
      go_enter Tryz.func38, Tryz.ntmps38
      go_wp2
      refine bodyPost_row Tryz.results38 rfl (Bx.new _ _ _) stmt_Sp rfl rfl ?_
      exact ⟨rfl, by (repeat (first | with_reducible exact X.refl _ | with_reducible assumption | with_reducible refine X.setCell ?_ (by first | (simp; done) | (simp; omega)) _ | with_reducible refine X.ext ?_ _ | with_reducible refine X.alloc ?_ _ | with_reducible refine X.drew ?_))⟩
    · have hv : r = ⟨-1, [], 0, [], 0⟩ := by rw [← Hr.out]; unfold stS; simp [k6, Hl.out, hl, kImport, kFrom, kStar, kSet, kPrint, kFail]
      subst hv
      have hl2 : ((sn : Int) == 1) = false := by simp; omega
      clear k1 k2 k3 k4 k5 k6 hl
      go_enter Tryz.func38, Tryz.ntmps38
      go_wp2
      refine bodyPost_row Tryz.results38 rfl (Bx.new _ _ _) stmt_Sp rfl rfl ?_
      exact ⟨rfl, by (repeat (first | with_reducible exact X.refl _ | with_reducible assumption | with_reducible refine X.setCell ?_ (by first | (simp; done) | (simp; omega)) _ | with_reducible refine X.ext ?_ _ | with_reducible refine X.alloc ?_ _ | with_reducible refine X.drew ?_))⟩
  have q6 : (nth ws 0 == [102, 97, 105, 108]) = false := by unfold kFail at k6; simpa using k6
  have hv : r = ⟨-1, [], 0, [], 0⟩ := by rw [← Hr.out]; unfold stS; simp [k1, k2, k3, k4, k5, k6]
  subst hv
  clear k1 k2 k3 k4 k5 k6
  go_enter Tryz.func38, Tryz.ntmps38
  go_wp2
  refine bodyPost_row Tryz.results38 rfl (Bx.new _ _ _) stmt_Sp rfl rfl ?_
  exact ⟨rfl, by (repeat (first | with_reducible exact X.refl _ | with_reducible assumption | with_reducible refine X.setCell ?_ (by first | (simp; done) | (simp; omega)) _ | with_reducible refine X.ext ?_ _ | with_reducible refine X.alloc ?_ _ | with_reducible refine X.drew ?_))⟩

end Go.Proofs.YtmhcmabiolaoaaaGreatDoor
