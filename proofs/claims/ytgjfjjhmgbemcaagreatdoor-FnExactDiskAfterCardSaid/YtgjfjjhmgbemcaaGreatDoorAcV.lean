/- Whether acts are valid, both sides: the walks. No condition but lengths. -/
import Derived.Test.YtgjfjjhmgbemcaaGreatDoorAfterLaw
import Derived.Test.YtgjfjjhmgbemcaaGreatDoorIb
import Derived.Deep.CutRange
namespace Go.Proofs.YtgjfjjhmgbemcaaGreatDoor
open Go.RowKit

def actsB (l : List Ac) : Bool := allN (fun k => actB (nth l k)) l.length && decide ((l.length : Int) ≤ 20)
set_option maxRecDepth 100000 in
set_option maxHeartbeats 4000000 in
theorem validActs_s (l : List Ac) (a : Option Addr) (n c B : Nat) (w : World) (hA : ActsAt w B a n l) :
    Calls Tryz.prog 59 #[.slice a n c] w fun e w' => e = .returned (.bool (actsB l)) ∧ X w w' := by
  obtain ⟨hl, hn⟩ := hA.len
  have Hn := Lib.hid hl.symm
  clear hl
  go_enter Tryz.func59, Tryz.ntmps59
  go_wp2
  go_loopw [3, 4] (fun i _ wr => ∃ k : Nat, k ≤ n ∧ i = .int .i64 k ∧ allN (fun k => actB (nth l k)) k = true ∧ X w wr) (fun i _ _ => n - (intOf i).toNat)
  case atStart => exact ⟨0, by omega, rfl, rfl, X.refl _⟩
  case round =>
    obtain ⟨k, hk, rfl, hall, hX⟩ := hrel
    by_cases hlt : k < n
    · obtain ⟨b, off, ba, bn, bc, rfl, _, hb, hok, _, hS, g0, g1, g2, g3, g4, g5, g6, g7, g8⟩ := (hA.mono (hX.fr _)).at_ hlt
      have hk1 : (k : Int) < (n : Int) := by omega
      have hnl := hok.2
      go_upto_region 5 with fail
      refine wp_name (fun W9 hW9 => ?_)
      have hB9 : Bx W9 wr.heap.size (#[.int .i64 ((nth l k)).kind, .int .i64 ((nth l k)).file.root, .string ⟨((nth l k)).file.pkg.toArray⟩, .string ⟨((nth l k)).file.name.toArray⟩, .bool ((nth l k)).file.init, .int .i64 ((nth l k)).file.stamp, .slice ba bn bc, .int .i64 ((nth l k)).idx, .string ⟨((nth l k)).name.toArray⟩]) := by rw [hW9]; exact Bx.new _ _ _
      have hx9 : X wr W9 := by rw [hW9]; (repeat (first | with_reducible exact X.refl _ | with_reducible assumption | with_reducible refine X.setCell ?_ (by first | (simp; done) | (simp; omega)) _ | with_reducible refine X.ext ?_ _ | with_reducible refine X.alloc ?_ _ | with_reducible refine X.drew ?_))
      clear hW9 g0 g1 g2 g3 g4 g5 g6 g7 g8
      have hX9 := hX.trans hx9
      have hS9 := hS.mono (hx9.fr _)
      obtain ⟨ltb, cb, _⟩ := hB9.out
      have c0 := cb 0
      have c1 := cb 1
      have c2 := cb 2
      have c3 := cb 3
      have c4 := cb 4
      have c5 := cb 5
      have c6 := cb 6
      have c7 := cb 7
      have c8 := cb 8
      clear cb hB9
      by_cases h0 : (nth l k).kind = 0
      · have hab : actB (nth l k) = fileB (nth l k).file := by unfold actB; rw [if_pos h0]
        cases hv : fileB (nth l k).file
        all_goals
          rw [hv] at hab
          go_wp2_with ((go_at_call 114; refine (validFile_c (nth l k).file ba bn bc B _ hok.1 hS9).mono ?_; rintro _ w3 ⟨rfl, hx3⟩); rw [hv])
        · go_ret
          exact ⟨ret_bool (by rw [actsB, Hn.out, allN_not (k := k) hab hlt]; rfl), hX9.trans hx3⟩
        · go_roundw
          case rel => exact ⟨k + 1, by omega, by go_num, allN_next hall hab, hX9.trans hx3⟩
          case measure => simp [intOf]; omega
      by_cases h1 : (nth l k).kind = 1
      · have hab : actB (nth l k) = true := by unfold actB; rw [if_neg h0, if_pos h1]
        go_wp2
        go_roundw
        case rel => exact ⟨k + 1, by omega, by go_num, allN_next hall hab, hX9⟩
        case measure => simp [intOf]; omega
      by_cases h2 : (nth l k).kind = 2
      · have hab : actB (nth l k) = bodyB (nth l k).file.body := by unfold actB; rw [if_neg h0, if_neg h1, if_pos h2]
        cases hv : bodyB (nth l k).file.body
        all_goals
          rw [hv] at hab
          go_wp2_with ((go_at_call 115; refine (validBody_c (nth l k).file.body ba bn bc B _ hS9).mono ?_; rintro _ w3 ⟨rfl, hx3⟩); rw [hv])
        · go_ret
          exact ⟨ret_bool (by rw [actsB, Hn.out, allN_not (k := k) hab hlt]; rfl), hX9.trans hx3⟩
        · go_roundw
          case rel => exact ⟨k + 1, by omega, by go_num, allN_next hall hab, hX9.trans hx3⟩
          case measure => simp [intOf]; omega
      by_cases h3 : (nth l k).kind = 3
      · have hab : actB (nth l k) = nameB (nth l k).name := by unfold actB; rw [if_neg h0, if_neg h1, if_neg h2, if_pos h3]
        cases hv : nameB (nth l k).name
        all_goals
          rw [hv] at hab
          go_wp2_with ((go_at_call 116; refine (validName_c (nth l k).name _ (by omega)).mono ?_; rintro _ w3 ⟨rfl, hx3⟩); rw [hv])
        · go_ret
          exact ⟨ret_bool (by rw [actsB, Hn.out, allN_not (k := k) hab hlt]; rfl), hX9.trans hx3⟩
        · go_roundw
          case rel => exact ⟨k + 1, by omega, by go_num, allN_next hall hab, hX9.trans hx3⟩
          case measure => simp [intOf]; omega
      · have hab : actB (nth l k) = false := by unfold actB; rw [if_neg h0, if_neg h1, if_neg h2, if_neg h3]
        go_wp2
        go_ret
        exact ⟨ret_bool (by rw [actsB, Hn.out, allN_not (k := k) hab hlt]; rfl), hX9⟩
    · obtain rfl : k = n := by omega
      go_wp2
      go_ret
      exact ⟨ret_bool (by rw [actsB, Hn.out, hall, Bool.true_and]), hX⟩
set_option maxRecDepth 100000 in
set_option maxHeartbeats 4000000 in
theorem ValidActs_i (l : List Ac) (a : Option Addr) (n c B : Nat) (w : World) (hA : ActsAt w B a n l) (hG : Gm w) :
    Calls Tryz.prog 34 #[.slice a n c] w fun e w' => e = .returned (.bool (actsB l)) ∧ X w w' := by
  obtain ⟨hl, hn⟩ := hA.len
  have Hn := Lib.hid hl.symm
  clear hl
  go_enter Tryz.func34, Tryz.ntmps34
  go_wp2
  go_loopw [4, 5, 8] (fun _ _ i wr => ∃ k : Nat, k ≤ n ∧ i = .int .i64 k ∧ allN (fun k => actB (nth l k)) k = true ∧ X w wr) (fun _ _ i _ => n - (intOf i).toNat)
  case atStart => exact ⟨0, by omega, rfl, rfl, X.refl _⟩
  case round =>
    obtain ⟨k, hk, rfl, hall, hX⟩ := hrel
    by_cases hlt : k < n
    · obtain ⟨b, off, ba, bn, bc, rfl, _, hb, hok, _, hS, g0, g1, g2, g3, g4, g5, g6, g7, g8⟩ := (hA.mono (hX.fr _)).at_ hlt
      have hk1 : (k : Int) < (n : Int) := by omega
      have hnl := hok.2
      go_upto_region 5 with fail
      refine wp_name (fun W9 hW9 => ?_)
      have hB9 : Bx W9 wr.heap.size (#[.int .i64 ((nth l k)).kind, .int .i64 ((nth l k)).file.root, .string ⟨((nth l k)).file.pkg.toArray⟩, .string ⟨((nth l k)).file.name.toArray⟩, .bool ((nth l k)).file.init, .int .i64 ((nth l k)).file.stamp, .slice ba bn bc, .int .i64 ((nth l k)).idx, .string ⟨((nth l k)).name.toArray⟩]) := by rw [hW9]; exact Bx.new _ _ _
      have hx9 : X wr W9 := by rw [hW9]; (repeat (first | with_reducible exact X.refl _ | with_reducible assumption | with_reducible refine X.setCell ?_ (by first | (simp; done) | (simp; omega)) _ | with_reducible refine X.ext ?_ _ | with_reducible refine X.alloc ?_ _ | with_reducible refine X.drew ?_))
      clear hW9 g0 g1 g2 g3 g4 g5 g6 g7 g8
      have hX9 := hX.trans hx9
      have hS9 := hS.mono (hx9.fr _)
      have hG9 := hG.mono hX9
      obtain ⟨ltb, cb, _⟩ := hB9.out
      have c0 := cb 0
      have c1 := cb 1
      have c2 := cb 2
      have c3 := cb 3
      have c4 := cb 4
      have c5 := cb 5
      have c6 := cb 6
      have c7 := cb 7
      have c8 := cb 8
      clear cb hB9
      by_cases h0 : (nth l k).kind = 0
      · have hab : actB (nth l k) = fileB (nth l k).file := by unfold actB; rw [if_pos h0]
        cases hv : fileB (nth l k).file
        all_goals
          rw [hv] at hab
          go_wp2_with ((go_at_call 84; refine (fileOk_c (nth l k).file ba bn bc B _ hok.1 hS9 hG9).mono ?_; rintro _ w3 ⟨rfl, hx3⟩); rw [hv])
        · go_ret
          exact ⟨ret_bool (by rw [actsB, Hn.out, allN_not (k := k) hab hlt]; rfl), hX9.trans hx3⟩
        · go_roundw
          case rel => exact ⟨k + 1, by omega, by go_num, allN_next hall hab, hX9.trans hx3⟩
          case measure => simp [intOf]; omega
      by_cases h1 : (nth l k).kind = 1
      · have hab : actB (nth l k) = true := by unfold actB; rw [if_neg h0, if_pos h1]
        go_wp2
        go_roundw
        case rel => exact ⟨k + 1, by omega, by go_num, allN_next hall hab, hX9⟩
        case measure => simp [intOf]; omega
      by_cases h2 : (nth l k).kind = 2
      · have hab : actB (nth l k) = bodyB (nth l k).file.body := by unfold actB; rw [if_neg h0, if_neg h1, if_pos h2]
        cases hv : bodyB (nth l k).file.body
        all_goals
          rw [hv] at hab
          go_wp2_with ((go_at_call 85; refine (ValidBody_c (nth l k).file.body ba bn bc B _ hS9 hG9).mono ?_; rintro _ w3 ⟨rfl, hx3⟩); rw [hv])
        · go_ret
          exact ⟨ret_bool (by rw [actsB, Hn.out, allN_not (k := k) hab hlt]; rfl), hX9.trans hx3⟩
        · go_roundw
          case rel => exact ⟨k + 1, by omega, by go_num, allN_next hall hab, hX9.trans hx3⟩
          case measure => simp [intOf]; omega
      by_cases h3 : (nth l k).kind = 3
      · have hab : actB (nth l k) = nameB (nth l k).name := by unfold actB; rw [if_neg h0, if_neg h1, if_neg h2, if_pos h3]
        cases hv : nameB (nth l k).name
        all_goals
          rw [hv] at hab
          go_wp2_with ((go_at_call 77; refine (ValidName_c (nth l k).name _ (by omega) hG9).mono ?_; rintro _ w3 ⟨rfl, hx3⟩); rw [hv])
        · go_ret
          exact ⟨ret_bool (by rw [actsB, Hn.out, allN_not (k := k) hab hlt]; rfl), hX9.trans hx3⟩
        · go_roundw
          case rel => exact ⟨k + 1, by omega, by go_num, allN_next hall hab, hX9.trans hx3⟩
          case measure => simp [intOf]; omega
      · have hab : actB (nth l k) = false := by unfold actB; rw [if_neg h0, if_neg h1, if_neg h2, if_neg h3]
        go_wp2
        go_ret
        exact ⟨ret_bool (by rw [actsB, Hn.out, allN_not (k := k) hab hlt]; rfl), hX9⟩
    · obtain rfl : k = n := by omega
      go_wp2
      go_ret
      exact ⟨ret_bool (by rw [actsB, Hn.out, hall, Bool.true_and]), hX⟩

end Go.Proofs.YtgjfjjhmgbemcaaGreatDoor
