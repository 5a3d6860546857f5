/- The laws' own marks: the walks. No condition but sizes. -/
import Derived.Test.YtjlooplpjliaiaaDoorToT
import Derived.IntWalk
import Derived.Laws.BytesArg
namespace Go.Proofs.YtjlooplpjliaiaaDoor
open Go.RowKit

theorem ret_strW {a b : ByteArray} (h : a = b) : Ending.returned (.string a) = .returned (.string b) := by rw [h]
theorem ba_app (l m : List UInt8) : (⟨l.toArray⟩ : ByteArray) ++ ⟨m.toArray⟩ = ⟨(l ++ m).toArray⟩ := by
  apply ByteArray.ext
  simp
theorem one_byte (j : Nat) (wr : World) : (convert 92 9 (.slice (some ⟨wr.heap.size, 0, none⟩) 1 1)).run Tryd.prog (wr.alloc (.cells #[.int .u8 (48 + (j : Int) % 10)] 5)) =
    .ok (.string ⟨#[UInt8.ofNat (48 + j % 10)]⟩) (wr.alloc (.cells #[.int .u8 (48 + (j : Int) % 10)] 5)) := by
  have h := run_convert_bytes_arg (P := Tryd.prog) (wr.alloc (.cells #[.int .u8 (48 + (j : Int) % 10)] 5)) 92 5 Tryd.underlying92 Tryd.underlying5 wr.heap.size 0 1 1 [48 + (j : Int) % 10] rfl (fun i hi => by
    obtain rfl : i = 0 := by omega
    rw [Nat.add_zero, World.cell?_alloc_new]
    rfl) 9 Tryd.underlying9
  rw [h]
  congr 2

set_option maxRecDepth 100000 in
set_option maxHeartbeats 1000000 in
theorem markText_c (k : Nat) (w : World) (hk : k ≤ 1099511627776) :
    Calls Tryd.prog 45 #[.int .i64 (k : Int)] w fun e w' => e = .returned (.string ⟨(mtxt k).toArray⟩) ∧ X w w' := by
  by_cases h0 : k = 0
  · subst h0
    go_enter Tryd.func45, Tryd.ntmps45
    go_wp2
    go_ret
    exact ⟨rfl, by (repeat (first | with_reducible exact X.refl _ | with_reducible assumption | with_reducible refine X.setCell ?_ (by first | (simp; done) | (simp; omega)) _ | with_reducible refine X.ext ?_ _ | with_reducible refine X.alloc ?_ _ | with_reducible refine X.drew ?_))⟩
  · have hp : (0 : Int) < (k : Int) := by omega
    have Ht := Lib.hid (show mtxt k = 109 :: mtD k by rw [mtxt, if_neg h0])
    have Hlen := Lib.hid (mtD_len k)
    go_enter Tryd.func45, Tryd.ntmps45
    go_wp2
    go_loopw [0, 3] (fun v s wr => ∃ (j : Nat) (out : List UInt8), j ≤ k ∧ v = .int .i64 (j : Int) ∧ s = .string ⟨(out).toArray⟩ ∧ mtD j ++ out = mtD k ∧ X w wr) (fun v _ _ => (intOf v).toNat)
    case atStart => exact ⟨k, [], Nat.le_refl _, rfl, rfl, List.append_nil _, by (repeat (first | with_reducible exact X.refl _ | with_reducible assumption | with_reducible refine X.setCell ?_ (by first | (simp; done) | (simp; omega)) _ | with_reducible refine X.ext ?_ _ | with_reducible refine X.alloc ?_ _ | with_reducible refine X.drew ?_))⟩
    case round =>
      obtain ⟨j, out, hj, rfl, rfl, hd, hX⟩ := hrel
      have hol : out.length ≤ 1099511627776 := by have := congrArg List.length hd; rw [List.length_append] at this; have := Hlen.out; omega
      have Hd := Lib.hid hd
      clear hd
      by_cases hj0 : j = 0
      · subst hj0
        go_wp2
        go_ret
        refine ⟨?_, hX⟩
        have hm := Hd.out
        rw [mtD_zero, List.nil_append] at hm
        rw [Ht.out, ← hm]
        exact ret_strW (ba_app [109] out)
      · have hjp : (0 : Int) < (j : Int) := by omega
        have hcv := one_byte j wr
        go_wp2
        go_roundw
        case rel => exact ⟨j / 10, UInt8.ofNat (48 + j % 10) :: out, by omega, by go_num, by
          rw [show UInt8.ofNat (48 + j % 10) :: out = [UInt8.ofNat (48 + j % 10)] ++ out from rfl, ← ba_app]; simp, by
          rw [← Hd.out, mtD_pos hj0, List.append_assoc]; rfl, by (repeat (first | with_reducible exact X.refl _ | with_reducible assumption | with_reducible refine X.setCell ?_ (by first | (simp; done) | (simp; omega)) _ | with_reducible refine X.ext ?_ _ | with_reducible refine X.alloc ?_ _ | with_reducible refine X.drew ?_))⟩
        case measure => simp [intOf]; omega

set_option maxRecDepth 100000 in
set_option maxHeartbeats 1000000 in
theorem markIntS_c (xs : List Value) (a : Option Addr) (n c B k : Nat) (w : World) (hO : w.ownsRow B 3 1 (.slice a n c) n xs) (hn : n ≤ 2097152) (hk : k ≤ 1073741824) :
    Calls Tryd.prog 32 #[.slice a n c, .int .i64 (k : Int)] w fun e w' => e = .returned (.int .i64 ((k + n : Nat) : Int)) ∧ w'.ownsRow B 3 1 (.slice a n c) n (ints (upN k n)) ∧ w.grownBy w' (Value.slice a n c).ownBlock := by
  have Hx := Lib.hid (show xs.length = (upN k n).length * 1 by rw [hO.1, upN_len])
  have Hu := Lib.hid (fun i h => @upN_nth k n i h)
  have hlu := Lib.hid (@upN_len k n)
  generalize upN k n = L at *
  go_enter Tryd.func32, Tryd.ntmps32
  go_wp2
  go_loopw [1, 5] (fun v i wr => ∃ j : Nat, j ≤ n ∧ i = .int .i64 j ∧ v = .int .i64 ((k + j : Nat) : Int) ∧ wr.ownsRow B 3 1 (.slice a n c) n (mixR (fun x => [.int .i64 x]) 1 L xs j) ∧ w.grownBy wr (Value.slice a n c).ownBlock) (fun _ i _ => n - (intOf i).toNat)
  case atStart => exact ⟨0, Nat.zero_le _, rfl, rfl, by rw [mixR_zero]; exact hO, World.grownBy.refl _ _⟩
  case round =>
    obtain ⟨j, hj, rfl, rfl, hOw, hg⟩ := hrel
    clear hO
    by_cases hlt : j < n
    · obtain ⟨g, rfl, hB, hgl⟩ := own_form hOw (by omega)
      have hf0 := (hOw).frozenAt (j); obtain ⟨u0, hu0⟩ := own_here hOw (j := j) (by omega)
      go_wp2
      go_roundw
      case rel => exact ⟨j + 1, by omega, by go_num, by go_num, by
        rw [← mix_set1 (g := fun x => [Value.int .i64 x]) (fun _ => rfl) Hx.out (k := j) (by rw [hlu.out]; exact hlt) (.int .i64 ((k + j : Nat) : Int)) (by rw [Hu.out j hlt]), Nat.mul_one]
        exact own_set hOw _, grown_next hg _ _⟩
      case measure => simp [intOf]; omega
    · obtain rfl : j = n := by omega
      go_wp2
      go_ret
      refine ⟨rfl, ?_, hg⟩
      have h := mixR_all (g := fun x => [Value.int .i64 x]) (l := L) (z := xs) Hx.out
      rw [hlu.out] at h
      rw [h] at hOw
      exact hOw

set_option maxRecDepth 100000 in
set_option maxHeartbeats 1000000 in
theorem heldIntS_c (a : Option Addr) (n c B k : Nat) (w : World) (hI : IntsAt w B a n (upN k n)) (hk : k ≤ 1073741824) :
    Calls Tryd.prog 33 #[.slice a n c, .int .i64 (k : Int)] w fun e w' => e = .returned (.int .i64 ((k + n : Nat) : Int)) ∧ X w w' := by
  have hn := hI.2.1
  go_enter Tryd.func33, Tryd.ntmps33
  go_wp2
  go_loopw [1, 5] (fun v i wr => ∃ j : Nat, j ≤ n ∧ i = .int .i64 j ∧ v = .int .i64 ((k + j : Nat) : Int) ∧ wr = w) (fun _ i _ => n - (intOf i).toNat)
  case atStart => exact ⟨0, Nat.zero_le _, rfl, rfl, rfl⟩
  case round =>
    obtain ⟨j, hj, rfl, rfl, rfl⟩ := hrel
    by_cases hlt : j < n
    · obtain ⟨b, off, rfl, _, hb, hc⟩ := hI.at_ hlt
      rw [upN_nth hlt] at hc
      go_wp2
      go_roundw
      case rel => exact ⟨j + 1, by omega, by go_num, by go_num, trivial⟩
      case measure => simp [intOf]; omega
    · obtain rfl : j = n := by omega
      go_wp2
      go_ret
      exact ⟨rfl, X.refl _⟩

theorem markText_v (k : Nat) (v : Int) (w : World) (hv : v = (k : Int)) (hk : k ≤ 1099511627776) :
    Calls Tryd.prog 45 #[.int .i64 v] w fun e w' => e = .returned (.string ⟨(mtxt k).toArray⟩) ∧ X w w' := by
  subst hv
  exact markText_c k w hk
set_option maxRecDepth 100000 in
set_option maxHeartbeats 1000000 in
theorem markStmtS_c (xs : List Value) (a : Option Addr) (n c B k : Nat) (w : World) (hO : w.ownsRow B 88 5 (.slice a n c) n xs) (hn : n ≤ 1073741824) (hk : k ≤ 1073741824) :
    Calls Tryd.prog 25 #[.slice a n c, .int .i64 (k : Int)] w fun e w' => e = .returned (.int .i64 ((k + 5 * n : Nat) : Int)) ∧ w'.ownsRow B 88 5 (.slice a n c) n ((stsM k n).flatMap scells) ∧ w.grownBy w' (Value.slice a n c).ownBlock := by
  have Hx := Lib.hid (show xs.length = (stsM k n).length * 5 by rw [hO.1, stsM_len])
  have Hu := Lib.hid (fun i h => @stsM_nth k n i h)
  have hlu := Lib.hid (@stsM_len k n)
  generalize stsM k n = L at *
  go_enter Tryd.func25, Tryd.ntmps25
  go_wp2
  go_loopw [1, 5] (fun v i wr => ∃ j : Nat, j ≤ n ∧ i = .int .i64 j ∧ v = .int .i64 ((k + 5 * j : Nat) : Int) ∧ wr.ownsRow B 88 5 (.slice a n c) n (mixR scells 5 L xs j) ∧ w.grownBy wr (Value.slice a n c).ownBlock) (fun _ i _ => n - (intOf i).toNat)
  case atStart => exact ⟨0, Nat.zero_le _, rfl, rfl, by rw [mixR_zero]; exact hO, World.grownBy.refl _ _⟩
  case round =>
    obtain ⟨j, hj, rfl, rfl, hOw, hg⟩ := hrel
    clear hO
    by_cases hlt : j < n
    · obtain ⟨g, rfl, hB, hgl⟩ := own_form hOw (by omega)
      have hf0 := (hOw).frozenAt (j * 5); obtain ⟨u0, hu0⟩ := own_here hOw (j := j * 5) (by omega)
      go_wp2_with fail
      refine calls_name (fun W1 hW1 => ?_)
      have hO1 := own_set_at hW1 hOw
      have hg1 := grown_set_at hW1 hg
      clear hW1
      refine (markText_v (k + 5 * j + 1) _ W1 (by omega) (by omega)).mono ?_
      rintro _ w2 ⟨rfl, hx2⟩
      have hO2 := own_fr hO1 (hx2.fr _)
      have hg2 := grown_x hg1 hx2
      have hgl2 := (hO2.lt g rfl).2
      clear hO1 hg1 hx2
      have hf1 := (hO2).frozenAt (j * 5 + 1); obtain ⟨u1, hu1⟩ := own_here hO2 (j := j * 5 + 1) (by omega)
      have hf2 := (hO2).frozenAt (j * 5 + 2); obtain ⟨u2, hu2⟩ := own_here hO2 (j := j * 5 + 2) (by omega)
      go_wp2_with fail
      refine calls_name (fun W3 hW3 => ?_)
      have hO3 := own_set_at2 hW3 hO2
      have hg3 := grown_set_at2 hW3 hg2
      clear hW3
      refine (markText_v (k + 5 * j + 3) _ W3 (by omega) (by omega)).mono ?_
      rintro _ w4 ⟨rfl, hx4⟩
      have hO4 := own_fr hO3 (hx4.fr _)
      have hg4 := grown_x hg3 hx4
      have hgl4 := (hO4.lt g rfl).2
      clear hO3 hg3 hx4
      have hf3 := (hO4).frozenAt (j * 5 + 3); obtain ⟨u3, hu3⟩ := own_here hO4 (j := j * 5 + 3) (by omega)
      have hf4 := (hO4).frozenAt (j * 5 + 4); obtain ⟨u4, hu4⟩ := own_here hO4 (j := j * 5 + 4) (by omega)
      go_wp2
      have hO5 := own_set (own_set hO4 (k := j * 5 + 3) (.string ⟨(mtxt (k + 5 * j + 3)).toArray⟩)) (k := j * 5 + 4) (.int .i64 ((k : Int) + 5 * (j : Int) + 1 + 1 + 1 + 1))
      go_roundw
      case rel => exact ⟨j + 1, by omega, by go_num, by go_num, by
        rw [← mix_set5 (g := scells) (fun _ => rfl) Hx.out (k := j) (by rw [hlu.out]; exact hlt) (.int .i64 ((k : Int) + 5 * (j : Int))) (.string ⟨(mtxt (k + 5 * j + 1)).toArray⟩) (.int .i64 ((k : Int) + 5 * (j : Int) + 1 + 1)) (.string ⟨(mtxt (k + 5 * j + 3)).toArray⟩) (.int .i64 ((k : Int) + 5 * (j : Int) + 1 + 1 + 1 + 1)) (by
          rw [Hu.out j hlt, stM, scells, List.cons.injEq]; simp; omega)]
        exact hO5, grown_next (grown_next hg4 _ _) _ _⟩
      case measure => simp [intOf]; omega
    · obtain rfl : j = n := by omega
      go_wp2
      go_ret
      refine ⟨rfl, ?_, hg⟩
      have h := mixR_all (g := scells) (l := L) (z := xs) Hx.out
      rw [hlu.out] at h
      rw [h] at hOw
      exact hOw

end Go.Proofs.YtjlooplpjliaiaaDoor
