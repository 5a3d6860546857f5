/- The laws' own marks in slices of strings: the walks. No condition but sizes. -/
import Derived.Test.YtgjfjjhmgbemcaaGreatDoorIb
import Derived.Test.YtgjfjjhmgbemcaaGreatDoorExL
namespace Go.Proofs.YtgjfjjhmgbemcaaGreatDoor
open Go.RowKit

def mtxN (k n : Nat) : List (List UInt8) := (List.range n).map fun i => mtxt (k + i)
theorem mtxN_len {k n : Nat} : (mtxN k n).length = n := by simp [mtxN]
theorem mtxN_nth {k n i : Nat} (h : i < n) : nth (mtxN k n) i = mtxt (k + i) := by
  rw [nth_eq (by rw [mtxN_len]; exact h)]
  simp [mtxN]
theorem mtD_le : ∀ k, (mtD k).length ≤ k
  | 0 => by unfold mtD; simp
  | k + 1 => by
    have := mtD_le ((k + 1) / 10)
    unfold mtD
    rw [dif_neg (by omega), List.length_append, List.length_singleton]
    omega
  decreasing_by omega
theorem mtxt_len (k : Nat) : (mtxt k).length ≤ k + 2 := by
  unfold mtxt
  split
  · simp
  · have := mtD_le k
    rw [List.length_cons]
    omega
theorem mtxN_short {k n : Nat} (h : k + n ≤ 4000000) : ∀ s ∈ mtxN k n, s.length ≤ 4194304 := by
  intro s hs
  obtain ⟨i, hi, rfl⟩ := List.mem_map.1 hs
  have := mtxt_len (k + i)
  have := List.mem_range.1 hi
  omega
theorem strsAt_of {w : World} {B e n c : Nat} {a : Option Addr} {l : List (List UInt8)} (h : w.ownsRow B e 1 (.slice a n c) n (strs l)) (hn : l.length = n) (hl : n ≤ 8388608) (hs : ∀ s ∈ l, s.length ≤ 4194304) : StrsAt w B a n l := by
  subst hn
  exact StrsAt.of_own h hl hs
set_option maxRecDepth 100000 in
set_option maxHeartbeats 1000000 in
theorem markStringS_v (xs : List Value) (a : Option Addr) (n c B k : Nat) (v : Int) (w : World) (hv : v = (k : Int)) (hO : w.ownsRow B 9 1 (.slice a n c) n xs) (hn : n ≤ 1073741824) (hk : k ≤ 1073741824) :
    Calls Tryz.prog 110 #[.slice a n c, .int .i64 v] w fun e w' => e = .returned (.int .i64 ((k + n : Nat) : Int)) ∧ w'.ownsRow B 9 1 (.slice a n c) n (strs (mtxN k n)) ∧ w.grownBy w' (Value.slice a n c).ownBlock := by
  subst hv
  have Hx := Lib.hid (show xs.length = (mtxN k n).length * 1 by rw [hO.1, mtxN_len])
  have Hu := Lib.hid (fun i h => @mtxN_nth k n i h)
  have hlu := Lib.hid (@mtxN_len k n)
  generalize mtxN k n = L at *
  go_enter Tryz.func110, Tryz.ntmps110
  go_wp2
  go_loopw [1, 5] (fun v i wr => ∃ j : Nat, j ≤ n ∧ i = .int .i64 j ∧ v = .int .i64 ((k + j : Nat) : Int) ∧ wr.ownsRow B 9 1 (.slice a n c) n (mixR (fun x => [.string ⟨(x).toArray⟩]) 1 L xs j) ∧ w.grownBy wr (Value.slice a n c).ownBlock) (fun _ i _ => n - (intOf i).toNat)
  case atStart => exact ⟨0, Nat.zero_le _, rfl, rfl, by rw [mixR_zero]; exact hO, World.grownBy.refl _ _⟩
  case round =>
    obtain ⟨j, hj, rfl, rfl, hOw, hg⟩ := hrel
    clear hO
    by_cases hlt : j < n
    · obtain ⟨g, rfl, hB, hgl⟩ := own_form hOw (by omega)
      go_wp2_with fail
      refine calls_name (fun W1 hW1 => ?_)
      have hX1 : X wr W1 := by rw [hW1]; (repeat (first | with_reducible exact X.refl _ | with_reducible assumption | with_reducible refine X.setCell ?_ (by first | (simp; done) | (simp; omega)) _ | with_reducible refine X.ext ?_ _ | with_reducible refine X.alloc ?_ _ | with_reducible refine X.drew ?_))
      clear hW1
      refine (markText_v (k + j) _ W1 (by omega) (by omega)).mono ?_
      rintro _ w2 ⟨rfl, hx2⟩
      have hO2 := own_fr hOw (X.fr (hX1.trans hx2) _)
      have hg2 := grown_x hg (hX1.trans hx2)
      have hgl2 := (hO2.lt g rfl).2
      clear hX1 hx2 hOw hg
      have hf0 := (hO2).frozenAt (j); obtain ⟨u0, hu0⟩ := own_here hO2 (j := j) (by omega)
      go_wp2
      go_roundw
      case rel => exact ⟨j + 1, by omega, by go_num, by go_num, by
        rw [← mix_set1 (g := fun x => [.string ⟨(x).toArray⟩]) (fun _ => rfl) Hx.out (k := j) (by rw [hlu.out]; exact hlt) (.string ⟨(mtxt (k + j)).toArray⟩) (by rw [Hu.out j hlt]), Nat.mul_one]
        exact own_set hO2 _, grown_next hg2 _ _⟩
      case measure => simp [intOf]; omega
    · obtain rfl : j = n := by omega
      go_wp2
      go_ret
      refine ⟨rfl, ?_, hg⟩
      have h := mixR_all (g := fun x => [.string ⟨(x).toArray⟩]) (l := L) (z := xs) Hx.out
      rw [hlu.out] at h
      rw [h] at hOw
      exact hOw

set_option maxRecDepth 100000 in
set_option maxHeartbeats 1000000 in
theorem heldStringS_c (a : Option Addr) (n c B k : Nat) (w : World) (hI : StrsAt w B a n (mtxN k n)) (hk : k ≤ 1073741824) :
    Calls Tryz.prog 112 #[.slice a n c, .int .i64 (k : Int)] w fun e w' => e = .returned (.int .i64 ((k + n : Nat) : Int)) ∧ X w w' := by
  have hn := hI.2.1
  go_enter Tryz.func112, Tryz.ntmps112
  go_wp2
  go_loopw [1, 5] (fun v i wr => ∃ (j : Nat) (x : Xt), j ≤ n ∧ i = .int .i64 j ∧ v = .int .i64 ((k + j : Nat) : Int) ∧ wr = World.ext w x) (fun _ i _ => n - (intOf i).toNat)
  case atStart => exact ⟨0, _, Nat.zero_le _, rfl, rfl, (World.ext_refl w).symm⟩
  case round =>
    obtain ⟨j, x, hj, rfl, rfl, rfl⟩ := hrel
    by_cases hlt : j < n
    · obtain ⟨b, off, rfl, _, hb, hc, _⟩ := hI.at_ hlt
      rw [mtxN_nth hlt] at hc
      go_wp2
      refine wp_region_grow (by kernel_rfl) (by kernel_rfl) ?_
      repeat (go_big_quiet_step (((go_at_call 67; refine grow_of (markText_v (k + j) _ _ (by omega) (by omega))))))
      refine wpQuiet_nil ?_
      rintro _ ⟨y, rfl⟩
      go_wp2
      go_roundw
      case rel => exact ⟨j + 1, _, by omega, by go_num, by go_num, rfl⟩
      case measure => simp [intOf]; omega
    · obtain rfl : j = n := by omega
      go_wp2
      go_ret
      exact ⟨rfl, by (repeat (first | exact X.refl _ | assumption | refine X.ext ?_ _ | refine X.alloc ?_ _ | refine X.drew ?_))⟩

end Go.Proofs.YtgjfjjhmgbemcaaGreatDoor
