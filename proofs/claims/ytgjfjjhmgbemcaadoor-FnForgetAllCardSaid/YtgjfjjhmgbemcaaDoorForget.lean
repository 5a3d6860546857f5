/- ForgetAll, both sides, and comparing what it returns. No condition but lengths. -/
import Derived.Test.YtgjfjjhmgbemcaaDoorFilV
namespace Go.Proofs.YtgjfjjhmgbemcaaDoor
open Go.RowKit

theorem dirsAt_nil (w : World) (B : Nat) (a : Option Addr) : DirsAt w B a 0 [] := ⟨[], rfl, rfl, by omega, fun _ h => (by cases h), fun h => absurd h (by omega), fun _ h => (by cases h)⟩
set_option maxRecDepth 100000 in
set_option maxHeartbeats 2000000 in
theorem ForgetAll_i (fl : List Di) (fa : Option Addr) (fn fc : Nat) (fi hi : Int) (B : Nat) (w : World) (hD : DirsAt w B fa fn fl) (hnc : fn ≤ fc) (hG : Gm w) (b : Bool) (hb : finB fl fi hi = b) :
    Calls Tryd.prog 15 #[.agg #[.slice fa fn fc, .int .i64 fi, .int .i64 hi]] w fun e w' => ∃ fa2, e = .returned (.agg #[.slice fa2 0 0, .int .i64 (if b = true then fi else 0), .int .i64 (if b = true then hi else 0)]) ∧ X w w' := by
  cases b
  all_goals
    simp only [if_true, if_false, Bool.false_eq_true]
    go_enter Tryd.func15, Tryd.ntmps15
    go_wp2_with fail
    refine calls_name (fun W0 hW0 => ?_)
    have hT0 : Tf W0 w.heap.size #[.slice fa fn fc, .int .i64 fi, .int .i64 hi] := by rw [hW0]; exact (tb_new w 44 _ rfl).x ((X.refl _).alloc _)
    have hR0 : Tf W0 (w.heap.size + 1) #[.slice none 0 0, .int .i64 0, .int .i64 0] := by rw [hW0]; exact tb_new _ 44 _ (by simp)
    have hX0 : X w W0 := by rw [hW0]; (repeat (first | with_reducible exact X.refl _ | with_reducible assumption | with_reducible refine X.setCell ?_ (by first | (simp; done) | (simp; omega)) _ | with_reducible refine X.ext ?_ _ | with_reducible refine X.alloc ?_ _ | with_reducible refine X.drew ?_))
    clear hW0
    refine (ValidFinder_i fl fa fn fc fi hi B W0 (hD.mono (hX0.fr _)) hnc (hG.mono hX0)).mono ?_
    rw [hb]
    rintro _ w1 ⟨rfl, hx1⟩
    obtain ⟨ltf, f0, f1, f2, _⟩ := (hT0.x hx1).cells
    have hR1 := hR0.x hx1
    obtain ⟨ltr, r0, r1, r2, fr0, fr1, fr2⟩ := hR1.cells
    have hXw := hX0.trans hx1
    go_wp2
    refine act_name (fun W9 hW9 => ?_)
  · have hR9 : Tf W9 (w.heap.size + 1) #[.slice none 0 0, .int .i64 0, .int .i64 0] := by rw [hW9]; exact hR1.set3 _ _ _
    have hX9 : X w W9 := by rw [hW9]; exact x_set3 hXw (by omega) _ _ _
    clear hW9
    refine bodyPost_row Tryd.results15 rfl hR9.bx finder_S rfl rfl ?_
    exact ⟨none, rfl, hX9⟩
  · have hX9 : X w W9 := by rw [hW9]; (repeat (first | with_reducible exact X.refl _ | with_reducible assumption | with_reducible refine X.setCell ?_ (by first | (simp; done) | (simp; omega)) _ | with_reducible refine X.ext ?_ _ | with_reducible refine X.alloc ?_ _ | with_reducible refine X.drew ?_))
    have hR9 : ∃ fa2, Tf W9 (w.heap.size + 1) #[.slice fa2 0 0, .int .i64 fi, .int .i64 hi] := by
      rw [hW9]
      refine ⟨some ⟨w1.heap.size, 0, none⟩, ?_⟩
      first
        | exact (hR1.x ((X.refl _).alloc _)).set3 _ _ _
        | exact Tf.x (hR1.set3 _ _ _) ((X.refl _).alloc _)
    clear hW9
    obtain ⟨fa2, hR9⟩ := hR9
    refine bodyPost_row Tryd.results15 rfl hR9.bx finder_S rfl rfl ?_
    exact ⟨fa2, rfl, hX9⟩
set_option maxRecDepth 100000 in
set_option maxHeartbeats 2000000 in
theorem ForgetAll_s (fl : List Di) (fa : Option Addr) (fn fc : Nat) (fi hi : Int) (B : Nat) (w : World) (hD : DirsAt w B fa fn fl) (b : Bool) (hb : finB fl fi hi = b) :
    Calls Tryd.prog 17 #[.agg #[.slice fa fn fc, .int .i64 fi, .int .i64 hi]] w fun e w' => e = .returned (.agg #[.slice none 0 0, .int .i64 (if b = true then fi else 0), .int .i64 (if b = true then hi else 0)]) ∧ X w w' := by
  cases b
  all_goals
    simp only [if_true, if_false, Bool.false_eq_true]
    go_enter Tryd.func17, Tryd.ntmps17
    go_wp2_with fail
    refine calls_name (fun W0 hW0 => ?_)
    have hT0 : Tf W0 w.heap.size #[.slice fa fn fc, .int .i64 fi, .int .i64 hi] := by rw [hW0]; exact (tb_new w 44 _ rfl).x ((X.refl _).alloc _)
    have hR0 : Tf W0 (w.heap.size + 1) #[.slice none 0 0, .int .i64 0, .int .i64 0] := by rw [hW0]; exact tb_new _ 44 _ (by simp)
    have hX0 : X w W0 := by rw [hW0]; (repeat (first | with_reducible exact X.refl _ | with_reducible assumption | with_reducible refine X.setCell ?_ (by first | (simp; done) | (simp; omega)) _ | with_reducible refine X.ext ?_ _ | with_reducible refine X.alloc ?_ _ | with_reducible refine X.drew ?_))
    clear hW0
    refine (validFinder_s fl fa fn fc fi hi B W0 (hD.mono (hX0.fr _))).mono ?_
    rw [hb]
    rintro _ w1 ⟨rfl, hx1⟩
    obtain ⟨ltf, f0, f1, f2, _⟩ := (hT0.x hx1).cells
    have hR1 := hR0.x hx1
    obtain ⟨ltr, r0, r1, r2, fr0, fr1, fr2⟩ := hR1.cells
    have hXw := hX0.trans hx1
    go_wp2
    refine act_name (fun W9 hW9 => ?_)
    have hX9 : X w W9 := by rw [hW9]; exact x_set3 hXw (by omega) _ _ _
  · have hR9 : Tf W9 (w.heap.size + 1) #[.slice none 0 0, .int .i64 0, .int .i64 0] := by rw [hW9]; exact hR1.set3 _ _ _
    clear hW9
    refine bodyPost_row Tryd.results17 rfl hR9.bx finder_S rfl rfl ?_
    exact ⟨rfl, hX9⟩
  · have hR9 : Tf W9 (w.heap.size + 1) #[.slice none 0 0, .int .i64 fi, .int .i64 hi] := by rw [hW9]; exact hR1.set3 _ _ _
    clear hW9
    refine bodyPost_row Tryd.results17 rfl hR9.bx finder_S rfl rfl ?_
    exact ⟨rfl, hX9⟩
set_option maxRecDepth 100000 in
set_option maxHeartbeats 2000000 in
theorem equalFinder_c (a a' : Option Addr) (c c' : Nat) (fi hi : Int) (w : World) :
    Calls Tryd.prog 16 #[.agg #[.slice a 0 c, .int .i64 fi, .int .i64 hi], .agg #[.slice a' 0 c', .int .i64 fi, .int .i64 hi]] w fun e w' => e = .returned (.bool true) ∧ X w w' := by
  go_enter Tryd.func16, Tryd.ntmps16
  go_wp2_with fail
  refine calls_name (fun W0 hW0 => ?_)
  obtain ⟨hB1, hB2, hX⟩ := bx2 hW0
  clear hW0
  refine (equalDirs_c [] a a' 0 c c' 0 0 W0 (dirsAt_nil _ _ _) (dirsAt_nil _ _ _)).mono ?_
  rintro _ w1 ⟨rfl, hx1⟩
  obtain ⟨lt1, q1, _⟩ := (hB1.x hx1).out
  obtain ⟨lt2, q2, _⟩ := (hB2.x hx1).out
  have t1 := q1 1
  have t2 := q1 2
  have u1 := q2 1
  have u2 := q2 2
  clear q1 q2
  go_wp2
  go_ret
  exact ⟨rfl, hX.trans hx1⟩

end Go.Proofs.YtgjfjjhmgbemcaaDoor
