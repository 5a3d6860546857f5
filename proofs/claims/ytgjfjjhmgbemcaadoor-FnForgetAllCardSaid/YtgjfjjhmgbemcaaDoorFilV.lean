/- The arguments of ValidFinder and ForgetAll, as they are generated; these functions, both sides. No condition but lengths. -/
import Derived.Test.YtgjfjjhmgbemcaaDoorFilA
import Derived.Test.YtgjfjjhmgbemcaaDoorEqDk
namespace Go.Proofs.YtgjfjjhmgbemcaaDoor
open Go.RowKit

/-- What is drawn: a finder. -/
def DrawnFd (w w' : World) (e : Ending) : Prop := ∃ (fl : List Di) (fa : Option Addr) (fn fc : Nat) (fi hi : Int),
  e = .returned (.agg #[.slice fa fn fc, .int .i64 fi, .int .i64 hi]) ∧ DirsAt w' w.heap.size fa fn fl ∧ fn ≤ fc ∧ X w w'
set_option maxRecDepth 100000 in
set_option maxHeartbeats 4000000 in
theorem DrawValidFinder_c (ca : Option Addr) (cn cc : Nat) (w : World) (hC : CodeAt w ca cn cc) (hn : cn ≤ 1048576) :
    Calls Tryd.prog 19 #[.slice ca cn cc] w fun e w' => DrawnFd w w' e := by
  go_enter Tryd.func19, Tryd.ntmps19
  go_wp2_with fail
  refine calls_name (fun W0 hW0 => ?_)
  have hR0 : Tf W0 w.heap.size #[.slice none 0 0, .int .i64 0, .int .i64 0] := by rw [hW0]; exact tb_new _ 44 _ rfl
  have hX0 : X w W0 := by rw [hW0]; (repeat (first | with_reducible exact X.refl _ | with_reducible assumption | with_reducible refine X.setCell ?_ (by first | (simp; done) | (simp; omega)) _ | with_reducible refine X.ext ?_ _ | with_reducible refine X.alloc ?_ _ | with_reducible refine X.drew ?_))
  clear hW0
  have hC0 := hC.xD hX0
  refine (newReader_c ca cn cc _ hC0.1 hC0.2 hn).mono ?_
  rintro _ w1 ⟨rfl, hr, hx⟩
  obtain ⟨rb, hrb⟩ : ∃ rb, W0.heap.size = rb := ⟨_, rfl⟩
  rw [hrb] at hr ⊢
  have hy : Y rb w w1 := Y.of_x (hX0.trans hx)
  have hlR := hR0.bx.lt
  replace hR0 := hR0.x hx
  have hlt := hr.lt
  have hwr : w.heap.size < rb := by omega
  clear hx hX0 hC0 hrb
  go_wp2_with fail
  refine (anyFinder_c rb _ _ hr (by omega)).mono ?_
  rintro _ w2 ⟨fl, fa, fn, fc, fi, hi, a, n, c, kk, da, dn, dc, rfl, hV, hy2⟩
  have hR2 := hR0.y hy2 (by omega)
  have hV2 := hV.less (B' := w.heap.size) (by omega)
  have hz2 := hy2.size
  replace hy := hy.trans hy2
  clear hr hy2 hR0 hV
  go_upto_region 2 with fail
  refine wp_name (fun W3 hW3 => ?_)
  have hT3 : Tf W3 w2.heap.size #[.slice fa fn fc, .int .i64 fi, .int .i64 hi] := by rw [hW3]; exact (tb_new w2 44 _ rfl).x ((X.refl _).alloc _)
  have hx3 : X w2 W3 := by rw [hW3]; (repeat (first | with_reducible exact X.refl _ | with_reducible assumption | with_reducible refine X.setCell ?_ (by first | (simp; done) | (simp; omega)) _ | with_reducible refine X.ext ?_ _ | with_reducible refine X.alloc ?_ _ | with_reducible refine X.drew ?_))
  clear hW3
  have hR3 := hR2.x hx3
  have hV3 := hV2.fr (hx3.fr _)
  replace hy := hy.trans (Y.of_x hx3)
  clear hx3 hR2 hV2
  obtain ⟨ltf, f0, f1, f2, _⟩ := hT3.cells
  obtain ⟨ltr, r0, r1, r2, fr0, fr1, fr2⟩ := hR3.cells
  go_wp2
  refine act_name (fun W9 hW9 => ?_)
  have hR9 : Tf W9 w.heap.size #[.slice fa fn fc, .int .i64 fi, .int .i64 hi] := by rw [hW9]; exact hR3.set3 _ _ _
  have hV9 : AnF W9 w.heap.size fa fn fc fl := by rw [hW9]; exact hV3.set3t (t := 44) hR3 (by decide) (by decide) _ _ _
  have hy9 : Y rb w W9 := by rw [hW9]; exact y_set3 hy (Nat.le_refl _) _ _ _
  clear hW9
  refine bodyPost_row Tryd.results19 rfl hR9.bx finder_S rfl rfl ?_
  exact ⟨fl, fa, fn, fc, fi, hi, rfl, hV9.1.at hV9.2.1, anv_capD hV9.1, Y.x hy9 (by omega)⟩
set_option maxRecDepth 100000 in
set_option maxHeartbeats 4000000 in
theorem DrawForgetAll_c (ca : Option Addr) (cn cc : Nat) (w : World) (hC : CodeAt w ca cn cc) (hn : cn ≤ 1048576) :
    Calls Tryd.prog 14 #[.slice ca cn cc] w fun e w' => DrawnFd w w' e := by
  go_enter Tryd.func14, Tryd.ntmps14
  go_wp2_with fail
  refine calls_name (fun W0 hW0 => ?_)
  have hR0 : Tf W0 w.heap.size #[.slice none 0 0, .int .i64 0, .int .i64 0] := by rw [hW0]; exact tb_new _ 44 _ rfl
  have hX0 : X w W0 := by rw [hW0]; (repeat (first | with_reducible exact X.refl _ | with_reducible assumption | with_reducible refine X.setCell ?_ (by first | (simp; done) | (simp; omega)) _ | with_reducible refine X.ext ?_ _ | with_reducible refine X.alloc ?_ _ | with_reducible refine X.drew ?_))
  clear hW0
  have hz0 := hX0.size
  refine (DrawValidFinder_c ca cn cc W0 (hC.xD hX0) hn).mono ?_
  rintro _ w1 ⟨fl, fa, fn, fc, fi, hi, rfl, hD, hnc, hx⟩
  have hR1 := hR0.x hx
  obtain ⟨ltr, r0, r1, r2, fr0, fr1, fr2⟩ := hR1.cells
  have hlt0 := hR0.bx.lt
  go_wp2
  refine act_name (fun W9 hW9 => ?_)
  have hR9 : Tf W9 w.heap.size #[.slice fa fn fc, .int .i64 fi, .int .i64 hi] := by rw [hW9]; exact hR1.set3 _ _ _
  have hX9 : X w W9 := by rw [hW9]; exact x_set3 (hX0.trans hx) (Nat.le_refl _) _ _ _
  have hD9 : DirsAt W9 W0.heap.size fa fn fl := by rw [hW9]; exact hD.mono (Fr.set (Fr.set (Fr.set (Fr.refl _ _) (.inr hlt0) _) (.inr hlt0) _) (.inr hlt0) _)
  clear hW9
  refine bodyPost_row Tryd.results14 rfl hR9.bx finder_S rfl rfl ?_
  exact ⟨fl, fa, fn, fc, fi, hi, rfl, hD9.less hz0, hnc, hX9⟩

/-! ### ValidFinder, ForgetAll -/
def finB (fl : List Di) (fi hi : Int) : Bool := dirsB fl 200 12 && rangeB fi 0 1000 && rangeB hi 0 1000
set_option maxRecDepth 100000 in
set_option maxHeartbeats 2000000 in
theorem ValidFinder_i (fl : List Di) (fa : Option Addr) (fn fc : Nat) (fi hi : Int) (B : Nat) (w : World) (hD : DirsAt w B fa fn fl) (hnc : fn ≤ fc) (hG : Gm w) :
    Calls Tryd.prog 18 #[.agg #[.slice fa fn fc, .int .i64 fi, .int .i64 hi]] w fun e w' => e = .returned (.bool (finB fl fi hi)) ∧ X w w' := by
  cases h1 : dirsB fl 200 12 <;> cases h2 : rangeB fi 0 1000 <;> cases h3 : rangeB hi 0 1000
  all_goals
    go_enter Tryd.func18, Tryd.ntmps18
    go_wp2_with fail
    refine calls_name (fun W0 hW0 => ?_)
    have hT0 : Tf W0 w.heap.size #[.slice fa fn fc, .int .i64 fi, .int .i64 hi] := by rw [hW0]; exact tb_new _ 44 _ rfl
    have hX0 : X w W0 := by rw [hW0]; (repeat (first | with_reducible exact X.refl _ | with_reducible assumption | with_reducible refine X.setCell ?_ (by first | (simp; done) | (simp; omega)) _ | with_reducible refine X.ext ?_ _ | with_reducible refine X.alloc ?_ _ | with_reducible refine X.drew ?_))
    clear hW0
    refine (dirsOk_c fl fa fn fc B 200 12 W0 (hD.mono (hX0.fr _)) hnc (hG.mono hX0)).mono ?_
    rintro _ w1 ⟨rfl, hx1⟩
    rw [h1]
    obtain ⟨ltf, f0, f1, f2, _⟩ := (hT0.x hx1).cells
    have hXw := hX0.trans hx1
    go_wp2_with (go_at_call 32; refine (within_c _ 0 1000 _).mono ?_; rintro _ _ ⟨rfl, rfl⟩; first | rw [h2] | rw [h3])
    go_ret
    exact ⟨ret_bool (by simp [finB, h1, h2, h3]), hXw⟩
set_option maxRecDepth 100000 in
set_option maxHeartbeats 2000000 in
theorem validFinder_s (fl : List Di) (fa : Option Addr) (fn fc : Nat) (fi hi : Int) (B : Nat) (w : World) (hD : DirsAt w B fa fn fl) :
    Calls Tryd.prog 39 #[.agg #[.slice fa fn fc, .int .i64 fi, .int .i64 hi]] w fun e w' => e = .returned (.bool (finB fl fi hi)) ∧ X w w' := by
  cases h1 : dirsB fl 200 12 <;> cases h2 : rangeB fi 0 1000 <;> cases h3 : rangeB hi 0 1000
  all_goals
    go_enter Tryd.func39, Tryd.ntmps39
    go_wp2_with fail
    refine calls_name (fun W0 hW0 => ?_)
    have hT0 : Tf W0 w.heap.size #[.slice fa fn fc, .int .i64 fi, .int .i64 hi] := by rw [hW0]; exact tb_new _ 44 _ rfl
    have hX0 : X w W0 := by rw [hW0]; (repeat (first | with_reducible exact X.refl _ | with_reducible assumption | with_reducible refine X.setCell ?_ (by first | (simp; done) | (simp; omega)) _ | with_reducible refine X.ext ?_ _ | with_reducible refine X.alloc ?_ _ | with_reducible refine X.drew ?_))
    clear hW0
    refine (validDirs_c fl fa fn fc B W0 (hD.mono (hX0.fr _))).mono ?_
    rintro _ w1 ⟨rfl, hx1⟩
    rw [h1]
    obtain ⟨ltf, f0, f1, f2, _⟩ := (hT0.x hx1).cells
    have hXw := hX0.trans hx1
    go_wp2_with (go_at_call 27; refine (inRange_c _ 0 1000 _).mono ?_; rintro _ _ ⟨rfl, rfl⟩; first | rw [h2] | rw [h3])
    go_ret
    exact ⟨ret_bool (by simp [finB, h1, h2, h3]), hXw⟩
set_option maxRecDepth 100000 in
theorem ValidFinder_s (fl : List Di) (fa : Option Addr) (fn fc : Nat) (fi hi : Int) (B : Nat) (w : World) (hD : DirsAt w B fa fn fl) :
    Calls Tryd.prog 20 #[.agg #[.slice fa fn fc, .int .i64 fi, .int .i64 hi]] w fun e w' => e = .returned (.bool (finB fl fi hi)) ∧ X w w' := by
  go_enter Tryd.func20, Tryd.ntmps20
  go_wp2_with fail
  refine calls_name (fun W0 hW0 => ?_)
  have hX0 : X w W0 := by rw [hW0]; (repeat (first | with_reducible exact X.refl _ | with_reducible assumption | with_reducible refine X.setCell ?_ (by first | (simp; done) | (simp; omega)) _ | with_reducible refine X.ext ?_ _ | with_reducible refine X.alloc ?_ _ | with_reducible refine X.drew ?_))
  clear hW0
  refine (validFinder_s fl fa fn fc fi hi B W0 (hD.mono (hX0.fr _))).mono ?_
  rintro _ w1 ⟨rfl, hx1⟩
  go_wp2
  go_ret
  exact ⟨rfl, hX0.trans hx1⟩

end Go.Proofs.YtgjfjjhmgbemcaaDoor
