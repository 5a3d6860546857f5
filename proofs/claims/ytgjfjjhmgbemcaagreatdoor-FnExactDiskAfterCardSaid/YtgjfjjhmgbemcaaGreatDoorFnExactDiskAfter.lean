/- Proved: for all arguments the law FnExactDiskAfter returns true, and its arguments read as they did; condition: none but the row's own (the listed variables hold what the program's text lays). -/
import Derived.Test.YtgjfjjhmgbemcaaGreatDoorLExDiskAfter
import Derived.Test.YtgjfjjhmgbemcaaGreatDoorOpx
import Derived.Test.YtgjfjjhmgbemcaaGreatDoorRawF
namespace Go.Proofs.YtgjfjjhmgbemcaaGreatDoor
open Go.ChangeShapes Go.WideShapes Go.ChangeAt Go.RowKit
set_option maxRecDepth 100000 in
theorem acTy : AcTy Tryz.prog 98 := ⟨by kernel_rfl, _, _, _, _, Tryz.underlying98, ⟨rfl, Tryz.underlying3, by kernel_rfl⟩, rfl, by kernel_rfl, fiTy, ⟨rfl, Tryz.underlying3, by kernel_rfl⟩, ⟨rfl, Tryz.underlying9, by kernel_rfl⟩⟩
theorem acsTy : AcsTy Tryz.prog 53 := ⟨_, Tryz.underlying53, acTy⟩
end Go.Proofs.YtgjfjjhmgbemcaaGreatDoor
namespace Go.Proofs.YtgjfjjhmgbemcaaGreatDoor.fnExactDiskAfter
open Go.ChangeShapes Go.WideShapes Go.ChangeAt Go.RowKit

theorem laid_met (os : Os) : laidMet Tryz.prog Rows.fnExactDiskAfterRow.laid ((World.laidAll Tryz.prog os Rows.fnExactDiskAfterRow.laid).forCall (fun _ _ => 0) ⟨#[], #[.slice none 0 0, .int .i64 0], []⟩).memory :=
  laidMet_laidAll _ (by kernel_rfl) (by kernel_rfl)
theorem reads (os : Os) {H : Type} (enc : TypeId × Value → H) : ∃ places, DataW.whole enc Tryz.prog ((World.laidAll Tryz.prog os Rows.fnExactDiskAfterRow.laid).forCall (fun _ _ => 0) ⟨#[], #[.slice none 0 0, .int .i64 0], []⟩).memory Tryz.f5.params.toList Rows.fnExactDiskAfterSpec.vars false #[.slice none 0 0, .int .i64 0].toList 8 = some ([.nil, .lit (.int .i64 0)], [], places) :=
  ⟨[], by kernel_rfl⟩

set_option maxRecDepth 100000 in
theorem lifted (os : Os) (started : os.Started) (H : Type) (enc : TypeId × Value → H) (F : Stop.Interp) :
    ReturnsInHanded {} Tryz.checked os 5 .any ((OpenSpec.ofChange Rows.fnExactDiskAfterSpec).preRow enc Tryz.prog Tryz.f5 Rows.fnExactDiskAfterRow.domain false Rows.fnExactDiskAfterRow.laid) (((OpenSpec.ofChange Rows.fnExactDiskAfterSpec).at F).post enc Tryz.prog Tryz.f5 false true false false) := by
  obtain ⟨places, hx⟩ := reads os enc
  refine returnsInHanded_of_row (C := Tryz.checked) (s := OpenSpec.ofChange Rows.fnExactDiskAfterSpec) own started (by kernel_rfl) Tryz.func5
    (witness_row_at (enc := enc) (C := Tryz.checked) false (World.laidAll Tryz.prog os Rows.fnExactDiskAfterRow.laid) #[.slice none 0 0, .int .i64 0] (World.laidAll_os _ _ _) (by kernel_rfl) (by kernel_rfl) (by kernel_rfl)
      (OpenSpec.preRow_of_cond 8 hx (by kernel_rfl) (fun k hk => by cases hk) (by kernel_rfl) (laid_met os))) ?_
  intro W base args ds gs before hval0 hW _ _ _ _ hS _
  have hval : ∀ (j : Nat) t v, Tryz.f5.params[j]? = some t → args[j]? = some v → Value.okWide Tryz.prog W .any base t v := hval0
  have hW' := hW
  obtain ⟨p, q, hA0, hV, rfl, _, _⟩ := hW
  have hA : DataW.TrodAll enc Tryz.prog W 0 (fun _ => true) true Tryz.f5.params.toList args.toList ds p := hA0
  rw [Tryz.params5] at hA hval
  obtain ⟨v0, v1, d0, d1, p0, p1, rfl, rfl, rfl, h0, h1⟩ := trodAll_two hA
  obtain ⟨rfl, rfl⟩ := trodVars_none hV
  obtain ⟨a, n, c, l, rfl, hnc, hR⟩ := arg_acts acsTy (hval 0 53 v0 rfl rfl) h0
  obtain ⟨i, rfl⟩ := okWide_int Tryz.underlying3 (hval 1 3 v1 rfl rfl)
  clear hA0 hval0
  simp only [List.append_nil] at hW'
  have hlt : ∀ x ∈ p0 ++ p1, x.block < W.heap.size := fun x hx => by simpa using hW'.lt x hx
  have hargs0 : ∀ (W' : World), Below W.heap.size W W' → DataW.Trod enc Tryz.prog W' 0 (fun b => decide (b < W.heap.size)) true 53 (.slice a n c) d0 p0 :=
    fun W' hn => Below.trod laidOut (by kernel_rfl) (of_decide_eq_true (by kernel_rfl)) h0 hn (fun x hx => hlt x (by first | exact hx | (simp only [List.mem_append]; simp [hx])))
  have hargs1 : ∀ (W' : World), Below W.heap.size W W' → DataW.Trod enc Tryz.prog W' 0 (fun b => decide (b < W.heap.size)) true 3 (.int .i64 i) d1 p1 :=
    fun W' hn => Below.trod laidOut (by kernel_rfl) (of_decide_eq_true (by kernel_rfl)) h1 hn (fun x hx => hlt x (by first | exact hx | (simp only [List.mem_append]; simp [hx])))
  refine (FnExactDiskAfter_c l a n c i W hR (gm_of hS)).mono fun e W' ⟨he, hg⟩ => ?_
  subst he
  exact ⟨_, rfl, _, _, _, [], _, [], hW', trodAll_mk1 (shut_bool Tryz.underlying4 _), trodAll_mk2 (hargs0 _ hg) (hargs1 _ hg), rfl, hg.frame _, fun h => by cases h⟩

theorem said : Rows.FnExactDiskAfterSaid :=
  OpenClaim.holds_of_cond 5 Tryz.f5 rfl rfl rfl rfl rfl rfl rfl ⟨rfl, rfl, rfl, rfl, rfl⟩ rfl rfl rfl rfl rfl (by kernel_rfl) Tryz.func5 (by kernel_rfl)
    (of_decide_eq_true (by kernel_rfl)) (by unfold Func.isWrapper; first | (rw [if_pos (by decide +kernel)]; kernel_rfl) | (rw [if_neg (by decide +kernel)]; exact ⟨rfl, rfl⟩))
    (fun os started H enc _ F => by rw [OpenClaim.pre_eq_preRow]; exact lifted os started H enc F)
theorem plain (f : FuncId) (fn : Func) (hf : Tryz.pinned.checked.prog.funcNamed Rows.fnExactDiskAfterRow.func = some f) (hfn : Tryz.pinned.checked.prog.funcs[f]? = some fn) :
    false = Tryz.pinned.checked.prog.looks [] ∧ ∀ (j : Nat) t, fn.params[j]? = some t → Tryz.pinned.checked.prog.wantsStandIn t = false := by
  obtain rfl : f = 5 := Option.some.inj ((show Tryz.prog.funcNamed Rows.fnExactDiskAfterRow.func = some 5 by kernel_rfl).symm.trans hf) |>.symm
  obtain rfl : fn = Tryz.f5 := (Option.some.inj (Tryz.func5.symm.trans hfn)).symm
  refine ⟨by kernel_rfl, fun j t ht => ?_⟩
  rw [Tryz.params5] at ht
  have hm := Array.mem_of_getElem? ht
  simp only [List.mem_toArray, List.mem_cons, List.not_mem_nil, or_false] at hm
  rcases hm with rfl | rfl
  · exact (show Tryz.prog.wantsStandIn 53 = false by kernel_rfl)
  · exact (show Tryz.prog.wantsStandIn 3 = false by kernel_rfl)
end Go.Proofs.YtgjfjjhmgbemcaaGreatDoor.fnExactDiskAfter
namespace Go.Proofs.YtgjfjjhmgbemcaaGreatDoor
/-- The card of the law. -/
theorem fnExactDiskAfter_card : Rows.FnExactDiskAfterCardSaid :=
  Claim7.holds_tied_plain_at .later [] _ _ _ _ fnExactDiskAfter.said (fun _ h => by cases h) (by kernel_rfl) (fun _ h => by cases h) fnExactDiskAfter_row_tie rfl ⟨rfl, rfl⟩ (by kernel_rfl) rfl fnExactDiskAfter.plain (by kernel_rfl)
#print axioms fnExactDiskAfter_card
end Go.Proofs.YtgjfjjhmgbemcaaGreatDoor
