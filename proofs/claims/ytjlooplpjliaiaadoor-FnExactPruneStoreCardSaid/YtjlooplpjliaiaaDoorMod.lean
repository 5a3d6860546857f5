/- The name of a file's module, both sides. No condition but lengths. -/
import Derived.Test.YtjlooplpjliaiaaDoorTree
import Derived.Test.YtjlooplpjliaiaaDoorRw
namespace Go.Proofs.YtjlooplpjliaiaaDoor
open Go.RowKit

def moduleB (f : Fi) : List UInt8 := if f.init then f.pkg else childL f.pkg f.name
def moduleOf (f : Fi) : List UInt8 := if fileB f then moduleB f else []
theorem childOf_file {f : Fi} (h : fileB f = true) (hi : f.init = false) : childOf f.pkg f.name = childL f.pkg f.name := by
  unfold fileB at h
  rw [hi] at h
  simp only [Bool.and_eq_true, Bool.false_eq_true, if_false] at h
  rw [childOf, h.1.1.1.2, h.2.1, h.2.2]; rfl
set_option maxHeartbeats 1000000 in
theorem ModuleOf_c (f : Fi) (ba : Option Addr) (bn bc B : Nat) (w : World) (hf : Okf f) (hS : StmtsAt w B ba bn f.body) (hG : Gm w) : Calls Tryd.prog 58 #[.agg #[.int .i64 (f).root, .string ⟨(f).pkg.toArray⟩, .string ⟨(f).name.toArray⟩, .bool (f).init, .int .i64 (f).stamp, .slice ba bn bc]] w fun e w' => e = .returned (.string ⟨(moduleOf f).toArray⟩) ∧ X w w' := by
  obtain ⟨h1, h2⟩ := hf
  cases hv : fileB f
  · rw [show moduleOf f = [] by rw [moduleOf, hv]; rfl]
    go_enter Tryd.func58, Tryd.ntmps58
    go_wp2_with (go_at_call 55; refine (fileOk_c f _ _ _ _ _ ⟨h1, h2⟩ (hS.mono (X.fr (by (repeat (first | exact X.refl _ | assumption | refine X.ext ?_ _ | refine X.alloc ?_ _ | refine X.drew ?_))) _)) (hG.mono (by (repeat (first | exact X.refl _ | assumption | refine X.ext ?_ _ | refine X.alloc ?_ _ | refine X.drew ?_))))).mono ?_; rintro _ _ ⟨rfl, hx⟩; first | obtain ⟨x, rfl⟩ := hx.of_ext | obtain ⟨x, rfl⟩ := hx)
    go_ret
    exact ⟨rfl, by (repeat (first | exact X.refl _ | assumption | refine X.ext ?_ _ | refine X.alloc ?_ _ | refine X.drew ?_))⟩
  · have Hc := Lib.hid (@childOf_file f hv)
    go_enter Tryd.func58, Tryd.ntmps58
    go_wp2_with (first | (go_at_call 55; refine (fileOk_c f _ _ _ _ _ ⟨h1, h2⟩ (hS.mono (X.fr (by (repeat (first | exact X.refl _ | assumption | refine X.ext ?_ _ | refine X.alloc ?_ _ | refine X.drew ?_))) _)) (hG.mono (by (repeat (first | exact X.refl _ | assumption | refine X.ext ?_ _ | refine X.alloc ?_ _ | refine X.drew ?_))))).mono ?_; rintro _ _ ⟨rfl, hx⟩; first | obtain ⟨x, rfl⟩ := hx.of_ext | obtain ⟨x, rfl⟩ := hx) | (go_at_call 87; refine (ChildOf_c _ _ _ h1 h2 (hG.mono (by (repeat (first | exact X.refl _ | assumption | refine X.ext ?_ _ | refine X.alloc ?_ _ | refine X.drew ?_))))).mono ?_; rintro _ _ ⟨rfl, hx⟩; first | obtain ⟨x, rfl⟩ := hx.of_ext | obtain ⟨x, rfl⟩ := hx))
    · have hi : f.init = true := by assumption
      go_ret
      exact ⟨by simp [moduleOf, moduleB, hv, hi], by (repeat (first | exact X.refl _ | assumption | refine X.ext ?_ _ | refine X.alloc ?_ _ | refine X.drew ?_))⟩
    · have hi : f.init = false := by assumption
      go_ret
      exact ⟨by simp [moduleOf, moduleB, hv, hi, Hc.out hi], by (repeat (first | exact X.refl _ | assumption | refine X.ext ?_ _ | refine X.alloc ?_ _ | refine X.drew ?_))⟩

set_option maxHeartbeats 400000 in
theorem moduleName_c (f : Fi) (bf : Value) (w : World) (hf : Okf f) : Calls Tryd.prog 62 #[.agg #[.int .i64 (f).root, .string ⟨(f).pkg.toArray⟩, .string ⟨(f).name.toArray⟩, .bool (f).init, .int .i64 (f).stamp, bf]] w fun e w' => e = .returned (.string ⟨(moduleB f).toArray⟩) ∧ X w w' := by
  obtain ⟨h1, h2⟩ := hf
  cases hi : f.init
  all_goals
    go_enter Tryd.func62, Tryd.ntmps62
    go_wp2_with (go_at_call 81; refine (child_c f.pkg f.name _ h1 h2).mono ?_; rintro _ _ ⟨rfl, rfl⟩)
    go_ret
    exact ⟨by simp [moduleB, hi], by (repeat (first | exact X.refl _ | assumption | refine X.ext ?_ _ | refine X.alloc ?_ _ | refine X.drew ?_))⟩

end Go.Proofs.YtjlooplpjliaiaaDoor
