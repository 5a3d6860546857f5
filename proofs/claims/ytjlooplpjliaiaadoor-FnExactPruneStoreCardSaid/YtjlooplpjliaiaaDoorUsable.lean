/- usable, both sides: the walks. No condition but lengths and a valid body. -/
import Derived.Test.YtjlooplpjliaiaaDoorCo
import Derived.Test.YtjlooplpjliaiaaDoorHashI
namespace Go.Proofs.YtjlooplpjliaiaaDoor
open Go.RowKit

def usableB (c : Co) (f : Fi) : Bool := if c.mode == 0 then c.stamp == f.stamp && c.size == ((szN f.body : Nat) : Int) else if c.mode == 1 then c.hash == hashZ f.body else true
set_option maxRecDepth 100000 in
set_option maxHeartbeats 2000000 in
theorem usable_s (c : Co) (bv : Value) (f : Fi) (ba : Option Addr) (bn bc B : Nat) (w : World) (hS : StmtsAt w B ba bn f.body) (hv : bodyB f.body = true) :
    Calls Tryd.prog 66 #[.agg #[.int .i64 (c).root, .string ⟨(c).mod.toArray⟩, .bool (c).init, .int .i64 (c).mode, .int .i64 (c).stamp, .int .i64 (c).size, .int .i64 (c).hash, bv], .agg #[.int .i64 (f).root, .string ⟨(f).pkg.toArray⟩, .string ⟨(f).name.toArray⟩, .bool (f).init, .int .i64 (f).stamp, .slice ba bn bc]] w fun e w' => e = .returned (.bool (usableB c f)) ∧ X w w' := by
  cases m0 : c.mode == 0
  case true =>
    cases m2 : c.stamp == f.stamp <;> cases m3 : c.size == ((szN f.body : Nat) : Int)
    all_goals
      go_enter Tryd.func66, Tryd.ntmps66
      go_wp2
      refine wp_region_grow0 (by kernel_rfl) (by kernel_rfl) ?_
      repeat (go_big_quiet_step (((first | (go_at_call 70; refine grow_of (sizeOf_c f.body _ _ _ _ _ (hS.mono (X.fr (by (repeat (first | exact X.refl _ | assumption | refine X.ext ?_ _ | refine X.alloc ?_ _ | refine X.drew ?_))) _)))) | (go_at_call 71; refine grow_of (hashOf_c f.body _ _ _ _ _ (hS.mono (X.fr (by (repeat (first | exact X.refl _ | assumption | refine X.ext ?_ _ | refine X.alloc ?_ _ | refine X.drew ?_))) _)) hv))))))
      refine wpQuiet_nil ?_
      rintro _ ⟨y, rfl⟩
      go_wp2
      go_ret
      exact ⟨ret_bool (by simp [usableB, *]), by (repeat (first | exact X.refl _ | assumption | refine X.ext ?_ _ | refine X.alloc ?_ _ | refine X.drew ?_))⟩
  cases m1 : c.mode == 1
  · go_enter Tryd.func66, Tryd.ntmps66
    go_wp2
    go_ret
    exact ⟨ret_bool (by simp [usableB, *]), by (repeat (first | exact X.refl _ | assumption | refine X.ext ?_ _ | refine X.alloc ?_ _ | refine X.drew ?_))⟩
  cases m3 : c.hash == hashZ f.body
  all_goals
    go_enter Tryd.func66, Tryd.ntmps66
    go_wp2
    refine wp_region_grow0 (by kernel_rfl) (by kernel_rfl) ?_
    repeat (go_big_quiet_step (((first | (go_at_call 70; refine grow_of (sizeOf_c f.body _ _ _ _ _ (hS.mono (X.fr (by (repeat (first | exact X.refl _ | assumption | refine X.ext ?_ _ | refine X.alloc ?_ _ | refine X.drew ?_))) _)))) | (go_at_call 71; refine grow_of (hashOf_c f.body _ _ _ _ _ (hS.mono (X.fr (by (repeat (first | exact X.refl _ | assumption | refine X.ext ?_ _ | refine X.alloc ?_ _ | refine X.drew ?_))) _)) hv))))))
    refine wpQuiet_nil ?_
    rintro _ ⟨y, rfl⟩
    go_wp2
    go_ret
    exact ⟨ret_bool (by simp [usableB, *]), by (repeat (first | exact X.refl _ | assumption | refine X.ext ?_ _ | refine X.alloc ?_ _ | refine X.drew ?_))⟩
set_option maxRecDepth 100000 in
set_option maxHeartbeats 2000000 in
theorem usable_i (c : Co) (bv : Value) (f : Fi) (ba : Option Addr) (bn bc B : Nat) (w : World) (hS : StmtsAt w B ba bn f.body) (hv : bodyB f.body = true) (hG : Gm w) :
    Calls Tryd.prog 59 #[.agg #[.int .i64 (c).root, .string ⟨(c).mod.toArray⟩, .bool (c).init, .int .i64 (c).mode, .int .i64 (c).stamp, .int .i64 (c).size, .int .i64 (c).hash, bv], .agg #[.int .i64 (f).root, .string ⟨(f).pkg.toArray⟩, .string ⟨(f).name.toArray⟩, .bool (f).init, .int .i64 (f).stamp, .slice ba bn bc]] w fun e w' => e = .returned (.bool (usableB c f)) ∧ X w w' := by
  cases m0 : c.mode == 0
  case true =>
    cases m2 : c.stamp == f.stamp <;> cases m3 : c.size == ((szN f.body : Nat) : Int)
    all_goals
      go_enter Tryd.func59, Tryd.ntmps59
      go_wp2
      refine wp_region_grow0 (by kernel_rfl) (by kernel_rfl) ?_
      repeat (go_big_quiet_step (((first | (go_at_call 74; refine grow_of (SizeOf_c f.body _ _ _ _ _ (hS.mono (X.fr (by (repeat (first | exact X.refl _ | assumption | refine X.ext ?_ _ | refine X.alloc ?_ _ | refine X.drew ?_))) _)) hv (hG.mono (by (repeat (first | exact X.refl _ | assumption | refine X.ext ?_ _ | refine X.alloc ?_ _ | refine X.drew ?_)))))) | (go_at_call 75; refine grow_of (HashOf_c f.body _ _ _ _ _ (hS.mono (X.fr (by (repeat (first | exact X.refl _ | assumption | refine X.ext ?_ _ | refine X.alloc ?_ _ | refine X.drew ?_))) _)) hv (hG.mono (by (repeat (first | exact X.refl _ | assumption | refine X.ext ?_ _ | refine X.alloc ?_ _ | refine X.drew ?_))))))))))
      refine wpQuiet_nil ?_
      rintro _ ⟨y, rfl⟩
      go_wp2
      go_ret
      exact ⟨ret_bool (by simp [usableB, *]), by (repeat (first | exact X.refl _ | assumption | refine X.ext ?_ _ | refine X.alloc ?_ _ | refine X.drew ?_))⟩
  cases m1 : c.mode == 1
  · go_enter Tryd.func59, Tryd.ntmps59
    go_wp2
    go_ret
    exact ⟨ret_bool (by simp [usableB, *]), by (repeat (first | exact X.refl _ | assumption | refine X.ext ?_ _ | refine X.alloc ?_ _ | refine X.drew ?_))⟩
  cases m3 : c.hash == hashZ f.body
  all_goals
    go_enter Tryd.func59, Tryd.ntmps59
    go_wp2
    refine wp_region_grow0 (by kernel_rfl) (by kernel_rfl) ?_
    repeat (go_big_quiet_step (((first | (go_at_call 74; refine grow_of (SizeOf_c f.body _ _ _ _ _ (hS.mono (X.fr (by (repeat (first | exact X.refl _ | assumption | refine X.ext ?_ _ | refine X.alloc ?_ _ | refine X.drew ?_))) _)) hv (hG.mono (by (repeat (first | exact X.refl _ | assumption | refine X.ext ?_ _ | refine X.alloc ?_ _ | refine X.drew ?_)))))) | (go_at_call 75; refine grow_of (HashOf_c f.body _ _ _ _ _ (hS.mono (X.fr (by (repeat (first | exact X.refl _ | assumption | refine X.ext ?_ _ | refine X.alloc ?_ _ | refine X.drew ?_))) _)) hv (hG.mono (by (repeat (first | exact X.refl _ | assumption | refine X.ext ?_ _ | refine X.alloc ?_ _ | refine X.drew ?_))))))))))
    refine wpQuiet_nil ?_
    rintro _ ⟨y, rfl⟩
    go_wp2
    go_ret
    exact ⟨ret_bool (by simp [usableB, *]), by (repeat (first | exact X.refl _ | assumption | refine X.ext ?_ _ | refine X.alloc ?_ _ | refine X.drew ?_))⟩

end Go.Proofs.YtjlooplpjliaiaaDoor
