/- CompileFile of the program: the walk. No condition but lengths. -/
import Derived.Test.YtjlooplpjliaiaaDoorCompile
namespace Go.Proofs.YtjlooplpjliaiaaDoor
open Go.RowKit

set_option maxHeartbeats 400000 in
theorem modeOk_c (m : Int) (w : World) : Calls Tryd.prog 40 #[.int .i64 m] w fun e w' => e = .returned (.bool (rangeB m 0 2)) ∧ X w w' := by
  go_enter Tryd.func40, Tryd.ntmps40
  go_wp2_with (go_at_call 73; refine (within_c _ _ _ _).mono ?_; rintro _ _ ⟨rfl, rfl⟩)
  go_ret
  exact ⟨rfl, by (repeat (first | with_reducible exact X.refl _ | with_reducible assumption | with_reducible refine X.setCell ?_ (by first | (simp; done) | (simp; omega)) _ | with_reducible refine X.ext ?_ _ | with_reducible refine X.alloc ?_ _ | with_reducible refine X.drew ?_))⟩
theorem moduleOf_eq {f : Fi} (h : fileB f = true) : moduleOf f = moduleB f := by rw [moduleOf, if_pos h]
theorem fileB_body {f : Fi} (h : fileB f = true) : bodyB f.body = true := by
  unfold fileB at h
  simp only [Bool.and_eq_true] at h
  exact h.1.2

set_option maxRecDepth 100000 in
set_option maxHeartbeats 4000000 in
theorem CompileFile_c (f : Fi) (mode : Int) (ba : Option Addr) (bn bc B : Nat) (w : World) (hf : Okf f) (hS : StmtsAt w B ba bn f.body) (hv : fileB f = true) (hm : rangeB mode 0 2 = true) (hG : Gm w) :
    Calls Tryd.prog 41 #[.agg #[.int .i64 (f).root, .string ⟨(f).pkg.toArray⟩, .string ⟨(f).name.toArray⟩, .bool (f).init, .int .i64 (f).stamp, .slice ba bn bc], .int .i64 mode] w fun e w' => ∃ ra rc, e = .returned (.agg #[.int .i64 ((compB f mode)).root, .string ⟨((compB f mode)).mod.toArray⟩, .bool ((compB f mode)).init, .int .i64 ((compB f mode)).mode, .int .i64 ((compB f mode)).stamp, .int .i64 ((compB f mode)).size, .int .i64 ((compB f mode)).hash, .slice ra bn rc]) ∧ w'.ownsRow w.heap.size 88 5 (.slice ra bn rc) bn (f.body.flatMap scells) ∧ X w w' := by
  have hb := fileB_body hv
  have Hmo := Lib.hid (moduleOf_eq hv)
  go_enter Tryd.func41, Tryd.ntmps41
  go_wp2_with fail
  refine calls_name (fun W0 hW0 => ?_)
  obtain ⟨hT0, hR0, hX0⟩ := bx2 hW0
  have Hsz0 := Lib.hid (show W0.heap.size = w.heap.size + 2 by rw [hW0]; simp)
  have hne : w.heap.size ≠ w.heap.size + 1 := by omega
  clear hW0
  refine (fileOk_c f ba bn bc B W0 hf (hS.mono (hX0.fr _)) (hG.mono hX0)).mono ?_
  rintro _ w1 ⟨rfl, hx1⟩
  rw [hv]
  go_wp2_with (go_at_call 40; refine (modeOk_c mode _).mono ?_; rintro _ W ⟨rfl, hx2⟩; rw [hm]; have hT := (hT0.x hx1).x hx2; have hR := (hR0.x hx1).x hx2)
  have hXW := (hX0.trans hx1).trans hx2
  have Hsz := Lib.hid (Nat.le_trans (Nat.le_of_eq Hsz0.out.symm) (X.size (hx1.trans hx2)))
  clear hX0 hx1 hx2 hT0 hR0 Hsz0
  have hG0 := hG.mono hXW
  have hS0 := hS.mono (hXW.fr _)
  obtain ⟨t0, t1, t2, t3, t4, t5⟩ := keepT hT
  go_region_held_law (fun w' => w'.cell? ⟨w.heap.size, 0, none⟩ = some (.int .i64 f.root) ∧ w'.cell? ⟨w.heap.size, 1, none⟩ = some (.string ⟨(f.pkg).toArray⟩) ∧ w'.cell? ⟨w.heap.size, 2, none⟩ = some (.string ⟨(f.name).toArray⟩) ∧ w'.cell? ⟨w.heap.size, 3, none⟩ = some (.bool f.init) ∧ w'.cell? ⟨w.heap.size, 4, none⟩ = some (.int .i64 f.stamp) ∧ w'.cell? ⟨w.heap.size, 5, none⟩ = some (.slice ba bn bc))
    (first
      | (refine keepT (hT.x ?_); (repeat (first | with_reducible exact X.refl _ | with_reducible assumption | with_reducible refine X.alloc ?_ _ | with_reducible refine X.drew ?_)); done)
      | (refine keepT (Bx.far8 (hT.x ?_) hne _ _ _ _ _ _ _ _); with_reducible assumption))
    (first
      | (go_at_call 58; refine (ModuleOf_c f ba bn bc B _ hf (hS0.mono (X.fr (by (repeat (first | with_reducible exact X.refl _ | with_reducible assumption | with_reducible refine X.setCell ?_ (by first | (simp; done) | (simp; omega)) _ | with_reducible refine X.ext ?_ _ | with_reducible refine X.alloc ?_ _ | with_reducible refine X.drew ?_))) _)) (hG0.mono (by (repeat (first | with_reducible exact X.refl _ | with_reducible assumption | with_reducible refine X.setCell ?_ (by first | (simp; done) | (simp; omega)) _ | with_reducible refine X.ext ?_ _ | with_reducible refine X.alloc ?_ _ | with_reducible refine X.drew ?_))))).mono ?_; rintro _ wm ⟨rfl, hxm⟩; rw [Hmo.out]; (have hXm : X W wm := X.trans (by (repeat (first | with_reducible exact X.refl _ | with_reducible assumption | with_reducible refine X.setCell ?_ (by first | (simp; done) | (simp; omega)) _ | with_reducible refine X.ext ?_ _ | with_reducible refine X.alloc ?_ _ | with_reducible refine X.drew ?_))) hxm); ((try clear m0 m1 m2 m3 m4 m5 m6 m7 hfm); obtain ⟨m0, m1, m2, m3, m4, m5, m6, m7, hfm⟩ := cellsR (hR.x hXm)))
      | (go_at_call 74; refine (SizeOf_c f.body ba bn bc B _ (hS0.mono (X.fr (by (repeat (first | with_reducible exact X.refl _ | with_reducible assumption | with_reducible refine X.setCell ?_ (by first | (simp; done) | (simp; omega)) _ | with_reducible refine X.ext ?_ _ | with_reducible refine X.alloc ?_ _ | with_reducible refine X.drew ?_))) _)) hb (hG0.mono (by (repeat (first | with_reducible exact X.refl _ | with_reducible assumption | with_reducible refine X.setCell ?_ (by first | (simp; done) | (simp; omega)) _ | with_reducible refine X.ext ?_ _ | with_reducible refine X.alloc ?_ _ | with_reducible refine X.drew ?_))))).mono ?_; rintro _ wm ⟨rfl, hxm⟩; (have hXm : X W wm := X.trans (by (repeat (first | with_reducible exact X.refl _ | with_reducible assumption | with_reducible refine X.setCell ?_ (by first | (simp; done) | (simp; omega)) _ | with_reducible refine X.ext ?_ _ | with_reducible refine X.alloc ?_ _ | with_reducible refine X.drew ?_))) hxm); ((try clear m0 m1 m2 m3 m4 m5 m6 m7 hfm); obtain ⟨m0, m1, m2, m3, m4, m5, m6, m7, hfm⟩ := cellsR (hR.x hXm)))
      | (go_at_call 75; refine (HashOf_c f.body ba bn bc B _ (hS0.mono (X.fr (by (repeat (first | with_reducible exact X.refl _ | with_reducible assumption | with_reducible refine X.setCell ?_ (by first | (simp; done) | (simp; omega)) _ | with_reducible refine X.ext ?_ _ | with_reducible refine X.alloc ?_ _ | with_reducible refine X.drew ?_))) _)) hb (hG0.mono (by (repeat (first | with_reducible exact X.refl _ | with_reducible assumption | with_reducible refine X.setCell ?_ (by first | (simp; done) | (simp; omega)) _ | with_reducible refine X.ext ?_ _ | with_reducible refine X.alloc ?_ _ | with_reducible refine X.drew ?_))))).mono ?_; rintro _ wm ⟨rfl, hxm⟩; (have hXm : X W wm := X.trans (by (repeat (first | with_reducible exact X.refl _ | with_reducible assumption | with_reducible refine X.setCell ?_ (by first | (simp; done) | (simp; omega)) _ | with_reducible refine X.ext ?_ _ | with_reducible refine X.alloc ?_ _ | with_reducible refine X.drew ?_))) hxm); ((try clear m0 m1 m2 m3 m4 m5 m6 m7 hfm); obtain ⟨m0, m1, m2, m3, m4, m5, m6, m7, hfm⟩ := cellsR (hR.x hXm)))
      | (go_at_call 60; refine (cloneBody_c f.body ba bn bc B _ (hS0.mono (X.fr (by (repeat (first | with_reducible exact X.refl _ | with_reducible assumption | with_reducible refine X.setCell ?_ (by first | (simp; done) | (simp; omega)) _ | with_reducible refine X.ext ?_ _ | with_reducible refine X.alloc ?_ _ | with_reducible refine X.drew ?_))) _))).mono ?_; rintro _ wm ⟨ra, rc, rfl, hO, hxm⟩; replace hO := own_less hO (X.size (w := W) (by (repeat (first | with_reducible exact X.refl _ | with_reducible assumption | with_reducible refine X.setCell ?_ (by first | (simp; done) | (simp; omega)) _ | with_reducible refine X.ext ?_ _ | with_reducible refine X.alloc ?_ _ | with_reducible refine X.drew ?_)))); (have hXm : X W wm := X.trans (by (repeat (first | with_reducible exact X.refl _ | with_reducible assumption | with_reducible refine X.setCell ?_ (by first | (simp; done) | (simp; omega)) _ | with_reducible refine X.ext ?_ _ | with_reducible refine X.alloc ?_ _ | with_reducible refine X.drew ?_))) hxm); ((try clear m0 m1 m2 m3 m4 m5 m6 m7 hfm); obtain ⟨m0, m1, m2, m3, m4, m5, m6, m7, hfm⟩ := cellsR (hR.x hXm))))
  all_goals
    go_wp2
    refine bodyPost_row Tryd.results41 rfl (Bx.set8 (hR.x hXm) _ _ _ _ _ _ _ _) co_S rfl rfl ?_
    have hXw := hXW.trans hXm
    have hsz := Hsz.out
    refine ⟨ra, rc, rfl, own_less (own_fr hO (by (repeat (first | with_reducible exact Fr.refl _ _ | with_reducible assumption | with_reducible refine Fr.set ?_ (.inr (by first | (simp; done) | (simp; omega))) _)))) (by omega), by (repeat (first | with_reducible exact X.refl _ | with_reducible assumption | with_reducible refine X.setCell ?_ (by first | (simp; done) | (simp; omega)) _ | with_reducible refine X.ext ?_ _ | with_reducible refine X.alloc ?_ _ | with_reducible refine X.drew ?_))⟩

end Go.Proofs.YtjlooplpjliaiaaDoor
