/- The generators of bodies and of files that may be invalid; the arguments of LoadBody. No condition but that the reader has not read too far. -/
import Derived.Test.YtgjfjjhmgbemcaaGreatDoorId
import Derived.Deep.RegionHeld3
namespace Go.Proofs.YtgjfjjhmgbemcaaGreatDoor
open Go.RowKit

set_option maxRecDepth 100000 in
set_option maxHeartbeats 2000000 in
theorem anyBody_c (rb m : Nat) (w : World) (hr : Rdr w rb m) (hm : m + 70 ≤ 1000000000) :
    Calls Tryz.prog 123 #[.pointer (some ⟨rb, 0, none⟩)] w fun e w' => ∃ (l : List St) (a : Option Addr) (c : Nat), e = .returned (.slice a l.length c) ∧ w'.ownsRow w.heap.size 148 5 (.slice a l.length c) l.length (l.flatMap scells) ∧
      (l.length ≤ 4 ∧ ∀ s ∈ l, s.mod.length ≤ 20 ∧ s.name.length ≤ 20) ∧ Rdr w' rb (m + 70) ∧ Y rb w w' := by
  have hlt := hr.lt
  go_enter Tryz.func123, Tryz.ntmps123
  go_wp2_with fail
  refine (someBody_c rb _ _ hr (by omega)).mono ?_
  rintro _ w1 ⟨l, a, c, rfl, hO, hl, hr1, hy1⟩
  have hw1 := hy1.size
  cases l with
  | nil =>
    go_wp2
    go_ret
    exact ⟨[], a, c, rfl, hO, hl, hr1.weak (by omega) (by omega), hy1⟩
  | cons s ls =>
    simp only [List.length_cons] at hO hl ⊢
    obtain ⟨g, rfl, hgB, hgl⟩ := own_form hO (by omega)
    have hi : (0 : Int) < (ls.length : Int) + 1 := by omega
    go_wp2_with fail
    refine (pick_c rb _ 20 _ hr1 (by omega) (by omega)).mono ?_
    rintro _ w2 ⟨q, rfl, hq, hr2, hy2⟩
    have hO2 := own_fr hO (hy2.fr.mono (by omega))
    have hgl2 : g < w2.heap.size := Nat.lt_of_lt_of_le hgl hy2.size
    replace hy2 := hy1.trans hy2
    clear hO hy1 hr1
    by_cases hq0 : q = 0
    · subst hq0
      go_wp2_with fail
      refine (one_c rb _ [-1, 6] _ _ _ (rb + 1) _ (hr2.x (by (repeat (first | exact X.refl _ | assumption | refine X.ext ?_ _ | refine X.alloc ?_ _ | refine X.drew ?_)))) (by omega) (ints_lit (w := w2) rfl (by omega) rfl rfl (by decide)) (by omega) (by decide)).mono ?_
      rintro _ w3 ⟨x, rfl, hx, hr3, hy3⟩
      replace hy3 := (Y.of_x (w := w2) (by (repeat (first | exact X.refl _ | assumption | refine X.ext ?_ _ | refine X.alloc ?_ _ | refine X.drew ?_)))).trans hy3
      have hO3 := own_fr hO2 (hy3.fr.mono (by omega))
      have hy4 := hy2.trans hy3
      have hgl3 : g < w3.heap.size := Nat.lt_of_lt_of_le hgl2 hy3.size
      obtain ⟨cs, hTg⟩ := own_block hO3
      obtain ⟨_, hcg, hfg⟩ := Bx.out ⟨_, hTg⟩
      clear hcg
      have e0 : w3.cell? ⟨g, 0, none⟩ = some (.int .i64 s.kind) := row_cell hO3 0 _ rfl
      have hO4 := own_set (k := 0) hO3 (.int .i64 x)
      go_wp2
      go_ret
      refine ⟨{ s with kind := x } :: ls, _, c, rfl, hO4, ⟨hl.1, fun t ht => ?_⟩, Rdr.set2 (p := ⟨g, 0, none⟩) (hr3.weak (by omega) (by omega)) (show rb < g by omega) _, Y.set2 (p := ⟨g, 0, none⟩) hy4 (show w.heap.size ≤ g by omega) _⟩
      rcases List.mem_cons.1 ht with rfl | ht
      · have := hl.2 s (List.mem_cons_self ..); exact this
      · exact hl.2 t (List.mem_cons_of_mem _ ht)
    by_cases hq1 : q = 1
    · subst hq1
      go_wp2_with fail
      refine (one_c rb _ [-1, 100] _ _ _ (rb + 1) _ (hr2.x (by (repeat (first | exact X.refl _ | assumption | refine X.ext ?_ _ | refine X.alloc ?_ _ | refine X.drew ?_)))) (by omega) (ints_lit (w := w2) rfl (by omega) rfl rfl (by decide)) (by omega) (by decide)).mono ?_
      rintro _ w3 ⟨x, rfl, hx, hr3, hy3⟩
      replace hy3 := (Y.of_x (w := w2) (by (repeat (first | exact X.refl _ | assumption | refine X.ext ?_ _ | refine X.alloc ?_ _ | refine X.drew ?_)))).trans hy3
      have hO3 := own_fr hO2 (hy3.fr.mono (by omega))
      have hy4 := hy2.trans hy3
      have hgl3 : g < w3.heap.size := Nat.lt_of_lt_of_le hgl2 hy3.size
      obtain ⟨cs, hTg⟩ := own_block hO3
      obtain ⟨_, hcg, hfg⟩ := Bx.out ⟨_, hTg⟩
      clear hcg
      have e4 : w3.cell? ⟨g, 4, none⟩ = some (.int .i64 s.val) := row_cell hO3 4 _ rfl
      have hO4 := own_set (k := 4) hO3 (.int .i64 x)
      go_wp2
      go_ret
      refine ⟨{ s with val := x } :: ls, _, c, rfl, hO4, ⟨hl.1, fun t ht => ?_⟩, Rdr.set2 (p := ⟨g, 4, none⟩) (hr3.weak (by omega) (by omega)) (show rb < g by omega) _, Y.set2 (p := ⟨g, 4, none⟩) hy4 (show w.heap.size ≤ g by omega) _⟩
      rcases List.mem_cons.1 ht with rfl | ht
      · have := hl.2 s (List.mem_cons_self ..); exact this
      · exact hl.2 t (List.mem_cons_of_mem _ ht)
    by_cases hq2 : q = 2
    · subst hq2
      go_wp2_with fail
      refine (of_c rb _ [[], [65], [97]] _ _ _ (rb + 1) _ (hr2.x (by (repeat (first | exact X.refl _ | assumption | refine X.ext ?_ _ | refine X.alloc ?_ _ | refine X.drew ?_)))) (by omega) (strs_lit (w := w2) rfl (by omega) rfl rfl (by decide) (by decide)) (by omega) (by decide)).mono ?_
      rintro _ w3 ⟨x, rfl, hx, hr3, hy3⟩
      replace hy3 := (Y.of_x (w := w2) (by (repeat (first | exact X.refl _ | assumption | refine X.ext ?_ _ | refine X.alloc ?_ _ | refine X.drew ?_)))).trans hy3
      have hO3 := own_fr hO2 (hy3.fr.mono (by omega))
      have hy4 := hy2.trans hy3
      have hgl3 : g < w3.heap.size := Nat.lt_of_lt_of_le hgl2 hy3.size
      obtain ⟨cs, hTg⟩ := own_block hO3
      obtain ⟨_, hcg, hfg⟩ := Bx.out ⟨_, hTg⟩
      clear hcg
      have e1 : w3.cell? ⟨g, 1, none⟩ = some (.string ⟨(s.mod).toArray⟩) := row_cell hO3 1 _ rfl
      have hO4 := own_set (k := 1) hO3 (.string ⟨(x).toArray⟩)
      go_wp2
      go_ret
      refine ⟨{ s with mod := x } :: ls, _, c, rfl, hO4, ⟨hl.1, fun t ht => ?_⟩, Rdr.set2 (p := ⟨g, 1, none⟩) (hr3.weak (by omega) (by omega)) (show rb < g by omega) _, Y.set2 (p := ⟨g, 1, none⟩) hy4 (show w.heap.size ≤ g by omega) _⟩
      rcases List.mem_cons.1 ht with rfl | ht
      · have := hl.2 s (List.mem_cons_self ..); exact ⟨by simp only [List.mem_cons, List.mem_nil_iff, or_false] at hx; rcases hx with rfl | rfl | rfl <;> simp, this.2⟩
      · exact hl.2 t (List.mem_cons_of_mem _ ht)
    have q0 : ((q : Int) == 0) = false := by simp; omega
    have q1 : ((q : Int) == 1) = false := by simp; omega
    have q2 : ((q : Int) == 2) = false := by simp; omega
    go_wp2
    go_ret
    exact ⟨s :: ls, _, c, rfl, hO2, hl, hr2.weak (by omega) (by omega), hy2⟩

theorem fr_set6 {W : World} {b B : Nat} (h : b < B) (v0 v1 v2 v3 v4 v5 : Value) : Fr B W ((((((W.setCell ⟨b, 0, none⟩ v0).setCell ⟨b, 1, none⟩ v1).setCell ⟨b, 2, none⟩ v2).setCell ⟨b, 3, none⟩ v3).setCell ⟨b, 4, none⟩ v4).setCell ⟨b, 5, none⟩ v5) :=
  (Fr.set (p := ⟨b, 5, none⟩) (Fr.set (p := ⟨b, 4, none⟩) (Fr.set (p := ⟨b, 3, none⟩) (Fr.set (p := ⟨b, 2, none⟩) (Fr.set (p := ⟨b, 1, none⟩) (Fr.set (p := ⟨b, 0, none⟩) (Fr.refl _ _) (.inr h) _) (.inr h) _) (.inr h) _) (.inr h) _) (.inr h) _) (.inr h) _)
theorem rdr_set6 {W : World} {rb m b : Nat} (hr : Rdr W rb m) (h : rb < b) (v0 v1 v2 v3 v4 v5 : Value) : Rdr ((((((W.setCell ⟨b, 0, none⟩ v0).setCell ⟨b, 1, none⟩ v1).setCell ⟨b, 2, none⟩ v2).setCell ⟨b, 3, none⟩ v3).setCell ⟨b, 4, none⟩ v4).setCell ⟨b, 5, none⟩ v5) rb m :=
  (Rdr.set2 (p := ⟨b, 5, none⟩) (Rdr.set2 (p := ⟨b, 4, none⟩) (Rdr.set2 (p := ⟨b, 3, none⟩) (Rdr.set2 (p := ⟨b, 2, none⟩) (Rdr.set2 (p := ⟨b, 1, none⟩) (Rdr.set2 (p := ⟨b, 0, none⟩) hr h _) h _) h _) h _) h _) h _)
theorem y_set6 {w W : World} {rb b : Nat} (hy : Y rb w W) (h : w.heap.size ≤ b) (v0 v1 v2 v3 v4 v5 : Value) : Y rb w ((((((W.setCell ⟨b, 0, none⟩ v0).setCell ⟨b, 1, none⟩ v1).setCell ⟨b, 2, none⟩ v2).setCell ⟨b, 3, none⟩ v3).setCell ⟨b, 4, none⟩ v4).setCell ⟨b, 5, none⟩ v5) :=
  (Y.set2 (p := ⟨b, 5, none⟩) (Y.set2 (p := ⟨b, 4, none⟩) (Y.set2 (p := ⟨b, 3, none⟩) (Y.set2 (p := ⟨b, 2, none⟩) (Y.set2 (p := ⟨b, 1, none⟩) (Y.set2 (p := ⟨b, 0, none⟩) hy h _) h _) h _) h _) h _) h _)

set_option maxRecDepth 100000 in
set_option maxHeartbeats 2000000 in
theorem anyFile_c (rb m : Nat) (w : World) (hr : Rdr w rb m) (hm : m + 160 ≤ 1000000000) :
    Calls Tryz.prog 70 #[.pointer (some ⟨rb, 0, none⟩)] w fun e w' => ∃ (f : Fi) (ba : Option Addr) (bc : Nat), e = .returned (.agg #[.int .i64 (f).root, .string ⟨(f).pkg.toArray⟩, .string ⟨(f).name.toArray⟩, .bool (f).init, .int .i64 (f).stamp, .slice ba f.body.length bc]) ∧ w'.ownsRow w.heap.size 148 5 (.slice ba f.body.length bc) f.body.length (f.body.flatMap scells) ∧
      (f.pkg.length ≤ 20 ∧ f.name.length ≤ 20 ∧ SmallB f.body) ∧ Rdr w' rb (m + 160) ∧ Y rb w w' := by
  have hlt := hr.lt
  have hBr := Bx.new w #[.int .i64 0, .string ⟨#[]⟩, .string ⟨#[]⟩, .bool false, .int .i64 0, .slice none 0 0] 44
  have hner : w.heap.size ≠ rb := by omega
  have hy := Y.of_x (rb := rb) (w := w) (w' := w.alloc (.cells #[.int .i64 0, .string ⟨#[]⟩, .string ⟨#[]⟩, .bool false, .int .i64 0, .slice none 0 0] 44)) (by (repeat (first | exact X.refl _ | assumption | refine X.ext ?_ _ | refine X.alloc ?_ _ | refine X.drew ?_)))
  replace hr := hr.x (w' := w.alloc (.cells #[.int .i64 0, .string ⟨#[]⟩, .string ⟨#[]⟩, .bool false, .int .i64 0, .slice none 0 0] 44)) (by (repeat (first | exact X.refl _ | assumption | refine X.ext ?_ _ | refine X.alloc ?_ _ | refine X.drew ?_)))
  go_enter Tryz.func70, Tryz.ntmps70
  go_wp2_with fail
  refine (someFile_c rb _ _ hr (by omega)).mono ?_
  rintro _ w1 ⟨f, ba, bc, rfl, hO, ⟨hp1, hp2, hp3⟩, hr', hy'⟩
  replace hBr := hBr.y hy' hner
  rw [World.size_alloc] at hO
  replace hy := hy.trans ((Y.of_x (by (repeat (first | exact X.refl _ | assumption | refine X.ext ?_ _ | refine X.alloc ?_ _ | refine X.drew ?_)))).trans hy'); replace hr := hr'; clear hr' hy'
  have hw1 := hBr.lt
  have hnef : w1.heap.size ≠ rb := by omega
  have hfr : w.heap.size ≠ w1.heap.size := by omega
  have hBf := Bx.new w1 #[.int .i64 f.root, .string ⟨(f.pkg).toArray⟩, .string ⟨(f.name).toArray⟩, .bool f.init, .int .i64 f.stamp, .slice ba f.body.length bc] 44
  have hTb0 : (w1.alloc (.cells #[.int .i64 f.root, .string ⟨(f.pkg).toArray⟩, .string ⟨(f.name).toArray⟩, .bool f.init, .int .i64 f.stamp, .slice ba f.body.length bc] 44)).heap[w1.heap.size]? = some (.cells #[.int .i64 f.root, .string ⟨(f.pkg).toArray⟩, .string ⟨(f.name).toArray⟩, .bool f.init, .int .i64 f.stamp, .slice ba f.body.length bc] 44 (0, 0)) := heap_alloc_new w1 _
  have hX : X w1 (w1.alloc (.cells #[.int .i64 f.root, .string ⟨(f.pkg).toArray⟩, .string ⟨(f.name).toArray⟩, .bool f.init, .int .i64 f.stamp, .slice ba f.body.length bc] 44)) := by (repeat (first | exact X.refl _ | assumption | refine X.ext ?_ _ | refine X.alloc ?_ _ | refine X.drew ?_))
  replace hBr := hBr.x hX
  replace hy := hy.trans (Y.of_x hX)
  replace hr := hr.x hX
  replace hO := own_fr hO (hX.fr _)
  have hsX := hX.size
  clear hX
  go_wp2_with fail
  refine (pick_c rb _ 16 _ hr (by omega) (by omega)).mono ?_
  rintro _ w2 ⟨q, rfl, hq, hr2, hy2⟩
  replace hBf := hBf.y hy2 hnef
  have hTb := at_y hTb0 hy2 hnef
  replace hBr := hBr.y hy2 hner
  replace hO := own_fr hO (hy2.fr.mono (by omega))
  have hyw := hy.trans hy2
  have hs2 : w1.heap.size < w2.heap.size := hBf.lt
  clear hy hr hy2 hsX hTb0
  by_cases hq0 : q = 0
  · subst hq0
    obtain ⟨hb, hc, hf⟩ := hBf.out
    obtain ⟨hb', hc', hf'⟩ := hBr.out
    have hBf2 := Bx.set hBf 3 (.bool (!f.init))
    have hBr2 := Bx.far hBr (p := ⟨w1.heap.size, 3, none⟩) hfr (.bool (!f.init))
    have hO2 := own_set_far hO hTb (by decide) 3 (.bool (!f.init))
    have hr3 := Rdr.set2 (p := ⟨w1.heap.size, 3, none⟩) hr2 (show rb < w1.heap.size by omega) (.bool (!f.init))
    have hy2 := Y.set2 (p := ⟨w1.heap.size, 3, none⟩) hyw (show w.heap.size ≤ w1.heap.size by omega) (.bool (!f.init))
    go_wp2
    refine bodyPost_row Tryz.results70 rfl (Bx.set (Bx.set (Bx.set (Bx.set (Bx.set (Bx.set hBr2 0 _) 1 _) 2 _) 3 _) 4 _) 5 _) file_S rfl rfl ?_
    exact ⟨{ f with init := !f.init }, ba, bc, rfl, own_less (own_fr hO2 (fr_set6 (Nat.lt_succ_self _) _ _ _ _ _ _)) (by omega), ⟨by assumption, by assumption, by assumption⟩, rdr_set6 (hr3.weak (by omega) (by omega)) hlt _ _ _ _ _ _, y_set6 hy2 (Nat.le_refl _) _ _ _ _ _ _⟩
  by_cases hq1 : q = 1
  · subst hq1
    go_wp2_with fail
    refine (anyPackage_c rb _ _ hr2 (by omega)).mono ?_
    rintro _ w3 ⟨x, rfl, hx, hr3, hy3⟩
    have hBf3 := hBf.y hy3 hnef
    have hBr3 := hBr.y hy3 hner
    have hTb3 := at_y hTb hy3 hnef
    have hO3 := own_fr hO (hy3.fr.mono (by omega))
    have hy4 := hyw.trans hy3
    have hBf2 := Bx.set hBf3 1 (.string ⟨(x).toArray⟩)
    have hBr2 := Bx.far hBr3 (p := ⟨w1.heap.size, 1, none⟩) hfr (.string ⟨(x).toArray⟩)
    have hO2 := own_set_far hO3 hTb3 (by decide) 1 (.string ⟨(x).toArray⟩)
    have hr2 := Rdr.set2 (p := ⟨w1.heap.size, 1, none⟩) hr3 (show rb < w1.heap.size by omega) (.string ⟨(x).toArray⟩)
    have hy2 := Y.set2 (p := ⟨w1.heap.size, 1, none⟩) hy4 (show w.heap.size ≤ w1.heap.size by omega) (.string ⟨(x).toArray⟩)
    clear hBf hBr hTb hO hyw hr3 hy3 hy4 hO3 hTb3
    obtain ⟨hb, hc, hf⟩ := hBf3.out
    obtain ⟨hb', hc', hf'⟩ := hBr3.out
    clear hBf3 hBr3
    go_wp2
    refine bodyPost_row Tryz.results70 rfl (Bx.set (Bx.set (Bx.set (Bx.set (Bx.set (Bx.set hBr2 0 _) 1 _) 2 _) 3 _) 4 _) 5 _) file_S rfl rfl ?_
    exact ⟨{ f with pkg := x }, ba, bc, rfl, own_less (own_fr hO2 (fr_set6 (Nat.lt_succ_self _) _ _ _ _ _ _)) (by omega), ⟨by assumption, by assumption, by assumption⟩, rdr_set6 (hr2.weak (by omega) (by omega)) hlt _ _ _ _ _ _, y_set6 hy2 (Nat.le_refl _) _ _ _ _ _ _⟩
  by_cases hq2 : q = 2
  · subst hq2
    go_wp2_with fail
    refine (anyBody_c rb _ _ hr2 (by omega)).mono ?_
    rintro _ w3 ⟨bd, b3, c3, rfl, hOb, hbd, hr3, hy3⟩
    have hBf3 := hBf.y hy3 hnef
    have hBr3 := hBr.y hy3 hner
    have hy4 := hyw.trans hy3
    have hBf2 := Bx.set hBf3 5 (.slice b3 bd.length c3)
    have hBr2 := Bx.far hBr3 (p := ⟨w1.heap.size, 5, none⟩) hfr (.slice b3 bd.length c3)
    have hO2 := own_less (own_fr hOb (Fr.set (p := ⟨w1.heap.size, 5, none⟩) (Fr.refl _ _) (.inr hs2) (.slice b3 bd.length c3))) (show w.heap.size + 1 ≤ w2.heap.size by omega)
    have hr2 := Rdr.set2 (p := ⟨w1.heap.size, 5, none⟩) hr3 (show rb < w1.heap.size by omega) (.slice b3 bd.length c3)
    have hy2 := Y.set2 (p := ⟨w1.heap.size, 5, none⟩) hy4 (show w.heap.size ≤ w1.heap.size by omega) (.slice b3 bd.length c3)
    have hsm : SmallB bd := hbd
    clear hBf hBr hTb hO hyw hr3 hy3 hy4 hOb
    obtain ⟨hb, hc, hf⟩ := hBf3.out
    obtain ⟨hb', hc', hf'⟩ := hBr3.out
    clear hBf3 hBr3
    go_wp2
    refine bodyPost_row Tryz.results70 rfl (Bx.set (Bx.set (Bx.set (Bx.set (Bx.set (Bx.set hBr2 0 _) 1 _) 2 _) 3 _) 4 _) 5 _) file_S rfl rfl ?_
    exact ⟨{ f with body := bd }, b3, c3, rfl, own_less (own_fr hO2 (fr_set6 (Nat.lt_succ_self _) _ _ _ _ _ _)) (by omega), ⟨by assumption, by assumption, by assumption⟩, rdr_set6 (hr2.weak (by omega) (by omega)) hlt _ _ _ _ _ _, y_set6 hy2 (Nat.le_refl _) _ _ _ _ _ _⟩
  · have q0 : ((q : Int) == 0) = false := by simp; omega
    have q1 : ((q : Int) == 1) = false := by simp; omega
    have q2 : ((q : Int) == 2) = false := by simp; omega
    have hBf2 := hBf
    have hBr2 := hBr
    have hO2 := hO
    have hy2 := hyw
    clear hBf hBr hO hyw hTb
    obtain ⟨hb, hc, hf⟩ := hBf2.out
    obtain ⟨hb', hc', hf'⟩ := hBr2.out
    go_wp2
    refine bodyPost_row Tryz.results70 rfl (Bx.set (Bx.set (Bx.set (Bx.set (Bx.set (Bx.set hBr2 0 _) 1 _) 2 _) 3 _) 4 _) 5 _) file_S rfl rfl ?_
    exact ⟨f, ba, bc, rfl, own_less (own_fr hO2 (fr_set6 (Nat.lt_succ_self _) _ _ _ _ _ _)) (by omega), ⟨by assumption, by assumption, by assumption⟩, rdr_set6 (hr2.weak (by omega) (by omega)) hlt _ _ _ _ _ _, y_set6 hy2 (Nat.le_refl _) _ _ _ _ _ _⟩

end Go.Proofs.YtgjfjjhmgbemcaaGreatDoor
