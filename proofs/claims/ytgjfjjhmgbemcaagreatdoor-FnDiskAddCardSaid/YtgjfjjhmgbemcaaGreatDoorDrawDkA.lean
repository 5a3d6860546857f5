/- The arguments of DiskAdd, as they are generated. No condition. -/
import Derived.Test.YtgjfjjhmgbemcaaGreatDoorAnyDisk
import Derived.Test.YtgjfjjhmgbemcaaGreatDoorAnyFile
namespace Go.Proofs.YtgjfjjhmgbemcaaGreatDoor
open Go.RowKit

theorem CodeAt.xA {w w' : World} {ca : Option Addr} {cn cc : Nat} (h : CodeAt w ca cn cc) (hx : X w w') : CodeAt w' ca cn cc :=
  ⟨h.1, fun h0 => by
    obtain ⟨b, off, h1, h2, h3⟩ := h.2 h0
    exact ⟨b, off, h1, Nat.lt_of_lt_of_le h2 hx.size, fun i hi => by
      obtain ⟨v, hv, hc⟩ := h3 i hi
      exact ⟨v, hv, (hx.cell (p := ⟨b, off + i, none⟩) h2).trans hc⟩⟩⟩
theorem ana_cap {w : World} {B n c : Nat} {a : Option Addr} {l : List Fi} (h : FilesO w B a n c l) : n ≤ c := by obtain ⟨_, _, _, hr, _⟩ := h; exact own_cap hr
theorem ana_capD {w : World} {B n c : Nat} {a : Option Addr} {l : List Di} (h : DirsO w B a n c l) : n ≤ c := by obtain ⟨_, _, _, hr, _⟩ := h; exact own_cap hr
/-- What is drawn: a disk, a file, a number. -/
def DrawnDA (w w' : World) (e : Ending) : Prop := ∃ (l : List Fi) (a : Option Addr) (n c : Nat) (kk : Int) (dl : List Di) (da : Option Addr) (dn dc : Nat) (f : Fi) (ba : Option Addr) (bn bc : Nat) (t : Int),
  e = .returned (.tuple #[.agg #[.slice a n c, .int .i64 kk, .slice da dn dc], .agg #[.int .i64 (f).root, .string ⟨(f).pkg.toArray⟩, .string ⟨(f).name.toArray⟩, .bool (f).init, .int .i64 (f).stamp, .slice ba bn bc], .int .i64 t]) ∧ FilesAt w' w.heap.size a n l ∧ n ≤ c ∧ n ≤ 12 ∧ DirsAt w' w.heap.size da dn dl ∧ dn ≤ dc ∧ dn ≤ 21 ∧
    Okf f ∧ StmtsAt w' w.heap.size ba bn f.body ∧ bn ≤ bc ∧ bn ≤ 5 ∧ X w w'
set_option maxRecDepth 100000 in
set_option maxHeartbeats 4000000 in
theorem DrawDiskAdd_c (ca : Option Addr) (cn cc : Nat) (w : World) (hC : CodeAt w ca cn cc) (hn : cn ≤ 1048576) :
    Calls Tryz.prog 27 #[.slice ca cn cc] w fun e w' => DrawnDA w w' e := by
  go_enter Tryz.func27, Tryz.ntmps27
  go_wp2_with fail
  refine calls_name (fun W0 hW0 => ?_)
  obtain ⟨hR1, hR2, hX0⟩ := bx2 hW0
  have hz0 : W0.heap.size = w.heap.size + 2 := by rw [hW0]; simp
  clear hW0
  have hC0 := hC.xA hX0
  refine (newReader_c ca cn cc _ hC0.1 hC0.2 hn).mono ?_
  rintro _ w1 ⟨rfl, hr, hx⟩
  obtain ⟨rb, hrb⟩ : ∃ rb, W0.heap.size = rb := ⟨_, rfl⟩
  rw [hrb] at hr ⊢
  have hy : Y rb w w1 := Y.of_x (hX0.trans hx)
  replace hR1 := hR1.x hx
  replace hR2 := hR2.x hx
  have hlt := hr.lt
  have hwr : w.heap.size + 1 < rb := by omega
  have hne1 : w.heap.size ≠ rb := by omega
  have hne2 : w.heap.size + 1 ≠ rb := by omega
  clear hx hX0 hC0 hrb hz0
  go_wp2_with fail
  refine (anyDisk_c rb _ _ hr (by omega)).mono ?_
  rintro _ w2 ⟨a, n, c, kk, da, dn, dc, l, dl, rfl, hV, hr2, hy2⟩
  replace hR1 := hR1.y hy2 hne1
  replace hR2 := hR2.y hy2 hne2
  replace hV := hV.less (B' := rb + 1) (by omega)
  have hz2 := hy2.size
  replace hy := hy.trans hy2
  clear hr hy2
  go_wp2_with fail
  refine (anyFile_c rb _ _ hr2 (by omega)).mono ?_
  rintro _ w3 ⟨f, ba, bc, rfl, hO, ⟨hp1, hp2, hp3⟩, hr3, hy3⟩
  replace hR1 := hR1.y hy3 hne1
  replace hR2 := hR2.y hy3 hne2
  replace hV := hV.fr hy3.fr
  replace hO := own_less hO (show rb + 1 ≤ _ by omega)
  have hz3 := hy3.size
  replace hy := hy.trans hy3
  clear hr2 hy3
  go_wp2_with fail
  refine (one_c rb _ [1, 0, 2, 200, -1] _ _ _ (rb + 1) _ (hr3.x (by (repeat (first | with_reducible exact X.refl _ | with_reducible assumption | with_reducible refine X.setCell ?_ (by first | (simp; done) | (simp; omega)) _ | with_reducible refine X.ext ?_ _ | with_reducible refine X.alloc ?_ _ | with_reducible refine X.drew ?_)))) (by omega) (ints_lit (by simp) (by omega) rfl rfl (by decide)) (by omega) (by decide)).mono ?_
  rintro _ w4 ⟨t, rfl, _, hr4, hy4⟩
  replace hy4 : Y rb w3 w4 := (Y.of_x (by (repeat (first | with_reducible exact X.refl _ | with_reducible assumption | with_reducible refine X.setCell ?_ (by first | (simp; done) | (simp; omega)) _ | with_reducible refine X.ext ?_ _ | with_reducible refine X.alloc ?_ _ | with_reducible refine X.drew ?_)))).trans hy4
  replace hR1 := hR1.y hy4 hne1
  replace hR2 := hR2.y hy4 hne2
  replace hV := hV.fr hy4.fr
  replace hO := own_fr hO hy4.fr
  replace hy := hy.trans hy4
  clear hr3 hr4 hy4
  have hbc := own_cap hO
  have hS : StmtsAt w4 (rb + 1) ba f.body.length f.body := ⟨rfl, by have := hp3.1; omega, fun s hs => ⟨by have := (hp3.2 s hs).1; omega, by have := (hp3.2 s hs).2; omega⟩, Sl.of_own hO⟩
  obtain ⟨hb1, hc1, hf1⟩ := hR1.out
  obtain ⟨hb2, hc2, hf2⟩ := hR2.out
  go_wp2
  clear hc1 hc2
  have hne12 : w.heap.size ≠ w.heap.size + 1 := by omega
  have hne21 : w.heap.size + 1 ≠ w.heap.size := by omega
  have hB1 := Bx.far (p := ⟨w.heap.size + 1, 5, none⟩) (Bx.far (p := ⟨w.heap.size + 1, 4, none⟩) (Bx.far (p := ⟨w.heap.size + 1, 3, none⟩) (Bx.far (p := ⟨w.heap.size + 1, 2, none⟩) (Bx.far (p := ⟨w.heap.size + 1, 1, none⟩) (Bx.far (p := ⟨w.heap.size + 1, 0, none⟩) (Bx.set (Bx.set (Bx.set hR1 0 (.slice a n c)) 1 (.int .i64 kk)) 2 (.slice da dn dc)) hne12 (.int .i64 f.root)) hne12 (.string ⟨(f.pkg).toArray⟩)) hne12 (.string ⟨(f.name).toArray⟩)) hne12 (.bool f.init)) hne12 (.int .i64 f.stamp)) hne12 (.slice ba f.body.length bc)
  have hB2 := Bx.set (Bx.set (Bx.set (Bx.set (Bx.set (Bx.set (Bx.far (p := ⟨w.heap.size, 2, none⟩) (Bx.far (p := ⟨w.heap.size, 1, none⟩) (Bx.far (p := ⟨w.heap.size, 0, none⟩) hR2 hne21 (.slice a n c)) hne21 (.int .i64 kk)) hne21 (.slice da dn dc)) 0 (.int .i64 f.root)) 1 (.string ⟨(f.pkg).toArray⟩)) 2 (.string ⟨(f.name).toArray⟩)) 3 (.bool f.init)) 4 (.int .i64 f.stamp)) 5 (.slice ba f.body.length bc)
  refine bodyPost_ret (v := .tuple #[.agg #[.slice a n c, .int .i64 kk, .slice da dn dc], .agg #[.int .i64 (f).root, .string ⟨(f).pkg.toArray⟩, .string ⟨(f).name.toArray⟩, .bool (f).init, .int .i64 (f).stamp, .slice ba f.body.length bc], .int .i64 t]) ?_ rfl ?_
  · obtain ⟨_, hc1, _⟩ := hB1.out
    obtain ⟨_, hc2, _⟩ := hB2.out
    have p0 := hc1 0
    have p1 := hc1 1
    have p2 := hc1 2
    have r0 := hc2 0
    have r1 := hc2 1
    have r2 := hc2 2
    have r3 := hc2 3
    have r4 := hc2 4
    have r5 := hc2 5
    clear hc1 hc2
    simp at p0 p1 p2 r0 r1 r2 r3 r4 r5
    simp [results, Tryz.results27, go_sem, Result.andThen, *]
    done
  · have hfr3 : Fr (rb + 1) w4 (((w4.setCell ⟨w.heap.size, 0, none⟩ (.slice a n c)).setCell ⟨w.heap.size, 1, none⟩ (.int .i64 kk)).setCell ⟨w.heap.size, 2, none⟩ (.slice da dn dc)) :=
      Fr.set (Fr.set (Fr.set (Fr.refl _ _) (.inr (by show w.heap.size < _; omega)) _) (.inr (by show w.heap.size < _; omega)) _) (.inr (by show w.heap.size < _; omega)) _
    have hfr := hfr3.trans (fr_set6 (show w.heap.size + 1 < rb + 1 by omega) (.int .i64 f.root) (.string ⟨(f.pkg).toArray⟩) (.string ⟨(f.name).toArray⟩) (.bool f.init) (.int .i64 f.stamp) (.slice ba f.body.length bc))
    have hyz := y_set6 (y_set3 hy (Nat.le_refl _) (.slice a n c) (.int .i64 kk) (.slice da dn dc)) (show w.heap.size ≤ w.heap.size + 1 by omega) (.int .i64 f.root) (.string ⟨(f.pkg).toArray⟩) (.string ⟨(f.name).toArray⟩) (.bool f.init) (.int .i64 f.stamp) (.slice ba f.body.length bc)
    obtain ⟨v1, v2, v3, v4, v5, v6⟩ := hV
    exact ⟨l, a, n, c, kk, dl, da, dn, dc, f, ba, f.body.length, bc, t, rfl, ((v1.at v3).mono hfr).less (by omega), ana_cap v1, v5, ((v2.at v4).mono hfr).less (by omega), ana_capD v2, v6, ⟨by omega, by omega⟩, (hS.mono hfr).less (by omega), hbc, by have := hp3.1; omega, Y.x hyz (by omega)⟩

end Go.Proofs.YtgjfjjhmgbemcaaGreatDoor
