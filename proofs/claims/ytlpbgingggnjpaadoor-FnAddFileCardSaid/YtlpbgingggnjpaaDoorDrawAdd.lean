/- The arguments of AddFile, as they are generated. No condition. -/
import Derived.Test.YtlpbgingggnjpaaDoorAnyFile
namespace Go.Proofs.YtlpbgingggnjpaaDoor
open Go.RowKit

theorem CodeAt.x {w w' : World} {ca : Option Addr} {cn cc : Nat} (h : CodeAt w ca cn cc) (hx : X w w') : CodeAt w' ca cn cc :=
  ⟨h.1, fun h0 => by
    obtain ⟨b, off, h1, h2, h3⟩ := h.2 h0
    exact ⟨b, off, h1, Nat.lt_of_lt_of_le h2 hx.size, fun i hi => by
      obtain ⟨v, hv, hc⟩ := h3 i hi
      exact ⟨v, hv, (hx.cell (p := ⟨b, off + i, none⟩) h2).trans hc⟩⟩⟩
/-- What is drawn: a tree, a file. -/
def DrawnTF (w w' : World) (e : Ending) : Prop := ∃ (l : List Fi) (a : Option Addr) (n c : Nat) (f : Fi) (ba : Option Addr) (bn bc : Nat),
  e = .returned (.tuple #[.agg #[.slice a n c], .agg #[.int .i64 (f).root, .string ⟨(f).pkg.toArray⟩, .string ⟨(f).name.toArray⟩, .bool (f).init, .int .i64 (f).stamp, .slice ba bn bc]]) ∧ FilesAt w' w.heap.size a n l ∧ n ≤ c ∧ n ≤ 11 ∧ Okf f ∧ StmtsAt w' w.heap.size ba bn f.body ∧ bn ≤ bc ∧ bn ≤ 5 ∧ X w w'
set_option maxRecDepth 100000 in
set_option maxHeartbeats 2000000 in
theorem DrawAddFile_c (ca : Option Addr) (cn cc : Nat) (w : World) (hC : CodeAt w ca cn cc) (hn : cn ≤ 1048576) :
    Calls Tryd.prog 33 #[.slice ca cn cc] w fun e w' => DrawnTF w w' e := by
  go_enter Tryd.func33, Tryd.ntmps33
  go_wp2_with fail
  refine calls_name (fun W0 hW0 => ?_)
  obtain ⟨hR1, hR2, hX0⟩ := bx2 hW0
  have hz0 : W0.heap.size = w.heap.size + 2 := by rw [hW0]; simp
  clear hW0
  have hC0 := hC.x hX0
  refine (newReader_c ca cn cc _ hC0.1 hC0.2 hn).mono ?_
  rintro _ w1 ⟨rfl, hr, hx⟩
  have hy : Y W0.heap.size w w1 := Y.of_x (hX0.trans hx)
  replace hR1 := hR1.x hx
  replace hR2 := hR2.x hx
  have hlt := hr.lt
  clear hx hX0 hC0
  have hne1 : w.heap.size ≠ W0.heap.size := by omega
  have hne2 : w.heap.size + 1 ≠ W0.heap.size := by omega
  have hz1 : w.heap.size + 1 < W0.heap.size := by omega
  clear hz0
  go_wp2_with fail
  refine (anyTree_c _ _ _ hr (by omega)).mono ?_
  rintro _ w2 ⟨l, a, n, c, rfl, hF, hnc, hn11, hsm, hr', hy'⟩
  replace hR1 := hR1.y hy' hne1
  replace hR2 := hR2.y hy' hne2
  replace hF := hF.less (B' := W0.heap.size + 1) (by omega)
  replace hy := hy.trans hy'
  replace hr := hr'
  clear hr' hy'
  have hlt2 := hr.lt
  go_wp2_with fail
  refine (anyFile_c _ _ _ hr (by omega)).mono ?_
  rintro _ w3 ⟨f, ba, bc, rfl, hO, ⟨hp1, hp2, hp3⟩, hr', hy'⟩
  replace hR1 := hR1.y hy' hne1
  replace hR2 := hR2.y hy' hne2
  replace hF := hF.mono hy'.fr
  replace hO := own_less hO (show W0.heap.size + 1 ≤ _ by omega)
  replace hy := hy.trans hy'
  clear hr' hy' hr
  have hbc := own_cap hO
  have hS : StmtsAt w3 (W0.heap.size + 1) ba f.body.length f.body := ⟨rfl, by have := hp3.1; omega, fun s hs => ⟨by have := (hp3.2 s hs).1; omega, by have := (hp3.2 s hs).2; omega⟩, Sl.of_own hO⟩
  obtain ⟨hb1, hc1, hf1⟩ := hR1.out
  obtain ⟨hb2, hc2, hf2⟩ := hR2.out
  go_wp2
  clear hc1 hc2
  have hne12 : w.heap.size ≠ w.heap.size + 1 := by omega
  have hne21 : w.heap.size + 1 ≠ w.heap.size := by omega
  have hB1 := Bx.far (p := ⟨w.heap.size + 1, 5, none⟩) (Bx.far (p := ⟨w.heap.size + 1, 4, none⟩) (Bx.far (p := ⟨w.heap.size + 1, 3, none⟩) (Bx.far (p := ⟨w.heap.size + 1, 2, none⟩) (Bx.far (p := ⟨w.heap.size + 1, 1, none⟩) (Bx.far (p := ⟨w.heap.size + 1, 0, none⟩) (Bx.set hR1 0 (.slice a n c)) hne12 (.int .i64 f.root)) hne12 (.string ⟨(f.pkg).toArray⟩)) hne12 (.string ⟨(f.name).toArray⟩)) hne12 (.bool f.init)) hne12 (.int .i64 f.stamp)) hne12 (.slice ba f.body.length bc)
  have hB2 := Bx.set (Bx.set (Bx.set (Bx.set (Bx.set (Bx.set (Bx.far (p := ⟨w.heap.size, 0, none⟩) hR2 hne21 (.slice a n c)) 0 (.int .i64 f.root)) 1 (.string ⟨(f.pkg).toArray⟩)) 2 (.string ⟨(f.name).toArray⟩)) 3 (.bool f.init)) 4 (.int .i64 f.stamp)) 5 (.slice ba f.body.length bc)
  refine bodyPost_ret (v := .tuple #[.agg #[.slice a n c], .agg #[.int .i64 (f).root, .string ⟨(f).pkg.toArray⟩, .string ⟨(f).name.toArray⟩, .bool (f).init, .int .i64 (f).stamp, .slice ba f.body.length bc]]) ?_ rfl ?_
  · obtain ⟨_, hc1, _⟩ := hB1.out
    obtain ⟨_, hc2, _⟩ := hB2.out
    have p0 := hc1 0
    have r0 := hc2 0
    have r1 := hc2 1
    have r2 := hc2 2
    have r3 := hc2 3
    have r4 := hc2 4
    have r5 := hc2 5
    clear hc1 hc2
    simp at p0 r0 r1 r2 r3 r4 r5
    simp [results, Tryd.results33, go_sem, Result.andThen, *]
    done
  · have hfr := (Fr.set (B := W0.heap.size + 1) (p := ⟨w.heap.size, 0, none⟩) (Fr.refl _ w3) (.inr (show w.heap.size < _ by omega)) (.slice a n c)).trans (fr_set6 (show w.heap.size + 1 < W0.heap.size + 1 by omega) (.int .i64 f.root) (.string ⟨(f.pkg).toArray⟩) (.string ⟨(f.name).toArray⟩) (.bool f.init) (.int .i64 f.stamp) (.slice ba f.body.length bc))
    have hyz := y_set6 (Y.set2 (p := ⟨w.heap.size, 0, none⟩) hy (Nat.le_refl _) (.slice a n c)) (show w.heap.size ≤ w.heap.size + 1 by omega) (.int .i64 f.root) (.string ⟨(f.pkg).toArray⟩) (.string ⟨(f.name).toArray⟩) (.bool f.init) (.int .i64 f.stamp) (.slice ba f.body.length bc)
    exact ⟨l, a, n, c, f, ba, f.body.length, bc, rfl, (hF.mono hfr).less (by omega), hnc, hn11, ⟨by omega, by omega⟩, (hS.mono hfr).less (by omega), hbc, by have := hp3.1; omega, Y.x hyz (by omega)⟩

end Go.Proofs.YtlpbgingggnjpaaDoor
