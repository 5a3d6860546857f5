/- A tree, a path and a name, as they are generated. No condition but the reader's. -/
import Derived.Test.YtlpbgingggnjpaaGreatDoorId
import Derived.Test.YtlpbgingggnjpaaGreatDoorIc
import Derived.Deep.RegionHeld3
namespace Go.Proofs.YtlpbgingggnjpaaGreatDoor
open Go.RowKit

theorem moduleB_len {f : Fi} (h : SmallF f) : (moduleB f).length ≤ 100 := by
  obtain ⟨h1, h2, _⟩ := h
  unfold moduleB childL
  split
  · omega
  · split
    · omega
    · simp; omega

set_option maxRecDepth 100000 in
set_option maxHeartbeats 1000000 in
theorem nameOf_c (rb m : Nat) (w : World) (hr : Rdr w rb m) (hm : m + 800 ≤ 1000000000) :
    Calls Tryz.prog 61 #[.pointer (some ⟨rb, 0, none⟩)] w fun e w' => ∃ (l : List Fi) (a : Option Addr) (n c : Nat) (path : List Int) (pa : Option Addr) (pn pc : Nat) (s : List UInt8),
      e = .returned (.tuple #[.agg #[.slice a n c], .slice pa pn pc, .string ⟨(s).toArray⟩]) ∧ FilesAt w' w.heap.size a n l ∧ n ≤ c ∧ n ≤ 11 ∧ (∀ f ∈ l, SmallF f) ∧ IntsAt w' w.heap.size pa pn path ∧ pn ≤ pc ∧ pn ≤ 3 ∧ s.length ≤ 100 ∧ Y rb w w' := by
  have hBr := Bx.new w #[.slice none 0 0] 25
  have hlt := hr.lt
  have hne : w.heap.size ≠ rb := by omega
  have hy := Y.refl rb w
  go_enter Tryz.func61, Tryz.ntmps61
  go_wp2_with fail
  refine (anyTree_c rb m _ (hr.x (by (repeat (first | exact X.refl _ | assumption | refine X.ext ?_ _ | refine X.alloc ?_ _ | refine X.drew ?_)))) (by omega)).mono ?_
  rintro _ w2 ⟨l, a, n, c, rfl, hF, hnc, hn11, hsm, hr', hy'⟩
  replace hBr := hBr.y hy' hne
  replace hF := hF.less (B' := w.heap.size + 1) (by simp)
  replace hy := hy.trans ((Y.of_x (by (repeat (first | exact X.refl _ | assumption | refine X.ext ?_ _ | refine X.alloc ?_ _ | refine X.drew ?_)))).trans hy'); replace hr := hr'; clear hr' hy'
  have hlt2 := hr.lt
  have hNs := hBr.lt
  have hBt := Bx.new w2 #[.slice a n c] 25
  have hneT : w2.heap.size ≠ rb := by omega
  have hTN : w.heap.size ≠ w2.heap.size := by omega
  go_wp2_with fail
  refine (anyPath_c rb _ _ (hr.x (by (repeat (first | exact X.refl _ | assumption | refine X.ext ?_ _ | refine X.alloc ?_ _ | refine X.drew ?_)))) (by omega)).mono ?_
  rintro _ w3 ⟨path, pa, pn, pc, rfl, hI, hpc, hp3, hr', hy'⟩
  replace hBr := (hBr.x (by (repeat (first | exact X.refl _ | assumption | refine X.ext ?_ _ | refine X.alloc ?_ _ | refine X.drew ?_)))).y hy' hne
  replace hBt := hBt.y hy' hneT
  replace hF := hF.mono ((X.fr (X.alloc (X.refl _) _) _).trans (hy'.fr.mono (by omega)))
  replace hI := hI.less (B' := w.heap.size + 1) (by simp; omega)
  replace hy := hy.trans ((Y.of_x (by (repeat (first | exact X.refl _ | assumption | refine X.ext ?_ _ | refine X.alloc ?_ _ | refine X.drew ?_)))).trans hy'); replace hr := hr'; clear hr' hy'
  have hlt3 := hr.lt
  obtain ⟨hbN, hcN, hfN⟩ := hBr.out
  obtain ⟨hbT, hcT, hfT⟩ := hBt.out
  have t3 := hcT 0
  have n3 := hcN 0
  clear hcT hcN
  by_cases h0 : 0 < n
  · go_wp2_with fail
    refine (pick_c rb _ 4 _ hr (by omega) (by omega)).mono ?_
    rintro _ w4 ⟨k4, rfl, hk4, hr', hy'⟩
    replace hBr := hBr.y hy' hne
    replace hBt := hBt.y hy' hneT
    replace hF := hF.mono (hy'.fr.mono (by omega))
    replace hI := hI.mono (hy'.fr.mono (by omega))
    replace hy := hy.trans ((Y.of_x (by (repeat (first | exact X.refl _ | assumption | refine X.ext ?_ _ | refine X.alloc ?_ _ | refine X.drew ?_)))).trans hy'); replace hr := hr'; clear hr' hy'
    have hlt4 := hr.lt
    clear hbN hfN hbT hfT t3 n3
    obtain ⟨hbN, hcN, hfN⟩ := hBr.out
    obtain ⟨hbT, hcT, hfT⟩ := hBt.out
    have t3 := hcT 0
    have n3 := hcN 0
    clear hcT hcN
    obtain ⟨b, off, bv, rfl, hb0, hb, hall⟩ := files_all hF h0
    go_wp2_with fail
    · go_region_held3 (fun w' => w'.cell? ⟨w2.heap.size, 0, none⟩ = some (.slice (some ⟨b, off, none⟩) n c) ∧ ∀ k, k < n → w'.cell? ⟨b, off + k * 6, none⟩ = some (.int .i64 (nth l k).root) ∧ w'.cell? ⟨b, off + k * 6 + 1, none⟩ = some (.string ⟨((nth l k).pkg).toArray⟩) ∧ w'.cell? ⟨b, off + k * 6 + 2, none⟩ = some (.string ⟨((nth l k).name).toArray⟩) ∧ w'.cell? ⟨b, off + k * 6 + 3, none⟩ = some (.bool (nth l k).init) ∧ w'.cell? ⟨b, off + k * 6 + 4, none⟩ = some (.int .i64 (nth l k).stamp) ∧ w'.cell? ⟨b, off + k * 6 + 5, none⟩ = some (bv k))
        (first | exact ⟨t3, hall⟩ | exact ⟨t8, hall8⟩ | exact ⟨t9, hall9⟩ | exact ⟨(World.cell?_setCell_far _ _ _ _ hTN).trans t9, hallN⟩ | go_keep)
        ((first
          | (go_at_call 64; refine (pick_c rb _ (n : Int) _ (hr.x (by (repeat (first | exact X.refl _ | assumption | refine X.ext ?_ _ | refine X.alloc ?_ _ | refine X.drew ?_)))) (by omega) (by omega)).mono ?_; rintro _ w8 ⟨k, rfl, hk, hr8, hy8⟩; have hkn : k < n := (by omega); have hk1 : (k : Int) < (n : Int) := (by omega); have hBr8 := hBr.y ((Y.of_x (by (repeat (first | exact X.refl _ | assumption | refine X.ext ?_ _ | refine X.alloc ?_ _ | refine X.drew ?_)))).trans hy8) hne; have hBt8 := hBt.y ((Y.of_x (by (repeat (first | exact X.refl _ | assumption | refine X.ext ?_ _ | refine X.alloc ?_ _ | refine X.drew ?_)))).trans hy8) hneT; have t8 := hBt8.out.2.1 0; have hf8 : Fr (w.heap.size + 1) w4 w8 := (X.fr (by (repeat (first | exact X.refl _ | assumption | refine X.ext ?_ _ | refine X.alloc ?_ _ | refine X.drew ?_))) _).trans (hy8.fr.mono (by omega)); have hy9 := hy.trans ((Y.of_x (by (repeat (first | exact X.refl _ | assumption | refine X.ext ?_ _ | refine X.alloc ?_ _ | refine X.drew ?_)))).trans hy8);
             have hall8 : ∀ k, k < n → w8.cell? ⟨b, off + k * 6, none⟩ = some (.int .i64 (nth l k).root) ∧ w8.cell? ⟨b, off + k * 6 + 1, none⟩ = some (.string ⟨((nth l k).pkg).toArray⟩) ∧ w8.cell? ⟨b, off + k * 6 + 2, none⟩ = some (.string ⟨((nth l k).name).toArray⟩) ∧ w8.cell? ⟨b, off + k * 6 + 3, none⟩ = some (.bool (nth l k).init) ∧ w8.cell? ⟨b, off + k * 6 + 4, none⟩ = some (.int .i64 (nth l k).stamp) ∧ w8.cell? ⟨b, off + k * 6 + 5, none⟩ = some (bv k) := (fun q hq => ⟨(hf8.cell hb0 hb).trans (hall q hq).1, (hf8.cell hb0 hb).trans (hall q hq).2.1, (hf8.cell hb0 hb).trans (hall q hq).2.2.1, (hf8.cell hb0 hb).trans (hall q hq).2.2.2.1, (hf8.cell hb0 hb).trans (hall q hq).2.2.2.2.1, (hf8.cell hb0 hb).trans (hall q hq).2.2.2.2.2⟩);
             obtain ⟨g0, g1, g2, g3, g4, g5⟩ := hall8 k hkn; have hsk := hsm (nth l k) (nth_mem (by rw [← hF.len.1]; exact hkn)))
          | (go_at_call 98; refine (moduleName_c (nth l k) (bv k) _ ⟨by have := hsk.1; omega, by have := hsk.2.1; omega⟩).mono ?_; rintro _ w9 ⟨rfl, hx9⟩; have hx89 := X.trans (a := w8) (by (repeat (first | exact X.refl _ | assumption | refine X.ext ?_ _ | refine X.alloc ?_ _ | refine X.drew ?_))) hx9; have hBr9 := hBr8.x hx89; have hBt9 := hBt8.x hx89; obtain ⟨hbN9, hcN9, hfN9⟩ := hBr9.out; have t9 := hBt9.out.2.1 0; have hf9 := hf8.trans (hx89.fr (w.heap.size + 1));
             have hall9 : ∀ k, k < n → w9.cell? ⟨b, off + k * 6, none⟩ = some (.int .i64 (nth l k).root) ∧ w9.cell? ⟨b, off + k * 6 + 1, none⟩ = some (.string ⟨((nth l k).pkg).toArray⟩) ∧ w9.cell? ⟨b, off + k * 6 + 2, none⟩ = some (.string ⟨((nth l k).name).toArray⟩) ∧ w9.cell? ⟨b, off + k * 6 + 3, none⟩ = some (.bool (nth l k).init) ∧ w9.cell? ⟨b, off + k * 6 + 4, none⟩ = some (.int .i64 (nth l k).stamp) ∧ w9.cell? ⟨b, off + k * 6 + 5, none⟩ = some (bv k) := (fun q hq => ⟨(hf9.cell hb0 hb).trans (hall q hq).1, (hf9.cell hb0 hb).trans (hall q hq).2.1, (hf9.cell hb0 hb).trans (hall q hq).2.2.1, (hf9.cell hb0 hb).trans (hall q hq).2.2.2.1, (hf9.cell hb0 hb).trans (hall q hq).2.2.2.2.1, (hf9.cell hb0 hb).trans (hall q hq).2.2.2.2.2⟩);
             have hfN : Fr (w.heap.size + 1) w4 (w9.setCell ⟨w.heap.size, 0, none⟩ (.slice (some ⟨b, off, none⟩) n c)) := Fr.set hf9 (.inr (by simp)) _;
             have hallN : ∀ k, k < n → (w9.setCell ⟨w.heap.size, 0, none⟩ (.slice (some ⟨b, off, none⟩) n c)).cell? ⟨b, off + k * 6, none⟩ = some (.int .i64 (nth l k).root) ∧ (w9.setCell ⟨w.heap.size, 0, none⟩ (.slice (some ⟨b, off, none⟩) n c)).cell? ⟨b, off + k * 6 + 1, none⟩ = some (.string ⟨((nth l k).pkg).toArray⟩) ∧ (w9.setCell ⟨w.heap.size, 0, none⟩ (.slice (some ⟨b, off, none⟩) n c)).cell? ⟨b, off + k * 6 + 2, none⟩ = some (.string ⟨((nth l k).name).toArray⟩) ∧ (w9.setCell ⟨w.heap.size, 0, none⟩ (.slice (some ⟨b, off, none⟩) n c)).cell? ⟨b, off + k * 6 + 3, none⟩ = some (.bool (nth l k).init) ∧ (w9.setCell ⟨w.heap.size, 0, none⟩ (.slice (some ⟨b, off, none⟩) n c)).cell? ⟨b, off + k * 6 + 4, none⟩ = some (.int .i64 (nth l k).stamp) ∧ (w9.setCell ⟨w.heap.size, 0, none⟩ (.slice (some ⟨b, off, none⟩) n c)).cell? ⟨b, off + k * 6 + 5, none⟩ = some (bv k) := (fun q hq => ⟨(hfN.cell hb0 hb).trans (hall q hq).1, (hfN.cell hb0 hb).trans (hall q hq).2.1, (hfN.cell hb0 hb).trans (hall q hq).2.2.1, (hfN.cell hb0 hb).trans (hall q hq).2.2.2.1, (hfN.cell hb0 hb).trans (hall q hq).2.2.2.2.1, (hfN.cell hb0 hb).trans (hall q hq).2.2.2.2.2⟩))))
      have hF9 := hF.mono hf9
      have hI9 := hI.mono hf9
      have hy10 := hy9.trans (Y.of_x hx89)
      have hB2 := Bx.set hBr9 0 (.slice (some ⟨b, off, none⟩) n c)
      have hxs := moduleB_len hsk
      go_wp2
      refine bodyPost_ret (v := .tuple #[.agg #[.slice (some ⟨b, off, none⟩) n c], .slice pa pn pc, .string ⟨(moduleB (nth l k)).toArray⟩]) ?_ rfl ?_
      · obtain ⟨hb2, hc2, hf2⟩ := hB2.out
        have e0 : ((w9).setCell ⟨w.heap.size, 0, none⟩ (.slice (some ⟨b, off, none⟩) n c)).cell? ⟨w.heap.size, 0, none⟩ = some (.slice (some ⟨b, off, none⟩) n c) := hc2 0
        simp [results, Tryz.results61, go_sem, e0, Result.andThen]
      · exact ⟨l, _, n, c, path, pa, pn, pc, moduleB (nth l k), rfl, (hF9.mono (Fr.set (Fr.refl _ _) (.inr (by simp)) _)).less (by omega), hnc, hn11, hsm, (hI9.mono (Fr.set (Fr.refl _ _) (.inr (by simp)) _)).less (by omega), hpc, hp3, by omega, Y.set2 hy10 (by simp) _⟩
    · go_region_held3 (fun w' => w'.cell? ⟨w2.heap.size, 0, none⟩ = some (.slice (some ⟨b, off, none⟩) n c)) (first | exact t3 | exact t9 | exact (World.cell?_setCell_far _ _ _ _ hTN).trans t9 | go_keep)
        ((go_at_call 99; refine (anyName_c rb _ _ (hr.x (by (repeat (first | exact X.refl _ | assumption | refine X.ext ?_ _ | refine X.alloc ?_ _ | refine X.drew ?_)))) (by omega)).mono ?_; rintro _ w9 ⟨xs, rfl, hxs, hr9, hy9⟩; have hBr9 := hBr.y ((Y.of_x (by (repeat (first | exact X.refl _ | assumption | refine X.ext ?_ _ | refine X.alloc ?_ _ | refine X.drew ?_)))).trans hy9) hne; have hBt9 := hBt.y ((Y.of_x (by (repeat (first | exact X.refl _ | assumption | refine X.ext ?_ _ | refine X.alloc ?_ _ | refine X.drew ?_)))).trans hy9) hneT; obtain ⟨hbN9, hcN9, hfN9⟩ := hBr9.out; have t9 := hBt9.out.2.1 0; have hF9 := hF.mono ((X.fr (by (repeat (first | exact X.refl _ | assumption | refine X.ext ?_ _ | refine X.alloc ?_ _ | refine X.drew ?_))) _).trans (hy9.fr.mono (by omega))); have hI9 := hI.mono ((X.fr (by (repeat (first | exact X.refl _ | assumption | refine X.ext ?_ _ | refine X.alloc ?_ _ | refine X.drew ?_))) _).trans (hy9.fr.mono (by omega))); have hy10 := hy.trans ((Y.of_x (by (repeat (first | exact X.refl _ | assumption | refine X.ext ?_ _ | refine X.alloc ?_ _ | refine X.drew ?_)))).trans hy9)))
      have hB2 := Bx.set hBr9 0 (.slice (some ⟨b, off, none⟩) n c)
      go_wp2
      refine bodyPost_ret (v := .tuple #[.agg #[.slice (some ⟨b, off, none⟩) n c], .slice pa pn pc, .string ⟨(xs).toArray⟩]) ?_ rfl ?_
      · obtain ⟨hb2, hc2, hf2⟩ := hB2.out
        have e0 : ((w9).setCell ⟨w.heap.size, 0, none⟩ (.slice (some ⟨b, off, none⟩) n c)).cell? ⟨w.heap.size, 0, none⟩ = some (.slice (some ⟨b, off, none⟩) n c) := hc2 0
        simp [results, Tryz.results61, go_sem, e0, Result.andThen]
      · exact ⟨l, _, n, c, path, pa, pn, pc, xs, rfl, (hF9.mono (Fr.set (Fr.refl _ _) (.inr (by simp)) _)).less (by omega), hnc, hn11, hsm, (hI9.mono (Fr.set (Fr.refl _ _) (.inr (by simp)) _)).less (by omega), hpc, hp3, by omega, Y.set2 hy10 (by simp) _⟩
  · go_wp2_with fail
    go_region_held3 (fun w' => w'.cell? ⟨w2.heap.size, 0, none⟩ = some (.slice a n c)) (first | exact t3 | exact t9 | exact (World.cell?_setCell_far _ _ _ _ hTN).trans t9 | go_keep)
      ((go_at_call 99; refine (anyName_c rb _ _ (hr.x (by (repeat (first | exact X.refl _ | assumption | refine X.ext ?_ _ | refine X.alloc ?_ _ | refine X.drew ?_)))) (by omega)).mono ?_; rintro _ w9 ⟨xs, rfl, hxs, hr9, hy9⟩; have hBr9 := hBr.y ((Y.of_x (by (repeat (first | exact X.refl _ | assumption | refine X.ext ?_ _ | refine X.alloc ?_ _ | refine X.drew ?_)))).trans hy9) hne; have hBt9 := hBt.y ((Y.of_x (by (repeat (first | exact X.refl _ | assumption | refine X.ext ?_ _ | refine X.alloc ?_ _ | refine X.drew ?_)))).trans hy9) hneT; obtain ⟨hbN9, hcN9, hfN9⟩ := hBr9.out; have t9 := hBt9.out.2.1 0; have hF9 := hF.mono ((X.fr (by (repeat (first | exact X.refl _ | assumption | refine X.ext ?_ _ | refine X.alloc ?_ _ | refine X.drew ?_))) _).trans (hy9.fr.mono (by omega))); have hI9 := hI.mono ((X.fr (by (repeat (first | exact X.refl _ | assumption | refine X.ext ?_ _ | refine X.alloc ?_ _ | refine X.drew ?_))) _).trans (hy9.fr.mono (by omega))); have hy10 := hy.trans ((Y.of_x (by (repeat (first | exact X.refl _ | assumption | refine X.ext ?_ _ | refine X.alloc ?_ _ | refine X.drew ?_)))).trans hy9)))
    have hB2 := Bx.set hBr9 0 (.slice a n c)
    go_wp2
    refine bodyPost_ret (v := .tuple #[.agg #[.slice a n c], .slice pa pn pc, .string ⟨(xs).toArray⟩]) ?_ rfl ?_
    · obtain ⟨hb2, hc2, hf2⟩ := hB2.out
      have e0 : ((w9).setCell ⟨w.heap.size, 0, none⟩ (.slice a n c)).cell? ⟨w.heap.size, 0, none⟩ = some (.slice a n c) := hc2 0
      simp [results, Tryz.results61, go_sem, e0, Result.andThen]
    · exact ⟨l, _, n, c, path, pa, pn, pc, xs, rfl, (hF9.mono (Fr.set (Fr.refl _ _) (.inr (by simp)) _)).less (by omega), hnc, hn11, hsm, (hI9.mono (Fr.set (Fr.refl _ _) (.inr (by simp)) _)).less (by omega), hpc, hp3, by omega, Y.set2 hy10 (by simp) _⟩

end Go.Proofs.YtlpbgingggnjpaaGreatDoor
