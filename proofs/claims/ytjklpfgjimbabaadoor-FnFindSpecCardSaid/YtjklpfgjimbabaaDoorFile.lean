/- The generators of files. No condition but that the reader has not read too far. -/
import Derived.Test.YtjklpfgjimbabaaDoorBody
namespace Go.Proofs.YtjklpfgjimbabaaDoor
open Go.RowKit

theorem Bx.far {w : World} {b : Nat} {cs : Array Value} (h : Bx w b cs) {p : Addr} (hne : b ≠ p.block) (v : Value) : Bx (w.setCell p v) b cs := by
  obtain ⟨t, h⟩ := h
  exact ⟨t, (heap_setCell_other w p b v hne).trans h⟩
theorem Fr.set {B : Nat} {w w' : World} (h : Fr B w w') {p : Addr} (hp : w.heap.size ≤ p.block ∨ p.block < B) (v : Value) : Fr B w (w'.setCell p v) :=
  ⟨by simpa [World.setCell] using h.size, fun k hk hl => (heap_setCell_other w' p k v (by omega)).trans (h.block k hk hl)⟩
theorem file_S : StrT Tryd.prog 39 6 := ⟨⟨_, Tryd.underlying39⟩, by kernel_rfl⟩
theorem Rdr.weak0 {w : World} {rb m m' : Nat} (h : Rdr w rb m) (hm : m ≤ m') (h2 : m' ≤ 1000000000) : Rdr w rb m' := h.weak hm h2
/-- What is drawn as a body. -/
def SmallB (l : List St) : Prop := l.length ≤ 4 ∧ ∀ s ∈ l, s.mod.length ≤ 20 ∧ s.name.length ≤ 20
set_option maxRecDepth 100000 in
set_option maxHeartbeats 2000000 in
theorem someFile_c (rb m : Nat) (w : World) (hr : Rdr w rb m) (hm : m + 70 ≤ 1000000000) :
    Calls Tryd.prog 101 #[.pointer (some ⟨rb, 0, none⟩)] w fun e w' => ∃ (f : Fi) (ba : Option Addr) (bc : Nat), e = .returned (.agg #[.int .i64 (f).root, .string ⟨(f).pkg.toArray⟩, .string ⟨(f).name.toArray⟩, .bool (f).init, .int .i64 (f).stamp, .slice ba f.body.length bc]) ∧ w'.ownsRow w.heap.size 83 5 (.slice ba f.body.length bc) f.body.length (f.body.flatMap scells) ∧
      (f.pkg.length ≤ 20 ∧ f.name.length ≤ 20 ∧ SmallB f.body) ∧ Rdr w' rb (m + 70) ∧ Y rb w w' := by
  have hlt := hr.lt
  have hy : Y rb w (w.alloc (.cells #[.int .i64 0, .string ⟨#[]⟩, .string ⟨#[]⟩, .bool false, .int .i64 0, .slice none 0 0] 39)) := Y.of_x (by (repeat (first | exact X.refl _ | assumption | refine X.ext ?_ _ | refine X.alloc ?_ _ | refine X.drew ?_)))
  have hBr := Bx.new w #[.int .i64 0, .string ⟨#[]⟩, .string ⟨#[]⟩, .bool false, .int .i64 0, .slice none 0 0] 39
  have hner : w.heap.size ≠ rb := by omega
  replace hr := hr.x (w' := (w.alloc (.cells #[.int .i64 0, .string ⟨#[]⟩, .string ⟨#[]⟩, .bool false, .int .i64 0, .slice none 0 0] 39))) (by (repeat (first | exact X.refl _ | assumption | refine X.ext ?_ _ | refine X.alloc ?_ _ | refine X.drew ?_)))
  go_enter Tryd.func101, Tryd.ntmps101
  go_wp2_with fail
  refine (one_c rb _ [0, 0, 1, 2, 1] _ _ _ (rb + 1) _ (hr.x (by (repeat (first | exact X.refl _ | assumption | refine X.ext ?_ _ | refine X.alloc ?_ _ | refine X.drew ?_)))) (by omega) (ints_lit (by simp) (by omega) rfl rfl (by decide)) (by omega) (by decide)).mono ?_
  rintro _ w1 ⟨n, rfl, hn, hr', hy'⟩
  replace hBr := (hBr.x (by (repeat (first | exact X.refl _ | assumption | refine X.ext ?_ _ | refine X.alloc ?_ _ | refine X.drew ?_)))).y hy' hner
  replace hy := hy.trans ((Y.of_x (by (repeat (first | exact X.refl _ | assumption | refine X.ext ?_ _ | refine X.alloc ?_ _ | refine X.drew ?_)))).trans hy'); replace hr := hr'; clear hr' hy'
  clear hn
  go_wp2_with fail
  refine (pick_c rb _ _ _ hr (by omega) (by omega)).mono ?_
  rintro _ w2 ⟨k, rfl, hk, hr', hy'⟩
  replace hBr := hBr.y hy' hner
  replace hy := hy.trans ((Y.of_x (by (repeat (first | exact X.refl _ | assumption | refine X.ext ?_ _ | refine X.alloc ?_ _ | refine X.drew ?_)))).trans hy'); replace hr := hr'; clear hr' hy'
  clear hk
  go_wp2_with fail
  have hBr2 := hBr
  refine (someBody_c rb _ _ hr (by omega)).mono ?_
  rintro _ w4 ⟨body, ba, bc, rfl, hown, hbody, hr', hy'⟩
  replace hBr := hBr.y hy' hner
  replace hown := own_less hown (B' := w.heap.size + 1) (by have := hBr2.lt; omega)
  replace hy := hy.trans ((Y.of_x (by (repeat (first | exact X.refl _ | assumption | refine X.ext ?_ _ | refine X.alloc ?_ _ | refine X.drew ?_)))).trans hy'); replace hr := hr'; clear hr' hy'
  have hw4 := hy.size
  have hfr : w.heap.size ≠ w4.heap.size := Nat.ne_of_lt hBr.lt
  have hnef : w4.heap.size ≠ rb := by omega
  have hBf := Bx.new w4 #[.int .i64 n, .string ⟨#[]⟩, .string ⟨#[]⟩, .bool false, .int .i64 (k : Int), .slice ba body.length bc] 39
  replace hBr := hBr.x (w' := (w4.alloc (.cells #[.int .i64 n, .string ⟨#[]⟩, .string ⟨#[]⟩, .bool false, .int .i64 (k : Int), .slice ba body.length bc] 39))) (by (repeat (first | exact X.refl _ | assumption | refine X.ext ?_ _ | refine X.alloc ?_ _ | refine X.drew ?_)))
  replace hy := hy.trans (Y.of_x (w' := (w4.alloc (.cells #[.int .i64 n, .string ⟨#[]⟩, .string ⟨#[]⟩, .bool false, .int .i64 (k : Int), .slice ba body.length bc] 39))) (by (repeat (first | exact X.refl _ | assumption | refine X.ext ?_ _ | refine X.alloc ?_ _ | refine X.drew ?_))))
  replace hr := hr.x (w' := (w4.alloc (.cells #[.int .i64 n, .string ⟨#[]⟩, .string ⟨#[]⟩, .bool false, .int .i64 (k : Int), .slice ba body.length bc] 39))) (by (repeat (first | exact X.refl _ | assumption | refine X.ext ?_ _ | refine X.alloc ?_ _ | refine X.drew ?_)))
  have hy4 : Y rb w4 (w4.alloc (.cells #[.int .i64 n, .string ⟨#[]⟩, .string ⟨#[]⟩, .bool false, .int .i64 (k : Int), .slice ba body.length bc] 39)) := Y.of_x (by (repeat (first | exact X.refl _ | assumption | refine X.ext ?_ _ | refine X.alloc ?_ _ | refine X.drew ?_)))
  obtain ⟨hb, hc, hf⟩ := hBf.out
  go_wp2_with fail
  refine (pick_c rb _ _ _ hr (by omega) (by omega)).mono ?_
  rintro _ w' ⟨q, rfl, hq, hr', hy'⟩
  replace hBf := Bx.y (rb := rb) (by (first | exact hBf | exact Bx.set hBf _ _ | exact Bx.far hBf hfr _ | exact Bx.set (Bx.set hBf _ _) _ _ | exact Bx.far (Bx.far hBf hfr _) hfr _)) hy' hnef; replace hBr := Bx.y (rb := rb) (by (first | exact hBr | exact Bx.set hBr _ _ | exact Bx.far hBr hfr _ | exact Bx.set (Bx.set hBr _ _) _ _ | exact Bx.far (Bx.far hBr hfr _) hfr _)) hy' hner; replace hy4 := Y.trans (rb := rb) (by (first | exact hy4 | exact Y.set2 hy4 (Nat.le_refl _) _ | exact Y.set2 (Y.set2 hy4 (Nat.le_refl _) _) (Nat.le_refl _) _)) hy'; replace hy := Y.trans (rb := rb) (by (first | exact hy | exact Y.set2 hy (hw4) _ | exact Y.set2 (Y.set2 hy (hw4) _) (hw4) _)) hy'; replace hr := hr'; clear hr' hy' hb hc hf; obtain ⟨hb, hc, hf⟩ := hBf.out; obtain ⟨hb', hc', hf'⟩ := hBr.out
  go_wp2_with fail
  · go_wp2_with fail
    refine (aPart_c rb _ _ (by (first | exact hr | exact Rdr.set2 hr (Nat.lt_of_lt_of_le hlt hw4) _ | exact Rdr.set2 (Rdr.set2 hr (Nat.lt_of_lt_of_le hlt hw4) _) (Nat.lt_of_lt_of_le hlt hw4) _)) (by omega)).mono ?_
    rintro _ w' ⟨x1, rfl, hx1, hr', hy'⟩
    clear hb' hc' hf'
    replace hBf := Bx.y (rb := rb) (by (first | exact hBf | exact Bx.set hBf _ _ | exact Bx.far hBf hfr _ | exact Bx.set (Bx.set hBf _ _) _ _ | exact Bx.far (Bx.far hBf hfr _) hfr _)) hy' hnef; replace hBr := Bx.y (rb := rb) (by (first | exact hBr | exact Bx.set hBr _ _ | exact Bx.far hBr hfr _ | exact Bx.set (Bx.set hBr _ _) _ _ | exact Bx.far (Bx.far hBr hfr _) hfr _)) hy' hner; replace hy4 := Y.trans (rb := rb) (by (first | exact hy4 | exact Y.set2 hy4 (Nat.le_refl _) _ | exact Y.set2 (Y.set2 hy4 (Nat.le_refl _) _) (Nat.le_refl _) _)) hy'; replace hy := Y.trans (rb := rb) (by (first | exact hy | exact Y.set2 hy (hw4) _ | exact Y.set2 (Y.set2 hy (hw4) _) (hw4) _)) hy'; replace hr := hr'; clear hr' hy' hb hc hf; obtain ⟨hb, hc, hf⟩ := hBf.out; obtain ⟨hb', hc', hf'⟩ := hBr.out
    go_wp2
    refine bodyPost_row Tryd.results101 rfl (Bx.set (Bx.set (Bx.set (Bx.set (Bx.set (Bx.set (by (repeat (first | refine Bx.set ?_ _ _ | refine Bx.far ?_ (by first | exact hfr | exact hfr.symm) _ | exact hBr)) : Bx _ _ #[.int .i64 0, .string ⟨#[]⟩, .string ⟨#[]⟩, .bool false, .int .i64 0, .slice none 0 0]) 0 _) 1 _) 2 _) 3 _) 4 _) 5 _) file_S rfl rfl ?_
    refine ⟨⟨n, [], x1, false, k, body⟩, ba, bc, rfl, own_less (own_fr hown (by (repeat (first | refine Fr.set ?_ (by first | exact .inl (Nat.le_refl _) | exact .inr (Nat.lt_succ_self _)) _ | exact hy4.fr.mono (by omega))))) (by omega), ⟨by first | (simp; done) | (simp; omega), by first | (simp; done) | (simp; omega), hbody⟩, by (repeat (first | refine Rdr.set2 ?_ (by first | exact hlt | exact (Nat.lt_of_lt_of_le hlt hw4) | omega) _ | (refine Rdr.weak hr (by omega) (by omega)))), by (repeat (first | refine Y.set2 ?_ (by first | exact Nat.le_refl _ | exact hw4 | omega) _ | exact hy))⟩
  · go_wp2_with fail
    refine (aPart_c rb _ _ (by (first | exact hr | exact Rdr.set2 hr (Nat.lt_of_lt_of_le hlt hw4) _ | exact Rdr.set2 (Rdr.set2 hr (Nat.lt_of_lt_of_le hlt hw4) _) (Nat.lt_of_lt_of_le hlt hw4) _)) (by omega)).mono ?_
    rintro _ w' ⟨x1, rfl, hx1, hr', hy'⟩
    clear hb' hc' hf'
    replace hBf := Bx.y (rb := rb) (by (first | exact hBf | exact Bx.set hBf _ _ | exact Bx.far hBf hfr _ | exact Bx.set (Bx.set hBf _ _) _ _ | exact Bx.far (Bx.far hBf hfr _) hfr _)) hy' hnef; replace hBr := Bx.y (rb := rb) (by (first | exact hBr | exact Bx.set hBr _ _ | exact Bx.far hBr hfr _ | exact Bx.set (Bx.set hBr _ _) _ _ | exact Bx.far (Bx.far hBr hfr _) hfr _)) hy' hner; replace hy4 := Y.trans (rb := rb) (by (first | exact hy4 | exact Y.set2 hy4 (Nat.le_refl _) _ | exact Y.set2 (Y.set2 hy4 (Nat.le_refl _) _) (Nat.le_refl _) _)) hy'; replace hy := Y.trans (rb := rb) (by (first | exact hy | exact Y.set2 hy (hw4) _ | exact Y.set2 (Y.set2 hy (hw4) _) (hw4) _)) hy'; replace hr := hr'; clear hr' hy' hb hc hf; obtain ⟨hb, hc, hf⟩ := hBf.out; obtain ⟨hb', hc', hf'⟩ := hBr.out
    go_wp2
    refine bodyPost_row Tryd.results101 rfl (Bx.set (Bx.set (Bx.set (Bx.set (Bx.set (Bx.set (by (repeat (first | refine Bx.set ?_ _ _ | refine Bx.far ?_ (by first | exact hfr | exact hfr.symm) _ | exact hBr)) : Bx _ _ #[.int .i64 0, .string ⟨#[]⟩, .string ⟨#[]⟩, .bool false, .int .i64 0, .slice none 0 0]) 0 _) 1 _) 2 _) 3 _) 4 _) 5 _) file_S rfl rfl ?_
    refine ⟨⟨n, [], x1, false, k, body⟩, ba, bc, rfl, own_less (own_fr hown (by (repeat (first | refine Fr.set ?_ (by first | exact .inl (Nat.le_refl _) | exact .inr (Nat.lt_succ_self _)) _ | exact hy4.fr.mono (by omega))))) (by omega), ⟨by first | (simp; done) | (simp; omega), by first | (simp; done) | (simp; omega), hbody⟩, by (repeat (first | refine Rdr.set2 ?_ (by first | exact hlt | exact (Nat.lt_of_lt_of_le hlt hw4) | omega) _ | (refine Rdr.weak hr (by omega) (by omega)))), by (repeat (first | refine Y.set2 ?_ (by first | exact Nat.le_refl _ | exact hw4 | omega) _ | exact hy))⟩
  · go_wp2_with fail
    refine (aPart_c rb _ _ (by (first | exact hr | exact Rdr.set2 hr (Nat.lt_of_lt_of_le hlt hw4) _ | exact Rdr.set2 (Rdr.set2 hr (Nat.lt_of_lt_of_le hlt hw4) _) (Nat.lt_of_lt_of_le hlt hw4) _)) (by omega)).mono ?_
    rintro _ w' ⟨x1, rfl, hx1, hr', hy'⟩
    clear hb' hc' hf'
    replace hBf := Bx.y (rb := rb) (by (first | exact hBf | exact Bx.set hBf _ _ | exact Bx.far hBf hfr _ | exact Bx.set (Bx.set hBf _ _) _ _ | exact Bx.far (Bx.far hBf hfr _) hfr _)) hy' hnef; replace hBr := Bx.y (rb := rb) (by (first | exact hBr | exact Bx.set hBr _ _ | exact Bx.far hBr hfr _ | exact Bx.set (Bx.set hBr _ _) _ _ | exact Bx.far (Bx.far hBr hfr _) hfr _)) hy' hner; replace hy4 := Y.trans (rb := rb) (by (first | exact hy4 | exact Y.set2 hy4 (Nat.le_refl _) _ | exact Y.set2 (Y.set2 hy4 (Nat.le_refl _) _) (Nat.le_refl _) _)) hy'; replace hy := Y.trans (rb := rb) (by (first | exact hy | exact Y.set2 hy (hw4) _ | exact Y.set2 (Y.set2 hy (hw4) _) (hw4) _)) hy'; replace hr := hr'; clear hr' hy' hb hc hf; obtain ⟨hb, hc, hf⟩ := hBf.out; obtain ⟨hb', hc', hf'⟩ := hBr.out
    go_wp2_with fail
    refine (aPart_c rb _ _ (by (first | exact hr | exact Rdr.set2 hr (Nat.lt_of_lt_of_le hlt hw4) _ | exact Rdr.set2 (Rdr.set2 hr (Nat.lt_of_lt_of_le hlt hw4) _) (Nat.lt_of_lt_of_le hlt hw4) _)) (by omega)).mono ?_
    rintro _ w' ⟨x2, rfl, hx2, hr', hy'⟩
    clear hb' hc' hf'
    replace hBf := Bx.y (rb := rb) (by (first | exact hBf | exact Bx.set hBf _ _ | exact Bx.far hBf hfr _ | exact Bx.set (Bx.set hBf _ _) _ _ | exact Bx.far (Bx.far hBf hfr _) hfr _)) hy' hnef; replace hBr := Bx.y (rb := rb) (by (first | exact hBr | exact Bx.set hBr _ _ | exact Bx.far hBr hfr _ | exact Bx.set (Bx.set hBr _ _) _ _ | exact Bx.far (Bx.far hBr hfr _) hfr _)) hy' hner; replace hy4 := Y.trans (rb := rb) (by (first | exact hy4 | exact Y.set2 hy4 (Nat.le_refl _) _ | exact Y.set2 (Y.set2 hy4 (Nat.le_refl _) _) (Nat.le_refl _) _)) hy'; replace hy := Y.trans (rb := rb) (by (first | exact hy | exact Y.set2 hy (hw4) _ | exact Y.set2 (Y.set2 hy (hw4) _) (hw4) _)) hy'; replace hr := hr'; clear hr' hy' hb hc hf; obtain ⟨hb, hc, hf⟩ := hBf.out; obtain ⟨hb', hc', hf'⟩ := hBr.out
    go_wp2
    refine bodyPost_row Tryd.results101 rfl (Bx.set (Bx.set (Bx.set (Bx.set (Bx.set (Bx.set (by (repeat (first | refine Bx.set ?_ _ _ | refine Bx.far ?_ (by first | exact hfr | exact hfr.symm) _ | exact hBr)) : Bx _ _ #[.int .i64 0, .string ⟨#[]⟩, .string ⟨#[]⟩, .bool false, .int .i64 0, .slice none 0 0]) 0 _) 1 _) 2 _) 3 _) 4 _) 5 _) file_S rfl rfl ?_
    refine ⟨⟨n, x1, x2, false, k, body⟩, ba, bc, rfl, own_less (own_fr hown (by (repeat (first | refine Fr.set ?_ (by first | exact .inl (Nat.le_refl _) | exact .inr (Nat.lt_succ_self _)) _ | exact hy4.fr.mono (by omega))))) (by omega), ⟨by first | (simp; done) | (simp; omega), by first | (simp; done) | (simp; omega), hbody⟩, by (repeat (first | refine Rdr.set2 ?_ (by first | exact hlt | exact (Nat.lt_of_lt_of_le hlt hw4) | omega) _ | (refine Rdr.weak hr (by omega) (by omega)))), by (repeat (first | refine Y.set2 ?_ (by first | exact Nat.le_refl _ | exact hw4 | omega) _ | exact hy))⟩
  · go_wp2_with fail
    refine (aPart_c rb _ _ (by (first | exact hr | exact Rdr.set2 hr (Nat.lt_of_lt_of_le hlt hw4) _ | exact Rdr.set2 (Rdr.set2 hr (Nat.lt_of_lt_of_le hlt hw4) _) (Nat.lt_of_lt_of_le hlt hw4) _)) (by omega)).mono ?_
    rintro _ w' ⟨x1, rfl, hx1, hr', hy'⟩
    clear hb' hc' hf'
    replace hBf := Bx.y (rb := rb) (by (first | exact hBf | exact Bx.set hBf _ _ | exact Bx.far hBf hfr _ | exact Bx.set (Bx.set hBf _ _) _ _ | exact Bx.far (Bx.far hBf hfr _) hfr _)) hy' hnef; replace hBr := Bx.y (rb := rb) (by (first | exact hBr | exact Bx.set hBr _ _ | exact Bx.far hBr hfr _ | exact Bx.set (Bx.set hBr _ _) _ _ | exact Bx.far (Bx.far hBr hfr _) hfr _)) hy' hner; replace hy4 := Y.trans (rb := rb) (by (first | exact hy4 | exact Y.set2 hy4 (Nat.le_refl _) _ | exact Y.set2 (Y.set2 hy4 (Nat.le_refl _) _) (Nat.le_refl _) _)) hy'; replace hy := Y.trans (rb := rb) (by (first | exact hy | exact Y.set2 hy (hw4) _ | exact Y.set2 (Y.set2 hy (hw4) _) (hw4) _)) hy'; replace hr := hr'; clear hr' hy' hb hc hf; obtain ⟨hb, hc, hf⟩ := hBf.out; obtain ⟨hb', hc', hf'⟩ := hBr.out
    go_wp2_with fail
    refine (aPart_c rb _ _ (by (first | exact hr | exact Rdr.set2 hr (Nat.lt_of_lt_of_le hlt hw4) _ | exact Rdr.set2 (Rdr.set2 hr (Nat.lt_of_lt_of_le hlt hw4) _) (Nat.lt_of_lt_of_le hlt hw4) _)) (by omega)).mono ?_
    rintro _ w' ⟨x2, rfl, hx2, hr', hy'⟩
    clear hb' hc' hf'
    replace hBf := Bx.y (rb := rb) (by (first | exact hBf | exact Bx.set hBf _ _ | exact Bx.far hBf hfr _ | exact Bx.set (Bx.set hBf _ _) _ _ | exact Bx.far (Bx.far hBf hfr _) hfr _)) hy' hnef; replace hBr := Bx.y (rb := rb) (by (first | exact hBr | exact Bx.set hBr _ _ | exact Bx.far hBr hfr _ | exact Bx.set (Bx.set hBr _ _) _ _ | exact Bx.far (Bx.far hBr hfr _) hfr _)) hy' hner; replace hy4 := Y.trans (rb := rb) (by (first | exact hy4 | exact Y.set2 hy4 (Nat.le_refl _) _ | exact Y.set2 (Y.set2 hy4 (Nat.le_refl _) _) (Nat.le_refl _) _)) hy'; replace hy := Y.trans (rb := rb) (by (first | exact hy | exact Y.set2 hy (hw4) _ | exact Y.set2 (Y.set2 hy (hw4) _) (hw4) _)) hy'; replace hr := hr'; clear hr' hy' hb hc hf; obtain ⟨hb, hc, hf⟩ := hBf.out; obtain ⟨hb', hc', hf'⟩ := hBr.out
    go_wp2
    refine bodyPost_row Tryd.results101 rfl (Bx.set (Bx.set (Bx.set (Bx.set (Bx.set (Bx.set (by (repeat (first | refine Bx.set ?_ _ _ | refine Bx.far ?_ (by first | exact hfr | exact hfr.symm) _ | exact hBr)) : Bx _ _ #[.int .i64 0, .string ⟨#[]⟩, .string ⟨#[]⟩, .bool false, .int .i64 0, .slice none 0 0]) 0 _) 1 _) 2 _) 3 _) 4 _) 5 _) file_S rfl rfl ?_
    refine ⟨⟨n, x1, x2, false, k, body⟩, ba, bc, rfl, own_less (own_fr hown (by (repeat (first | refine Fr.set ?_ (by first | exact .inl (Nat.le_refl _) | exact .inr (Nat.lt_succ_self _)) _ | exact hy4.fr.mono (by omega))))) (by omega), ⟨by first | (simp; done) | (simp; omega), by first | (simp; done) | (simp; omega), hbody⟩, by (repeat (first | refine Rdr.set2 ?_ (by first | exact hlt | exact (Nat.lt_of_lt_of_le hlt hw4) | omega) _ | (refine Rdr.weak hr (by omega) (by omega)))), by (repeat (first | refine Y.set2 ?_ (by first | exact Nat.le_refl _ | exact hw4 | omega) _ | exact hy))⟩
  · go_wp2_with fail
    refine (aPart_c rb _ _ (by (first | exact hr | exact Rdr.set2 hr (Nat.lt_of_lt_of_le hlt hw4) _ | exact Rdr.set2 (Rdr.set2 hr (Nat.lt_of_lt_of_le hlt hw4) _) (Nat.lt_of_lt_of_le hlt hw4) _)) (by omega)).mono ?_
    rintro _ w' ⟨x1, rfl, hx1, hr', hy'⟩
    clear hb' hc' hf'
    replace hBf := Bx.y (rb := rb) (by (first | exact hBf | exact Bx.set hBf _ _ | exact Bx.far hBf hfr _ | exact Bx.set (Bx.set hBf _ _) _ _ | exact Bx.far (Bx.far hBf hfr _) hfr _)) hy' hnef; replace hBr := Bx.y (rb := rb) (by (first | exact hBr | exact Bx.set hBr _ _ | exact Bx.far hBr hfr _ | exact Bx.set (Bx.set hBr _ _) _ _ | exact Bx.far (Bx.far hBr hfr _) hfr _)) hy' hner; replace hy4 := Y.trans (rb := rb) (by (first | exact hy4 | exact Y.set2 hy4 (Nat.le_refl _) _ | exact Y.set2 (Y.set2 hy4 (Nat.le_refl _) _) (Nat.le_refl _) _)) hy'; replace hy := Y.trans (rb := rb) (by (first | exact hy | exact Y.set2 hy (hw4) _ | exact Y.set2 (Y.set2 hy (hw4) _) (hw4) _)) hy'; replace hr := hr'; clear hr' hy' hb hc hf; obtain ⟨hb, hc, hf⟩ := hBf.out; obtain ⟨hb', hc', hf'⟩ := hBr.out
    go_wp2
    refine bodyPost_row Tryd.results101 rfl (Bx.set (Bx.set (Bx.set (Bx.set (Bx.set (Bx.set (by (repeat (first | refine Bx.set ?_ _ _ | refine Bx.far ?_ (by first | exact hfr | exact hfr.symm) _ | exact hBr)) : Bx _ _ #[.int .i64 0, .string ⟨#[]⟩, .string ⟨#[]⟩, .bool false, .int .i64 0, .slice none 0 0]) 0 _) 1 _) 2 _) 3 _) 4 _) 5 _) file_S rfl rfl ?_
    refine ⟨⟨n, x1, [], true, k, body⟩, ba, bc, rfl, own_less (own_fr hown (by (repeat (first | refine Fr.set ?_ (by first | exact .inl (Nat.le_refl _) | exact .inr (Nat.lt_succ_self _)) _ | exact hy4.fr.mono (by omega))))) (by omega), ⟨by first | (simp; done) | (simp; omega), by first | (simp; done) | (simp; omega), hbody⟩, by (repeat (first | refine Rdr.set2 ?_ (by first | exact hlt | exact (Nat.lt_of_lt_of_le hlt hw4) | omega) _ | (refine Rdr.weak hr (by omega) (by omega)))), by (repeat (first | refine Y.set2 ?_ (by first | exact Nat.le_refl _ | exact hw4 | omega) _ | exact hy))⟩
  · go_wp2_with fail
    refine (aPart_c rb _ _ (by (first | exact hr | exact Rdr.set2 hr (Nat.lt_of_lt_of_le hlt hw4) _ | exact Rdr.set2 (Rdr.set2 hr (Nat.lt_of_lt_of_le hlt hw4) _) (Nat.lt_of_lt_of_le hlt hw4) _)) (by omega)).mono ?_
    rintro _ w' ⟨x1, rfl, hx1, hr', hy'⟩
    clear hb' hc' hf'
    replace hBf := Bx.y (rb := rb) (by (first | exact hBf | exact Bx.set hBf _ _ | exact Bx.far hBf hfr _ | exact Bx.set (Bx.set hBf _ _) _ _ | exact Bx.far (Bx.far hBf hfr _) hfr _)) hy' hnef; replace hBr := Bx.y (rb := rb) (by (first | exact hBr | exact Bx.set hBr _ _ | exact Bx.far hBr hfr _ | exact Bx.set (Bx.set hBr _ _) _ _ | exact Bx.far (Bx.far hBr hfr _) hfr _)) hy' hner; replace hy4 := Y.trans (rb := rb) (by (first | exact hy4 | exact Y.set2 hy4 (Nat.le_refl _) _ | exact Y.set2 (Y.set2 hy4 (Nat.le_refl _) _) (Nat.le_refl _) _)) hy'; replace hy := Y.trans (rb := rb) (by (first | exact hy | exact Y.set2 hy (hw4) _ | exact Y.set2 (Y.set2 hy (hw4) _) (hw4) _)) hy'; replace hr := hr'; clear hr' hy' hb hc hf; obtain ⟨hb, hc, hf⟩ := hBf.out; obtain ⟨hb', hc', hf'⟩ := hBr.out
    go_wp2_with fail
    refine (aPart_c rb _ _ (by (first | exact hr | exact Rdr.set2 hr (Nat.lt_of_lt_of_le hlt hw4) _ | exact Rdr.set2 (Rdr.set2 hr (Nat.lt_of_lt_of_le hlt hw4) _) (Nat.lt_of_lt_of_le hlt hw4) _)) (by omega)).mono ?_
    rintro _ w' ⟨x2, rfl, hx2, hr', hy'⟩
    clear hb' hc' hf'
    replace hBf := Bx.y (rb := rb) (by (first | exact hBf | exact Bx.set hBf _ _ | exact Bx.far hBf hfr _ | exact Bx.set (Bx.set hBf _ _) _ _ | exact Bx.far (Bx.far hBf hfr _) hfr _)) hy' hnef; replace hBr := Bx.y (rb := rb) (by (first | exact hBr | exact Bx.set hBr _ _ | exact Bx.far hBr hfr _ | exact Bx.set (Bx.set hBr _ _) _ _ | exact Bx.far (Bx.far hBr hfr _) hfr _)) hy' hner; replace hy4 := Y.trans (rb := rb) (by (first | exact hy4 | exact Y.set2 hy4 (Nat.le_refl _) _ | exact Y.set2 (Y.set2 hy4 (Nat.le_refl _) _) (Nat.le_refl _) _)) hy'; replace hy := Y.trans (rb := rb) (by (first | exact hy | exact Y.set2 hy (hw4) _ | exact Y.set2 (Y.set2 hy (hw4) _) (hw4) _)) hy'; replace hr := hr'; clear hr' hy' hb hc hf; obtain ⟨hb, hc, hf⟩ := hBf.out; obtain ⟨hb', hc', hf'⟩ := hBr.out
    go_wp2_with fail
    refine (pick_c rb _ _ _ (by (first | exact hr | exact Rdr.set2 hr (Nat.lt_of_lt_of_le hlt hw4) _ | exact Rdr.set2 (Rdr.set2 hr (Nat.lt_of_lt_of_le hlt hw4) _) (Nat.lt_of_lt_of_le hlt hw4) _)) (by omega) (by omega)).mono ?_
    rintro _ w' ⟨u, rfl, hu, hr', hy'⟩
    clear hb' hc' hf'
    replace hBf := Bx.y (rb := rb) (by (first | exact hBf | exact Bx.set hBf _ _ | exact Bx.far hBf hfr _ | exact Bx.set (Bx.set hBf _ _) _ _ | exact Bx.far (Bx.far hBf hfr _) hfr _)) hy' hnef; replace hBr := Bx.y (rb := rb) (by (first | exact hBr | exact Bx.set hBr _ _ | exact Bx.far hBr hfr _ | exact Bx.set (Bx.set hBr _ _) _ _ | exact Bx.far (Bx.far hBr hfr _) hfr _)) hy' hner; replace hy4 := Y.trans (rb := rb) (by (first | exact hy4 | exact Y.set2 hy4 (Nat.le_refl _) _ | exact Y.set2 (Y.set2 hy4 (Nat.le_refl _) _) (Nat.le_refl _) _)) hy'; replace hy := Y.trans (rb := rb) (by (first | exact hy | exact Y.set2 hy (hw4) _ | exact Y.set2 (Y.set2 hy (hw4) _) (hw4) _)) hy'; replace hr := hr'; clear hr' hy' hb hc hf; obtain ⟨hb, hc, hf⟩ := hBf.out; obtain ⟨hb', hc', hf'⟩ := hBr.out
    go_wp2_with fail
    · go_wp2
      refine bodyPost_row Tryd.results101 rfl (Bx.set (Bx.set (Bx.set (Bx.set (Bx.set (Bx.set (by (repeat (first | refine Bx.set ?_ _ _ | refine Bx.far ?_ (by first | exact hfr | exact hfr.symm) _ | exact hBr)) : Bx _ _ #[.int .i64 0, .string ⟨#[]⟩, .string ⟨#[]⟩, .bool false, .int .i64 0, .slice none 0 0]) 0 _) 1 _) 2 _) 3 _) 4 _) 5 _) file_S rfl rfl ?_
      refine ⟨⟨n, x1 ++ 46 :: x2, [], true, k, body⟩, ba, bc, rfl, own_less (own_fr hown (by (repeat (first | refine Fr.set ?_ (by first | exact .inl (Nat.le_refl _) | exact .inr (Nat.lt_succ_self _)) _ | exact hy4.fr.mono (by omega))))) (by omega), ⟨by first | (simp; done) | (simp; omega), by first | (simp; done) | (simp; omega), hbody⟩, by (repeat (first | refine Rdr.set2 ?_ (by first | exact hlt | exact (Nat.lt_of_lt_of_le hlt hw4) | omega) _ | (refine Rdr.weak hr (by omega) (by omega)))), by (repeat (first | refine Y.set2 ?_ (by first | exact Nat.le_refl _ | exact hw4 | omega) _ | exact hy))⟩
    · refine (aPart_c rb _ _ (by (first | exact hr | exact Rdr.set2 hr (Nat.lt_of_lt_of_le hlt hw4) _ | exact Rdr.set2 (Rdr.set2 hr (Nat.lt_of_lt_of_le hlt hw4) _) (Nat.lt_of_lt_of_le hlt hw4) _)) (by omega)).mono ?_
      rintro _ w' ⟨x3, rfl, hx3, hr', hy'⟩
      clear hb' hc' hf'
      replace hBf := Bx.y (rb := rb) (by (first | exact hBf | exact Bx.set hBf _ _ | exact Bx.far hBf hfr _ | exact Bx.set (Bx.set hBf _ _) _ _ | exact Bx.far (Bx.far hBf hfr _) hfr _)) hy' hnef; replace hBr := Bx.y (rb := rb) (by (first | exact hBr | exact Bx.set hBr _ _ | exact Bx.far hBr hfr _ | exact Bx.set (Bx.set hBr _ _) _ _ | exact Bx.far (Bx.far hBr hfr _) hfr _)) hy' hner; replace hy4 := Y.trans (rb := rb) (by (first | exact hy4 | exact Y.set2 hy4 (Nat.le_refl _) _ | exact Y.set2 (Y.set2 hy4 (Nat.le_refl _) _) (Nat.le_refl _) _)) hy'; replace hy := Y.trans (rb := rb) (by (first | exact hy | exact Y.set2 hy (hw4) _ | exact Y.set2 (Y.set2 hy (hw4) _) (hw4) _)) hy'; replace hr := hr'; clear hr' hy' hb hc hf; obtain ⟨hb, hc, hf⟩ := hBf.out; obtain ⟨hb', hc', hf'⟩ := hBr.out
      go_wp2
      refine bodyPost_row Tryd.results101 rfl (Bx.set (Bx.set (Bx.set (Bx.set (Bx.set (Bx.set (by (repeat (first | refine Bx.set ?_ _ _ | refine Bx.far ?_ (by first | exact hfr | exact hfr.symm) _ | exact hBr)) : Bx _ _ #[.int .i64 0, .string ⟨#[]⟩, .string ⟨#[]⟩, .bool false, .int .i64 0, .slice none 0 0]) 0 _) 1 _) 2 _) 3 _) 4 _) 5 _) file_S rfl rfl ?_
      refine ⟨⟨n, x1 ++ 46 :: x2, x3, false, k, body⟩, ba, bc, rfl, own_less (own_fr hown (by (repeat (first | refine Fr.set ?_ (by first | exact .inl (Nat.le_refl _) | exact .inr (Nat.lt_succ_self _)) _ | exact hy4.fr.mono (by omega))))) (by omega), ⟨by first | (simp; done) | (simp; omega), by first | (simp; done) | (simp; omega), hbody⟩, by (repeat (first | refine Rdr.set2 ?_ (by first | exact hlt | exact (Nat.lt_of_lt_of_le hlt hw4) | omega) _ | (refine Rdr.weak hr (by omega) (by omega)))), by (repeat (first | refine Y.set2 ?_ (by first | exact Nat.le_refl _ | exact hw4 | omega) _ | exact hy))⟩

end Go.Proofs.YtjklpfgjimbabaaDoor
