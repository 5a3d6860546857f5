/- The generator of stores that may be invalid; the arguments of WrongFiles and of PruneStore. No condition but that the reader has not read too far. -/
import Derived.Test.YtebnjkjllinabaaDoorStoreDs
import Derived.Test.YtebnjkjllinabaaDoorGh
namespace Go.Proofs.YtebnjkjllinabaaDoor
open Go.RowKit

theorem cset {ls : List (Co × Value)} {k j : Nat} (hk : k < ls.length) (hj : j < 8) {y : Co × Value} {u : Value} (hv : (ccells (nth ls k)).set j u = ccells y) : (ls.flatMap ccells).set (k * 8 + j) u = (ls.set k y).flatMap ccells := by
  have hA : ((ls.take k).flatMap ccells).length = k * 8 := by rw [flat_length 8 ccells ccells8, List.length_take, Nat.min_eq_left (by omega)]
  have hz : ls.flatMap ccells = (ls.take k).flatMap ccells ++ (ccells (nth ls k) ++ (ls.drop (k + 1)).flatMap ccells) := by
    rw [← List.flatMap_cons, ← drop_nth hk, ← List.flatMap_append, List.take_append_drop]
  have hs : ls.set k y = ls.take k ++ y :: ls.drop (k + 1) := by
    rw [List.set_eq_take_append_cons_drop, if_pos hk]
  have hl : (ccells (nth ls k)).length = 8 := ccells8 _
  rw [hs, List.flatMap_append, List.flatMap_cons, hz, ← hv, ← hA, List.set_append_right _ _ (by omega), show ((ls.take k).flatMap ccells).length + j - ((ls.take k).flatMap ccells).length = j by omega, List.set_append_left _ _ (by omega)]
theorem StoreW.set {w : World} {B g c k j : Nat} {ls : List (Co × Value)} (h : StoreW w B (some ⟨g, 0, none⟩) c ls) (hk : k < ls.length) (hj : j < 8) {y : Co × Value} {u : Value} (hv : (ccells (nth ls k)).set j u = ccells y) (hs : SmallC y.1) (hb : BodyC w B y) :
    StoreW (w.setCell ⟨g, k * 8 + j, none⟩ u) B (some ⟨g, 0, none⟩) c (ls.set k y) := by
  obtain ⟨cs, hg⟩ := own_block h.row
  refine ⟨?_, fun x hx => ?_, fun x hx => ?_⟩
  · rw [← cset hk hj hv, List.length_set]
    exact own_set h.row u
  · rcases List.mem_or_eq_of_mem_set hx with hx | rfl
    · exact h.small x hx
    · exact hs
  · have hx' : BodyC w B x := by
      rcases List.mem_or_eq_of_mem_set hx with hx | rfl
      · exact h.body x hx
      · exact hb
    obtain ⟨ba, bc, e, ho⟩ := hx'
    exact ⟨ba, bc, e, own_set_far ho hg (by decide) _ _⟩
theorem TreeW.set_far {w : World} {B c t b : Nat} {a : Option Addr} {vs : List (Fi × Value)} {cs : Array Value} {fz : Nat × Nat} (h : TreeW w B a c vs) (hb : w.heap[b]? = some (.cells cs t fz)) (h1 : 43 ≠ t) (h2 : 66 ≠ t) (i : Nat) (u : Value) : TreeW (w.setCell ⟨b, i, none⟩ u) B a c vs :=
  ⟨own_set_far h.row hb h1 i u, h.small, fun x hm => (h.body x hm).set_far hb h2 i u⟩
theorem StoreW.cells {w : World} {B g c : Nat} {ls : List (Co × Value)} (h : StoreW w B (some ⟨g, 0, none⟩) c ls) (hk : 0 < ls.length) :
    ∃ ba bc, (nth ls 0).2 = .slice ba (nth ls 0).1.body.length bc ∧ g < w.heap.size ∧ B ≤ g ∧
      w.cell? ⟨g, 0, none⟩ = some (.int .i64 (nth ls 0).1.root) ∧ w.cell? ⟨g, 1, none⟩ = some (.string ⟨((nth ls 0).1.mod).toArray⟩) ∧ w.cell? ⟨g, 2, none⟩ = some (.bool (nth ls 0).1.init) ∧ w.cell? ⟨g, 3, none⟩ = some (.int .i64 (nth ls 0).1.mode) ∧
      w.cell? ⟨g, 4, none⟩ = some (.int .i64 (nth ls 0).1.stamp) ∧ w.cell? ⟨g, 5, none⟩ = some (.int .i64 (nth ls 0).1.size) ∧ w.cell? ⟨g, 6, none⟩ = some (.int .i64 (nth ls 0).1.hash) ∧ w.cell? ⟨g, 7, none⟩ = some (.slice ba (nth ls 0).1.body.length bc) := by
  obtain ⟨ba, bc, e, ho⟩ := h.body _ (nth_mem hk)
  have hc : ∀ j (hj : j < 8), w.cell? ⟨g, j, none⟩ = some ((ccells (nth ls 0))[j]'(by rw [ccells8]; exact hj)) := fun j hj => by
    have hl : 0 * 8 + j < (ls.flatMap ccells).length := by rw [flat_length 8 ccells ccells8]; omega
    have := row_cell h.row (0 * 8 + j) _ (List.getElem?_eq_getElem hl)
    rw [flat_get 8 ccells ccells8 ls 0 j hk hj hl, Nat.zero_mul, Nat.zero_add] at this
    rw [this]
    simp only [nth_eq hk]
  have hlt := h.row.lt g rfl
  have c7 := hc 7 (by omega)
  simp only [ccells, e, List.getElem_cons_zero, List.getElem_cons_succ] at c7
  exact ⟨ba, bc, e, hlt.2, hlt.1, hc 0 (by omega), hc 1 (by omega), hc 2 (by omega), hc 3 (by omega), hc 4 (by omega), hc 5 (by omega), hc 6 (by omega), c7⟩

set_option maxRecDepth 100000 in
set_option maxHeartbeats 4000000 in
theorem anyStore_c (rb m : Nat) (w : World) (hr : Rdr w rb m) (hm : m + 1510 ≤ 1000000000) :
    Calls Tryd.prog 48 #[.pointer (some ⟨rb, 0, none⟩)] w fun e w' => ∃ (ls : List (Co × Value)) (la : Option Addr) (lc : Nat) (vs : List (Fi × Value)) (a : Option Addr) (c : Nat),
      e = .returned (.tuple #[.slice la ls.length lc, .agg #[.slice a vs.length c]]) ∧ StoreW w' w.heap.size la lc ls ∧ TreeW w' w.heap.size a c vs ∧ ls.length ≤ 11 ∧ vs.length ≤ 10 ∧ Rdr w' rb (m + 1510) ∧ Y rb w w' := by
  have hlt := hr.lt
  have hBr := Bx.new w #[.slice none 0 0] 25
  have hy : Y rb w (w.alloc (.cells #[.slice none 0 0] 25)) := Y.of_x (by (repeat (first | exact X.refl _ | assumption | refine X.ext ?_ _ | refine X.alloc ?_ _ | refine X.drew ?_)))
  replace hr := hr.x (w' := (w.alloc (.cells #[.slice none 0 0] 25))) (by (repeat (first | exact X.refl _ | assumption | refine X.ext ?_ _ | refine X.alloc ?_ _ | refine X.drew ?_)))
  have hner : w.heap.size ≠ rb := by omega
  go_enter Tryd.func48, Tryd.ntmps48
  go_wp2_with fail
  refine (someStore_c rb _ _ hr (by omega)).mono ?_
  rintro _ w1 ⟨ls, la, lc, vs, a, c, rfl, hS, hT, hls, hvs, hr', hy'⟩
  replace hBr := hBr.y hy' hner
  replace hy := hy.trans ((Y.of_x (by (repeat (first | exact X.refl _ | assumption | refine X.ext ?_ _ | refine X.alloc ?_ _ | refine X.drew ?_)))).trans hy'); replace hr := hr'; clear hr' hy'
  rw [World.size_alloc] at hS hT
  have hw1 := hy.size
  have hltr := hBr.lt
  have hne1 : w1.heap.size ≠ rb := by omega
  have hTb : (w1.alloc (.cells #[.slice a vs.length c] 25)).heap[w1.heap.size]? = some (.cells #[.slice a vs.length c] 25 (0, 0)) := heap_alloc_new w1 _
  replace hBr := hBr.x (w' := (w1.alloc (.cells #[.slice a vs.length c] 25))) (by (repeat (first | exact X.refl _ | assumption | refine X.ext ?_ _ | refine X.alloc ?_ _ | refine X.drew ?_)))
  replace hy := hy.trans (Y.of_x (w' := (w1.alloc (.cells #[.slice a vs.length c] 25))) (by (repeat (first | exact X.refl _ | assumption | refine X.ext ?_ _ | refine X.alloc ?_ _ | refine X.drew ?_))))
  replace hr := hr.x (w' := (w1.alloc (.cells #[.slice a vs.length c] 25))) (by (repeat (first | exact X.refl _ | assumption | refine X.ext ?_ _ | refine X.alloc ?_ _ | refine X.drew ?_)))
  replace hT := hT.fr (X.fr (w' := (w1.alloc (.cells #[.slice a vs.length c] 25))) (by (repeat (first | exact X.refl _ | assumption | refine X.ext ?_ _ | refine X.alloc ?_ _ | refine X.drew ?_))) _)
  replace hS := hS.fr (X.fr (w' := (w1.alloc (.cells #[.slice a vs.length c] 25))) (by (repeat (first | exact X.refl _ | assumption | refine X.ext ?_ _ | refine X.alloc ?_ _ | refine X.drew ?_))) _)
  have hl1 : w1.heap.size < (w1.alloc (.cells #[.slice a vs.length c] 25)).heap.size := by simp
  generalize hW1 : w1.alloc (.cells #[.slice a vs.length c] 25) = W1 at *
  -- the end, from whatever world
  have Fin := Lib.hid (show ∀ (W : World) (us : List (Co × Value)) (a' : Option Addr) (c' : Nat), StoreW W (w.heap.size + 1) a' c' us → TreeW W (w.heap.size + 1) a c vs → us.length ≤ 11 → Rdr W rb (m + 1510) → Y rb w W →
      ∃ (ls : List (Co × Value)) (la : Option Addr) (lc : Nat) (vs' : List (Fi × Value)) (a2 : Option Addr) (c2 : Nat),
        Ending.returned (.tuple #[.slice a' us.length c', .agg #[.slice a vs.length c]]) = .returned (.tuple #[.slice la ls.length lc, .agg #[.slice a2 vs'.length c2]]) ∧ StoreW (W.setCell ⟨w.heap.size, 0, none⟩ (.slice a vs.length c)).drew w.heap.size la lc ls ∧ TreeW (W.setCell ⟨w.heap.size, 0, none⟩ (.slice a vs.length c)).drew w.heap.size a2 c2 vs' ∧ ls.length ≤ 11 ∧ vs'.length ≤ 10 ∧
        Rdr (W.setCell ⟨w.heap.size, 0, none⟩ (.slice a vs.length c)).drew rb (m + 1510) ∧ Y rb w (W.setCell ⟨w.heap.size, 0, none⟩ (.slice a vs.length c)).drew from fun W us a' c' hS hT hl hr hy => by
    have hfr : Fr (w.heap.size + 1) W (W.setCell ⟨w.heap.size, 0, none⟩ (.slice a vs.length c)).drew := (Fr.set (B := w.heap.size + 1) (p := ⟨w.heap.size, 0, none⟩) (Fr.refl _ _) (.inr (Nat.lt_succ_self _)) _).trans (X.fr (X.drew (X.refl _)) _)
    exact ⟨us, a', c', vs, a, c, rfl, (hS.fr hfr).less (by omega), (hT.fr hfr).less (by omega), hl, hvs, (Rdr.set2 hr hlt _).x (X.drew (X.refl _)), (Y.set2 hy (Nat.le_refl _) _).drew⟩)
  obtain ⟨hb, hc, hf⟩ := Bx.out ⟨_, hTb⟩
  have z0 := hc 0
  clear hc
  have hlW := hy.size
  rcases Nat.eq_zero_or_pos ls.length with h0 | h0
  · have hnil : ls = [] := List.length_eq_zero_iff.1 h0
    subst hnil
    clear h0 hb hf z0
    simp only [List.length_nil]
    have hTb2 := hTb
    have hB2 := hBr
    have hS2 := hS
    have hT2 := hT
    have hr2 := hr
    have hy2 := hy
    go_wp2
    have z9 := cell_of_row W1 w1.heap.size 0 _ _ (0, 0) hTb2
    have l9 : w1.heap.size < W1.heap.size := (Array.getElem?_eq_some_iff.1 hTb2).1
    obtain ⟨hb9, hc9, hf9⟩ := hB2.out
    have r9 := hc9 0
    clear hc9
    go_region
    all_goals
      go_wp2
      refine bodyPost_ret (v := .tuple #[.slice la ([] : List (Co × Value)).length lc, .agg #[.slice a vs.length c]]) ?_ rfl ?_
      · obtain ⟨hb3, hc3, hf3⟩ := (Bx.set hB2 0 (.slice a vs.length c)).out
        have e0 : (W1.setCell ⟨w.heap.size, 0, none⟩ (.slice a vs.length c)).cell? ⟨w.heap.size, 0, none⟩ = some (.slice a vs.length c) := hc3 0
        clear hc3 r9
        simp [results, Tryd.results48, go_sem, Result.andThen, *]
      · exact Fin.out W1 ([] : List (Co × Value)) la lc hS2 hT2 (by first | assumption | omega | (simp; done) | (simp; omega)) (hr2.weak (by omega) (by omega)) hy2
  · obtain ⟨g, rfl, hgB, hgl⟩ := own_form hS.row h0
    go_wp2_with fail
    refine (pick_c rb _ 20 _ hr (by omega) (by omega)).mono ?_
    rintro _ w2 ⟨q, rfl, hq, hr', hy'⟩
    replace hBr := hBr.y hy' hner
    replace hTb := at_y hTb hy' hne1
    replace hT := hT.fr (hy'.fr.mono (by omega))
    replace hS := hS.fr (hy'.fr.mono (by omega))
    replace hy := hy.trans ((Y.of_x (by (repeat (first | exact X.refl _ | assumption | refine X.ext ?_ _ | refine X.alloc ?_ _ | refine X.drew ?_)))).trans hy'); replace hr := hr'; clear hr' hy'
    clear hb hf z0 hW1 hgl hl1 hq
    obtain ⟨ba, bc, hv, hgl, _, g0, g1, g2, g3, g4, g5, g6, g7⟩ := hS.cells h0
    obtain ⟨csg, hTg⟩ := own_block hS.row
    obtain ⟨_, hcg, hfg⟩ := Bx.out ⟨_, hTg⟩
    clear hcg
    have hsm := hS.small _ (nth_mem h0)
    have hbd := hS.body _ (nth_mem h0)
    have hlw2 := hy.size
    have hgr : g ≠ rb := by omega
    have hgt : w1.heap.size ≠ g := fun e => own_ne_at hS.row hTb (by decide) (by rw [e]; rfl)
    have hgw : w.heap.size ≠ g := by omega
    have hi0 : (0 : Int) < (ls.length : Int) := by omega
    by_cases hq0 : q = 0
    · subst hq0
      go_wp2
      refine wp_name (fun W2 hW2 => ?_)
      obtain ⟨us, hul, hS2⟩ : ∃ us : List (Co × Value), us.length = ls.length ∧ StoreW W2 (w.heap.size + 1) (some ⟨g, 0, none⟩) lc us := by
        rw [hW2]
        exact ⟨_, List.length_set .., StoreW.set (y := ({ (nth ls 0).1 with hash := wrap64 ((nth ls 0).1.hash + 1) }, (nth ls 0).2)) hS h0 (j := 6) (by omega) rfl hsm hbd⟩
      have hTb2 : W2.heap[w1.heap.size]? = some (.cells #[.slice a vs.length c] 25 (0, 0)) := by
        rw [hW2]
        exact (heap_setCell_other w2 _ w1.heap.size _ hgt).trans hTb
      have hB2 : Bx W2 w.heap.size #[.slice none 0 0] := by
        rw [hW2]
        exact Bx.far hBr hgw _
      have hT2 : TreeW W2 (w.heap.size + 1) a c vs := by
        rw [hW2]
        exact TreeW.set_far hT hTg (by decide) (by decide) _ _
      have hr2 : Rdr W2 rb (m + 1500 + 1) := by
        rw [hW2]
        exact Rdr.set2 (p := ⟨g, 6, none⟩) hr (show rb < g by omega) _
      have hy2 : Y rb w W2 := by
        rw [hW2]
        exact Y.set2 (p := ⟨g, 6, none⟩) hy (show w.heap.size ≤ g by omega) _
      have hul2 : us.length ≤ 11 := by omega
      clear hW2 hS hBr hT hTb hr hy hTg g0 g1 g2 g3 g4 g5 g6 g7 hsm hbd hfg
      rw [show (Value.slice (some ⟨g, 0, none⟩) ls.length lc) = Value.slice (some ⟨g, 0, none⟩) us.length lc by rw [hul]]
      have z9 := cell_of_row W2 w1.heap.size 0 _ _ (0, 0) hTb2
      have l9 : w1.heap.size < W2.heap.size := (Array.getElem?_eq_some_iff.1 hTb2).1
      obtain ⟨hb9, hc9, hf9⟩ := hB2.out
      have r9 := hc9 0
      clear hc9
      go_region
      all_goals
        go_wp2
        refine bodyPost_ret (v := .tuple #[.slice (some ⟨g, 0, none⟩) us.length lc, .agg #[.slice a vs.length c]]) ?_ rfl ?_
        · obtain ⟨hb3, hc3, hf3⟩ := (Bx.set hB2 0 (.slice a vs.length c)).out
          have e0 : (W2.setCell ⟨w.heap.size, 0, none⟩ (.slice a vs.length c)).cell? ⟨w.heap.size, 0, none⟩ = some (.slice a vs.length c) := hc3 0
          clear hc3 r9
          simp [results, Tryd.results48, go_sem, Result.andThen, *]
        · exact Fin.out W2 us (some ⟨g, 0, none⟩) lc hS2 hT2 (by first | assumption | omega | (simp; done) | (simp; omega)) (hr2.weak (by omega) (by omega)) hy2
    by_cases hq1 : q = 1
    · subst hq1
      have hmem : nth ls 0 ∈ ls := nth_mem h0
      generalize hxf : nth ls 0 = x at *
      obtain ⟨cf, xv⟩ := x
      simp only at hv g0 g1 g2 g3 g4 g5 g6 g7
      subst hv
      clear hxf
      go_wp2_with (at_builtin; refine wpList_append_g (w := w2) co_T rfl _ _ rfl hS.row rfl rfl rfl rfl (by simp [Value.oneCell']) (by omega) (by omega) (by omega) ?_; intro a' c' w' hrow' hg')
      have hga : w2.grownBy w' (Value.slice (some ⟨g, 0, none⟩) ls.length lc).ownBlock := X.grown ((X.refl w2).alloc _) hg'
      have hS2 := StoreW.push (x := (cf, .slice ba cf.body.length bc)) hS hga hrow' hsm hbd
      have hT2 := hT.kept hS.row hga (by decide) (by decide)
      have hTb2 := at_grown hTb hga (own_ne_at hS.row hTb (by decide))
      have hB2 := hBr.grown hga (own_ge hS.row (by omega))
      have hr2 := hr.grown hga (fun k hk => by have := (hS.row.lt k hk).1; omega)
      have hy2 := hy.grown hga (fun k hk => by have := (hS.row.lt k hk).1; omega)
      obtain ⟨us, hus⟩ : ∃ us : List (Co × Value), us = ls ++ [(cf, .slice ba cf.body.length bc)] := ⟨_, rfl⟩
      have hul : us.length = ls.length + 1 := by rw [hus, List.length_append, List.length_singleton]
      rw [← hus] at hS2
      have hul2 : us.length ≤ 11 := by omega
      rw [show (Value.slice a' (ls.length + 1) c') = Value.slice a' us.length c' by rw [hul]]
      clear hus hS hBr hT hTb hr hy hTg g0 g1 g2 g3 g4 g5 g6 g7 hsm hbd hfg hga hg' hrow' hmem
      have z9 := cell_of_row w' w1.heap.size 0 _ _ (0, 0) hTb2
      have l9 : w1.heap.size < w'.heap.size := (Array.getElem?_eq_some_iff.1 hTb2).1
      obtain ⟨hb9, hc9, hf9⟩ := hB2.out
      have r9 := hc9 0
      clear hc9
      go_region
      all_goals
        go_wp2
        refine bodyPost_ret (v := .tuple #[.slice a' us.length c', .agg #[.slice a vs.length c]]) ?_ rfl ?_
        · obtain ⟨hb3, hc3, hf3⟩ := (Bx.set hB2 0 (.slice a vs.length c)).out
          have e0 : (w'.setCell ⟨w.heap.size, 0, none⟩ (.slice a vs.length c)).cell? ⟨w.heap.size, 0, none⟩ = some (.slice a vs.length c) := hc3 0
          clear hc3 r9
          simp [results, Tryd.results48, go_sem, Result.andThen, *]
        · exact Fin.out w' us a' c' hS2 hT2 (by first | assumption | omega | (simp; done) | (simp; omega)) (hr2.weak (by omega) (by omega)) hy2
    by_cases hq2 : q = 2
    · subst hq2
      go_wp2_with fail
      refine (one_c rb _ [-1, 3] _ _ _ (rb + 1) _ (hr.x (by (repeat (first | exact X.refl _ | assumption | refine X.ext ?_ _ | refine X.alloc ?_ _ | refine X.drew ?_)))) (by omega) (ints_lit (w := w2) rfl (by omega) rfl rfl (by decide)) (by omega) (by decide)).mono ?_
      rintro _ w3 ⟨n, rfl, hn3, hr3, hy3⟩
      replace hy3 := (Y.of_x (w := w2) (by (repeat (first | exact X.refl _ | assumption | refine X.ext ?_ _ | refine X.alloc ?_ _ | refine X.drew ?_)))).trans hy3
      replace hBr := hBr.y hy3 hner
      replace hTb := at_y hTb hy3 hne1
      replace hT := hT.fr (hy3.fr.mono (by omega))
      replace hS := hS.fr (hy3.fr.mono (by omega))
      replace hy := hy.trans hy3
      replace hr := hr3
      clear hy3 hr3 hTg hfg hv g0 g1 g2 g3 g4 g5 g6 g7 hgl hbd hsm
      obtain ⟨ba, bc, hv, hgl, _, g0, g1, g2, g3, g4, g5, g6, g7⟩ := hS.cells h0
      obtain ⟨csg, hTg⟩ := own_block hS.row
      obtain ⟨_, hcg, hfg⟩ := Bx.out ⟨_, hTg⟩
      clear hcg
      have hsm := hS.small _ (nth_mem h0)
      have hbd := hS.body _ (nth_mem h0)
      have hlw3 := hy.size
      have hgt : w1.heap.size ≠ g := fun e => own_ne_at hS.row hTb (by decide) (by rw [e]; rfl)
      go_wp2
      refine wp_name (fun W2 hW2 => ?_)
      obtain ⟨us, hul, hS2⟩ : ∃ us : List (Co × Value), us.length = ls.length ∧ StoreW W2 (w.heap.size + 1) (some ⟨g, 0, none⟩) lc us := by
        rw [hW2]
        exact ⟨_, List.length_set .., StoreW.set (y := ({ (nth ls 0).1 with mode := n }, (nth ls 0).2)) hS h0 (j := 3) (by omega) rfl hsm hbd⟩
      have hTb2 : W2.heap[w1.heap.size]? = some (.cells #[.slice a vs.length c] 25 (0, 0)) := by
        rw [hW2]
        exact (heap_setCell_other w3 _ w1.heap.size _ hgt).trans hTb
      have hB2 : Bx W2 w.heap.size #[.slice none 0 0] := by
        rw [hW2]
        exact Bx.far hBr hgw _
      have hT2 : TreeW W2 (w.heap.size + 1) a c vs := by
        rw [hW2]
        exact TreeW.set_far hT hTg (by decide) (by decide) _ _
      have hr2 : Rdr W2 rb (m + 1500 + 1 + 1) := by
        rw [hW2]
        exact Rdr.set2 (p := ⟨g, 3, none⟩) hr (show rb < g by omega) _
      have hy2 : Y rb w W2 := by
        rw [hW2]
        exact Y.set2 (p := ⟨g, 3, none⟩) hy (show w.heap.size ≤ g by omega) _
      have hul2 : us.length ≤ 11 := by omega
      clear hW2 hS hBr hT hTb hr hy hTg g0 g1 g2 g3 g4 g5 g6 g7 hsm hbd hfg
      rw [show (Value.slice (some ⟨g, 0, none⟩) ls.length lc) = Value.slice (some ⟨g, 0, none⟩) us.length lc by rw [hul]]
      have z9 := cell_of_row W2 w1.heap.size 0 _ _ (0, 0) hTb2
      have l9 : w1.heap.size < W2.heap.size := (Array.getElem?_eq_some_iff.1 hTb2).1
      obtain ⟨hb9, hc9, hf9⟩ := hB2.out
      have r9 := hc9 0
      clear hc9
      go_region
      all_goals
        go_wp2
        refine bodyPost_ret (v := .tuple #[.slice (some ⟨g, 0, none⟩) us.length lc, .agg #[.slice a vs.length c]]) ?_ rfl ?_
        · obtain ⟨hb3, hc3, hf3⟩ := (Bx.set hB2 0 (.slice a vs.length c)).out
          have e0 : (W2.setCell ⟨w.heap.size, 0, none⟩ (.slice a vs.length c)).cell? ⟨w.heap.size, 0, none⟩ = some (.slice a vs.length c) := hc3 0
          clear hc3 r9
          simp [results, Tryd.results48, go_sem, Result.andThen, *]
        · exact Fin.out W2 us (some ⟨g, 0, none⟩) lc hS2 hT2 (by first | assumption | omega | (simp; done) | (simp; omega)) (hr2.weak (by omega) (by omega)) hy2
    · have q0 : ((q : Int) == 0) = false := by simp; omega
      have q1 : ((q : Int) == 1) = false := by simp; omega
      have q2 : ((q : Int) == 2) = false := by simp; omega
      have hls2 : ls.length ≤ 11 := by omega
      have hTb2 := hTb
      have hB2 := hBr
      have hS2 := hS
      have hT2 := hT
      have hr2 := hr
      have hy2 := hy
      clear hS hBr hT hTb hr hy hTg g0 g1 g2 g3 g4 g5 g6 g7 hsm hbd hfg
      go_wp2
      have z9 := cell_of_row w2 w1.heap.size 0 _ _ (0, 0) hTb2
      have l9 : w1.heap.size < w2.heap.size := (Array.getElem?_eq_some_iff.1 hTb2).1
      obtain ⟨hb9, hc9, hf9⟩ := hB2.out
      have r9 := hc9 0
      clear hc9
      go_region
      all_goals
        go_wp2
        refine bodyPost_ret (v := .tuple #[.slice (some ⟨g, 0, none⟩) ls.length lc, .agg #[.slice a vs.length c]]) ?_ rfl ?_
        · obtain ⟨hb3, hc3, hf3⟩ := (Bx.set hB2 0 (.slice a vs.length c)).out
          have e0 : (w2.setCell ⟨w.heap.size, 0, none⟩ (.slice a vs.length c)).cell? ⟨w.heap.size, 0, none⟩ = some (.slice a vs.length c) := hc3 0
          clear hc3 r9
          simp [results, Tryd.results48, go_sem, Result.andThen, *]
        · exact Fin.out w2 ls (some ⟨g, 0, none⟩) lc hS2 hT2 (by first | assumption | omega | (simp; done) | (simp; omega)) (hr2.weak (by omega) (by omega)) hy2

end Go.Proofs.YtebnjkjllinabaaDoor
