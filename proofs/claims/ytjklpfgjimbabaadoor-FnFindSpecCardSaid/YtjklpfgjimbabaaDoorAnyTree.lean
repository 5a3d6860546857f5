/- The generator of trees that may be invalid. No condition but that the reader has not read too far. -/
import Derived.Test.YtjklpfgjimbabaaDoorTrees
import Derived.Deep.RegionLaw
import Derived.Deep.RegionHeld3
namespace Go.Proofs.YtjklpfgjimbabaaDoor
open Go.RowKit

set_option maxRecDepth 100000 in
set_option maxHeartbeats 2000000 in
theorem anyTree_c (rb m : Nat) (w : World) (hr : Rdr w rb m) (hm : m + 730 ≤ 1000000000) :
    Calls Tryd.prog 44 #[.pointer (some ⟨rb, 0, none⟩)] w fun e w' => ∃ (l : List Fi) (a : Option Addr) (n c : Nat), e = .returned (.agg #[.slice a n c]) ∧ FilesAt w' w.heap.size a n l ∧ n ≤ c ∧ n ≤ 11 ∧ (∀ f ∈ l, SmallF f) ∧
      Rdr w' rb (m + 730) ∧ Y rb w w' := by
  have hlt := hr.lt
  have hBr := Bx.new w #[.slice none 0 0] 25
  have hy : Y rb w (w.alloc (.cells #[.slice none 0 0] 25)) := Y.of_x (by (repeat (first | exact X.refl _ | assumption | refine X.ext ?_ _ | refine X.alloc ?_ _ | refine X.drew ?_)))
  replace hr := hr.x (w' := (w.alloc (.cells #[.slice none 0 0] 25))) (by (repeat (first | exact X.refl _ | assumption | refine X.ext ?_ _ | refine X.alloc ?_ _ | refine X.drew ?_)))
  have hner : w.heap.size ≠ rb := by omega
  go_enter Tryd.func44, Tryd.ntmps44
  go_wp2_with fail
  refine (someTree_c rb _ _ hr (by omega)).mono ?_
  rintro _ w1 ⟨vs, a, c, rfl, hT, hn, h4, hr', hy'⟩
  replace hBr := hBr.y hy' hner
  replace hy := hy.trans ((Y.of_x (by (repeat (first | exact X.refl _ | assumption | refine X.ext ?_ _ | refine X.alloc ?_ _ | refine X.drew ?_)))).trans hy'); replace hr := hr'; clear hr' hy'
  rw [World.size_alloc] at hT
  have hw1 := hy.size
  have hltr := hBr.lt
  have hnetr : w.heap.size ≠ w1.heap.size := Nat.ne_of_lt hltr
  have hTb : (w1.alloc (.cells #[.slice a vs.length c] 25)).heap[w1.heap.size]? = some (.cells #[.slice a vs.length c] 25 (0, 0)) := heap_alloc_new w1 _
  have hne1 : w1.heap.size ≠ rb := by omega
  replace hBr := hBr.x (w' := (w1.alloc (.cells #[.slice a vs.length c] 25))) (by (repeat (first | exact X.refl _ | assumption | refine X.ext ?_ _ | refine X.alloc ?_ _ | refine X.drew ?_)))
  replace hy := hy.trans (Y.of_x (w' := (w1.alloc (.cells #[.slice a vs.length c] 25))) (by (repeat (first | exact X.refl _ | assumption | refine X.ext ?_ _ | refine X.alloc ?_ _ | refine X.drew ?_))))
  replace hr := hr.x (w' := (w1.alloc (.cells #[.slice a vs.length c] 25))) (by (repeat (first | exact X.refl _ | assumption | refine X.ext ?_ _ | refine X.alloc ?_ _ | refine X.drew ?_)))
  replace hT := hT.fr (X.fr (w' := (w1.alloc (.cells #[.slice a vs.length c] 25))) (by (repeat (first | exact X.refl _ | assumption | refine X.ext ?_ _ | refine X.alloc ?_ _ | refine X.drew ?_))) _)
  obtain ⟨hb, hc, hf⟩ := Bx.out ⟨_, hTb⟩
  have Fin := Lib.hid (show ∀ (W : World) (us : List (Fi × Value)) (a' : Option Addr) (c' : Nat), W.ownsRow (w.heap.size + 1) 39 6 (.slice a' us.length c') us.length (us.flatMap fcells) → (∀ x ∈ us, SmallF x.1) → (∀ x ∈ us, OwnB W (w.heap.size + 1) x) →
      us.length ≤ 11 → Rdr W rb (m + 730) → Y rb w W → ∀ v, ∃ (l : List Fi) (n : Nat), Ending.returned (.agg #[.slice a' us.length c']) = .returned (.agg #[.slice a' n c']) ∧ FilesAt (W.setCell ⟨w.heap.size, 0, none⟩ v) w.heap.size a' n l ∧ n ≤ c' ∧ n ≤ 11 ∧ (∀ f ∈ l, SmallF f) ∧
      Rdr (W.setCell ⟨w.heap.size, 0, none⟩ v) rb (m + 730) ∧ Y rb w (W.setCell ⟨w.heap.size, 0, none⟩ v) from
    fun W us a' c' h1 h2 h3 h4 hr hy v => ⟨us.map (·.1), us.length, rfl, ((files_of h1 h2 h3 (by omega)).mono (Fr.set (Fr.refl _ _) (.inr (by simp)) _)).less (by omega), own_cap h1, h4, fun f hf => by
      obtain ⟨x, hx, rfl⟩ := List.mem_map.1 hf
      exact h2 x hx, Rdr.set2 hr hlt _, Y.set2 hy (Nat.le_refl _) _⟩)
  by_cases h0 : 0 < vs.length
  · go_wp2_with fail
    refine (pick_c rb _ _ _ hr (by omega) (by omega)).mono ?_
    rintro _ w2 ⟨k, rfl, hk, hr', hy'⟩
    replace hBr := hBr.y hy' hner
    replace hTb := (hy'.block _ hb (by simpa using hne1)).trans hTb
    replace hT := hT.fr (hy'.fr.mono (by omega))
    replace hy := hy.trans ((Y.of_x (by (repeat (first | exact X.refl _ | assumption | refine X.ext ?_ _ | refine X.alloc ?_ _ | refine X.drew ?_)))).trans hy'); replace hr := hr'; clear hr' hy'
    clear hb hc hf hk
    obtain ⟨hb, hc, hf⟩ := Bx.out ⟨_, hTb⟩
    obtain ⟨⟨f, v0⟩, us, rfl⟩ : ∃ x us, vs = x :: us := by cases vs with | nil => simp at h0 | cons x us => exact ⟨x, us, rfl⟩
    obtain ⟨g, cur, rfl, hTg⟩ : ∃ g cur, a = some ⟨g, 0, none⟩ ∧ w2.heap[g]? = some (.cells cur 39 (0, 0)) := by
      obtain ⟨_, h | ⟨g', cap, cur, hv, _, h2, _⟩⟩ := hT.row
      · simp at h
      · injection hv with h1; exact ⟨g', cur, h1, h2⟩
    have hrow := row_cell hT.row
    have hgW := hT.row.lt g rfl
    obtain ⟨b0, d0, hv0, hO0⟩ := hT.body _ (List.mem_cons_self ..)
    simp only at hv0
    subst hv0
    have c0 := hrow 0 _ rfl
    have c1 := hrow 1 _ rfl
    have c2 := hrow 2 _ rfl
    have c3 := hrow 3 _ rfl
    have c4 := hrow 4 _ rfl
    have c5 := hrow 5 _ rfl
    clear hrow
    have hl4 : f.body.length ≤ 4 := h4 _ (List.mem_cons_self ..)
    have hgt : w1.heap.size ≠ g := fun e => own_ne_at hT.row hTb (by decide) (by rw [e]; rfl)
    obtain ⟨hb', hc', hf'⟩ := hBr.out
    go_wp2_with fail
    · go_region_law ((refine step_append_t file_T rfl _ _ rfl (w := w2) (by (repeat (first | exact X.refl _ | assumption | refine X.ext ?_ _ | refine X.alloc ?_ _ | refine X.drew ?_))) hT.row rfl rfl (heap_alloc_new w2 _) rfl (by simp [Value.oneCell']) (by omega) (by omega) (by omega) ?_; intro a' c' w' hrow' hg'; have hTb2 := at_grown hTb hg' (own_ne_at hT.row hTb (by decide)); obtain ⟨hb2, hc2, hf2⟩ := Bx.out ⟨_, hTb2⟩))
      all_goals
        have hBr2 := hBr.grown hg' (own_ge hT.row (by omega))
        have hr2 := hr.grown hg' (fun k hk => by have := (hT.row.lt k hk).1; omega)
        have hy2 := hy.grown hg' (fun k hk => by have := (hT.row.lt k hk).1; omega)
        have hbo := hT.bodies hg'
        clear hb hc hf hb' hc' hf'
        obtain ⟨hb', hc', hf'⟩ := hBr2.out
        go_wp2
        refine bodyPost_row Tryd.results44 rfl (Bx.set (Bx.far hBr2 hnetr _) 0 _) tree_S rfl rfl ?_
        obtain ⟨l, n, H⟩ := Fin.out (w'.setCell ⟨w1.heap.size, 0, none⟩ (.slice a' ((us.length + 1) + 1) c')) (((f, .slice b0 f.body.length d0) :: us) ++ [(f, .slice b0 f.body.length d0)]) a' c'
          (by rw [flat_snoc, List.length_append]; exact own_set_far hrow' hTb2 (by decide) _ _)
          (fun x hx => by
            rcases List.mem_append.1 hx with hx | hx
            · exact hT.small x hx
            · rw [List.mem_singleton.1 hx]; exact hT.small _ (List.mem_cons_self ..))
          (fun x hx => by
            rcases List.mem_append.1 hx with hx | hx
            · exact (hbo x hx).set_far hTb2 (by decide) _ _
            · rw [List.mem_singleton.1 hx]; exact (hbo _ (List.mem_cons_self ..)).set_far hTb2 (by decide) _ _)
          (by simp at hn ⊢; omega) (Rdr.set2 (hr2.weak (by omega) (by omega)) (by simp; omega) _) (Y.set2 hy2 (by simp; omega) _) (.slice a' ((us.length + 1) + 1) c')
        simp only [List.length_append, List.length_cons, List.length_nil, Nat.zero_add] at H
        exact ⟨l, a', n, c', H⟩
    · go_region_held3 (fun w' => w'.cell? ⟨w1.heap.size, 0, none⟩ = some (.slice (some ⟨g, 0, none⟩) (us.length + 1) c)) (first | go_keep | exact cell_set_far (by assumption) hgt)
        ((go_at_call 71; refine (one_c rb _ [-1, 3] _ _ _ (rb + 1) _ (hr.x (by (repeat (first | exact X.refl _ | assumption | refine X.ext ?_ _ | refine X.alloc ?_ _ | refine X.drew ?_)))) (by omega) ((ints_lit (w := w2) rfl (by omega) rfl rfl (by decide)).mono (X.fr (by (repeat (first | exact X.refl _ | assumption | refine X.ext ?_ _ | refine X.alloc ?_ _ | refine X.drew ?_))) _)) (by omega) (by decide)).mono ?_; rintro _ w3 ⟨n, rfl, hn3, hr3, hy3⟩; replace hy3 := (Y.of_x (w := w2) (by (repeat (first | exact X.refl _ | assumption | refine X.ext ?_ _ | refine X.alloc ?_ _ | refine X.drew ?_)))).trans hy3; have hTb3 := at_y hTb hy3 hne1; have hTg3 := at_y hTg hy3 (by omega); obtain ⟨hb3, hc3, hf3⟩ := Bx.out ⟨_, hTb3⟩; obtain ⟨hb4, hc4, hf4⟩ := Bx.out ⟨_, hTg3⟩; clear hc4; have hS3 := hc3 0; have hc5 := (hy3.cell (o := 0) hgW.2 (by omega)).trans c0))
      all_goals
        have hBr3 := hBr.y hy3 hner
        have hT3 := hT.fr (hy3.fr.mono (by omega))
        have hy4 := hy.trans hy3
        obtain ⟨h1, h2, h3⟩ := tree_set (k := 0) (u := .int .i64 n) (f' := { f with root := n }) hT3 hTg3 rfl rfl (hT.small _ (List.mem_cons_self ..))
        clear hb hc hf hb' hc' hf'
        obtain ⟨hb', hc', hf'⟩ := hBr3.out
        go_wp2
        refine bodyPost_row Tryd.results44 rfl (Bx.set (Bx.far hBr3 (by simp; omega) _) 0 _) tree_S rfl rfl ?_
        obtain ⟨l, n', H⟩ := Fin.out (w3.setCell ⟨g, 0, none⟩ (.int .i64 n)) _ _ _ h1 h2 h3 (by simp at hn ⊢; omega) (Rdr.set2 (hr3.weak (by omega) (by omega)) (by simp; omega) _) (Y.set2 hy4 (by simp; omega) _) (.slice (some ⟨g, 0, none⟩) (us.length + 1) c)
        exact ⟨l, _, n', c, H⟩
    · go_region_held3 (fun w' => w'.cell? ⟨w1.heap.size, 0, none⟩ = some (.slice (some ⟨g, 0, none⟩) (us.length + 1) c)) (first | go_keep | exact cell_set_far (by assumption) hgt)
        ((go_at_call 71; refine (one_c rb _ [-1, 100] _ _ _ (rb + 1) _ (hr.x (by (repeat (first | exact X.refl _ | assumption | refine X.ext ?_ _ | refine X.alloc ?_ _ | refine X.drew ?_)))) (by omega) ((ints_lit (w := w2) rfl (by omega) rfl rfl (by decide)).mono (X.fr (by (repeat (first | exact X.refl _ | assumption | refine X.ext ?_ _ | refine X.alloc ?_ _ | refine X.drew ?_))) _)) (by omega) (by decide)).mono ?_; rintro _ w3 ⟨n, rfl, hn3, hr3, hy3⟩; replace hy3 := (Y.of_x (w := w2) (by (repeat (first | exact X.refl _ | assumption | refine X.ext ?_ _ | refine X.alloc ?_ _ | refine X.drew ?_)))).trans hy3; have hTb3 := at_y hTb hy3 hne1; have hTg3 := at_y hTg hy3 (by omega); obtain ⟨hb3, hc3, hf3⟩ := Bx.out ⟨_, hTb3⟩; obtain ⟨hb4, hc4, hf4⟩ := Bx.out ⟨_, hTg3⟩; clear hc4; have hS3 := hc3 0; have hc5 := (hy3.cell (o := 4) hgW.2 (by omega)).trans c4))
      all_goals
        have hBr3 := hBr.y hy3 hner
        have hT3 := hT.fr (hy3.fr.mono (by omega))
        have hy4 := hy.trans hy3
        obtain ⟨h1, h2, h3⟩ := tree_set (k := 4) (u := .int .i64 n) (f' := { f with stamp := n }) hT3 hTg3 rfl rfl (hT.small _ (List.mem_cons_self ..))
        clear hb hc hf hb' hc' hf'
        obtain ⟨hb', hc', hf'⟩ := hBr3.out
        go_wp2
        refine bodyPost_row Tryd.results44 rfl (Bx.set (Bx.far hBr3 (by simp; omega) _) 0 _) tree_S rfl rfl ?_
        obtain ⟨l, n', H⟩ := Fin.out (w3.setCell ⟨g, 4, none⟩ (.int .i64 n)) _ _ _ h1 h2 h3 (by simp at hn ⊢; omega) (Rdr.set2 (hr3.weak (by omega) (by omega)) (by simp; omega) _) (Y.set2 hy4 (by simp; omega) _) (.slice (some ⟨g, 0, none⟩) (us.length + 1) c)
        exact ⟨l, _, n', c, H⟩
    · go_region_law ((refine step_append_t stmt_T rfl _ _ rfl (w := w2) (by (repeat (first | exact X.refl _ | assumption | refine X.ext ?_ _ | refine X.alloc ?_ _ | refine X.drew ?_))) hO0 rfl rfl (heap_alloc_new w2 _) rfl (by simp [Value.oneCell']) (by omega) (by omega) (by omega) ?_; intro a' c' w' hrow' hg'; have hTb2 := at_grown hTb hg' (own_ne_at hO0 hTb (by decide)); obtain ⟨hb2, hc2, hf2⟩ := Bx.out ⟨_, hTb2⟩; have hTg2 := at_grown hTg hg' (own_ne_at hO0 hTg (by decide)); obtain ⟨hb4, hc4, hf4⟩ := Bx.out ⟨_, hTg2⟩; clear hc4; have hc5 := (World.cell?_of_block (a := ⟨g, 5, none⟩) (hTg2.trans hTg.symm)).trans c5))
      all_goals
        have hBr2 := hBr.grown hg' (own_ge hO0 (by omega))
        have hr2 := hr.grown hg' (fun k hk => by have := (hO0.lt k hk).1; omega)
        have hy2 := hy.grown hg' (fun k hk => by have := (hO0.lt k hk).1; omega)
        have hs0 := hT.small _ (List.mem_cons_self ..)
        obtain ⟨h1, h2, h3⟩ := tree_body (s := ⟨9, [], 0, [], 0⟩) hT hTg hO0 hg' hrow' ⟨hs0.1, hs0.2.1, by rw [List.length_append]; exact Nat.add_le_add hl4 (Nat.le_refl 1), fun s hs => by
          rcases List.mem_append.1 hs with hs | hs
          · exact hs0.2.2.2 s hs
          · rw [List.mem_singleton.1 hs]; simp⟩
        clear hb hc hf hb' hc' hf'
        obtain ⟨hb', hc', hf'⟩ := hBr2.out
        go_wp2
        refine bodyPost_row Tryd.results44 rfl (Bx.set (Bx.far hBr2 (by simp; omega) _) 0 _) tree_S rfl rfl ?_
        obtain ⟨l, n', H⟩ := Fin.out (w'.setCell ⟨g, 5, none⟩ (.slice a' (f.body.length + 1) c')) _ _ _ h1 h2 h3 (by simp at hn ⊢; omega) (Rdr.set2 (hr2.weak (by omega) (by omega)) (by simp; omega) _) (Y.set2 hy2 (by simp; omega) _) (.slice (some ⟨g, 0, none⟩) (us.length + 1) c)
        exact ⟨l, _, n', c, H⟩
    · go_wp2
      refine bodyPost_row Tryd.results44 rfl (Bx.set hBr 0 _) tree_S rfl rfl ?_
      obtain ⟨l, n', H⟩ := Fin.out _ _ _ _ hT.row hT.small hT.body (by omega) (hr.weak (by omega) (by omega)) hy (.slice (some ⟨g, 0, none⟩) (us.length + 1) c)
      exact ⟨l, _, n', c, H⟩
  · obtain ⟨hb', hc', hf'⟩ := hBr.out
    go_wp2
    rw [← World.setCell_alloc_past _ _ _ _ hltr]
    refine bodyPost_row Tryd.results44 rfl (Bx.set hBr 0 _) tree_S rfl rfl ?_
    obtain ⟨l, n, H⟩ := Fin.out _ vs a c hT.row hT.small hT.body (by omega) (hr.weak (by omega) (by omega)) hy (.slice a vs.length c)
    exact ⟨l, a, n, c, H⟩

end Go.Proofs.YtjklpfgjimbabaaDoor
