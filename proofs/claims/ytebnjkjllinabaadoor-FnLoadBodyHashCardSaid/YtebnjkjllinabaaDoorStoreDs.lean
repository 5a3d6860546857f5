/- The generator of stores: the walk. No condition but that the reader has not read too far. -/
import Derived.Test.YtebnjkjllinabaaDoorStoreDr
namespace Go.Proofs.YtebnjkjllinabaaDoor
open Go.RowKit

/-- The box of the tree, and an element of its table. -/
def ElS (tb g k n c : Nat) (f : Fi) (v : Value) (w : World) : Prop :=
  w.cell? ⟨tb, 0, none⟩ = some (.slice (some ⟨g, 0, none⟩) n c) ∧ w.cell? ⟨g, k * 6, none⟩ = some (.int .i64 f.root) ∧ w.cell? ⟨g, k * 6 + 1, none⟩ = some (.string ⟨(f.pkg).toArray⟩) ∧ w.cell? ⟨g, k * 6 + 2, none⟩ = some (.string ⟨(f.name).toArray⟩) ∧ w.cell? ⟨g, k * 6 + 3, none⟩ = some (.bool f.init) ∧
    w.cell? ⟨g, k * 6 + 4, none⟩ = some (.int .i64 f.stamp) ∧ w.cell? ⟨g, k * 6 + 5, none⟩ = some v
theorem ElS.x {tb g k n c : Nat} {f : Fi} {v : Value} {w w' : World} (h : ElS tb g k n c f v w) (h1 : tb < w.heap.size) (h2 : g < w.heap.size) (hx : X w w') : ElS tb g k n c f v w' := by
  obtain ⟨e0, e1, e2, e3, e4, e5, e6⟩ := h
  exact ⟨(hx.cell (p := ⟨tb, 0, none⟩) h1).trans e0, (hx.cell (p := ⟨g, k * 6, none⟩) h2).trans e1, (hx.cell (p := ⟨g, k * 6 + 1, none⟩) h2).trans e2, (hx.cell (p := ⟨g, k * 6 + 2, none⟩) h2).trans e3, (hx.cell (p := ⟨g, k * 6 + 3, none⟩) h2).trans e4, (hx.cell (p := ⟨g, k * 6 + 4, none⟩) h2).trans e5, (hx.cell (p := ⟨g, k * 6 + 5, none⟩) h2).trans e6⟩
theorem ElS.y {rb tb g k n c : Nat} {f : Fi} {v : Value} {w w' : World} (h : ElS tb g k n c f v w) (h1 : tb < w.heap.size) (h2 : g < w.heap.size) (hy : Y rb w w') (n1 : tb ≠ rb) (n2 : g ≠ rb) : ElS tb g k n c f v w' := by
  obtain ⟨e0, e1, e2, e3, e4, e5, e6⟩ := h
  exact ⟨(hy.cell h1 n1).trans e0, (hy.cell h2 n2).trans e1, (hy.cell h2 n2).trans e2, (hy.cell h2 n2).trans e3, (hy.cell h2 n2).trans e4, (hy.cell h2 n2).trans e5, (hy.cell h2 n2).trans e6⟩
theorem ElS.g {tb g k n c : Nat} {f : Fi} {v : Value} {w w' : World} {row : Option Nat} (h : ElS tb g k n c f v w) (h1 : tb < w.heap.size) (h2 : g < w.heap.size) (hg : w.grownBy w' row) (n1 : row ≠ some tb) (n2 : row ≠ some g) : ElS tb g k n c f v w' := by
  obtain ⟨e0, e1, e2, e3, e4, e5, e6⟩ := h
  have q1 : ∀ o, w'.cell? ⟨tb, o, none⟩ = w.cell? ⟨tb, o, none⟩ := fun o => World.cell?_of_block (w := w) (hg.block tb h1 (Ne.symm n1))
  have q2 : ∀ o, w'.cell? ⟨g, o, none⟩ = w.cell? ⟨g, o, none⟩ := fun o => World.cell?_of_block (w := w) (hg.block g h2 (Ne.symm n2))
  exact ⟨(q1 _).trans e0, (q2 _).trans e1, (q2 _).trans e2, (q2 _).trans e3, (q2 _).trans e4, (q2 _).trans e5, (q2 _).trans e6⟩
theorem moduleB_small {f : Fi} (h1 : f.pkg.length ≤ 20) (h2 : f.name.length ≤ 20) : (moduleB f).length ≤ 64 := by
  unfold moduleB childL
  split
  · omega
  · split
    · omega
    · rw [List.length_append, List.length_cons]; omega

set_option maxRecDepth 100000 in
set_option maxHeartbeats 4000000 in
theorem someStore_c (rb m : Nat) (w : World) (hr : Rdr w rb m) (hm : m + 1500 ≤ 1000000000) :
    Calls Tryd.prog 76 #[.pointer (some ⟨rb, 0, none⟩)] w fun e w' => ∃ (ls : List (Co × Value)) (la : Option Addr) (lc : Nat) (vs : List (Fi × Value)) (a : Option Addr) (c : Nat),
      e = .returned (.tuple #[.slice la ls.length lc, .agg #[.slice a vs.length c]]) ∧ StoreW w' w.heap.size la lc ls ∧ TreeW w' w.heap.size a c vs ∧ ls.length ≤ 10 ∧ vs.length ≤ 10 ∧ Rdr w' rb (m + 1500) ∧ Y rb w w' := by
  have hlt := hr.lt
  have hBr := Bx.new w #[.slice none 0 0] 25
  have hy : Y rb w (w.alloc (.cells #[.slice none 0 0] 25)) := Y.of_x (by (repeat (first | exact X.refl _ | assumption | refine X.ext ?_ _ | refine X.alloc ?_ _ | refine X.drew ?_)))
  replace hr := hr.x (w' := (w.alloc (.cells #[.slice none 0 0] 25))) (by (repeat (first | exact X.refl _ | assumption | refine X.ext ?_ _ | refine X.alloc ?_ _ | refine X.drew ?_)))
  have hner : w.heap.size ≠ rb := by omega
  go_enter Tryd.func76, Tryd.ntmps76
  go_wp2_with fail
  refine (someTree_c rb _ _ hr (by omega)).mono ?_
  rintro _ w1 ⟨vs, a, c, rfl, hT0, hn, h4, hr', hy'⟩
  have hT := hT0.w
  clear hT0 h4
  replace hBr := hBr.y hy' hner
  replace hy := hy.trans ((Y.of_x (by (repeat (first | exact X.refl _ | assumption | refine X.ext ?_ _ | refine X.alloc ?_ _ | refine X.drew ?_)))).trans hy'); replace hr := hr'; clear hr' hy'
  rw [World.size_alloc] at hT
  have hw1 := hy.size
  have hltr := hBr.lt
  have hne1 : w1.heap.size ≠ rb := by omega
  go_wp2
  refine wp_name (fun W1 hW1 => ?_)
  have hTb : W1.heap[w1.heap.size]? = some (.cells #[.slice a vs.length c] 25 (0, 0)) := by
    rw [hW1]
    exact at_x2' (heap_alloc_new w1 (.cells #[.slice a vs.length c] 25)) ((X.refl _).alloc _)
  have hL0 : W1.ownsRow (w.heap.size + 1) 49 8 (.slice (some ⟨w1.heap.size + 1, 0, none⟩) 0 0) 0 [] := by
    rw [hW1]
    exact own_lit (cs := #[]) (n := 0) (size := 8) (by simp) (by simp; omega) rfl (by omega)
  have hX1 : X w1 W1 := by rw [hW1]; (repeat (first | with_reducible exact X.refl _ | with_reducible assumption | with_reducible refine X.setCell ?_ (by first | (simp; done) | (simp; omega)) _ | with_reducible refine X.ext ?_ _ | with_reducible refine X.alloc ?_ _ | with_reducible refine X.drew ?_))
  clear hW1
  replace hBr := hBr.x hX1
  replace hT := hT.fr (hX1.fr _)
  replace hr := hr.x hX1
  replace hy := hy.trans (Y.of_x hX1)
  have hlW1 := hX1.size
  clear hX1
  go_loopw [5, 6] (fun v i wr => ∃ (k : Nat) (ls : List (Co × Value)) (la : Option Addr) (lc : Nat), k ≤ vs.length ∧ i = .int .i64 k ∧ v = .slice la ls.length lc ∧ ls.length ≤ k ∧ StoreW wr (w.heap.size + 1) la lc ls ∧ TreeW wr (w.heap.size + 1) a c vs ∧
      Bx wr w.heap.size #[.slice none 0 0] ∧ wr.heap[w1.heap.size]? = some (.cells #[.slice a vs.length c] 25 (0, 0)) ∧ Rdr wr rb (m + 720 + k * 2) ∧ Y rb w wr) (fun _ i _ => vs.length - (intOf i).toNat)
  case atStart => exact ⟨0, [], _, _, Nat.zero_le _, rfl, rfl, Nat.le_refl _, StoreW.nil hL0, hT, hBr, hTb, hr, hy⟩
  case round =>
    obtain ⟨k, ls, la, lc, hk, rfl, rfl, hl, hS, hT, hBr, hTb, hr, hy⟩ := hrel
    clear hL0
    have hw := hy.size
    obtain ⟨hb, hc, hf⟩ := Bx.out ⟨_, hTb⟩
    have z0 := hc 0
    clear hc
    by_cases h0 : k < vs.length
    · go_wp2_with fail
      refine (pick_c rb _ 3 _ hr (by omega) (by omega)).mono ?_
      rintro _ w2 ⟨q, rfl, hq, hr', hy'⟩
      replace hBr := hBr.y hy' hner
      replace hTb := at_y hTb hy' hne1
      replace hT := hT.fr (hy'.fr.mono (by omega))
      replace hS := hS.fr (hy'.fr.mono (by omega))
      replace hy := hy.trans ((Y.of_x (by (repeat (first | exact X.refl _ | assumption | refine X.ext ?_ _ | refine X.alloc ?_ _ | refine X.drew ?_)))).trans hy'); replace hr := hr'; clear hr' hy'
      clear hb hf z0 hq
      obtain ⟨hb, hc, hf⟩ := Bx.out ⟨_, hTb⟩
      have z0 := hc 0
      clear hc
      have hw2 := hy.size
      rcases Nat.eq_zero_or_pos q with rfl | hq0
      · go_wp2
        go_roundw
        case rel => exact ⟨k + 1, ls, la, lc, by omega, by go_num, rfl, by omega, hS, hT, hBr, hTb, hr.weak (by omega) (by omega), hy⟩
        case measure => simp [intOf]; omega
      · obtain ⟨g, rfl, hgB, hgl⟩ := own_form hT.row (by omega)
        obtain ⟨ba, bc, hv, hO, _, _, g0, g1, g2, g3, g4, g5⟩ := hT.cells h0
        have hsm := hT.small _ (nth_mem h0)
        generalize hxf : nth vs k = x at *
        obtain ⟨f, xv⟩ := x
        simp only at hv hO hsm g0 g1 g2 g3 g4 g5
        subst hv
        clear hxf
        have hgr : g ≠ rb := by omega
        have e2 : ElS w1.heap.size g k vs.length c f (.slice ba f.body.length bc) w2 := ⟨z0, g0, g1, g2, g3, g4, g5⟩
        have hokf : Okf f := ⟨by have := hsm.1; omega, by have := hsm.2.1; omega⟩
        have hSb : StmtsAt w2 (w.heap.size + 1) ba f.body.length f.body := ⟨rfl, by have := hsm.2.2.1; omega, fun s hs => ⟨by have := (hsm.2.2.2 s hs).1; omega, by have := (hsm.2.2.2 s hs).2; omega⟩, Sl.of_own hO⟩
        have hk1 : (k : Int) < (vs.length : Int) := by omega
        have hqq : (0 : Int) < (q : Int) := by omega
        go_wp2
        clear z0 g0 g1 g2 g3 g4 g5
        go_region_held_law (fun w' => w'.cell? ⟨w1.heap.size, 0, none⟩ = some (.slice (some ⟨g, 0, none⟩) vs.length c) ∧ w'.cell? ⟨g, k * 6, none⟩ = some (.int .i64 f.root) ∧ w'.cell? ⟨g, k * 6 + 1, none⟩ = some (.string ⟨(f.pkg).toArray⟩) ∧ w'.cell? ⟨g, k * 6 + 2, none⟩ = some (.string ⟨(f.name).toArray⟩) ∧ w'.cell? ⟨g, k * 6 + 3, none⟩ = some (.bool f.init) ∧
            w'.cell? ⟨g, k * 6 + 4, none⟩ = some (.int .i64 f.stamp) ∧ w'.cell? ⟨g, k * 6 + 5, none⟩ = some (.slice ba f.body.length bc))
          (first | exact e5 | exact ElS.x e4 l4 m4 (by (repeat (first | with_reducible exact X.refl _ | with_reducible assumption | with_reducible refine X.setCell ?_ (by first | (simp; done) | (simp; omega)) _ | with_reducible refine X.ext ?_ _ | with_reducible refine X.alloc ?_ _ | with_reducible refine X.drew ?_))) | exact ElS.x e3 l3 m3 (by (repeat (first | with_reducible exact X.refl _ | with_reducible assumption | with_reducible refine X.setCell ?_ (by first | (simp; done) | (simp; omega)) _ | with_reducible refine X.ext ?_ _ | with_reducible refine X.alloc ?_ _ | with_reducible refine X.drew ?_))) | exact ElS.x e2 hb hgl (by (repeat (first | with_reducible exact X.refl _ | with_reducible assumption | with_reducible refine X.setCell ?_ (by first | (simp; done) | (simp; omega)) _ | with_reducible refine X.ext ?_ _ | with_reducible refine X.alloc ?_ _ | with_reducible refine X.drew ?_))))
          (first
            | (go_at_call 49; refine (pick_c rb _ 3 _ (hr.x (by (repeat (first | with_reducible exact X.refl _ | with_reducible assumption | with_reducible refine X.setCell ?_ (by first | (simp; done) | (simp; omega)) _ | with_reducible refine X.ext ?_ _ | with_reducible refine X.alloc ?_ _ | with_reducible refine X.drew ?_)))) (by omega) (by omega)).mono ?_; rintro _ w3 ⟨q3, rfl, hq3, hr3, hy3⟩; have hy23 : Y rb w2 w3 := Y.trans (Y.of_x (by (repeat (first | with_reducible exact X.refl _ | with_reducible assumption | with_reducible refine X.setCell ?_ (by first | (simp; done) | (simp; omega)) _ | with_reducible refine X.ext ?_ _ | with_reducible refine X.alloc ?_ _ | with_reducible refine X.drew ?_)))) hy3; have e3 := ElS.y e2 hb hgl hy23 hne1 hgr; have l3 : w1.heap.size < w3.heap.size := Nat.lt_of_lt_of_le hb hy23.size; have m3 : g < w3.heap.size := Nat.lt_of_lt_of_le hgl hy23.size; have hSb3 := hSb.mono (hy23.fr.mono (by omega)))
            | (go_at_call 39; refine (compiled_any f (q3 : Int) ba f.body.length bc _ _ hokf (hSb3.mono (X.fr (by (repeat (first | with_reducible exact X.refl _ | with_reducible assumption | with_reducible refine X.setCell ?_ (by first | (simp; done) | (simp; omega)) _ | with_reducible refine X.ext ?_ _ | with_reducible refine X.alloc ?_ _ | with_reducible refine X.drew ?_))) _))).mono ?_; rintro _ w4 ⟨hh, ra, rc, rfl, hO4, hx4⟩; have hO5 := own_less hO4 (X.size (w := w3) (by (repeat (first | with_reducible exact X.refl _ | with_reducible assumption | with_reducible refine X.setCell ?_ (by first | (simp; done) | (simp; omega)) _ | with_reducible refine X.ext ?_ _ | with_reducible refine X.alloc ?_ _ | with_reducible refine X.drew ?_)))); have hx34 : X w3 w4 := X.trans (by (repeat (first | with_reducible exact X.refl _ | with_reducible assumption | with_reducible refine X.setCell ?_ (by first | (simp; done) | (simp; omega)) _ | with_reducible refine X.ext ?_ _ | with_reducible refine X.alloc ?_ _ | with_reducible refine X.drew ?_))) hx4; have e4 := ElS.x e3 l3 m3 hx34; have l4 : w1.heap.size < w4.heap.size := Nat.lt_of_lt_of_le l3 hx34.size; have m4 : g < w4.heap.size := Nat.lt_of_lt_of_le m3 hx34.size; have hS4 := (hS.fr (hy23.fr.mono (by omega))).fr (hx34.fr _); have hB4 : w.heap.size + 1 ≤ w4.heap.size := (by omega))
            | (refine step_append_t co_T rfl _ _ rfl (w := w4) (by (repeat (first | with_reducible exact X.refl _ | with_reducible assumption | with_reducible refine X.setCell ?_ (by first | (simp; done) | (simp; omega)) _ | with_reducible refine X.ext ?_ _ | with_reducible refine X.alloc ?_ _ | with_reducible refine X.drew ?_))) hS4.row rfl rfl (heap_alloc_new w4 _) rfl (by simp [Value.oneCell']) (by omega) (by omega) hB4 ?_; intro a' c' w' hrow' hg'; have hT4 := (hT.fr (hy23.fr.mono (by omega))).fr (hx34.fr _); have hTb4 := at_x2' (at_y hTb hy23 hne1) hx34; have hTb5 := at_grown hTb4 hg' (own_ne_at hS4.row hTb4 (by decide)); have hT5 := hT4.kept hS4.row hg' (by decide) (by decide); obtain ⟨csg, hTg4⟩ := own_block hT4.row; have e5 := ElS.g e4 l4 m4 hg' (own_ne_at hS4.row hTb4 (by decide)) (own_ne_at hS4.row hTg4 (by decide))))
        all_goals
          have hr4 := (hr3.x hx34).grown hg' (fun k hk => by have := (hS4.row.lt k hk).1; omega)
          have hBr4 := ((hBr.y hy23 hner).x hx34).grown hg' (own_ge hS4.row (by omega))
          have hy4 := (hy.trans (hy23.trans (Y.of_x hx34))).grown hg' (fun k hk => by have := (hS4.row.lt k hk).1; omega)
          have hS5 := StoreW.push (x := (({ compB f q3 with hash := hh } : Co), .slice ra f.body.length rc)) hS4 hg' hrow' ⟨moduleB_small hsm.1 hsm.2.1, hsm.2.2.1, hsm.2.2.2⟩ ⟨ra, rc, rfl, own_less hO5 (by omega)⟩
          clear e2 e3 e4 e5 l3 m3 l4 m4 hS4 hT4 hTb4 hTg4 hx34 hy23 hr3 hO4 hO5 hSb hSb3
          go_wp2
          go_roundw
          case rel => exact ⟨k + 1, ls ++ [(({ compB f q3 with hash := hh } : Co), .slice ra f.body.length rc)], a', c', by omega, by go_num, by rw [List.length_append]; rfl, by rw [List.length_append, List.length_singleton]; omega, hS5, hT5, hBr4, hTb5, hr4.weak (by omega) (by omega), hy4⟩
          case measure => simp [intOf]; omega
    · obtain rfl : k = vs.length := by omega
      have hls : ls.length ≤ 10 := by omega
      go_wp2
      go_loopw [7] (fun i wr => ∃ (k : Nat) (us : List (Fi × Value)), k ≤ vs.length ∧ i = .int .i64 k ∧ us.length = vs.length ∧ StoreW wr (w.heap.size + 1) la lc ls ∧ TreeW wr (w.heap.size + 1) a c us ∧
          Bx wr w.heap.size #[.slice none 0 0] ∧ wr.heap[w1.heap.size]? = some (.cells #[.slice a vs.length c] 25 (0, 0)) ∧ Rdr wr rb (m + 740 + k * 70) ∧ Y rb w wr) (fun i _ => vs.length - (intOf i).toNat)
      case atStart => exact ⟨0, vs, Nat.zero_le _, rfl, rfl, hS, hT, hBr, hTb, hr.weak (by omega) (by omega), hy⟩
      case round =>
        obtain ⟨j, us, hj, rfl, hul, hS, hT, hBr, hTb, hr, hy⟩ := hrel
        have Hul := Lib.hid hul
        clear hul
        have hw := hy.size
        obtain ⟨hb, hc, hf⟩ := Bx.out ⟨_, hTb⟩
        have z0 := hc 0
        clear hc
        by_cases h0 : j < vs.length
        · go_wp2_with fail
          refine (pick_c rb _ 4 _ hr (by omega) (by omega)).mono ?_
          rintro _ w2 ⟨q, rfl, hq, hr', hy'⟩
          replace hBr := hBr.y hy' hner
          replace hTb := at_y hTb hy' hne1
          replace hT := hT.fr (hy'.fr.mono (by omega))
          replace hS := hS.fr (hy'.fr.mono (by omega))
          replace hy := hy.trans ((Y.of_x (by (repeat (first | exact X.refl _ | assumption | refine X.ext ?_ _ | refine X.alloc ?_ _ | refine X.drew ?_)))).trans hy'); replace hr := hr'; clear hr' hy'
          clear hb hf z0 hq
          obtain ⟨hb, hc, hf⟩ := Bx.out ⟨_, hTb⟩
          have z0 := hc 0
          clear hc
          have hw2 := hy.size
          have hju : j < us.length := by rw [Hul.out]; exact h0
          have hTr := hT.row
          rw [Hul.out] at hTr
          obtain ⟨g, rfl, hgB, hgl⟩ := own_form hTr (by omega)
          clear hTr
          have Hju := Lib.hid hju
          clear hju
          obtain ⟨ba, bc, hv, hO, _, _, g0, g1, g2, g3, g4, g5⟩ := hT.cells Hju.out
          have hsm := hT.small _ (nth_mem Hju.out)
          have hgr : g ≠ rb := by omega
          have hj1 : (j : Int) < (vs.length : Int) := by omega
          have hgt : w1.heap.size ≠ g := fun e => own_ne_at hT.row hTb (by decide) (by rw [e]; rfl)
          by_cases hq0 : q = 0
          · subst hq0
            go_wp2
            go_region_held3 (fun w' => w'.cell? ⟨w1.heap.size, 0, none⟩ = some (.slice (some ⟨g, 0, none⟩) vs.length c))
            (first | go_keep | exact cell_set_far (by assumption) hgt)
            ((go_at_call 90; refine (someBody_c rb _ _ (hr.x (by (repeat (first | with_reducible exact X.refl _ | with_reducible assumption | with_reducible refine X.setCell ?_ (by first | (simp; done) | (simp; omega)) _ | with_reducible refine X.ext ?_ _ | with_reducible refine X.alloc ?_ _ | with_reducible refine X.drew ?_)))) (by omega)).mono ?_; rintro _ w3 ⟨bd, b3, c3, rfl, hO3, hbd, hr3, hy3⟩; have hO4 := own_less hO3 (X.size (w := w2) (by (repeat (first | with_reducible exact X.refl _ | with_reducible assumption | with_reducible refine X.setCell ?_ (by first | (simp; done) | (simp; omega)) _ | with_reducible refine X.ext ?_ _ | with_reducible refine X.alloc ?_ _ | with_reducible refine X.drew ?_)))); have hy23 : Y rb w2 w3 := Y.trans (Y.of_x (by (repeat (first | with_reducible exact X.refl _ | with_reducible assumption | with_reducible refine X.setCell ?_ (by first | (simp; done) | (simp; omega)) _ | with_reducible refine X.ext ?_ _ | with_reducible refine X.alloc ?_ _ | with_reducible refine X.drew ?_)))) hy3; have hTb3 := at_y hTb hy23 hne1; have z3 := cell_of_row w3 w1.heap.size 0 _ _ (0, 0) hTb3; have hT3 := hT.fr (hy23.fr.mono (by omega)); obtain ⟨csg, hTg3⟩ := own_block hT3.row; obtain ⟨hgl3, hcg3, hfg3⟩ := Bx.out ⟨_, hTg3⟩; clear hcg3; have k5 := (hy23.cell hgl hgr).trans g5))
            all_goals
              have hT4 := TreeW.set (y := ({ (nth us j).1 with body := bd }, .slice b3 bd.length c3)) hT3 Hju.out (j := 5) (by omega) rfl ⟨hsm.1, hsm.2.1, Nat.le_trans hbd.1 (by decide), hbd.2⟩ ⟨b3, c3, rfl, own_less hO4 (by omega)⟩
              have hS4 := (hS.fr (hy23.fr.mono (by omega))).set_far hTg3 (by decide) (by decide) (j * 6 + 5) (.slice b3 bd.length c3)
              have hTb4 := (heap_setCell_other w3 ⟨g, j * 6 + 5, none⟩ w1.heap.size (.slice b3 bd.length c3) hgt).trans hTb3
              go_wp2
              go_roundw
              case rel => exact ⟨j + 1, us.set j ({ (nth us j).1 with body := bd }, .slice b3 bd.length c3), by omega, by go_num, by rw [List.length_set]; exact Hul.out, hS4, hT4, Bx.far (hBr.y hy23 hner) (by simp; omega) _, hTb4, Rdr.set2 (hr3.weak (by omega) (by omega)) (by simp; omega) _, Y.set2 (hy.trans hy23) (by simp; omega) _⟩
              case measure => simp [intOf]; omega
          by_cases hq1 : q = 1
          · subst hq1
            clear hq0
            go_wp2
            go_region_held3 (fun w' => w'.cell? ⟨w1.heap.size, 0, none⟩ = some (.slice (some ⟨g, 0, none⟩) vs.length c))
            (first | go_keep | exact cell_set_far (by assumption) hgt)
            ((go_at_call 90; refine (someBody_c rb _ _ (hr.x (by (repeat (first | with_reducible exact X.refl _ | with_reducible assumption | with_reducible refine X.setCell ?_ (by first | (simp; done) | (simp; omega)) _ | with_reducible refine X.ext ?_ _ | with_reducible refine X.alloc ?_ _ | with_reducible refine X.drew ?_)))) (by omega)).mono ?_; rintro _ w3 ⟨bd, b3, c3, rfl, hO3, hbd, hr3, hy3⟩; have hO4 := own_less hO3 (X.size (w := w2) (by (repeat (first | with_reducible exact X.refl _ | with_reducible assumption | with_reducible refine X.setCell ?_ (by first | (simp; done) | (simp; omega)) _ | with_reducible refine X.ext ?_ _ | with_reducible refine X.alloc ?_ _ | with_reducible refine X.drew ?_)))); have hy23 : Y rb w2 w3 := Y.trans (Y.of_x (by (repeat (first | with_reducible exact X.refl _ | with_reducible assumption | with_reducible refine X.setCell ?_ (by first | (simp; done) | (simp; omega)) _ | with_reducible refine X.ext ?_ _ | with_reducible refine X.alloc ?_ _ | with_reducible refine X.drew ?_)))) hy3; have hTb3 := at_y hTb hy23 hne1; have z3 := cell_of_row w3 w1.heap.size 0 _ _ (0, 0) hTb3; have hT3 := hT.fr (hy23.fr.mono (by omega)); obtain ⟨csg, hTg3⟩ := own_block hT3.row; obtain ⟨hgl3, hcg3, hfg3⟩ := Bx.out ⟨_, hTg3⟩; clear hcg3; have k5 := (hy23.cell hgl hgr).trans g5))
            all_goals
              have hT4 := TreeW.set (y := ({ (nth us j).1 with body := bd }, .slice b3 bd.length c3)) hT3 Hju.out (j := 5) (by omega) rfl ⟨hsm.1, hsm.2.1, Nat.le_trans hbd.1 (by decide), hbd.2⟩ ⟨b3, c3, rfl, own_less hO4 (by omega)⟩
              have hS4 := (hS.fr (hy23.fr.mono (by omega))).set_far hTg3 (by decide) (by decide) (j * 6 + 5) (.slice b3 bd.length c3)
              have hTb4 := (heap_setCell_other w3 ⟨g, j * 6 + 5, none⟩ w1.heap.size (.slice b3 bd.length c3) hgt).trans hTb3
              have hBr4 := Bx.far (hBr.y hy23 hner) (p := ⟨g, j * 6 + 5, none⟩) (by simp; omega) (.slice b3 bd.length c3)
              have hr4 := Rdr.set2 (p := ⟨g, j * 6 + 5, none⟩) hr3 (by simp; omega) (.slice b3 bd.length c3)
              have hy4 := Y.set2 (p := ⟨g, j * 6 + 5, none⟩) (hy.trans hy23) (by simp; omega) (.slice b3 bd.length c3)
              generalize w3.setCell ⟨g, j * 6 + 5, none⟩ (.slice b3 bd.length c3) = w4 at *
              have hus : (us.set j ({ (nth us j).1 with body := bd }, .slice b3 bd.length c3)).length = us.length := by rw [List.length_set]
              have Hus := Lib.hid hus
              clear hus
              generalize us.set j ({ (nth us j).1 with body := bd }, .slice b3 bd.length c3) = us4 at *
              clear z3 k5 hfg3 hgl3 hTg3 hT3 hTb3 hr3 hy3 hy23 hO3 hO4 hS hT hBr hTb hr hy g0 g1 g2 g3 g4 g5 hb hf z0 hsm hv hO
              obtain ⟨hb, hc, hf⟩ := Bx.out ⟨_, hTb4⟩
              have z0 := hc 0
              clear hc
              have hw4 := hy4.size
              have Hju4 := Lib.hid (show j < us4.length by rw [Hus.out]; exact Hju.out)
              obtain ⟨ba4, bc4, hv, hO, hgl4, _, g0, g1, g2, g3, g4, g5⟩ := hT4.cells Hju4.out
              have hsm := hT4.small _ (nth_mem Hju4.out)
              go_wp2
              go_region_held3 (fun w' => w'.cell? ⟨w1.heap.size, 0, none⟩ = some (.slice (some ⟨g, 0, none⟩) vs.length c))
                (first | go_keep | exact cell_set_far (by assumption) hgt)
                ((go_at_call 49; refine (pick_c rb _ 100 _ (hr4.x (by (repeat (first | with_reducible exact X.refl _ | with_reducible assumption | with_reducible refine X.setCell ?_ (by first | (simp; done) | (simp; omega)) _ | with_reducible refine X.ext ?_ _ | with_reducible refine X.alloc ?_ _ | with_reducible refine X.drew ?_)))) (by omega) (by omega)).mono ?_; rintro _ w5 ⟨qs, rfl, hqs, hr5, hy5⟩; have hy45 : Y rb w4 w5 := Y.trans (Y.of_x (by (repeat (first | with_reducible exact X.refl _ | with_reducible assumption | with_reducible refine X.setCell ?_ (by first | (simp; done) | (simp; omega)) _ | with_reducible refine X.ext ?_ _ | with_reducible refine X.alloc ?_ _ | with_reducible refine X.drew ?_)))) hy5; have hTb5 := at_y hTb4 hy45 hne1; have z5 := cell_of_row w5 w1.heap.size 0 _ _ (0, 0) hTb5; have hT5 := hT4.fr (hy45.fr.mono (by omega)); obtain ⟨csg5, hTg5⟩ := own_block hT5.row; obtain ⟨hgl5, hcg5, hfg5⟩ := Bx.out ⟨_, hTg5⟩; clear hcg5; have k5 := (hy45.cell hgl4 hgr).trans g4))
              all_goals
                have hT6 := TreeW.set (y := ({ (nth us4 j).1 with stamp := (qs : Int) }, (nth us4 j).2)) hT5 Hju4.out (j := 4) (by omega) rfl hsm (by
                  obtain ⟨x1, x2, x3, x4⟩ := hT5.body _ (nth_mem Hju4.out)
                  exact ⟨x1, x2, x3, x4⟩)
                have hS6 := (hS4.fr (hy45.fr.mono (by omega))).set_far hTg5 (by decide) (by decide) (j * 6 + 4) (.int .i64 (qs : Int))
                have hTb6 := (heap_setCell_other w5 ⟨g, j * 6 + 4, none⟩ w1.heap.size (.int .i64 (qs : Int)) hgt).trans hTb5
                go_wp2
                go_roundw
                case rel => exact ⟨j + 1, us4.set j ({ (nth us4 j).1 with stamp := (qs : Int) }, (nth us4 j).2), by omega, by go_num, by rw [List.length_set, Hus.out]; exact Hul.out, hS6, hT6, Bx.far (hBr4.y hy45 hner) (by simp; omega) _, hTb6, Rdr.set2 (hr5.weak (by omega) (by omega)) (by simp; omega) _, Y.set2 (hy4.trans hy45) (by simp; omega) _⟩
                case measure => simp [intOf]; omega
          · have hq2 : ((q : Int) == 0) = false := by simp; omega
            have hq3 : ((q : Int) == 1) = false := by simp; omega
            go_wp2
            go_roundw
            case rel => exact ⟨j + 1, us, by omega, by go_num, Hul.out, hS, hT, hBr, hTb, hr.weak (by omega) (by omega), hy⟩
            case measure => simp [intOf]; omega
        · obtain rfl : j = vs.length := by omega
          have hBr' := hBr
          obtain ⟨hb2, hc2, hf2⟩ := hBr'.out
          have r0 := hc2 0
          clear hc2
          have hrt : w1.heap.size ≠ w.heap.size := by omega
          go_wp2
          go_region
          all_goals
            have hB3 := Bx.set hBr 0 (.slice a vs.length c)
            go_wp2
            refine bodyPost_ret (v := .tuple #[.slice la ls.length lc, .agg #[.slice a vs.length c]]) ?_ rfl ?_
            · obtain ⟨hb3, hc3, hf3⟩ := hB3.out
              have e0 : (wr.setCell ⟨w.heap.size, 0, none⟩ (.slice a vs.length c)).cell? ⟨w.heap.size, 0, none⟩ = some (.slice a vs.length c) := hc3 0
              clear hc3 r0
              simp [results, Tryd.results76, go_sem, e0, Result.andThen]
            · have hfr : Fr (w.heap.size + 1) wr (wr.setCell ⟨w.heap.size, 0, none⟩ (.slice a vs.length c)).drew := (Fr.set (B := w.heap.size + 1) (p := ⟨w.heap.size, 0, none⟩) (Fr.refl _ _) (.inr (Nat.lt_succ_self _)) _).trans (X.fr (X.drew (X.refl _)) _)
              exact ⟨ls, la, lc, us, a, c, by rw [Hul.out], (hS.fr hfr).less (by omega), (hT.fr hfr).less (by omega), hls, by rw [Hul.out]; exact hn, (Rdr.set2 (hr.weak (by omega) (by omega)) hlt _).x (X.drew (X.refl _)), (Y.set2 hy (Nat.le_refl _) _).drew⟩

end Go.Proofs.YtebnjkjllinabaaDoor
