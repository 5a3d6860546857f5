/- The arguments of SameFinds, as they are generated. No condition. -/
import Derived.Test.YtijcdnaammbomaaGreatDoorDrawAdd
import Derived.Test.YtijcdnaammbomaaGreatDoorIe
import Derived.Test.YtijcdnaammbomaaGreatDoorInv
import Derived.Test.YtijcdnaammbomaaGreatDoorModsW
import Derived.Test.YtijcdnaammbomaaGreatDoorId
import Derived.Deep.RegionHeld3
import Derived.Deep.RegionLawGrows
import Derived.Deep.CutBlock
namespace Go.Proofs.YtijcdnaammbomaaGreatDoor
open Go.RowKit

/-- The files but the first, whatever the address where there are none. -/
theorem files_tail {w : World} {B g n : Nat} {l : List Fi} (h : FilesAt w B (some ⟨g, 0, none⟩) (n + 1) l) {a' : Option Addr} (ha : 0 < n → a' = some ⟨g, 6, none⟩) : FilesAt w B a' n (l.drop 1) := by
  obtain ⟨vs, rfl, h1, h2, h3, h4, h5⟩ := h
  cases vs with
  | nil => simp at h1
  | cons x vs =>
    refine ⟨vs, rfl, by simpa using h1, by omega, fun f hf => h3 f (List.mem_cons_of_mem _ hf), fun h0 => ?_, fun y hy => h5 y (List.mem_cons_of_mem _ hy)⟩
    obtain ⟨b, off, e, hB, hb, hc⟩ := h4 (by omega)
    obtain ⟨rfl, rfl⟩ : b = g ∧ off = 0 := by simp at e; exact ⟨e.1.symm, e.2.symm⟩
    refine ⟨b, 6, ha h0, hB, hb, fun i hi => ?_⟩
    have hl6 : (fcells x).length = 6 := fcells6 x
    have := hc (6 + i) (by rw [List.flatMap_cons, List.length_append]; omega)
    rw [Nat.zero_add] at this
    rw [this]
    congr 1
    simp only [List.flatMap_cons]
    rw [List.getElem_append_right (by omega)]
    congr 1
    omega
theorem new_cells (w : World) (cs : Array Value) (t : TypeId) {j : Nat} {u : Value} (hu : cs.toList[j]? = some u) : (w.alloc (.cells cs t)).cell? ((⟨w.heap.size, 0, none⟩ : Addr).add j) = some u := by
  have hadd : (⟨w.heap.size, 0, none⟩ : Addr).add j = ⟨w.heap.size, j, none⟩ := by unfold Addr.add; split <;> simp_all
  rw [hadd]
  have := (Bx.new w cs t).out.2.1 j
  rw [this, ← hu, Array.getElem?_toList]
theorem own_spare {w : World} {B e size n c g : Nat} {xs : List Value} (h : w.ownsRow B e size (.slice (some ⟨g, 0, none⟩) n c) n xs) {j : Nat} (hj : j < c * size) : (w.cell? ⟨g, j, none⟩).isSome = true ∧ w.frozen? ⟨g, j, none⟩ = false := by
  obtain ⟨hl, h1 | ⟨g', cap, cur, hv, hB, hg, hn, hcap, hsz, hx⟩⟩ := h
  · injection h1.1 with h1; cases h1
  · injection hv with e1 e2 e3
    injection e1 with e1
    injection e1 with e1
    subst e1 e3
    have hbx : Bx w g cur := ⟨_, hg⟩
    obtain ⟨_, hc, hf⟩ := hbx.out
    exact ⟨by rw [hc j, Array.getElem?_eq_getElem (by omega)]; rfl, hf j⟩
/-- The files behind the first, and the first behind them, in the room that the row has. -/
theorem files_rot {w : World} {B g n rc : Nat} {vs : List (Fi × Value)} (hrow : w.ownsRow B 48 6 (.slice (some ⟨g, 0, none⟩) (n + 1) rc) (n + 1) (vs.flatMap fcells)) (hv : vs.length = n + 1) (hr : n + 2 ≤ rc) (hbd : BodsO w B vs) (hk : OkL (vs.map (·.1))) :
    FilesAt (w.setCells g (6 + n * 6) (fcells (nth vs 0))) B (some ⟨g, 6, none⟩) (n + 1) ((vs.drop 1 ++ [nth vs 0]).map (·.1)) := by
  have hmem : ∀ x ∈ vs.drop 1 ++ [nth vs 0], x ∈ vs := fun x hx => by
    rcases List.mem_append.1 hx with hx | hx
    · exact List.mem_of_mem_drop hx
    · rw [List.mem_singleton.1 hx]
      exact nth_mem (by omega)
  have hl1 : (vs.drop 1 ++ [nth vs 0]).length = n + 1 := by rw [List.length_append, List.length_drop, hv]; rfl
  have hgb := grown_setCells (g := g) (w0 := w) (fcells (nth vs 0)) (6 + n * 6) w (World.grownBy.refl _ _)
  obtain ⟨cs, hgc⟩ := own_block hrow
  refine ⟨_, rfl, by rw [List.length_map, hl1], by have := hk.1; rw [List.length_map] at this; omega, fun f hf => ?_, fun _ => ?_, fun x hx => ?_⟩
  · obtain ⟨x, hx, rfl⟩ := List.mem_map.1 hf
    exact (hk.2 x.1 (List.mem_map.2 ⟨x, hmem x hx, rfl⟩)).1
  · refine ⟨g, 6, rfl, (hrow.lt g rfl).1, Nat.lt_of_lt_of_le (hrow.lt g rfl).2 hgb.size, fun j hj => ?_⟩
    have hfl : ((vs.drop 1).flatMap fcells).length = n * 6 := by rw [flat_length 6 fcells fcells6, List.length_drop, hv]; rfl
    have h6 : (fcells (nth vs 0)).length = 6 := fcells6 _
    have hdrop : (vs.flatMap fcells).drop 6 = (vs.drop 1).flatMap fcells := by
      cases vs with
      | nil => simp at hv
      | cons x xs =>
        rw [List.flatMap_cons, List.drop_append, fcells6, List.drop_eq_nil_of_le (by rw [fcells6]; omega)]
        rfl
    simp only [List.flatMap_append, List.flatMap_cons, List.flatMap_nil, List.append_nil] at hj ⊢
    rw [List.length_append, hfl, h6] at hj
    have hsp : ∀ i, i < 6 → (w.cell? ⟨g, 6 + n * 6 + i, none⟩).isSome = true := fun i hi => (own_spare hrow (j := 6 + n * 6 + i) (by omega)).1
    have hold : ∀ j u, ((vs.drop 1).flatMap fcells)[j]? = some u → w.cell? ⟨g, 6 + j, none⟩ = some u := fun j u hu => row_cell hrow _ _ (by rw [← hu, ← hdrop, List.getElem?_drop])
    clear hgb hdrop hmem
    rw [← List.getElem?_eq_getElem]
    generalize fcells (nth vs 0) = F at *
    generalize (vs.drop 1).flatMap fcells = D at *
    by_cases hjn : j < n * 6
    · rw [World.cell?_setCells_out g _ _ _ _ (fun _ _ => .inl (by simp; omega)), List.getElem?_append_left (by rw [hfl]; exact hjn)]
      rw [List.getElem?_eq_getElem (by rw [hfl]; exact hjn)]
      exact hold _ _ (List.getElem?_eq_getElem (by rw [hfl]; exact hjn))
    · obtain ⟨q, rfl⟩ : ∃ q, j = n * 6 + q := ⟨j - n * 6, by omega⟩
      have hq : q < F.length := by omega
      have e2 := World.cell?_setCells_in g F (6 + n * 6) w (fun i hi => hsp i (by omega)) q hq
      rw [List.getElem?_append_right (by omega), hfl, show n * 6 + q - n * 6 = q by omega, List.getElem?_eq_getElem hq, ← e2]
      congr 2
      omega
  · have hxm := hmem x hx
    obtain ⟨ba, bc, e, ho⟩ := hbd.grown hgb hgc x hxm
    have hm : x.1 ∈ vs.map (·.1) := List.mem_map.2 ⟨x, hxm, rfl⟩
    exact ⟨ba, _, bc, e, own_cap ho, rfl, (hk.2 _ hm).2.1, (hk.2 _ hm).2.2, Sl.of_own ho⟩

theorem setCell_swap (w : World) {p q : Addr} (h : p.block ≠ q.block) (u v : Value) : (w.setCell p u).setCell q v = (w.setCell q v).setCell p u := by
  unfold World.setCell
  simp only
  congr 1
  refine Array.ext_getElem? fun i => ?_
  rw [Array.getElem?_modify, Array.getElem?_modify, Array.getElem?_modify, Array.getElem?_modify]
  by_cases h1 : p.block = i
  · rw [if_pos h1, if_neg (fun e => h (h1.trans e.symm)), if_pos h1, if_neg (fun e => h (h1.trans e.symm))]
  · rw [if_neg h1, if_neg h1]
theorem setCells_swap {g b : Nat} (h : b ≠ g) (v : Value) : ∀ (vs : List Value) (o : Nat) (w : World), (w.setCells g o vs).setCell ⟨b, 0, none⟩ v = (w.setCell ⟨b, 0, none⟩ v).setCells g o vs
  | [], _, _ => rfl
  | x :: r, o, w => by
    rw [World.setCells, World.setCells, setCells_swap h v r (o + 1), setCell_swap w (p := ⟨g, o, none⟩) (q := ⟨b, 0, none⟩) (fun e => h e.symm)]
theorem fr_grownS {B g : Nat} {a w w' : World} (h : Fr B a w) (hg : w.grownBy w' (some g)) (hb : a.heap.size ≤ g) : Fr B a w' :=
  ⟨Nat.le_trans h.1 hg.size, fun k hB hk => (hg.block k (by have := h.1; omega) (fun e => by injection e with e; omega)).trans (h.block k hB hk)⟩
theorem files_of_rows {w : World} {B n : Nat} {a : Option Addr} {us vs : List (Fi × Value)} (hS : Sl w B a n (us.flatMap fcells)) (hn : n = us.length) (hn2 : n ≤ 2097152) (hus : ∀ x ∈ us, x ∈ vs) (hbd : BodsO w B vs) (hk : OkL (vs.map (·.1))) : FilesAt w B a n (us.map (·.1)) :=
  ⟨us, rfl, by rw [List.length_map]; exact hn, hn2, fun f hf => by
    obtain ⟨x, hx, rfl⟩ := List.mem_map.1 hf
    exact (hk.2 x.1 (List.mem_map.2 ⟨x, hus x hx, rfl⟩)).1, hS, fun x hx => by
    obtain ⟨ba, bc, e, ho⟩ := hbd x (hus x hx)
    have hm : x.1 ∈ vs.map (·.1) := List.mem_map.2 ⟨x, hus x hx, rfl⟩
    exact ⟨ba, _, bc, e, own_cap ho, rfl, (hk.2 _ hm).2.1, (hk.2 _ hm).2.2, Sl.of_own ho⟩⟩
theorem drop_cells {vs : List (Fi × Value)} : (vs.drop 1).flatMap fcells = (vs.flatMap fcells).drop 6 := by
  refine Eq.symm ?_
  cases vs with
  | nil => simp
  | cons x xs =>
    rw [List.flatMap_cons, List.drop_append, fcells6, List.drop_eq_nil_of_le (by rw [fcells6]; omega)]
    rfl
theorem rot_mem {vs : List (Fi × Value)} (h : 0 < vs.length) : ∀ x ∈ vs.drop 1 ++ [nth vs 0], x ∈ vs := fun x hx => by
  rcases List.mem_append.1 hx with hx | hx
  · exact List.mem_of_mem_drop hx
  · rw [List.mem_singleton.1 hx]
    exact nth_mem h
/-- What is drawn: two trees, a path. -/
def DrawnTTP (w w' : World) (e : Ending) : Prop := ∃ (l : List Fi) (a : Option Addr) (n c : Nat) (u : List Fi) (ua : Option Addr) (un uc : Nat) (path : List Int) (pa : Option Addr) (pn pc : Nat),
  e = .returned (.tuple #[.agg #[.slice a n c], .agg #[.slice ua un uc], .slice pa pn pc]) ∧ FilesAt w' w.heap.size a n l ∧ n ≤ c ∧ FilesAt w' w.heap.size ua un u ∧ un ≤ uc ∧ IntsAt w' w.heap.size pa pn path ∧ pn ≤ pc ∧ X w w'
set_option maxRecDepth 100000 in
set_option maxHeartbeats 4000000 in
theorem DrawSameFinds_c (ca : Option Addr) (cn cc : Nat) (w : World) (hC : CodeAt w ca cn cc) (hn : cn ≤ 1048576) :
    Calls Tryz.prog 19 #[.slice ca cn cc] w fun e w' => DrawnTTP w w' e := by
  go_enter Tryz.func19, Tryz.ntmps19
  go_wp2_with fail
  refine calls_name (fun W0 hW0 => ?_)
  obtain ⟨hR1, hR2, hX0⟩ := bx2 hW0
  have hz0 : W0.heap.size = w.heap.size + 2 := by rw [hW0]; simp
  clear hW0
  have hC0 := hC.x hX0
  refine (newReader_c ca cn cc _ hC0.1 hC0.2 hn).mono ?_
  rintro _ w1 ⟨rfl, hr, hx⟩
  have hy : Y W0.heap.size w w1 := Y.of_x (hX0.trans hx)
  replace hR1 := hR1.x hx
  replace hR2 := hR2.x hx
  have hlt := hr.lt
  clear hx hX0 hC0 hC
  have hne1 : w.heap.size ≠ W0.heap.size := by omega
  have hne2 : w.heap.size + 1 ≠ W0.heap.size := by omega
  have hz1 : w.heap.size + 1 < W0.heap.size := by omega
  clear hz0
  go_wp2_with fail
  refine (anyTree_c _ _ _ hr (by omega)).mono ?_
  rintro _ w2 ⟨l, a, n, c, rfl, hF, hnc, hn11, hsm, hr', hy'⟩
  replace hR1 := hR1.y hy' hne1
  replace hR2 := hR2.y hy' hne2
  replace hF := hF.less (B' := W0.heap.size + 1) (by omega)
  replace hy := hy.trans hy'
  replace hr := hr'
  clear hr' hy'
  have hlt2 := hr.lt
  have okl := hF.okL
  go_wp2_with fail
  refine calls_name (fun W3 hW3 => ?_)
  have hT6 : Bx W3 w2.heap.size #[.slice a n c] := by rw [hW3]; first | exact Bx.new _ _ _ | exact Bx.set (Bx.new _ _ _) 0 _
  have hx3 : X w2 W3 := by rw [hW3]; (repeat (first | with_reducible exact X.refl _ | with_reducible assumption | with_reducible refine X.setCell ?_ (by first | (simp; done) | (simp; omega)) _ | with_reducible refine X.ext ?_ _ | with_reducible refine X.alloc ?_ _ | with_reducible refine X.drew ?_))
  clear hW3
  refine (copyTree_c l a n c _ W3 (hF.mono (hx3.fr _))).mono ?_
  rintro _ w4 ⟨ra, rc, rfl, hO4, hx4⟩
  have hT4 := hT6.x hx4
  have h63 := hT6.lt
  have t4 := bxC hT4
  have lt4 := hT4.lt
  go_wp2_with fail
  refine calls_name (fun W5 hW5 => ?_)
  clear t4 lt4
  have hU5 : Bx W5 w4.heap.size #[.slice ra n rc] := by rw [hW5]; first | exact Bx.new _ _ _ | exact Bx.set (Bx.new _ _ _) 0 _
  have hx5 : X w4 W5 := by rw [hW5]; (repeat (first | with_reducible exact X.refl _ | with_reducible assumption | with_reducible refine X.setCell ?_ (by first | (simp; done) | (simp; omega)) _ | with_reducible refine X.ext ?_ _ | with_reducible refine X.alloc ?_ _ | with_reducible refine X.drew ?_))
  clear hW5
  have hx25 := (hx3.trans hx4).trans hx5
  have hs24 := (hx3.trans hx4).size
  have hs34 := hx4.size
  have hr5 := hr.x hx25
  refine (pick_c _ _ 4 _ hr5 (by omega) (by omega)).mono ?_
  rintro _ w6 ⟨k, rfl, hk, hr6, hy6⟩
  have hne7 : w4.heap.size ≠ W0.heap.size := by omega
  have hne6 : w2.heap.size ≠ W0.heap.size := by omega
  have hU6 := hU5.y hy6 hne7
  have hT56 := (hT4.x hx5).y hy6 hne6
  have hR16 := (hR1.x hx25).y hy6 hne1
  have hR26 := (hR2.x hx25).y hy6 hne2
  have hY6 := (hy.trans (Y.of_x hx25)).trans hy6
  have hfr2 : Fr (W0.heap.size + 1) w2 w6 := (hx25.fr _).trans hy6.fr
  have hfr4 : Fr (W0.heap.size + 1) w4 w6 := (hx5.fr _).trans hy6.fr
  have hO6 := hO4.fr (hfr4.mono (show W0.heap.size + 1 ≤ W3.heap.size by omega))
  have hl6 := hU6.lt
  have hF2 := hF
  have hOs : ∀ (w' : World) (v : Value), Y W0.heap.size w6 w' → FilesO (w'.setCell ⟨w4.heap.size, 0, none⟩ v) W3.heap.size ra n rc l := fun w' v hy =>
    hO4.fr (Fr.set ((hfr4.trans hy.fr).mono (show W0.heap.size + 1 ≤ W3.heap.size by omega)) (.inl (Nat.le_refl _)) v)
  have hg4 : ∀ g, ra = some ⟨g, 0, none⟩ → g < w4.heap.size := fun g e => (hO4.choose_spec.2.2.1.lt g (by rw [e]; rfl)).2
  clear hU5 hT4 hT6 hR1 hR2 hy hx3 hx4 hx5 hx25 hr5 hy6 hr hF
  -- behind a way that leaves everything as it is
  have hR0 : FilesAt w6 (W0.heap.size + 1) a n l := hF2.mono hfr2
  -- behind a store into the second tree's variable
  have hfin : ∀ (w' : World) (m : Nat) (v : Value), Y W0.heap.size w6 w' → Rdr w' W0.heap.size m →
      FilesAt (w'.setCell ⟨w4.heap.size, 0, none⟩ v) (W0.heap.size + 1) a n l ∧ Bx (w'.setCell ⟨w4.heap.size, 0, none⟩ v) w2.heap.size #[.slice a n c] ∧ Rdr (w'.setCell ⟨w4.heap.size, 0, none⟩ v) W0.heap.size m ∧ Y W0.heap.size w (w'.setCell ⟨w4.heap.size, 0, none⟩ v) ∧
      Bx (w'.setCell ⟨w4.heap.size, 0, none⟩ v) w.heap.size #[.slice none 0 0] ∧ Bx (w'.setCell ⟨w4.heap.size, 0, none⟩ v) (w.heap.size + 1) #[.slice none 0 0] ∧ Bx (w'.setCell ⟨w4.heap.size, 0, none⟩ v) w4.heap.size #[v] := fun w' m v hy hr =>
    ⟨hF2.mono (Fr.set (hfr2.trans hy.fr) (.inl (show w2.heap.size ≤ w4.heap.size by omega)) v), (hT56.y hy hne6).far (by simp; omega) v, hr.set2 (show W0.heap.size < w4.heap.size by omega) v, Y.set2 (hY6.trans hy) (show w.heap.size ≤ w4.heap.size by omega) v,
      (hR16.y hy hne1).far (by simp; omega) v, (hR26.y hy hne2).far (by simp; omega) v, Bx.set (hU6.y hy hne7) 0 v⟩
  go_upto_block 0 with (fail)
  go_cut [] from 8 (fun wx => ∃ (u : List Fi) (ua : Option Addr) (un uc m : Nat), Bx wx w4.heap.size #[.slice ua un uc] ∧ FilesAt wx (W0.heap.size + 1) ua un u ∧ un ≤ uc ∧ m ≤ 10000 ∧
      FilesAt wx (W0.heap.size + 1) a n l ∧ Bx wx w2.heap.size #[.slice a n c] ∧ Rdr wx W0.heap.size m ∧ Y W0.heap.size w wx ∧ Bx wx w.heap.size #[.slice none 0 0] ∧ Bx wx (w.heap.size + 1) #[.slice none 0 0])
  case first =>
    have hlk : k = 0 ∨ k = 1 ∨ k = 2 ∨ k = 3 := by omega
    have hm6 : 0 + 730 + 1 ≤ 10000 := by omega
    clear hk
    rcases hlk with rfl | rfl | rfl | rfl
    · go_wp2_with fail
      refine (anyTree_c _ _ _ hr6 (by omega)).mono ?_
      rintro _ w7 ⟨u, ua, un, uc, rfl, hU, huc, _, _, hr7, hy7⟩
      have hU7 := hU6.y hy7 hne7
      have t7 := bxC hU7
      have l7 := hU7.lt
      have f7 := hU7.out.2.2 0
      obtain ⟨q1, q2, q3, q4, q5, q6, q7⟩ := hfin w7 _ (.slice ua un uc) hy7 hr7
      clear hfin
      go_wp2_with fail
      go_meet
      exact ⟨u, ua, un, uc, _, q7, (hU.mono (Fr.set (Fr.refl _ _) (.inr (by simp; omega)) _)).less (by omega), huc, by omega, q1, q2, q3, q4, q5, q6⟩
    · rcases Nat.eq_zero_or_pos n with h0 | h0
      · obtain rfl : n = 0 := h0
        have t7 := bxC hU6
        have hA6 := hO6.at okl
        go_wp2_with fail
        go_meet
        exact ⟨l, ra, 0, rc, _, hU6, hA6.less (by omega), by omega, hm6, hR0, hT56, hr6, hY6, hR16, hR26⟩
      · obtain ⟨n, rfl⟩ : ∃ m, n = m + 1 := ⟨n - 1, by omega⟩
        obtain ⟨g, rfl, hBg, hgl⟩ : ∃ g, ra = some ⟨g, 0, none⟩ ∧ W3.heap.size ≤ g ∧ g < w6.heap.size := by
          obtain ⟨vs, _, _, hrow, _⟩ := hO6
          exact own_form hrow (by omega)
        have hrc : n + 1 ≤ rc := own_cap hO6.choose_spec.2.2.1
        have t7 := bxC hU6
        have l7 := hU6.lt
        have f7 := hU6.out.2.2 0
        have hfv := fun v => hfin w6 _ v (Y.refl _ _) hr6
        have hAs := fun v => ((hOs w6 v (Y.refl _ _)).at okl).less (show W0.heap.size + 1 ≤ W3.heap.size by omega)
        clear hfin hOs
        go_wp2_with fail
        · obtain rfl : n = 0 := by omega
          obtain ⟨q1, q2, q3, q4, q5, q6, q7⟩ := hfv (.slice (some ⟨g, 0, none⟩) 0 0)
          have hA := hAs (.slice (some ⟨g, 0, none⟩) 0 0)
          go_meet
          exact ⟨l.drop 1, some ⟨g, 0, none⟩, 0, 0, _, q7, files_tail hA (fun h => absurd h (by omega)), by omega, hm6, q1, q2, q3, q4, q5, q6⟩
        · obtain ⟨q1, q2, q3, q4, q5, q6, q7⟩ := hfv (.slice (some ⟨g, 6, none⟩) n (rc - 1))
          have hA := hAs (.slice (some ⟨g, 6, none⟩) n (rc - 1))
          go_meet
          exact ⟨l.drop 1, some ⟨g, 6, none⟩, n, rc - 1, _, q7, files_tail hA (fun _ => rfl), by omega, hm6, q1, q2, q3, q4, q5, q6⟩
    · rcases Nat.eq_zero_or_pos n with h0 | h0
      · obtain rfl : n = 0 := h0
        have t7 := bxC hU6
        have hA6 := hO6.at okl
        go_wp2_with fail
        go_meet
        exact ⟨l, ra, 0, rc, _, hU6, hA6.less (by omega), by omega, hm6, hR0, hT56, hr6, hY6, hR16, hR26⟩
      · obtain ⟨n, rfl⟩ : ∃ m, n = m + 1 := ⟨n - 1, by omega⟩
        have hrc : n + 1 ≤ rc := own_cap hO6.choose_spec.2.2.1
        obtain ⟨vs, hvs, hvn, hrow4, hsep, hbd4⟩ := hO4
        have hfr4' : Fr W3.heap.size w4 w6 := hfr4.mono (by omega)
        have hrow := own_fr hrow4 hfr4'
        have hbd := BodsO.fr hbd4 hfr4'
        obtain ⟨g, rfl, hBg, hgl⟩ := own_form hrow (by omega)
        have hvl : vs.length = n + 1 := by rw [hvn, hvs, List.length_map]
        have Hvs := Lib.hid hvs
        clear hvs hvn hsep
        obtain ⟨ba, bc, hb0, hbo⟩ := hbd (nth vs 0) (nth_mem (by omega))
        obtain ⟨news, hnews⟩ : ∃ news, fcells (nth vs 0) = news := ⟨_, rfl⟩
        have hn6 : news.length = 1 * 6 := by rw [← hnews]; exact fcells6 _
        have hne1v : ∀ u ∈ news, u.oneCell' = true := fun u hu => fcells_one (BodsO.one hbd) u (by rw [← hnews] at hu; exact List.mem_flatMap.2 ⟨_, nth_mem (by omega), hu⟩)
        have hcells : ∀ j, j < 6 → w6.cell? ⟨g, j, none⟩ = news[j]? := fun j hj => by
          have e1 : (vs.flatMap fcells)[j]? = news[j]? := by
            rw [← hnews]
            cases vs with
            | nil => simp at hvl
            | cons x xs =>
              rw [List.flatMap_cons, List.getElem?_append_left (by rw [fcells6]; exact hj)]
              rfl
          rw [List.getElem?_eq_getElem (show j < news.length by omega)] at e1 ⊢
          exact row_cell hrow j _ e1
        have hform : news = [.int .i64 (nth vs 0).1.root, .string ⟨((nth vs 0).1.pkg).toArray⟩, .string ⟨((nth vs 0).1.name).toArray⟩, .bool (nth vs 0).1.init, .int .i64 (nth vs 0).1.stamp, .slice ba (nth vs 0).1.body.length bc] := by
          rw [← hnews, ← hb0]
          rfl
        have c0 := hcells 0 (by omega)
        have c1 := hcells 1 (by omega)
        have c2 := hcells 2 (by omega)
        have c3 := hcells 3 (by omega)
        have c4 := hcells 4 (by omega)
        have c5 := hcells 5 (by omega)
        rw [hform] at c0 c1 c2 c3 c4 c5
        have Hform := Lib.hid hform
        have Hnews := Lib.hid hnews
        have Hvl := Lib.hid hvl
        obtain ⟨i0, hi0, hz0, hz1, hz2⟩ := info_parts info_file
        have t7 := bxC hU6
        have l7 := hU6.lt
        have f7 := hU6.out.2.2 0
        clear hcells hform hnews hvl
        have Hnews0 := Hnews
        obtain ⟨x0, hx0⟩ : ∃ x0, nth vs 0 = x0 := ⟨_, rfl⟩
        rw [hx0] at c0 c1 c2 c3 c4 c5 hb0 hbo Hform Hnews
        clear hx0
        by_cases hroom : n + 2 ≤ rc
        · have hc1 : ¬ rc = 1 := by omega
          obtain ⟨W7, hW7⟩ : ∃ W7, W7 = (w6.alloc (.cells #[.int .i64 x0.1.root, .string ⟨(x0.1.pkg).toArray⟩, .string ⟨(x0.1.name).toArray⟩, .bool x0.1.init, .int .i64 x0.1.stamp, .slice ba x0.1.body.length bc] 48)).drew := ⟨_, rfl⟩
          have hX7 : X w6 W7 := by rw [hW7]; (repeat (first | with_reducible exact X.refl _ | with_reducible assumption | with_reducible refine X.setCell ?_ (by first | (simp; done) | (simp; omega)) _ | with_reducible refine X.ext ?_ _ | with_reducible refine X.alloc ?_ _ | with_reducible refine X.drew ?_))
          have hsrc := Lib.hid (show ∀ j u, news[j]? = some u → W7.cell? ((⟨w6.heap.size, 0, none⟩ : Addr).add j) = some u from fun j u hu => by
            rw [hW7]
            exact new_cells w6 #[.int .i64 x0.1.root, .string ⟨(x0.1.pkg).toArray⟩, .string ⟨(x0.1.name).toArray⟩, .bool x0.1.init, .int .i64 x0.1.stamp, .slice ba x0.1.body.length bc] _ (by rw [← hu, Hform.out]))
          have hrow7 := own_fr hrow (hX7.fr _)
          have hspare := Lib.hid (show ∀ t, t < news.length → (W7.cell? ⟨g, 6 + n * 6 + t, none⟩).isSome = true ∧ W7.frozen? ⟨g, 6 + n * 6 + t, none⟩ = false from fun t ht => own_spare hrow7 (by omega))
          obtain ⟨W8, hW8⟩ : ∃ W8, W8 = W7.setCells g (6 + n * 6) news := ⟨_, rfl⟩
          have hg8 : w6.grownBy W8 (some g) := by
            rw [hW8]
            exact grown_setCells news _ _ (grown_x (World.grownBy.refl _ _) hX7)
          have hgw := hg4 g rfl
          have hU8 : Bx W8 w4.heap.size #[.slice (some ⟨g, 0, none⟩) (n + 1) rc] := hU6.grown hg8 (fun k e => by injection e with e; omega)
          have t8 := bxC hU8
          have l8 := hU8.lt
          have f8 := hU8.out.2.2 0
          have H1 := Lib.hid hne1v
          have H6 := Lib.hid hn6
          have H7 := Lib.hid hW7
          have H8 := Lib.hid hW8
          clear hne1v hn6 hW7 hW8 hrow7
          go_wp2_with fail
          have b1 : (1 : Int) ≤ (n : Int) + 1 := by omega
          have b2 : (1 : Int) ≤ (rc : Int) := by omega
          have b3 : 1 ≤ rc := by omega
          have b4 : (n : Int) + 1 ≤ (rc : Int) := by omega
          have b5 : (0 : Int) < (n : Int) + 1 := by omega
          go_region_law (refine step_append_room rfl (.tmp 38) (.tmp 43) 23 rfl 48 i0 6 Tryz.underlying23 hi0 hz1 g 6 n (rc - 1) (by simp [Act.eval, Act.put]) ⟨w6.heap.size, 0, none⟩ 1 1 news (by simp [Act.eval, Act.put]) H6.out (by rw [← H7.out]; exact hsrc.out) H1.out (by omega) (by rw [← H7.out]; exact hspare.out) ?_; rw [← H7.out, ← H8.out])
          all_goals
            go_wp2_with fail
            go_meet
            have hfv := Fr.set (p := ⟨w4.heap.size, 0, none⟩) (hfr4'.trans (hX7.fr _)) (.inl (Nat.le_refl _)) (.slice (some ⟨g, 6, none⟩) (n + 1) (rc - 1))
            have hrot := files_rot (own_fr hrow4 hfv) Hvl.out hroom (BodsO.fr hbd4 hfv) (by rw [← Hvs.out]; exact okl)
            have hrot2 := hrot.less (show W0.heap.size + 1 ≤ W3.heap.size by omega)
            rw [Hnews0.out, ← setCells_swap (by omega), ← H8.out] at hrot2
            exact ⟨_, some ⟨g, 6, none⟩, n + 1, rc - 1, _, Bx.set hU8 0 _, hrot2, by omega, hm6, hF2.mono (Fr.set (fr_grownS hfr2 hg8 (by omega)) (.inl (show w2.heap.size ≤ w4.heap.size by omega)) _), (hT56.grown hg8 (fun k e => by injection e with e; omega)).far (by simp; omega) _,
              (hr6.grown hg8 (fun k e => by injection e with e; omega)).set2 (show W0.heap.size < w4.heap.size by omega) _, Y.set2 (Y.grown hY6 hg8 (fun k e => by injection e with e; omega)) (show w.heap.size ≤ w4.heap.size by omega) _,
              (hR16.grown hg8 (fun k e => by injection e with e; omega)).far (by simp; omega) _, (hR26.grown hg8 (fun k e => by injection e with e; omega)).far (by simp; omega) _⟩
        · obtain rfl : rc = n + 1 := by omega
          obtain ⟨W7, hW7⟩ : ∃ W7, W7 = (w6.alloc (.cells #[.int .i64 x0.1.root, .string ⟨(x0.1.pkg).toArray⟩, .string ⟨(x0.1.name).toArray⟩, .bool x0.1.init, .int .i64 x0.1.stamp, .slice ba x0.1.body.length bc] 48)).drew := ⟨_, rfl⟩
          have hX7 : X w6 W7 := by rw [hW7]; (repeat (first | with_reducible exact X.refl _ | with_reducible assumption | with_reducible refine X.setCell ?_ (by first | (simp; done) | (simp; omega)) _ | with_reducible refine X.ext ?_ _ | with_reducible refine X.alloc ?_ _ | with_reducible refine X.drew ?_))
          by_cases hn0 : n = 0
          · obtain rfl : n = 0 := hn0
            have hrow7 := own_fr hrow (hX7.fr _)
            have hsrc := Lib.hid (show ∀ j u, news[j]? = some u → W7.cell? ((⟨w6.heap.size, 0, none⟩ : Addr).add j) = some u from fun j u hu => by
              rw [hW7]
              exact new_cells w6 #[.int .i64 x0.1.root, .string ⟨(x0.1.pkg).toArray⟩, .string ⟨(x0.1.name).toArray⟩, .bool x0.1.init, .int .i64 x0.1.stamp, .slice ba x0.1.body.length bc] _ (by rw [← hu, Hform.out]))
            have hod : ((vs.drop 1).flatMap fcells).length = 0 * 6 := by rw [flat_length 6 fcells fcells6, List.length_drop, Hvl.out]
            have holds := Lib.hid (show ∀ b, (some ⟨g, 0, none⟩ : Option Addr) = some b → ∀ j u, ((vs.drop 1).flatMap fcells)[j]? = some u → W7.cell? (b.add j) = some u from fun b e j u hu => by
              injection e with e
              subst e
              have hadd : (⟨g, 0, none⟩ : Addr).add j = ⟨g, 0 + j, none⟩ := by unfold Addr.add; split <;> simp_all
              rw [hadd]
              rw [List.length_eq_zero_iff.1 hod] at hu
              simp at hu)
            have H1 := Lib.hid hne1v
            have H6 := Lib.hid hn6
            have Hod := Lib.hid hod
            have H7 := Lib.hid hW7
            clear hne1v hn6 hW7 hrow7 hod
            go_wp2_with fail
            have b1 : (1 : Int) ≤ (0 : Int) + 1 := by omega
            have b2 : (0 : Int) < (0 : Int) + 1 := by omega
            go_region_law (refine step_append_grows rfl (.tmp 38) (.tmp 43) 23 rfl 48 i0 _ 6 80 Tryz.underlying23 hi0 hz0 hz1 hz2 rfl (by decide) (some ⟨g, 0, none⟩) 0 0 ((vs.drop 1).flatMap fcells) (by simp [Act.eval, Act.put]) (fun h => by cases h) Hod.out (by rw [← H7.out]; exact holds.out) ⟨w6.heap.size, 0, none⟩ 1 1 news (by simp [Act.eval, Act.put]) H6.out (by rw [← H7.out]; exact hsrc.out) H1.out (by omega) (by unfold maxLen; omega) (by omega) ?_; rw [← H7.out]; intro v8 w8 hown8 hg8; obtain ⟨a8, c8, rfl⟩ := own_slice hown8; have hX8 := hX7.trans (X.of_grown hg8); have hU8 := hU6.x hX8; have t8 := bxC hU8; have l8 := hU8.lt; have f8 := hU8.out.2.2 0)
            all_goals
              go_wp2_with fail
              go_meet
              obtain ⟨q1, q2, q3, q4, q5, q6, q7⟩ := hfin w8 _ (.slice a8 (0 + 1) c8) (Y.of_x hX8) (hr6.x hX8)
              have hfv := Fr.set (p := ⟨w4.heap.size, 0, none⟩) (hfr4'.trans (hX8.fr _)) (.inl (Nat.le_refl _)) (.slice a8 (0 + 1) c8)
              have hs7 := hX7.size
              have hown9 := own_fr hown8 (Fr.set (Fr.refl _ _) (p := ⟨w4.heap.size, 0, none⟩) (.inr (show w4.heap.size < W7.heap.size by omega)) (.slice a8 (0 + 1) c8))
              have hSl : Sl (w8.setCell ⟨w4.heap.size, 0, none⟩ (.slice a8 (0 + 1) c8)) W3.heap.size a8 (0 + 1) ((vs.drop 1 ++ [nth vs 0]).flatMap fcells) := by
                have h := (Sl.of_own hown9).less (show W3.heap.size ≤ W7.heap.size by omega)
                rw [← Hnews0.out] at h
                simpa [List.flatMap_append] using h
              exact ⟨_, a8, 0 + 1, c8, _, q7, (files_of_rows hSl (by first | (rw [List.length_append, List.length_drop, Hvl.out]; rfl) | rw [List.length_append, List.length_drop, Hvl.out]) (by omega) (rot_mem (by rw [Hvl.out]; omega)) (BodsO.fr hbd4 hfv) (by rw [← Hvs.out]; exact okl)).less (by omega), own_cap hown8, hm6, q1, q2, q3, q4, q5, q6⟩
          · have hn1 : ¬ n + 1 = 1 := by omega
            have hrow7 := own_fr hrow (hX7.fr _)
            have hsrc := Lib.hid (show ∀ j u, news[j]? = some u → W7.cell? ((⟨w6.heap.size, 0, none⟩ : Addr).add j) = some u from fun j u hu => by
              rw [hW7]
              exact new_cells w6 #[.int .i64 x0.1.root, .string ⟨(x0.1.pkg).toArray⟩, .string ⟨(x0.1.name).toArray⟩, .bool x0.1.init, .int .i64 x0.1.stamp, .slice ba x0.1.body.length bc] _ (by rw [← hu, Hform.out]))
            have hod : ((vs.drop 1).flatMap fcells).length = n * 6 := by rw [flat_length 6 fcells fcells6, List.length_drop, Hvl.out]; rfl
            have holds := Lib.hid (show ∀ b, (some ⟨g, 6, none⟩ : Option Addr) = some b → ∀ j u, ((vs.drop 1).flatMap fcells)[j]? = some u → W7.cell? (b.add j) = some u from fun b e j u hu => by
              injection e with e
              subst e
              have hadd : (⟨g, 6, none⟩ : Addr).add j = ⟨g, 6 + j, none⟩ := by unfold Addr.add; split <;> simp_all
              rw [hadd]
              exact row_cell hrow7 _ _ (by rw [← hu, drop_cells, List.getElem?_drop]))
            have H1 := Lib.hid hne1v
            have H6 := Lib.hid hn6
            have Hod := Lib.hid hod
            have H7 := Lib.hid hW7
            clear hne1v hn6 hW7 hrow7 hod
            go_wp2_with fail
            have b1 : (1 : Int) ≤ (n : Int) + 1 := by omega
            have b2 : (0 : Int) < (n : Int) + 1 := by omega
            go_region_law (refine step_append_grows rfl (.tmp 38) (.tmp 43) 23 rfl 48 i0 _ 6 80 Tryz.underlying23 hi0 hz0 hz1 hz2 rfl (by decide) (some ⟨g, 6, none⟩) n n ((vs.drop 1).flatMap fcells) (by simp [Act.eval, Act.put]) (fun h => by cases h) Hod.out (by rw [← H7.out]; exact holds.out) ⟨w6.heap.size, 0, none⟩ 1 1 news (by simp [Act.eval, Act.put]) H6.out (by rw [← H7.out]; exact hsrc.out) H1.out (by omega) (by unfold maxLen; omega) (by omega) ?_; rw [← H7.out]; intro v8 w8 hown8 hg8; obtain ⟨a8, c8, rfl⟩ := own_slice hown8; have hX8 := hX7.trans (X.of_grown hg8); have hU8 := hU6.x hX8; have t8 := bxC hU8; have l8 := hU8.lt; have f8 := hU8.out.2.2 0)
            all_goals
              go_wp2_with fail
              go_meet
              obtain ⟨q1, q2, q3, q4, q5, q6, q7⟩ := hfin w8 _ (.slice a8 (n + 1) c8) (Y.of_x hX8) (hr6.x hX8)
              have hfv := Fr.set (p := ⟨w4.heap.size, 0, none⟩) (hfr4'.trans (hX8.fr _)) (.inl (Nat.le_refl _)) (.slice a8 (n + 1) c8)
              have hs7 := hX7.size
              have hown9 := own_fr hown8 (Fr.set (Fr.refl _ _) (p := ⟨w4.heap.size, 0, none⟩) (.inr (show w4.heap.size < W7.heap.size by omega)) (.slice a8 (n + 1) c8))
              have hSl : Sl (w8.setCell ⟨w4.heap.size, 0, none⟩ (.slice a8 (n + 1) c8)) W3.heap.size a8 (n + 1) ((vs.drop 1 ++ [nth vs 0]).flatMap fcells) := by
                have h := (Sl.of_own hown9).less (show W3.heap.size ≤ W7.heap.size by omega)
                rw [← Hnews0.out] at h
                simpa [List.flatMap_append] using h
              exact ⟨_, a8, n + 1, c8, _, q7, (files_of_rows hSl (by first | (rw [List.length_append, List.length_drop, Hvl.out]; rfl) | rw [List.length_append, List.length_drop, Hvl.out]) (by omega) (rot_mem (by rw [Hvl.out]; omega)) (BodsO.fr hbd4 hfv) (by rw [← Hvs.out]; exact okl)).less (by omega), own_cap hown8, hm6, q1, q2, q3, q4, q5, q6⟩
    · have t7 := bxC hU6
      have hA6 := hO6.at okl
      have hrc : n ≤ rc := own_cap hO6.choose_spec.2.2.1
      go_wp2_with fail
      go_meet
      exact ⟨l, ra, n, rc, _, hU6, hA6.less (by omega), hrc, hm6, hR0, hT56, hr6, hY6, hR16, hR26⟩
  case rest =>
    obtain ⟨u, ua, un, uc, m, hU, hA, huc, hm, hF, hT, hr, hy, hR1, hR2⟩ := hcut
    clear hfin hOs hO6 hO4 hU6 hT56 hR16 hR26 hY6 hfr2 hfr4 hF2 hR0 hr6
    have hz6 : w.heap.size ≠ w2.heap.size := by omega
    have hz7 : w.heap.size ≠ w4.heap.size := by omega
    have hz8 : w.heap.size + 1 ≠ w2.heap.size := by omega
    have hz9 : w.heap.size + 1 ≠ w4.heap.size := by omega
    have hall : ∀ W', Y W0.heap.size wc W' → W'.cell? ⟨w2.heap.size, 0, none⟩ = some (.slice a n c) ∧ W'.cell? ⟨w4.heap.size, 0, none⟩ = some (.slice ua un uc) := fun W' hY => ⟨bxC (hT.y hY hne6), bxC (hU.y hY hne7)⟩
    go_wp2_with fail
    go_region_held3 (fun W' => W'.cell? ⟨w2.heap.size, 0, none⟩ = some (.slice a n c) ∧ W'.cell? ⟨w4.heap.size, 0, none⟩ = some (.slice ua un uc))
      (first
        | exact hall _ (Y.drew (Y.refl _ _))
        | exact hall _ hy7
        | exact ⟨cell_set_far (hall _ hy7).1 hz6.symm, cell_set_far (hall _ hy7).2 hz7.symm⟩
        | exact ⟨cell_set_far (cell_set_far (hall _ hy7).1 hz6.symm) hz8.symm, cell_set_far (cell_set_far (hall _ hy7).2 hz7.symm) hz9.symm⟩
        | go_keep)
      (first
        | (go_at_call 34; refine (anyPath_c _ m _ (hr.x (by (repeat (first | exact X.refl _ | assumption | refine X.ext ?_ _ | refine X.alloc ?_ _ | refine X.drew ?_)))) (by omega)).mono ?_; rintro _ w7 ⟨path, pa, pn, pc, rfl, hI, hpc, hp3, hr7, hy7⟩; replace hy7 := (Y.of_x (rb := W0.heap.size) (by (repeat (first | exact X.refl _ | assumption | refine X.ext ?_ _ | refine X.alloc ?_ _ | refine X.drew ?_)) : X wc _)).trans hy7; have hR17 := hR1.y hy7 hne1; have hR27 := hR2.y hy7 hne2; have r1 := bxC hR17; have l1 := hR17.lt; have f1 := hR17.out.2.2 0; have r2 := bxC hR27; have l2 := hR27.lt; have f2 := hR27.out.2.2 0))
    have hB1 := Bx.far (p := ⟨w.heap.size + 1, 0, none⟩) (Bx.set hR17 0 (.slice a n c)) (by simp) (.slice ua un uc)
    have hB2 := Bx.set (Bx.far (p := ⟨w.heap.size, 0, none⟩) hR27 (by simp) (.slice a n c)) 0 (.slice ua un uc)
    have hfr : Fr (W0.heap.size + 1) wc ((w7.setCell ⟨w.heap.size, 0, none⟩ (.slice a n c)).setCell ⟨w.heap.size + 1, 0, none⟩ (.slice ua un uc)) :=
      Fr.set (p := ⟨w.heap.size + 1, 0, none⟩) (Fr.set (p := ⟨w.heap.size, 0, none⟩) hy7.fr (.inr (show w.heap.size < W0.heap.size + 1 by omega)) _) (.inr (show w.heap.size + 1 < W0.heap.size + 1 by omega)) _
    have hfr7 : Fr (W0.heap.size + 1) w7 ((w7.setCell ⟨w.heap.size, 0, none⟩ (.slice a n c)).setCell ⟨w.heap.size + 1, 0, none⟩ (.slice ua un uc)) :=
      Fr.set (p := ⟨w.heap.size + 1, 0, none⟩) (Fr.set (p := ⟨w.heap.size, 0, none⟩) (Fr.refl _ _) (.inr (show w.heap.size < W0.heap.size + 1 by omega)) _) (.inr (show w.heap.size + 1 < W0.heap.size + 1 by omega)) _
    have hYf := Y.set2 (p := ⟨w.heap.size + 1, 0, none⟩) (Y.set2 (p := ⟨w.heap.size, 0, none⟩) (hy.trans hy7) (Nat.le_refl _) (.slice a n c)) (show w.heap.size ≤ w.heap.size + 1 by omega) (.slice ua un uc)
    have hrw := hr.lt
    go_wp2
    refine bodyPost_ret (v := .tuple #[.agg #[.slice a n c], .agg #[.slice ua un uc], .slice pa pn pc]) ?_ rfl ?_
    · obtain ⟨_, hc1, _⟩ := hB1.out
      obtain ⟨_, hc2, _⟩ := hB2.out
      have p0 := hc1 0
      have r0 := hc2 0
      clear hc1 hc2
      simp at p0 r0
      simp [results, Tryz.results19, go_sem, Result.andThen, *]
      done
    · exact ⟨l, a, n, c, u, ua, un, uc, path, pa, pn, pc, rfl, (hF.mono hfr).less (by omega), hnc, (hA.mono hfr).less (by omega), huc, ((hI.less (B' := W0.heap.size + 1) (by simp; omega)).mono hfr7).less (by omega), hpc, Y.x hYf (by omega)⟩

end Go.Proofs.YtijcdnaammbomaaGreatDoor
