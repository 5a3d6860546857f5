/- Removing a file of a tree: the walks of the program's and the reference's functions. No condition but lengths. -/
import Derived.Test.YtcophpiibifhcaaDoorDelete
import Derived.Test.YtcophpiibifhcaaDoorHeld
import Derived.IntWalk
namespace Go.Proofs.YtcophpiibifhcaaDoor
open Go.RowKit

def remB (l : List Fi) (i : Int) : Bool := treeB l && rangeB i 0 ((l.length : Int) - 1)
def remL (l : List Fi) (i : Int) : List Fi := if remB l i then l.eraseIdx i.toNat else []
theorem fcells_one {vs : List (Fi × Value)} (h : ∀ x ∈ vs, x.2.oneCell' = true) : ∀ u ∈ vs.flatMap fcells, u.oneCell' = true := by
  intro u hu
  obtain ⟨x, hx, hs⟩ := List.mem_flatMap.1 hu
  simp only [fcells, List.mem_cons, List.not_mem_nil, or_false] at hs
  rcases hs with rfl | rfl | rfl | rfl | rfl | rfl <;> first | rfl | exact h x hx
theorem erase_cells (vs : List (Fi × Value)) (i : Nat) : (vs.flatMap fcells).take (i * 6) ++ (vs.flatMap fcells).drop ((i + 1) * 6) = (vs.eraseIdx i).flatMap fcells := by
  have ht : ∀ (us : List (Fi × Value)) (k : Nat), (us.flatMap fcells).take (k * 6) = (us.take k).flatMap fcells := by
    intro us
    induction us with
    | nil => intro k; simp
    | cons u us ih =>
      intro k
      cases k with
      | zero => simp
      | succ k =>
        rw [List.flatMap_cons, List.take_succ_cons, List.flatMap_cons, Nat.succ_mul, ← ih k, List.take_append, fcells6, List.take_of_length_le (by rw [fcells6]; omega)]
        congr 2
  have hd : ∀ (us : List (Fi × Value)) (k : Nat), (us.flatMap fcells).drop (k * 6) = (us.drop k).flatMap fcells := by
    intro us
    induction us with
    | nil => intro k; simp
    | cons u us ih =>
      intro k
      cases k with
      | zero => simp
      | succ k =>
        rw [List.flatMap_cons, List.drop_succ_cons, Nat.succ_mul, ← ih k, List.drop_append, fcells6, List.drop_eq_nil_of_le (by rw [fcells6]; omega), List.nil_append]
        congr 1
  rw [ht, hd, ← List.flatMap_append, List.eraseIdx_eq_take_drop_succ]
theorem FilesO.nil (w : World) (B : Nat) : FilesO w B none 0 0 [] := ⟨[], rfl, rfl, ⟨rfl, .inl ⟨rfl, rfl⟩⟩, List.Pairwise.nil, fun _ h => by cases h⟩
/-- Bodies of files of the call's own. -/
def BodsO (w : World) (B : Nat) (vs : List (Fi × Value)) : Prop := ∀ x ∈ vs, ∃ ba bc, x.2 = .slice ba x.1.body.length bc ∧ w.ownsRow B 125 5 (.slice ba x.1.body.length bc) x.1.body.length (x.1.body.flatMap scells)
theorem BodsO.one {w : World} {B : Nat} {vs : List (Fi × Value)} (h : BodsO w B vs) : ∀ x ∈ vs, x.2.oneCell' = true := fun x hx => by
  obtain ⟨ba, bc, e, _⟩ := h x hx
  rw [e]; rfl
theorem BodsO.grown {w w' : World} {B g : Nat} {vs : List (Fi × Value)} {cs : Array Value} (h : BodsO w B vs) (hg : w.grownBy w' (some g)) (hb : w.heap[g]? = some (.cells cs 76 (0, 0))) : BodsO w' B vs := fun x hx =>
  BodyO.grown (h x hx) hg hb
theorem BodsO.fr {w w' : World} {B : Nat} {vs : List (Fi × Value)} (h : BodsO w B vs) (hx : Fr B w w') : BodsO w' B vs := fun x hm => let ⟨ba, bc, e, ho⟩ := h x hm; ⟨ba, bc, e, own_fr ho hx⟩
theorem BodsO.erase {w : World} {B : Nat} {vs : List (Fi × Value)} (h : BodsO w B vs) (i : Nat) : BodsO w B (vs.eraseIdx i) := fun x hx => h x (List.mem_of_mem_eraseIdx hx)
theorem map_erase (vs : List (Fi × Value)) (i : Nat) : (vs.eraseIdx i).map (·.1) = (vs.map (·.1)).eraseIdx i := by
  rw [List.eraseIdx_eq_take_drop_succ, List.eraseIdx_eq_take_drop_succ, List.map_append, List.map_take, List.map_drop]

set_option maxRecDepth 100000 in
set_option maxHeartbeats 2000000 in
theorem RemoveFile_i (l : List Fi) (a : Option Addr) (n c B : Nat) (i : Int) (w : World) (hF : FilesAt w B a n l) (hnc : n ≤ c) (hG : Gm w) :
    Calls Tryd.prog 24 #[.agg #[.slice a n c], .int .i64 i] w fun e w' => ∃ ra rc, e = .returned (.tuple #[.agg #[.slice ra (remL l i).length rc], .bool (remB l i)]) ∧ FilesO w' w.heap.size ra (remL l i).length rc (remL l i) ∧ X w w' := by
  obtain ⟨hl, hn⟩ := hF.len
  have q1 : IntKind.i64.wrap ((n : Int) - 1) = (n : Int) - 1 := IntWalk.i64_in _ (by omega)
  cases h1 : treeB l <;> cases h2 : rangeB i 0 ((n : Int) - 1)
  case true.true =>
    obtain ⟨k, rfl⟩ : ∃ k : Nat, i = (k : Int) := ⟨i.toNat, by have := (rangeB_iff.1 h2).1; omega⟩
    have hk : k < n := by have := (rangeB_iff.1 h2).2; omega
    have hrb : remB l (k : Int) = true := by rw [remB, h1, ← hl, h2]; rfl
    rw [show remL l (k : Int) = l.eraseIdx k by rw [remL, hrb]; rfl, hrb]
    have hel : (l.eraseIdx k).length = n - 1 := by rw [List.length_eraseIdx_of_lt (by omega)]; omega
    have Hel := Lib.hid hel
    have Hl := Lib.hid hl
    clear hl hrb hel
    go_enter Tryd.func24, Tryd.ntmps24
    go_wp2_with fail
    refine calls_name (fun W0 hW0 => ?_)
    obtain ⟨hT, hR, hX0⟩ := bx2 hW0
    clear hW0
    refine (ValidTree_c l a n c B W0 (hF.mono (hX0.fr _)) hnc (hG.mono hX0)).mono ?_
    rintro _ w1 ⟨rfl, hx1⟩
    rw [h1]
    obtain ⟨lt1, ct1, _⟩ := (hT.x hx1).out
    have t0 := ct1 0
    clear ct1
    go_wp2_with (go_at_call 57; refine (within_c (k : Int) 0 _ _).mono ?_; rintro _ _ ⟨rfl, rfl⟩; rw [h2])
    refine (cloneTree_c l a n c B w1 (hF.mono ((hX0.trans hx1).fr _))).mono ?_
    rintro _ w2 ⟨ra, rc, rfl, ⟨vs, hvs, hvn, hrow, hsep, hbd⟩, hx2⟩
    obtain ⟨g, rfl, hBg, hgl⟩ := own_form hrow (by omega)
    have hrc := own_cap hrow
    have hX2 := (hX0.trans hx1).trans hx2
    have Hv := Lib.hid (And.intro hvs (And.intro hvn hsep))
    have hvl : vs.length = n := by rw [hvn, hvs, List.length_map]
    have hel2 : (vs.eraseIdx k).length = n - 1 := by rw [List.length_eraseIdx_of_lt (by omega)]; omega
    have Hcl := Lib.hid (show ((vs.eraseIdx k).flatMap fcells).length = (n - 1) * 6 by rw [flat_length 6 fcells fcells6, hel2])
    have hs1 : w.heap.size ≤ w1.heap.size := (hX0.trans hx1).size
    clear hvs hvn hsep hvl hel2
    go_wp2_with fail
    refine calls_name (fun W3 hW3 => ?_)
    have hX3 : X w2 W3 := by rw [hW3]; (repeat (first | with_reducible exact X.refl _ | with_reducible assumption | with_reducible refine X.setCell ?_ (by first | (simp; done) | (simp; omega)) _ | with_reducible refine X.ext ?_ _ | with_reducible refine X.alloc ?_ _ | with_reducible refine X.drew ?_))
    have hTb3 : W3.heap[w2.heap.size]? = some (.cells #[.slice (some ⟨g, 0, none⟩) n rc] 30 (0, 0)) := by
      rw [hW3]
      exact at_x2' (heap_alloc_new w2 _) (by (repeat (first | with_reducible exact X.refl _ | with_reducible assumption | with_reducible refine X.setCell ?_ (by first | (simp; done) | (simp; omega)) _ | with_reducible refine X.ext ?_ _ | with_reducible refine X.alloc ?_ _ | with_reducible refine X.drew ?_)))
    have hL3 : W3.ownsRow w2.heap.size 76 6 (.slice (some ⟨w2.heap.size + 1, 0, none⟩) 0 0) 0 [] := by
      rw [hW3]
      exact own_lit (w := w2.alloc (.cells #[.slice (some ⟨g, 0, none⟩) n rc] 30)) (cs := #[]) (e := 76) (B := w2.heap.size) (g := w2.heap.size + 1) (size := 6) (n := 0) (by simp) (by simp) rfl (by omega)
    clear hW3
    have hO3 := own_fr hrow (hX3.fr _)
    have hb3 := BodsO.fr hbd (hX3.fr _)
    obtain ⟨cs3, hgb⟩ := own_block hO3
    refine (Delete_c _ g n rc k _ W3 hO3 (fcells_one (BodsO.one hbd)) hk hn hrc).mono ?_
    rintro _ w4 ⟨rfl, hO4, hg4⟩
    rw [erase_cells] at hO4
    have hTb4 := at_grown hTb3 hg4 (own_ne_at hO3 hTb3 (by decide))
    have hL4 := hL3.kept hg4 (.inr (by simp [Value.ownBlock]; omega))
    have hb4 := (hb3.grown hg4 hgb).erase k
    have hX4 : X w w4 := X.of_below (((hX2.trans hX3).below).grown hg4 (hX2.trans hX3).size (fun b hb => by injection hb with hb; omega))
    have hR4 : Bx w4 (w.heap.size + 1) #[.slice none 0 0] := (((hR.x hx1).x hx2).x hX3).grown hg4 (fun b hb => by injection hb with hb; have := hR.lt; have := hx1.size; omega)
    have hgs4 : w2.heap.size ≤ w4.heap.size := Nat.le_trans hX3.size hg4.size
    obtain ⟨lt4, ct4, ft4⟩ := Bx.out ⟨_, hTb4⟩
    have d0 := ct4 0
    clear ct4 hb3 hbd hrow hgb
    have hRw := hR.lt
    have hx1s := hx1.size
    have hx2s := hx2.size
    go_wp2_with (at_builtin; refine wpList_append_sl file_T' rfl _ _ rfl hL4 rfl rfl (Sl.of_own hO4) Hcl.out (fcells_one (BodsO.one hb4)) (by omega) (by unfold maxLen; omega) hgs4 ?_; intro a' c' w5 hO5 hg5; have hTb5 := at_grown hTb4 hg5 (own_ne_at hL4 hTb4 (by decide)); have hR5 := hR4.grown hg5 (own_ge hL4 (by omega)); obtain ⟨lt5, ct5, ft5⟩ := Bx.out ⟨_, hTb5⟩; obtain ⟨lr5, cr5, fr5⟩ := hR5.out; have r0 := cr5 0; have e0 := ct5 0; clear cr5 ct5)
    have hne : w.heap.size + 1 ≠ w2.heap.size := by omega
    have hRf := (Bx.set (Bx.far hR5 (p := ⟨w2.heap.size, 0, none⟩) hne (.slice a' (n - 1) c')) 0 (.slice a' (n - 1) c')).out.2.1 0
    refine bodyPost_ret (v := .tuple #[.agg #[.slice a' (n - 1) c'], .bool true]) (by simp [results, Tryd.results24, go_sem, hRf]) rfl ?_
    rw [List.nil_append, Nat.zero_add] at hO5
    obtain ⟨hvs, hvn, hsep⟩ := Hv.out
    obtain ⟨cs4, hlb⟩ := own_block hL4
    have hb5 := hb4.grown hg5 hlb
    have hO6 := own_fr (own_set_far hO5 hTb5 (by decide) 0 (.slice a' (n - 1) c')) (Fr.set (Fr.refl w2.heap.size _) (p := ⟨w.heap.size + 1, 0, none⟩) (.inr (by simp; omega)) (.slice a' (n - 1) c'))
    have hb6 : BodsO ((w5.setCell ⟨w2.heap.size, 0, none⟩ (.slice a' (n - 1) c')).setCell ⟨w.heap.size + 1, 0, none⟩ (.slice a' (n - 1) c')) w1.heap.size (vs.eraseIdx k) := fun x hx => by
      obtain ⟨ba, bc, e, ho⟩ := hb5 x hx
      exact ⟨ba, bc, e, own_fr (own_set_far ho hTb5 (by decide) 0 _) (Fr.set (Fr.refl w1.heap.size _) (p := ⟨w.heap.size + 1, 0, none⟩) (.inr (by simp; omega)) _)⟩
    have hX5 : X w w5 := X.of_below ((hX4.below).grown hg5 hX4.size (fun b hb => by have := (hL4.lt b hb).1; omega))
    refine ⟨a', c', by rw [Hel.out], ⟨vs.eraseIdx k, by rw [map_erase, ← hvs], rfl, ?_, List.Pairwise.sublist (List.eraseIdx_sublist vs k) hsep, fun x hx => ?_⟩, ?_⟩
    · rw [Hel.out]
      exact own_less hO6 (by omega)
    · obtain ⟨ba, bc, e, ho⟩ := hb6 x hx
      exact ⟨ba, bc, e, own_less ho (by omega)⟩
    · exact X.setCell (X.setCell hX5 (by simp; omega) _) (by simp) _
  all_goals
    have hrb : remB l i = false := by rw [remB, h1, ← hl, h2]; rfl
    rw [show remL l i = [] by rw [remL, hrb]; rfl, hrb]
    clear hl hrb
    go_enter Tryd.func24, Tryd.ntmps24
    go_wp2_with fail
    refine calls_name (fun W0 hW0 => ?_)
    obtain ⟨hT, hR, hX0⟩ := bx2 hW0
    clear hW0
    refine (ValidTree_c l a n c B W0 (hF.mono (hX0.fr _)) hnc (hG.mono hX0)).mono ?_
    rintro _ w1 ⟨rfl, hx1⟩
    rw [h1]
    obtain ⟨lt1, ct1, _⟩ := (hT.x hx1).out
    have t0 := ct1 0
    clear ct1
    obtain ⟨lr1, cr1, fr1⟩ := (hR.x hx1).out
    have r0 := cr1 0
    clear cr1
    go_wp2_with (go_at_call 57; refine (within_c i 0 _ _).mono ?_; rintro _ _ ⟨rfl, rfl⟩; rw [h2])
    have hRf := (Bx.set (hR.x hx1) 0 (.slice none 0 0)).out.2.1 0
    refine bodyPost_ret (v := .tuple #[.agg #[.slice none 0 0], .bool false]) (by simp [results, Tryd.results24, go_sem, hRf]) rfl ?_
    exact ⟨none, 0, rfl, FilesO.nil _ _, X.setCell (hX0.trans hx1) (by simp) _⟩

set_option maxRecDepth 100000 in
set_option maxHeartbeats 2000000 in
theorem RemoveFile_s (l : List Fi) (a : Option Addr) (n c B : Nat) (i : Int) (w : World) (hF : FilesAt w B a n l) :
    Calls Tryd.prog 23 #[.agg #[.slice a n c], .int .i64 i] w fun e w' => ∃ ra rc, e = .returned (.tuple #[.agg #[.slice ra (remL l i).length rc], .bool (remB l i)]) ∧ FilesO w' w.heap.size ra (remL l i).length rc (remL l i) ∧ X w w' := by
  obtain ⟨hl, hn⟩ := hF.len
  have q1 : IntKind.i64.wrap ((n : Int) - 1) = (n : Int) - 1 := IntWalk.i64_in _ (by omega)
  cases h1 : treeB l <;> cases h2 : rangeB i 0 ((n : Int) - 1)
  case true.true =>
    obtain ⟨k, rfl⟩ : ∃ k : Nat, i = (k : Int) := ⟨i.toNat, by have := (rangeB_iff.1 h2).1; omega⟩
    have hk : k < n := by have := (rangeB_iff.1 h2).2; omega
    have hrb : remB l (k : Int) = true := by rw [remB, h1, ← hl, h2]; rfl
    rw [show remL l (k : Int) = l.eraseIdx k by rw [remL, hrb]; rfl, hrb]
    have hel : (l.eraseIdx k).length = n - 1 := by rw [List.length_eraseIdx_of_lt (by omega)]; omega
    have Hel := Lib.hid hel
    have Hl := Lib.hid hl
    clear hl hrb hel
    go_enter Tryd.func23, Tryd.ntmps23
    go_wp2_with fail
    refine calls_name (fun W0 hW0 => ?_)
    obtain ⟨hT, hR, hX0⟩ := bx2 hW0
    clear hW0
    refine (validTree_c l a n c B W0 (hF.mono (hX0.fr _))).mono ?_
    rintro _ w1 ⟨rfl, hx1⟩
    rw [h1]
    obtain ⟨lt1, ct1, _⟩ := (hT.x hx1).out
    have t0 := ct1 0
    clear ct1
    go_wp2_with (go_at_call 52; refine (inRange_c (k : Int) 0 _ _).mono ?_; rintro _ _ ⟨rfl, rfl⟩; rw [h2])
    refine (copyTree_c l a n c B w1 (hF.mono ((hX0.trans hx1).fr _))).mono ?_
    rintro _ w2 ⟨ra, rc, rfl, ⟨vs, hvs, hvn, hrow, hsep, hbd⟩, hx2⟩
    obtain ⟨g, rfl, hBg, hgl⟩ := own_form hrow (by omega)
    have hrc := own_cap hrow
    have hX2 := (hX0.trans hx1).trans hx2
    have Hv := Lib.hid (And.intro hvs (And.intro hvn hsep))
    have hs1 : w.heap.size ≤ w1.heap.size := (hX0.trans hx1).size
    clear hvs hvn hsep
    go_wp2
    refine wp_name (fun W3 hW3 => ?_)
    have hX3 : X w2 W3 := by rw [hW3]; (repeat (first | with_reducible exact X.refl _ | with_reducible assumption | with_reducible refine X.setCell ?_ (by first | (simp; done) | (simp; omega)) _ | with_reducible refine X.ext ?_ _ | with_reducible refine X.alloc ?_ _ | with_reducible refine X.drew ?_))
    have hTb3 : W3.heap[w2.heap.size]? = some (.cells #[.slice (some ⟨g, 0, none⟩) n rc] 30 (0, 0)) := by
      rw [hW3]
      exact heap_alloc_new w2 _
    clear hW3
    have hO3 := own_fr hrow (hX3.fr _)
    have hb3 := BodsO.fr hbd (hX3.fr _)
    obtain ⟨cs3, hgb⟩ := own_block hO3
    have hl3 := hO3.1
    obtain ⟨i0, hi0, hz0, hz1, hz2⟩ := info_parts info_file
    obtain ⟨news, hnews⟩ : ∃ news, news = (vs.flatMap fcells).drop ((k + 1) * 6) := ⟨_, rfl⟩
    have hlen : news.length = (n - (k + 1)) * 6 := by rw [hnews, List.length_drop, hl3, Nat.sub_mul]
    obtain ⟨A, hA, hsrc0⟩ : ∃ A : Addr, (if rc = k + 1 then some (⟨g, 0, none⟩ : Addr) else some ⟨g, (k + 1) * 6, none⟩) = some A ∧ ∀ t u, news[t]? = some u → W3.drew.cell? (A.add t) = some u := by
      by_cases hc : rc = k + 1
      · refine ⟨⟨g, 0, none⟩, by simp [hc], fun t u hu => ?_⟩
        have h0 : news.length = 0 := by rw [hlen]; omega
        rw [List.length_eq_zero_iff.1 h0] at hu
        simp at hu
      · refine ⟨⟨g, (k + 1) * 6, none⟩, by simp [hc], fun t u hu => ?_⟩
        have hadd : (⟨g, (k + 1) * 6, none⟩ : Addr).add t = ⟨g, (k + 1) * 6 + t, none⟩ := by unfold Addr.add; split <;> simp_all
        rw [hadd]
        show W3.cell? _ = _
        rw [hnews, List.getElem?_drop] at hu
        exact row_cell hO3 _ _ hu
    have hsrc := Lib.hid hsrc0
    clear hsrc0
    have s2 := Lib.hid (show ∀ u ∈ news, u.oneCell' = true from fun u hu => fcells_one (BodsO.one hbd) u (by rw [hnews] at hu; exact List.mem_of_mem_drop hu))
    have s3 := Lib.hid (show ∀ t, t < news.length → (W3.drew.cell? ⟨g, 0 + k * 6 + t, none⟩).isSome = true ∧ W3.drew.frozen? ⟨g, 0 + k * 6 + t, none⟩ = false from fun t ht => by
      rw [Nat.zero_add]
      exact row_one hO3 (by rw [hlen] at ht; omega))
    obtain ⟨W4, hW4⟩ : ∃ W4, W4 = W3.drew.setCells g (0 + k * 6) news := ⟨_, rfl⟩
    have hg4 : W3.grownBy W4 (some g) := by
      rw [hW4]
      exact grown_setCells news _ _ ⟨rfl, rfl, rfl, Nat.le_refl _, fun _ _ _ => rfl⟩
    have hO4 : W4.ownsRow w1.heap.size 76 6 (.slice (some ⟨g, 0, none⟩) (n - 1) rc) (n - 1) ((vs.eraseIdx k).flatMap fcells) := by
      have h := own_setCells news (k * 6) W3.drew _ hO3
      rw [← Nat.zero_add (k * 6), ← hW4, Nat.zero_add] at h
      have h2 := own_short h (show n - 1 ≤ n by omega)
      rw [hnews, moved hl3 hk, erase_cells] at h2
      exact h2
    have hb4 := (hb3.grown hg4 hgb).erase k
    have hX4 : X w W4 := X.of_below (((hX2.trans hX3).below).grown hg4 (hX2.trans hX3).size (fun b hb => by injection hb with hb; omega))
    have hTb4 := at_grown hTb3 hg4 (own_ne_at hO3 hTb3 (by decide))
    have hR4 : Bx W4 (w.heap.size + 1) #[.slice none 0 0] := (((hR.x hx1).x hx2).x hX3).grown hg4 (fun b hb => by injection hb with hb; have := hR.lt; have := hx1.size; omega)
    have hRw := hR.lt
    have hx1s := hx1.size
    have hx2s := hx2.size
    have hW := Lib.hid hW4
    clear hW4 hnews hbd hrow
    obtain ⟨lt3, ct3, ft3⟩ := Bx.out ⟨_, hTb3⟩
    have d3 := ct3 0
    obtain ⟨lt4, ct4, ft4⟩ := Bx.out ⟨_, hTb4⟩
    have d4 := ct4 0
    obtain ⟨lr4, cr4, fr4⟩ := hR4.out
    have r4 := cr4 0
    clear ct3 ct4 cr4
    have hic : k ≤ rc := by omega
    have hjc : k + 1 ≤ rc := by omega
    have hb0 : (0 : Int) ≤ (k : Int) + 1 := by omega
    have hb1 : (k : Int) + 1 ≤ (n : Int) := by omega
    have hne : w.heap.size + 1 ≠ w2.heap.size := by omega
    have q2 : IntKind.i64.wrap ((k : Int) + 1) = (k : Int) + 1 := IntWalk.i64_in _ (by omega)
    have q3 : ((k : Int) + 1).toNat = k + 1 := by omega
    go_region_law (refine step_append_room rfl (.tmp 25) (.tmp 30) 28 rfl 76 i0 6 Tryd.underlying28 hi0 hz1 g 0 k rc (by simp [Act.eval, Act.put]) A (n - (k + 1)) (rc - (k + 1)) news (by simp [Act.eval, Act.put]) hlen hsrc.out s2.out (by omega) s3.out ?_; rw [← hW.out])
    all_goals
      rw [show k + (n - (k + 1)) = n - 1 by omega]
      go_wp2
      have hRf := (Bx.set (Bx.far hR4 (p := ⟨w2.heap.size, 0, none⟩) hne (.slice (some ⟨g, 0, none⟩) (n - 1) rc)) 0 (.slice (some ⟨g, 0, none⟩) (n - 1) rc)).out.2.1 0
      refine bodyPost_ret (v := .tuple #[.agg #[.slice (some ⟨g, 0, none⟩) (n - 1) rc], .bool true]) (by simp [results, Tryd.results23, go_sem, hRf]) rfl ?_
      obtain ⟨hvs, hvn, hsep⟩ := Hv.out
      have hO6 := own_fr (own_set_far hO4 hTb4 (by decide) 0 (.slice (some ⟨g, 0, none⟩) (n - 1) rc)) (Fr.set (Fr.refl w1.heap.size _) (p := ⟨w.heap.size + 1, 0, none⟩) (.inr (by simp; omega)) (.slice (some ⟨g, 0, none⟩) (n - 1) rc))
      have hb6 : BodsO ((W4.setCell ⟨w2.heap.size, 0, none⟩ (.slice (some ⟨g, 0, none⟩) (n - 1) rc)).setCell ⟨w.heap.size + 1, 0, none⟩ (.slice (some ⟨g, 0, none⟩) (n - 1) rc)) w1.heap.size (vs.eraseIdx k) := fun x hx => by
        obtain ⟨ba, bc, e, ho⟩ := hb4 x hx
        exact ⟨ba, bc, e, own_fr (own_set_far ho hTb4 (by decide) 0 _) (Fr.set (Fr.refl w1.heap.size _) (p := ⟨w.heap.size + 1, 0, none⟩) (.inr (by simp; omega)) _)⟩
      refine ⟨some ⟨g, 0, none⟩, rc, by rw [Hel.out], ⟨vs.eraseIdx k, by rw [map_erase, ← hvs], rfl, ?_, List.Pairwise.sublist (List.eraseIdx_sublist vs k) hsep, fun x hx => ?_⟩, ?_⟩
      · rw [Hel.out]
        exact own_less hO6 (by omega)
      · obtain ⟨ba, bc, e, ho⟩ := hb6 x hx
        exact ⟨ba, bc, e, own_less ho (by omega)⟩
      · exact X.setCell (X.setCell hX4 (by simp; omega) _) (by simp) _
  all_goals
    have hrb : remB l i = false := by rw [remB, h1, ← hl, h2]; rfl
    rw [show remL l i = [] by rw [remL, hrb]; rfl, hrb]
    clear hl hrb
    go_enter Tryd.func23, Tryd.ntmps23
    go_wp2_with fail
    refine calls_name (fun W0 hW0 => ?_)
    obtain ⟨hT, hR, hX0⟩ := bx2 hW0
    clear hW0
    refine (validTree_c l a n c B W0 (hF.mono (hX0.fr _))).mono ?_
    rintro _ w1 ⟨rfl, hx1⟩
    rw [h1]
    obtain ⟨lt1, ct1, _⟩ := (hT.x hx1).out
    have t0 := ct1 0
    clear ct1
    obtain ⟨lr1, cr1, fr1⟩ := (hR.x hx1).out
    have r0 := cr1 0
    clear cr1
    go_wp2_with (go_at_call 52; refine (inRange_c i 0 _ _).mono ?_; rintro _ _ ⟨rfl, rfl⟩; rw [h2])
    have hRf := (Bx.set (hR.x hx1) 0 (.slice none 0 0)).out.2.1 0
    refine bodyPost_ret (v := .tuple #[.agg #[.slice none 0 0], .bool false]) (by simp [results, Tryd.results23, go_sem, hRf]) rfl ?_
    exact ⟨none, 0, rfl, FilesO.nil _ _, X.setCell (hX0.trans hx1) (by simp) _⟩

end Go.Proofs.YtcophpiibifhcaaDoor
