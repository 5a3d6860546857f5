/- Several texts in one: Sorted, Ins, ModsW, PackW, Add. No condition but lengths. -/
import Derived.Test.YtgjfjjhmgbemcaaGreatDoorLc
import Derived.Test.YtgjfjjhmgbemcaaGreatDoorIe
import Derived.Lib.OwnBridge
import Derived.Sort.OwnSorted
import Derived.Maps.AppendAt
namespace Go.Proofs.YtgjfjjhmgbemcaaGreatDoor
open Go.RowKit Go.Sort

theorem strs_map (l : List (List UInt8)) : strs l = l.map encStr := by
  unfold strs
  induction l with
  | nil => rfl
  | cons x l ih => rw [List.flatMap_cons, ih]; rfl
end Go.Proofs.YtgjfjjhmgbemcaaGreatDoor

namespace Go.Proofs.YtgjfjjhmgbemcaaGreatDoor
open Go.RowKit

theorem Sl.drop {w : World} {B g n p : Nat} {l : List (List UInt8)} (h : Sl w B (some ⟨g, 0, none⟩) n (strs l)) (hl : l.length = n) (hp : p ≤ n) : Sl w B (some ⟨g, p, none⟩) (n - p) (strs (l.drop p)) := by
  intro h0
  obtain ⟨b, off, e, hB, hb, hc⟩ := h (by omega)
  injection e with e
  injection e with e1 e2
  subst e1 e2
  refine ⟨g, p, rfl, hB, hb, fun i hi => ?_⟩
  rw [strs_map, List.length_map, List.length_drop] at hi
  have h2 := hc (p + i) (by rw [strs_map, List.length_map]; omega)
  rw [Nat.zero_add] at h2
  rw [h2]
  congr 1
  simp [strs_map]
end Go.Proofs.YtgjfjjhmgbemcaaGreatDoor

namespace Go.Proofs.YtgjfjjhmgbemcaaGreatDoor
open Go.RowKit

theorem bxC {w : World} {b : Nat} {v : Value} (h : Bx w b #[v]) : w.cell? ⟨b, 0, none⟩ = some v := h.out.2.1 0
end Go.Proofs.YtgjfjjhmgbemcaaGreatDoor

namespace Go.Proofs.YtgjfjjhmgbemcaaGreatDoor
open Go.RowKit

end Go.Proofs.YtgjfjjhmgbemcaaGreatDoor

namespace Go.Proofs.YtgjfjjhmgbemcaaGreatDoor
open Go.RowKit

def addB (l : List Fi) (f : Fi) : Bool := treeB l && treeB (l ++ [f])
def addL (l : List Fi) (f : Fi) : List Fi := if addB l f then l ++ [f] else []
theorem then_nameA {K : Act → World → Prop} {Q : Exit → Act → World → Prop} {a : Act} {w : World} (h : ∀ W, W = w → Exit.then K Q .normal a W) : Exit.then K Q .normal a w := h w rfl
theorem okL_snoc {l : List Fi} {f : Fi} (h : OkL l) (hl : l.length + 1 ≤ 2097152) (hok : Okf f) (hb : f.body.length ≤ 2097152) (hs : ∀ s ∈ f.body, Oks s) : OkL (l ++ [f]) := by
  refine ⟨by rw [List.length_append, List.length_singleton]; exact hl, fun g hg => ?_⟩
  rcases List.mem_append.1 hg with hg | hg
  · exact h.2 g hg
  · rw [List.mem_singleton.1 hg]
    exact ⟨hok, hb, hs⟩

set_option maxRecDepth 100000 in
set_option maxHeartbeats 2000000 in
theorem AddFile_i (l : List Fi) (a : Option Addr) (n c B : Nat) (f : Fi) (ba : Option Addr) (bn bc Bf : Nat) (w : World) (hF : FilesAt w B a n l) (hn1 : n + 1 ≤ 2097152) (hok : Okf f) (hS : StmtsAt w Bf ba bn f.body) (hnc : n ≤ c) (hG : Gm w) :
    Calls Tryz.prog 46 #[.agg #[.slice a n c], .agg #[.int .i64 (f).root, .string ⟨(f).pkg.toArray⟩, .string ⟨(f).name.toArray⟩, .bool (f).init, .int .i64 (f).stamp, .slice ba bn bc]] w fun e w' => ∃ ra rc, e = .returned (.tuple #[.agg #[.slice ra (addL l f).length rc], .bool (addB l f)]) ∧ FilesO w' w.heap.size ra (addL l f).length rc (addL l f) ∧ X w w' := by
  obtain ⟨hl, hn⟩ := hF.len
  have okL := okL_snoc hF.okL (by omega) hok (by have := hS.1; have := hS.2.1; omega) hS.2.2.1
  have Hl := Lib.hid hl
  clear hl
  have Hbn := Lib.hid hS.1
  obtain ⟨V, hV⟩ : ∃ V, addL l f = V := ⟨_, rfl⟩
  obtain ⟨ok, hok2⟩ : ∃ ok, addB l f = ok := ⟨_, rfl⟩
  rw [hV, hok2]
  have HV := Lib.hid hV
  have HB := Lib.hid hok2
  clear hV hok2
  go_enter Tryz.func46, Tryz.ntmps46
  go_wp2_with fail
  refine calls_name (fun W0 hW0 => ?_)
  obtain ⟨hT, hFb, hR, hX0⟩ := bx3 hW0
  have hz0 : W0.heap.size = w.heap.size + 3 := by rw [hW0]; simp
  clear hW0
  refine (cloneTree_c l a n c B W0 (hF.mono (hX0.fr _))).mono ?_
  rintro _ w1 ⟨ra, rc, rfl, hO, hx1⟩
  replace hT := hT.x hx1
  replace hFb := hFb.x hx1
  replace hR := hR.x hx1
  have hX1 := hX0.trans hx1
  have hs1 := hx1.size
  have hsr := hR.lt
  clear hX0 hx1
  go_wp2
  refine wp_name (fun W2 hW2 => ?_)
  have hTb : W2.heap[w1.heap.size]? = some (.cells #[.slice ra n rc] 35 (0, 0)) := by
    rw [hW2]
    first
      | exact heap_alloc_new _ _
      | (have := heap_setCell_same (w1.alloc (.cells #[.slice none 0 0] 35)) w1.heap.size 0 _ _ (.slice ra n rc) (heap_alloc_new _ _); simpa using this)
  have hX2 : X w1 W2 := by rw [hW2]; (repeat (first | with_reducible exact X.refl _ | with_reducible assumption | with_reducible refine X.setCell ?_ (by first | (simp; done) | (simp; omega)) _ | with_reducible refine X.ext ?_ _ | with_reducible refine X.alloc ?_ _ | with_reducible refine X.drew ?_))
  clear hW2
  replace hT := hT.x hX2
  replace hFb := hFb.x hX2
  replace hR := hR.x hX2
  have hXS : X w W2 := hX1.trans hX2
  obtain ⟨vs, hvs, -, hrow, hsep, hbd⟩ := hO
  have Hv := Lib.hid (And.intro hvs (And.intro hsep hbd))
  clear hvs hsep hbd
  obtain ⟨l4, c4, _⟩ := hFb.out
  have b0 := c4 0
  have b1 := c4 1
  have b2 := c4 2
  have b3 := c4 3
  have b4 := c4 4
  have b5 := c4 5
  clear c4
  obtain ⟨lt4, ct4, _⟩ := Bx.out ⟨_, hTb⟩
  have d0 := ct4 0
  clear ct4
  go_region_law (first
    | (refine step_append_t file_T' rfl _ _ rfl (w := w3) (by (repeat (first | exact X.refl _ | assumption | refine X.ext ?_ _ | refine X.alloc ?_ _ | refine X.drew ?_))) hrow3 rfl rfl (heap_alloc_new w3 _) rfl (by simp [Value.oneCell']) (by omega) (by omega) (by omega) ?_; intro a' c' w' hrow' hg'; have hTb5 := at_grown hTb3 hg' (own_ne_at hrow3 hTb3 (by decide)); obtain ⟨lt5, ct5, ft5⟩ := Bx.out ⟨_, hTb5⟩)
    | (go_simp; go_at_call 103; refine (cloneFile_c f ba bn bc Bf _ (hS.mono (X.fr (hXS.trans (by (repeat (first | exact X.refl _ | assumption | refine X.ext ?_ _ | refine X.alloc ?_ _ | refine X.drew ?_)))) _))).mono ?_; rintro _ w3 ⟨rb, rcb, rfl, hO3, hx3⟩; have hX3 : X W2 w3 := X.trans (by (repeat (first | exact X.refl _ | assumption | refine X.ext ?_ _ | refine X.alloc ?_ _ | refine X.drew ?_))) hx3; have hTb3 := at_x2' hTb hX3; obtain ⟨lt3, ct3, _⟩ := Bx.out ⟨_, hTb3⟩; have d3 := ct3 0; clear ct3; have hrow3 := own_fr hrow (X.fr (hX2.trans hX3) _)))
  all_goals
    have hXw : X w w3 := hXS.trans hX3
    have hX5 : X w w' := X.of_below ((hXw.below).grown hg' hXw.size (fun g hg => by have := (hrow3.lt g hg).1; omega))
    have hR5 := (hR.x hX3).grown hg' (own_ge hrow3 (by omega))
    have hT5 := (hT.x hX3).grown hg' (own_ge hrow3 (by omega))
    have hc4 := own_cap hrow'
    refine then_nameA (fun W4 hW4 => ?_)
    have hX4 : X w W4 := by rw [hW4]; exact X.setCell hX5 (by first | (simp; done) | (simp; omega)) _
    have hR4 : Bx W4 (w.heap.size + 2) #[.slice none 0 0] := by rw [hW4]; exact Bx.far hR5 (by simp; omega) _
    have hT4 : Bx W4 w.heap.size #[.slice a n c] := by rw [hW4]; exact Bx.far hT5 (by simp; omega) _
    have hTb4 : Bx W4 w1.heap.size #[.slice a' (n + 1) c'] := by rw [hW4]; have := heap_setCell_same w' w1.heap.size 0 _ _ (.slice a' (n + 1) c') hTb5; exact ⟨_, by simpa using this⟩
    have hFO : FilesO W4 W0.heap.size a' (n + 1) c' (l ++ [f]) := by
      rw [hW4]
      refine ⟨vs ++ [(f, .slice rb bn rcb)], by rw [List.map_append, ← Hv.out.1]; rfl, by rw [List.length_append, ← Hl.out]; rfl, ?_, ?_, ?_⟩
      · rw [List.flatMap_append]
        exact own_set_far hrow' hTb5 (by decide) _ _
      · refine List.pairwise_append.2 ⟨Hv.out.2.1, List.pairwise_singleton _ _, fun x hx y hy => ?_⟩
        rw [List.mem_singleton.1 hy]
        obtain ⟨ba', bc', e, ho⟩ := Hv.out.2.2 x hx
        rw [e]
        exact row_far (own_fr ho (hX2.fr _)) rfl hO3
      · intro x hx
        rcases List.mem_append.1 hx with hx | hx
        · obtain ⟨ba', bc', e, ho⟩ := Hv.out.2.2 x hx
          have ho3 := own_fr ho (X.fr (hX2.trans hX3) _)
          exact ⟨ba', bc', e, own_set_far (ho3.kept hg' (row_ne ho3 hrow3 (by decide))) hTb5 (by decide) _ _⟩
        · rw [List.mem_singleton.1 hx]
          have ho3 := own_less hO3 (show W0.heap.size ≤ _ by first | omega | (simp; omega))
          rw [Hbn.out] at ho3 ⊢
          exact ⟨rb, _, rfl, own_set_far (ho3.kept hg' (row_ne ho3 hrow3 (by decide))) hTb5 (by decide) _ _⟩
    clear hW4 hTb5 ct5 ft5 lt5 hT5 hR5 hX5
    obtain ⟨lt0, ct0, _⟩ := hT4.out
    have t0 := ct0 0
    clear ct0
    go_wp2_with fail
    refine (ValidTree_c l a n c B W4 (hF.mono (hX4.fr _)) hnc (hG.mono hX4)).mono ?_
    rintro _ w5 ⟨rfl, hx5⟩
    have hX6 := hX4.trans hx5
    clear t0 lt0
    cases h1 : treeB l
    · obtain rfl : ok = false := by rw [← HB.out, addB, h1]; rfl
      obtain rfl : V = [] := by rw [← HV.out, addL, HB.out]; rfl
      obtain ⟨lr, cr, fr⟩ := (hR4.x hx5).out
      have r0 := cr 0
      clear cr
      go_wp2
      have hRf := (Bx.set (hR4.x hx5) 0 (.slice none 0 0)).out.2.1 0
      refine bodyPost_ret (v := .tuple #[.agg #[.slice none 0 0], .bool false]) (by simp [results, Tryz.results46, go_sem, hRf]) rfl ?_
      exact ⟨none, 0, rfl, FilesO.nil _ _, X.setCell hX6 (by first | (simp; done) | (simp; omega)) _⟩
    · have hTb5 := hTb4.x hx5
      obtain ⟨lt1, ct1, _⟩ := hTb5.out
      have t1 := ct1 0
      clear ct1
      go_wp2_with fail
      refine (ValidTree_c (l ++ [f]) a' (n + 1) c' _ w5 ((hFO.at okL).mono (hx5.fr _)) hc4 (hG.mono (hX4.trans hx5))).mono ?_
      rintro _ w6 ⟨rfl, hx6⟩
      have hX7 := hX6.trans hx6
      clear t1 lt1
      have hR6 := (hR4.x hx5).x hx6
      obtain ⟨lr, cr, fr⟩ := hR6.out
      have r0 := cr 0
      clear cr
      cases h2 : treeB (l ++ [f])
      · obtain rfl : ok = false := by rw [← HB.out, addB, h1, h2]; rfl
        obtain rfl : V = [] := by rw [← HV.out, addL, HB.out]; rfl
        go_wp2
        have hRf := (Bx.set hR6 0 (.slice none 0 0)).out.2.1 0
        refine bodyPost_ret (v := .tuple #[.agg #[.slice none 0 0], .bool false]) (by simp [results, Tryz.results46, go_sem, hRf]) rfl ?_
        exact ⟨none, 0, rfl, FilesO.nil _ _, X.setCell hX7 (by first | (simp; done) | (simp; omega)) _⟩
      · obtain rfl : ok = true := by rw [← HB.out, addB, h1, h2]; rfl
        obtain rfl : V = l ++ [f] := by rw [← HV.out, addL, HB.out]; rfl
        have hVn : (l ++ [f]).length = n + 1 := by rw [List.length_append, ← Hl.out]; rfl
        obtain ⟨lt1, ct1, _⟩ := (hTb5.x hx6).out
        have t1 := ct1 0
        clear ct1
        have HVn := Lib.hid hVn
        clear hVn
        go_wp2
        have hRf := (Bx.set hR6 0 (.slice a' (n + 1) c')).out.2.1 0
        refine bodyPost_ret (v := .tuple #[.agg #[.slice a' (n + 1) c'], .bool true]) (by simp [results, Tryz.results46, go_sem, hRf]) rfl ?_
        exact ⟨a', c', by rw [HVn.out], by rw [HVn.out]; exact ((hFO.fr (X.fr (hx5.trans hx6) _)).fr (Fr.set (Fr.refl _ _) (.inr (by first | (simp; done) | (simp; omega))) _)).less (by omega), X.setCell hX7 (by first | (simp; done) | (simp; omega)) _⟩
set_option maxRecDepth 100000 in
set_option maxHeartbeats 2000000 in
theorem AddFile_s (l : List Fi) (a : Option Addr) (n c B : Nat) (f : Fi) (ba : Option Addr) (bn bc Bf : Nat) (w : World) (hF : FilesAt w B a n l) (hn1 : n + 1 ≤ 2097152) (hok : Okf f) (hS : StmtsAt w Bf ba bn f.body)  :
    Calls Tryz.prog 41 #[.agg #[.slice a n c], .agg #[.int .i64 (f).root, .string ⟨(f).pkg.toArray⟩, .string ⟨(f).name.toArray⟩, .bool (f).init, .int .i64 (f).stamp, .slice ba bn bc]] w fun e w' => ∃ ra rc, e = .returned (.tuple #[.agg #[.slice ra (addL l f).length rc], .bool (addB l f)]) ∧ FilesO w' w.heap.size ra (addL l f).length rc (addL l f) ∧ X w w' := by
  obtain ⟨hl, hn⟩ := hF.len
  have okL := okL_snoc hF.okL (by omega) hok (by have := hS.1; have := hS.2.1; omega) hS.2.2.1
  have Hl := Lib.hid hl
  clear hl
  have Hbn := Lib.hid hS.1
  obtain ⟨V, hV⟩ : ∃ V, addL l f = V := ⟨_, rfl⟩
  obtain ⟨ok, hok2⟩ : ∃ ok, addB l f = ok := ⟨_, rfl⟩
  rw [hV, hok2]
  have HV := Lib.hid hV
  have HB := Lib.hid hok2
  clear hV hok2
  go_enter Tryz.func41, Tryz.ntmps41
  go_wp2_with fail
  refine calls_name (fun W0 hW0 => ?_)
  obtain ⟨hT, hFb, hR, hX0⟩ := bx3 hW0
  have hz0 : W0.heap.size = w.heap.size + 3 := by rw [hW0]; simp
  clear hW0
  refine (copyTree_c l a n c B W0 (hF.mono (hX0.fr _))).mono ?_
  rintro _ w1 ⟨ra, rc, rfl, hO, hx1⟩
  replace hT := hT.x hx1
  replace hFb := hFb.x hx1
  replace hR := hR.x hx1
  have hX1 := hX0.trans hx1
  have hs1 := hx1.size
  have hsr := hR.lt
  clear hX0 hx1
  go_wp2
  refine wp_name (fun W2 hW2 => ?_)
  have hTb : W2.heap[w1.heap.size]? = some (.cells #[.slice ra n rc] 35 (0, 0)) := by
    rw [hW2]
    first
      | exact heap_alloc_new _ _
      | (have := heap_setCell_same (w1.alloc (.cells #[.slice none 0 0] 35)) w1.heap.size 0 _ _ (.slice ra n rc) (heap_alloc_new _ _); simpa using this)
  have hX2 : X w1 W2 := by rw [hW2]; (repeat (first | with_reducible exact X.refl _ | with_reducible assumption | with_reducible refine X.setCell ?_ (by first | (simp; done) | (simp; omega)) _ | with_reducible refine X.ext ?_ _ | with_reducible refine X.alloc ?_ _ | with_reducible refine X.drew ?_))
  clear hW2
  replace hT := hT.x hX2
  replace hFb := hFb.x hX2
  replace hR := hR.x hX2
  have hXS : X w W2 := hX1.trans hX2
  obtain ⟨vs, hvs, -, hrow, hsep, hbd⟩ := hO
  have Hv := Lib.hid (And.intro hvs (And.intro hsep hbd))
  clear hvs hsep hbd
  obtain ⟨l4, c4, _⟩ := hFb.out
  have b0 := c4 0
  have b1 := c4 1
  have b2 := c4 2
  have b3 := c4 3
  have b4 := c4 4
  have b5 := c4 5
  clear c4
  obtain ⟨lt4, ct4, _⟩ := Bx.out ⟨_, hTb⟩
  have d0 := ct4 0
  clear ct4
  go_region_law (first
    | (refine step_append_t file_T' rfl _ _ rfl (w := w3) (by (repeat (first | exact X.refl _ | assumption | refine X.ext ?_ _ | refine X.alloc ?_ _ | refine X.drew ?_))) hrow3 rfl rfl (heap_alloc_new w3 _) rfl (by simp [Value.oneCell']) (by omega) (by omega) (by omega) ?_; intro a' c' w' hrow' hg'; have hTb5 := at_grown hTb3 hg' (own_ne_at hrow3 hTb3 (by decide)); obtain ⟨lt5, ct5, ft5⟩ := Bx.out ⟨_, hTb5⟩)
    | (go_simp; go_at_call 96; refine (copyFile_c f ba bn bc Bf _ (hS.mono (X.fr (hXS.trans (by (repeat (first | exact X.refl _ | assumption | refine X.ext ?_ _ | refine X.alloc ?_ _ | refine X.drew ?_)))) _))).mono ?_; rintro _ w3 ⟨rb, rcb, rfl, hO3, hx3⟩; have hX3 : X W2 w3 := X.trans (by (repeat (first | exact X.refl _ | assumption | refine X.ext ?_ _ | refine X.alloc ?_ _ | refine X.drew ?_))) hx3; have hTb3 := at_x2' hTb hX3; obtain ⟨lt3, ct3, _⟩ := Bx.out ⟨_, hTb3⟩; have d3 := ct3 0; clear ct3; have hrow3 := own_fr hrow (X.fr (hX2.trans hX3) _)))
  all_goals
    have hXw : X w w3 := hXS.trans hX3
    have hX5 : X w w' := X.of_below ((hXw.below).grown hg' hXw.size (fun g hg => by have := (hrow3.lt g hg).1; omega))
    have hR5 := (hR.x hX3).grown hg' (own_ge hrow3 (by omega))
    have hT5 := (hT.x hX3).grown hg' (own_ge hrow3 (by omega))
    have hc4 := own_cap hrow'
    refine then_nameA (fun W4 hW4 => ?_)
    have hX4 : X w W4 := by rw [hW4]; exact X.setCell hX5 (by first | (simp; done) | (simp; omega)) _
    have hR4 : Bx W4 (w.heap.size + 2) #[.slice none 0 0] := by rw [hW4]; exact Bx.far hR5 (by simp; omega) _
    have hT4 : Bx W4 w.heap.size #[.slice a n c] := by rw [hW4]; exact Bx.far hT5 (by simp; omega) _
    have hTb4 : Bx W4 w1.heap.size #[.slice a' (n + 1) c'] := by rw [hW4]; have := heap_setCell_same w' w1.heap.size 0 _ _ (.slice a' (n + 1) c') hTb5; exact ⟨_, by simpa using this⟩
    have hFO : FilesO W4 W0.heap.size a' (n + 1) c' (l ++ [f]) := by
      rw [hW4]
      refine ⟨vs ++ [(f, .slice rb bn rcb)], by rw [List.map_append, ← Hv.out.1]; rfl, by rw [List.length_append, ← Hl.out]; rfl, ?_, ?_, ?_⟩
      · rw [List.flatMap_append]
        exact own_set_far hrow' hTb5 (by decide) _ _
      · refine List.pairwise_append.2 ⟨Hv.out.2.1, List.pairwise_singleton _ _, fun x hx y hy => ?_⟩
        rw [List.mem_singleton.1 hy]
        obtain ⟨ba', bc', e, ho⟩ := Hv.out.2.2 x hx
        rw [e]
        exact row_far (own_fr ho (hX2.fr _)) rfl hO3
      · intro x hx
        rcases List.mem_append.1 hx with hx | hx
        · obtain ⟨ba', bc', e, ho⟩ := Hv.out.2.2 x hx
          have ho3 := own_fr ho (X.fr (hX2.trans hX3) _)
          exact ⟨ba', bc', e, own_set_far (ho3.kept hg' (row_ne ho3 hrow3 (by decide))) hTb5 (by decide) _ _⟩
        · rw [List.mem_singleton.1 hx]
          have ho3 := own_less hO3 (show W0.heap.size ≤ _ by first | omega | (simp; omega))
          rw [Hbn.out] at ho3 ⊢
          exact ⟨rb, _, rfl, own_set_far (ho3.kept hg' (row_ne ho3 hrow3 (by decide))) hTb5 (by decide) _ _⟩
    clear hW4 hTb5 ct5 ft5 lt5 hT5 hR5 hX5
    obtain ⟨lt0, ct0, _⟩ := hT4.out
    have t0 := ct0 0
    clear ct0
    go_wp2_with fail
    refine (validTree_c l a n c B W4 (hF.mono (hX4.fr _))).mono ?_
    rintro _ w5 ⟨rfl, hx5⟩
    have hX6 := hX4.trans hx5
    clear t0 lt0
    cases h1 : treeB l
    · obtain rfl : ok = false := by rw [← HB.out, addB, h1]; rfl
      obtain rfl : V = [] := by rw [← HV.out, addL, HB.out]; rfl
      obtain ⟨lr, cr, fr⟩ := (hR4.x hx5).out
      have r0 := cr 0
      clear cr
      go_wp2
      have hRf := (Bx.set (hR4.x hx5) 0 (.slice none 0 0)).out.2.1 0
      refine bodyPost_ret (v := .tuple #[.agg #[.slice none 0 0], .bool false]) (by simp [results, Tryz.results41, go_sem, hRf]) rfl ?_
      exact ⟨none, 0, rfl, FilesO.nil _ _, X.setCell hX6 (by first | (simp; done) | (simp; omega)) _⟩
    · have hTb5 := hTb4.x hx5
      obtain ⟨lt1, ct1, _⟩ := hTb5.out
      have t1 := ct1 0
      clear ct1
      go_wp2_with fail
      refine (validTree_c (l ++ [f]) a' (n + 1) c' _ w5 ((hFO.at okL).mono (hx5.fr _))).mono ?_
      rintro _ w6 ⟨rfl, hx6⟩
      have hX7 := hX6.trans hx6
      clear t1 lt1
      have hR6 := (hR4.x hx5).x hx6
      obtain ⟨lr, cr, fr⟩ := hR6.out
      have r0 := cr 0
      clear cr
      cases h2 : treeB (l ++ [f])
      · obtain rfl : ok = false := by rw [← HB.out, addB, h1, h2]; rfl
        obtain rfl : V = [] := by rw [← HV.out, addL, HB.out]; rfl
        go_wp2
        have hRf := (Bx.set hR6 0 (.slice none 0 0)).out.2.1 0
        refine bodyPost_ret (v := .tuple #[.agg #[.slice none 0 0], .bool false]) (by simp [results, Tryz.results41, go_sem, hRf]) rfl ?_
        exact ⟨none, 0, rfl, FilesO.nil _ _, X.setCell hX7 (by first | (simp; done) | (simp; omega)) _⟩
      · obtain rfl : ok = true := by rw [← HB.out, addB, h1, h2]; rfl
        obtain rfl : V = l ++ [f] := by rw [← HV.out, addL, HB.out]; rfl
        have hVn : (l ++ [f]).length = n + 1 := by rw [List.length_append, ← Hl.out]; rfl
        obtain ⟨lt1, ct1, _⟩ := (hTb5.x hx6).out
        have t1 := ct1 0
        clear ct1
        have HVn := Lib.hid hVn
        clear hVn
        go_wp2
        have hRf := (Bx.set hR6 0 (.slice a' (n + 1) c')).out.2.1 0
        refine bodyPost_ret (v := .tuple #[.agg #[.slice a' (n + 1) c'], .bool true]) (by simp [results, Tryz.results41, go_sem, hRf]) rfl ?_
        exact ⟨a', c', by rw [HVn.out], by rw [HVn.out]; exact ((hFO.fr (X.fr (hx5.trans hx6) _)).fr (Fr.set (Fr.refl _ _) (.inr (by first | (simp; done) | (simp; omega))) _)).less (by omega), X.setCell hX7 (by first | (simp; done) | (simp; omega)) _⟩

end Go.Proofs.YtgjfjjhmgbemcaaGreatDoor
