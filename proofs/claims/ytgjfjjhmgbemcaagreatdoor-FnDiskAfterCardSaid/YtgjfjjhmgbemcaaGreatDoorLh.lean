/- Several texts in one: DkAdd, ToDE, WtD, DkRem, WtR. No condition but lengths. -/
import Derived.Test.YtgjfjjhmgbemcaaGreatDoorLd
import Derived.Test.YtgjfjjhmgbemcaaGreatDoorLg
import Derived.Test.YtgjfjjhmgbemcaaGreatDoorLa
import Derived.Test.YtgjfjjhmgbemcaaGreatDoorIa
import Derived.Test.YtgjfjjhmgbemcaaGreatDoorIe
namespace Go.Proofs.YtgjfjjhmgbemcaaGreatDoor
open Go.RowKit

def daB (l : List Fi) (kk : Int) (dl : List Di) (f : Fi) (t : Int) : Bool := diskB l kk dl && rangeB t 0 200 && addB l f && chB (addL l f) kk dl f.root f.pkg t
def daL (l : List Fi) (kk : Int) (dl : List Di) (f : Fi) (t : Int) : List Fi := if daB l kk dl f t then addL l f else []
def daK (l : List Fi) (kk : Int) (dl : List Di) (f : Fi) (t : Int) : Int := if daB l kk dl f t then kk + t else 0
def daD (l : List Fi) (kk : Int) (dl : List Di) (f : Fi) (t : Int) : List Di := if daB l kk dl f t then chD dl f.root f.pkg (kk + t) else []
theorem disk_parts {l : List Fi} {kk : Int} {dl : List Di} (h : diskB l kk dl = true) : treeB l = true ∧ rangeB kk 0 200 = true ∧ dl.length ≤ 20 := by
  unfold diskB dirsB at h
  simp only [Bool.and_eq_true, decide_eq_true_eq] at h
  exact ⟨h.1.1, h.1.2, h.2.2⟩
theorem tree_pkg {l : List Fi} (h : treeB l = true) {k : Nat} (hk : k < l.length) : pkgB (nth l k).pkg = true := by
  unfold treeB at h
  simp only [Bool.and_eq_true] at h
  have h1 := (allN_iff.1 h.1) k hk
  simp only [Bool.and_eq_true] at h1
  have h2 := h1.1
  unfold fileB at h2
  simp only [Bool.and_eq_true] at h2
  simp [h2]
theorem add_pkg {l : List Fi} {f : Fi} (h : addB l f = true) : pkgB f.pkg = true := by
  unfold addB at h
  simp only [Bool.and_eq_true] at h
  have := tree_pkg h.2 (k := l.length) (by rw [List.length_append]; simp)
  have e : nth (l ++ [f]) l.length = f := by
    have := nth_append_right (l := l) (m := [f]) (k := 0)
    rw [Nat.add_zero] at this
    rw [this]; rfl
  rwa [e] at this
theorem FilesE.lessB {w : World} {B B' E n c : Nat} {a : Option Addr} {l : List Fi} (h : FilesE w B E a n c l) (hB : B' ≤ B) : FilesE w B' E a n c l := by
  obtain ⟨vs, e, h1, h2, hs, h3, h4, h5⟩ := h
  exact ⟨vs, e, h1, own_less h2 hB, hs, fun x hm => let ⟨ba, bc, e, ho⟩ := h3 x hm; ⟨ba, bc, e, own_less ho hB⟩, h4, h5⟩
theorem okL_add {l : List Fi} {f : Fi} {bn : Nat} (h : OkL l) (hl : l.length + 1 ≤ 2097152) (hok : Okf f) (h1 : bn = f.body.length) (h2 : bn ≤ 2097152) (hs : ∀ s ∈ f.body, Oks s) (ha : addB l f = true) : OkL (addL l f) := by
  rw [addL, if_pos ha]
  exact okL_snoc h hl hok (by omega) hs
set_option maxRecDepth 100000 in
set_option maxHeartbeats 4000000 in
theorem DiskAdd_i (l : List Fi) (a : Option Addr) (n c : Nat) (kk : Int) (dl : List Di) (da : Option Addr) (dn dc B : Nat) (f : Fi) (ba : Option Addr) (bn bc Bf : Nat) (ticks : Int) (w : World) (hF : FilesAt w B a n l) (hD : DirsAt w B da dn dl) (hn1 : n + 1 ≤ 2097152) (hok : Okf f) (hS : StmtsAt w Bf ba bn f.body) (hnc : n ≤ c) (hdc : dn ≤ dc) (hG : Gm w) :
    Calls Tryz.prog 13 #[.agg #[.slice a n c, .int .i64 kk, .slice da dn dc], .agg #[.int .i64 (f).root, .string ⟨(f).pkg.toArray⟩, .string ⟨(f).name.toArray⟩, .bool (f).init, .int .i64 (f).stamp, .slice ba bn bc], .int .i64 ticks] w fun e w' => ∃ v, e = .returned (.tuple #[v, .bool (daB l kk dl f ticks)]) ∧ DkO w' w.heap.size v (daL l kk dl f ticks) (daK l kk dl f ticks) (daD l kk dl f ticks) ∧ X w w' := by
  have Hdl := Lib.hid hD.len.1
  go_enter Tryz.func13, Tryz.ntmps13
  go_wp2_with fail
  refine calls_name (fun W0 hW0 => ?_)
  obtain ⟨hD0, hF0, hR0, hX0⟩ := bx3 hW0
  have hs0 : W0.heap.size = w.heap.size + 3 := by rw [hW0]; simp
  clear hW0
  refine (ValidDisk_i l a n c kk dl da dn dc B W0 (hF.mono (hX0.fr _)) hnc (hD.mono (hX0.fr _)) hdc (hG.mono hX0)).mono ?_
  rintro _ w1 ⟨rfl, hx1⟩
  have hX1 := hX0.trans hx1
  cases h1 : diskB l kk dl
  · obtain ⟨lr, cr, fr⟩ := (hR0.x hx1).out
    have r0 := cr 0
    have r1 := cr 1
    have r2 := cr 2
    clear cr
    go_wp2
    obtain ⟨_, c9, _⟩ := (Bx.set (Bx.set (Bx.set (hR0.x hx1) 0 (.slice none 0 0)) 1 (.int .i64 0)) 2 (.slice none 0 0)).out
    have q0 := c9 0
    have q1 := c9 1
    have q2 := c9 2
    clear c9
    refine bodyPost_ret (v := .tuple #[.agg #[.slice none 0 0, .int .i64 0, .slice none 0 0], .bool false]) (by simp [results, Tryz.results13, go_sem, Result.andThen, q0, q1, q2]) rfl ?_
    have hB : daB l kk dl f ticks = false := by simp [daB, h1]
    rw [hB, show daL l kk dl f ticks = [] from if_neg (by rw [hB]; simp), show daK l kk dl f ticks = 0 from if_neg (by rw [hB]; simp), show daD l kk dl f ticks = [] from if_neg (by rw [hB]; simp)]
    exact ⟨_, rfl, DkO.zero _ _ (X.size (x_set3 (b := w.heap.size + 2) (hX0.trans hx1) (by omega) _ _ _)), x_set3 (b := w.heap.size + 2) (hX0.trans hx1) (by omega) _ _ _⟩
  obtain ⟨htr, hkr, hdl20⟩ := disk_parts h1
  by_cases hlt : ticks < 0
  · have h2 : rangeB ticks 0 200 = false := by rw [Bool.eq_false_iff, Ne, rangeB_iff]; omega
    obtain ⟨lr, cr, fr⟩ := (hR0.x hx1).out
    have r0 := cr 0
    have r1 := cr 1
    have r2 := cr 2
    clear cr
    go_wp2
    obtain ⟨_, c9, _⟩ := (Bx.set (Bx.set (Bx.set (hR0.x hx1) 0 (.slice none 0 0)) 1 (.int .i64 0)) 2 (.slice none 0 0)).out
    have q0 := c9 0
    have q1 := c9 1
    have q2 := c9 2
    clear c9
    refine bodyPost_ret (v := .tuple #[.agg #[.slice none 0 0, .int .i64 0, .slice none 0 0], .bool false]) (by simp [results, Tryz.results13, go_sem, Result.andThen, q0, q1, q2]) rfl ?_
    have hB : daB l kk dl f ticks = false := by simp [daB, h1, h2]
    rw [hB, show daL l kk dl f ticks = [] from if_neg (by rw [hB]; simp), show daK l kk dl f ticks = 0 from if_neg (by rw [hB]; simp), show daD l kk dl f ticks = [] from if_neg (by rw [hB]; simp)]
    exact ⟨_, rfl, DkO.zero _ _ (X.size (x_set3 (b := w.heap.size + 2) (hX0.trans hx1) (by omega) _ _ _)), x_set3 (b := w.heap.size + 2) (hX0.trans hx1) (by omega) _ _ _⟩
  obtain ⟨ld, cd, fd⟩ := (hD0.x hx1).out
  have d0 := cd 0
  have d1 := cd 1
  have d2 := cd 2
  clear cd
  obtain ⟨lf, cf, ff⟩ := (hF0.x hx1).out
  have f0 := cf 0
  have f1 := cf 1
  have f2 := cf 2
  have f3 := cf 3
  have f4 := cf 4
  have f5 := cf 5
  clear cf
  go_wp2_with fail
  refine (AddFile_i l a n c B f ba bn bc Bf w1 (hF.mono (hX1.fr _)) hn1 hok (hS.mono (hX1.fr _)) hnc (hG.mono hX1)).mono ?_
  rintro _ w2 ⟨ta, tc, rfl, hO2, hx2⟩
  have hX2 := hX1.trans hx2
  have hx02 := hx1.trans hx2
  have htc : (addL l f).length ≤ tc := by obtain ⟨_, _, _, hr, _⟩ := hO2; exact own_cap hr
  clear d0 d1 d2 f0 f1 f2 f3 f4 f5 ld fd lf ff
  cases h3 : addB l f
  · go_upto_region 5 with fail
    refine wp_name (fun W3 hW3 => ?_)
    have hX3 : X w2 W3 := by rw [hW3]; (repeat (first | with_reducible exact X.refl _ | with_reducible assumption | with_reducible refine X.setCell ?_ (by first | (simp; done) | (simp; omega)) _ | with_reducible refine X.ext ?_ _ | with_reducible refine X.alloc ?_ _ | with_reducible refine X.drew ?_))
    clear hW3
    obtain ⟨lr, cr, fr⟩ := (hR0.x (hx02.trans hX3)).out
    have r0 := cr 0
    have r1 := cr 1
    have r2 := cr 2
    clear cr
    go_wp2
    obtain ⟨_, c9, _⟩ := (Bx.set (Bx.set (Bx.set (hR0.x (hx02.trans hX3)) 0 (.slice none 0 0)) 1 (.int .i64 0)) 2 (.slice none 0 0)).out
    have q0 := c9 0
    have q1 := c9 1
    have q2 := c9 2
    clear c9
    refine bodyPost_ret (v := .tuple #[.agg #[.slice none 0 0, .int .i64 0, .slice none 0 0], .bool false]) (by simp [results, Tryz.results13, go_sem, Result.andThen, q0, q1, q2]) rfl ?_
    have hB : daB l kk dl f ticks = false := by simp [daB, h1, h3]
    rw [hB, show daL l kk dl f ticks = [] from if_neg (by rw [hB]; simp), show daK l kk dl f ticks = 0 from if_neg (by rw [hB]; simp), show daD l kk dl f ticks = [] from if_neg (by rw [hB]; simp)]
    exact ⟨_, rfl, DkO.zero _ _ (X.size (x_set3 (b := w.heap.size + 2) (hX2.trans hX3) (by omega) _ _ _)), x_set3 (b := w.heap.size + 2) (hX2.trans hX3) (by omega) _ _ _⟩
  go_upto_region 6 with fail
  refine wp_name (fun W3 hW3 => ?_)
  have hTb : W3.heap[w2.heap.size]? = some (.cells #[.slice ta (addL l f).length tc] 35 (0, 0)) := by
    rw [hW3]
    first
      | exact heap_alloc_new _ _
      | (have := heap_setCell_same (w2.alloc (.cells #[.slice none 0 0] 35)) w2.heap.size 0 _ _ (.slice ta (addL l f).length tc) (heap_alloc_new _ _); simpa using this)
  have hX3 : X w2 W3 := by rw [hW3]; (repeat (first | with_reducible exact X.refl _ | with_reducible assumption | with_reducible refine X.setCell ?_ (by first | (simp; done) | (simp; omega)) _ | with_reducible refine X.ext ?_ _ | with_reducible refine X.alloc ?_ _ | with_reducible refine X.drew ?_))
  clear hW3
  have hx03 := hx02.trans hX3
  have hXS := hX2.trans hX3
  have hO3 := hO2.fr (hX3.fr _)
  have okA := okL_add hF.okL (by have := hF.len.1; omega) hok hS.1 hS.2.1 hS.2.2.1 h3
  obtain ⟨ld, cd, fd⟩ := (hD0.x hx03).out
  have d0 := cd 0
  have d1 := cd 1
  have d2 := cd 2
  clear cd
  obtain ⟨lf, cf, ff⟩ := (hF0.x hx03).out
  have f0 := cf 0
  have f1 := cf 1
  have f2 := cf 2
  have f3 := cf 3
  have f4 := cf 4
  have f5 := cf 5
  clear cf
  obtain ⟨lt, ct, ft⟩ := Bx.out ⟨_, hTb⟩
  have t0 := ct 0
  clear ct
  go_wp2_with fail
  refine (stamped_i (addL l f) ta a (addL l f).length tc n c kk ticks dl da dn dc _ B f (.slice ba bn bc) W3 (hO3.at okA) htc (hD.mono (hXS.fr _)) (by have := Hdl.out; omega) hkr (by omega) hok.1 (hG.mono hXS)).mono ?_
  rintro _ w4 ⟨v, rfl, hv0, hv1, hx4⟩
  have hx04 := hx03.trans hx4
  clear d0 d1 d2 f0 f1 f2 f3 f4 f5 ld fd lf ff lt ft t0
  cases h4 : chB (addL l f) kk dl f.root f.pkg ticks
  · obtain rfl := hv0 h4
    obtain ⟨lr, cr, fr⟩ := (hR0.x hx04).out
    have r0 := cr 0
    have r1 := cr 1
    have r2 := cr 2
    clear cr
    go_wp2
    obtain ⟨_, c9, _⟩ := (Bx.set (Bx.set (Bx.set (hR0.x hx04) 0 (.slice none 0 0)) 1 (.int .i64 0)) 2 (.slice none 0 0)).out
    have q0 := c9 0
    have q1 := c9 1
    have q2 := c9 2
    clear c9
    refine bodyPost_ret (v := .tuple #[.agg #[.slice none 0 0, .int .i64 0, .slice none 0 0], .bool false]) (by simp [results, Tryz.results13, go_sem, Result.andThen, q0, q1, q2]) rfl ?_
    have hB : daB l kk dl f ticks = false := by simp [daB, h1, h3, h4]
    rw [hB, show daL l kk dl f ticks = [] from if_neg (by rw [hB]; simp), show daK l kk dl f ticks = 0 from if_neg (by rw [hB]; simp), show daD l kk dl f ticks = [] from if_neg (by rw [hB]; simp)]
    exact ⟨_, rfl, DkO.zero _ _ (X.size (x_set3 (b := w.heap.size + 2) (hXS.trans hx4) (by omega) _ _ _)), x_set3 (b := w.heap.size + 2) (hXS.trans hx4) (by omega) _ _ _⟩
  have h2 : rangeB ticks 0 200 = true := by
    have := h4
    unfold chB at this
    exact (Bool.and_eq_true _ _ ▸ this).1
  obtain ⟨ra, rc, rfl, hO4⟩ := hv1 h4
  obtain ⟨lr, cr, fr⟩ := (hR0.x hx04).out
  have r0 := cr 0
  have r1 := cr 1
  have r2 := cr 2
  clear cr
  go_wp2
  obtain ⟨_, c9, _⟩ := (Bx.set (Bx.set (Bx.set (hR0.x hx04) 0 (.slice ta (addL l f).length tc)) 1 (.int .i64 (kk + ticks))) 2 (.slice ra (chD dl f.root f.pkg (kk + ticks)).length rc)).out
  have q0 := c9 0
  have q1 := c9 1
  have q2 := c9 2
  clear c9
  refine bodyPost_ret (v := .tuple #[.agg #[.slice ta (addL l f).length tc, .int .i64 (kk + ticks), .slice ra (chD dl f.root f.pkg (kk + ticks)).length rc], .bool true]) (by simp [results, Tryz.results13, go_sem, Result.andThen, q0, q1, q2]) rfl ?_
  have hB : daB l kk dl f ticks = true := by simp [daB, h1, h2, h3, h4]
  have hlb : w.heap.size + 2 < W0.heap.size := by omega
  have hs3 := hXS.size
  have hs4 := hx4.size
  have hz3 := hx03.size
  have hFr : Fr W0.heap.size w4 (((w4.setCell ⟨w.heap.size + 2, 0, none⟩ (.slice ta (addL l f).length tc)).setCell ⟨w.heap.size + 2, 1, none⟩ (.int .i64 (kk + ticks))).setCell ⟨w.heap.size + 2, 2, none⟩ (.slice ra (chD dl f.root f.pkg (kk + ticks)).length rc)) :=
    Fr.set (Fr.set (Fr.set (Fr.refl _ _) (.inr hlb) _) (.inr hlb) _) (.inr hlb) _
  rw [hB, show daL l kk dl f ticks = addL l f from if_pos hB, show daK l kk dl f ticks = kk + ticks from if_pos hB, show daD l kk dl f ticks = chD dl f.root f.pkg (kk + ticks) from if_pos hB]
  refine ⟨_, rfl, ⟨ta, tc, ra, rc, W3.heap.size, rfl, hs3, Nat.le_trans hs4 hFr.size, ?_, ?_⟩, x_set3 (b := w.heap.size + 2) (hXS.trans hx4) (by omega) _ _ _⟩
  · exact ((((hO3.less hx1.size).e).fr (hx4.fr _)).fr hFr).lessB hX0.size
  · exact hO4.fr (hFr.mono hz3)
set_option maxRecDepth 100000 in
set_option maxHeartbeats 4000000 in
theorem DiskAdd_s (l : List Fi) (a : Option Addr) (n c : Nat) (kk : Int) (dl : List Di) (da : Option Addr) (dn dc B : Nat) (f : Fi) (ba : Option Addr) (bn bc Bf : Nat) (ticks : Int) (w : World) (hF : FilesAt w B a n l) (hD : DirsAt w B da dn dl) (hn1 : n + 1 ≤ 2097152) (hok : Okf f) (hS : StmtsAt w Bf ba bn f.body)  :
    Calls Tryz.prog 10 #[.agg #[.slice a n c, .int .i64 kk, .slice da dn dc], .agg #[.int .i64 (f).root, .string ⟨(f).pkg.toArray⟩, .string ⟨(f).name.toArray⟩, .bool (f).init, .int .i64 (f).stamp, .slice ba bn bc], .int .i64 ticks] w fun e w' => ∃ v, e = .returned (.tuple #[v, .bool (daB l kk dl f ticks)]) ∧ DkO w' w.heap.size v (daL l kk dl f ticks) (daK l kk dl f ticks) (daD l kk dl f ticks) ∧ X w w' := by
  have Hdl := Lib.hid hD.len.1
  go_enter Tryz.func10, Tryz.ntmps10
  go_wp2_with fail
  refine calls_name (fun W0 hW0 => ?_)
  obtain ⟨hD0, hF0, hR0, hX0⟩ := bx3 hW0
  have hs0 : W0.heap.size = w.heap.size + 3 := by rw [hW0]; simp
  clear hW0
  refine (validDisk_c l a n c kk dl da dn dc B W0 (hF.mono (hX0.fr _)) (hD.mono (hX0.fr _))).mono ?_
  rintro _ w1 ⟨rfl, hx1⟩
  have hX1 := hX0.trans hx1
  cases h1 : diskB l kk dl
  · obtain ⟨lr, cr, fr⟩ := (hR0.x hx1).out
    have r0 := cr 0
    have r1 := cr 1
    have r2 := cr 2
    clear cr
    go_wp2
    obtain ⟨_, c9, _⟩ := (Bx.set (Bx.set (Bx.set (hR0.x hx1) 0 (.slice none 0 0)) 1 (.int .i64 0)) 2 (.slice none 0 0)).out
    have q0 := c9 0
    have q1 := c9 1
    have q2 := c9 2
    clear c9
    refine bodyPost_ret (v := .tuple #[.agg #[.slice none 0 0, .int .i64 0, .slice none 0 0], .bool false]) (by simp [results, Tryz.results10, go_sem, Result.andThen, q0, q1, q2]) rfl ?_
    have hB : daB l kk dl f ticks = false := by simp [daB, h1]
    rw [hB, show daL l kk dl f ticks = [] from if_neg (by rw [hB]; simp), show daK l kk dl f ticks = 0 from if_neg (by rw [hB]; simp), show daD l kk dl f ticks = [] from if_neg (by rw [hB]; simp)]
    exact ⟨_, rfl, DkO.zero _ _ (X.size (x_set3 (b := w.heap.size + 2) (hX0.trans hx1) (by omega) _ _ _)), x_set3 (b := w.heap.size + 2) (hX0.trans hx1) (by omega) _ _ _⟩
  obtain ⟨htr, hkr, hdl20⟩ := disk_parts h1
  cases h20 : rangeB ticks 0 200
  · have h2 := h20
    obtain ⟨lr, cr, fr⟩ := (hR0.x hx1).out
    have r0 := cr 0
    have r1 := cr 1
    have r2 := cr 2
    clear cr
    go_wp2_with (go_at_call 40; refine (inRange_c ticks 0 200 _).mono ?_; rintro _ _ ⟨rfl, rfl⟩; rw [h20])
    obtain ⟨_, c9, _⟩ := (Bx.set (Bx.set (Bx.set (hR0.x hx1) 0 (.slice none 0 0)) 1 (.int .i64 0)) 2 (.slice none 0 0)).out
    have q0 := c9 0
    have q1 := c9 1
    have q2 := c9 2
    clear c9
    refine bodyPost_ret (v := .tuple #[.agg #[.slice none 0 0, .int .i64 0, .slice none 0 0], .bool false]) (by simp [results, Tryz.results10, go_sem, Result.andThen, q0, q1, q2]) rfl ?_
    have hB : daB l kk dl f ticks = false := by simp [daB, h1, h2]
    rw [hB, show daL l kk dl f ticks = [] from if_neg (by rw [hB]; simp), show daK l kk dl f ticks = 0 from if_neg (by rw [hB]; simp), show daD l kk dl f ticks = [] from if_neg (by rw [hB]; simp)]
    exact ⟨_, rfl, DkO.zero _ _ (X.size (x_set3 (b := w.heap.size + 2) (hX0.trans hx1) (by omega) _ _ _)), x_set3 (b := w.heap.size + 2) (hX0.trans hx1) (by omega) _ _ _⟩
  obtain ⟨ld, cd, fd⟩ := (hD0.x hx1).out
  have d0 := cd 0
  have d1 := cd 1
  have d2 := cd 2
  clear cd
  obtain ⟨lf, cf, ff⟩ := (hF0.x hx1).out
  have f0 := cf 0
  have f1 := cf 1
  have f2 := cf 2
  have f3 := cf 3
  have f4 := cf 4
  have f5 := cf 5
  clear cf
  go_wp2_with (go_at_call 40; refine (inRange_c ticks 0 200 _).mono ?_; rintro _ _ ⟨rfl, rfl⟩; rw [h20])
  refine (AddFile_s l a n c B f ba bn bc Bf w1 (hF.mono (hX1.fr _)) hn1 hok (hS.mono (hX1.fr _))).mono ?_
  rintro _ w2 ⟨ta, tc, rfl, hO2, hx2⟩
  have hX2 := hX1.trans hx2
  have hx02 := hx1.trans hx2
  have htc : (addL l f).length ≤ tc := by obtain ⟨_, _, _, hr, _⟩ := hO2; exact own_cap hr
  clear d0 d1 d2 f0 f1 f2 f3 f4 f5 ld fd lf ff
  cases h3 : addB l f
  · go_upto_region 5 with fail
    refine wp_name (fun W3 hW3 => ?_)
    have hX3 : X w2 W3 := by rw [hW3]; (repeat (first | with_reducible exact X.refl _ | with_reducible assumption | with_reducible refine X.setCell ?_ (by first | (simp; done) | (simp; omega)) _ | with_reducible refine X.ext ?_ _ | with_reducible refine X.alloc ?_ _ | with_reducible refine X.drew ?_))
    clear hW3
    obtain ⟨lr, cr, fr⟩ := (hR0.x (hx02.trans hX3)).out
    have r0 := cr 0
    have r1 := cr 1
    have r2 := cr 2
    clear cr
    go_wp2
    obtain ⟨_, c9, _⟩ := (Bx.set (Bx.set (Bx.set (hR0.x (hx02.trans hX3)) 0 (.slice none 0 0)) 1 (.int .i64 0)) 2 (.slice none 0 0)).out
    have q0 := c9 0
    have q1 := c9 1
    have q2 := c9 2
    clear c9
    refine bodyPost_ret (v := .tuple #[.agg #[.slice none 0 0, .int .i64 0, .slice none 0 0], .bool false]) (by simp [results, Tryz.results10, go_sem, Result.andThen, q0, q1, q2]) rfl ?_
    have hB : daB l kk dl f ticks = false := by simp [daB, h1, h3]
    rw [hB, show daL l kk dl f ticks = [] from if_neg (by rw [hB]; simp), show daK l kk dl f ticks = 0 from if_neg (by rw [hB]; simp), show daD l kk dl f ticks = [] from if_neg (by rw [hB]; simp)]
    exact ⟨_, rfl, DkO.zero _ _ (X.size (x_set3 (b := w.heap.size + 2) (hX2.trans hX3) (by omega) _ _ _)), x_set3 (b := w.heap.size + 2) (hX2.trans hX3) (by omega) _ _ _⟩
  go_upto_region 6 with fail
  refine wp_name (fun W3 hW3 => ?_)
  have hTb : W3.heap[w2.heap.size]? = some (.cells #[.slice ta (addL l f).length tc] 35 (0, 0)) := by
    rw [hW3]
    first
      | exact heap_alloc_new _ _
      | (have := heap_setCell_same (w2.alloc (.cells #[.slice none 0 0] 35)) w2.heap.size 0 _ _ (.slice ta (addL l f).length tc) (heap_alloc_new _ _); simpa using this)
  have hX3 : X w2 W3 := by rw [hW3]; (repeat (first | with_reducible exact X.refl _ | with_reducible assumption | with_reducible refine X.setCell ?_ (by first | (simp; done) | (simp; omega)) _ | with_reducible refine X.ext ?_ _ | with_reducible refine X.alloc ?_ _ | with_reducible refine X.drew ?_))
  clear hW3
  have hx03 := hx02.trans hX3
  have hXS := hX2.trans hX3
  have hO3 := hO2.fr (hX3.fr _)
  have okA := okL_add hF.okL (by have := hF.len.1; omega) hok hS.1 hS.2.1 hS.2.2.1 h3
  obtain ⟨ld, cd, fd⟩ := (hD0.x hx03).out
  have d0 := cd 0
  have d1 := cd 1
  have d2 := cd 2
  clear cd
  obtain ⟨lf, cf, ff⟩ := (hF0.x hx03).out
  have f0 := cf 0
  have f1 := cf 1
  have f2 := cf 2
  have f3 := cf 3
  have f4 := cf 4
  have f5 := cf 5
  clear cf
  obtain ⟨lt, ct, ft⟩ := Bx.out ⟨_, hTb⟩
  have t0 := ct 0
  clear ct
  go_wp2_with fail
  refine (changed_s (addL l f) ta a (addL l f).length tc n c kk ticks f.root f.pkg dl da dn dc _ B W3 (hO3.at okA) (hD.mono (hXS.fr _)) (by have := Hdl.out; omega) hkr h20 (add_pkg h3)).mono ?_
  rintro _ w4 ⟨v, rfl, hv0, hv1, hx4⟩
  have hx04 := hx03.trans hx4
  clear d0 d1 d2 f0 f1 f2 f3 f4 f5 ld fd lf ff lt ft t0
  cases h4 : chB (addL l f) kk dl f.root f.pkg ticks
  · obtain rfl := hv0 h4
    obtain ⟨lr, cr, fr⟩ := (hR0.x hx04).out
    have r0 := cr 0
    have r1 := cr 1
    have r2 := cr 2
    clear cr
    go_wp2
    obtain ⟨_, c9, _⟩ := (Bx.set (Bx.set (Bx.set (hR0.x hx04) 0 (.slice none 0 0)) 1 (.int .i64 0)) 2 (.slice none 0 0)).out
    have q0 := c9 0
    have q1 := c9 1
    have q2 := c9 2
    clear c9
    refine bodyPost_ret (v := .tuple #[.agg #[.slice none 0 0, .int .i64 0, .slice none 0 0], .bool false]) (by simp [results, Tryz.results10, go_sem, Result.andThen, q0, q1, q2]) rfl ?_
    have hB : daB l kk dl f ticks = false := by simp [daB, h1, h3, h4]
    rw [hB, show daL l kk dl f ticks = [] from if_neg (by rw [hB]; simp), show daK l kk dl f ticks = 0 from if_neg (by rw [hB]; simp), show daD l kk dl f ticks = [] from if_neg (by rw [hB]; simp)]
    exact ⟨_, rfl, DkO.zero _ _ (X.size (x_set3 (b := w.heap.size + 2) (hXS.trans hx4) (by omega) _ _ _)), x_set3 (b := w.heap.size + 2) (hXS.trans hx4) (by omega) _ _ _⟩
  have h2 : rangeB ticks 0 200 = true := by
    have := h4
    unfold chB at this
    exact (Bool.and_eq_true _ _ ▸ this).1
  obtain ⟨ra, rc, rfl, hO4⟩ := hv1 h4
  obtain ⟨lr, cr, fr⟩ := (hR0.x hx04).out
  have r0 := cr 0
  have r1 := cr 1
  have r2 := cr 2
  clear cr
  go_wp2
  obtain ⟨_, c9, _⟩ := (Bx.set (Bx.set (Bx.set (hR0.x hx04) 0 (.slice ta (addL l f).length tc)) 1 (.int .i64 (kk + ticks))) 2 (.slice ra (chD dl f.root f.pkg (kk + ticks)).length rc)).out
  have q0 := c9 0
  have q1 := c9 1
  have q2 := c9 2
  clear c9
  refine bodyPost_ret (v := .tuple #[.agg #[.slice ta (addL l f).length tc, .int .i64 (kk + ticks), .slice ra (chD dl f.root f.pkg (kk + ticks)).length rc], .bool true]) (by simp [results, Tryz.results10, go_sem, Result.andThen, q0, q1, q2]) rfl ?_
  have hB : daB l kk dl f ticks = true := by simp [daB, h1, h2, h3, h4]
  have hlb : w.heap.size + 2 < W0.heap.size := by omega
  have hs3 := hXS.size
  have hs4 := hx4.size
  have hz3 := hx03.size
  have hFr : Fr W0.heap.size w4 (((w4.setCell ⟨w.heap.size + 2, 0, none⟩ (.slice ta (addL l f).length tc)).setCell ⟨w.heap.size + 2, 1, none⟩ (.int .i64 (kk + ticks))).setCell ⟨w.heap.size + 2, 2, none⟩ (.slice ra (chD dl f.root f.pkg (kk + ticks)).length rc)) :=
    Fr.set (Fr.set (Fr.set (Fr.refl _ _) (.inr hlb) _) (.inr hlb) _) (.inr hlb) _
  rw [hB, show daL l kk dl f ticks = addL l f from if_pos hB, show daK l kk dl f ticks = kk + ticks from if_pos hB, show daD l kk dl f ticks = chD dl f.root f.pkg (kk + ticks) from if_pos hB]
  refine ⟨_, rfl, ⟨ta, tc, ra, rc, W3.heap.size, rfl, hs3, Nat.le_trans hs4 hFr.size, ?_, ?_⟩, x_set3 (b := w.heap.size + 2) (hXS.trans hx4) (by omega) _ _ _⟩
  · exact ((((hO3.less hx1.size).e).fr (hx4.fr _)).fr hFr).lessB hX0.size
  · exact hO4.fr (hFr.mono hz3)

end Go.Proofs.YtgjfjjhmgbemcaaGreatDoor

namespace Go.Proofs.YtgjfjjhmgbemcaaGreatDoor
open Go.RowKit

end Go.Proofs.YtgjfjjhmgbemcaaGreatDoor

namespace Go.Proofs.YtgjfjjhmgbemcaaGreatDoor
open Go.RowKit

theorem wtD_le : ∀ (l : List Di), (∀ d ∈ l, d.names.length ≤ 0) → wtD l = 3 * l.length
  | [], _ => rfl
  | d :: l, h => by
    have h1 := h d List.mem_cons_self
    have h2 := wtD_le l (fun x hx => h x (List.mem_cons_of_mem _ hx))
    simp only [wtD, List.length_cons]
    omega
theorem wtF_le : ∀ (l : List Fi), (∀ f ∈ l, f.body.length ≤ 8) → wtF l ≤ 45 * l.length
  | [], _ => Nat.le_refl _
  | f :: l, h => by
    have h1 := h f List.mem_cons_self
    have h2 := wtF_le l (fun x hx => h x (List.mem_cons_of_mem _ hx))
    simp only [wtF, List.length_cons]
    omega
theorem tree_wt {l : List Fi} (h : treeB l = true) : wtF l ≤ 540 ∧ l.length ≤ 12 := by
  unfold treeB at h
  simp only [Bool.and_eq_true, decide_eq_true_eq] at h
  have hb : ∀ f ∈ l, f.body.length ≤ 8 := fun f hf => by
    obtain ⟨k, hk, rfl⟩ := List.getElem_of_mem hf
    have h1 := (allN_iff.1 h.1) k hk
    simp only [Bool.and_eq_true] at h1
    have h2 := h1.1
    rw [nth_eq hk] at h2
    unfold fileB bodyB at h2
    simp only [Bool.and_eq_true, decide_eq_true_eq] at h2
    omega
  have := wtF_le l hb
  omega
theorem disk_wt {l : List Fi} {kk : Int} {dl : List Di} (h : diskB l kk dl = true) : wtF l ≤ 540 ∧ l.length ≤ 12 ∧ wtD dl ≤ 60 ∧ dl.length ≤ 20 := by
  obtain ⟨h1, h2, h3⟩ := disk_parts h
  obtain ⟨h4, h5⟩ := tree_wt h1
  refine ⟨h4, h5, ?_, h3⟩
  unfold diskB dirsB at h
  simp only [Bool.and_eq_true] at h
  have hd : ∀ d ∈ dl, d.names.length ≤ 0 := fun d hd => by
    obtain ⟨k, hk, rfl⟩ := List.getElem_of_mem hd
    have h1 := (allN_iff.1 h.2.1) k hk
    rw [← nth_eq hk]
    unfold dirB at h1
    simp only [Bool.and_eq_true, decide_eq_true_eq] at h1
    omega
  have := wtD_le dl hd
  omega
theorem FilesE.far {w : World} {B E n c b : Nat} {a : Option Addr} {l : List Fi} {cs : Array Value} {t : TypeId} (h : FilesE w B E a n c l) (hb : w.heap[b]? = some (.cells cs t (0, 0))) (h1 : 44 ≠ t) (h2 : 148 ≠ t) (i : Nat) (u : Value) : FilesE (w.setCell ⟨b, i, none⟩ u) B E a n c l := by
  obtain ⟨vs, e, k1, k2, hs, k3, k4, k5⟩ := h
  exact ⟨vs, e, k1, own_set_far k2 hb h1 _ _, hs, fun x hm => let ⟨ba, bc, e, ho⟩ := k3 x hm; ⟨ba, bc, e, own_set_far ho hb h2 _ _⟩, k4, k5⟩
end Go.Proofs.YtgjfjjhmgbemcaaGreatDoor

namespace Go.Proofs.YtgjfjjhmgbemcaaGreatDoor
open Go.RowKit

def drB (l : List Fi) (kk : Int) (dl : List Di) (i t : Int) : Bool := diskB l kk dl && rangeB t 0 200 && remB l i && chB (remL l i) kk dl (nth l i.toNat).root (nth l i.toNat).pkg t
def drL (l : List Fi) (kk : Int) (dl : List Di) (i t : Int) : List Fi := if drB l kk dl i t then remL l i else []
def drK (l : List Fi) (kk : Int) (dl : List Di) (i t : Int) : Int := if drB l kk dl i t then kk + t else 0
def drD (l : List Fi) (kk : Int) (dl : List Di) (i t : Int) : List Di := if drB l kk dl i t then chD dl (nth l i.toNat).root (nth l i.toNat).pkg (kk + t) else []
theorem rem_sub (l : List Fi) (i : Int) : List.Sublist (remL l i) l := by
  unfold remL
  split
  · exact List.eraseIdx_sublist l _
  · exact List.nil_sublist l
theorem OkL.sublist {l m : List Fi} (h : OkL m) (hs : List.Sublist l m) : OkL l := ⟨Nat.le_trans hs.length_le h.1, fun f hf => h.2 f (hs.subset hf)⟩
def PostD (W : World) (B : Nat) (bb : Bool) (tv : Value) (st : Int) (dl : List Di) (x0 x1 x2 : Value) : Prop := (bb = false → x0 = .slice none 0 0 ∧ x1 = .int .i64 0 ∧ x2 = .slice none 0 0) ∧ (bb = true → x0 = tv ∧ x1 = .int .i64 st ∧ ∃ ra rc, x2 = .slice ra dl.length rc ∧ DirsO W B ra dl.length rc dl)
theorem PostD.less {W : World} {B B' : Nat} {bb : Bool} {tv : Value} {st : Int} {dl : List Di} {x0 x1 x2 : Value} (h : PostD W B bb tv st dl x0 x1 x2) (hB : B' ≤ B) : PostD W B' bb tv st dl x0 x1 x2 :=
  ⟨h.1, fun hb => let ⟨e0, e1, ra, rc, e2, ho⟩ := h.2 hb; ⟨e0, e1, ra, rc, e2, ho.less hB⟩⟩
theorem postD_of {W : World} {B : Nat} {bb : Bool} {tv v : Value} {st : Int} {dl : List Di} (h0 : bb = false → v = .agg #[.slice none 0 0, .int .i64 0, .slice none 0 0]) (h1 : bb = true → ∃ ra rc, v = .agg #[tv, .int .i64 st, .slice ra dl.length rc] ∧ DirsO W B ra dl.length rc dl) :
    ∃ x0 x1 x2, v = .agg #[x0, x1, x2] ∧ PostD W B bb tv st dl x0 x1 x2 := by
  cases bb
  · exact ⟨_, _, _, h0 rfl, fun _ => ⟨rfl, rfl, rfl⟩, fun h => Bool.noConfusion h⟩
  · obtain ⟨ra, rc, e, ho⟩ := h1 rfl
    exact ⟨_, _, _, e, fun h => Bool.noConfusion h, fun _ => ⟨rfl, rfl, ra, rc, rfl, ho⟩⟩
theorem PostD.shape {W : World} {B n c : Nat} {bb : Bool} {a : Option Addr} {st : Int} {dl : List Di} {x0 x1 x2 : Value} (h : PostD W B bb (.slice a n c) st dl x0 x1 x2) : ∃ a0 n0 c0 i1 a2 n2 c2, x0 = .slice a0 n0 c0 ∧ x1 = .int .i64 i1 ∧ x2 = .slice a2 n2 c2 := by
  cases bb
  · obtain ⟨e0, e1, e2⟩ := h.1 rfl
    exact ⟨_, _, _, _, _, _, _, e0, e1, e2⟩
  · obtain ⟨e0, e1, ra, rc, e2, _⟩ := h.2 rfl
    exact ⟨_, _, _, _, _, _, _, e0, e1, e2⟩
theorem rem_in {l : List Fi} {i : Int} (h : remB l i = true) : ∃ k : Nat, i = (k : Int) ∧ k < l.length := by
  unfold remB at h
  simp only [Bool.and_eq_true] at h
  have := rangeB_iff.1 h.2
  exact ⟨i.toNat, by omega, by omega⟩
set_option maxRecDepth 100000 in
set_option maxHeartbeats 4000000 in
theorem DiskRemove_i (l : List Fi) (a : Option Addr) (n c : Nat) (kk : Int) (dl : List Di) (da : Option Addr) (dn dc B : Nat) (i ticks : Int) (w : World) (hF : FilesAt w B a n l) (hD : DirsAt w B da dn dl) (hnc : n ≤ c) (hdc : dn ≤ dc) (hG : Gm w) :
    Calls Tryz.prog 20 #[.agg #[.slice a n c, .int .i64 kk, .slice da dn dc], .int .i64 i, .int .i64 ticks] w fun e w' => ∃ v, e = .returned (.tuple #[v, .bool (drB l kk dl i ticks)]) ∧ DkO w' w.heap.size v (drL l kk dl i ticks) (drK l kk dl i ticks) (drD l kk dl i ticks) ∧ X w w' := by
  have Hdl := Lib.hid hD.len.1
  have Hnl := Lib.hid hF.len.1
  go_enter Tryz.func20, Tryz.ntmps20
  go_wp2_with fail
  refine calls_name (fun W0 hW0 => ?_)
  obtain ⟨hD0, hR0, hX0⟩ := bx2 hW0
  have hs0 : w.heap.size + 1 < W0.heap.size := by rw [hW0]; simp
  clear hW0
  refine (ValidDisk_i l a n c kk dl da dn dc B W0 (hF.mono (hX0.fr _)) hnc (hD.mono (hX0.fr _)) hdc (hG.mono hX0)).mono ?_
  rintro _ w1 ⟨rfl, hx1⟩
  have hX1 := hX0.trans hx1
  cases h1 : diskB l kk dl
  · obtain ⟨lr, cr, fr⟩ := (hR0.x hx1).out
    have r0 := cr 0
    have r1 := cr 1
    have r2 := cr 2
    clear cr
    go_wp2
    obtain ⟨_, c9, _⟩ := (Bx.set (Bx.set (Bx.set (hR0.x hx1) 0 (.slice none 0 0)) 1 (.int .i64 0)) 2 (.slice none 0 0)).out
    have q0 := c9 0
    have q1 := c9 1
    have q2 := c9 2
    clear c9
    refine bodyPost_ret (v := .tuple #[.agg #[.slice none 0 0, .int .i64 0, .slice none 0 0], .bool false]) (by simp [results, Tryz.results20, go_sem, Result.andThen, q0, q1, q2]) rfl ?_
    have hB : drB l kk dl i ticks = false := by simp [drB, h1]
    rw [hB, show drL l kk dl i ticks = [] from if_neg (by rw [hB]; simp), show drK l kk dl i ticks = 0 from if_neg (by rw [hB]; simp), show drD l kk dl i ticks = [] from if_neg (by rw [hB]; simp)]
    exact ⟨_, rfl, DkO.zero _ _ (X.size (x_set3 (b := w.heap.size + 1) (hX0.trans hx1) (by omega) _ _ _)), x_set3 (b := w.heap.size + 1) (hX0.trans hx1) (by omega) _ _ _⟩
  obtain ⟨htr, hkr, hdl20⟩ := disk_parts h1
  by_cases hlt : ticks < 0
  · have h2 : rangeB ticks 0 200 = false := by rw [Bool.eq_false_iff, Ne, rangeB_iff]; omega
    obtain ⟨lr, cr, fr⟩ := (hR0.x hx1).out
    have r0 := cr 0
    have r1 := cr 1
    have r2 := cr 2
    clear cr
    go_wp2
    obtain ⟨_, c9, _⟩ := (Bx.set (Bx.set (Bx.set (hR0.x hx1) 0 (.slice none 0 0)) 1 (.int .i64 0)) 2 (.slice none 0 0)).out
    have q0 := c9 0
    have q1 := c9 1
    have q2 := c9 2
    clear c9
    refine bodyPost_ret (v := .tuple #[.agg #[.slice none 0 0, .int .i64 0, .slice none 0 0], .bool false]) (by simp [results, Tryz.results20, go_sem, Result.andThen, q0, q1, q2]) rfl ?_
    have hB : drB l kk dl i ticks = false := by simp [drB, h1, h2]
    rw [hB, show drL l kk dl i ticks = [] from if_neg (by rw [hB]; simp), show drK l kk dl i ticks = 0 from if_neg (by rw [hB]; simp), show drD l kk dl i ticks = [] from if_neg (by rw [hB]; simp)]
    exact ⟨_, rfl, DkO.zero _ _ (X.size (x_set3 (b := w.heap.size + 1) (hX0.trans hx1) (by omega) _ _ _)), x_set3 (b := w.heap.size + 1) (hX0.trans hx1) (by omega) _ _ _⟩
  obtain ⟨ld, cd, fd⟩ := (hD0.x hx1).out
  have d0 := cd 0
  have d1 := cd 1
  have d2 := cd 2
  clear cd
  go_wp2_with fail
  refine (RemoveFile_i l a n c B i w1 (hF.mono (hX1.fr _)) hnc (hG.mono hX1)).mono ?_
  rintro _ w2 ⟨ta, tc, rfl, hO2, hx2⟩
  have hX2 := hX1.trans hx2
  have hx02 := hx1.trans hx2
  have htc : (remL l i).length ≤ tc := by obtain ⟨_, _, _, hr, _⟩ := hO2; exact own_cap hr
  clear d0 d1 d2 ld fd
  cases h3 : remB l i
  · go_upto_region 5 with fail
    refine wp_name (fun W3 hW3 => ?_)
    have hX3 : X w2 W3 := by rw [hW3]; (repeat (first | with_reducible exact X.refl _ | with_reducible assumption | with_reducible refine X.setCell ?_ (by first | (simp; done) | (simp; omega)) _ | with_reducible refine X.ext ?_ _ | with_reducible refine X.alloc ?_ _ | with_reducible refine X.drew ?_))
    clear hW3
    obtain ⟨lr, cr, fr⟩ := (hR0.x (hx02.trans hX3)).out
    have r0 := cr 0
    have r1 := cr 1
    have r2 := cr 2
    clear cr
    go_wp2
    obtain ⟨_, c9, _⟩ := (Bx.set (Bx.set (Bx.set (hR0.x (hx02.trans hX3)) 0 (.slice none 0 0)) 1 (.int .i64 0)) 2 (.slice none 0 0)).out
    have q0 := c9 0
    have q1 := c9 1
    have q2 := c9 2
    clear c9
    refine bodyPost_ret (v := .tuple #[.agg #[.slice none 0 0, .int .i64 0, .slice none 0 0], .bool false]) (by simp [results, Tryz.results20, go_sem, Result.andThen, q0, q1, q2]) rfl ?_
    have hB : drB l kk dl i ticks = false := by simp [drB, h1, h3]
    rw [hB, show drL l kk dl i ticks = [] from if_neg (by rw [hB]; simp), show drK l kk dl i ticks = 0 from if_neg (by rw [hB]; simp), show drD l kk dl i ticks = [] from if_neg (by rw [hB]; simp)]
    exact ⟨_, rfl, DkO.zero _ _ (X.size (x_set3 (b := w.heap.size + 1) (hX2.trans hX3) (by omega) _ _ _)), x_set3 (b := w.heap.size + 1) (hX2.trans hX3) (by omega) _ _ _⟩
  go_upto_region 6 with fail
  refine wp_name (fun W3 hW3 => ?_)
  have hTb : W3.heap[w2.heap.size]? = some (.cells #[.slice ta (remL l i).length tc] 35 (0, 0)) := by
    rw [hW3]
    first
      | exact heap_alloc_new _ _
      | (have := heap_setCell_same (w2.alloc (.cells #[.slice none 0 0] 35)) w2.heap.size 0 _ _ (.slice ta (remL l i).length tc) (heap_alloc_new _ _); simpa using this)
  have hX3 : X w2 W3 := by rw [hW3]; (repeat (first | with_reducible exact X.refl _ | with_reducible assumption | with_reducible refine X.setCell ?_ (by first | (simp; done) | (simp; omega)) _ | with_reducible refine X.ext ?_ _ | with_reducible refine X.alloc ?_ _ | with_reducible refine X.drew ?_))
  clear hW3
  have hx03 := hx02.trans hX3
  have hXS := hX2.trans hX3
  have hO3 := hO2.fr (hX3.fr _)
  have okA := hF.okL.sublist (rem_sub l i)
  obtain ⟨k, rfl, hkl⟩ := rem_in h3
  have hkn : k < n := by have := Hnl.out; omega
  obtain ⟨b, off, ba, bn, bc, hae, hpl, hb, hpk, hbc, hSb, g0, g1, g2, g3, g4, g5⟩ := (hF.mono (hXS.fr _)).at_ hkn
  obtain rfl := hae
  have hD3 := hD0.x hx03
  have hT3 : Bx W3 w2.heap.size #[.slice ta (remL l (k : Int)).length tc] := ⟨_, hTb⟩
  have hR3 := hR0.x hx03
  refine wp_region_inv (fun L v W => (L 12 = false → X W3 W)
      ∧ (L 6 = true → L 4 = true)
      ∧ (L 7 = true → L 6 = true)
      ∧ (L 9 = true → L 0 = true ∧ L 1 = true ∧ L 7 = true)
      ∧ (L 10 = true → L 9 = true)
      ∧ (L 12 = true → L 10 = true)
      ∧ (L 0 = true → v 0 = .agg #[.slice (some ⟨b, off, none⟩) n c, .int .i64 kk, .slice da dn dc])
      ∧ (L 1 = true → v 1 = .agg #[.slice ta (remL l (k : Int)).length tc])
      ∧ (L 2 = true → v 2 = .pointer (some ⟨w.heap.size, 0, none⟩))
      ∧ (L 3 = true → v 3 = .pointer (some ⟨w.heap.size, 0, none⟩))
      ∧ (L 4 = true → v 4 = .slice (some ⟨b, off, none⟩) n c)
      ∧ (L 5 = true → v 5 = .int .i64 (k : Int))
      ∧ (L 6 = true → v 6 = .pointer (some ⟨b, off + k * 6, none⟩))
      ∧ (L 7 = true → v 7 = .agg #[.int .i64 ((nth l k)).root, .string ⟨((nth l k)).pkg.toArray⟩, .string ⟨((nth l k)).name.toArray⟩, .bool ((nth l k)).init, .int .i64 ((nth l k)).stamp, .slice ba bn bc])
      ∧ (L 8 = true → v 8 = .int .i64 ticks)
      ∧ (L 9 = true → L 12 = false → ∃ x0 x1 x2, v 9 = .tuple #[.agg #[x0, x1, x2], .bool (chB (remL l (k : Int)) kk dl (nth l k).root (nth l k).pkg ticks)] ∧ (L 10 = true → v 10 = .agg #[x0, x1, x2]) ∧ PostD W W3.heap.size (chB (remL l (k : Int)) kk dl (nth l k).root (nth l k).pkg ticks) (.slice ta (remL l (k : Int)).length tc) (kk + ticks) (chD dl (nth l k).root (nth l k).pkg (kk + ticks)) x0 x1 x2)
      ∧ (L 9 = true → ∃ x, v 9 = .tuple #[x, .bool (chB (remL l (k : Int)) kk dl (nth l k).root (nth l k).pkg ticks)])
      ∧ (L 11 = true → v 11 = .bool (chB (remL l (k : Int)) kk dl (nth l k).root (nth l k).pkg ticks))
      ∧ (L 13 = true → v 13 = .bool (chB (remL l (k : Int)) kk dl (nth l k).root (nth l k).pkg ticks))
      ∧ (L 12 = true → ∃ w4 x0 x1 x2, X W3 w4 ∧ PostD w4 W3.heap.size (chB (remL l (k : Int)) kk dl (nth l k).root (nth l k).pkg ticks) (.slice ta (remL l (k : Int)).length tc) (kk + ticks) (chD dl (nth l k).root (nth l k).pkg (kk + ticks)) x0 x1 x2 ∧ W = (((w4.setCell ⟨w.heap.size + 1, 0, none⟩ x0).setCell ⟨w.heap.size + 1, 1, none⟩ x1).setCell ⟨w.heap.size + 1, 2, none⟩ x2))) (by kernel_rfl) (by kernel_rfl) ?_ ?_ (l := [(28, 0), (29, 1), (30, 2), (31, 3), (32, 4), (33, 5), (34, 6), (35, 7), (36, 8), (37, 9), (38, 10), (39, 11), (7, 13)]) (by kernel_rfl) (n := 14) rfl ?_
  · intro v
    exact ⟨fun _ => (X.refl _).drew, fun h => Bool.noConfusion h, fun h => Bool.noConfusion h, fun h => Bool.noConfusion h, fun h => Bool.noConfusion h, fun h => Bool.noConfusion h, fun h => Bool.noConfusion h, fun h => Bool.noConfusion h, fun h => Bool.noConfusion h, fun h => Bool.noConfusion h, fun h => Bool.noConfusion h, fun h => Bool.noConfusion h, fun h => Bool.noConfusion h, fun h => Bool.noConfusion h, fun h => Bool.noConfusion h, fun h => Bool.noConfusion h, fun h => Bool.noConfusion h, fun h => Bool.noConfusion h, fun h => Bool.noConfusion h, fun h => Bool.noConfusion h⟩
  · intro i hi
    have hi' : i = 0 ∨ i = 1 ∨ i = 2 ∨ i = 3 ∨ i = 4 ∨ i = 5 ∨ i = 6 ∨ i = 7 ∨ i = 8 ∨ i = 9 ∨ i = 10 ∨ i = 11 ∨ i = 12 ∨ i = 13 := by
      have : i < 14 := hi
      omega
    clear hi
    rcases hi' with rfl | rfl | rfl | rfl | rfl | rfl | rfl | rfl | rfl | rfl | rfl | rfl | rfl | rfl
    all_goals
      intro o ho L v aa W hI hS hL hA K hK
      cases (show some _ = some o from ho)
      obtain ⟨xx, d6, d7, dC, dE, dS, v0, v1, v2, v3, v4, v5, v6, v7, v8, r9, w9, v11, v13, fin⟩ := hI
    · have a0 := hS.old 3 (by kernel_rfl) rfl
      have nS : L 12 = false := by rcases h : L 12 with _ | _; (· rfl); (· have := (dC (dE (dS h))).1; simp [hL] at this)
      obtain ⟨ld, cd, _⟩ := (hD3.x (xx nS)).out
      have d0 := cd 0
      have d1 := cd 1
      have d2 := cd 2
      clear cd
      clear hS ho hA
      go_simp
      exact hK _ W ⟨xx, d6, d7, fun h => ⟨rfl, (dC h).2.1, (dC h).2.2⟩, dE, dS, fun _ => rfl, v1, v2, v3, v4, v5, v6, v7, v8, r9, w9, v11, v13, fin⟩
    · have a0 := hS.old 8 (by kernel_rfl) rfl
      have nS : L 12 = false := by rcases h : L 12 with _ | _; (· rfl); (· have := (dC (dE (dS h))).2.1; simp [hL] at this)
      obtain ⟨lt, ct, _⟩ := (hT3.x (xx nS)).out
      have e := ct 0
      clear ct
      clear hS ho hA
      go_simp
      exact hK _ W ⟨xx, d6, d7, fun h => ⟨(dC h).1, rfl, (dC h).2.2⟩, dE, dS, v0, fun _ => rfl, v2, v3, v4, v5, v6, v7, v8, r9, w9, v11, v13, fin⟩
    · have a0 := hS.old 3 (by kernel_rfl) rfl
      clear hS ho hA
      go_simp
      exact hK _ W ⟨xx, d6, d7, dC, dE, dS, v0, v1, fun _ => rfl, v3, v4, v5, v6, v7, v8, r9, w9, v11, v13, fin⟩
    · have l2 : L 2 = true := hA ⟨2, .data⟩ (by simp) rfl
      have a2 := hS.get 2 30 rfl l2 (v2 l2)
      clear hS ho hA
      go_simp
      exact hK _ W ⟨xx, d6, d7, dC, dE, dS, v0, v1, v2, fun _ => rfl, v4, v5, v6, v7, v8, r9, w9, v11, v13, fin⟩
    · have l3 : L 3 = true := hA ⟨3, .data⟩ (by simp) rfl
      have a3 := hS.get 3 31 rfl l3 (v3 l3)
      have nS : L 12 = false := by rcases h : L 12 with _ | _; (· rfl); (· have := d6 (d7 (dC (dE (dS h))).2.2); simp [hL] at this)
      obtain ⟨ld, cd, _⟩ := (hD3.x (xx nS)).out
      have d0 := cd 0
      have d1 := cd 1
      have d2 := cd 2
      clear cd
      clear hS ho hA
      go_simp
      exact hK _ W ⟨xx, fun h => rfl, d7, dC, dE, dS, v0, v1, v2, v3, fun _ => rfl, v5, v6, v7, v8, r9, w9, v11, v13, fin⟩
    · have a0 := hS.old 1 (by kernel_rfl) rfl
      clear hS ho hA
      go_simp
      exact hK _ W ⟨xx, d6, d7, dC, dE, dS, v0, v1, v2, v3, v4, fun _ => rfl, v6, v7, v8, r9, w9, v11, v13, fin⟩
    · have l4 : L 4 = true := hA ⟨4, .data⟩ (by simp) rfl
      have l5 : L 5 = true := hA ⟨5, .data⟩ (by simp) rfl
      have a4 := hS.get 4 32 rfl l4 (v4 l4)
      have a5 := hS.get 5 33 rfl l5 (v5 l5)
      have k0 : ¬ ((k : Int) < 0) := by omega
      have k1 : (k : Int) < (n : Int) := by omega
      clear hS ho hA
      go_simp
      exact hK _ W ⟨xx, fun _ => l4, fun h => rfl, dC, dE, dS, v0, v1, v2, v3, v4, v5, fun _ => rfl, v7, v8, r9, w9, v11, v13, fin⟩
    · have l6 : L 6 = true := hA ⟨6, .data⟩ (by simp) rfl
      have a6 := hS.get 6 34 rfl l6 (v6 l6)
      have nS : L 12 = false := by rcases h : L 12 with _ | _; (· rfl); (· have := (dC (dE (dS h))).2.2; simp [hL] at this)
      have lR := Nat.lt_of_lt_of_le hb (xx nS).size
      have f0 := ((xx nS).cell (p := ⟨b, off + k * 6, none⟩) hb).trans g0
      have f1 := ((xx nS).cell (p := ⟨b, off + k * 6 + 1, none⟩) hb).trans g1
      have f2 := ((xx nS).cell (p := ⟨b, off + k * 6 + 2, none⟩) hb).trans g2
      have f3 := ((xx nS).cell (p := ⟨b, off + k * 6 + 3, none⟩) hb).trans g3
      have f4 := ((xx nS).cell (p := ⟨b, off + k * 6 + 4, none⟩) hb).trans g4
      have f5 := ((xx nS).cell (p := ⟨b, off + k * 6 + 5, none⟩) hb).trans g5
      clear hS ho hA
      go_simp
      exact hK _ W ⟨xx, d6, fun _ => l6, fun h => ⟨(dC h).1, (dC h).2.1, rfl⟩, dE, dS, v0, v1, v2, v3, v4, v5, v6, fun _ => rfl, v8, r9, w9, v11, v13, fin⟩
    · have a0 := hS.old 2 (by kernel_rfl) rfl
      clear hS ho hA
      go_simp
      exact hK _ W ⟨xx, d6, d7, dC, dE, dS, v0, v1, v2, v3, v4, v5, v6, v7, fun _ => rfl, r9, w9, v11, v13, fin⟩
    · have l0 : L 0 = true := hA ⟨0, .data⟩ (by simp) rfl
      have l1 : L 1 = true := hA ⟨1, .data⟩ (by simp) rfl
      have l7 : L 7 = true := hA ⟨7, .data⟩ (by simp) rfl
      have l8 : L 8 = true := hA ⟨8, .data⟩ (by simp) rfl
      have a0 := hS.get 0 28 rfl l0 (v0 l0)
      have a1 := hS.get 1 29 rfl l1 (v1 l1)
      have a7 := hS.get 7 35 rfl l7 (v7 l7)
      have a8 := hS.get 8 36 rfl l8 (v8 l8)
      have nS : L 12 = false := by rcases h : L 12 with _ | _; (· rfl); (· have := dE (dS h); simp [hL] at this)
      clear hS ho hA
      go_simp
      refine (stamped_i (remL l (k : Int)) ta (some ⟨b, off, none⟩) _ tc n c kk ticks dl da dn dc _ B (nth l k) (.slice ba bn bc) W ((hO3.at okA).mono ((xx nS).fr _)) htc (hD.mono ((hXS.trans (xx nS)).fr _)) (by have := Hdl.out; omega) hkr (by omega) hpk.1 (hG.mono (hXS.trans (xx nS)))).mono ?_
      rintro _ w' ⟨v', rfl, hv0, hv1, hx⟩
      obtain ⟨x0, x1, x2, rfl, hP⟩ := postD_of hv0 hv1
      exact hK _ w' ⟨fun h => (xx h).trans hx, d6, d7, fun _ => ⟨l0, l1, l7⟩, fun h => rfl, dS, v0, v1, v2, v3, v4, v5, v6, v7, v8, fun _ _ => ⟨x0, x1, x2, rfl, fun h => Bool.noConfusion (hL.symm.trans (dE h)), hP.less (xx nS).size⟩, fun _ => ⟨_, rfl⟩, v11, v13, fun h => Bool.noConfusion (nS.symm.trans h)⟩
    · have l9 : L 9 = true := hA ⟨9, .data⟩ (by simp) rfl
      have nS : L 12 = false := by rcases h : L 12 with _ | _; (· rfl); (· have := dS h; simp [hL] at this)
      obtain ⟨x0, x1, x2, e9, e10, hP⟩ := r9 l9 nS
      have aC := hS.get 9 37 rfl l9 e9
      clear hS ho hA
      go_simp
      exact hK _ W ⟨xx, d6, d7, dC, fun _ => l9, fun h => rfl, v0, v1, v2, v3, v4, v5, v6, v7, v8, fun _ _ => ⟨x0, x1, x2, e9, fun _ => rfl, hP⟩, w9, v11, v13, fin⟩
    · have l9 : L 9 = true := hA ⟨9, .data⟩ (by simp) rfl
      obtain ⟨x9, e9⟩ := w9 l9
      have aC := hS.get 9 37 rfl l9 e9
      clear hS ho hA
      go_simp
      exact hK _ W ⟨xx, d6, d7, dC, dE, dS, v0, v1, v2, v3, v4, v5, v6, v7, v8, r9, w9, fun _ => rfl, v13, fin⟩
    · have l10 : L 10 = true := hA ⟨10, .data⟩ (by simp) rfl
      have l9 := dE l10
      obtain ⟨x0, x1, x2, e9, e10, hP⟩ := r9 l9 hL
      obtain ⟨s0, s1, s2, s3, s4, s5, s6, rfl, rfl, rfl⟩ := hP.shape
      have aX := hS.get 10 38 rfl l10 (e10 l10)
      have aR := hS.old 6 (by kernel_rfl) rfl
      obtain ⟨lb, cb, fb0⟩ := (hR3.x (xx hL)).out
      have f0 := fb0 0
      have f1 := fb0 1
      have f2 := fb0 2
      have c0 := cb 0
      have c1 := cb 1
      have c2 := cb 2
      clear fb0 cb
      clear hS ho hA
      go_simp
      exact hK undef _ ⟨fun h => Bool.noConfusion h, d6, d7, dC, dE, fun _ => l10, v0, v1, v2, v3, v4, v5, v6, v7, v8, fun _ h => Bool.noConfusion h, w9, v11, v13, fun _ => ⟨W, _, _, _, xx hL, hP, rfl⟩⟩
    · have l11 : L 11 = true := hA ⟨11, .data⟩ (by simp) rfl
      have a11 := hS.get 11 39 rfl l11 (v11 l11)
      clear hS ho hA
      go_simp
      exact hK _ W ⟨xx, d6, d7, dC, dE, dS, v0, v1, v2, v3, v4, v5, v6, v7, v8, r9, w9, v11, fun _ => rfl, fin⟩
  intro v W hI
  obtain ⟨xx, d6, d7, dC, dE, dS, v0, v1, v2, v3, v4, v5, v6, v7, v8, r9, w9, v11, v13, fin⟩ := hI
  obtain ⟨w4, x0, x1, x2, hx4, hPP, hWe⟩ := fin rfl
  have e13 := v13 rfl
  clear xx fin r9 w9 d6 d7 dC dE dS v0 v1 v2 v3 v4 v5 v6 v7 v8 v11 v13
  simp only [putL, List.foldl, List.setIfInBounds_toArray, List.set_cons_zero, List.set_cons_succ, e13]
  clear e13
  subst hWe
  go_wp2
  obtain ⟨_, c9, _⟩ := (Bx.set (Bx.set (Bx.set (hR3.x hx4) 0 x0) 1 x1) 2 x2).out
  have q0 := c9 0
  have q1 := c9 1
  have q2 := c9 2
  clear c9
  refine bodyPost_ret (v := .tuple #[.agg #[x0, x1, x2], .bool (chB (remL l (k : Int)) kk dl (nth l k).root (nth l k).pkg ticks)]) (by simp [results, Tryz.results20, go_sem, Result.andThen, q0, q1, q2]) rfl ?_
  cases h4 : chB (remL l (k : Int)) kk dl (nth l k).root (nth l k).pkg ticks
  · obtain ⟨rfl, rfl, rfl⟩ := hPP.1 h4
    have hB : drB l kk dl (k : Int) ticks = false := by simp [drB, h4]
    rw [hB, show drL l kk dl (k : Int) ticks = [] from if_neg (by rw [hB]; simp), show drK l kk dl (k : Int) ticks = 0 from if_neg (by rw [hB]; simp), show drD l kk dl (k : Int) ticks = [] from if_neg (by rw [hB]; simp)]
    exact ⟨_, rfl, DkO.zero _ _ (X.size (x_set3 (b := w.heap.size + 1) (hXS.trans hx4) (by omega) _ _ _)), x_set3 (b := w.heap.size + 1) (hXS.trans hx4) (by omega) _ _ _⟩
  have h2 : rangeB ticks 0 200 = true := by
    have := h4
    unfold chB at this
    exact (Bool.and_eq_true _ _ ▸ this).1
  obtain ⟨rfl, rfl, ra, rc, rfl, hO4⟩ := hPP.2 h4
  have hB : drB l kk dl (k : Int) ticks = true := by simp [drB, h1, h2, h3, h4]
  have hlb : w.heap.size + 1 < W0.heap.size := by omega
  have hs3 := hXS.size
  have hs4 := hx4.size
  have hz3 := hx03.size
  have hFr : Fr W0.heap.size w4 (((w4.setCell ⟨w.heap.size + 1, 0, none⟩ (.slice ta (remL l (k : Int)).length tc)).setCell ⟨w.heap.size + 1, 1, none⟩ (.int .i64 (kk + ticks))).setCell ⟨w.heap.size + 1, 2, none⟩ (.slice ra (chD dl (nth l k).root (nth l k).pkg (kk + ticks)).length rc)) :=
    Fr.set (Fr.set (Fr.set (Fr.refl _ _) (.inr hlb) _) (.inr hlb) _) (.inr hlb) _
  rw [hB, show drL l kk dl (k : Int) ticks = remL l (k : Int) from if_pos hB, show drK l kk dl (k : Int) ticks = kk + ticks from if_pos hB, show drD l kk dl (k : Int) ticks = chD dl (nth l k).root (nth l k).pkg (kk + ticks) from if_pos hB]
  refine ⟨_, rfl, ⟨ta, tc, ra, rc, W3.heap.size, rfl, hs3, Nat.le_trans hs4 hFr.size, ?_, ?_⟩, x_set3 (b := w.heap.size + 1) (hXS.trans hx4) (by omega) _ _ _⟩
  · exact ((((hO3.less hx1.size).e).fr (hx4.fr _)).fr hFr).lessB hX0.size
  · exact hO4.fr (hFr.mono hz3)
set_option maxRecDepth 100000 in
set_option maxHeartbeats 4000000 in
theorem DiskRemove_s (l : List Fi) (a : Option Addr) (n c : Nat) (kk : Int) (dl : List Di) (da : Option Addr) (dn dc B : Nat) (i ticks : Int) (w : World) (hF : FilesAt w B a n l) (hD : DirsAt w B da dn dl)  :
    Calls Tryz.prog 19 #[.agg #[.slice a n c, .int .i64 kk, .slice da dn dc], .int .i64 i, .int .i64 ticks] w fun e w' => ∃ v, e = .returned (.tuple #[v, .bool (drB l kk dl i ticks)]) ∧ DkO w' w.heap.size v (drL l kk dl i ticks) (drK l kk dl i ticks) (drD l kk dl i ticks) ∧ X w w' := by
  have Hdl := Lib.hid hD.len.1
  have Hnl := Lib.hid hF.len.1
  go_enter Tryz.func19, Tryz.ntmps19
  go_wp2_with fail
  refine calls_name (fun W0 hW0 => ?_)
  obtain ⟨hD0, hR0, hX0⟩ := bx2 hW0
  have hs0 : w.heap.size + 1 < W0.heap.size := by rw [hW0]; simp
  clear hW0
  refine (validDisk_c l a n c kk dl da dn dc B W0 (hF.mono (hX0.fr _)) (hD.mono (hX0.fr _))).mono ?_
  rintro _ w1 ⟨rfl, hx1⟩
  have hX1 := hX0.trans hx1
  cases h1 : diskB l kk dl
  · obtain ⟨lr, cr, fr⟩ := (hR0.x hx1).out
    have r0 := cr 0
    have r1 := cr 1
    have r2 := cr 2
    clear cr
    go_wp2
    obtain ⟨_, c9, _⟩ := (Bx.set (Bx.set (Bx.set (hR0.x hx1) 0 (.slice none 0 0)) 1 (.int .i64 0)) 2 (.slice none 0 0)).out
    have q0 := c9 0
    have q1 := c9 1
    have q2 := c9 2
    clear c9
    refine bodyPost_ret (v := .tuple #[.agg #[.slice none 0 0, .int .i64 0, .slice none 0 0], .bool false]) (by simp [results, Tryz.results19, go_sem, Result.andThen, q0, q1, q2]) rfl ?_
    have hB : drB l kk dl i ticks = false := by simp [drB, h1]
    rw [hB, show drL l kk dl i ticks = [] from if_neg (by rw [hB]; simp), show drK l kk dl i ticks = 0 from if_neg (by rw [hB]; simp), show drD l kk dl i ticks = [] from if_neg (by rw [hB]; simp)]
    exact ⟨_, rfl, DkO.zero _ _ (X.size (x_set3 (b := w.heap.size + 1) (hX0.trans hx1) (by omega) _ _ _)), x_set3 (b := w.heap.size + 1) (hX0.trans hx1) (by omega) _ _ _⟩
  obtain ⟨htr, hkr, hdl20⟩ := disk_parts h1
  cases h20 : rangeB ticks 0 200
  · have h2 := h20
    obtain ⟨lr, cr, fr⟩ := (hR0.x hx1).out
    have r0 := cr 0
    have r1 := cr 1
    have r2 := cr 2
    clear cr
    go_wp2_with (go_at_call 40; refine (inRange_c ticks 0 200 _).mono ?_; rintro _ _ ⟨rfl, rfl⟩; rw [h20])
    obtain ⟨_, c9, _⟩ := (Bx.set (Bx.set (Bx.set (hR0.x hx1) 0 (.slice none 0 0)) 1 (.int .i64 0)) 2 (.slice none 0 0)).out
    have q0 := c9 0
    have q1 := c9 1
    have q2 := c9 2
    clear c9
    refine bodyPost_ret (v := .tuple #[.agg #[.slice none 0 0, .int .i64 0, .slice none 0 0], .bool false]) (by simp [results, Tryz.results19, go_sem, Result.andThen, q0, q1, q2]) rfl ?_
    have hB : drB l kk dl i ticks = false := by simp [drB, h1, h2]
    rw [hB, show drL l kk dl i ticks = [] from if_neg (by rw [hB]; simp), show drK l kk dl i ticks = 0 from if_neg (by rw [hB]; simp), show drD l kk dl i ticks = [] from if_neg (by rw [hB]; simp)]
    exact ⟨_, rfl, DkO.zero _ _ (X.size (x_set3 (b := w.heap.size + 1) (hX0.trans hx1) (by omega) _ _ _)), x_set3 (b := w.heap.size + 1) (hX0.trans hx1) (by omega) _ _ _⟩
  obtain ⟨ld, cd, fd⟩ := (hD0.x hx1).out
  have d0 := cd 0
  have d1 := cd 1
  have d2 := cd 2
  clear cd
  go_wp2_with (go_at_call 40; refine (inRange_c ticks 0 200 _).mono ?_; rintro _ _ ⟨rfl, rfl⟩; rw [h20])
  refine (RemoveFile_s l a n c B i w1 (hF.mono (hX1.fr _))).mono ?_
  rintro _ w2 ⟨ta, tc, rfl, hO2, hx2⟩
  have hX2 := hX1.trans hx2
  have hx02 := hx1.trans hx2
  have htc : (remL l i).length ≤ tc := by obtain ⟨_, _, _, hr, _⟩ := hO2; exact own_cap hr
  clear d0 d1 d2 ld fd
  cases h3 : remB l i
  · go_upto_region 5 with fail
    refine wp_name (fun W3 hW3 => ?_)
    have hX3 : X w2 W3 := by rw [hW3]; (repeat (first | with_reducible exact X.refl _ | with_reducible assumption | with_reducible refine X.setCell ?_ (by first | (simp; done) | (simp; omega)) _ | with_reducible refine X.ext ?_ _ | with_reducible refine X.alloc ?_ _ | with_reducible refine X.drew ?_))
    clear hW3
    obtain ⟨lr, cr, fr⟩ := (hR0.x (hx02.trans hX3)).out
    have r0 := cr 0
    have r1 := cr 1
    have r2 := cr 2
    clear cr
    go_wp2
    obtain ⟨_, c9, _⟩ := (Bx.set (Bx.set (Bx.set (hR0.x (hx02.trans hX3)) 0 (.slice none 0 0)) 1 (.int .i64 0)) 2 (.slice none 0 0)).out
    have q0 := c9 0
    have q1 := c9 1
    have q2 := c9 2
    clear c9
    refine bodyPost_ret (v := .tuple #[.agg #[.slice none 0 0, .int .i64 0, .slice none 0 0], .bool false]) (by simp [results, Tryz.results19, go_sem, Result.andThen, q0, q1, q2]) rfl ?_
    have hB : drB l kk dl i ticks = false := by simp [drB, h1, h3]
    rw [hB, show drL l kk dl i ticks = [] from if_neg (by rw [hB]; simp), show drK l kk dl i ticks = 0 from if_neg (by rw [hB]; simp), show drD l kk dl i ticks = [] from if_neg (by rw [hB]; simp)]
    exact ⟨_, rfl, DkO.zero _ _ (X.size (x_set3 (b := w.heap.size + 1) (hX2.trans hX3) (by omega) _ _ _)), x_set3 (b := w.heap.size + 1) (hX2.trans hX3) (by omega) _ _ _⟩
  go_upto_region 6 with fail
  refine wp_name (fun W3 hW3 => ?_)
  have hTb : W3.heap[w2.heap.size]? = some (.cells #[.slice ta (remL l i).length tc] 35 (0, 0)) := by
    rw [hW3]
    first
      | exact heap_alloc_new _ _
      | (have := heap_setCell_same (w2.alloc (.cells #[.slice none 0 0] 35)) w2.heap.size 0 _ _ (.slice ta (remL l i).length tc) (heap_alloc_new _ _); simpa using this)
  have hX3 : X w2 W3 := by rw [hW3]; (repeat (first | with_reducible exact X.refl _ | with_reducible assumption | with_reducible refine X.setCell ?_ (by first | (simp; done) | (simp; omega)) _ | with_reducible refine X.ext ?_ _ | with_reducible refine X.alloc ?_ _ | with_reducible refine X.drew ?_))
  clear hW3
  have hx03 := hx02.trans hX3
  have hXS := hX2.trans hX3
  have hO3 := hO2.fr (hX3.fr _)
  have okA := hF.okL.sublist (rem_sub l i)
  obtain ⟨k, rfl, hkl⟩ := rem_in h3
  have hkn : k < n := by have := Hnl.out; omega
  obtain ⟨b, off, ba, bn, bc, hae, hpl, hb, hpk, hbc, hSb, g0, g1, g2, g3, g4, g5⟩ := (hF.mono (hXS.fr _)).at_ hkn
  obtain rfl := hae
  have hD3 := hD0.x hx03
  have hT3 : Bx W3 w2.heap.size #[.slice ta (remL l (k : Int)).length tc] := ⟨_, hTb⟩
  have hR3 := hR0.x hx03
  refine wp_region_inv (fun L v W => (L 20 = false → X W3 W)
      ∧ (L 6 = true → L 4 = true)
      ∧ (L 7 = true → L 6 = true)
      ∧ (L 8 = true → L 7 = true)
      ∧ (L 13 = true → L 11 = true)
      ∧ (L 14 = true → L 13 = true)
      ∧ (L 15 = true → L 14 = true)
      ∧ (L 17 = true → L 0 = true ∧ L 1 = true ∧ L 8 = true ∧ L 15 = true)
      ∧ (L 18 = true → L 17 = true)
      ∧ (L 20 = true → L 18 = true)
      ∧ (L 0 = true → v 0 = .agg #[.slice (some ⟨b, off, none⟩) n c, .int .i64 kk, .slice da dn dc])
      ∧ (L 1 = true → v 1 = .agg #[.slice ta (remL l (k : Int)).length tc])
      ∧ (L 2 = true → v 2 = .pointer (some ⟨w.heap.size, 0, none⟩))
      ∧ (L 3 = true → v 3 = .pointer (some ⟨w.heap.size, 0, none⟩))
      ∧ (L 4 = true → v 4 = .slice (some ⟨b, off, none⟩) n c)
      ∧ (L 5 = true → v 5 = .int .i64 (k : Int))
      ∧ (L 6 = true → v 6 = .pointer (some ⟨b, off + k * 6, none⟩))
      ∧ (L 7 = true → v 7 = .pointer (some ⟨b, off + k * 6, none⟩))
      ∧ (L 8 = true → v 8 = .int .i64 (nth l k).root)
      ∧ (L 9 = true → v 9 = .pointer (some ⟨w.heap.size, 0, none⟩))
      ∧ (L 10 = true → v 10 = .pointer (some ⟨w.heap.size, 0, none⟩))
      ∧ (L 11 = true → v 11 = .slice (some ⟨b, off, none⟩) n c)
      ∧ (L 12 = true → v 12 = .int .i64 (k : Int))
      ∧ (L 13 = true → v 13 = .pointer (some ⟨b, off + k * 6, none⟩))
      ∧ (L 14 = true → v 14 = .pointer (some ⟨b, off + k * 6 + 1, none⟩))
      ∧ (L 15 = true → v 15 = .string ⟨((nth l k).pkg).toArray⟩)
      ∧ (L 16 = true → v 16 = .int .i64 ticks)
      ∧ (L 17 = true → L 20 = false → ∃ x0 x1 x2, v 17 = .tuple #[.agg #[x0, x1, x2], .bool (chB (remL l (k : Int)) kk dl (nth l k).root (nth l k).pkg ticks)] ∧ (L 18 = true → v 18 = .agg #[x0, x1, x2]) ∧ PostD W W3.heap.size (chB (remL l (k : Int)) kk dl (nth l k).root (nth l k).pkg ticks) (.slice ta (remL l (k : Int)).length tc) (kk + ticks) (chD dl (nth l k).root (nth l k).pkg (kk + ticks)) x0 x1 x2)
      ∧ (L 17 = true → ∃ x, v 17 = .tuple #[x, .bool (chB (remL l (k : Int)) kk dl (nth l k).root (nth l k).pkg ticks)])
      ∧ (L 19 = true → v 19 = .bool (chB (remL l (k : Int)) kk dl (nth l k).root (nth l k).pkg ticks))
      ∧ (L 21 = true → v 21 = .bool (chB (remL l (k : Int)) kk dl (nth l k).root (nth l k).pkg ticks))
      ∧ (L 20 = true → ∃ w4 x0 x1 x2, X W3 w4 ∧ PostD w4 W3.heap.size (chB (remL l (k : Int)) kk dl (nth l k).root (nth l k).pkg ticks) (.slice ta (remL l (k : Int)).length tc) (kk + ticks) (chD dl (nth l k).root (nth l k).pkg (kk + ticks)) x0 x1 x2 ∧ W = (((w4.setCell ⟨w.heap.size + 1, 0, none⟩ x0).setCell ⟨w.heap.size + 1, 1, none⟩ x1).setCell ⟨w.heap.size + 1, 2, none⟩ x2))) (by kernel_rfl) (by kernel_rfl) ?_ ?_ (l := [(29, 0), (30, 1), (31, 2), (32, 3), (33, 4), (34, 5), (35, 6), (36, 7), (37, 8), (38, 9), (39, 10), (40, 11), (41, 12), (42, 13), (43, 14), (44, 15), (45, 16), (46, 17), (47, 18), (48, 19), (7, 21)]) (by kernel_rfl) (n := 22) rfl ?_
  · intro v
    exact ⟨fun _ => (X.refl _).drew, fun h => Bool.noConfusion h, fun h => Bool.noConfusion h, fun h => Bool.noConfusion h, fun h => Bool.noConfusion h, fun h => Bool.noConfusion h, fun h => Bool.noConfusion h, fun h => Bool.noConfusion h, fun h => Bool.noConfusion h, fun h => Bool.noConfusion h, fun h => Bool.noConfusion h, fun h => Bool.noConfusion h, fun h => Bool.noConfusion h, fun h => Bool.noConfusion h, fun h => Bool.noConfusion h, fun h => Bool.noConfusion h, fun h => Bool.noConfusion h, fun h => Bool.noConfusion h, fun h => Bool.noConfusion h, fun h => Bool.noConfusion h, fun h => Bool.noConfusion h, fun h => Bool.noConfusion h, fun h => Bool.noConfusion h, fun h => Bool.noConfusion h, fun h => Bool.noConfusion h, fun h => Bool.noConfusion h, fun h => Bool.noConfusion h, fun h => Bool.noConfusion h, fun h => Bool.noConfusion h, fun h => Bool.noConfusion h, fun h => Bool.noConfusion h, fun h => Bool.noConfusion h⟩
  · intro i hi
    have hi' : i = 0 ∨ i = 1 ∨ i = 2 ∨ i = 3 ∨ i = 4 ∨ i = 5 ∨ i = 6 ∨ i = 7 ∨ i = 8 ∨ i = 9 ∨ i = 10 ∨ i = 11 ∨ i = 12 ∨ i = 13 ∨ i = 14 ∨ i = 15 ∨ i = 16 ∨ i = 17 ∨ i = 18 ∨ i = 19 ∨ i = 20 ∨ i = 21 := by
      have : i < 22 := hi
      omega
    clear hi
    rcases hi' with rfl | rfl | rfl | rfl | rfl | rfl | rfl | rfl | rfl | rfl | rfl | rfl | rfl | rfl | rfl | rfl | rfl | rfl | rfl | rfl | rfl | rfl
    all_goals
      intro o ho L v aa W hI hS hL hA K hK
      cases (show some _ = some o from ho)
      obtain ⟨xx, d6, d7, d8, d13, d14, d15, dC, dE, dS, v0, v1, v2, v3, v4, v5, v6, v7, v8, v9, v10, v11, v12, v13, v14, v15, v16, r9, w9, v19, v21, fin⟩ := hI
    · have a0 := hS.old 3 (by kernel_rfl) rfl
      have nS : L 20 = false := by rcases h : L 20 with _ | _; (· rfl); (· have := (dC (dE (dS h))).1; simp [hL] at this)
      obtain ⟨ld, cd, _⟩ := (hD3.x (xx nS)).out
      have d0 := cd 0
      have d1 := cd 1
      have d2 := cd 2
      clear cd
      clear hS ho hA
      go_simp
      exact hK _ W ⟨xx, d6, d7, d8, d13, d14, d15, fun h => ⟨rfl, (dC h).2.1, (dC h).2.2.1, (dC h).2.2.2⟩, dE, dS, fun _ => rfl, v1, v2, v3, v4, v5, v6, v7, v8, v9, v10, v11, v12, v13, v14, v15, v16, r9, w9, v19, v21, fin⟩
    · have a0 := hS.old 8 (by kernel_rfl) rfl
      have nS : L 20 = false := by rcases h : L 20 with _ | _; (· rfl); (· have := (dC (dE (dS h))).2.1; simp [hL] at this)
      obtain ⟨lt, ct, _⟩ := (hT3.x (xx nS)).out
      have e := ct 0
      clear ct
      clear hS ho hA
      go_simp
      exact hK _ W ⟨xx, d6, d7, d8, d13, d14, d15, fun h => ⟨(dC h).1, rfl, (dC h).2.2.1, (dC h).2.2.2⟩, dE, dS, v0, fun _ => rfl, v2, v3, v4, v5, v6, v7, v8, v9, v10, v11, v12, v13, v14, v15, v16, r9, w9, v19, v21, fin⟩
    · have a0 := hS.old 3 (by kernel_rfl) rfl
      clear hS ho hA
      go_simp
      exact hK _ W ⟨xx, d6, d7, d8, d13, d14, d15, dC, dE, dS, v0, v1, fun _ => rfl, v3, v4, v5, v6, v7, v8, v9, v10, v11, v12, v13, v14, v15, v16, r9, w9, v19, v21, fin⟩
    · have l2 : L 2 = true := hA ⟨2, .data⟩ (by simp) rfl
      have a2 := hS.get 2 31 rfl l2 (v2 l2)
      clear hS ho hA
      go_simp
      exact hK _ W ⟨xx, d6, d7, d8, d13, d14, d15, dC, dE, dS, v0, v1, v2, fun _ => rfl, v4, v5, v6, v7, v8, v9, v10, v11, v12, v13, v14, v15, v16, r9, w9, v19, v21, fin⟩
    · have l3 : L 3 = true := hA ⟨3, .data⟩ (by simp) rfl
      have a3 := hS.get 3 32 rfl l3 (v3 l3)
      have nS : L 20 = false := by rcases h : L 20 with _ | _; (· rfl); (· have := d6 (d7 (d8 (dC (dE (dS h))).2.2.1)); simp [hL] at this)
      obtain ⟨ld, cd, _⟩ := (hD3.x (xx nS)).out
      have d0 := cd 0
      have d1 := cd 1
      have d2 := cd 2
      clear cd
      clear hS ho hA
      go_simp
      exact hK _ W ⟨xx, fun h => rfl, d7, d8, d13, d14, d15, dC, dE, dS, v0, v1, v2, v3, fun _ => rfl, v5, v6, v7, v8, v9, v10, v11, v12, v13, v14, v15, v16, r9, w9, v19, v21, fin⟩
    · have a0 := hS.old 1 (by kernel_rfl) rfl
      clear hS ho hA
      go_simp
      exact hK _ W ⟨xx, d6, d7, d8, d13, d14, d15, dC, dE, dS, v0, v1, v2, v3, v4, fun _ => rfl, v6, v7, v8, v9, v10, v11, v12, v13, v14, v15, v16, r9, w9, v19, v21, fin⟩
    · have l4 : L 4 = true := hA ⟨4, .data⟩ (by simp) rfl
      have l5 : L 5 = true := hA ⟨5, .data⟩ (by simp) rfl
      have a4 := hS.get 4 33 rfl l4 (v4 l4)
      have a5 := hS.get 5 34 rfl l5 (v5 l5)
      have k0 : ¬ ((k : Int) < 0) := by omega
      have k1 : (k : Int) < (n : Int) := by omega
      clear hS ho hA
      go_simp
      exact hK _ W ⟨xx, fun _ => l4, fun h => rfl, d8, d13, d14, d15, dC, dE, dS, v0, v1, v2, v3, v4, v5, fun _ => rfl, v7, v8, v9, v10, v11, v12, v13, v14, v15, v16, r9, w9, v19, v21, fin⟩
    · have l6 : L 6 = true := hA ⟨6, .data⟩ (by simp) rfl
      have a6 := hS.get 6 35 rfl l6 (v6 l6)
      have k0 : ¬ ((k : Int) < 0) := by omega
      have k1 : (k : Int) < (n : Int) := by omega
      clear hS ho hA
      go_simp
      exact hK _ W ⟨xx, d6, fun _ => l6, fun h => rfl, d13, d14, d15, dC, dE, dS, v0, v1, v2, v3, v4, v5, v6, fun _ => rfl, v8, v9, v10, v11, v12, v13, v14, v15, v16, r9, w9, v19, v21, fin⟩
    · have l7 : L 7 = true := hA ⟨7, .data⟩ (by simp) rfl
      have a7 := hS.get 7 36 rfl l7 (v7 l7)
      have nS : L 20 = false := by rcases h : L 20 with _ | _; (· rfl); (· have := (dC (dE (dS h))).2.2.1; simp [hL] at this)
      have lR := Nat.lt_of_lt_of_le hb (xx nS).size
      have f0 := ((xx nS).cell (p := ⟨b, off + k * 6, none⟩) hb).trans g0
      have f1 := ((xx nS).cell (p := ⟨b, off + k * 6 + 1, none⟩) hb).trans g1
      have f2 := ((xx nS).cell (p := ⟨b, off + k * 6 + 2, none⟩) hb).trans g2
      have f3 := ((xx nS).cell (p := ⟨b, off + k * 6 + 3, none⟩) hb).trans g3
      have f4 := ((xx nS).cell (p := ⟨b, off + k * 6 + 4, none⟩) hb).trans g4
      have f5 := ((xx nS).cell (p := ⟨b, off + k * 6 + 5, none⟩) hb).trans g5
      clear hS ho hA
      go_simp
      exact hK _ W ⟨xx, d6, d7, fun _ => l7, d13, d14, d15, fun h => ⟨(dC h).1, (dC h).2.1, rfl, (dC h).2.2.2⟩, dE, dS, v0, v1, v2, v3, v4, v5, v6, v7, fun _ => rfl, v9, v10, v11, v12, v13, v14, v15, v16, r9, w9, v19, v21, fin⟩
    · have a0 := hS.old 3 (by kernel_rfl) rfl
      clear hS ho hA
      go_simp
      exact hK _ W ⟨xx, d6, d7, d8, d13, d14, d15, dC, dE, dS, v0, v1, v2, v3, v4, v5, v6, v7, v8, fun _ => rfl, v10, v11, v12, v13, v14, v15, v16, r9, w9, v19, v21, fin⟩
    · have l9 : L 9 = true := hA ⟨9, .data⟩ (by simp) rfl
      have a9 := hS.get 9 38 rfl l9 (v9 l9)
      clear hS ho hA
      go_simp
      exact hK _ W ⟨xx, d6, d7, d8, d13, d14, d15, dC, dE, dS, v0, v1, v2, v3, v4, v5, v6, v7, v8, v9, fun _ => rfl, v11, v12, v13, v14, v15, v16, r9, w9, v19, v21, fin⟩
    · have l10 : L 10 = true := hA ⟨10, .data⟩ (by simp) rfl
      have a10 := hS.get 10 39 rfl l10 (v10 l10)
      have nS : L 20 = false := by rcases h : L 20 with _ | _; (· rfl); (· have := d13 (d14 (d15 (dC (dE (dS h))).2.2.2)); simp [hL] at this)
      obtain ⟨ld, cd, _⟩ := (hD3.x (xx nS)).out
      have d0 := cd 0
      have d1 := cd 1
      have d2 := cd 2
      clear cd
      clear hS ho hA
      go_simp
      exact hK _ W ⟨xx, d6, d7, d8, fun h => rfl, d14, d15, dC, dE, dS, v0, v1, v2, v3, v4, v5, v6, v7, v8, v9, v10, fun _ => rfl, v12, v13, v14, v15, v16, r9, w9, v19, v21, fin⟩
    · have a0 := hS.old 1 (by kernel_rfl) rfl
      clear hS ho hA
      go_simp
      exact hK _ W ⟨xx, d6, d7, d8, d13, d14, d15, dC, dE, dS, v0, v1, v2, v3, v4, v5, v6, v7, v8, v9, v10, v11, fun _ => rfl, v13, v14, v15, v16, r9, w9, v19, v21, fin⟩
    · have l11 : L 11 = true := hA ⟨11, .data⟩ (by simp) rfl
      have l12 : L 12 = true := hA ⟨12, .data⟩ (by simp) rfl
      have a11 := hS.get 11 40 rfl l11 (v11 l11)
      have a12 := hS.get 12 41 rfl l12 (v12 l12)
      have k0 : ¬ ((k : Int) < 0) := by omega
      have k1 : (k : Int) < (n : Int) := by omega
      clear hS ho hA
      go_simp
      exact hK _ W ⟨xx, d6, d7, d8, fun _ => l11, fun h => rfl, d15, dC, dE, dS, v0, v1, v2, v3, v4, v5, v6, v7, v8, v9, v10, v11, v12, fun _ => rfl, v14, v15, v16, r9, w9, v19, v21, fin⟩
    · have l13 : L 13 = true := hA ⟨13, .data⟩ (by simp) rfl
      have a13 := hS.get 13 42 rfl l13 (v13 l13)
      clear hS ho hA
      go_simp
      exact hK _ W ⟨xx, d6, d7, d8, d13, fun _ => l13, fun h => rfl, dC, dE, dS, v0, v1, v2, v3, v4, v5, v6, v7, v8, v9, v10, v11, v12, v13, fun _ => rfl, v15, v16, r9, w9, v19, v21, fin⟩
    · have l14 : L 14 = true := hA ⟨14, .data⟩ (by simp) rfl
      have a14 := hS.get 14 43 rfl l14 (v14 l14)
      have nS : L 20 = false := by rcases h : L 20 with _ | _; (· rfl); (· have := (dC (dE (dS h))).2.2.2; simp [hL] at this)
      have lR := Nat.lt_of_lt_of_le hb (xx nS).size
      have f0 := ((xx nS).cell (p := ⟨b, off + k * 6, none⟩) hb).trans g0
      have f1 := ((xx nS).cell (p := ⟨b, off + k * 6 + 1, none⟩) hb).trans g1
      have f2 := ((xx nS).cell (p := ⟨b, off + k * 6 + 2, none⟩) hb).trans g2
      have f3 := ((xx nS).cell (p := ⟨b, off + k * 6 + 3, none⟩) hb).trans g3
      have f4 := ((xx nS).cell (p := ⟨b, off + k * 6 + 4, none⟩) hb).trans g4
      have f5 := ((xx nS).cell (p := ⟨b, off + k * 6 + 5, none⟩) hb).trans g5
      clear hS ho hA
      go_simp
      exact hK _ W ⟨xx, d6, d7, d8, d13, d14, fun _ => l14, fun h => ⟨(dC h).1, (dC h).2.1, (dC h).2.2.1, rfl⟩, dE, dS, v0, v1, v2, v3, v4, v5, v6, v7, v8, v9, v10, v11, v12, v13, v14, fun _ => rfl, v16, r9, w9, v19, v21, fin⟩
    · have a0 := hS.old 2 (by kernel_rfl) rfl
      clear hS ho hA
      go_simp
      exact hK _ W ⟨xx, d6, d7, d8, d13, d14, d15, dC, dE, dS, v0, v1, v2, v3, v4, v5, v6, v7, v8, v9, v10, v11, v12, v13, v14, v15, fun _ => rfl, r9, w9, v19, v21, fin⟩
    · have l0 : L 0 = true := hA ⟨0, .data⟩ (by simp) rfl
      have l1 : L 1 = true := hA ⟨1, .data⟩ (by simp) rfl
      have l8 : L 8 = true := hA ⟨8, .data⟩ (by simp) rfl
      have l15 : L 15 = true := hA ⟨15, .data⟩ (by simp) rfl
      have l16 : L 16 = true := hA ⟨16, .data⟩ (by simp) rfl
      have a0 := hS.get 0 29 rfl l0 (v0 l0)
      have a1 := hS.get 1 30 rfl l1 (v1 l1)
      have a8 := hS.get 8 37 rfl l8 (v8 l8)
      have a15 := hS.get 15 44 rfl l15 (v15 l15)
      have a16 := hS.get 16 45 rfl l16 (v16 l16)
      have nS : L 20 = false := by rcases h : L 20 with _ | _; (· rfl); (· have := dE (dS h); simp [hL] at this)
      clear hS ho hA
      go_simp
      refine (changed_s (remL l (k : Int)) ta (some ⟨b, off, none⟩) _ tc n c kk ticks (nth l k).root (nth l k).pkg dl da dn dc _ B W ((hO3.at okA).mono ((xx nS).fr _)) (hD.mono ((hXS.trans (xx nS)).fr _)) (by have := Hdl.out; omega) hkr h20 (tree_pkg htr hkl)).mono ?_
      rintro _ w' ⟨v', rfl, hv0, hv1, hx⟩
      obtain ⟨x0, x1, x2, rfl, hP⟩ := postD_of hv0 hv1
      exact hK _ w' ⟨fun h => (xx h).trans hx, d6, d7, d8, d13, d14, d15, fun _ => ⟨l0, l1, l8, l15⟩, fun h => rfl, dS, v0, v1, v2, v3, v4, v5, v6, v7, v8, v9, v10, v11, v12, v13, v14, v15, v16, fun _ _ => ⟨x0, x1, x2, rfl, fun h => Bool.noConfusion (hL.symm.trans (dE h)), hP.less (xx nS).size⟩, fun _ => ⟨_, rfl⟩, v19, v21, fun h => Bool.noConfusion (nS.symm.trans h)⟩
    · have l17 : L 17 = true := hA ⟨17, .data⟩ (by simp) rfl
      have nS : L 20 = false := by rcases h : L 20 with _ | _; (· rfl); (· have := dS h; simp [hL] at this)
      obtain ⟨x0, x1, x2, e9, e10, hP⟩ := r9 l17 nS
      have aC := hS.get 17 46 rfl l17 e9
      clear hS ho hA
      go_simp
      exact hK _ W ⟨xx, d6, d7, d8, d13, d14, d15, dC, fun _ => l17, fun h => rfl, v0, v1, v2, v3, v4, v5, v6, v7, v8, v9, v10, v11, v12, v13, v14, v15, v16, fun _ _ => ⟨x0, x1, x2, e9, fun _ => rfl, hP⟩, w9, v19, v21, fin⟩
    · have l17 : L 17 = true := hA ⟨17, .data⟩ (by simp) rfl
      obtain ⟨x9, e9⟩ := w9 l17
      have aC := hS.get 17 46 rfl l17 e9
      clear hS ho hA
      go_simp
      exact hK _ W ⟨xx, d6, d7, d8, d13, d14, d15, dC, dE, dS, v0, v1, v2, v3, v4, v5, v6, v7, v8, v9, v10, v11, v12, v13, v14, v15, v16, r9, w9, fun _ => rfl, v21, fin⟩
    · have l18 : L 18 = true := hA ⟨18, .data⟩ (by simp) rfl
      have l17 := dE l18
      obtain ⟨x0, x1, x2, e9, e10, hP⟩ := r9 l17 hL
      obtain ⟨s0, s1, s2, s3, s4, s5, s6, rfl, rfl, rfl⟩ := hP.shape
      have aX := hS.get 18 47 rfl l18 (e10 l18)
      have aR := hS.old 6 (by kernel_rfl) rfl
      obtain ⟨lb, cb, fb0⟩ := (hR3.x (xx hL)).out
      have f0 := fb0 0
      have f1 := fb0 1
      have f2 := fb0 2
      have c0 := cb 0
      have c1 := cb 1
      have c2 := cb 2
      clear fb0 cb
      clear hS ho hA
      go_simp
      exact hK undef _ ⟨fun h => Bool.noConfusion h, d6, d7, d8, d13, d14, d15, dC, dE, fun _ => l18, v0, v1, v2, v3, v4, v5, v6, v7, v8, v9, v10, v11, v12, v13, v14, v15, v16, fun _ h => Bool.noConfusion h, w9, v19, v21, fun _ => ⟨W, _, _, _, xx hL, hP, rfl⟩⟩
    · have l19 : L 19 = true := hA ⟨19, .data⟩ (by simp) rfl
      have a19 := hS.get 19 48 rfl l19 (v19 l19)
      clear hS ho hA
      go_simp
      exact hK _ W ⟨xx, d6, d7, d8, d13, d14, d15, dC, dE, dS, v0, v1, v2, v3, v4, v5, v6, v7, v8, v9, v10, v11, v12, v13, v14, v15, v16, r9, w9, v19, fun _ => rfl, fin⟩
  intro v W hI
  obtain ⟨xx, d6, d7, d8, d13, d14, d15, dC, dE, dS, v0, v1, v2, v3, v4, v5, v6, v7, v8, v9, v10, v11, v12, v13, v14, v15, v16, r9, w9, v19, v21, fin⟩ := hI
  obtain ⟨w4, x0, x1, x2, hx4, hPP, hWe⟩ := fin rfl
  have e13 := v21 rfl
  clear xx fin r9 w9 d6 d7 d8 d13 d14 d15 dC dE dS v0 v1 v2 v3 v4 v5 v6 v7 v8 v9 v10 v11 v12 v13 v14 v15 v16 v19 v21
  simp only [putL, List.foldl, List.setIfInBounds_toArray, List.set_cons_zero, List.set_cons_succ, e13]
  clear e13
  subst hWe
  go_wp2
  obtain ⟨_, c9, _⟩ := (Bx.set (Bx.set (Bx.set (hR3.x hx4) 0 x0) 1 x1) 2 x2).out
  have q0 := c9 0
  have q1 := c9 1
  have q2 := c9 2
  clear c9
  refine bodyPost_ret (v := .tuple #[.agg #[x0, x1, x2], .bool (chB (remL l (k : Int)) kk dl (nth l k).root (nth l k).pkg ticks)]) (by simp [results, Tryz.results19, go_sem, Result.andThen, q0, q1, q2]) rfl ?_
  cases h4 : chB (remL l (k : Int)) kk dl (nth l k).root (nth l k).pkg ticks
  · obtain ⟨rfl, rfl, rfl⟩ := hPP.1 h4
    have hB : drB l kk dl (k : Int) ticks = false := by simp [drB, h4]
    rw [hB, show drL l kk dl (k : Int) ticks = [] from if_neg (by rw [hB]; simp), show drK l kk dl (k : Int) ticks = 0 from if_neg (by rw [hB]; simp), show drD l kk dl (k : Int) ticks = [] from if_neg (by rw [hB]; simp)]
    exact ⟨_, rfl, DkO.zero _ _ (X.size (x_set3 (b := w.heap.size + 1) (hXS.trans hx4) (by omega) _ _ _)), x_set3 (b := w.heap.size + 1) (hXS.trans hx4) (by omega) _ _ _⟩
  have h2 : rangeB ticks 0 200 = true := by
    have := h4
    unfold chB at this
    exact (Bool.and_eq_true _ _ ▸ this).1
  obtain ⟨rfl, rfl, ra, rc, rfl, hO4⟩ := hPP.2 h4
  have hB : drB l kk dl (k : Int) ticks = true := by simp [drB, h1, h2, h3, h4]
  have hlb : w.heap.size + 1 < W0.heap.size := by omega
  have hs3 := hXS.size
  have hs4 := hx4.size
  have hz3 := hx03.size
  have hFr : Fr W0.heap.size w4 (((w4.setCell ⟨w.heap.size + 1, 0, none⟩ (.slice ta (remL l (k : Int)).length tc)).setCell ⟨w.heap.size + 1, 1, none⟩ (.int .i64 (kk + ticks))).setCell ⟨w.heap.size + 1, 2, none⟩ (.slice ra (chD dl (nth l k).root (nth l k).pkg (kk + ticks)).length rc)) :=
    Fr.set (Fr.set (Fr.set (Fr.refl _ _) (.inr hlb) _) (.inr hlb) _) (.inr hlb) _
  rw [hB, show drL l kk dl (k : Int) ticks = remL l (k : Int) from if_pos hB, show drK l kk dl (k : Int) ticks = kk + ticks from if_pos hB, show drD l kk dl (k : Int) ticks = chD dl (nth l k).root (nth l k).pkg (kk + ticks) from if_pos hB]
  refine ⟨_, rfl, ⟨ta, tc, ra, rc, W3.heap.size, rfl, hs3, Nat.le_trans hs4 hFr.size, ?_, ?_⟩, x_set3 (b := w.heap.size + 1) (hXS.trans hx4) (by omega) _ _ _⟩
  · exact ((((hO3.less hx1.size).e).fr (hx4.fr _)).fr hFr).lessB hX0.size
  · exact hO4.fr (hFr.mono hz3)

end Go.Proofs.YtgjfjjhmgbemcaaGreatDoor

namespace Go.Proofs.YtgjfjjhmgbemcaaGreatDoor
open Go.RowKit

end Go.Proofs.YtgjfjjhmgbemcaaGreatDoor
