/- DiskAdd, both sides: the walks. No condition but lengths. -/
import Derived.Test.YtgjfjjhmgbemcaaGreatDoorLd
import Derived.Test.YtgjfjjhmgbemcaaGreatDoorAdd
namespace Go.Proofs.YtgjfjjhmgbemcaaGreatDoor
open Go.RowKit

def daB (l : List Fi) (kk : Int) (dl : List Di) (f : Fi) (t : Int) : Bool := diskB l kk dl && rangeB t 0 200 && addB l f && chB (addL l f) kk dl f.root f.pkg t
def daL (l : List Fi) (kk : Int) (dl : List Di) (f : Fi) (t : Int) : List Fi := if daB l kk dl f t then addL l f else []
def daK (l : List Fi) (kk : Int) (dl : List Di) (f : Fi) (t : Int) : Int := if daB l kk dl f t then kk + t else 0
def daD (l : List Fi) (kk : Int) (dl : List Di) (f : Fi) (t : Int) : List Di := if daB l kk dl f t then chD dl f.root f.pkg (kk + t) else []
theorem disk_parts {l : List Fi} {kk : Int} {dl : List Di} (h : diskB l kk dl = true) : treeB l = true ∧ rangeB kk 0 200 = true ∧ dl.length ≤ 20 := by
  unfold diskB dirsB at h
  simp only [Bool.and_eq_true, decide_eq_true_eq] at h
  exact ⟨h.1.1, h.1.2, h.2.2⟩
theorem tree_pkg {l : List Fi} (h : treeB l = true) {k : Nat} (hk : k < l.length) : pkgB (nth l k).pkg = true := by
  unfold treeB at h
  simp only [Bool.and_eq_true] at h
  have h1 := (allN_iff.1 h.1) k hk
  simp only [Bool.and_eq_true] at h1
  have h2 := h1.1
  unfold fileB at h2
  simp only [Bool.and_eq_true] at h2
  simp [h2]
theorem add_pkg {l : List Fi} {f : Fi} (h : addB l f = true) : pkgB f.pkg = true := by
  unfold addB at h
  simp only [Bool.and_eq_true] at h
  have := tree_pkg h.2 (k := l.length) (by rw [List.length_append]; simp)
  have e : nth (l ++ [f]) l.length = f := by
    have := nth_append_right (l := l) (m := [f]) (k := 0)
    rw [Nat.add_zero] at this
    rw [this]; rfl
  rwa [e] at this
theorem FilesE.lessB {w : World} {B B' E n c : Nat} {a : Option Addr} {l : List Fi} (h : FilesE w B E a n c l) (hB : B' ≤ B) : FilesE w B' E a n c l := by
  obtain ⟨vs, e, h1, h2, hs, h3, h4, h5⟩ := h
  exact ⟨vs, e, h1, own_less h2 hB, hs, fun x hm => let ⟨ba, bc, e, ho⟩ := h3 x hm; ⟨ba, bc, e, own_less ho hB⟩, h4, h5⟩
theorem okL_add {l : List Fi} {f : Fi} {bn : Nat} (h : OkL l) (hl : l.length + 1 ≤ 2097152) (hok : Okf f) (h1 : bn = f.body.length) (h2 : bn ≤ 2097152) (hs : ∀ s ∈ f.body, Oks s) (ha : addB l f = true) : OkL (addL l f) := by
  rw [addL, if_pos ha]
  exact okL_snoc h hl hok (by omega) hs
set_option maxRecDepth 100000 in
set_option maxHeartbeats 4000000 in
theorem DiskAdd_i (l : List Fi) (a : Option Addr) (n c : Nat) (kk : Int) (dl : List Di) (da : Option Addr) (dn dc B : Nat) (f : Fi) (ba : Option Addr) (bn bc Bf : Nat) (ticks : Int) (w : World) (hF : FilesAt w B a n l) (hD : DirsAt w B da dn dl) (hn1 : n + 1 ≤ 2097152) (hok : Okf f) (hS : StmtsAt w Bf ba bn f.body) (hnc : n ≤ c) (hdc : dn ≤ dc) (hG : Gm w) :
    Calls Tryz.prog 13 #[.agg #[.slice a n c, .int .i64 kk, .slice da dn dc], .agg #[.int .i64 (f).root, .string ⟨(f).pkg.toArray⟩, .string ⟨(f).name.toArray⟩, .bool (f).init, .int .i64 (f).stamp, .slice ba bn bc], .int .i64 ticks] w fun e w' => ∃ v, e = .returned (.tuple #[v, .bool (daB l kk dl f ticks)]) ∧ DkO w' w.heap.size v (daL l kk dl f ticks) (daK l kk dl f ticks) (daD l kk dl f ticks) ∧ X w w' := by
  have Hdl := Lib.hid hD.len.1
  go_enter Tryz.func13, Tryz.ntmps13
  go_wp2_with fail
  refine calls_name (fun W0 hW0 => ?_)
  obtain ⟨hD0, hF0, hR0, hX0⟩ := bx3 hW0
  have hs0 : W0.heap.size = w.heap.size + 3 := by rw [hW0]; simp
  clear hW0
  refine (ValidDisk_i l a n c kk dl da dn dc B W0 (hF.mono (hX0.fr _)) hnc (hD.mono (hX0.fr _)) hdc (hG.mono hX0)).mono ?_
  rintro _ w1 ⟨rfl, hx1⟩
  have hX1 := hX0.trans hx1
  cases h1 : diskB l kk dl
  · obtain ⟨lr, cr, fr⟩ := (hR0.x hx1).out
    have r0 := cr 0
    have r1 := cr 1
    have r2 := cr 2
    clear cr
    go_wp2
    obtain ⟨_, c9, _⟩ := (Bx.set (Bx.set (Bx.set (hR0.x hx1) 0 (.slice none 0 0)) 1 (.int .i64 0)) 2 (.slice none 0 0)).out
    have q0 := c9 0
    have q1 := c9 1
    have q2 := c9 2
    clear c9
    refine bodyPost_ret (v := .tuple #[.agg #[.slice none 0 0, .int .i64 0, .slice none 0 0], .bool false]) (by simp [results, Tryz.results13, go_sem, Result.andThen, q0, q1, q2]) rfl ?_
    have hB : daB l kk dl f ticks = false := by simp [daB, h1]
    rw [hB, show daL l kk dl f ticks = [] from if_neg (by rw [hB]; simp), show daK l kk dl f ticks = 0 from if_neg (by rw [hB]; simp), show daD l kk dl f ticks = [] from if_neg (by rw [hB]; simp)]
    exact ⟨_, rfl, DkO.zero _ _ (X.size (x_set3 (b := w.heap.size + 2) (hX0.trans hx1) (by omega) _ _ _)), x_set3 (b := w.heap.size + 2) (hX0.trans hx1) (by omega) _ _ _⟩
  obtain ⟨htr, hkr, hdl20⟩ := disk_parts h1
  by_cases hlt : ticks < 0
  · have h2 : rangeB ticks 0 200 = false := by rw [Bool.eq_false_iff, Ne, rangeB_iff]; omega
    obtain ⟨lr, cr, fr⟩ := (hR0.x hx1).out
    have r0 := cr 0
    have r1 := cr 1
    have r2 := cr 2
    clear cr
    go_wp2
    obtain ⟨_, c9, _⟩ := (Bx.set (Bx.set (Bx.set (hR0.x hx1) 0 (.slice none 0 0)) 1 (.int .i64 0)) 2 (.slice none 0 0)).out
    have q0 := c9 0
    have q1 := c9 1
    have q2 := c9 2
    clear c9
    refine bodyPost_ret (v := .tuple #[.agg #[.slice none 0 0, .int .i64 0, .slice none 0 0], .bool false]) (by simp [results, Tryz.results13, go_sem, Result.andThen, q0, q1, q2]) rfl ?_
    have hB : daB l kk dl f ticks = false := by simp [daB, h1, h2]
    rw [hB, show daL l kk dl f ticks = [] from if_neg (by rw [hB]; simp), show daK l kk dl f ticks = 0 from if_neg (by rw [hB]; simp), show daD l kk dl f ticks = [] from if_neg (by rw [hB]; simp)]
    exact ⟨_, rfl, DkO.zero _ _ (X.size (x_set3 (b := w.heap.size + 2) (hX0.trans hx1) (by omega) _ _ _)), x_set3 (b := w.heap.size + 2) (hX0.trans hx1) (by omega) _ _ _⟩
  obtain ⟨ld, cd, fd⟩ := (hD0.x hx1).out
  have d0 := cd 0
  have d1 := cd 1
  have d2 := cd 2
  clear cd
  obtain ⟨lf, cf, ff⟩ := (hF0.x hx1).out
  have f0 := cf 0
  have f1 := cf 1
  have f2 := cf 2
  have f3 := cf 3
  have f4 := cf 4
  have f5 := cf 5
  clear cf
  go_wp2_with fail
  refine (AddFile_i l a n c B f ba bn bc Bf w1 (hF.mono (hX1.fr _)) hn1 hok (hS.mono (hX1.fr _)) hnc (hG.mono hX1)).mono ?_
  rintro _ w2 ⟨ta, tc, rfl, hO2, hx2⟩
  have hX2 := hX1.trans hx2
  have hx02 := hx1.trans hx2
  have htc : (addL l f).length ≤ tc := by obtain ⟨_, _, _, hr, _⟩ := hO2; exact own_cap hr
  clear d0 d1 d2 f0 f1 f2 f3 f4 f5 ld fd lf ff
  cases h3 : addB l f
  · go_upto_region 5 with fail
    refine wp_name (fun W3 hW3 => ?_)
    have hX3 : X w2 W3 := by rw [hW3]; (repeat (first | with_reducible exact X.refl _ | with_reducible assumption | with_reducible refine X.setCell ?_ (by first | (simp; done) | (simp; omega)) _ | with_reducible refine X.ext ?_ _ | with_reducible refine X.alloc ?_ _ | with_reducible refine X.drew ?_))
    clear hW3
    obtain ⟨lr, cr, fr⟩ := (hR0.x (hx02.trans hX3)).out
    have r0 := cr 0
    have r1 := cr 1
    have r2 := cr 2
    clear cr
    go_wp2
    obtain ⟨_, c9, _⟩ := (Bx.set (Bx.set (Bx.set (hR0.x (hx02.trans hX3)) 0 (.slice none 0 0)) 1 (.int .i64 0)) 2 (.slice none 0 0)).out
    have q0 := c9 0
    have q1 := c9 1
    have q2 := c9 2
    clear c9
    refine bodyPost_ret (v := .tuple #[.agg #[.slice none 0 0, .int .i64 0, .slice none 0 0], .bool false]) (by simp [results, Tryz.results13, go_sem, Result.andThen, q0, q1, q2]) rfl ?_
    have hB : daB l kk dl f ticks = false := by simp [daB, h1, h3]
    rw [hB, show daL l kk dl f ticks = [] from if_neg (by rw [hB]; simp), show daK l kk dl f ticks = 0 from if_neg (by rw [hB]; simp), show daD l kk dl f ticks = [] from if_neg (by rw [hB]; simp)]
    exact ⟨_, rfl, DkO.zero _ _ (X.size (x_set3 (b := w.heap.size + 2) (hX2.trans hX3) (by omega) _ _ _)), x_set3 (b := w.heap.size + 2) (hX2.trans hX3) (by omega) _ _ _⟩
  go_upto_region 6 with fail
  refine wp_name (fun W3 hW3 => ?_)
  have hTb : W3.heap[w2.heap.size]? = some (.cells #[.slice ta (addL l f).length tc] 35 (0, 0)) := by
    rw [hW3]
    first
      | exact heap_alloc_new _ _
      | (have := heap_setCell_same (w2.alloc (.cells #[.slice none 0 0] 35)) w2.heap.size 0 _ _ (.slice ta (addL l f).length tc) (heap_alloc_new _ _); simpa using this)
  have hX3 : X w2 W3 := by rw [hW3]; (repeat (first | with_reducible exact X.refl _ | with_reducible assumption | with_reducible refine X.setCell ?_ (by first | (simp; done) | (simp; omega)) _ | with_reducible refine X.ext ?_ _ | with_reducible refine X.alloc ?_ _ | with_reducible refine X.drew ?_))
  clear hW3
  have hx03 := hx02.trans hX3
  have hXS := hX2.trans hX3
  have hO3 := hO2.fr (hX3.fr _)
  have okA := okL_add hF.okL (by have := hF.len.1; omega) hok hS.1 hS.2.1 hS.2.2.1 h3
  obtain ⟨ld, cd, fd⟩ := (hD0.x hx03).out
  have d0 := cd 0
  have d1 := cd 1
  have d2 := cd 2
  clear cd
  obtain ⟨lf, cf, ff⟩ := (hF0.x hx03).out
  have f0 := cf 0
  have f1 := cf 1
  have f2 := cf 2
  have f3 := cf 3
  have f4 := cf 4
  have f5 := cf 5
  clear cf
  obtain ⟨lt, ct, ft⟩ := Bx.out ⟨_, hTb⟩
  have t0 := ct 0
  clear ct
  go_wp2_with fail
  refine (stamped_i (addL l f) ta a (addL l f).length tc n c kk ticks dl da dn dc _ B f (.slice ba bn bc) W3 (hO3.at okA) htc (hD.mono (hXS.fr _)) (by have := Hdl.out; omega) hkr (by omega) hok.1 (hG.mono hXS)).mono ?_
  rintro _ w4 ⟨v, rfl, hv0, hv1, hx4⟩
  have hx04 := hx03.trans hx4
  clear d0 d1 d2 f0 f1 f2 f3 f4 f5 ld fd lf ff lt ft t0
  cases h4 : chB (addL l f) kk dl f.root f.pkg ticks
  · obtain rfl := hv0 h4
    obtain ⟨lr, cr, fr⟩ := (hR0.x hx04).out
    have r0 := cr 0
    have r1 := cr 1
    have r2 := cr 2
    clear cr
    go_wp2
    obtain ⟨_, c9, _⟩ := (Bx.set (Bx.set (Bx.set (hR0.x hx04) 0 (.slice none 0 0)) 1 (.int .i64 0)) 2 (.slice none 0 0)).out
    have q0 := c9 0
    have q1 := c9 1
    have q2 := c9 2
    clear c9
    refine bodyPost_ret (v := .tuple #[.agg #[.slice none 0 0, .int .i64 0, .slice none 0 0], .bool false]) (by simp [results, Tryz.results13, go_sem, Result.andThen, q0, q1, q2]) rfl ?_
    have hB : daB l kk dl f ticks = false := by simp [daB, h1, h3, h4]
    rw [hB, show daL l kk dl f ticks = [] from if_neg (by rw [hB]; simp), show daK l kk dl f ticks = 0 from if_neg (by rw [hB]; simp), show daD l kk dl f ticks = [] from if_neg (by rw [hB]; simp)]
    exact ⟨_, rfl, DkO.zero _ _ (X.size (x_set3 (b := w.heap.size + 2) (hXS.trans hx4) (by omega) _ _ _)), x_set3 (b := w.heap.size + 2) (hXS.trans hx4) (by omega) _ _ _⟩
  have h2 : rangeB ticks 0 200 = true := by
    have := h4
    unfold chB at this
    exact (Bool.and_eq_true _ _ ▸ this).1
  obtain ⟨ra, rc, rfl, hO4⟩ := hv1 h4
  obtain ⟨lr, cr, fr⟩ := (hR0.x hx04).out
  have r0 := cr 0
  have r1 := cr 1
  have r2 := cr 2
  clear cr
  go_wp2
  obtain ⟨_, c9, _⟩ := (Bx.set (Bx.set (Bx.set (hR0.x hx04) 0 (.slice ta (addL l f).length tc)) 1 (.int .i64 (kk + ticks))) 2 (.slice ra (chD dl f.root f.pkg (kk + ticks)).length rc)).out
  have q0 := c9 0
  have q1 := c9 1
  have q2 := c9 2
  clear c9
  refine bodyPost_ret (v := .tuple #[.agg #[.slice ta (addL l f).length tc, .int .i64 (kk + ticks), .slice ra (chD dl f.root f.pkg (kk + ticks)).length rc], .bool true]) (by simp [results, Tryz.results13, go_sem, Result.andThen, q0, q1, q2]) rfl ?_
  have hB : daB l kk dl f ticks = true := by simp [daB, h1, h2, h3, h4]
  have hlb : w.heap.size + 2 < W0.heap.size := by omega
  have hs3 := hXS.size
  have hs4 := hx4.size
  have hz3 := hx03.size
  have hFr : Fr W0.heap.size w4 (((w4.setCell ⟨w.heap.size + 2, 0, none⟩ (.slice ta (addL l f).length tc)).setCell ⟨w.heap.size + 2, 1, none⟩ (.int .i64 (kk + ticks))).setCell ⟨w.heap.size + 2, 2, none⟩ (.slice ra (chD dl f.root f.pkg (kk + ticks)).length rc)) :=
    Fr.set (Fr.set (Fr.set (Fr.refl _ _) (.inr hlb) _) (.inr hlb) _) (.inr hlb) _
  rw [hB, show daL l kk dl f ticks = addL l f from if_pos hB, show daK l kk dl f ticks = kk + ticks from if_pos hB, show daD l kk dl f ticks = chD dl f.root f.pkg (kk + ticks) from if_pos hB]
  refine ⟨_, rfl, ⟨ta, tc, ra, rc, W3.heap.size, rfl, hs3, Nat.le_trans hs4 hFr.size, ?_, ?_⟩, x_set3 (b := w.heap.size + 2) (hXS.trans hx4) (by omega) _ _ _⟩
  · exact ((((hO3.less hx1.size).e).fr (hx4.fr _)).fr hFr).lessB hX0.size
  · exact hO4.fr (hFr.mono hz3)
set_option maxRecDepth 100000 in
set_option maxHeartbeats 4000000 in
theorem DiskAdd_s (l : List Fi) (a : Option Addr) (n c : Nat) (kk : Int) (dl : List Di) (da : Option Addr) (dn dc B : Nat) (f : Fi) (ba : Option Addr) (bn bc Bf : Nat) (ticks : Int) (w : World) (hF : FilesAt w B a n l) (hD : DirsAt w B da dn dl) (hn1 : n + 1 ≤ 2097152) (hok : Okf f) (hS : StmtsAt w Bf ba bn f.body)  :
    Calls Tryz.prog 10 #[.agg #[.slice a n c, .int .i64 kk, .slice da dn dc], .agg #[.int .i64 (f).root, .string ⟨(f).pkg.toArray⟩, .string ⟨(f).name.toArray⟩, .bool (f).init, .int .i64 (f).stamp, .slice ba bn bc], .int .i64 ticks] w fun e w' => ∃ v, e = .returned (.tuple #[v, .bool (daB l kk dl f ticks)]) ∧ DkO w' w.heap.size v (daL l kk dl f ticks) (daK l kk dl f ticks) (daD l kk dl f ticks) ∧ X w w' := by
  have Hdl := Lib.hid hD.len.1
  go_enter Tryz.func10, Tryz.ntmps10
  go_wp2_with fail
  refine calls_name (fun W0 hW0 => ?_)
  obtain ⟨hD0, hF0, hR0, hX0⟩ := bx3 hW0
  have hs0 : W0.heap.size = w.heap.size + 3 := by rw [hW0]; simp
  clear hW0
  refine (validDisk_c l a n c kk dl da dn dc B W0 (hF.mono (hX0.fr _)) (hD.mono (hX0.fr _))).mono ?_
  rintro _ w1 ⟨rfl, hx1⟩
  have hX1 := hX0.trans hx1
  cases h1 : diskB l kk dl
  · obtain ⟨lr, cr, fr⟩ := (hR0.x hx1).out
    have r0 := cr 0
    have r1 := cr 1
    have r2 := cr 2
    clear cr
    go_wp2
    obtain ⟨_, c9, _⟩ := (Bx.set (Bx.set (Bx.set (hR0.x hx1) 0 (.slice none 0 0)) 1 (.int .i64 0)) 2 (.slice none 0 0)).out
    have q0 := c9 0
    have q1 := c9 1
    have q2 := c9 2
    clear c9
    refine bodyPost_ret (v := .tuple #[.agg #[.slice none 0 0, .int .i64 0, .slice none 0 0], .bool false]) (by simp [results, Tryz.results10, go_sem, Result.andThen, q0, q1, q2]) rfl ?_
    have hB : daB l kk dl f ticks = false := by simp [daB, h1]
    rw [hB, show daL l kk dl f ticks = [] from if_neg (by rw [hB]; simp), show daK l kk dl f ticks = 0 from if_neg (by rw [hB]; simp), show daD l kk dl f ticks = [] from if_neg (by rw [hB]; simp)]
    exact ⟨_, rfl, DkO.zero _ _ (X.size (x_set3 (b := w.heap.size + 2) (hX0.trans hx1) (by omega) _ _ _)), x_set3 (b := w.heap.size + 2) (hX0.trans hx1) (by omega) _ _ _⟩
  obtain ⟨htr, hkr, hdl20⟩ := disk_parts h1
  cases h20 : rangeB ticks 0 200
  · have h2 := h20
    obtain ⟨lr, cr, fr⟩ := (hR0.x hx1).out
    have r0 := cr 0
    have r1 := cr 1
    have r2 := cr 2
    clear cr
    go_wp2_with (go_at_call 40; refine (inRange_c ticks 0 200 _).mono ?_; rintro _ _ ⟨rfl, rfl⟩; rw [h20])
    obtain ⟨_, c9, _⟩ := (Bx.set (Bx.set (Bx.set (hR0.x hx1) 0 (.slice none 0 0)) 1 (.int .i64 0)) 2 (.slice none 0 0)).out
    have q0 := c9 0
    have q1 := c9 1
    have q2 := c9 2
    clear c9
    refine bodyPost_ret (v := .tuple #[.agg #[.slice none 0 0, .int .i64 0, .slice none 0 0], .bool false]) (by simp [results, Tryz.results10, go_sem, Result.andThen, q0, q1, q2]) rfl ?_
    have hB : daB l kk dl f ticks = false := by simp [daB, h1, h2]
    rw [hB, show daL l kk dl f ticks = [] from if_neg (by rw [hB]; simp), show daK l kk dl f ticks = 0 from if_neg (by rw [hB]; simp), show daD l kk dl f ticks = [] from if_neg (by rw [hB]; simp)]
    exact ⟨_, rfl, DkO.zero _ _ (X.size (x_set3 (b := w.heap.size + 2) (hX0.trans hx1) (by omega) _ _ _)), x_set3 (b := w.heap.size + 2) (hX0.trans hx1) (by omega) _ _ _⟩
  obtain ⟨ld, cd, fd⟩ := (hD0.x hx1).out
  have d0 := cd 0
  have d1 := cd 1
  have d2 := cd 2
  clear cd
  obtain ⟨lf, cf, ff⟩ := (hF0.x hx1).out
  have f0 := cf 0
  have f1 := cf 1
  have f2 := cf 2
  have f3 := cf 3
  have f4 := cf 4
  have f5 := cf 5
  clear cf
  go_wp2_with (go_at_call 40; refine (inRange_c ticks 0 200 _).mono ?_; rintro _ _ ⟨rfl, rfl⟩; rw [h20])
  refine (AddFile_s l a n c B f ba bn bc Bf w1 (hF.mono (hX1.fr _)) hn1 hok (hS.mono (hX1.fr _))).mono ?_
  rintro _ w2 ⟨ta, tc, rfl, hO2, hx2⟩
  have hX2 := hX1.trans hx2
  have hx02 := hx1.trans hx2
  have htc : (addL l f).length ≤ tc := by obtain ⟨_, _, _, hr, _⟩ := hO2; exact own_cap hr
  clear d0 d1 d2 f0 f1 f2 f3 f4 f5 ld fd lf ff
  cases h3 : addB l f
  · go_upto_region 5 with fail
    refine wp_name (fun W3 hW3 => ?_)
    have hX3 : X w2 W3 := by rw [hW3]; (repeat (first | with_reducible exact X.refl _ | with_reducible assumption | with_reducible refine X.setCell ?_ (by first | (simp; done) | (simp; omega)) _ | with_reducible refine X.ext ?_ _ | with_reducible refine X.alloc ?_ _ | with_reducible refine X.drew ?_))
    clear hW3
    obtain ⟨lr, cr, fr⟩ := (hR0.x (hx02.trans hX3)).out
    have r0 := cr 0
    have r1 := cr 1
    have r2 := cr 2
    clear cr
    go_wp2
    obtain ⟨_, c9, _⟩ := (Bx.set (Bx.set (Bx.set (hR0.x (hx02.trans hX3)) 0 (.slice none 0 0)) 1 (.int .i64 0)) 2 (.slice none 0 0)).out
    have q0 := c9 0
    have q1 := c9 1
    have q2 := c9 2
    clear c9
    refine bodyPost_ret (v := .tuple #[.agg #[.slice none 0 0, .int .i64 0, .slice none 0 0], .bool false]) (by simp [results, Tryz.results10, go_sem, Result.andThen, q0, q1, q2]) rfl ?_
    have hB : daB l kk dl f ticks = false := by simp [daB, h1, h3]
    rw [hB, show daL l kk dl f ticks = [] from if_neg (by rw [hB]; simp), show daK l kk dl f ticks = 0 from if_neg (by rw [hB]; simp), show daD l kk dl f ticks = [] from if_neg (by rw [hB]; simp)]
    exact ⟨_, rfl, DkO.zero _ _ (X.size (x_set3 (b := w.heap.size + 2) (hX2.trans hX3) (by omega) _ _ _)), x_set3 (b := w.heap.size + 2) (hX2.trans hX3) (by omega) _ _ _⟩
  go_upto_region 6 with fail
  refine wp_name (fun W3 hW3 => ?_)
  have hTb : W3.heap[w2.heap.size]? = some (.cells #[.slice ta (addL l f).length tc] 35 (0, 0)) := by
    rw [hW3]
    first
      | exact heap_alloc_new _ _
      | (have := heap_setCell_same (w2.alloc (.cells #[.slice none 0 0] 35)) w2.heap.size 0 _ _ (.slice ta (addL l f).length tc) (heap_alloc_new _ _); simpa using this)
  have hX3 : X w2 W3 := by rw [hW3]; (repeat (first | with_reducible exact X.refl _ | with_reducible assumption | with_reducible refine X.setCell ?_ (by first | (simp; done) | (simp; omega)) _ | with_reducible refine X.ext ?_ _ | with_reducible refine X.alloc ?_ _ | with_reducible refine X.drew ?_))
  clear hW3
  have hx03 := hx02.trans hX3
  have hXS := hX2.trans hX3
  have hO3 := hO2.fr (hX3.fr _)
  have okA := okL_add hF.okL (by have := hF.len.1; omega) hok hS.1 hS.2.1 hS.2.2.1 h3
  obtain ⟨ld, cd, fd⟩ := (hD0.x hx03).out
  have d0 := cd 0
  have d1 := cd 1
  have d2 := cd 2
  clear cd
  obtain ⟨lf, cf, ff⟩ := (hF0.x hx03).out
  have f0 := cf 0
  have f1 := cf 1
  have f2 := cf 2
  have f3 := cf 3
  have f4 := cf 4
  have f5 := cf 5
  clear cf
  obtain ⟨lt, ct, ft⟩ := Bx.out ⟨_, hTb⟩
  have t0 := ct 0
  clear ct
  go_wp2_with fail
  refine (changed_s (addL l f) ta a (addL l f).length tc n c kk ticks f.root f.pkg dl da dn dc _ B W3 (hO3.at okA) (hD.mono (hXS.fr _)) (by have := Hdl.out; omega) hkr h20 (add_pkg h3)).mono ?_
  rintro _ w4 ⟨v, rfl, hv0, hv1, hx4⟩
  have hx04 := hx03.trans hx4
  clear d0 d1 d2 f0 f1 f2 f3 f4 f5 ld fd lf ff lt ft t0
  cases h4 : chB (addL l f) kk dl f.root f.pkg ticks
  · obtain rfl := hv0 h4
    obtain ⟨lr, cr, fr⟩ := (hR0.x hx04).out
    have r0 := cr 0
    have r1 := cr 1
    have r2 := cr 2
    clear cr
    go_wp2
    obtain ⟨_, c9, _⟩ := (Bx.set (Bx.set (Bx.set (hR0.x hx04) 0 (.slice none 0 0)) 1 (.int .i64 0)) 2 (.slice none 0 0)).out
    have q0 := c9 0
    have q1 := c9 1
    have q2 := c9 2
    clear c9
    refine bodyPost_ret (v := .tuple #[.agg #[.slice none 0 0, .int .i64 0, .slice none 0 0], .bool false]) (by simp [results, Tryz.results10, go_sem, Result.andThen, q0, q1, q2]) rfl ?_
    have hB : daB l kk dl f ticks = false := by simp [daB, h1, h3, h4]
    rw [hB, show daL l kk dl f ticks = [] from if_neg (by rw [hB]; simp), show daK l kk dl f ticks = 0 from if_neg (by rw [hB]; simp), show daD l kk dl f ticks = [] from if_neg (by rw [hB]; simp)]
    exact ⟨_, rfl, DkO.zero _ _ (X.size (x_set3 (b := w.heap.size + 2) (hXS.trans hx4) (by omega) _ _ _)), x_set3 (b := w.heap.size + 2) (hXS.trans hx4) (by omega) _ _ _⟩
  have h2 : rangeB ticks 0 200 = true := by
    have := h4
    unfold chB at this
    exact (Bool.and_eq_true _ _ ▸ this).1
  obtain ⟨ra, rc, rfl, hO4⟩ := hv1 h4
  obtain ⟨lr, cr, fr⟩ := (hR0.x hx04).out
  have r0 := cr 0
  have r1 := cr 1
  have r2 := cr 2
  clear cr
  go_wp2
  obtain ⟨_, c9, _⟩ := (Bx.set (Bx.set (Bx.set (hR0.x hx04) 0 (.slice ta (addL l f).length tc)) 1 (.int .i64 (kk + ticks))) 2 (.slice ra (chD dl f.root f.pkg (kk + ticks)).length rc)).out
  have q0 := c9 0
  have q1 := c9 1
  have q2 := c9 2
  clear c9
  refine bodyPost_ret (v := .tuple #[.agg #[.slice ta (addL l f).length tc, .int .i64 (kk + ticks), .slice ra (chD dl f.root f.pkg (kk + ticks)).length rc], .bool true]) (by simp [results, Tryz.results10, go_sem, Result.andThen, q0, q1, q2]) rfl ?_
  have hB : daB l kk dl f ticks = true := by simp [daB, h1, h2, h3, h4]
  have hlb : w.heap.size + 2 < W0.heap.size := by omega
  have hs3 := hXS.size
  have hs4 := hx4.size
  have hz3 := hx03.size
  have hFr : Fr W0.heap.size w4 (((w4.setCell ⟨w.heap.size + 2, 0, none⟩ (.slice ta (addL l f).length tc)).setCell ⟨w.heap.size + 2, 1, none⟩ (.int .i64 (kk + ticks))).setCell ⟨w.heap.size + 2, 2, none⟩ (.slice ra (chD dl f.root f.pkg (kk + ticks)).length rc)) :=
    Fr.set (Fr.set (Fr.set (Fr.refl _ _) (.inr hlb) _) (.inr hlb) _) (.inr hlb) _
  rw [hB, show daL l kk dl f ticks = addL l f from if_pos hB, show daK l kk dl f ticks = kk + ticks from if_pos hB, show daD l kk dl f ticks = chD dl f.root f.pkg (kk + ticks) from if_pos hB]
  refine ⟨_, rfl, ⟨ta, tc, ra, rc, W3.heap.size, rfl, hs3, Nat.le_trans hs4 hFr.size, ?_, ?_⟩, x_set3 (b := w.heap.size + 2) (hXS.trans hx4) (by omega) _ _ _⟩
  · exact ((((hO3.less hx1.size).e).fr (hx4.fr _)).fr hFr).lessB hX0.size
  · exact hO4.fr (hFr.mono hz3)

end Go.Proofs.YtgjfjjhmgbemcaaGreatDoor
