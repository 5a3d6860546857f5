/- Disks: the walks of the program's and the reference's functions. No condition but lengths. -/
import Derived.Test.YtgjfjjhmgbemcaaGreatDoorIb
import Derived.Test.YtgjfjjhmgbemcaaGreatDoorDir
namespace Go.Proofs.YtgjfjjhmgbemcaaGreatDoor
open Go.RowKit

def sameD (d : Di) (r : Int) (p : List UInt8) : Bool := d.root == r && d.pkg == p
def didx (l : List Di) (r : Int) (p : List UInt8) (n : Nat) : Int := firstN (fun k => sameD (nth l k) r p) n
def dirB (l : List Di) (st nm : Int) (k : Nat) : Bool :=
  rangeB (nth l k).root 0 2 && pkgB (nth l k).pkg && rangeB (nth l k).stamp 0 st && decide (((nth l k).names.length : Int) ≤ nm) && !anyN (fun j => sameD (nth l j) (nth l k).root (nth l k).pkg) k
def dirsB (l : List Di) (st nm : Int) : Bool := allN (dirB l st nm) l.length && decide (l.length ≤ 20)
def diskB (l : List Fi) (kk : Int) (dl : List Di) : Bool := treeB l && rangeB kk 0 200 && dirsB dl kk 0
theorem didx_lt {l : List Di} {k n : Nat} (hk : k < n) : decide (didx l (nth l k).root (nth l k).pkg n < (k : Int)) = anyN (fun j => sameD (nth l j) (nth l k).root (nth l k).pkg) k := by
  have hs : sameD (nth l k) (nth l k).root (nth l k).pkg = true := by simp [sameD]
  cases h : anyN (fun j => sameD (nth l j) (nth l k).root (nth l k).pkg) k
  · have : didx l (nth l k).root (nth l k).pkg n = k := firstN_some (p := fun j => sameD (nth l j) (nth l k).root (nth l k).pkg) h hs hk
    rw [this]; simp
  · have h2 : didx l (nth l k).root (nth l k).pkg n < k := by
      rcases firstN_cases (fun j => sameD (nth l j) (nth l k).root (nth l k).pkg) n with ⟨h1, h2⟩ | ⟨j, hj, h1, h2, h3⟩
      · rw [show didx l (nth l k).root (nth l k).pkg n = -1 from h2]; omega
      · rw [show didx l (nth l k).root (nth l k).pkg n = j from h3]
        obtain ⟨i, hi, hp⟩ := anyN_iff.1 h
        rcases Nat.lt_or_ge j k with h4 | h4
        · omega
        · have := anyN_false.1 h2 i (by omega)
          rw [hp] at this; cases this
    simp [h2]
theorem disk_law {l : List Fi} {kk : Int} {dl : List Di} (h : allN (fun k => decide ((nth dl k).stamp ≤ kk) && decide (((nth dl k).names.length : Int) ≤ 0)) dl.length = true) :
    (treeB l && rangeB kk 0 200 && dirsB dl 200 12) = diskB l kk dl := by
  unfold diskB
  cases hr : rangeB kk 0 200
  · simp
  · congr 1
    unfold dirsB
    congr 1
    refine allN_congr fun k hk => ?_
    have h1 := allN_iff.1 h k hk
    simp only [Bool.and_eq_true, decide_eq_true_eq] at h1
    have h2 := rangeB_iff.1 hr
    unfold dirB
    have e1 : rangeB (nth dl k).stamp 0 200 = rangeB (nth dl k).stamp 0 kk := by
      rw [Bool.eq_iff_iff, rangeB_iff, rangeB_iff]; omega
    have e2 : decide (((nth dl k).names.length : Int) ≤ 12) = decide (((nth dl k).names.length : Int) ≤ 0) := by
      rw [decide_eq_decide]; omega
    rw [e1, e2]
theorem disk_no {l : List Fi} {kk : Int} {dl : List Di} {k : Nat} (hk : k < dl.length) (h : (decide ((nth dl k).stamp ≤ kk) && decide (((nth dl k).names.length : Int) ≤ 0)) = false) : diskB l kk dl = false := by
  unfold diskB dirsB
  rw [allN_not (k := k) _ hk]
  · simp
  · unfold dirB
    by_cases h1 : (nth dl k).stamp ≤ kk
    · have h2 : ¬ ((nth dl k).names.length : Int) ≤ 0 := by
        rw [decide_eq_true h1, Bool.true_and] at h
        exact of_decide_eq_false h
      rw [decide_eq_false h2]; simp
    · have : rangeB (nth dl k).stamp 0 kk = false := by
        rw [Bool.eq_false_iff]; intro h2; exact h1 (rangeB_iff.1 h2).2
      rw [this]; simp

set_option maxRecDepth 100000 in
set_option maxHeartbeats 1000000 in
theorem dirAt_s (l : List Di) (a : Option Addr) (n m c B : Nat) (r : Int) (p : List UInt8) (w : World) (hD : DirsAt w B a n l) (hm : m ≤ n) :
    Calls Tryz.prog 150 #[.slice a m c, .int .i64 r, .string ⟨(p).toArray⟩] w fun e w' => e = .returned (.int .i64 (didx l r p m)) ∧ X w w' := by
  have hn := hD.len.2
  go_enter Tryz.func150, Tryz.ntmps150
  go_wp2
  go_loopw [7] (fun i wr => ∃ k : Nat, k ≤ m ∧ i = .int .i64 k ∧ anyN (fun k => sameD (nth l k) r p) k = false ∧ wr = w) (fun i _ => m - (intOf i).toNat)
  case atStart => exact ⟨0, by omega, rfl, rfl, rfl⟩
  case round =>
    obtain ⟨k, hk, rfl, hno, rfl⟩ := hrel
    by_cases hlt : k < m
    · obtain ⟨b, off, ba, bn, bc, rfl, _, hb, _, _, _, g0, g1, g2, g3⟩ := hD.at_ (k := k) (by omega)
      cases h1 : (nth l k).root == r <;> cases h2 : (nth l k).pkg == p
      all_goals go_wp2
      all_goals first
        | (go_roundw
           case rel => exact ⟨k + 1, by omega, by go_num, anyN_next hno (by simp [sameD, h1, h2]), trivial⟩
           case measure => simp [intOf]; omega)
        | (go_ret
           exact ⟨ret_int (firstN_some (p := fun k => sameD (nth l k) r p) hno (by simp [sameD, h1, h2]) hlt).symm, by (repeat (first | with_reducible exact X.refl _ | with_reducible assumption | with_reducible refine X.setCell ?_ (by first | (simp; done) | (simp; omega)) _ | with_reducible refine X.ext ?_ _ | with_reducible refine X.alloc ?_ _ | with_reducible refine X.drew ?_))⟩)
    · obtain rfl : k = m := by omega
      go_wp2
      go_ret
      exact ⟨ret_int (firstN_none (p := fun k => sameD (nth l k) r p) hno).symm, by (repeat (first | with_reducible exact X.refl _ | with_reducible assumption | with_reducible refine X.setCell ?_ (by first | (simp; done) | (simp; omega)) _ | with_reducible refine X.ext ?_ _ | with_reducible refine X.alloc ?_ _ | with_reducible refine X.drew ?_))⟩

set_option maxRecDepth 100000 in
set_option maxHeartbeats 1000000 in
theorem sameDir_c (d : Di) (bv : Value) (r : Int) (p : List UInt8) (rb pb : Nat) (w : World) (h1 : w.cell? ⟨rb, 0, none⟩ = some (.int .i64 r)) (h2 : w.cell? ⟨pb, 0, none⟩ = some (.string ⟨(p).toArray⟩)) (l1 : rb < w.heap.size) (l2 : pb < w.heap.size) :
    Calls Tryz.prog 155 #[.agg #[.int .i64 (d).root, .string ⟨(d).pkg.toArray⟩, .int .i64 (d).stamp, bv], .pointer (some ⟨rb, 0, none⟩), .pointer (some ⟨pb, 0, none⟩)] w fun e w' => e = .returned (.bool (sameD d r p)) ∧ X w w' := by
  cases c1 : d.root == r <;> cases c2 : d.pkg == p
  all_goals
    go_enter Tryz.func155, Tryz.ntmps155
    go_wp2
    go_ret
    exact ⟨by simp [sameD, c1, c2], by (repeat (first | with_reducible exact X.refl _ | with_reducible assumption | with_reducible refine X.setCell ?_ (by first | (simp; done) | (simp; omega)) _ | with_reducible refine X.ext ?_ _ | with_reducible refine X.alloc ?_ _ | with_reducible refine X.drew ?_))⟩

set_option maxRecDepth 100000 in
set_option maxHeartbeats 1000000 in
theorem IndexFunc_c (l : List Di) (a : Option Addr) (n m c B : Nat) (r : Int) (p : List UInt8) (rb pb : Nat) (w : World) (hD : DirsAt w B a n l) (hm : m ≤ n) (h1 : Bx w rb #[.int .i64 r]) (h2 : Bx w pb #[.string ⟨(p).toArray⟩]) :
    Calls Tryz.prog 154 #[.slice a m c, .func (.func 155) #[] #[.pointer (some ⟨rb, 0, none⟩), .pointer (some ⟨pb, 0, none⟩)]] w fun e w' => e = .returned (.int .i64 (didx l r p m)) ∧ X w w' := by
  have hn := hD.len.2
  go_enter Tryz.func154, Tryz.ntmps154
  go_wp2
  go_loopw [8] (fun i wr => ∃ k : Nat, k ≤ m ∧ i = .int .i64 k ∧ anyN (fun k => sameD (nth l k) r p) k = false ∧ X w wr) (fun i _ => m - (intOf i).toNat)
  case atStart => exact ⟨0, by omega, rfl, rfl, X.refl _⟩
  case round =>
    obtain ⟨k, hk, rfl, hno, hX⟩ := hrel
    by_cases hlt : k < m
    · obtain ⟨b, off, ba, bn, bc, rfl, _, hb, _, _, _, g0, g1, g2, g3⟩ := (hD.mono (hX.fr _)).at_ (k := k) (by omega)
      obtain ⟨l1, c1, _⟩ := (h1.x hX).out
      obtain ⟨l2, c2, _⟩ := (h2.x hX).out
      have e1 := c1 0
      have e2 := c2 0
      cases hs : sameD (nth l k) r p
      all_goals
        go_wp2_with (go_at_call 155; refine (sameDir_c (nth l k) (.slice ba bn bc) r p rb pb _ e1 e2 l1 l2).mono ?_; rintro _ w3 ⟨rfl, hx3⟩; rw [hs])
      · go_roundw
        case rel => exact ⟨k + 1, by omega, by go_num, anyN_next hno hs, hX.trans hx3⟩
        case measure => simp [intOf]; omega
      · go_ret
        exact ⟨ret_int (firstN_some (p := fun k => sameD (nth l k) r p) hno hs hlt).symm, hX.trans hx3⟩
    · obtain rfl : k = m := by omega
      go_wp2
      go_ret
      exact ⟨ret_int (firstN_none (p := fun k => sameD (nth l k) r p) hno).symm, hX⟩
set_option maxRecDepth 100000 in
set_option maxHeartbeats 1000000 in
theorem dirAt_i (l : List Di) (a : Option Addr) (n m c B : Nat) (r : Int) (p : List UInt8) (w : World) (hD : DirsAt w B a n l) (hm : m ≤ n) :
    Calls Tryz.prog 105 #[.slice a m c, .int .i64 r, .string ⟨(p).toArray⟩] w fun e w' => e = .returned (.int .i64 (didx l r p m)) ∧ X w w' := by
  go_enter Tryz.func105, Tryz.ntmps105
  go_wp2_with fail
  refine calls_name (fun W hW => ?_)
  obtain ⟨h1, h2, hX0⟩ := bx2 hW
  clear hW
  refine (IndexFunc_c l a n m c B r p _ _ W (hD.mono (hX0.fr _)) hm h1 h2).mono ?_
  rintro _ w2 ⟨rfl, hx2⟩
  go_wp2
  go_ret
  exact ⟨rfl, hX0.trans hx2⟩

set_option maxRecDepth 100000 in
set_option maxHeartbeats 2000000 in
theorem dirsOk_c (l : List Di) (a : Option Addr) (n c B : Nat) (st nm : Int) (w : World) (hD : DirsAt w B a n l) (hnc : n ≤ c) (hG : Gm w) :
    Calls Tryz.prog 82 #[.slice a n c, .int .i64 st, .int .i64 nm] w fun e w' => e = .returned (.bool (dirsB l st nm)) ∧ X w w' := by
  obtain ⟨hl, hn⟩ := hD.len
  have Hl := Lib.hid hl
  clear hl
  go_enter Tryz.func82, Tryz.ntmps82
  go_wp2
  go_loopw [11] (fun i wr => ∃ k : Nat, k ≤ n ∧ i = .int .i64 k ∧ allN (dirB l st nm) k = true ∧ X w wr) (fun i _ => n - (intOf i).toNat)
  case atStart => exact ⟨0, by omega, rfl, rfl, X.refl _⟩
  case round =>
    obtain ⟨k, hk, rfl, hall, hX⟩ := hrel
    by_cases hlt : k < n
    · obtain ⟨b, off, ba, bn, bc, rfl, _, hb, hpk, _, hS, g0, g1, g2, g3⟩ := (hD.mono (hX.fr _)).at_ (k := k) hlt
      have hbn := hS.1
      have hbl := hS.2.1
      have hG1 := hG.mono hX
      have hD1 := hD.mono (hX.fr _)
      have Hno := Lib.hid (show dirB l st nm k = false → dirsB l st nm = false from fun h1 => by
        unfold dirsB; rw [allN_not (k := k) h1 (by rw [← Hl.out]; exact hlt)]; rfl)
      have Hd := Lib.hid (show dirB l st nm k = (rangeB (nth l k).root 0 2 && pkgB (nth l k).pkg && rangeB (nth l k).stamp 0 st && decide ((bn : Int) ≤ nm) && !decide (0 ≤ didx l (nth l k).root (nth l k).pkg k)) by
        unfold dirB
        rw [hbn]
        congr 2
        rw [Bool.eq_iff_iff]
        simp only [decide_eq_true_eq]
        exact (Iff.of_eq firstN_nonneg).symm)
      clear hbn
      go_wp2
      refine wp_name (fun W hW => ?_)
      have hB : Bx W wr.heap.size #[.int .i64 (nth l k).root, .string ⟨((nth l k).pkg).toArray⟩, .int .i64 (nth l k).stamp, .slice ba bn bc] := by rw [hW]; first | exact Bx.new _ _ _ | exact Bx.set (Bx.set (Bx.set (Bx.set (Bx.new _ _ _) 0 _) 1 _) 2 _) 3 _
      have hXW : X wr W := by rw [hW]; (repeat (first | with_reducible exact X.refl _ | with_reducible assumption | with_reducible refine X.setCell ?_ (by first | (simp; done) | (simp; omega)) _ | with_reducible refine X.ext ?_ _ | with_reducible refine X.alloc ?_ _ | with_reducible refine X.drew ?_))
      clear hW
      obtain ⟨lb, cb, _⟩ := hB.out
      have e0 := cb 0
      have e1 := cb 1
      have e2 := cb 2
      have e3 := cb 3
      clear cb
      have hG2 := hG1.mono hXW
      have hD2 := hD1.mono (hXW.fr _)
      have hXw := hX.trans hXW
      have hk1 : (k : Int) < (n : Int) := by omega
      have hkc : k ≤ c := by omega
      cases q1 : rangeB (nth l k).root 0 2
      · refine wp_region_grow0 (by kernel_rfl) (by kernel_rfl) ?_
        repeat (go_big_quiet_step (((first
          | (go_at_call 80; refine grow_same (within_c _ _ _ _))
          | (go_at_call 78; refine grow_of (packageOk_c (nth l k).pkg _ (by omega) (hG2.mono (by (repeat (first | exact X.refl _ | assumption | refine X.ext ?_ _ | refine X.alloc ?_ _ | refine X.drew ?_))))))
          | (go_at_call 105; refine grow_of (dirAt_i l _ n k c B (nth l k).root (nth l k).pkg _ (hD2.mono (X.fr (by (repeat (first | exact X.refl _ | assumption | refine X.ext ?_ _ | refine X.alloc ?_ _ | refine X.drew ?_))) _)) (by omega)))))))
        refine wpQuiet_nil ?_
        rintro _ ⟨y, rfl⟩
        go_wp2
        go_ret
        exact ⟨ret_bool (Hno.out (by rw [Hd.out]; simp [*])).symm, hXw.trans (by (repeat (first | exact X.refl _ | assumption | refine X.ext ?_ _ | refine X.alloc ?_ _ | refine X.drew ?_)))⟩
      cases q2 : pkgB (nth l k).pkg
      · refine wp_region_grow0 (by kernel_rfl) (by kernel_rfl) ?_
        repeat (go_big_quiet_step (((first
          | (go_at_call 80; refine grow_same (within_c _ _ _ _))
          | (go_at_call 78; refine grow_of (packageOk_c (nth l k).pkg _ (by omega) (hG2.mono (by (repeat (first | exact X.refl _ | assumption | refine X.ext ?_ _ | refine X.alloc ?_ _ | refine X.drew ?_))))))
          | (go_at_call 105; refine grow_of (dirAt_i l _ n k c B (nth l k).root (nth l k).pkg _ (hD2.mono (X.fr (by (repeat (first | exact X.refl _ | assumption | refine X.ext ?_ _ | refine X.alloc ?_ _ | refine X.drew ?_))) _)) (by omega)))))))
        refine wpQuiet_nil ?_
        rintro _ ⟨y, rfl⟩
        go_wp2
        go_ret
        exact ⟨ret_bool (Hno.out (by rw [Hd.out]; simp [*])).symm, hXw.trans (by (repeat (first | exact X.refl _ | assumption | refine X.ext ?_ _ | refine X.alloc ?_ _ | refine X.drew ?_)))⟩
      cases q3 : rangeB (nth l k).stamp 0 st
      · refine wp_region_grow0 (by kernel_rfl) (by kernel_rfl) ?_
        repeat (go_big_quiet_step (((first
          | (go_at_call 80; refine grow_same (within_c _ _ _ _))
          | (go_at_call 78; refine grow_of (packageOk_c (nth l k).pkg _ (by omega) (hG2.mono (by (repeat (first | exact X.refl _ | assumption | refine X.ext ?_ _ | refine X.alloc ?_ _ | refine X.drew ?_))))))
          | (go_at_call 105; refine grow_of (dirAt_i l _ n k c B (nth l k).root (nth l k).pkg _ (hD2.mono (X.fr (by (repeat (first | exact X.refl _ | assumption | refine X.ext ?_ _ | refine X.alloc ?_ _ | refine X.drew ?_))) _)) (by omega)))))))
        refine wpQuiet_nil ?_
        rintro _ ⟨y, rfl⟩
        go_wp2
        go_ret
        exact ⟨ret_bool (Hno.out (by rw [Hd.out]; simp [*])).symm, hXw.trans (by (repeat (first | exact X.refl _ | assumption | refine X.ext ?_ _ | refine X.alloc ?_ _ | refine X.drew ?_)))⟩
      by_cases q4 : nm < (bn : Int)
      · have q4' : decide ((bn : Int) ≤ nm) = false := by rw [decide_eq_false_iff_not]; omega
        refine wp_region_grow0 (by kernel_rfl) (by kernel_rfl) ?_
        repeat (go_big_quiet_step (((first
          | (go_at_call 80; refine grow_same (within_c _ _ _ _))
          | (go_at_call 78; refine grow_of (packageOk_c (nth l k).pkg _ (by omega) (hG2.mono (by (repeat (first | exact X.refl _ | assumption | refine X.ext ?_ _ | refine X.alloc ?_ _ | refine X.drew ?_))))))
          | (go_at_call 105; refine grow_of (dirAt_i l _ n k c B (nth l k).root (nth l k).pkg _ (hD2.mono (X.fr (by (repeat (first | exact X.refl _ | assumption | refine X.ext ?_ _ | refine X.alloc ?_ _ | refine X.drew ?_))) _)) (by omega)))))))
        refine wpQuiet_nil ?_
        rintro _ ⟨y, rfl⟩
        go_wp2
        go_ret
        exact ⟨ret_bool (Hno.out (by rw [Hd.out]; simp [*])).symm, hXw.trans (by (repeat (first | exact X.refl _ | assumption | refine X.ext ?_ _ | refine X.alloc ?_ _ | refine X.drew ?_)))⟩
      have q4' : decide ((bn : Int) ≤ nm) = true := by rw [decide_eq_true_iff]; omega
      have q4b : decide (nm < (bn : Int)) = false := by rw [decide_eq_false_iff_not]; omega
      by_cases q5 : (0 : Int) ≤ didx l (nth l k).root (nth l k).pkg k
      · refine wp_region_grow0 (by kernel_rfl) (by kernel_rfl) ?_
        repeat (go_big_quiet_step (((first
          | (go_at_call 80; refine grow_same (within_c _ _ _ _))
          | (go_at_call 78; refine grow_of (packageOk_c (nth l k).pkg _ (by omega) (hG2.mono (by (repeat (first | exact X.refl _ | assumption | refine X.ext ?_ _ | refine X.alloc ?_ _ | refine X.drew ?_))))))
          | (go_at_call 105; refine grow_of (dirAt_i l _ n k c B (nth l k).root (nth l k).pkg _ (hD2.mono (X.fr (by (repeat (first | exact X.refl _ | assumption | refine X.ext ?_ _ | refine X.alloc ?_ _ | refine X.drew ?_))) _)) (by omega)))))))
        refine wpQuiet_nil ?_
        rintro _ ⟨y, rfl⟩
        go_wp2
        go_ret
        exact ⟨ret_bool (Hno.out (by rw [Hd.out]; simp [*])).symm, hXw.trans (by (repeat (first | exact X.refl _ | assumption | refine X.ext ?_ _ | refine X.alloc ?_ _ | refine X.drew ?_)))⟩
      refine wp_region_grow0 (by kernel_rfl) (by kernel_rfl) ?_
      repeat (go_big_quiet_step (((first
        | (go_at_call 80; refine grow_same (within_c _ _ _ _))
        | (go_at_call 78; refine grow_of (packageOk_c (nth l k).pkg _ (by omega) (hG2.mono (by (repeat (first | exact X.refl _ | assumption | refine X.ext ?_ _ | refine X.alloc ?_ _ | refine X.drew ?_))))))
        | (go_at_call 105; refine grow_of (dirAt_i l _ n k c B (nth l k).root (nth l k).pkg _ (hD2.mono (X.fr (by (repeat (first | exact X.refl _ | assumption | refine X.ext ?_ _ | refine X.alloc ?_ _ | refine X.drew ?_))) _)) (by omega)))))))
      refine wpQuiet_nil ?_
      rintro _ ⟨y, rfl⟩
      go_wp2
      go_roundw
      case rel => exact ⟨k + 1, by omega, by go_num, allN_next hall (by rw [Hd.out]; simp [*]), hXw.trans (by (repeat (first | exact X.refl _ | assumption | refine X.ext ?_ _ | refine X.alloc ?_ _ | refine X.drew ?_)))⟩
      case measure => simp [intOf]; omega
    · obtain rfl : k = n := by omega
      go_wp2
      go_ret
      exact ⟨ret_bool (by rw [dirsB, ← Hl.out, hall, Bool.true_and]; exact decide_eq_decide.2 (by omega)), hX⟩

set_option maxRecDepth 100000 in
set_option maxHeartbeats 2000000 in
theorem ValidDisk_i (l : List Fi) (a : Option Addr) (n c : Nat) (kk : Int) (dl : List Di) (da : Option Addr) (dn dc B : Nat) (w : World) (hF : FilesAt w B a n l) (hnc : n ≤ c) (hD : DirsAt w B da dn dl) (hdc : dn ≤ dc) (hG : Gm w) :
    Calls Tryz.prog 32 #[.agg #[.slice a n c, .int .i64 kk, .slice da dn dc]] w fun e w' => e = .returned (.bool (diskB l kk dl)) ∧ X w w' := by
  cases h1 : treeB l <;> cases h2 : rangeB kk 0 200
  all_goals
    go_enter Tryz.func32, Tryz.ntmps32
    go_wp2_with fail
    refine calls_name (fun W0 hW0 => ?_)
    have hB0 : Bx W0 w.heap.size #[.slice a n c, .int .i64 kk, .slice da dn dc] := by rw [hW0]; exact Bx.new _ _ _
    have hX0 : X w W0 := by rw [hW0]; (repeat (first | with_reducible exact X.refl _ | with_reducible assumption | with_reducible refine X.setCell ?_ (by first | (simp; done) | (simp; omega)) _ | with_reducible refine X.ext ?_ _ | with_reducible refine X.alloc ?_ _ | with_reducible refine X.drew ?_))
    clear hW0
    refine (ValidTree_c l a n c B W0 (hF.mono (hX0.fr _)) hnc (hG.mono hX0)).mono ?_
    rintro _ w1 ⟨rfl, hx1⟩
    rw [h1]
    have b1 := (hx1.cell (p := ⟨w.heap.size, 1, none⟩) hB0.lt).trans (hB0.out.2.1 1)
    have b2 := (hx1.cell (p := ⟨w.heap.size, 2, none⟩) hB0.lt).trans (hB0.out.2.1 2)
    have hXw := hX0.trans hx1
    go_wp2_with (first | (go_at_call 80; refine (within_c kk 0 200 _).mono ?_; rintro _ _ ⟨rfl, rfl⟩; rw [h2]) | (go_at_call 82; refine (dirsOk_c dl da dn dc B kk 0 _ (hD.mono (hXw.fr _)) hdc (hG.mono hXw)).mono ?_; rintro _ w3 ⟨rfl, hx3⟩; replace hXw := hXw.trans hx3))
    all_goals go_ret
    all_goals exact ⟨ret_bool (by simp [diskB, h1, h2]), hXw⟩

set_option maxRecDepth 100000 in
set_option maxHeartbeats 2000000 in
theorem stampOf_i (a : Option Addr) (n c : Nat) (kk : Int) (dl : List Di) (da : Option Addr) (dn dc B : Nat) (r : Int) (p : List UInt8) (w : World) (hD : DirsAt w B da dn dl) :
    Calls Tryz.prog 81 #[.agg #[.slice a n c, .int .i64 kk, .slice da dn dc], .int .i64 r, .string ⟨(p).toArray⟩] w fun e w' => e = .returned (.int .i64 (if didx dl r p dn < 0 then 0 else (nth dl (didx dl r p dn).toNat).stamp)) ∧ X w w' := by
  have hn := hD.len.2
  rcases firstN_cases (fun k => sameD (nth dl k) r p) dn with ⟨_, h⟩ | ⟨k, hk, _, _, h⟩
  · have hd : didx dl r p dn = -1 := h
    clear h
    go_enter Tryz.func81, Tryz.ntmps81
    go_wp2_with (go_at_call 105; refine (dirAt_i dl da dn dn dc B r p _ (hD.mono (X.fr (by (repeat (first | with_reducible exact X.refl _ | with_reducible assumption | with_reducible refine X.setCell ?_ (by first | (simp; done) | (simp; omega)) _ | with_reducible refine X.ext ?_ _ | with_reducible refine X.alloc ?_ _ | with_reducible refine X.drew ?_))) _)) (Nat.le_refl _)).mono ?_; rintro _ w1 ⟨rfl, hx1⟩; rw [hd])
    go_ret
    exact ⟨rfl, X.trans (by (repeat (first | with_reducible exact X.refl _ | with_reducible assumption | with_reducible refine X.setCell ?_ (by first | (simp; done) | (simp; omega)) _ | with_reducible refine X.ext ?_ _ | with_reducible refine X.alloc ?_ _ | with_reducible refine X.drew ?_))) hx1⟩
  · have hd : didx dl r p dn = (k : Int) := h
    clear h
    rw [hd, if_neg (by omega), Int.toNat_natCast]
    go_enter Tryz.func81, Tryz.ntmps81
    go_wp2_with fail
    refine calls_name (fun W0 hW0 => ?_)
    have hB0 : Bx W0 w.heap.size #[.slice a n c, .int .i64 kk, .slice da dn dc] := by rw [hW0]; exact Bx.new _ _ _
    have hX0 : X w W0 := by rw [hW0]; (repeat (first | with_reducible exact X.refl _ | with_reducible assumption | with_reducible refine X.setCell ?_ (by first | (simp; done) | (simp; omega)) _ | with_reducible refine X.ext ?_ _ | with_reducible refine X.alloc ?_ _ | with_reducible refine X.drew ?_))
    clear hW0
    refine (dirAt_i dl da dn dn dc B r p W0 (hD.mono (hX0.fr _)) (Nat.le_refl _)).mono ?_
    rintro _ w1 ⟨rfl, hx1⟩
    rw [hd]
    have b2 := (hx1.cell (p := ⟨w.heap.size, 2, none⟩) hB0.lt).trans (hB0.out.2.1 2)
    have lb := Nat.lt_of_lt_of_le hB0.lt hx1.size
    obtain ⟨b, off, ba, bn, bc, rfl, _, hb, _, _, _, g0, g1, g2, g3⟩ := (hD.mono ((hX0.trans hx1).fr _)).at_ (k := k) hk
    have hk1 : (k : Int) < (dn : Int) := by omega
    go_wp2
    go_ret
    exact ⟨rfl, hX0.trans hx1⟩

/-- The stamp that is told. -/
def stampB (l : List Fi) (kk : Int) (dl : List Di) (r : Int) (p : List UInt8) : Int :=
  if diskB l kk dl && rangeB r 0 2 && pkgB p then (if didx dl r p dl.length < 0 then 0 else (nth dl (didx dl r p dl.length).toNat).stamp) else -1
set_option maxRecDepth 100000 in
set_option maxHeartbeats 2000000 in
theorem StampOf_i (l : List Fi) (a : Option Addr) (n c : Nat) (kk : Int) (dl : List Di) (da : Option Addr) (dn dc B : Nat) (r : Int) (p : List UInt8) (w : World) (hF : FilesAt w B a n l) (hnc : n ≤ c) (hD : DirsAt w B da dn dl) (hdc : dn ≤ dc) (hp : p.length ≤ 4194304) (hG : Gm w) :
    Calls Tryz.prog 31 #[.agg #[.slice a n c, .int .i64 kk, .slice da dn dc], .int .i64 r, .string ⟨(p).toArray⟩] w fun e w' => e = .returned (.int .i64 (stampB l kk dl r p)) ∧ X w w' := by
  have hl := hD.len.1
  cases h1 : diskB l kk dl <;> cases h2 : rangeB r 0 2 <;> cases h3 : pkgB p
  case true.true.true =>
    rw [show stampB l kk dl r p = (if didx dl r p dn < 0 then 0 else (nth dl (didx dl r p dn).toNat).stamp) by rw [stampB, h1, h2, h3, hl]; rfl]
    clear hl
    obtain ⟨sv, hsv⟩ : ∃ v, v = (if didx dl r p dn < 0 then 0 else (nth dl (didx dl r p dn).toNat).stamp) := ⟨_, rfl⟩
    rw [← hsv]
    have Hsv := Lib.hid hsv
    clear hsv
    go_enter Tryz.func31, Tryz.ntmps31
    go_wp2_with fail
    refine calls_name (fun W0 hW0 => ?_)
    have hB0 : Bx W0 w.heap.size #[.slice a n c, .int .i64 kk, .slice da dn dc] := by rw [hW0]; exact Bx.new _ _ _
    have hX0 : X w W0 := by rw [hW0]; (repeat (first | with_reducible exact X.refl _ | with_reducible assumption | with_reducible refine X.setCell ?_ (by first | (simp; done) | (simp; omega)) _ | with_reducible refine X.ext ?_ _ | with_reducible refine X.alloc ?_ _ | with_reducible refine X.drew ?_))
    clear hW0
    refine (ValidDisk_i l a n c kk dl da dn dc B W0 (hF.mono (hX0.fr _)) hnc (hD.mono (hX0.fr _)) hdc (hG.mono hX0)).mono ?_
    rintro _ w1 ⟨rfl, hx1⟩
    rw [h1]
    have hXw := hX0.trans hx1
    go_wp2_with (first
      | (go_at_call 80; refine (within_c r 0 2 _).mono ?_; rintro _ _ ⟨rfl, rfl⟩; rw [h2])
      | (go_at_call 78; refine (packageOk_c p _ hp (hG.mono hXw)).mono ?_; rintro _ w3 ⟨rfl, hx3⟩; rw [h3]; have lb := Nat.lt_of_lt_of_le hB0.lt (X.size (hx1.trans hx3)); have b0 := ((hx1.trans hx3).cell (p := ⟨w.heap.size, 0, none⟩) hB0.lt).trans (hB0.out.2.1 0); have b1 := ((hx1.trans hx3).cell (p := ⟨w.heap.size, 1, none⟩) hB0.lt).trans (hB0.out.2.1 1); have b2 := ((hx1.trans hx3).cell (p := ⟨w.heap.size, 2, none⟩) hB0.lt).trans (hB0.out.2.1 2))
      | (go_at_call 81; refine (stampOf_i a n c kk dl da dn dc B r p _ (hD.mono (X.fr (hXw.trans hx3) _))).mono ?_; rintro _ w4 ⟨rfl, hx4⟩; rw [← Hsv.out]))
    go_ret
    exact ⟨rfl, (hXw.trans hx3).trans hx4⟩
  all_goals
    rw [show stampB l kk dl r p = -1 by rw [stampB, h1, h2, h3]; rfl]
    clear hl
    go_enter Tryz.func31, Tryz.ntmps31
    go_wp2_with fail
    refine calls_name (fun W0 hW0 => ?_)
    have hX0 : X w W0 := by rw [hW0]; (repeat (first | with_reducible exact X.refl _ | with_reducible assumption | with_reducible refine X.setCell ?_ (by first | (simp; done) | (simp; omega)) _ | with_reducible refine X.ext ?_ _ | with_reducible refine X.alloc ?_ _ | with_reducible refine X.drew ?_))
    clear hW0
    refine (ValidDisk_i l a n c kk dl da dn dc B W0 (hF.mono (hX0.fr _)) hnc (hD.mono (hX0.fr _)) hdc (hG.mono hX0)).mono ?_
    rintro _ w1 ⟨rfl, hx1⟩
    rw [h1]
    have hXw := hX0.trans hx1
    go_wp2_with (first | (go_at_call 80; refine (within_c r 0 2 _).mono ?_; rintro _ _ ⟨rfl, rfl⟩; rw [h2]) | (go_at_call 78; refine (packageOk_c p _ hp (hG.mono hXw)).mono ?_; rintro _ w3 ⟨rfl, hx3⟩; rw [h3]; replace hXw := hXw.trans hx3))
    go_ret
    exact ⟨rfl, hXw⟩

end Go.Proofs.YtgjfjjhmgbemcaaGreatDoor
