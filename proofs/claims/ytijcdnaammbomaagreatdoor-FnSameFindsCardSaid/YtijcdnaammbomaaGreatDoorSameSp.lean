/- sameSpec: the walk. No condition but lengths. -/
import Derived.Test.YtijcdnaammbomaaGreatDoorFoundW
import Derived.Test.YtijcdnaammbomaaGreatDoorSameLaw
import Derived.Deep.RegionHeld3
namespace Go.Proofs.YtijcdnaammbomaaGreatDoor
open Go.RowKit

theorem bx4 {w W : World} {c1 c2 c3 c4 : Array Value} {t1 t2 t3 t4 : TypeId} (h : W = (((w.alloc (.cells c1 t1)).alloc (.cells c2 t2)).alloc (.cells c3 t3)).alloc (.cells c4 t4)) : Bx W w.heap.size c1 ∧ Bx W (w.heap.size + 1) c2 ∧ Bx W (w.heap.size + 2) c3 ∧ Bx W (w.heap.size + 3) c4 ∧ X w W := by
  obtain ⟨h1, h2, h3, hx⟩ := bx3 (w := w) (c1 := c1) (c2 := c2) (c3 := c3) (t1 := t1) (t2 := t2) (t3 := t3) rfl
  have hX : X (((w.alloc (.cells c1 t1)).alloc (.cells c2 t2)).alloc (.cells c3 t3)) W := by rw [h]; exact X.alloc (X.refl _) _
  refine ⟨h1.x hX, h2.x hX, h3.x hX, ?_, hx.trans hX⟩
  rw [h]
  have := Bx.new (((w.alloc (.cells c1 t1)).alloc (.cells c2 t2)).alloc (.cells c3 t3)) c4 t4
  simpa using this
theorem spec_file {l : List Fi} {path : List Int} {s : List UInt8} (h : ¬ (specB l path s).file < 0) : (specB l path s).file.toNat < l.length ∧ ((specB l path s).file.toNat : Int) = (specB l path s).file := by
  have hle : (specB l path s).file < (l.length : Int) := by
    obtain ⟨j, hj, f1, _⟩ := specFile_law (l := l) (path := path) (s := s) (by omega)
    omega
  exact ⟨by omega, by omega⟩
set_option maxRecDepth 100000 in
set_option maxHeartbeats 1000000 in
theorem sameSpec_c (t u : List Fi) (a a' : Option Addr) (n n' c c' B B' : Nat) (oa ob : Sp) (ra rb : Option Addr) (ca cb Ba Bb : Nat) (w : World) (hF : FilesAt w B a n t) (hU : FilesAt w B' a' n' u) (hA : IntsAt w Ba ra oa.roots.length oa.roots) (hB : IntsAt w Bb rb ob.roots.length ob.roots)
    (hfa : ¬ oa.file < 0 → oa.file.toNat < t.length ∧ (oa.file.toNat : Int) = oa.file) (hfb : ¬ ob.file < 0 → ob.file.toNat < u.length ∧ (ob.file.toNat : Int) = ob.file) :
    Calls Tryz.prog 54 #[.agg #[.slice a n c], .agg #[.int .i64 oa.kind, .int .i64 oa.file, .slice ra oa.roots.length ca], .agg #[.slice a' n' c'], .agg #[.int .i64 ob.kind, .int .i64 ob.file, .slice rb ob.roots.length cb]] w fun e w' => e = .returned (.bool (sameSp t u oa ob)) ∧ X w w' := by
  by_cases k1 : oa.kind = ob.kind
  case neg =>
    go_enter Tryz.func54, Tryz.ntmps54
    go_wp2
    all_goals go_ret
    all_goals exact ⟨by simp [sameSp, k1], by (repeat (first | with_reducible exact X.refl _ | with_reducible assumption | with_reducible refine X.setCell ?_ (by first | (simp; done) | (simp; omega)) _ | with_reducible refine X.ext ?_ _ | with_reducible refine X.alloc ?_ _ | with_reducible refine X.drew ?_))⟩
  by_cases k2 : oa.roots.length = ob.roots.length
  case neg =>
    go_enter Tryz.func54, Tryz.ntmps54
    go_wp2
    all_goals go_ret
    all_goals exact ⟨by have : ¬ oa.roots = ob.roots := (fun e => k2 (by rw [e])); simp [sameSp, this], by (repeat (first | with_reducible exact X.refl _ | with_reducible assumption | with_reducible refine X.setCell ?_ (by first | (simp; done) | (simp; omega)) _ | with_reducible refine X.ext ?_ _ | with_reducible refine X.alloc ?_ _ | with_reducible refine X.drew ?_))⟩
  obtain ⟨m, hm⟩ : ∃ m, oa.roots.length = m := ⟨_, rfl⟩
  have hm2 : ob.roots.length = m := by rw [← k2, hm]
  rw [hm] at hA ⊢
  rw [hm2] at hB ⊢
  have Hm := Lib.hid hm
  have Hm2 := Lib.hid hm2
  have hmn := hA.2.1
  clear hm hm2 k2
  cases k3 : decide (oa.file < 0) <;> cases k4 : decide (ob.file < 0)
  case false.true | true.false =>
    have p3 := k3
    have p4 := k4
    simp only [decide_eq_true_eq, decide_eq_false_iff_not] at p3 p4
    go_enter Tryz.func54, Tryz.ntmps54
    go_wp2
    all_goals go_ret
    all_goals exact ⟨by simp [sameSp, k3, k4], by (repeat (first | with_reducible exact X.refl _ | with_reducible assumption | with_reducible refine X.setCell ?_ (by first | (simp; done) | (simp; omega)) _ | with_reducible refine X.ext ?_ _ | with_reducible refine X.alloc ?_ _ | with_reducible refine X.drew ?_))⟩
  all_goals
    have hsum : sameSp t u oa ob = (oa.roots == ob.roots && (decide (oa.file < 0) || sameP (nth t oa.file.toNat) (nth u ob.file.toNat))) := by simp [sameSp, k1, k3, k4]
    rw [hsum, k3]
    clear hsum
    have p3 := k3
    have p4 := k4
    simp only [decide_eq_true_eq, decide_eq_false_iff_not] at p3 p4
    go_enter Tryz.func54, Tryz.ntmps54
    go_wp2
    refine wp_name (fun W hW => ?_)
    obtain ⟨hT, hA0, hU0, hB0, hX0⟩ := bx4 hW
    clear hW
    obtain ⟨lT, cT, _⟩ := hT.out
    obtain ⟨lA, cA, _⟩ := hA0.out
    obtain ⟨lU, cU, _⟩ := hU0.out
    obtain ⟨lB, cB, _⟩ := hB0.out
    have t0 := cT 0
    have a1 := cA 1
    have a2 := cA 2
    have u0 := cU 0
    have b1 := cB 1
    have b2 := cB 2
    clear cT cA cU cB
    go_loopw [9] (fun i wr => ∃ k : Nat, k ≤ m ∧ i = .int .i64 k ∧ allN (fun k => nth oa.roots k == nth ob.roots k) k = true ∧ ∃ x, wr = World.ext W x) (fun i _ => m - (intOf i).toNat)
    case atStart => exact ⟨0, by omega, rfl, rfl, X.refl _⟩
    case round =>
      obtain ⟨k, hk, rfl, hall, x, rfl⟩ := hrel
      by_cases hlt : k < m
      · obtain ⟨b, off, rfl, _, hb, hc⟩ := (hA.mono (hX0.fr _)).at_ hlt
        obtain ⟨b', off', rfl, _, hb', hc'⟩ := (hB.mono (hX0.fr _)).at_ hlt
        go_wp2
        refine wp_region_grow (by kernel_rfl) (by kernel_rfl) ?_
        repeat (go_big_quiet_step ((fail)))
        refine wpQuiet_nil ?_
        rintro _ ⟨y, rfl⟩
        go_wp2
        · go_ret
          have h0 : (nth oa.roots k != nth ob.roots k) = true := by first | assumption | (simp; assumption) | (simp; omega)
          have hs : ¬ nth oa.roots k = nth ob.roots k := by simpa using h0
          exact ⟨ret_boolW (by rw [show (oa.roots == ob.roots) = false by rw [beq_eq_false_iff_ne]; intro e; exact hs (by rw [e])]; rfl), hX0.trans (by (repeat (first | exact X.refl _ | assumption | refine X.ext ?_ _ | refine X.alloc ?_ _ | refine X.drew ?_)))⟩
        · have h0 : (nth oa.roots k != nth ob.roots k) = false := by first | assumption | (simp; assumption) | (simp; omega)
          have hs : nth oa.roots k = nth ob.roots k := by simpa using h0
          go_roundw
          case rel => exact ⟨k + 1, by omega, by go_num, allN_next hall (by simp [hs]), _, rfl⟩
          case measure => simp [intOf]; omega
      · obtain rfl : k = m := by omega
        have hr : oa.roots = ob.roots := by
          exact nth_ext (by rw [Hm.out, Hm2.out]) fun j hj => by simpa using allN_iff.1 hall j (by rw [Hm.out] at hj; exact hj)
        first
          | (have htrue : decide (oa.file < 0) = true := k3
             go_wp2
             go_region
             go_wp2
             go_ret
             exact ⟨ret_boolW (by simp [hr]), hX0.trans (by (repeat (first | exact X.refl _ | assumption | refine X.ext ?_ _ | refine X.alloc ?_ _ | refine X.drew ?_)))⟩)
          | (obtain ⟨ia, ea⟩ := hfa p3
             obtain ⟨ib, eb⟩ := hfb p4
             have hlt1 := hF.len.1
             have hlt2 := hU.len.1
             obtain ⟨f1, o1, y1, yn1, yc1, rfl, _, hf1, _, _, _, g0, g1, g2, g3, g4, g5⟩ := (hF.mono (hX0.fr _)).at_ (k := oa.file.toNat) (by omega)
             obtain ⟨f2, o2, y2, yn2, yc2, rfl, _, hf2, _, _, _, i0, i1, i2, i3, i4, i5⟩ := (hU.mono (hX0.fr _)).at_ (k := ob.file.toNat) (by omega)
             have r1 : (0 : Int) ≤ (oa.file.toNat : Int) := by omega
             have r2 : (oa.file.toNat : Int) < (n : Int) := by omega
             have r3 : (0 : Int) ≤ (ob.file.toNat : Int) := by omega
             have r4 : (ob.file.toNat : Int) < (n' : Int) := by omega
             have r5 : ¬ (oa.file.toNat : Int) < 0 := by omega
             rw [← ea] at a1
             rw [← eb] at b1
             go_wp2
             refine wp_region_grow (by kernel_rfl) (by kernel_rfl) ?_
             repeat (go_big_quiet_step ((go_at_call 91; refine grow_of (sameFile_c _ _ _ _ _))))
             refine wpQuiet_nil ?_
             rintro _ ⟨y, rfl⟩
             go_wp2
             go_ret
             exact ⟨ret_boolW (by simp [hr]), hX0.trans (by (repeat (first | exact X.refl _ | assumption | refine X.ext ?_ _ | refine X.alloc ?_ _ | refine X.drew ?_)))⟩)


end Go.Proofs.YtijcdnaammbomaaGreatDoor
