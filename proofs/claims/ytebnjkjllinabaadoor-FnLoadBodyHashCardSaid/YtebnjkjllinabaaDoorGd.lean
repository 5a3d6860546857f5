/- Several texts in one: Store, StoreI, Usable. No condition but lengths. -/
import Derived.Test.YtebnjkjllinabaaDoorGc
namespace Go.Proofs.YtebnjkjllinabaaDoor
open Go.RowKit

def coB (l : List Co) (n k : Nat) : Bool :=
  rangeB (nth l k).root 0 2 && nameB (nth l k).mod && rangeB (nth l k).mode 0 2 && rangeB (nth l k).stamp 0 99 && bodyB (nth l k).body && !((nth l k).size != ((szN (nth l k).body : Nat) : Int)) && !((nth l k).hash != hashZ (nth l k).body) &&
    !decide (cidx l (nth l k).root (nth l k).mod (nth l k).init n < (k : Int))
def storeB (l : List Co) : Bool := allN (coB l l.length) l.length && decide (l.length ≤ 12)
theorem cidx_self {l : List Co} {n k : Nat} (_hk : k < n) : cidx l (nth l k).root (nth l k).mod (nth l k).init n ≤ (k : Int) := by
  rcases firstN_cases (fun j => sameC (nth l j) (nth l k).root (nth l k).mod (nth l k).init) n with ⟨_, h⟩ | ⟨j, hj, h1, h2, h⟩
  · rw [show cidx l (nth l k).root (nth l k).mod (nth l k).init n = -1 from h]; omega
  · rw [show cidx l (nth l k).root (nth l k).mod (nth l k).init n = (j : Int) from h]
    rcases Nat.lt_or_ge k j with h4 | h4
    · have := anyN_false.1 h2 k h4
      simp [sameC] at this
    · omega

set_option maxRecDepth 100000 in
set_option maxHeartbeats 2000000 in
theorem validStore_c (l : List Co) (a : Option Addr) (n c B : Nat) (w : World) (hD : CosAt w B a n l) :
    Calls Tryd.prog 50 #[.slice a n c] w fun e w' => e = .returned (.bool (storeB l)) ∧ X w w' := by
  obtain ⟨hl, hn⟩ := hD.len
  have Hl := Lib.hid hl
  clear hl
  go_enter Tryd.func50, Tryd.ntmps50
  go_wp2
  go_loopw [3] (fun i wr => ∃ k : Nat, k ≤ n ∧ i = .int .i64 k ∧ allN (coB l n) k = true ∧ X w wr) (fun i _ => n - (intOf i).toNat)
  case atStart => exact ⟨0, by omega, rfl, rfl, X.refl _⟩
  case round =>
    obtain ⟨k, hk, rfl, hall, hX⟩ := hrel
    by_cases hlt : k < n
    · obtain ⟨b, off, ba, bn, bc, rfl, _, hb, hpk, _, hS, g0, g1, g2, g3, g4, g5, g6, g7⟩ := (hD.mono (hX.fr _)).at_ (k := k) hlt
      have hD1 := hD.mono (hX.fr _)
      have Hno := Lib.hid (show coB l n k = false → storeB l = false from fun h1 => by
        unfold storeB; rw [← Hl.out, allN_not (k := k) h1 hlt]; rfl)
      go_wp2
      refine wp_name (fun W hW => ?_)
      have hB : Bx W wr.heap.size #[.int .i64 (nth l k).root, .string ⟨((nth l k).mod).toArray⟩, .bool (nth l k).init, .int .i64 (nth l k).mode, .int .i64 (nth l k).stamp, .int .i64 (nth l k).size, .int .i64 (nth l k).hash, .slice ba bn bc] := by rw [hW]; first | exact Bx.new _ _ _ | exact co8n _ _ _ _ _ _ _ _ _
      have hXW : X wr W := by rw [hW]; (repeat (first | with_reducible exact X.refl _ | with_reducible assumption | with_reducible refine X.setCell ?_ (by first | (simp; done) | (simp; omega)) _ | with_reducible refine X.ext ?_ _ | with_reducible refine X.alloc ?_ _ | with_reducible refine X.drew ?_))
      clear hW
      obtain ⟨lb, cb, _⟩ := hB.out
      have e0 := cb 0
      have e1 := cb 1
      have e2 := cb 2
      have e3 := cb 3
      have e4 := cb 4
      have e5 := cb 5
      have e6 := cb 6
      have e7 := cb 7
      clear cb
      have hS2 := hS.mono (hXW.fr _)
      have hD2 := hD1.mono (hXW.fr _)
      have hXw := hX.trans hXW
      have hk1 : (k : Int) < (n : Int) := by omega
      cases q1 : rangeB (nth l k).root 0 2
      · refine wp_region_grow0 (by kernel_rfl) (by kernel_rfl) ?_
        repeat (go_big_quiet_step (((first
          | (go_at_call 38; refine grow_same (inRange_c _ _ _ _))
          | (go_at_call 77; refine grow_of (validName_c (nth l k).mod _ hpk))
          | (go_at_call 78; refine grow_of (validBody_c (nth l k).body _ _ _ _ _ (hS2.mono (X.fr (by (repeat (first | exact X.refl _ | assumption | refine X.ext ?_ _ | refine X.alloc ?_ _ | refine X.drew ?_))) _))))
          | (go_at_call 68; refine grow_of (sizeOf_c (nth l k).body _ _ _ _ _ (hS2.mono (X.fr (by (repeat (first | exact X.refl _ | assumption | refine X.ext ?_ _ | refine X.alloc ?_ _ | refine X.drew ?_))) _))))
          | (go_at_call 69; refine grow_of (hashOf_c (nth l k).body _ _ _ _ _ (hS2.mono (X.fr (by (repeat (first | exact X.refl _ | assumption | refine X.ext ?_ _ | refine X.alloc ?_ _ | refine X.drew ?_))) _)) q5))
          | (go_at_call 63; refine grow_of (compiledAt_s l _ n c B (nth l k).root (nth l k).mod (nth l k).init _ (hD2.mono (X.fr (by (repeat (first | exact X.refl _ | assumption | refine X.ext ?_ _ | refine X.alloc ?_ _ | refine X.drew ?_))) _))))))))
        refine wpQuiet_nil ?_
        rintro _ ⟨y, rfl⟩
        go_wp2
        go_ret
        exact ⟨ret_bool (Hno.out (by simp [coB, *])).symm, hXw.trans (by (repeat (first | exact X.refl _ | assumption | refine X.ext ?_ _ | refine X.alloc ?_ _ | refine X.drew ?_)))⟩
      cases q2 : nameB (nth l k).mod
      · refine wp_region_grow0 (by kernel_rfl) (by kernel_rfl) ?_
        repeat (go_big_quiet_step (((first
          | (go_at_call 38; refine grow_same (inRange_c _ _ _ _))
          | (go_at_call 77; refine grow_of (validName_c (nth l k).mod _ hpk))
          | (go_at_call 78; refine grow_of (validBody_c (nth l k).body _ _ _ _ _ (hS2.mono (X.fr (by (repeat (first | exact X.refl _ | assumption | refine X.ext ?_ _ | refine X.alloc ?_ _ | refine X.drew ?_))) _))))
          | (go_at_call 68; refine grow_of (sizeOf_c (nth l k).body _ _ _ _ _ (hS2.mono (X.fr (by (repeat (first | exact X.refl _ | assumption | refine X.ext ?_ _ | refine X.alloc ?_ _ | refine X.drew ?_))) _))))
          | (go_at_call 69; refine grow_of (hashOf_c (nth l k).body _ _ _ _ _ (hS2.mono (X.fr (by (repeat (first | exact X.refl _ | assumption | refine X.ext ?_ _ | refine X.alloc ?_ _ | refine X.drew ?_))) _)) q5))
          | (go_at_call 63; refine grow_of (compiledAt_s l _ n c B (nth l k).root (nth l k).mod (nth l k).init _ (hD2.mono (X.fr (by (repeat (first | exact X.refl _ | assumption | refine X.ext ?_ _ | refine X.alloc ?_ _ | refine X.drew ?_))) _))))))))
        refine wpQuiet_nil ?_
        rintro _ ⟨y, rfl⟩
        go_wp2
        go_ret
        exact ⟨ret_bool (Hno.out (by simp [coB, *])).symm, hXw.trans (by (repeat (first | exact X.refl _ | assumption | refine X.ext ?_ _ | refine X.alloc ?_ _ | refine X.drew ?_)))⟩
      cases q3 : rangeB (nth l k).mode 0 2
      · refine wp_region_grow0 (by kernel_rfl) (by kernel_rfl) ?_
        repeat (go_big_quiet_step (((first
          | (go_at_call 38; refine grow_same (inRange_c _ _ _ _))
          | (go_at_call 77; refine grow_of (validName_c (nth l k).mod _ hpk))
          | (go_at_call 78; refine grow_of (validBody_c (nth l k).body _ _ _ _ _ (hS2.mono (X.fr (by (repeat (first | exact X.refl _ | assumption | refine X.ext ?_ _ | refine X.alloc ?_ _ | refine X.drew ?_))) _))))
          | (go_at_call 68; refine grow_of (sizeOf_c (nth l k).body _ _ _ _ _ (hS2.mono (X.fr (by (repeat (first | exact X.refl _ | assumption | refine X.ext ?_ _ | refine X.alloc ?_ _ | refine X.drew ?_))) _))))
          | (go_at_call 69; refine grow_of (hashOf_c (nth l k).body _ _ _ _ _ (hS2.mono (X.fr (by (repeat (first | exact X.refl _ | assumption | refine X.ext ?_ _ | refine X.alloc ?_ _ | refine X.drew ?_))) _)) q5))
          | (go_at_call 63; refine grow_of (compiledAt_s l _ n c B (nth l k).root (nth l k).mod (nth l k).init _ (hD2.mono (X.fr (by (repeat (first | exact X.refl _ | assumption | refine X.ext ?_ _ | refine X.alloc ?_ _ | refine X.drew ?_))) _))))))))
        refine wpQuiet_nil ?_
        rintro _ ⟨y, rfl⟩
        go_wp2
        go_ret
        exact ⟨ret_bool (Hno.out (by simp [coB, *])).symm, hXw.trans (by (repeat (first | exact X.refl _ | assumption | refine X.ext ?_ _ | refine X.alloc ?_ _ | refine X.drew ?_)))⟩
      cases q4 : rangeB (nth l k).stamp 0 99
      · refine wp_region_grow0 (by kernel_rfl) (by kernel_rfl) ?_
        repeat (go_big_quiet_step (((first
          | (go_at_call 38; refine grow_same (inRange_c _ _ _ _))
          | (go_at_call 77; refine grow_of (validName_c (nth l k).mod _ hpk))
          | (go_at_call 78; refine grow_of (validBody_c (nth l k).body _ _ _ _ _ (hS2.mono (X.fr (by (repeat (first | exact X.refl _ | assumption | refine X.ext ?_ _ | refine X.alloc ?_ _ | refine X.drew ?_))) _))))
          | (go_at_call 68; refine grow_of (sizeOf_c (nth l k).body _ _ _ _ _ (hS2.mono (X.fr (by (repeat (first | exact X.refl _ | assumption | refine X.ext ?_ _ | refine X.alloc ?_ _ | refine X.drew ?_))) _))))
          | (go_at_call 69; refine grow_of (hashOf_c (nth l k).body _ _ _ _ _ (hS2.mono (X.fr (by (repeat (first | exact X.refl _ | assumption | refine X.ext ?_ _ | refine X.alloc ?_ _ | refine X.drew ?_))) _)) q5))
          | (go_at_call 63; refine grow_of (compiledAt_s l _ n c B (nth l k).root (nth l k).mod (nth l k).init _ (hD2.mono (X.fr (by (repeat (first | exact X.refl _ | assumption | refine X.ext ?_ _ | refine X.alloc ?_ _ | refine X.drew ?_))) _))))))))
        refine wpQuiet_nil ?_
        rintro _ ⟨y, rfl⟩
        go_wp2
        go_ret
        exact ⟨ret_bool (Hno.out (by simp [coB, *])).symm, hXw.trans (by (repeat (first | exact X.refl _ | assumption | refine X.ext ?_ _ | refine X.alloc ?_ _ | refine X.drew ?_)))⟩
      cases q5 : bodyB (nth l k).body
      · refine wp_region_grow0 (by kernel_rfl) (by kernel_rfl) ?_
        repeat (go_big_quiet_step (((first
          | (go_at_call 38; refine grow_same (inRange_c _ _ _ _))
          | (go_at_call 77; refine grow_of (validName_c (nth l k).mod _ hpk))
          | (go_at_call 78; refine grow_of (validBody_c (nth l k).body _ _ _ _ _ (hS2.mono (X.fr (by (repeat (first | exact X.refl _ | assumption | refine X.ext ?_ _ | refine X.alloc ?_ _ | refine X.drew ?_))) _))))
          | (go_at_call 68; refine grow_of (sizeOf_c (nth l k).body _ _ _ _ _ (hS2.mono (X.fr (by (repeat (first | exact X.refl _ | assumption | refine X.ext ?_ _ | refine X.alloc ?_ _ | refine X.drew ?_))) _))))
          | (go_at_call 69; refine grow_of (hashOf_c (nth l k).body _ _ _ _ _ (hS2.mono (X.fr (by (repeat (first | exact X.refl _ | assumption | refine X.ext ?_ _ | refine X.alloc ?_ _ | refine X.drew ?_))) _)) q5))
          | (go_at_call 63; refine grow_of (compiledAt_s l _ n c B (nth l k).root (nth l k).mod (nth l k).init _ (hD2.mono (X.fr (by (repeat (first | exact X.refl _ | assumption | refine X.ext ?_ _ | refine X.alloc ?_ _ | refine X.drew ?_))) _))))))))
        refine wpQuiet_nil ?_
        rintro _ ⟨y, rfl⟩
        go_wp2
        go_ret
        exact ⟨ret_bool (Hno.out (by simp [coB, *])).symm, hXw.trans (by (repeat (first | exact X.refl _ | assumption | refine X.ext ?_ _ | refine X.alloc ?_ _ | refine X.drew ?_)))⟩
      cases q6 : ((nth l k).size != ((szN (nth l k).body : Nat) : Int))
      case true =>
        refine wp_region_grow0 (by kernel_rfl) (by kernel_rfl) ?_
        repeat (go_big_quiet_step (((first
          | (go_at_call 38; refine grow_same (inRange_c _ _ _ _))
          | (go_at_call 77; refine grow_of (validName_c (nth l k).mod _ hpk))
          | (go_at_call 78; refine grow_of (validBody_c (nth l k).body _ _ _ _ _ (hS2.mono (X.fr (by (repeat (first | exact X.refl _ | assumption | refine X.ext ?_ _ | refine X.alloc ?_ _ | refine X.drew ?_))) _))))
          | (go_at_call 68; refine grow_of (sizeOf_c (nth l k).body _ _ _ _ _ (hS2.mono (X.fr (by (repeat (first | exact X.refl _ | assumption | refine X.ext ?_ _ | refine X.alloc ?_ _ | refine X.drew ?_))) _))))
          | (go_at_call 69; refine grow_of (hashOf_c (nth l k).body _ _ _ _ _ (hS2.mono (X.fr (by (repeat (first | exact X.refl _ | assumption | refine X.ext ?_ _ | refine X.alloc ?_ _ | refine X.drew ?_))) _)) q5))
          | (go_at_call 63; refine grow_of (compiledAt_s l _ n c B (nth l k).root (nth l k).mod (nth l k).init _ (hD2.mono (X.fr (by (repeat (first | exact X.refl _ | assumption | refine X.ext ?_ _ | refine X.alloc ?_ _ | refine X.drew ?_))) _))))))))
        refine wpQuiet_nil ?_
        rintro _ ⟨y, rfl⟩
        go_wp2
        go_ret
        exact ⟨ret_bool (Hno.out (by simp [coB, *])).symm, hXw.trans (by (repeat (first | exact X.refl _ | assumption | refine X.ext ?_ _ | refine X.alloc ?_ _ | refine X.drew ?_)))⟩
      cases q7 : ((nth l k).hash != hashZ (nth l k).body)
      case true =>
        refine wp_region_grow0 (by kernel_rfl) (by kernel_rfl) ?_
        repeat (go_big_quiet_step (((first
          | (go_at_call 38; refine grow_same (inRange_c _ _ _ _))
          | (go_at_call 77; refine grow_of (validName_c (nth l k).mod _ hpk))
          | (go_at_call 78; refine grow_of (validBody_c (nth l k).body _ _ _ _ _ (hS2.mono (X.fr (by (repeat (first | exact X.refl _ | assumption | refine X.ext ?_ _ | refine X.alloc ?_ _ | refine X.drew ?_))) _))))
          | (go_at_call 68; refine grow_of (sizeOf_c (nth l k).body _ _ _ _ _ (hS2.mono (X.fr (by (repeat (first | exact X.refl _ | assumption | refine X.ext ?_ _ | refine X.alloc ?_ _ | refine X.drew ?_))) _))))
          | (go_at_call 69; refine grow_of (hashOf_c (nth l k).body _ _ _ _ _ (hS2.mono (X.fr (by (repeat (first | exact X.refl _ | assumption | refine X.ext ?_ _ | refine X.alloc ?_ _ | refine X.drew ?_))) _)) q5))
          | (go_at_call 63; refine grow_of (compiledAt_s l _ n c B (nth l k).root (nth l k).mod (nth l k).init _ (hD2.mono (X.fr (by (repeat (first | exact X.refl _ | assumption | refine X.ext ?_ _ | refine X.alloc ?_ _ | refine X.drew ?_))) _))))))))
        refine wpQuiet_nil ?_
        rintro _ ⟨y, rfl⟩
        go_wp2
        go_ret
        exact ⟨ret_bool (Hno.out (by simp [coB, *])).symm, hXw.trans (by (repeat (first | exact X.refl _ | assumption | refine X.ext ?_ _ | refine X.alloc ?_ _ | refine X.drew ?_)))⟩
      by_cases q8 : cidx l (nth l k).root (nth l k).mod (nth l k).init n < (k : Int)
      · refine wp_region_grow0 (by kernel_rfl) (by kernel_rfl) ?_
        repeat (go_big_quiet_step (((first
          | (go_at_call 38; refine grow_same (inRange_c _ _ _ _))
          | (go_at_call 77; refine grow_of (validName_c (nth l k).mod _ hpk))
          | (go_at_call 78; refine grow_of (validBody_c (nth l k).body _ _ _ _ _ (hS2.mono (X.fr (by (repeat (first | exact X.refl _ | assumption | refine X.ext ?_ _ | refine X.alloc ?_ _ | refine X.drew ?_))) _))))
          | (go_at_call 68; refine grow_of (sizeOf_c (nth l k).body _ _ _ _ _ (hS2.mono (X.fr (by (repeat (first | exact X.refl _ | assumption | refine X.ext ?_ _ | refine X.alloc ?_ _ | refine X.drew ?_))) _))))
          | (go_at_call 69; refine grow_of (hashOf_c (nth l k).body _ _ _ _ _ (hS2.mono (X.fr (by (repeat (first | exact X.refl _ | assumption | refine X.ext ?_ _ | refine X.alloc ?_ _ | refine X.drew ?_))) _)) q5))
          | (go_at_call 63; refine grow_of (compiledAt_s l _ n c B (nth l k).root (nth l k).mod (nth l k).init _ (hD2.mono (X.fr (by (repeat (first | exact X.refl _ | assumption | refine X.ext ?_ _ | refine X.alloc ?_ _ | refine X.drew ?_))) _))))))))
        refine wpQuiet_nil ?_
        rintro _ ⟨y, rfl⟩
        go_wp2
        go_ret
        exact ⟨ret_bool (Hno.out (by simp [coB, *])).symm, hXw.trans (by (repeat (first | exact X.refl _ | assumption | refine X.ext ?_ _ | refine X.alloc ?_ _ | refine X.drew ?_)))⟩
      refine wp_region_grow0 (by kernel_rfl) (by kernel_rfl) ?_
      repeat (go_big_quiet_step (((first
        | (go_at_call 38; refine grow_same (inRange_c _ _ _ _))
        | (go_at_call 77; refine grow_of (validName_c (nth l k).mod _ hpk))
        | (go_at_call 78; refine grow_of (validBody_c (nth l k).body _ _ _ _ _ (hS2.mono (X.fr (by (repeat (first | exact X.refl _ | assumption | refine X.ext ?_ _ | refine X.alloc ?_ _ | refine X.drew ?_))) _))))
        | (go_at_call 68; refine grow_of (sizeOf_c (nth l k).body _ _ _ _ _ (hS2.mono (X.fr (by (repeat (first | exact X.refl _ | assumption | refine X.ext ?_ _ | refine X.alloc ?_ _ | refine X.drew ?_))) _))))
        | (go_at_call 69; refine grow_of (hashOf_c (nth l k).body _ _ _ _ _ (hS2.mono (X.fr (by (repeat (first | exact X.refl _ | assumption | refine X.ext ?_ _ | refine X.alloc ?_ _ | refine X.drew ?_))) _)) q5))
        | (go_at_call 63; refine grow_of (compiledAt_s l _ n c B (nth l k).root (nth l k).mod (nth l k).init _ (hD2.mono (X.fr (by (repeat (first | exact X.refl _ | assumption | refine X.ext ?_ _ | refine X.alloc ?_ _ | refine X.drew ?_))) _))))))))
      refine wpQuiet_nil ?_
      rintro _ ⟨y, rfl⟩
      go_wp2
      go_roundw
      case rel => exact ⟨k + 1, by omega, by go_num, allN_next hall (by simp [coB, *]), hXw.trans (by (repeat (first | exact X.refl _ | assumption | refine X.ext ?_ _ | refine X.alloc ?_ _ | refine X.drew ?_)))⟩
      case measure => simp [intOf]; omega
    · obtain rfl : k = n := by omega
      go_wp2
      go_ret
      exact ⟨ret_bool (by rw [storeB, ← Hl.out, hall, Bool.true_and]; exact decide_eq_decide.2 (by omega)), hX⟩

end Go.Proofs.YtebnjkjllinabaaDoor

namespace Go.Proofs.YtebnjkjllinabaaDoor
open Go.RowKit

set_option maxHeartbeats 400000 in
theorem modeOk_c' (m : Int) (w : World) : Calls Tryd.prog 34 #[.int .i64 m] w fun e w' => e = .returned (.bool (rangeB m 0 2)) ∧ X w w' := by
  go_enter Tryd.func34, Tryd.ntmps34
  go_wp2_with (go_at_call 40; refine (within_c _ _ _ _).mono ?_; rintro _ _ ⟨rfl, rfl⟩)
  go_ret
  exact ⟨rfl, by (repeat (first | with_reducible exact X.refl _ | with_reducible assumption | with_reducible refine X.setCell ?_ (by first | (simp; done) | (simp; omega)) _ | with_reducible refine X.ext ?_ _ | with_reducible refine X.alloc ?_ _ | with_reducible refine X.drew ?_))⟩
set_option maxRecDepth 100000 in
set_option maxHeartbeats 2000000 in
theorem ValidStore_c (l : List Co) (a : Option Addr) (n c B : Nat) (w : World) (hD : CosAt w B a n l) (hG : Gm w) :
    Calls Tryd.prog 13 #[.slice a n c] w fun e w' => e = .returned (.bool (storeB l)) ∧ X w w' := by
  obtain ⟨hl, hn⟩ := hD.len
  have Hl := Lib.hid hl
  clear hl
  go_enter Tryd.func13, Tryd.ntmps13
  go_wp2
  go_loopw [7] (fun i wr => ∃ k : Nat, k ≤ n ∧ i = .int .i64 k ∧ allN (coB l n) k = true ∧ X w wr) (fun i _ => n - (intOf i).toNat)
  case atStart => exact ⟨0, by omega, rfl, rfl, X.refl _⟩
  case round =>
    obtain ⟨k, hk, rfl, hall, hX⟩ := hrel
    by_cases hlt : k < n
    · obtain ⟨b, off, ba, bn, bc, rfl, _, hb, hpk, _, hS, g0, g1, g2, g3, g4, g5, g6, g7⟩ := (hD.mono (hX.fr _)).at_ (k := k) hlt
      have hD1 := hD.mono (hX.fr _)
      have hG1 := hG.mono hX
      have Hno := Lib.hid (show coB l n k = false → storeB l = false from fun h1 => by
        unfold storeB; rw [← Hl.out, allN_not (k := k) h1 hlt]; rfl)
      have hself := cidx_self (l := l) hlt
      go_wp2_with fail
      refine calls_name (fun W hW => ?_)
      have hB : Bx W wr.heap.size #[.int .i64 (nth l k).root, .string ⟨((nth l k).mod).toArray⟩, .bool (nth l k).init, .int .i64 (nth l k).mode, .int .i64 (nth l k).stamp, .int .i64 (nth l k).size, .int .i64 (nth l k).hash, .slice ba bn bc] := by rw [hW]; exact Bx.new _ _ _
      have hXW : X wr W := by rw [hW]; (repeat (first | with_reducible exact X.refl _ | with_reducible assumption | with_reducible refine X.setCell ?_ (by first | (simp; done) | (simp; omega)) _ | with_reducible refine X.ext ?_ _ | with_reducible refine X.alloc ?_ _ | with_reducible refine X.drew ?_))
      clear hW
      obtain ⟨lb, cb, _⟩ := hB.out
      have e0 := cb 0
      have e1 := cb 1
      have e2 := cb 2
      have e3 := cb 3
      have e4 := cb 4
      have e5 := cb 5
      have e6 := cb 6
      have e7 := cb 7
      clear cb
      have hS2 := hS.mono (hXW.fr _)
      have hD2 := hD1.mono (hXW.fr _)
      have hG2 := hG1.mono hXW
      have hXw := hX.trans hXW
      have hk1 : (k : Int) < (n : Int) := by omega
      refine (within_c _ _ _ _).mono ?_
      rintro _ _ ⟨rfl, rfl⟩
      cases q1 : rangeB (nth l k).root 0 2
      · go_wp2
        go_wp2
        go_ret
        exact ⟨ret_bool (Hno.out (by simp [coB, *])).symm, hXw.trans (by (repeat (first | exact X.refl _ | assumption | refine X.ext ?_ _ | refine X.alloc ?_ _ | refine X.drew ?_)))⟩
      cases q2 : nameB (nth l k).mod
      · go_wp2_with (first
          | (go_at_call 40; refine (within_c _ _ _ _).mono ?_; rintro _ _ ⟨rfl, rfl⟩)
          | (go_at_call 41; refine (ValidName_c (nth l k).mod _ hpk (hG2.mono (by (repeat (first | exact X.refl _ | assumption | refine X.ext ?_ _ | refine X.alloc ?_ _ | refine X.drew ?_))))).mono ?_; rintro _ _ ⟨rfl, hx⟩; replace hx := X.trans (a := W) (by (repeat (first | exact X.refl _ | assumption | refine X.ext ?_ _ | refine X.alloc ?_ _ | refine X.drew ?_))) hx; obtain ⟨x, rfl⟩ := hx)
          | (go_at_call 34; refine (modeOk_c' _ _).mono ?_; rintro _ _ ⟨rfl, hx⟩; replace hx := X.trans (a := W) (by (repeat (first | exact X.refl _ | assumption | refine X.ext ?_ _ | refine X.alloc ?_ _ | refine X.drew ?_))) hx; obtain ⟨x, rfl⟩ := hx)
          | (go_at_call 42; refine (ValidBody_c (nth l k).body _ _ _ _ _ (hS2.mono (X.fr (by (repeat (first | exact X.refl _ | assumption | refine X.ext ?_ _ | refine X.alloc ?_ _ | refine X.drew ?_))) _)) (hG2.mono (by (repeat (first | exact X.refl _ | assumption | refine X.ext ?_ _ | refine X.alloc ?_ _ | refine X.drew ?_))))).mono ?_; rintro _ _ ⟨rfl, hx⟩; replace hx := X.trans (a := W) (by (repeat (first | exact X.refl _ | assumption | refine X.ext ?_ _ | refine X.alloc ?_ _ | refine X.drew ?_))) hx; obtain ⟨x, rfl⟩ := hx))
        go_wp2
        go_ret
        exact ⟨ret_bool (Hno.out (by simp [coB, *])).symm, hXw.trans (by (repeat (first | exact X.refl _ | assumption | refine X.ext ?_ _ | refine X.alloc ?_ _ | refine X.drew ?_)))⟩
      cases q3 : rangeB (nth l k).mode 0 2
      · go_wp2_with (first
          | (go_at_call 40; refine (within_c _ _ _ _).mono ?_; rintro _ _ ⟨rfl, rfl⟩)
          | (go_at_call 41; refine (ValidName_c (nth l k).mod _ hpk (hG2.mono (by (repeat (first | exact X.refl _ | assumption | refine X.ext ?_ _ | refine X.alloc ?_ _ | refine X.drew ?_))))).mono ?_; rintro _ _ ⟨rfl, hx⟩; replace hx := X.trans (a := W) (by (repeat (first | exact X.refl _ | assumption | refine X.ext ?_ _ | refine X.alloc ?_ _ | refine X.drew ?_))) hx; obtain ⟨x, rfl⟩ := hx)
          | (go_at_call 34; refine (modeOk_c' _ _).mono ?_; rintro _ _ ⟨rfl, hx⟩; replace hx := X.trans (a := W) (by (repeat (first | exact X.refl _ | assumption | refine X.ext ?_ _ | refine X.alloc ?_ _ | refine X.drew ?_))) hx; obtain ⟨x, rfl⟩ := hx)
          | (go_at_call 42; refine (ValidBody_c (nth l k).body _ _ _ _ _ (hS2.mono (X.fr (by (repeat (first | exact X.refl _ | assumption | refine X.ext ?_ _ | refine X.alloc ?_ _ | refine X.drew ?_))) _)) (hG2.mono (by (repeat (first | exact X.refl _ | assumption | refine X.ext ?_ _ | refine X.alloc ?_ _ | refine X.drew ?_))))).mono ?_; rintro _ _ ⟨rfl, hx⟩; replace hx := X.trans (a := W) (by (repeat (first | exact X.refl _ | assumption | refine X.ext ?_ _ | refine X.alloc ?_ _ | refine X.drew ?_))) hx; obtain ⟨x, rfl⟩ := hx))
        go_wp2
        go_ret
        exact ⟨ret_bool (Hno.out (by simp [coB, *])).symm, hXw.trans (by (repeat (first | exact X.refl _ | assumption | refine X.ext ?_ _ | refine X.alloc ?_ _ | refine X.drew ?_)))⟩
      cases q4 : rangeB (nth l k).stamp 0 99
      · go_wp2_with (first
          | (go_at_call 40; refine (within_c _ _ _ _).mono ?_; rintro _ _ ⟨rfl, rfl⟩)
          | (go_at_call 41; refine (ValidName_c (nth l k).mod _ hpk (hG2.mono (by (repeat (first | exact X.refl _ | assumption | refine X.ext ?_ _ | refine X.alloc ?_ _ | refine X.drew ?_))))).mono ?_; rintro _ _ ⟨rfl, hx⟩; replace hx := X.trans (a := W) (by (repeat (first | exact X.refl _ | assumption | refine X.ext ?_ _ | refine X.alloc ?_ _ | refine X.drew ?_))) hx; obtain ⟨x, rfl⟩ := hx)
          | (go_at_call 34; refine (modeOk_c' _ _).mono ?_; rintro _ _ ⟨rfl, hx⟩; replace hx := X.trans (a := W) (by (repeat (first | exact X.refl _ | assumption | refine X.ext ?_ _ | refine X.alloc ?_ _ | refine X.drew ?_))) hx; obtain ⟨x, rfl⟩ := hx)
          | (go_at_call 42; refine (ValidBody_c (nth l k).body _ _ _ _ _ (hS2.mono (X.fr (by (repeat (first | exact X.refl _ | assumption | refine X.ext ?_ _ | refine X.alloc ?_ _ | refine X.drew ?_))) _)) (hG2.mono (by (repeat (first | exact X.refl _ | assumption | refine X.ext ?_ _ | refine X.alloc ?_ _ | refine X.drew ?_))))).mono ?_; rintro _ _ ⟨rfl, hx⟩; replace hx := X.trans (a := W) (by (repeat (first | exact X.refl _ | assumption | refine X.ext ?_ _ | refine X.alloc ?_ _ | refine X.drew ?_))) hx; obtain ⟨x, rfl⟩ := hx))
        go_wp2
        go_ret
        exact ⟨ret_bool (Hno.out (by simp [coB, *])).symm, hXw.trans (by (repeat (first | exact X.refl _ | assumption | refine X.ext ?_ _ | refine X.alloc ?_ _ | refine X.drew ?_)))⟩
      cases q5 : bodyB (nth l k).body
      · go_wp2_with (first
          | (go_at_call 40; refine (within_c _ _ _ _).mono ?_; rintro _ _ ⟨rfl, rfl⟩)
          | (go_at_call 41; refine (ValidName_c (nth l k).mod _ hpk (hG2.mono (by (repeat (first | exact X.refl _ | assumption | refine X.ext ?_ _ | refine X.alloc ?_ _ | refine X.drew ?_))))).mono ?_; rintro _ _ ⟨rfl, hx⟩; replace hx := X.trans (a := W) (by (repeat (first | exact X.refl _ | assumption | refine X.ext ?_ _ | refine X.alloc ?_ _ | refine X.drew ?_))) hx; obtain ⟨x, rfl⟩ := hx)
          | (go_at_call 34; refine (modeOk_c' _ _).mono ?_; rintro _ _ ⟨rfl, hx⟩; replace hx := X.trans (a := W) (by (repeat (first | exact X.refl _ | assumption | refine X.ext ?_ _ | refine X.alloc ?_ _ | refine X.drew ?_))) hx; obtain ⟨x, rfl⟩ := hx)
          | (go_at_call 42; refine (ValidBody_c (nth l k).body _ _ _ _ _ (hS2.mono (X.fr (by (repeat (first | exact X.refl _ | assumption | refine X.ext ?_ _ | refine X.alloc ?_ _ | refine X.drew ?_))) _)) (hG2.mono (by (repeat (first | exact X.refl _ | assumption | refine X.ext ?_ _ | refine X.alloc ?_ _ | refine X.drew ?_))))).mono ?_; rintro _ _ ⟨rfl, hx⟩; replace hx := X.trans (a := W) (by (repeat (first | exact X.refl _ | assumption | refine X.ext ?_ _ | refine X.alloc ?_ _ | refine X.drew ?_))) hx; obtain ⟨x, rfl⟩ := hx))
        go_wp2
        go_ret
        exact ⟨ret_bool (Hno.out (by simp [coB, *])).symm, hXw.trans (by (repeat (first | exact X.refl _ | assumption | refine X.ext ?_ _ | refine X.alloc ?_ _ | refine X.drew ?_)))⟩
      cases q6 : ((nth l k).size != ((szN (nth l k).body : Nat) : Int))
      case true =>
        go_wp2_with (first
          | (go_at_call 40; refine (within_c _ _ _ _).mono ?_; rintro _ _ ⟨rfl, rfl⟩)
          | (go_at_call 41; refine (ValidName_c (nth l k).mod _ hpk (hG2.mono (by (repeat (first | exact X.refl _ | assumption | refine X.ext ?_ _ | refine X.alloc ?_ _ | refine X.drew ?_))))).mono ?_; rintro _ _ ⟨rfl, hx⟩; replace hx := X.trans (a := W) (by (repeat (first | exact X.refl _ | assumption | refine X.ext ?_ _ | refine X.alloc ?_ _ | refine X.drew ?_))) hx; obtain ⟨x, rfl⟩ := hx)
          | (go_at_call 34; refine (modeOk_c' _ _).mono ?_; rintro _ _ ⟨rfl, hx⟩; replace hx := X.trans (a := W) (by (repeat (first | exact X.refl _ | assumption | refine X.ext ?_ _ | refine X.alloc ?_ _ | refine X.drew ?_))) hx; obtain ⟨x, rfl⟩ := hx)
          | (go_at_call 42; refine (ValidBody_c (nth l k).body _ _ _ _ _ (hS2.mono (X.fr (by (repeat (first | exact X.refl _ | assumption | refine X.ext ?_ _ | refine X.alloc ?_ _ | refine X.drew ?_))) _)) (hG2.mono (by (repeat (first | exact X.refl _ | assumption | refine X.ext ?_ _ | refine X.alloc ?_ _ | refine X.drew ?_))))).mono ?_; rintro _ _ ⟨rfl, hx⟩; replace hx := X.trans (a := W) (by (repeat (first | exact X.refl _ | assumption | refine X.ext ?_ _ | refine X.alloc ?_ _ | refine X.drew ?_))) hx; obtain ⟨x, rfl⟩ := hx))
        refine wp_region_grow (by kernel_rfl) (by kernel_rfl) ?_
        repeat (go_big_quiet_step (((first
          | (go_at_call 24; refine grow_of (SizeOf_c (nth l k).body _ _ _ _ _ (hS2.mono (X.fr (by (repeat (first | exact X.refl _ | assumption | refine X.ext ?_ _ | refine X.alloc ?_ _ | refine X.drew ?_))) _)) q5 (hG2.mono (by (repeat (first | exact X.refl _ | assumption | refine X.ext ?_ _ | refine X.alloc ?_ _ | refine X.drew ?_))))))
          | (go_at_call 25; refine grow_of (HashOf_c (nth l k).body _ _ _ _ _ (hS2.mono (X.fr (by (repeat (first | exact X.refl _ | assumption | refine X.ext ?_ _ | refine X.alloc ?_ _ | refine X.drew ?_))) _)) q5 (hG2.mono (by (repeat (first | exact X.refl _ | assumption | refine X.ext ?_ _ | refine X.alloc ?_ _ | refine X.drew ?_))))))
          | (go_at_call 43; refine grow_of (compiledAt_i l _ n c B (nth l k).root (nth l k).mod (nth l k).init _ (hD2.mono (X.fr (by (repeat (first | exact X.refl _ | assumption | refine X.ext ?_ _ | refine X.alloc ?_ _ | refine X.drew ?_))) _))))))))
        refine wpQuiet_nil ?_
        rintro _ ⟨y, rfl⟩
        go_wp2
        go_ret
        exact ⟨ret_bool (Hno.out (by simp [coB, *])).symm, hXw.trans (by (repeat (first | exact X.refl _ | assumption | refine X.ext ?_ _ | refine X.alloc ?_ _ | refine X.drew ?_)))⟩
      cases q7 : ((nth l k).hash != hashZ (nth l k).body)
      case true =>
        go_wp2_with (first
          | (go_at_call 40; refine (within_c _ _ _ _).mono ?_; rintro _ _ ⟨rfl, rfl⟩)
          | (go_at_call 41; refine (ValidName_c (nth l k).mod _ hpk (hG2.mono (by (repeat (first | exact X.refl _ | assumption | refine X.ext ?_ _ | refine X.alloc ?_ _ | refine X.drew ?_))))).mono ?_; rintro _ _ ⟨rfl, hx⟩; replace hx := X.trans (a := W) (by (repeat (first | exact X.refl _ | assumption | refine X.ext ?_ _ | refine X.alloc ?_ _ | refine X.drew ?_))) hx; obtain ⟨x, rfl⟩ := hx)
          | (go_at_call 34; refine (modeOk_c' _ _).mono ?_; rintro _ _ ⟨rfl, hx⟩; replace hx := X.trans (a := W) (by (repeat (first | exact X.refl _ | assumption | refine X.ext ?_ _ | refine X.alloc ?_ _ | refine X.drew ?_))) hx; obtain ⟨x, rfl⟩ := hx)
          | (go_at_call 42; refine (ValidBody_c (nth l k).body _ _ _ _ _ (hS2.mono (X.fr (by (repeat (first | exact X.refl _ | assumption | refine X.ext ?_ _ | refine X.alloc ?_ _ | refine X.drew ?_))) _)) (hG2.mono (by (repeat (first | exact X.refl _ | assumption | refine X.ext ?_ _ | refine X.alloc ?_ _ | refine X.drew ?_))))).mono ?_; rintro _ _ ⟨rfl, hx⟩; replace hx := X.trans (a := W) (by (repeat (first | exact X.refl _ | assumption | refine X.ext ?_ _ | refine X.alloc ?_ _ | refine X.drew ?_))) hx; obtain ⟨x, rfl⟩ := hx))
        refine wp_region_grow (by kernel_rfl) (by kernel_rfl) ?_
        repeat (go_big_quiet_step (((first
          | (go_at_call 24; refine grow_of (SizeOf_c (nth l k).body _ _ _ _ _ (hS2.mono (X.fr (by (repeat (first | exact X.refl _ | assumption | refine X.ext ?_ _ | refine X.alloc ?_ _ | refine X.drew ?_))) _)) q5 (hG2.mono (by (repeat (first | exact X.refl _ | assumption | refine X.ext ?_ _ | refine X.alloc ?_ _ | refine X.drew ?_))))))
          | (go_at_call 25; refine grow_of (HashOf_c (nth l k).body _ _ _ _ _ (hS2.mono (X.fr (by (repeat (first | exact X.refl _ | assumption | refine X.ext ?_ _ | refine X.alloc ?_ _ | refine X.drew ?_))) _)) q5 (hG2.mono (by (repeat (first | exact X.refl _ | assumption | refine X.ext ?_ _ | refine X.alloc ?_ _ | refine X.drew ?_))))))
          | (go_at_call 43; refine grow_of (compiledAt_i l _ n c B (nth l k).root (nth l k).mod (nth l k).init _ (hD2.mono (X.fr (by (repeat (first | exact X.refl _ | assumption | refine X.ext ?_ _ | refine X.alloc ?_ _ | refine X.drew ?_))) _))))))))
        refine wpQuiet_nil ?_
        rintro _ ⟨y, rfl⟩
        go_wp2
        go_ret
        exact ⟨ret_bool (Hno.out (by simp [coB, *])).symm, hXw.trans (by (repeat (first | exact X.refl _ | assumption | refine X.ext ?_ _ | refine X.alloc ?_ _ | refine X.drew ?_)))⟩
      by_cases q8 : cidx l (nth l k).root (nth l k).mod (nth l k).init n < (k : Int)
      · have q9 : (cidx l (nth l k).root (nth l k).mod (nth l k).init n != (k : Int)) = true := by simp; omega
        go_wp2_with (first
          | (go_at_call 40; refine (within_c _ _ _ _).mono ?_; rintro _ _ ⟨rfl, rfl⟩)
          | (go_at_call 41; refine (ValidName_c (nth l k).mod _ hpk (hG2.mono (by (repeat (first | exact X.refl _ | assumption | refine X.ext ?_ _ | refine X.alloc ?_ _ | refine X.drew ?_))))).mono ?_; rintro _ _ ⟨rfl, hx⟩; replace hx := X.trans (a := W) (by (repeat (first | exact X.refl _ | assumption | refine X.ext ?_ _ | refine X.alloc ?_ _ | refine X.drew ?_))) hx; obtain ⟨x, rfl⟩ := hx)
          | (go_at_call 34; refine (modeOk_c' _ _).mono ?_; rintro _ _ ⟨rfl, hx⟩; replace hx := X.trans (a := W) (by (repeat (first | exact X.refl _ | assumption | refine X.ext ?_ _ | refine X.alloc ?_ _ | refine X.drew ?_))) hx; obtain ⟨x, rfl⟩ := hx)
          | (go_at_call 42; refine (ValidBody_c (nth l k).body _ _ _ _ _ (hS2.mono (X.fr (by (repeat (first | exact X.refl _ | assumption | refine X.ext ?_ _ | refine X.alloc ?_ _ | refine X.drew ?_))) _)) (hG2.mono (by (repeat (first | exact X.refl _ | assumption | refine X.ext ?_ _ | refine X.alloc ?_ _ | refine X.drew ?_))))).mono ?_; rintro _ _ ⟨rfl, hx⟩; replace hx := X.trans (a := W) (by (repeat (first | exact X.refl _ | assumption | refine X.ext ?_ _ | refine X.alloc ?_ _ | refine X.drew ?_))) hx; obtain ⟨x, rfl⟩ := hx))
        refine wp_region_grow (by kernel_rfl) (by kernel_rfl) ?_
        repeat (go_big_quiet_step (((first
          | (go_at_call 24; refine grow_of (SizeOf_c (nth l k).body _ _ _ _ _ (hS2.mono (X.fr (by (repeat (first | exact X.refl _ | assumption | refine X.ext ?_ _ | refine X.alloc ?_ _ | refine X.drew ?_))) _)) q5 (hG2.mono (by (repeat (first | exact X.refl _ | assumption | refine X.ext ?_ _ | refine X.alloc ?_ _ | refine X.drew ?_))))))
          | (go_at_call 25; refine grow_of (HashOf_c (nth l k).body _ _ _ _ _ (hS2.mono (X.fr (by (repeat (first | exact X.refl _ | assumption | refine X.ext ?_ _ | refine X.alloc ?_ _ | refine X.drew ?_))) _)) q5 (hG2.mono (by (repeat (first | exact X.refl _ | assumption | refine X.ext ?_ _ | refine X.alloc ?_ _ | refine X.drew ?_))))))
          | (go_at_call 43; refine grow_of (compiledAt_i l _ n c B (nth l k).root (nth l k).mod (nth l k).init _ (hD2.mono (X.fr (by (repeat (first | exact X.refl _ | assumption | refine X.ext ?_ _ | refine X.alloc ?_ _ | refine X.drew ?_))) _))))))))
        refine wpQuiet_nil ?_
        rintro _ ⟨y, rfl⟩
        go_wp2
        go_ret
        exact ⟨ret_bool (Hno.out (by simp [coB, *])).symm, hXw.trans (by (repeat (first | exact X.refl _ | assumption | refine X.ext ?_ _ | refine X.alloc ?_ _ | refine X.drew ?_)))⟩
      have q9 : (cidx l (nth l k).root (nth l k).mod (nth l k).init n != (k : Int)) = false := by simp; omega
      go_wp2_with (first
        | (go_at_call 40; refine (within_c _ _ _ _).mono ?_; rintro _ _ ⟨rfl, rfl⟩)
        | (go_at_call 41; refine (ValidName_c (nth l k).mod _ hpk (hG2.mono (by (repeat (first | exact X.refl _ | assumption | refine X.ext ?_ _ | refine X.alloc ?_ _ | refine X.drew ?_))))).mono ?_; rintro _ _ ⟨rfl, hx⟩; replace hx := X.trans (a := W) (by (repeat (first | exact X.refl _ | assumption | refine X.ext ?_ _ | refine X.alloc ?_ _ | refine X.drew ?_))) hx; obtain ⟨x, rfl⟩ := hx)
        | (go_at_call 34; refine (modeOk_c' _ _).mono ?_; rintro _ _ ⟨rfl, hx⟩; replace hx := X.trans (a := W) (by (repeat (first | exact X.refl _ | assumption | refine X.ext ?_ _ | refine X.alloc ?_ _ | refine X.drew ?_))) hx; obtain ⟨x, rfl⟩ := hx)
        | (go_at_call 42; refine (ValidBody_c (nth l k).body _ _ _ _ _ (hS2.mono (X.fr (by (repeat (first | exact X.refl _ | assumption | refine X.ext ?_ _ | refine X.alloc ?_ _ | refine X.drew ?_))) _)) (hG2.mono (by (repeat (first | exact X.refl _ | assumption | refine X.ext ?_ _ | refine X.alloc ?_ _ | refine X.drew ?_))))).mono ?_; rintro _ _ ⟨rfl, hx⟩; replace hx := X.trans (a := W) (by (repeat (first | exact X.refl _ | assumption | refine X.ext ?_ _ | refine X.alloc ?_ _ | refine X.drew ?_))) hx; obtain ⟨x, rfl⟩ := hx))
      refine wp_region_grow (by kernel_rfl) (by kernel_rfl) ?_
      repeat (go_big_quiet_step (((first
        | (go_at_call 24; refine grow_of (SizeOf_c (nth l k).body _ _ _ _ _ (hS2.mono (X.fr (by (repeat (first | exact X.refl _ | assumption | refine X.ext ?_ _ | refine X.alloc ?_ _ | refine X.drew ?_))) _)) q5 (hG2.mono (by (repeat (first | exact X.refl _ | assumption | refine X.ext ?_ _ | refine X.alloc ?_ _ | refine X.drew ?_))))))
        | (go_at_call 25; refine grow_of (HashOf_c (nth l k).body _ _ _ _ _ (hS2.mono (X.fr (by (repeat (first | exact X.refl _ | assumption | refine X.ext ?_ _ | refine X.alloc ?_ _ | refine X.drew ?_))) _)) q5 (hG2.mono (by (repeat (first | exact X.refl _ | assumption | refine X.ext ?_ _ | refine X.alloc ?_ _ | refine X.drew ?_))))))
        | (go_at_call 43; refine grow_of (compiledAt_i l _ n c B (nth l k).root (nth l k).mod (nth l k).init _ (hD2.mono (X.fr (by (repeat (first | exact X.refl _ | assumption | refine X.ext ?_ _ | refine X.alloc ?_ _ | refine X.drew ?_))) _))))))))
      refine wpQuiet_nil ?_
      rintro _ ⟨y, rfl⟩
      go_wp2
      go_roundw
      case rel => exact ⟨k + 1, by omega, by go_num, allN_next hall (by simp [coB, *]), hXw.trans (by (repeat (first | exact X.refl _ | assumption | refine X.ext ?_ _ | refine X.alloc ?_ _ | refine X.drew ?_)))⟩
      case measure => simp [intOf]; omega
    · obtain rfl : k = n := by omega
      go_wp2
      go_ret
      exact ⟨ret_bool (by rw [storeB, ← Hl.out, hall, Bool.true_and]; exact decide_eq_decide.2 (by omega)), hX⟩

end Go.Proofs.YtebnjkjllinabaaDoor

namespace Go.Proofs.YtebnjkjllinabaaDoor
open Go.RowKit

def usableB (c : Co) (f : Fi) : Bool := if c.mode == 0 then c.stamp == f.stamp && c.size == ((szN f.body : Nat) : Int) else if c.mode == 1 then c.hash == hashZ f.body else true
set_option maxRecDepth 100000 in
set_option maxHeartbeats 2000000 in
theorem usable_s (c : Co) (bv : Value) (f : Fi) (ba : Option Addr) (bn bc B : Nat) (w : World) (hS : StmtsAt w B ba bn f.body) (hv : bodyB f.body = true) :
    Calls Tryd.prog 64 #[.agg #[.int .i64 (c).root, .string ⟨(c).mod.toArray⟩, .bool (c).init, .int .i64 (c).mode, .int .i64 (c).stamp, .int .i64 (c).size, .int .i64 (c).hash, bv], .agg #[.int .i64 (f).root, .string ⟨(f).pkg.toArray⟩, .string ⟨(f).name.toArray⟩, .bool (f).init, .int .i64 (f).stamp, .slice ba bn bc]] w fun e w' => e = .returned (.bool (usableB c f)) ∧ X w w' := by
  cases m0 : c.mode == 0
  case true =>
    cases m2 : c.stamp == f.stamp <;> cases m3 : c.size == ((szN f.body : Nat) : Int)
    all_goals
      go_enter Tryd.func64, Tryd.ntmps64
      go_wp2
      refine wp_region_grow0 (by kernel_rfl) (by kernel_rfl) ?_
      repeat (go_big_quiet_step (((first | (go_at_call 68; refine grow_of (sizeOf_c f.body _ _ _ _ _ (hS.mono (X.fr (by (repeat (first | exact X.refl _ | assumption | refine X.ext ?_ _ | refine X.alloc ?_ _ | refine X.drew ?_))) _)))) | (go_at_call 69; refine grow_of (hashOf_c f.body _ _ _ _ _ (hS.mono (X.fr (by (repeat (first | exact X.refl _ | assumption | refine X.ext ?_ _ | refine X.alloc ?_ _ | refine X.drew ?_))) _)) hv))))))
      refine wpQuiet_nil ?_
      rintro _ ⟨y, rfl⟩
      go_wp2
      go_ret
      exact ⟨ret_bool (by simp [usableB, *]), by (repeat (first | exact X.refl _ | assumption | refine X.ext ?_ _ | refine X.alloc ?_ _ | refine X.drew ?_))⟩
  cases m1 : c.mode == 1
  · go_enter Tryd.func64, Tryd.ntmps64
    go_wp2
    go_ret
    exact ⟨ret_bool (by simp [usableB, *]), by (repeat (first | exact X.refl _ | assumption | refine X.ext ?_ _ | refine X.alloc ?_ _ | refine X.drew ?_))⟩
  cases m3 : c.hash == hashZ f.body
  all_goals
    go_enter Tryd.func64, Tryd.ntmps64
    go_wp2
    refine wp_region_grow0 (by kernel_rfl) (by kernel_rfl) ?_
    repeat (go_big_quiet_step (((first | (go_at_call 68; refine grow_of (sizeOf_c f.body _ _ _ _ _ (hS.mono (X.fr (by (repeat (first | exact X.refl _ | assumption | refine X.ext ?_ _ | refine X.alloc ?_ _ | refine X.drew ?_))) _)))) | (go_at_call 69; refine grow_of (hashOf_c f.body _ _ _ _ _ (hS.mono (X.fr (by (repeat (first | exact X.refl _ | assumption | refine X.ext ?_ _ | refine X.alloc ?_ _ | refine X.drew ?_))) _)) hv))))))
    refine wpQuiet_nil ?_
    rintro _ ⟨y, rfl⟩
    go_wp2
    go_ret
    exact ⟨ret_bool (by simp [usableB, *]), by (repeat (first | exact X.refl _ | assumption | refine X.ext ?_ _ | refine X.alloc ?_ _ | refine X.drew ?_))⟩
set_option maxRecDepth 100000 in
set_option maxHeartbeats 2000000 in
theorem usable_i (c : Co) (bv : Value) (f : Fi) (ba : Option Addr) (bn bc B : Nat) (w : World) (hS : StmtsAt w B ba bn f.body) (hv : bodyB f.body = true) (hG : Gm w) :
    Calls Tryd.prog 55 #[.agg #[.int .i64 (c).root, .string ⟨(c).mod.toArray⟩, .bool (c).init, .int .i64 (c).mode, .int .i64 (c).stamp, .int .i64 (c).size, .int .i64 (c).hash, bv], .agg #[.int .i64 (f).root, .string ⟨(f).pkg.toArray⟩, .string ⟨(f).name.toArray⟩, .bool (f).init, .int .i64 (f).stamp, .slice ba bn bc]] w fun e w' => e = .returned (.bool (usableB c f)) ∧ X w w' := by
  cases m0 : c.mode == 0
  case true =>
    cases m2 : c.stamp == f.stamp <;> cases m3 : c.size == ((szN f.body : Nat) : Int)
    all_goals
      go_enter Tryd.func55, Tryd.ntmps55
      go_wp2
      refine wp_region_grow0 (by kernel_rfl) (by kernel_rfl) ?_
      repeat (go_big_quiet_step (((first | (go_at_call 24; refine grow_of (SizeOf_c f.body _ _ _ _ _ (hS.mono (X.fr (by (repeat (first | exact X.refl _ | assumption | refine X.ext ?_ _ | refine X.alloc ?_ _ | refine X.drew ?_))) _)) hv (hG.mono (by (repeat (first | exact X.refl _ | assumption | refine X.ext ?_ _ | refine X.alloc ?_ _ | refine X.drew ?_)))))) | (go_at_call 25; refine grow_of (HashOf_c f.body _ _ _ _ _ (hS.mono (X.fr (by (repeat (first | exact X.refl _ | assumption | refine X.ext ?_ _ | refine X.alloc ?_ _ | refine X.drew ?_))) _)) hv (hG.mono (by (repeat (first | exact X.refl _ | assumption | refine X.ext ?_ _ | refine X.alloc ?_ _ | refine X.drew ?_))))))))))
      refine wpQuiet_nil ?_
      rintro _ ⟨y, rfl⟩
      go_wp2
      go_ret
      exact ⟨ret_bool (by simp [usableB, *]), by (repeat (first | exact X.refl _ | assumption | refine X.ext ?_ _ | refine X.alloc ?_ _ | refine X.drew ?_))⟩
  cases m1 : c.mode == 1
  · go_enter Tryd.func55, Tryd.ntmps55
    go_wp2
    go_ret
    exact ⟨ret_bool (by simp [usableB, *]), by (repeat (first | exact X.refl _ | assumption | refine X.ext ?_ _ | refine X.alloc ?_ _ | refine X.drew ?_))⟩
  cases m3 : c.hash == hashZ f.body
  all_goals
    go_enter Tryd.func55, Tryd.ntmps55
    go_wp2
    refine wp_region_grow0 (by kernel_rfl) (by kernel_rfl) ?_
    repeat (go_big_quiet_step (((first | (go_at_call 24; refine grow_of (SizeOf_c f.body _ _ _ _ _ (hS.mono (X.fr (by (repeat (first | exact X.refl _ | assumption | refine X.ext ?_ _ | refine X.alloc ?_ _ | refine X.drew ?_))) _)) hv (hG.mono (by (repeat (first | exact X.refl _ | assumption | refine X.ext ?_ _ | refine X.alloc ?_ _ | refine X.drew ?_)))))) | (go_at_call 25; refine grow_of (HashOf_c f.body _ _ _ _ _ (hS.mono (X.fr (by (repeat (first | exact X.refl _ | assumption | refine X.ext ?_ _ | refine X.alloc ?_ _ | refine X.drew ?_))) _)) hv (hG.mono (by (repeat (first | exact X.refl _ | assumption | refine X.ext ?_ _ | refine X.alloc ?_ _ | refine X.drew ?_))))))))))
    refine wpQuiet_nil ?_
    rintro _ ⟨y, rfl⟩
    go_wp2
    go_ret
    exact ⟨ret_bool (by simp [usableB, *]), by (repeat (first | exact X.refl _ | assumption | refine X.ext ?_ _ | refine X.alloc ?_ _ | refine X.drew ?_))⟩

end Go.Proofs.YtebnjkjllinabaaDoor
