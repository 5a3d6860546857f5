/- ValidStore, both sides: the walks. No condition but lengths. -/
import Derived.Test.YtjlooplpjliaiaaDoorCoAt
import Derived.Test.YtjlooplpjliaiaaDoorHashI
namespace Go.Proofs.YtjlooplpjliaiaaDoor
open Go.RowKit

def coB (l : List Co) (n k : Nat) : Bool :=
  rangeB (nth l k).root 0 2 && nameB (nth l k).mod && rangeB (nth l k).mode 0 2 && rangeB (nth l k).stamp 0 99 && bodyB (nth l k).body && !((nth l k).size != ((szN (nth l k).body : Nat) : Int)) && !((nth l k).hash != hashZ (nth l k).body) &&
    !decide (cidx l (nth l k).root (nth l k).mod (nth l k).init n < (k : Int))
def storeB (l : List Co) : Bool := allN (coB l l.length) l.length && decide (l.length ≤ 12)
theorem cidx_self {l : List Co} {n k : Nat} (_hk : k < n) : cidx l (nth l k).root (nth l k).mod (nth l k).init n ≤ (k : Int) := by
  rcases firstN_cases (fun j => sameC (nth l j) (nth l k).root (nth l k).mod (nth l k).init) n with ⟨_, h⟩ | ⟨j, hj, h1, h2, h⟩
  · rw [show cidx l (nth l k).root (nth l k).mod (nth l k).init n = -1 from h]; omega
  · rw [show cidx l (nth l k).root (nth l k).mod (nth l k).init n = (j : Int) from h]
    rcases Nat.lt_or_ge k j with h4 | h4
    · have := anyN_false.1 h2 k h4
      simp [sameC] at this
    · omega

set_option maxRecDepth 100000 in
set_option maxHeartbeats 2000000 in
theorem validStore_c (l : List Co) (a : Option Addr) (n c B : Nat) (w : World) (hD : CosAt w B a n l) :
    Calls Tryd.prog 48 #[.slice a n c] w fun e w' => e = .returned (.bool (storeB l)) ∧ X w w' := by
  obtain ⟨hl, hn⟩ := hD.len
  have Hl := Lib.hid hl
  clear hl
  go_enter Tryd.func48, Tryd.ntmps48
  go_wp2
  go_loopw [3] (fun i wr => ∃ k : Nat, k ≤ n ∧ i = .int .i64 k ∧ allN (coB l n) k = true ∧ X w wr) (fun i _ => n - (intOf i).toNat)
  case atStart => exact ⟨0, by omega, rfl, rfl, X.refl _⟩
  case round =>
    obtain ⟨k, hk, rfl, hall, hX⟩ := hrel
    by_cases hlt : k < n
    · obtain ⟨b, off, ba, bn, bc, rfl, _, hb, hpk, _, hS, g0, g1, g2, g3, g4, g5, g6, g7⟩ := (hD.mono (hX.fr _)).at_ (k := k) hlt
      have hD1 := hD.mono (hX.fr _)
      have Hno := Lib.hid (show coB l n k = false → storeB l = false from fun h1 => by
        unfold storeB; rw [← Hl.out, allN_not (k := k) h1 hlt]; rfl)
      go_wp2
      refine wp_name (fun W hW => ?_)
      have hB : Bx W wr.heap.size #[.int .i64 (nth l k).root, .string ⟨((nth l k).mod).toArray⟩, .bool (nth l k).init, .int .i64 (nth l k).mode, .int .i64 (nth l k).stamp, .int .i64 (nth l k).size, .int .i64 (nth l k).hash, .slice ba bn bc] := by rw [hW]; first | exact Bx.new _ _ _ | exact co8n _ _ _ _ _ _ _ _ _
      have hXW : X wr W := by rw [hW]; (repeat (first | with_reducible exact X.refl _ | with_reducible assumption | with_reducible refine X.setCell ?_ (by first | (simp; done) | (simp; omega)) _ | with_reducible refine X.ext ?_ _ | with_reducible refine X.alloc ?_ _ | with_reducible refine X.drew ?_))
      clear hW
      obtain ⟨lb, cb, _⟩ := hB.out
      have e0 := cb 0
      have e1 := cb 1
      have e2 := cb 2
      have e3 := cb 3
      have e4 := cb 4
      have e5 := cb 5
      have e6 := cb 6
      have e7 := cb 7
      clear cb
      have hS2 := hS.mono (hXW.fr _)
      have hD2 := hD1.mono (hXW.fr _)
      have hXw := hX.trans hXW
      have hk1 : (k : Int) < (n : Int) := by omega
      cases q1 : rangeB (nth l k).root 0 2
      · refine wp_region_grow0 (by kernel_rfl) (by kernel_rfl) ?_
        repeat (go_big_quiet_step (((first
          | (go_at_call 36; refine grow_same (inRange_c _ _ _ _))
          | (go_at_call 77; refine grow_of (validName_c (nth l k).mod _ hpk))
          | (go_at_call 78; refine grow_of (validBody_c (nth l k).body _ _ _ _ _ (hS2.mono (X.fr (by (repeat (first | exact X.refl _ | assumption | refine X.ext ?_ _ | refine X.alloc ?_ _ | refine X.drew ?_))) _))))
          | (go_at_call 70; refine grow_of (sizeOf_c (nth l k).body _ _ _ _ _ (hS2.mono (X.fr (by (repeat (first | exact X.refl _ | assumption | refine X.ext ?_ _ | refine X.alloc ?_ _ | refine X.drew ?_))) _))))
          | (go_at_call 71; refine grow_of (hashOf_c (nth l k).body _ _ _ _ _ (hS2.mono (X.fr (by (repeat (first | exact X.refl _ | assumption | refine X.ext ?_ _ | refine X.alloc ?_ _ | refine X.drew ?_))) _)) q5))
          | (go_at_call 65; refine grow_of (compiledAt_s l _ n c B (nth l k).root (nth l k).mod (nth l k).init _ (hD2.mono (X.fr (by (repeat (first | exact X.refl _ | assumption | refine X.ext ?_ _ | refine X.alloc ?_ _ | refine X.drew ?_))) _))))))))
        refine wpQuiet_nil ?_
        rintro _ ⟨y, rfl⟩
        go_wp2
        go_ret
        exact ⟨ret_bool (Hno.out (by simp [coB, *])).symm, hXw.trans (by (repeat (first | exact X.refl _ | assumption | refine X.ext ?_ _ | refine X.alloc ?_ _ | refine X.drew ?_)))⟩
      cases q2 : nameB (nth l k).mod
      · refine wp_region_grow0 (by kernel_rfl) (by kernel_rfl) ?_
        repeat (go_big_quiet_step (((first
          | (go_at_call 36; refine grow_same (inRange_c _ _ _ _))
          | (go_at_call 77; refine grow_of (validName_c (nth l k).mod _ hpk))
          | (go_at_call 78; refine grow_of (validBody_c (nth l k).body _ _ _ _ _ (hS2.mono (X.fr (by (repeat (first | exact X.refl _ | assumption | refine X.ext ?_ _ | refine X.alloc ?_ _ | refine X.drew ?_))) _))))
          | (go_at_call 70; refine grow_of (sizeOf_c (nth l k).body _ _ _ _ _ (hS2.mono (X.fr (by (repeat (first | exact X.refl _ | assumption | refine X.ext ?_ _ | refine X.alloc ?_ _ | refine X.drew ?_))) _))))
          | (go_at_call 71; refine grow_of (hashOf_c (nth l k).body _ _ _ _ _ (hS2.mono (X.fr (by (repeat (first | exact X.refl _ | assumption | refine X.ext ?_ _ | refine X.alloc ?_ _ | refine X.drew ?_))) _)) q5))
          | (go_at_call 65; refine grow_of (compiledAt_s l _ n c B (nth l k).root (nth l k).mod (nth l k).init _ (hD2.mono (X.fr (by (repeat (first | exact X.refl _ | assumption | refine X.ext ?_ _ | refine X.alloc ?_ _ | refine X.drew ?_))) _))))))))
        refine wpQuiet_nil ?_
        rintro _ ⟨y, rfl⟩
        go_wp2
        go_ret
        exact ⟨ret_bool (Hno.out (by simp [coB, *])).symm, hXw.trans (by (repeat (first | exact X.refl _ | assumption | refine X.ext ?_ _ | refine X.alloc ?_ _ | refine X.drew ?_)))⟩
      cases q3 : rangeB (nth l k).mode 0 2
      · refine wp_region_grow0 (by kernel_rfl) (by kernel_rfl) ?_
        repeat (go_big_quiet_step (((first
          | (go_at_call 36; refine grow_same (inRange_c _ _ _ _))
          | (go_at_call 77; refine grow_of (validName_c (nth l k).mod _ hpk))
          | (go_at_call 78; refine grow_of (validBody_c (nth l k).body _ _ _ _ _ (hS2.mono (X.fr (by (repeat (first | exact X.refl _ | assumption | refine X.ext ?_ _ | refine X.alloc ?_ _ | refine X.drew ?_))) _))))
          | (go_at_call 70; refine grow_of (sizeOf_c (nth l k).body _ _ _ _ _ (hS2.mono (X.fr (by (repeat (first | exact X.refl _ | assumption | refine X.ext ?_ _ | refine X.alloc ?_ _ | refine X.drew ?_))) _))))
          | (go_at_call 71; refine grow_of (hashOf_c (nth l k).body _ _ _ _ _ (hS2.mono (X.fr (by (repeat (first | exact X.refl _ | assumption | refine X.ext ?_ _ | refine X.alloc ?_ _ | refine X.drew ?_))) _)) q5))
          | (go_at_call 65; refine grow_of (compiledAt_s l _ n c B (nth l k).root (nth l k).mod (nth l k).init _ (hD2.mono (X.fr (by (repeat (first | exact X.refl _ | assumption | refine X.ext ?_ _ | refine X.alloc ?_ _ | refine X.drew ?_))) _))))))))
        refine wpQuiet_nil ?_
        rintro _ ⟨y, rfl⟩
        go_wp2
        go_ret
        exact ⟨ret_bool (Hno.out (by simp [coB, *])).symm, hXw.trans (by (repeat (first | exact X.refl _ | assumption | refine X.ext ?_ _ | refine X.alloc ?_ _ | refine X.drew ?_)))⟩
      cases q4 : rangeB (nth l k).stamp 0 99
      · refine wp_region_grow0 (by kernel_rfl) (by kernel_rfl) ?_
        repeat (go_big_quiet_step (((first
          | (go_at_call 36; refine grow_same (inRange_c _ _ _ _))
          | (go_at_call 77; refine grow_of (validName_c (nth l k).mod _ hpk))
          | (go_at_call 78; refine grow_of (validBody_c (nth l k).body _ _ _ _ _ (hS2.mono (X.fr (by (repeat (first | exact X.refl _ | assumption | refine X.ext ?_ _ | refine X.alloc ?_ _ | refine X.drew ?_))) _))))
          | (go_at_call 70; refine grow_of (sizeOf_c (nth l k).body _ _ _ _ _ (hS2.mono (X.fr (by (repeat (first | exact X.refl _ | assumption | refine X.ext ?_ _ | refine X.alloc ?_ _ | refine X.drew ?_))) _))))
          | (go_at_call 71; refine grow_of (hashOf_c (nth l k).body _ _ _ _ _ (hS2.mono (X.fr (by (repeat (first | exact X.refl _ | assumption | refine X.ext ?_ _ | refine X.alloc ?_ _ | refine X.drew ?_))) _)) q5))
          | (go_at_call 65; refine grow_of (compiledAt_s l _ n c B (nth l k).root (nth l k).mod (nth l k).init _ (hD2.mono (X.fr (by (repeat (first | exact X.refl _ | assumption | refine X.ext ?_ _ | refine X.alloc ?_ _ | refine X.drew ?_))) _))))))))
        refine wpQuiet_nil ?_
        rintro _ ⟨y, rfl⟩
        go_wp2
        go_ret
        exact ⟨ret_bool (Hno.out (by simp [coB, *])).symm, hXw.trans (by (repeat (first | exact X.refl _ | assumption | refine X.ext ?_ _ | refine X.alloc ?_ _ | refine X.drew ?_)))⟩
      cases q5 : bodyB (nth l k).body
      · refine wp_region_grow0 (by kernel_rfl) (by kernel_rfl) ?_
        repeat (go_big_quiet_step (((first
          | (go_at_call 36; refine grow_same (inRange_c _ _ _ _))
          | (go_at_call 77; refine grow_of (validName_c (nth l k).mod _ hpk))
          | (go_at_call 78; refine grow_of (validBody_c (nth l k).body _ _ _ _ _ (hS2.mono (X.fr (by (repeat (first | exact X.refl _ | assumption | refine X.ext ?_ _ | refine X.alloc ?_ _ | refine X.drew ?_))) _))))
          | (go_at_call 70; refine grow_of (sizeOf_c (nth l k).body _ _ _ _ _ (hS2.mono (X.fr (by (repeat (first | exact X.refl _ | assumption | refine X.ext ?_ _ | refine X.alloc ?_ _ | refine X.drew ?_))) _))))
          | (go_at_call 71; refine grow_of (hashOf_c (nth l k).body _ _ _ _ _ (hS2.mono (X.fr (by (repeat (first | exact X.refl _ | assumption | refine X.ext ?_ _ | refine X.alloc ?_ _ | refine X.drew ?_))) _)) q5))
          | (go_at_call 65; refine grow_of (compiledAt_s l _ n c B (nth l k).root (nth l k).mod (nth l k).init _ (hD2.mono (X.fr (by (repeat (first | exact X.refl _ | assumption | refine X.ext ?_ _ | refine X.alloc ?_ _ | refine X.drew ?_))) _))))))))
        refine wpQuiet_nil ?_
        rintro _ ⟨y, rfl⟩
        go_wp2
        go_ret
        exact ⟨ret_bool (Hno.out (by simp [coB, *])).symm, hXw.trans (by (repeat (first | exact X.refl _ | assumption | refine X.ext ?_ _ | refine X.alloc ?_ _ | refine X.drew ?_)))⟩
      cases q6 : ((nth l k).size != ((szN (nth l k).body : Nat) : Int))
      case true =>
        refine wp_region_grow0 (by kernel_rfl) (by kernel_rfl) ?_
        repeat (go_big_quiet_step (((first
          | (go_at_call 36; refine grow_same (inRange_c _ _ _ _))
          | (go_at_call 77; refine grow_of (validName_c (nth l k).mod _ hpk))
          | (go_at_call 78; refine grow_of (validBody_c (nth l k).body _ _ _ _ _ (hS2.mono (X.fr (by (repeat (first | exact X.refl _ | assumption | refine X.ext ?_ _ | refine X.alloc ?_ _ | refine X.drew ?_))) _))))
          | (go_at_call 70; refine grow_of (sizeOf_c (nth l k).body _ _ _ _ _ (hS2.mono (X.fr (by (repeat (first | exact X.refl _ | assumption | refine X.ext ?_ _ | refine X.alloc ?_ _ | refine X.drew ?_))) _))))
          | (go_at_call 71; refine grow_of (hashOf_c (nth l k).body _ _ _ _ _ (hS2.mono (X.fr (by (repeat (first | exact X.refl _ | assumption | refine X.ext ?_ _ | refine X.alloc ?_ _ | refine X.drew ?_))) _)) q5))
          | (go_at_call 65; refine grow_of (compiledAt_s l _ n c B (nth l k).root (nth l k).mod (nth l k).init _ (hD2.mono (X.fr (by (repeat (first | exact X.refl _ | assumption | refine X.ext ?_ _ | refine X.alloc ?_ _ | refine X.drew ?_))) _))))))))
        refine wpQuiet_nil ?_
        rintro _ ⟨y, rfl⟩
        go_wp2
        go_ret
        exact ⟨ret_bool (Hno.out (by simp [coB, *])).symm, hXw.trans (by (repeat (first | exact X.refl _ | assumption | refine X.ext ?_ _ | refine X.alloc ?_ _ | refine X.drew ?_)))⟩
      cases q7 : ((nth l k).hash != hashZ (nth l k).body)
      case true =>
        refine wp_region_grow0 (by kernel_rfl) (by kernel_rfl) ?_
        repeat (go_big_quiet_step (((first
          | (go_at_call 36; refine grow_same (inRange_c _ _ _ _))
          | (go_at_call 77; refine grow_of (validName_c (nth l k).mod _ hpk))
          | (go_at_call 78; refine grow_of (validBody_c (nth l k).body _ _ _ _ _ (hS2.mono (X.fr (by (repeat (first | exact X.refl _ | assumption | refine X.ext ?_ _ | refine X.alloc ?_ _ | refine X.drew ?_))) _))))
          | (go_at_call 70; refine grow_of (sizeOf_c (nth l k).body _ _ _ _ _ (hS2.mono (X.fr (by (repeat (first | exact X.refl _ | assumption | refine X.ext ?_ _ | refine X.alloc ?_ _ | refine X.drew ?_))) _))))
          | (go_at_call 71; refine grow_of (hashOf_c (nth l k).body _ _ _ _ _ (hS2.mono (X.fr (by (repeat (first | exact X.refl _ | assumption | refine X.ext ?_ _ | refine X.alloc ?_ _ | refine X.drew ?_))) _)) q5))
          | (go_at_call 65; refine grow_of (compiledAt_s l _ n c B (nth l k).root (nth l k).mod (nth l k).init _ (hD2.mono (X.fr (by (repeat (first | exact X.refl _ | assumption | refine X.ext ?_ _ | refine X.alloc ?_ _ | refine X.drew ?_))) _))))))))
        refine wpQuiet_nil ?_
        rintro _ ⟨y, rfl⟩
        go_wp2
        go_ret
        exact ⟨ret_bool (Hno.out (by simp [coB, *])).symm, hXw.trans (by (repeat (first | exact X.refl _ | assumption | refine X.ext ?_ _ | refine X.alloc ?_ _ | refine X.drew ?_)))⟩
      by_cases q8 : cidx l (nth l k).root (nth l k).mod (nth l k).init n < (k : Int)
      · refine wp_region_grow0 (by kernel_rfl) (by kernel_rfl) ?_
        repeat (go_big_quiet_step (((first
          | (go_at_call 36; refine grow_same (inRange_c _ _ _ _))
          | (go_at_call 77; refine grow_of (validName_c (nth l k).mod _ hpk))
          | (go_at_call 78; refine grow_of (validBody_c (nth l k).body _ _ _ _ _ (hS2.mono (X.fr (by (repeat (first | exact X.refl _ | assumption | refine X.ext ?_ _ | refine X.alloc ?_ _ | refine X.drew ?_))) _))))
          | (go_at_call 70; refine grow_of (sizeOf_c (nth l k).body _ _ _ _ _ (hS2.mono (X.fr (by (repeat (first | exact X.refl _ | assumption | refine X.ext ?_ _ | refine X.alloc ?_ _ | refine X.drew ?_))) _))))
          | (go_at_call 71; refine grow_of (hashOf_c (nth l k).body _ _ _ _ _ (hS2.mono (X.fr (by (repeat (first | exact X.refl _ | assumption | refine X.ext ?_ _ | refine X.alloc ?_ _ | refine X.drew ?_))) _)) q5))
          | (go_at_call 65; refine grow_of (compiledAt_s l _ n c B (nth l k).root (nth l k).mod (nth l k).init _ (hD2.mono (X.fr (by (repeat (first | exact X.refl _ | assumption | refine X.ext ?_ _ | refine X.alloc ?_ _ | refine X.drew ?_))) _))))))))
        refine wpQuiet_nil ?_
        rintro _ ⟨y, rfl⟩
        go_wp2
        go_ret
        exact ⟨ret_bool (Hno.out (by simp [coB, *])).symm, hXw.trans (by (repeat (first | exact X.refl _ | assumption | refine X.ext ?_ _ | refine X.alloc ?_ _ | refine X.drew ?_)))⟩
      refine wp_region_grow0 (by kernel_rfl) (by kernel_rfl) ?_
      repeat (go_big_quiet_step (((first
        | (go_at_call 36; refine grow_same (inRange_c _ _ _ _))
        | (go_at_call 77; refine grow_of (validName_c (nth l k).mod _ hpk))
        | (go_at_call 78; refine grow_of (validBody_c (nth l k).body _ _ _ _ _ (hS2.mono (X.fr (by (repeat (first | exact X.refl _ | assumption | refine X.ext ?_ _ | refine X.alloc ?_ _ | refine X.drew ?_))) _))))
        | (go_at_call 70; refine grow_of (sizeOf_c (nth l k).body _ _ _ _ _ (hS2.mono (X.fr (by (repeat (first | exact X.refl _ | assumption | refine X.ext ?_ _ | refine X.alloc ?_ _ | refine X.drew ?_))) _))))
        | (go_at_call 71; refine grow_of (hashOf_c (nth l k).body _ _ _ _ _ (hS2.mono (X.fr (by (repeat (first | exact X.refl _ | assumption | refine X.ext ?_ _ | refine X.alloc ?_ _ | refine X.drew ?_))) _)) q5))
        | (go_at_call 65; refine grow_of (compiledAt_s l _ n c B (nth l k).root (nth l k).mod (nth l k).init _ (hD2.mono (X.fr (by (repeat (first | exact X.refl _ | assumption | refine X.ext ?_ _ | refine X.alloc ?_ _ | refine X.drew ?_))) _))))))))
      refine wpQuiet_nil ?_
      rintro _ ⟨y, rfl⟩
      go_wp2
      go_roundw
      case rel => exact ⟨k + 1, by omega, by go_num, allN_next hall (by simp [coB, *]), hXw.trans (by (repeat (first | exact X.refl _ | assumption | refine X.ext ?_ _ | refine X.alloc ?_ _ | refine X.drew ?_)))⟩
      case measure => simp [intOf]; omega
    · obtain rfl : k = n := by omega
      go_wp2
      go_ret
      exact ⟨ret_bool (by rw [storeB, ← Hl.out, hall, Bool.true_and]; exact decide_eq_decide.2 (by omega)), hX⟩

end Go.Proofs.YtjlooplpjliaiaaDoor
