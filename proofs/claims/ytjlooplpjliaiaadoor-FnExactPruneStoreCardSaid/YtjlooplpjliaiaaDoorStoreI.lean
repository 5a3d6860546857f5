/- ValidStore of the program: the walk. No condition but lengths. -/
import Derived.Test.YtjlooplpjliaiaaDoorStore
namespace Go.Proofs.YtjlooplpjliaiaaDoor
open Go.RowKit

set_option maxHeartbeats 400000 in
theorem modeOk_c' (m : Int) (w : World) : Calls Tryd.prog 40 #[.int .i64 m] w fun e w' => e = .returned (.bool (rangeB m 0 2)) ∧ X w w' := by
  go_enter Tryd.func40, Tryd.ntmps40
  go_wp2_with (go_at_call 73; refine (within_c _ _ _ _).mono ?_; rintro _ _ ⟨rfl, rfl⟩)
  go_ret
  exact ⟨rfl, by (repeat (first | with_reducible exact X.refl _ | with_reducible assumption | with_reducible refine X.setCell ?_ (by first | (simp; done) | (simp; omega)) _ | with_reducible refine X.ext ?_ _ | with_reducible refine X.alloc ?_ _ | with_reducible refine X.drew ?_))⟩
set_option maxRecDepth 100000 in
set_option maxHeartbeats 2000000 in
theorem ValidStore_c (l : List Co) (a : Option Addr) (n c B : Nat) (w : World) (hD : CosAt w B a n l) (hG : Gm w) :
    Calls Tryd.prog 54 #[.slice a n c] w fun e w' => e = .returned (.bool (storeB l)) ∧ X w w' := by
  obtain ⟨hl, hn⟩ := hD.len
  have Hl := Lib.hid hl
  clear hl
  go_enter Tryd.func54, Tryd.ntmps54
  go_wp2
  go_loopw [7] (fun i wr => ∃ k : Nat, k ≤ n ∧ i = .int .i64 k ∧ allN (coB l n) k = true ∧ X w wr) (fun i _ => n - (intOf i).toNat)
  case atStart => exact ⟨0, by omega, rfl, rfl, X.refl _⟩
  case round =>
    obtain ⟨k, hk, rfl, hall, hX⟩ := hrel
    by_cases hlt : k < n
    · obtain ⟨b, off, ba, bn, bc, rfl, _, hb, hpk, _, hS, g0, g1, g2, g3, g4, g5, g6, g7⟩ := (hD.mono (hX.fr _)).at_ (k := k) hlt
      have hD1 := hD.mono (hX.fr _)
      have hG1 := hG.mono hX
      have Hno := Lib.hid (show coB l n k = false → storeB l = false from fun h1 => by
        unfold storeB; rw [← Hl.out, allN_not (k := k) h1 hlt]; rfl)
      have hself := cidx_self (l := l) hlt
      go_wp2_with fail
      refine calls_name (fun W hW => ?_)
      have hB : Bx W wr.heap.size #[.int .i64 (nth l k).root, .string ⟨((nth l k).mod).toArray⟩, .bool (nth l k).init, .int .i64 (nth l k).mode, .int .i64 (nth l k).stamp, .int .i64 (nth l k).size, .int .i64 (nth l k).hash, .slice ba bn bc] := by rw [hW]; exact Bx.new _ _ _
      have hXW : X wr W := by rw [hW]; (repeat (first | with_reducible exact X.refl _ | with_reducible assumption | with_reducible refine X.setCell ?_ (by first | (simp; done) | (simp; omega)) _ | with_reducible refine X.ext ?_ _ | with_reducible refine X.alloc ?_ _ | with_reducible refine X.drew ?_))
      clear hW
      obtain ⟨lb, cb, _⟩ := hB.out
      have e0 := cb 0
      have e1 := cb 1
      have e2 := cb 2
      have e3 := cb 3
      have e4 := cb 4
      have e5 := cb 5
      have e6 := cb 6
      have e7 := cb 7
      clear cb
      have hS2 := hS.mono (hXW.fr _)
      have hD2 := hD1.mono (hXW.fr _)
      have hG2 := hG1.mono hXW
      have hXw := hX.trans hXW
      have hk1 : (k : Int) < (n : Int) := by omega
      refine (within_c _ _ _ _).mono ?_
      rintro _ _ ⟨rfl, rfl⟩
      cases q1 : rangeB (nth l k).root 0 2
      · go_wp2
        go_wp2
        go_ret
        exact ⟨ret_bool (Hno.out (by simp [coB, *])).symm, hXw.trans (by (repeat (first | exact X.refl _ | assumption | refine X.ext ?_ _ | refine X.alloc ?_ _ | refine X.drew ?_)))⟩
      cases q2 : nameB (nth l k).mod
      · go_wp2_with (first
          | (go_at_call 73; refine (within_c _ _ _ _).mono ?_; rintro _ _ ⟨rfl, rfl⟩)
          | (go_at_call 83; refine (ValidName_c (nth l k).mod _ hpk (hG2.mono (by (repeat (first | exact X.refl _ | assumption | refine X.ext ?_ _ | refine X.alloc ?_ _ | refine X.drew ?_))))).mono ?_; rintro _ _ ⟨rfl, hx⟩; replace hx := X.trans (a := W) (by (repeat (first | exact X.refl _ | assumption | refine X.ext ?_ _ | refine X.alloc ?_ _ | refine X.drew ?_))) hx; obtain ⟨x, rfl⟩ := hx)
          | (go_at_call 40; refine (modeOk_c' _ _).mono ?_; rintro _ _ ⟨rfl, hx⟩; replace hx := X.trans (a := W) (by (repeat (first | exact X.refl _ | assumption | refine X.ext ?_ _ | refine X.alloc ?_ _ | refine X.drew ?_))) hx; obtain ⟨x, rfl⟩ := hx)
          | (go_at_call 84; refine (ValidBody_c (nth l k).body _ _ _ _ _ (hS2.mono (X.fr (by (repeat (first | exact X.refl _ | assumption | refine X.ext ?_ _ | refine X.alloc ?_ _ | refine X.drew ?_))) _)) (hG2.mono (by (repeat (first | exact X.refl _ | assumption | refine X.ext ?_ _ | refine X.alloc ?_ _ | refine X.drew ?_))))).mono ?_; rintro _ _ ⟨rfl, hx⟩; replace hx := X.trans (a := W) (by (repeat (first | exact X.refl _ | assumption | refine X.ext ?_ _ | refine X.alloc ?_ _ | refine X.drew ?_))) hx; obtain ⟨x, rfl⟩ := hx))
        go_wp2
        go_ret
        exact ⟨ret_bool (Hno.out (by simp [coB, *])).symm, hXw.trans (by (repeat (first | exact X.refl _ | assumption | refine X.ext ?_ _ | refine X.alloc ?_ _ | refine X.drew ?_)))⟩
      cases q3 : rangeB (nth l k).mode 0 2
      · go_wp2_with (first
          | (go_at_call 73; refine (within_c _ _ _ _).mono ?_; rintro _ _ ⟨rfl, rfl⟩)
          | (go_at_call 83; refine (ValidName_c (nth l k).mod _ hpk (hG2.mono (by (repeat (first | exact X.refl _ | assumption | refine X.ext ?_ _ | refine X.alloc ?_ _ | refine X.drew ?_))))).mono ?_; rintro _ _ ⟨rfl, hx⟩; replace hx := X.trans (a := W) (by (repeat (first | exact X.refl _ | assumption | refine X.ext ?_ _ | refine X.alloc ?_ _ | refine X.drew ?_))) hx; obtain ⟨x, rfl⟩ := hx)
          | (go_at_call 40; refine (modeOk_c' _ _).mono ?_; rintro _ _ ⟨rfl, hx⟩; replace hx := X.trans (a := W) (by (repeat (first | exact X.refl _ | assumption | refine X.ext ?_ _ | refine X.alloc ?_ _ | refine X.drew ?_))) hx; obtain ⟨x, rfl⟩ := hx)
          | (go_at_call 84; refine (ValidBody_c (nth l k).body _ _ _ _ _ (hS2.mono (X.fr (by (repeat (first | exact X.refl _ | assumption | refine X.ext ?_ _ | refine X.alloc ?_ _ | refine X.drew ?_))) _)) (hG2.mono (by (repeat (first | exact X.refl _ | assumption | refine X.ext ?_ _ | refine X.alloc ?_ _ | refine X.drew ?_))))).mono ?_; rintro _ _ ⟨rfl, hx⟩; replace hx := X.trans (a := W) (by (repeat (first | exact X.refl _ | assumption | refine X.ext ?_ _ | refine X.alloc ?_ _ | refine X.drew ?_))) hx; obtain ⟨x, rfl⟩ := hx))
        go_wp2
        go_ret
        exact ⟨ret_bool (Hno.out (by simp [coB, *])).symm, hXw.trans (by (repeat (first | exact X.refl _ | assumption | refine X.ext ?_ _ | refine X.alloc ?_ _ | refine X.drew ?_)))⟩
      cases q4 : rangeB (nth l k).stamp 0 99
      · go_wp2_with (first
          | (go_at_call 73; refine (within_c _ _ _ _).mono ?_; rintro _ _ ⟨rfl, rfl⟩)
          | (go_at_call 83; refine (ValidName_c (nth l k).mod _ hpk (hG2.mono (by (repeat (first | exact X.refl _ | assumption | refine X.ext ?_ _ | refine X.alloc ?_ _ | refine X.drew ?_))))).mono ?_; rintro _ _ ⟨rfl, hx⟩; replace hx := X.trans (a := W) (by (repeat (first | exact X.refl _ | assumption | refine X.ext ?_ _ | refine X.alloc ?_ _ | refine X.drew ?_))) hx; obtain ⟨x, rfl⟩ := hx)
          | (go_at_call 40; refine (modeOk_c' _ _).mono ?_; rintro _ _ ⟨rfl, hx⟩; replace hx := X.trans (a := W) (by (repeat (first | exact X.refl _ | assumption | refine X.ext ?_ _ | refine X.alloc ?_ _ | refine X.drew ?_))) hx; obtain ⟨x, rfl⟩ := hx)
          | (go_at_call 84; refine (ValidBody_c (nth l k).body _ _ _ _ _ (hS2.mono (X.fr (by (repeat (first | exact X.refl _ | assumption | refine X.ext ?_ _ | refine X.alloc ?_ _ | refine X.drew ?_))) _)) (hG2.mono (by (repeat (first | exact X.refl _ | assumption | refine X.ext ?_ _ | refine X.alloc ?_ _ | refine X.drew ?_))))).mono ?_; rintro _ _ ⟨rfl, hx⟩; replace hx := X.trans (a := W) (by (repeat (first | exact X.refl _ | assumption | refine X.ext ?_ _ | refine X.alloc ?_ _ | refine X.drew ?_))) hx; obtain ⟨x, rfl⟩ := hx))
        go_wp2
        go_ret
        exact ⟨ret_bool (Hno.out (by simp [coB, *])).symm, hXw.trans (by (repeat (first | exact X.refl _ | assumption | refine X.ext ?_ _ | refine X.alloc ?_ _ | refine X.drew ?_)))⟩
      cases q5 : bodyB (nth l k).body
      · go_wp2_with (first
          | (go_at_call 73; refine (within_c _ _ _ _).mono ?_; rintro _ _ ⟨rfl, rfl⟩)
          | (go_at_call 83; refine (ValidName_c (nth l k).mod _ hpk (hG2.mono (by (repeat (first | exact X.refl _ | assumption | refine X.ext ?_ _ | refine X.alloc ?_ _ | refine X.drew ?_))))).mono ?_; rintro _ _ ⟨rfl, hx⟩; replace hx := X.trans (a := W) (by (repeat (first | exact X.refl _ | assumption | refine X.ext ?_ _ | refine X.alloc ?_ _ | refine X.drew ?_))) hx; obtain ⟨x, rfl⟩ := hx)
          | (go_at_call 40; refine (modeOk_c' _ _).mono ?_; rintro _ _ ⟨rfl, hx⟩; replace hx := X.trans (a := W) (by (repeat (first | exact X.refl _ | assumption | refine X.ext ?_ _ | refine X.alloc ?_ _ | refine X.drew ?_))) hx; obtain ⟨x, rfl⟩ := hx)
          | (go_at_call 84; refine (ValidBody_c (nth l k).body _ _ _ _ _ (hS2.mono (X.fr (by (repeat (first | exact X.refl _ | assumption | refine X.ext ?_ _ | refine X.alloc ?_ _ | refine X.drew ?_))) _)) (hG2.mono (by (repeat (first | exact X.refl _ | assumption | refine X.ext ?_ _ | refine X.alloc ?_ _ | refine X.drew ?_))))).mono ?_; rintro _ _ ⟨rfl, hx⟩; replace hx := X.trans (a := W) (by (repeat (first | exact X.refl _ | assumption | refine X.ext ?_ _ | refine X.alloc ?_ _ | refine X.drew ?_))) hx; obtain ⟨x, rfl⟩ := hx))
        go_wp2
        go_ret
        exact ⟨ret_bool (Hno.out (by simp [coB, *])).symm, hXw.trans (by (repeat (first | exact X.refl _ | assumption | refine X.ext ?_ _ | refine X.alloc ?_ _ | refine X.drew ?_)))⟩
      cases q6 : ((nth l k).size != ((szN (nth l k).body : Nat) : Int))
      case true =>
        go_wp2_with (first
          | (go_at_call 73; refine (within_c _ _ _ _).mono ?_; rintro _ _ ⟨rfl, rfl⟩)
          | (go_at_call 83; refine (ValidName_c (nth l k).mod _ hpk (hG2.mono (by (repeat (first | exact X.refl _ | assumption | refine X.ext ?_ _ | refine X.alloc ?_ _ | refine X.drew ?_))))).mono ?_; rintro _ _ ⟨rfl, hx⟩; replace hx := X.trans (a := W) (by (repeat (first | exact X.refl _ | assumption | refine X.ext ?_ _ | refine X.alloc ?_ _ | refine X.drew ?_))) hx; obtain ⟨x, rfl⟩ := hx)
          | (go_at_call 40; refine (modeOk_c' _ _).mono ?_; rintro _ _ ⟨rfl, hx⟩; replace hx := X.trans (a := W) (by (repeat (first | exact X.refl _ | assumption | refine X.ext ?_ _ | refine X.alloc ?_ _ | refine X.drew ?_))) hx; obtain ⟨x, rfl⟩ := hx)
          | (go_at_call 84; refine (ValidBody_c (nth l k).body _ _ _ _ _ (hS2.mono (X.fr (by (repeat (first | exact X.refl _ | assumption | refine X.ext ?_ _ | refine X.alloc ?_ _ | refine X.drew ?_))) _)) (hG2.mono (by (repeat (first | exact X.refl _ | assumption | refine X.ext ?_ _ | refine X.alloc ?_ _ | refine X.drew ?_))))).mono ?_; rintro _ _ ⟨rfl, hx⟩; replace hx := X.trans (a := W) (by (repeat (first | exact X.refl _ | assumption | refine X.ext ?_ _ | refine X.alloc ?_ _ | refine X.drew ?_))) hx; obtain ⟨x, rfl⟩ := hx))
        refine wp_region_grow (by kernel_rfl) (by kernel_rfl) ?_
        repeat (go_big_quiet_step (((first
          | (go_at_call 74; refine grow_of (SizeOf_c (nth l k).body _ _ _ _ _ (hS2.mono (X.fr (by (repeat (first | exact X.refl _ | assumption | refine X.ext ?_ _ | refine X.alloc ?_ _ | refine X.drew ?_))) _)) q5 (hG2.mono (by (repeat (first | exact X.refl _ | assumption | refine X.ext ?_ _ | refine X.alloc ?_ _ | refine X.drew ?_))))))
          | (go_at_call 75; refine grow_of (HashOf_c (nth l k).body _ _ _ _ _ (hS2.mono (X.fr (by (repeat (first | exact X.refl _ | assumption | refine X.ext ?_ _ | refine X.alloc ?_ _ | refine X.drew ?_))) _)) q5 (hG2.mono (by (repeat (first | exact X.refl _ | assumption | refine X.ext ?_ _ | refine X.alloc ?_ _ | refine X.drew ?_))))))
          | (go_at_call 57; refine grow_of (compiledAt_i l _ n c B (nth l k).root (nth l k).mod (nth l k).init _ (hD2.mono (X.fr (by (repeat (first | exact X.refl _ | assumption | refine X.ext ?_ _ | refine X.alloc ?_ _ | refine X.drew ?_))) _))))))))
        refine wpQuiet_nil ?_
        rintro _ ⟨y, rfl⟩
        go_wp2
        go_ret
        exact ⟨ret_bool (Hno.out (by simp [coB, *])).symm, hXw.trans (by (repeat (first | exact X.refl _ | assumption | refine X.ext ?_ _ | refine X.alloc ?_ _ | refine X.drew ?_)))⟩
      cases q7 : ((nth l k).hash != hashZ (nth l k).body)
      case true =>
        go_wp2_with (first
          | (go_at_call 73; refine (within_c _ _ _ _).mono ?_; rintro _ _ ⟨rfl, rfl⟩)
          | (go_at_call 83; refine (ValidName_c (nth l k).mod _ hpk (hG2.mono (by (repeat (first | exact X.refl _ | assumption | refine X.ext ?_ _ | refine X.alloc ?_ _ | refine X.drew ?_))))).mono ?_; rintro _ _ ⟨rfl, hx⟩; replace hx := X.trans (a := W) (by (repeat (first | exact X.refl _ | assumption | refine X.ext ?_ _ | refine X.alloc ?_ _ | refine X.drew ?_))) hx; obtain ⟨x, rfl⟩ := hx)
          | (go_at_call 40; refine (modeOk_c' _ _).mono ?_; rintro _ _ ⟨rfl, hx⟩; replace hx := X.trans (a := W) (by (repeat (first | exact X.refl _ | assumption | refine X.ext ?_ _ | refine X.alloc ?_ _ | refine X.drew ?_))) hx; obtain ⟨x, rfl⟩ := hx)
          | (go_at_call 84; refine (ValidBody_c (nth l k).body _ _ _ _ _ (hS2.mono (X.fr (by (repeat (first | exact X.refl _ | assumption | refine X.ext ?_ _ | refine X.alloc ?_ _ | refine X.drew ?_))) _)) (hG2.mono (by (repeat (first | exact X.refl _ | assumption | refine X.ext ?_ _ | refine X.alloc ?_ _ | refine X.drew ?_))))).mono ?_; rintro _ _ ⟨rfl, hx⟩; replace hx := X.trans (a := W) (by (repeat (first | exact X.refl _ | assumption | refine X.ext ?_ _ | refine X.alloc ?_ _ | refine X.drew ?_))) hx; obtain ⟨x, rfl⟩ := hx))
        refine wp_region_grow (by kernel_rfl) (by kernel_rfl) ?_
        repeat (go_big_quiet_step (((first
          | (go_at_call 74; refine grow_of (SizeOf_c (nth l k).body _ _ _ _ _ (hS2.mono (X.fr (by (repeat (first | exact X.refl _ | assumption | refine X.ext ?_ _ | refine X.alloc ?_ _ | refine X.drew ?_))) _)) q5 (hG2.mono (by (repeat (first | exact X.refl _ | assumption | refine X.ext ?_ _ | refine X.alloc ?_ _ | refine X.drew ?_))))))
          | (go_at_call 75; refine grow_of (HashOf_c (nth l k).body _ _ _ _ _ (hS2.mono (X.fr (by (repeat (first | exact X.refl _ | assumption | refine X.ext ?_ _ | refine X.alloc ?_ _ | refine X.drew ?_))) _)) q5 (hG2.mono (by (repeat (first | exact X.refl _ | assumption | refine X.ext ?_ _ | refine X.alloc ?_ _ | refine X.drew ?_))))))
          | (go_at_call 57; refine grow_of (compiledAt_i l _ n c B (nth l k).root (nth l k).mod (nth l k).init _ (hD2.mono (X.fr (by (repeat (first | exact X.refl _ | assumption | refine X.ext ?_ _ | refine X.alloc ?_ _ | refine X.drew ?_))) _))))))))
        refine wpQuiet_nil ?_
        rintro _ ⟨y, rfl⟩
        go_wp2
        go_ret
        exact ⟨ret_bool (Hno.out (by simp [coB, *])).symm, hXw.trans (by (repeat (first | exact X.refl _ | assumption | refine X.ext ?_ _ | refine X.alloc ?_ _ | refine X.drew ?_)))⟩
      by_cases q8 : cidx l (nth l k).root (nth l k).mod (nth l k).init n < (k : Int)
      · have q9 : (cidx l (nth l k).root (nth l k).mod (nth l k).init n != (k : Int)) = true := by simp; omega
        go_wp2_with (first
          | (go_at_call 73; refine (within_c _ _ _ _).mono ?_; rintro _ _ ⟨rfl, rfl⟩)
          | (go_at_call 83; refine (ValidName_c (nth l k).mod _ hpk (hG2.mono (by (repeat (first | exact X.refl _ | assumption | refine X.ext ?_ _ | refine X.alloc ?_ _ | refine X.drew ?_))))).mono ?_; rintro _ _ ⟨rfl, hx⟩; replace hx := X.trans (a := W) (by (repeat (first | exact X.refl _ | assumption | refine X.ext ?_ _ | refine X.alloc ?_ _ | refine X.drew ?_))) hx; obtain ⟨x, rfl⟩ := hx)
          | (go_at_call 40; refine (modeOk_c' _ _).mono ?_; rintro _ _ ⟨rfl, hx⟩; replace hx := X.trans (a := W) (by (repeat (first | exact X.refl _ | assumption | refine X.ext ?_ _ | refine X.alloc ?_ _ | refine X.drew ?_))) hx; obtain ⟨x, rfl⟩ := hx)
          | (go_at_call 84; refine (ValidBody_c (nth l k).body _ _ _ _ _ (hS2.mono (X.fr (by (repeat (first | exact X.refl _ | assumption | refine X.ext ?_ _ | refine X.alloc ?_ _ | refine X.drew ?_))) _)) (hG2.mono (by (repeat (first | exact X.refl _ | assumption | refine X.ext ?_ _ | refine X.alloc ?_ _ | refine X.drew ?_))))).mono ?_; rintro _ _ ⟨rfl, hx⟩; replace hx := X.trans (a := W) (by (repeat (first | exact X.refl _ | assumption | refine X.ext ?_ _ | refine X.alloc ?_ _ | refine X.drew ?_))) hx; obtain ⟨x, rfl⟩ := hx))
        refine wp_region_grow (by kernel_rfl) (by kernel_rfl) ?_
        repeat (go_big_quiet_step (((first
          | (go_at_call 74; refine grow_of (SizeOf_c (nth l k).body _ _ _ _ _ (hS2.mono (X.fr (by (repeat (first | exact X.refl _ | assumption | refine X.ext ?_ _ | refine X.alloc ?_ _ | refine X.drew ?_))) _)) q5 (hG2.mono (by (repeat (first | exact X.refl _ | assumption | refine X.ext ?_ _ | refine X.alloc ?_ _ | refine X.drew ?_))))))
          | (go_at_call 75; refine grow_of (HashOf_c (nth l k).body _ _ _ _ _ (hS2.mono (X.fr (by (repeat (first | exact X.refl _ | assumption | refine X.ext ?_ _ | refine X.alloc ?_ _ | refine X.drew ?_))) _)) q5 (hG2.mono (by (repeat (first | exact X.refl _ | assumption | refine X.ext ?_ _ | refine X.alloc ?_ _ | refine X.drew ?_))))))
          | (go_at_call 57; refine grow_of (compiledAt_i l _ n c B (nth l k).root (nth l k).mod (nth l k).init _ (hD2.mono (X.fr (by (repeat (first | exact X.refl _ | assumption | refine X.ext ?_ _ | refine X.alloc ?_ _ | refine X.drew ?_))) _))))))))
        refine wpQuiet_nil ?_
        rintro _ ⟨y, rfl⟩
        go_wp2
        go_ret
        exact ⟨ret_bool (Hno.out (by simp [coB, *])).symm, hXw.trans (by (repeat (first | exact X.refl _ | assumption | refine X.ext ?_ _ | refine X.alloc ?_ _ | refine X.drew ?_)))⟩
      have q9 : (cidx l (nth l k).root (nth l k).mod (nth l k).init n != (k : Int)) = false := by simp; omega
      go_wp2_with (first
        | (go_at_call 73; refine (within_c _ _ _ _).mono ?_; rintro _ _ ⟨rfl, rfl⟩)
        | (go_at_call 83; refine (ValidName_c (nth l k).mod _ hpk (hG2.mono (by (repeat (first | exact X.refl _ | assumption | refine X.ext ?_ _ | refine X.alloc ?_ _ | refine X.drew ?_))))).mono ?_; rintro _ _ ⟨rfl, hx⟩; replace hx := X.trans (a := W) (by (repeat (first | exact X.refl _ | assumption | refine X.ext ?_ _ | refine X.alloc ?_ _ | refine X.drew ?_))) hx; obtain ⟨x, rfl⟩ := hx)
        | (go_at_call 40; refine (modeOk_c' _ _).mono ?_; rintro _ _ ⟨rfl, hx⟩; replace hx := X.trans (a := W) (by (repeat (first | exact X.refl _ | assumption | refine X.ext ?_ _ | refine X.alloc ?_ _ | refine X.drew ?_))) hx; obtain ⟨x, rfl⟩ := hx)
        | (go_at_call 84; refine (ValidBody_c (nth l k).body _ _ _ _ _ (hS2.mono (X.fr (by (repeat (first | exact X.refl _ | assumption | refine X.ext ?_ _ | refine X.alloc ?_ _ | refine X.drew ?_))) _)) (hG2.mono (by (repeat (first | exact X.refl _ | assumption | refine X.ext ?_ _ | refine X.alloc ?_ _ | refine X.drew ?_))))).mono ?_; rintro _ _ ⟨rfl, hx⟩; replace hx := X.trans (a := W) (by (repeat (first | exact X.refl _ | assumption | refine X.ext ?_ _ | refine X.alloc ?_ _ | refine X.drew ?_))) hx; obtain ⟨x, rfl⟩ := hx))
      refine wp_region_grow (by kernel_rfl) (by kernel_rfl) ?_
      repeat (go_big_quiet_step (((first
        | (go_at_call 74; refine grow_of (SizeOf_c (nth l k).body _ _ _ _ _ (hS2.mono (X.fr (by (repeat (first | exact X.refl _ | assumption | refine X.ext ?_ _ | refine X.alloc ?_ _ | refine X.drew ?_))) _)) q5 (hG2.mono (by (repeat (first | exact X.refl _ | assumption | refine X.ext ?_ _ | refine X.alloc ?_ _ | refine X.drew ?_))))))
        | (go_at_call 75; refine grow_of (HashOf_c (nth l k).body _ _ _ _ _ (hS2.mono (X.fr (by (repeat (first | exact X.refl _ | assumption | refine X.ext ?_ _ | refine X.alloc ?_ _ | refine X.drew ?_))) _)) q5 (hG2.mono (by (repeat (first | exact X.refl _ | assumption | refine X.ext ?_ _ | refine X.alloc ?_ _ | refine X.drew ?_))))))
        | (go_at_call 57; refine grow_of (compiledAt_i l _ n c B (nth l k).root (nth l k).mod (nth l k).init _ (hD2.mono (X.fr (by (repeat (first | exact X.refl _ | assumption | refine X.ext ?_ _ | refine X.alloc ?_ _ | refine X.drew ?_))) _))))))))
      refine wpQuiet_nil ?_
      rintro _ ⟨y, rfl⟩
      go_wp2
      go_roundw
      case rel => exact ⟨k + 1, by omega, by go_num, allN_next hall (by simp [coB, *]), hXw.trans (by (repeat (first | exact X.refl _ | assumption | refine X.ext ?_ _ | refine X.alloc ?_ _ | refine X.drew ?_)))⟩
      case measure => simp [intOf]; omega
    · obtain rfl : k = n := by omega
      go_wp2
      go_ret
      exact ⟨ret_bool (by rw [storeB, ← Hl.out, hall, Bool.true_and]; exact decide_eq_decide.2 (by omega)), hX⟩

end Go.Proofs.YtjlooplpjliaiaaDoor
