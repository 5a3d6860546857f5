/- cloneStore of the program: the walk. No condition but lengths. -/
import Derived.Test.YtjlooplpjliaiaaDoorCompTree
namespace Go.Proofs.YtjlooplpjliaiaaDoor
open Go.RowKit

theorem bx1_of {w W : World} {c1 : Array Value} {t1 : TypeId} (h : X (w.alloc (.cells c1 t1)) W) : Bx W w.heap.size c1 ∧ X w W := ⟨(Bx.new w c1 t1).x h, X.trans (by (repeat (first | with_reducible exact X.refl _ | with_reducible assumption | with_reducible refine X.setCell ?_ (by first | (simp; done) | (simp; omega)) _ | with_reducible refine X.ext ?_ _ | with_reducible refine X.alloc ?_ _ | with_reducible refine X.drew ?_))) h⟩
theorem row_far2 {w w1 : World} {B B' e e' size size' n n' : Nat} {v v' : Value} {xs xs' : List Value} (h : w.ownsRow B e size v n xs) (hB : w.heap.size ≤ B') (h' : w1.ownsRow B' e' size' v' n' xs') : v.ownBlock = none ∨ v'.ownBlock = none ∨ v'.ownBlock ≠ v.ownBlock := row_far h rfl (own_less h' hB)
set_option maxRecDepth 100000 in
set_option maxHeartbeats 2000000 in
theorem cloneStore_c (l : List Co) (a : Option Addr) (n c B : Nat) (w : World) (hF : CosAt w B a n l) :
    Calls Tryd.prog 56 #[.slice a n c] w fun e w' => ∃ ra rc, e = .returned (.slice ra n rc) ∧ CosO w' w.heap.size ra n rc l ∧ X w w' := by
  obtain ⟨hl, hn⟩ := hF.len
  have Hl := Lib.hid hl
  clear hl
  go_enter Tryd.func56, Tryd.ntmps56
  go_wp2
  refine wp_name (fun W0 hW0 => ?_)
  have hrow0 : W0.ownsRow w.heap.size 65 8 (.slice (some ⟨w.heap.size, 0, none⟩) 0 0) 0 [] := by
    rw [hW0]
    exact own_lit (w := w) (cs := #[]) (e := 65) (B := w.heap.size) (g := w.heap.size) (size := 8) (n := 0) rfl (Nat.le_refl _) rfl (by omega)
  have hX0 : X w W0 := by rw [hW0]; (repeat (first | with_reducible exact X.refl _ | with_reducible assumption | with_reducible refine X.setCell ?_ (by first | (simp; done) | (simp; omega)) _ | with_reducible refine X.ext ?_ _ | with_reducible refine X.alloc ?_ _ | with_reducible refine X.drew ?_))
  clear hW0
  go_loopw [3, 9] (fun v i wr => ∃ (k : Nat) (vs : List (Co × Value)) (ra : Option Addr) (rc : Nat), k ≤ n ∧ i = .int .i64 k ∧ v = .slice ra k rc ∧ vs.map (·.1) = l.take k ∧ wr.ownsRow w.heap.size 65 8 (.slice ra k rc) k (vs.flatMap ccells) ∧ SepC vs ∧
      (∀ x ∈ vs, BodyC wr w.heap.size x) ∧ X w wr) (fun _ i _ => n - (intOf i).toNat)
  case atStart => exact ⟨0, [], _, 0, Nat.zero_le _, rfl, rfl, rfl, hrow0, List.Pairwise.nil, (fun _ h => by cases h), hX0⟩
  case round =>
    obtain ⟨k, vs, ra, rc, hk, rfl, rfl, hvs, hrow, hsep, hbd, hX⟩ := hrel
    have Hv := Lib.hid (And.intro hvs (And.intro hsep hbd))
    clear hvs hsep hbd hX0 hrow0
    by_cases hlt : k < n
    · obtain ⟨b, off, ba, bn, bc, rfl, _, hb, hok, hbc, hSb, g0, g1, g2, g3, g4, g5, g6, g7⟩ := (hF.mono (hX.fr _)).at_ hlt
      have Hbn := Lib.hid hSb.1
      generalize hcf : nth l k = cf at *
      have Hcf := Lib.hid hcf
      clear hcf
      go_wp2_with fail
      refine calls_name (fun W3 hW3 => ?_)
      have hB3 : Bx W3 wr.heap.size #[.int .i64 cf.root, .string ⟨(cf.mod).toArray⟩, .bool cf.init, .int .i64 cf.mode, .int .i64 cf.stamp, .int .i64 cf.size, .int .i64 cf.hash, .slice ba bn bc] := by rw [hW3]; exact Bx.new _ _ _
      have hX3 : X wr W3 := by rw [hW3]; (repeat (first | with_reducible exact X.refl _ | with_reducible assumption | with_reducible refine X.setCell ?_ (by first | (simp; done) | (simp; omega)) _ | with_reducible refine X.ext ?_ _ | with_reducible refine X.alloc ?_ _ | with_reducible refine X.drew ?_))
      clear hW3
      refine (cloneBody_c cf.body ba bn bc B W3 (hSb.mono (hX3.fr _))).mono ?_
      rintro _ w3 ⟨rb, rcb, rfl, hO3, hx3⟩
      have hX4 : X wr w3 := hX3.trans hx3
      obtain ⟨lb, cb, fb⟩ := (hB3.x hx3).out
      have e0 := cb 0
      have e1 := cb 1
      have e2 := cb 2
      have e3 := cb 3
      have e4 := cb 4
      have e5 := cb 5
      have e6 := cb 6
      have e7 := cb 7
      clear cb
      have hsz : w.heap.size ≤ wr.heap.size := hX.size
      obtain ⟨w4, hw4⟩ : ∃ w4, w4 = w3.setCell ⟨wr.heap.size, 7, none⟩ (.slice rb bn rcb) := ⟨_, rfl⟩
      have hX5 : X wr w4 := by rw [hw4]; exact X.setCell hX4 (Nat.le_refl _) _
      have hrow4 := own_fr hrow (hX5.fr _)
      have hO4 : w4.ownsRow W3.heap.size 88 5 (.slice rb bn rcb) bn (cf.body.flatMap scells) := by rw [hw4]; exact own_fr hO3 (Fr.set (Fr.refl _ _) (.inr hB3.lt) _)
      have hsz4 : w.heap.size ≤ w4.heap.size := Nat.le_trans hsz hX5.size
      go_wp2_with (at_builtin; (try rw [← hw4]); refine wpList_append_g (w := w4) co_T rfl _ _ rfl hrow4 rfl (g := w3.heap.size) rfl (by rw [hw4]; simp) rfl (by simp [Value.oneCell']) (by omega) (by omega) hsz4 ?_; intro a' c' w' hrow' hg')
      have hE : wr.heap.size ≤ W3.heap.size := hX3.size
      have hga : w4.grownBy w' (Value.slice ra k rc).ownBlock := X.grown ((X.refl w4).alloc _) hg'
      have hXw' : X w w' := X.of_below (((X.alloc (hX.trans hX5) _).below).grown hg' (X.size (X.alloc (hX.trans hX5) _)) (fun g hg => by have := (hrow4.lt g hg).1; omega))
      go_roundw
      case rel => exact ⟨k + 1, vs ++ [(cf, .slice rb bn rcb)], a', c', by omega, by go_num, rfl, by rw [List.map_append, Hv.out.1, take_succ_nth (by rw [← Hl.out]; exact hlt), ← Hcf.out]; rfl, by
          rw [List.flatMap_append]
          exact hrow', List.pairwise_append.2 ⟨Hv.out.2.1, List.pairwise_singleton _ _, fun x hx y hy => by
          rw [List.mem_singleton.1 hy]
          obtain ⟨ba', bc', e, ho⟩ := Hv.out.2.2 x hx
          rw [e]
          exact row_far2 ho hE hO4⟩, fun x hx => by
          rcases List.mem_append.1 hx with hx | hx
          · obtain ⟨ba', bc', e, ho⟩ := Hv.out.2.2 x hx
            have ho4 := own_fr ho (hX5.fr _)
            exact ⟨ba', bc', e, ho4.kept hga (row_ne ho4 hrow4 (by decide))⟩
          · rw [List.mem_singleton.1 hx]
            have ho4 := own_less hO4 (show w.heap.size ≤ _ from Nat.le_trans hsz hE)
            refine ⟨rb, rcb, ?_, ?_⟩
            · show Value.slice rb bn rcb = Value.slice rb cf.body.length rcb
              rw [← Hbn.out]
            · show w'.ownsRow _ _ 5 (Value.slice rb cf.body.length rcb) cf.body.length (cf.body.flatMap scells)
              rw [← Hbn.out]
              exact ho4.kept hga (row_ne ho4 hrow4 (by decide)), hXw'⟩
      case measure => simp [intOf]; omega
    · obtain rfl : k = n := by omega
      go_wp2
      go_ret
      exact ⟨ra, rc, rfl, ⟨vs, by rw [Hv.out.1, List.take_of_length_le (by rw [← Hl.out]; omega)], Hl.out, hrow, Hv.out.2.1, Hv.out.2.2⟩, hX⟩

set_option maxRecDepth 100000 in
set_option maxHeartbeats 2000000 in
theorem copyStore_c (l : List Co) (a : Option Addr) (n c B : Nat) (w : World) (hF : CosAt w B a n l) :
    Calls Tryd.prog 51 #[.slice a n c] w fun e w' => ∃ ra rc, e = .returned (.slice ra n rc) ∧ CosO w' w.heap.size ra n rc l ∧ X w w' := by
  obtain ⟨hl, hn⟩ := hF.len
  have Hl := Lib.hid hl
  clear hl
  go_enter Tryd.func51, Tryd.ntmps51
  go_wp2
  refine wp_name (fun W0 hW0 => ?_)
  have hrow0 : W0.ownsRow w.heap.size 65 8 (.slice (some ⟨w.heap.size, 0, none⟩) 0 0) 0 [] := by
    rw [hW0]
    exact own_lit (w := w) (cs := #[]) (e := 65) (B := w.heap.size) (g := w.heap.size) (size := 8) (n := 0) rfl (Nat.le_refl _) rfl (by omega)
  have hX0 : X w W0 := by rw [hW0]; (repeat (first | with_reducible exact X.refl _ | with_reducible assumption | with_reducible refine X.setCell ?_ (by first | (simp; done) | (simp; omega)) _ | with_reducible refine X.ext ?_ _ | with_reducible refine X.alloc ?_ _ | with_reducible refine X.drew ?_))
  clear hW0
  go_loopw [3, 4] (fun v i wr => ∃ (k : Nat) (vs : List (Co × Value)) (ra : Option Addr) (rc : Nat), k ≤ n ∧ i = .int .i64 k ∧ v = .slice ra k rc ∧ vs.map (·.1) = l.take k ∧ wr.ownsRow w.heap.size 65 8 (.slice ra k rc) k (vs.flatMap ccells) ∧ SepC vs ∧
      (∀ x ∈ vs, BodyC wr w.heap.size x) ∧ X w wr) (fun _ i _ => n - (intOf i).toNat)
  case atStart => exact ⟨0, [], _, 0, Nat.zero_le _, rfl, rfl, rfl, hrow0, List.Pairwise.nil, (fun _ h => by cases h), hX0⟩
  case round =>
    obtain ⟨k, vs, ra, rc, hk, rfl, rfl, hvs, hrow, hsep, hbd, hX⟩ := hrel
    have Hv := Lib.hid (And.intro hvs (And.intro hsep hbd))
    clear hvs hsep hbd hX0 hrow0
    by_cases hlt : k < n
    · obtain ⟨b, off, ba, bn, bc, rfl, _, hb, hok, hbc, hSb, g0, g1, g2, g3, g4, g5, g6, g7⟩ := (hF.mono (hX.fr _)).at_ hlt
      have Hbn := Lib.hid hSb.1
      generalize hcf : nth l k = cf at *
      have Hcf := Lib.hid hcf
      have hbn := hSb.2.1
      have Hlb := Lib.hid (show (cf.body.flatMap scells).length = bn * 5 by rw [scells_len, hSb.1])
      clear hcf
      have hsz : w.heap.size ≤ wr.heap.size := hX.size
      go_wp2_with (at_builtin; first | (refine wpList_append_sl stmt_T' rfl _ _ rfl (own_lit (B := wr.heap.size + 1) (n := 0) (size := 5) (by simp) (by simp) rfl (by omega)) rfl rfl (hSb.mono (X.fr (by (repeat (first | with_reducible exact X.refl _ | with_reducible assumption | with_reducible refine X.setCell ?_ (by first | (simp; done) | (simp; omega)) _ | with_reducible refine X.ext ?_ _ | with_reducible refine X.alloc ?_ _ | with_reducible refine X.drew ?_))) B)).2.2.2 Hlb.out (scells_one cf.body) (by omega) (by unfold maxLen; omega) (by simp) ?_; intro rb rcb w3 hO3 hg3; rw [List.nil_append, Nat.zero_add] at hO3; rw [Nat.zero_add]; obtain ⟨hB3, hX4⟩ := bx1_of (X.of_litR hg3 (by simp [Value.ownBlock])); obtain ⟨lb, cb, fb⟩ := hB3.out; have e0 := cb 0; have e1 := cb 1; have e2 := cb 2; have e3 := cb 3; have e4 := cb 4; have e5 := cb 5; have e6 := cb 6; have e7 := cb 7; clear cb) | (obtain ⟨w4, hw4⟩ : ∃ w4, w4 = w3.setCell ⟨wr.heap.size, 7, none⟩ (.slice rb bn rcb) := ⟨_, rfl⟩; have hX5 : X wr w4 := (by rw [hw4]; exact X.setCell hX4 (Nat.le_refl _) _); have hrow4 := own_fr hrow (hX5.fr _); have hO4 : w4.ownsRow (wr.heap.size + 1) 88 5 (.slice rb bn rcb) bn (cf.body.flatMap scells) := (by rw [hw4]; exact own_fr hO3 (Fr.set (Fr.refl _ _) (.inr (by simp)) _)); have hsz4 : w.heap.size ≤ w4.heap.size := Nat.le_trans hsz hX5.size; rw [← hw4]; refine wpList_append_g (w := w4) co_T rfl _ _ rfl hrow4 rfl (g := w3.heap.size) rfl (by rw [hw4]; simp) rfl (by simp [Value.oneCell']) (by omega) (by omega) hsz4 ?_; intro a' c' w' hrow' hg'))
      have hE : wr.heap.size ≤ wr.heap.size + 1 := Nat.le_succ _
      have hga : w4.grownBy w' (Value.slice ra k rc).ownBlock := X.grown ((X.refl w4).alloc _) hg'
      have hXw' : X w w' := X.of_below (((X.alloc (hX.trans hX5) _).below).grown hg' (X.size (X.alloc (hX.trans hX5) _)) (fun g hg => by have := (hrow4.lt g hg).1; omega))
      go_roundw
      case rel => exact ⟨k + 1, vs ++ [(cf, .slice rb bn rcb)], a', c', by omega, by go_num, rfl, by rw [List.map_append, Hv.out.1, take_succ_nth (by rw [← Hl.out]; exact hlt), ← Hcf.out]; rfl, by
          rw [List.flatMap_append]
          exact hrow', List.pairwise_append.2 ⟨Hv.out.2.1, List.pairwise_singleton _ _, fun x hx y hy => by
          rw [List.mem_singleton.1 hy]
          obtain ⟨ba', bc', e, ho⟩ := Hv.out.2.2 x hx
          rw [e]
          exact row_far2 ho hE hO4⟩, fun x hx => by
          rcases List.mem_append.1 hx with hx | hx
          · obtain ⟨ba', bc', e, ho⟩ := Hv.out.2.2 x hx
            have ho4 := own_fr ho (hX5.fr _)
            exact ⟨ba', bc', e, ho4.kept hga (row_ne ho4 hrow4 (by decide))⟩
          · rw [List.mem_singleton.1 hx]
            have ho4 := own_less hO4 (show w.heap.size ≤ _ from Nat.le_trans hsz hE)
            refine ⟨rb, rcb, ?_, ?_⟩
            · show Value.slice rb bn rcb = Value.slice rb cf.body.length rcb
              rw [← Hbn.out]
            · show w'.ownsRow _ _ 5 (Value.slice rb cf.body.length rcb) cf.body.length (cf.body.flatMap scells)
              rw [← Hbn.out]
              exact ho4.kept hga (row_ne ho4 hrow4 (by decide)), hXw'⟩
      case measure => simp [intOf]; omega
    · obtain rfl : k = n := by omega
      go_wp2
      go_ret
      exact ⟨ra, rc, rfl, ⟨vs, by rw [Hv.out.1, List.take_of_length_le (by rw [← Hl.out]; omega)], Hl.out, hrow, Hv.out.2.1, Hv.out.2.2⟩, hX⟩

end Go.Proofs.YtjlooplpjliaiaaDoor
