/- Copies of directories, both sides: the walks. No condition but lengths. -/
import Derived.Test.YtgjfjjhmgbemcaaGreatDoorDiM
import Derived.Test.YtgjfjjhmgbemcaaGreatDoorIe
import Derived.Test.YtgjfjjhmgbemcaaGreatDoorLa
namespace Go.Proofs.YtgjfjjhmgbemcaaGreatDoor
open Go.RowKit

theorem dir_T' : AppT Tryz.prog 36 140 4 56 := AppT.of (z := .agg #[.int .i64 0, .string ⟨#[]⟩, .int .i64 0, .slice none 0 0]) (by kernel_rfl) (by kernel_rfl) rfl (by omega)
theorem strs_oneD (l : List (List UInt8)) : ∀ u ∈ strs l, u.oneCell' = true := by
  intro u hu
  rw [strs_eq] at hu
  obtain ⟨x, _, rfl⟩ := List.mem_map.1 hu
  rfl
theorem strs_lenD (l : List (List UInt8)) : (strs l).length = l.length := by rw [strs_eq, List.length_map]
set_option maxRecDepth 100000 in
set_option maxHeartbeats 2000000 in
theorem cloneDirs_c (l : List Di) (a : Option Addr) (n c B : Nat) (w : World) (hD : DirsAt w B a n l) :
    Calls Tryz.prog 104 #[.slice a n c] w fun e w' => ∃ ra rc, e = .returned (.slice ra n rc) ∧ DirsO w' w.heap.size ra n rc l ∧ X w w' := by
  obtain ⟨hl, hn⟩ := hD.len
  have Hl := Lib.hid hl
  clear hl
  go_enter Tryz.func104, Tryz.ntmps104
  go_wp2
  refine wp_name (fun W0 hW0 => ?_)
  have hX0 : X w W0 := by rw [hW0]; (repeat (first | with_reducible exact X.refl _ | with_reducible assumption | with_reducible refine X.setCell ?_ (by first | (simp; done) | (simp; omega)) _ | with_reducible refine X.ext ?_ _ | with_reducible refine X.alloc ?_ _ | with_reducible refine X.drew ?_))
  have hrow0 : W0.ownsRow w.heap.size 140 4 (.slice (some ⟨w.heap.size, 0, none⟩) 0 0) 0 [] := by
    rw [hW0]
    exact own_fr (own_lit (w := w) (cs := #[]) (e := 140) (B := w.heap.size) (g := w.heap.size) (size := 4) (n := 0) rfl (Nat.le_refl _) rfl (by omega)) (X.fr (by (repeat (first | with_reducible exact X.refl _ | with_reducible assumption | with_reducible refine X.setCell ?_ (by first | (simp; done) | (simp; omega)) _ | with_reducible refine X.ext ?_ _ | with_reducible refine X.alloc ?_ _ | with_reducible refine X.drew ?_))) _)
  clear hW0
  go_loopw [3, 5, 9] (fun v _ i wr => ∃ (k : Nat) (vs : List (Di × Value)) (ra : Option Addr) (rc : Nat), k ≤ n ∧ i = .int .i64 k ∧ v = .slice ra k rc ∧ vs.length = k ∧ vs.map (·.1) = l.take k ∧ wr.ownsRow w.heap.size 140 4 (.slice ra k rc) k (vs.flatMap dcells) ∧ SepD vs ∧ (∀ x ∈ vs, BodyD wr w.heap.size x) ∧ X w wr) (fun _ _ i _ => n - (intOf i).toNat)
  case atStart => exact ⟨0, [], _, 0, Nat.zero_le _, rfl, rfl, rfl, rfl, hrow0, List.Pairwise.nil, (fun _ h => by cases h), hX0⟩
  case round =>
    obtain ⟨k, vs, ra, rc, hk, rfl, rfl, hvl, hvs, hrow, hsep, hbd, hX⟩ := hrel
    have Hv := Lib.hid (And.intro hvs (And.intro hsep (And.intro hbd hvl)))
    clear hvs hsep hbd hvl hX0 hrow0
    by_cases hlt : k < n
    · obtain ⟨b, off, ba, bn, bc, rfl, _, hb, hpk, hbc, hSb, g0, g1, g2, g3⟩ := (hD.mono (hX.fr _)).at_ hlt
      have Hbn := Lib.hid hSb.1
      have hbn := hSb.2.1
      have hsz := hX.size
      go_wp2_with (first
        | (at_builtin; refine wpList_append_sl str_T rfl _ _ rfl (own_lit (B := wr.heap.size + 1) (n := 0) (size := 1) (by simp) (by simp) rfl (by omega)) rfl rfl (hSb.mono (X.fr (by (repeat (first | with_reducible exact X.refl _ | with_reducible assumption | with_reducible refine X.setCell ?_ (by first | (simp; done) | (simp; omega)) _ | with_reducible refine X.ext ?_ _ | with_reducible refine X.alloc ?_ _ | with_reducible refine X.drew ?_))) _)).2.2.2 (by rw [strs_lenD, Nat.mul_one]; exact Hbn.out.symm) (strs_oneD _) (by omega) (by unfold maxLen; omega) (by simp) ?_; intro a1 c1 w1 hO1 hg1; have hX41 := X.of_litR hg1 (by simp [Value.ownBlock]); have hB1 := (Bx.new wr #[.int .i64 (nth l k).root, .string ⟨((nth l k).pkg).toArray⟩, .int .i64 (nth l k).stamp, .slice ba bn bc] 140).x hX41; have hX1 : X wr w1 := X.trans (by (repeat (first | with_reducible exact X.refl _ | with_reducible assumption | with_reducible refine X.setCell ?_ (by first | (simp; done) | (simp; omega)) _ | with_reducible refine X.ext ?_ _ | with_reducible refine X.alloc ?_ _ | with_reducible refine X.drew ?_))) hX41; have hT1 := at_x2' (heap_alloc_new wr (.cells #[.int .i64 (nth l k).root, .string ⟨((nth l k).pkg).toArray⟩, .int .i64 (nth l k).stamp, .slice ba bn bc] 140)) hX41; obtain ⟨lb1, cb1, fb1⟩ := hB1.out; have e0 := cb1 0; have e1 := cb1 1; have e2 := cb1 2; have e3 := cb1 3; clear cb1)
        | (at_builtin; refine wpList_append_g dir_T' rfl _ _ rfl (own_fr hrow (X.fr (by (repeat (first | with_reducible exact X.refl _ | with_reducible assumption | with_reducible refine X.setCell ?_ (by first | (simp; done) | (simp; omega)) _ | with_reducible refine X.ext ?_ _ | with_reducible refine X.alloc ?_ _ | with_reducible refine X.drew ?_))) _)) rfl rfl (by simp) rfl (by simp [Value.oneCell']) (by omega) (by omega) (by first | omega | (simp; omega)) ?_; intro a2 c2 w2 hO2 hg2))
      go_roundw
      case rel =>
        rw [List.nil_append, Nat.zero_add] at hO1
        obtain ⟨hvs, hsep, hbd, hvl⟩ := Hv.out
        have hbe := Hbn.out
        subst hbe hvl
        have hX6 : X wr (w1.setCell ⟨wr.heap.size, 3, none⟩ (.slice a1 (nth l vs.length).names.length c1)) := hX1.setCell (Nat.le_refl _) _
        have hO6 := own_less (own_set_far hO1 hT1 (by decide) 3 (.slice a1 (nth l vs.length).names.length c1)) (show w.heap.size ≤ wr.heap.size + 1 by omega)
        have hXA := hX6.alloc (.cells #[.int .i64 (nth l vs.length).root, .string ⟨((nth l vs.length).pkg).toArray⟩, .int .i64 (nth l vs.length).stamp, .slice a1 (nth l vs.length).names.length c1] 140)
        have hrA := own_fr hrow (hXA.fr _)
        have H := DirsV.snoc (d := nth l vs.length) (ba := a1) (bc := c1) ⟨hrA, hsep, fun x hx => (hbd x hx).fr (hXA.fr _)⟩ hO2 hg2 (hO6.alloc _) (fun x hx => by
          obtain ⟨p, q, e, ho⟩ := hbd x hx
          rw [e]
          rcases row_far ho rfl (own_less hO1 (Nat.le_succ _)) with e | e | e
          · exact .inr (.inl e)
          · exact .inl e
          · exact .inr (.inr e))
        obtain ⟨h1, h2, h3⟩ := H
        rw [List.length_append, List.length_singleton] at h1
        exact ⟨vs.length + 1, _, a2, c2, by omega, by go_num, rfl, by rw [List.length_append, List.length_singleton], by rw [List.map_append, hvs, take_succ_nth (by rw [← Hl.out]; exact hlt)]; rfl, h1, h2, h3, X.of_below ((hX.trans hXA).below.grown hg2 (hX.trans hXA).size (fun g hg => (hrA.lt g hg).1))⟩
      case measure => simp [intOf]; omega
    · obtain rfl : k = n := by omega
      go_wp2
      go_ret
      refine ⟨ra, rc, rfl, ⟨vs, by rw [Hv.out.1, List.take_of_length_le (by rw [← Hl.out]; omega)], Hl.out, hrow, Hv.out.2.1, Hv.out.2.2.1⟩, hX⟩
set_option maxRecDepth 100000 in
set_option maxHeartbeats 2000000 in
theorem copyDirs_c (l : List Di) (a : Option Addr) (n c B : Nat) (w : World) (hD : DirsAt w B a n l) :
    Calls Tryz.prog 97 #[.slice a n c] w fun e w' => ∃ ra rc, e = .returned (.slice ra n rc) ∧ DirsO w' w.heap.size ra n rc l ∧ X w w' := by
  obtain ⟨hl, hn⟩ := hD.len
  have Hl := Lib.hid hl
  clear hl
  go_enter Tryz.func97, Tryz.ntmps97
  go_wp2
  refine wp_name (fun W0 hW0 => ?_)
  have hX0 : X w W0 := by rw [hW0]; (repeat (first | with_reducible exact X.refl _ | with_reducible assumption | with_reducible refine X.setCell ?_ (by first | (simp; done) | (simp; omega)) _ | with_reducible refine X.ext ?_ _ | with_reducible refine X.alloc ?_ _ | with_reducible refine X.drew ?_))
  have hrow0 : W0.ownsRow w.heap.size 140 4 (.slice (some ⟨w.heap.size, 0, none⟩) 0 0) 0 [] := by
    rw [hW0]
    exact own_fr (own_lit (w := w) (cs := #[]) (e := 140) (B := w.heap.size) (g := w.heap.size) (size := 4) (n := 0) rfl (Nat.le_refl _) rfl (by omega)) (X.fr (by (repeat (first | with_reducible exact X.refl _ | with_reducible assumption | with_reducible refine X.setCell ?_ (by first | (simp; done) | (simp; omega)) _ | with_reducible refine X.ext ?_ _ | with_reducible refine X.alloc ?_ _ | with_reducible refine X.drew ?_))) _)
  clear hW0
  go_loopw [3, 4, 5] (fun v i _ wr => ∃ (k : Nat) (vs : List (Di × Value)) (ra : Option Addr) (rc : Nat), k ≤ n ∧ i = .int .i64 k ∧ v = .slice ra k rc ∧ vs.length = k ∧ vs.map (·.1) = l.take k ∧ wr.ownsRow w.heap.size 140 4 (.slice ra k rc) k (vs.flatMap dcells) ∧ SepD vs ∧ (∀ x ∈ vs, BodyD wr w.heap.size x) ∧ X w wr) (fun _ i _ _ => n - (intOf i).toNat)
  case atStart => exact ⟨0, [], _, 0, Nat.zero_le _, rfl, rfl, rfl, rfl, hrow0, List.Pairwise.nil, (fun _ h => by cases h), hX0⟩
  case round =>
    obtain ⟨k, vs, ra, rc, hk, rfl, rfl, hvl, hvs, hrow, hsep, hbd, hX⟩ := hrel
    have Hv := Lib.hid (And.intro hvs (And.intro hsep (And.intro hbd hvl)))
    clear hvs hsep hbd hvl hX0 hrow0
    by_cases hlt : k < n
    · obtain ⟨b, off, ba, bn, bc, rfl, _, hb, hpk, hbc, hSb, g0, g1, g2, g3⟩ := (hD.mono (hX.fr _)).at_ hlt
      have Hbn := Lib.hid hSb.1
      have hbn := hSb.2.1
      have hsz := hX.size
      go_wp2_with (first
        | (at_builtin; refine wpList_append_sl str_T rfl _ _ rfl (own_lit (B := wr.heap.size + 1) (n := 0) (size := 1) (by simp) (by simp) rfl (by omega)) rfl rfl (hSb.mono (X.fr (by (repeat (first | with_reducible exact X.refl _ | with_reducible assumption | with_reducible refine X.setCell ?_ (by first | (simp; done) | (simp; omega)) _ | with_reducible refine X.ext ?_ _ | with_reducible refine X.alloc ?_ _ | with_reducible refine X.drew ?_))) _)).2.2.2 (by rw [strs_lenD, Nat.mul_one]; exact Hbn.out.symm) (strs_oneD _) (by omega) (by unfold maxLen; omega) (by simp) ?_; intro a1 c1 w1 hO1 hg1; have hX41 := X.of_litR hg1 (by simp [Value.ownBlock]); have hB1 := (Bx.new wr #[.int .i64 (nth l k).root, .string ⟨((nth l k).pkg).toArray⟩, .int .i64 (nth l k).stamp, .slice ba bn bc] 140).x hX41; have hX1 : X wr w1 := X.trans (by (repeat (first | with_reducible exact X.refl _ | with_reducible assumption | with_reducible refine X.setCell ?_ (by first | (simp; done) | (simp; omega)) _ | with_reducible refine X.ext ?_ _ | with_reducible refine X.alloc ?_ _ | with_reducible refine X.drew ?_))) hX41; have hT1 := at_x2' (heap_alloc_new wr (.cells #[.int .i64 (nth l k).root, .string ⟨((nth l k).pkg).toArray⟩, .int .i64 (nth l k).stamp, .slice ba bn bc] 140)) hX41; obtain ⟨lb1, cb1, fb1⟩ := hB1.out; have e0 := cb1 0; have e1 := cb1 1; have e2 := cb1 2; have e3 := cb1 3; clear cb1)
        | (at_builtin; refine wpList_append_g dir_T' rfl _ _ rfl (own_fr hrow (X.fr (by (repeat (first | with_reducible exact X.refl _ | with_reducible assumption | with_reducible refine X.setCell ?_ (by first | (simp; done) | (simp; omega)) _ | with_reducible refine X.ext ?_ _ | with_reducible refine X.alloc ?_ _ | with_reducible refine X.drew ?_))) _)) rfl rfl (by simp) rfl (by simp [Value.oneCell']) (by omega) (by omega) (by first | omega | (simp; omega)) ?_; intro a2 c2 w2 hO2 hg2))
      go_roundw
      case rel =>
        rw [List.nil_append, Nat.zero_add] at hO1
        obtain ⟨hvs, hsep, hbd, hvl⟩ := Hv.out
        have hbe := Hbn.out
        subst hbe hvl
        have hX6 : X wr (w1.setCell ⟨wr.heap.size, 3, none⟩ (.slice a1 (nth l vs.length).names.length c1)) := hX1.setCell (Nat.le_refl _) _
        have hO6 := own_less (own_set_far hO1 hT1 (by decide) 3 (.slice a1 (nth l vs.length).names.length c1)) (show w.heap.size ≤ wr.heap.size + 1 by omega)
        have hXA := hX6.alloc (.cells #[.int .i64 (nth l vs.length).root, .string ⟨((nth l vs.length).pkg).toArray⟩, .int .i64 (nth l vs.length).stamp, .slice a1 (nth l vs.length).names.length c1] 140)
        have hrA := own_fr hrow (hXA.fr _)
        have H := DirsV.snoc (d := nth l vs.length) (ba := a1) (bc := c1) ⟨hrA, hsep, fun x hx => (hbd x hx).fr (hXA.fr _)⟩ hO2 hg2 (hO6.alloc _) (fun x hx => by
          obtain ⟨p, q, e, ho⟩ := hbd x hx
          rw [e]
          rcases row_far ho rfl (own_less hO1 (Nat.le_succ _)) with e | e | e
          · exact .inr (.inl e)
          · exact .inl e
          · exact .inr (.inr e))
        obtain ⟨h1, h2, h3⟩ := H
        rw [List.length_append, List.length_singleton] at h1
        exact ⟨vs.length + 1, _, a2, c2, by omega, by go_num, rfl, by rw [List.length_append, List.length_singleton], by rw [List.map_append, hvs, take_succ_nth (by rw [← Hl.out]; exact hlt)]; rfl, h1, h2, h3, X.of_below ((hX.trans hXA).below.grown hg2 (hX.trans hXA).size (fun g hg => (hrA.lt g hg).1))⟩
      case measure => simp [intOf]; omega
    · obtain rfl : k = n := by omega
      go_wp2
      go_ret
      refine ⟨ra, rc, rfl, ⟨vs, by rw [Hv.out.1, List.take_of_length_le (by rw [← Hl.out]; omega)], Hl.out, hrow, Hv.out.2.1, Hv.out.2.2.1⟩, hX⟩

end Go.Proofs.YtgjfjjhmgbemcaaGreatDoor
