/- The laws' own copying of stores: the walk. No condition but lengths. -/
import Derived.Test.YtjlooplpjliaiaaDoorCoW
namespace Go.Proofs.YtjlooplpjliaiaaDoor
open Go.RowKit

theorem grown_set8 (w : World) (g o : Nat) (v0 v1 v2 v3 v4 v5 v6 v7 : Value) : w.grownBy ((((((((w.setCell ⟨g, o, none⟩ v0).setCell ⟨g, o + 1, none⟩ v1).setCell ⟨g, o + 2, none⟩ v2).setCell ⟨g, o + 3, none⟩ v3).setCell ⟨g, o + 4, none⟩ v4).setCell ⟨g, o + 5, none⟩ v5).setCell ⟨g, o + 6, none⟩ v6).setCell ⟨g, o + 7, none⟩ v7) (some g) :=
  grown_next (grown_next (grown_next (grown_next (grown_next (grown_next (grown_next (grown_set _ _ _) _ _) _ _) _ _) _ _) _ _) _ _) _ _

set_option maxRecDepth 100000 in
set_option maxHeartbeats 1000000 in
theorem toCompiledS_c (l : List Co) (a : Option Addr) (n c B : Nat) (w : World) (hF : CosAt w B a n l) :
    Calls Tryd.prog 19 #[.slice a n c] w fun e w' => ∃ ra, e = .returned (.slice ra n n) ∧ CosO w' w.heap.size ra n n l ∧ X w w' := by
  obtain ⟨hl, hn⟩ := hF.len
  obtain ⟨i0, hi, hz0, hz1, hz2⟩ := info_parts info_co
  have hz : (madeCells (Value.agg #[.int .i64 0, .string ⟨#[]⟩, .bool false, .int .i64 0, .int .i64 0, .int .i64 0, .int .i64 0, .slice none 0 0]).cells (n * 8)).toList.length = n * 8 := by rw [Array.length_toList, size_madeCells]
  have Hz := Lib.hid hz
  have Hl := Lib.hid hl
  clear hl hz
  generalize hZ : (madeCells (Value.agg #[.int .i64 0, .string ⟨#[]⟩, .bool false, .int .i64 0, .int .i64 0, .int .i64 0, .int .i64 0, .slice none 0 0]).cells (n * 8)).toList = Z at *
  go_enter Tryd.func19, Tryd.ntmps19
  go_wp2_with (at_make; refine wpList_make_full _ rfl _ _ 26 rfl w.heap.size 65 i0 (.agg #[.int .i64 0, .string ⟨#[]⟩, .bool false, .int .i64 0, .int .i64 0, .int .i64 0, .int .i64 0, .slice none 0 0]) 8 Tryd.underlying26 hi hz0 hz1 _ _ _ _ n rfl rfl rfl rfl (by rw [hz2]; omega) (by unfold maxLen; omega) (Nat.le_refl _) ?_; intro w1 hO1 hg1; rw [hZ] at hO1; clear hZ)
  have hX0 : X w w1 := X.of_grown hg1
  clear hg1
  go_loopw [4] (fun i wr => ∃ (k : Nat) (vs : List (Co × Value)), k ≤ n ∧ i = .int .i64 k ∧ X w wr ∧ vs.map (·.1) = l.take k ∧ wr.ownsRow w.heap.size 65 8 (.slice (some ⟨w.heap.size, 0, none⟩) n n) n (vs.flatMap ccells ++ Z.drop (k * 8)) ∧ SepC vs ∧
    ∀ x ∈ vs, BodyC wr w.heap.size x) (fun i _ => n - (intOf i).toNat)
  case atStart => exact ⟨0, [], Nat.zero_le _, rfl, hX0, rfl, by rw [Nat.zero_mul]; exact hO1, List.Pairwise.nil, fun _ h => by cases h⟩
  case round =>
    obtain ⟨k, vs, hk, rfl, hX, hvs, hO, hsep, hbd⟩ := hrel
    have Hsep := Lib.hid hsep
    clear hsep
    clear hX0 hO1
    have Hvs := Lib.hid hvs
    clear hvs
    have Hbd := Lib.hid hbd
    clear hbd
    have hvl : vs.length = k := by have := congrArg List.length Hvs.out; rw [List.length_map, List.length_take, ← Hl.out] at this; omega
    have Hvl := Lib.hid hvl
    clear hvl
    by_cases hlt : k < n
    · obtain ⟨b, off, ba, bn, bc, rfl, _, hb, hok, hbc, hSb, g0, g1, g2, g3, g4, g5, g6, g7⟩ := (hF.mono (hX.fr _)).at_ hlt
      have hbn := hSb.1
      have Hbn := Lib.hid hbn
      clear hbn
      go_wp2_with (go_at_call 52; refine (toCompiled_c (nth l k) ba bn bc _ _ hSb).mono ?_; rintro _ w3 ⟨ra, rfl, hOb, hx3⟩; have hO3 := own_fr hO (hx3.fr _); have hX3 := hX.trans hx3; have hg3 := (hO3.lt w.heap.size rfl).2; have hf0 := (hO3).frozenAt (k * 8); obtain ⟨u0, hu0⟩ := own_here hO3 (j := k * 8) (by omega); have hf1 := (hO3).frozenAt (k * 8 + 1); obtain ⟨u1, hu1⟩ := own_here hO3 (j := k * 8 + 1) (by omega); have hf2 := (hO3).frozenAt (k * 8 + 2); obtain ⟨u2, hu2⟩ := own_here hO3 (j := k * 8 + 2) (by omega); have hf3 := (hO3).frozenAt (k * 8 + 3); obtain ⟨u3, hu3⟩ := own_here hO3 (j := k * 8 + 3) (by omega); have hf4 := (hO3).frozenAt (k * 8 + 4); obtain ⟨u4, hu4⟩ := own_here hO3 (j := k * 8 + 4) (by omega); have hf5 := (hO3).frozenAt (k * 8 + 5); obtain ⟨u5, hu5⟩ := own_here hO3 (j := k * 8 + 5) (by omega); have hf6 := (hO3).frozenAt (k * 8 + 6); obtain ⟨u6, hu6⟩ := own_here hO3 (j := k * 8 + 6) (by omega); have hf7 := (hO3).frozenAt (k * 8 + 7); obtain ⟨u7, hu7⟩ := own_here hO3 (j := k * 8 + 7) (by omega))
      obtain ⟨cs3, hb3⟩ := own_block hO3
      go_roundw
      case rel => exact ⟨k + 1, vs ++ [(nth l k, .slice ra bn bn)], by omega, by go_num, by (repeat (first | with_reducible exact X.refl _ | with_reducible assumption | with_reducible refine X.setCell ?_ (by first | (simp; done) | (simp; omega)) _ | with_reducible refine X.ext ?_ _ | with_reducible refine X.alloc ?_ _ | with_reducible refine X.drew ?_)), by rw [List.map_append, Hvs.out, take_succ_nth (by rw [← Hl.out]; exact hlt)]; rfl, by
          have h8 := own_set8 hO3 (k * 8) (.int .i64 (nth l k).root) (.string ⟨((nth l k).mod).toArray⟩) (.bool (nth l k).init) (.int .i64 (nth l k).mode) (.int .i64 (nth l k).stamp) (.int .i64 (nth l k).size) (.int .i64 (nth l k).hash) (.slice ra bn bn)
          rw [fill8 (by rw [flat_length 8 ccells ccells8, Hvl.out]) (left_len Hz.out hlt), List.drop_drop] at h8
          rw [List.flatMap_append, List.append_assoc, Nat.succ_mul]
          exact h8, List.pairwise_append.2 ⟨Hsep.out, List.pairwise_singleton _ _, fun x hx y hy => by
            rw [List.mem_singleton.1 hy]
            obtain ⟨ba', bc', e, ho⟩ := Hbd.out x hx
            rw [e]
            exact row_far ho rfl hOb⟩, fun x hx => by
          rcases List.mem_append.1 hx with hx | hx
          · exact ((Hbd.out x hx).fr (hx3.fr _)).grown (grown_set8 _ _ _ _ _ _ _ _ _ _ _) hb3
          · rw [List.mem_singleton.1 hx]
            have ho3 := own_less hOb hX.size
            rw [Hbn.out] at ho3 ⊢
            exact BodyC.grown ⟨ra, _, rfl, ho3⟩ (grown_set8 _ _ _ _ _ _ _ _ _ _ _) hb3⟩
      case measure => simp [intOf]; omega
    · obtain rfl : k = n := by omega
      go_wp2
      go_ret
      refine ⟨_, rfl, ⟨vs, by rw [Hvs.out, List.take_of_length_le (by rw [← Hl.out]; omega)], Hl.out, ?_, Hsep.out, Hbd.out⟩, hX⟩
      rw [List.drop_eq_nil_of_le (by rw [Hz.out]; omega), List.append_nil] at hO
      exact hO

end Go.Proofs.YtjlooplpjliaiaaDoor
