/- The laws' own marks on files, the blocks told: the walk. No condition but sizes. -/
import Derived.Test.YtgjfjjhmgbemcaaGreatDoorIb
namespace Go.Proofs.YtgjfjjhmgbemcaaGreatDoor
open Go.RowKit

/-- A row whose block has not changed. -/
theorem own_same {w w' : World} {B e size n : Nat} {v : Value} {xs : List Value} (h : w.ownsRow B e size v n xs) (hb : ∀ b, v.ownBlock = some b → w'.heap[b]? = w.heap[b]?) : w'.ownsRow B e size v n xs := by
  refine ⟨h.1, ?_⟩
  rcases h.2 with h0 | ⟨g, cap, cur, hv, hB, hg, r⟩
  · exact .inl h0
  · exact .inr ⟨g, cap, cur, hv, hB, (hb g (by rw [hv]; rfl)).trans hg, r⟩
theorem FilesE.keepE {w w' : World} {B E E' n c : Nat} {a : Option Addr} {l : List Fi} (h : FilesE w B E a n c l) (hK : Keep E E' w w') : FilesE w' B E a n c l := by
  obtain ⟨vs, e, h1, h2, hs, h3, h4, h5⟩ := h
  refine ⟨vs, e, h1, own_same h2 fun b hb => hK.block b (h2.lt b hb).2 (.inl (h4 b hb)), hs, fun x hx => ?_, h4, h5⟩
  obtain ⟨ba, bc, e2, ho⟩ := h3 x hx
  exact ⟨ba, bc, e2, own_same ho fun b hb => hK.block b (ho.lt b hb).2 (.inl (h5 x hx b (by rw [e2]; exact hb)))⟩
set_option maxRecDepth 100000 in
set_option maxHeartbeats 2000000 in
theorem markFileS_x (l : List Fi) (a : Option Addr) (n c B E k : Nat) (w : World) (hF : FilesE w B E a n c l) (hn : n ≤ 2097152) (hk : k + wtF l ≤ 1073741824) :
    Calls Tryz.prog 109 #[.slice a n c, .int .i64 (k : Int)] w fun e w' => e = .returned (.int .i64 ((k + wtF l : Nat) : Int)) ∧ FilesE w' B E a n c (marksF k l) ∧ Keep B E w w' := by
  obtain ⟨vs, hvl, hnl, hO0, hsep, hbd0, hEr, hEb⟩ := hF
  have hbl : ∀ x ∈ vs, ∀ b, x.2.ownBlock = some b → B ≤ b ∧ b < E := fun x hx b hb => by
    obtain ⟨ba, bc, e, ho⟩ := hbd0 x hx
    have h2 := hEb x hx b hb
    rw [e] at hb
    exact ⟨(ho.lt b hb).1, h2⟩
  have hvn : vs.length = n := by rw [hnl, hvl, List.length_map]
  have Hw := Lib.hid (fun j h => @wtF_next l j h)
  have Ht := Lib.hid (wtF_take l)
  have Hvn := Lib.hid hvn
  have Hnl := Lib.hid hnl
  have Hvl := Lib.hid hvl
  have Hbl := Lib.hid hbl
  have hgw : ∀ g, a = some ⟨g, 0, none⟩ → B ≤ g ∧ g < E := fun g hg => ⟨(hO0.lt _ (by rw [hg]; rfl)).1, hEr g (by rw [hg]; rfl)⟩
  clear hvn hnl hvl hbl
  go_enter Tryz.func109, Tryz.ntmps109
  go_wp2
  go_loopw [1, 5] (fun v i wr => ∃ (j q : Nat) (zs : List (Fi × Value)), j ≤ n ∧ i = .int .i64 j ∧ v = .int .i64 (q : Int) ∧ q ≤ 1073741824 ∧ q = k + wtF (l.take j) ∧ zs.length = n ∧ zs.map (·.2) = vs.map (·.2) ∧ (∀ i, i < n → (nth zs i).1 = if i < j then nth (marksF k l) i else nth l i) ∧
    wr.ownsRow B 44 6 (.slice a n c) n (zs.flatMap fcells) ∧ (∀ i, i < n → BodyO wr B (nth zs i)) ∧ Keep B E w wr) (fun _ i _ => n - (intOf i).toNat)
  case atStart => exact ⟨0, k, vs, Nat.zero_le _, rfl, rfl, by omega, by simp [wtF], Hvn.out, rfl, fun i hi => by rw [if_neg (by omega), Hvl.out]; exact (nth_map_fst (by rw [Hvn.out]; exact hi)).symm, hO0, fun i hi => hbd0 _ (nth_mem (by rw [Hvn.out]; exact hi)), Keep.refl _ _ _⟩
  case round =>
    obtain ⟨j, q, zs, hj, rfl, rfl, hq, hqe, hzl, hz2, hz1, hO, hbd, hK⟩ := hrel
    have Hz := Lib.hid (And.intro hzl (And.intro hz2 (And.intro hz1 hqe)))
    clear hzl hz2 hz1 hqe hO0
    by_cases hlt : j < n
    · obtain ⟨g, rfl, hB, hgl⟩ := own_form hO (by omega)
      have hgE := hgw g rfl
      have hqn : q + (5 + 5 * (nth l j).body.length) ≤ 1073741824 := by
        have h1 := Hw.out j (by rw [← Hnl.out]; exact hlt)
        have h2 := Ht.out (j + 1)
        have h3 := Hz.out.2.2.2
        omega
      obtain ⟨ba, bc, hbv, hob⟩ := hbd j hlt
      have hfj : (nth zs j).1 = nth l j := by rw [Hz.out.2.2.1 j hlt, if_neg (by omega)]
      rw [hfj] at hbv hob
      have Hfj := Lib.hid hfj
      clear hfj
      have hf0 := (hO).frozenAt (j * 6); obtain ⟨u0, hu0⟩ := own_here hO (j := j * 6) (by omega)
      go_wp2_with fail
      refine calls_name (fun W1 hW1 => ?_)
      have hO1 := own_set_at hW1 hO
      have hg1 : wr.grownBy W1 (some g) := grown_set_at hW1 (World.grownBy.refl _ _)
      clear hW1
      refine (markText_v (q + 1) _ W1 (by omega) (by omega)).mono ?_
      rintro _ w2 ⟨rfl, hx2⟩
      have hO2 := own_fr hO1 (hx2.fr _)
      have hg2 := grown_x hg1 hx2
      have hgl2 := (hO2.lt g rfl).2
      clear hO1 hg1 hx2
      have hf1 := (hO2).frozenAt (j * 6 + 1); obtain ⟨u1, hu1⟩ := own_here hO2 (j := j * 6 + 1) (by omega)
      go_wp2_with fail
      refine calls_name (fun W3 hW3 => ?_)
      have hO3 := own_set_at hW3 hO2
      have hg3 := grown_set_at hW3 hg2
      clear hW3
      refine (markText_v (q + 2) _ W3 (by omega) (by omega)).mono ?_
      rintro _ w4 ⟨rfl, hx4⟩
      have hO4 := own_fr hO3 (hx4.fr _)
      have hg4 := grown_x hg3 hx4
      have hgl4 := (hO4.lt g rfl).2
      clear hO3 hg3 hx4
      have hf2 := (hO4).frozenAt (j * 6 + 2); obtain ⟨u2, hu2⟩ := own_here hO4 (j := j * 6 + 2) (by omega)
      have hf3 := (hO4).frozenAt (j * 6 + 3); obtain ⟨u3, hu3⟩ := own_here hO4 (j := j * 6 + 3) (by omega)
      have hf4 := (hO4).frozenAt (j * 6 + 4); obtain ⟨u4, hu4⟩ := own_here hO4 (j := j * 6 + 4) (by omega)
      have h5 : w4.cell? ⟨g, j * 6 + 5, none⟩ = some (.slice ba (nth l j).body.length bc) := by
        refine row_cell hO4 _ _ ?_
        rw [List.getElem?_set_ne (by omega), List.getElem?_set_ne (by omega), fcells_five (by rw [Hz.out.1]; exact hlt), hbv]
      obtain ⟨cs0, hb0⟩ := own_block hO
      go_wp2_with fail
      refine calls_name (fun W5 hW5 => ?_)
      have hO5 := own_set_at3 hW5 hO4
      have hg5 := grown_set_at3 hW5 hg4
      clear hW5
      rw [fcells_set (zs := zs) (x := nth zs j) (by rw [Hz.out.1]; exact hlt) rfl (fiM q (nth l j)) _ _ _ _ _ (by
        rw [fcells, fiM]
        simp only [List.cons.injEq, Value.int.injEq, Value.bool.injEq, and_true, true_and]
        refine ⟨by rw [Bool.eq_iff_iff]; simp; omega, by omega⟩)] at hO5
      refine (markStmtS_v _ ba _ bc B (q + 5) _ W5 (by omega) (hob.kept hg5 (.inr (own_ne_at hob hb0 (by decide)))) (by omega) (by omega)).mono ?_
      rintro _ w6 ⟨rfl, hob6, hg6⟩
      have hO6 := hO5.kept hg6 (row_ne hO5 (hob.kept hg5 (.inr (own_ne_at hob hb0 (by decide)))) (by decide))
      clear hO5 hO4 hg4 h5
      have hgl6 := (hO6.lt g rfl).2
      go_wp2
      go_roundw
      case rel =>
        obtain ⟨hzl, hz2, hz1, hqe⟩ := Hz.out
        refine ⟨j + 1, q + 5 + 5 * (nth l j).body.length, zs.set j (fiM q (nth l j), (nth zs j).2), by omega, by go_num, by go_num, by omega, ?_, by rw [List.length_set]; exact hzl, ?_, ?_, hO6, ?_, ?_⟩
        · rw [Hw.out j (by rw [← Hnl.out]; exact hlt)]; omega
        · rw [map_snd_set (by omega) rfl]; exact hz2
        · intro i hi
          rw [nth_set (by omega)]
          by_cases hij : i = j
          · subst hij
            rw [if_pos rfl, if_pos (by omega), marksF_nth l k i (by rw [← Hnl.out]; exact hi), ← hqe]
          · rw [if_neg hij, hz1 i hi]
            by_cases h : i < j
            · rw [if_pos h, if_pos (by omega)]
            · rw [if_neg h, if_neg (by omega)]
        · intro i hi
          rw [nth_set (by omega)]
          by_cases hij : i = j
          · subst hij
            rw [if_pos rfl]
            refine ⟨ba, bc, ?_, ?_⟩
            · rw [hbv]; simp only [fiM, stsM_len]
            · simp only [fiM, stsM_len]; exact hob6
          · rw [if_neg hij]
            refine ((hbd i hi).grown hg5 hb0).kept hg6 ?_
            have hs := sep_at (sep_of hsep hz2) (i := i) (j := j) (by omega) (by omega) hij
            rw [hbv] at hs
            rcases hs with h | h | h
            · exact .inl h
            · rw [h]
              cases hx : (nth zs i).2.ownBlock with
              | none => exact .inl rfl
              | some _ => exact .inr (by simp)
            · exact .inr h
        · refine (hK.trans (Keep.of_grown hg5 (fun b hb => ?_))).trans (Keep.of_grown hg6 (fun b hb => ?_))
          · injection hb with hb; subst hb; exact hgE
          · rw [← hbv] at hb
            rw [snd_nth hz2 Hvn.out hzl hlt] at hb
            exact Hbl.out _ (nth_mem (by rw [Hvn.out]; exact hlt)) b hb
      case measure => simp [intOf]; omega
    · obtain rfl : j = n := by omega
      obtain ⟨hzl, hz2, hz1, hqe⟩ := Hz.out
      have Hq := Lib.hid (show q = k + wtF l by rw [hqe, List.take_of_length_le (by rw [← Hnl.out]; omega)])
      clear hzl hz2 hz1 hqe
      go_wp2
      go_ret
      obtain ⟨hzl, hz2, hz1, hqe⟩ := Hz.out
      refine ⟨ret_intW (a := (q : Int)) (by have := Hq.out; omega), ⟨zs, ?_, by rw [marksF_len]; exact Hnl.out, hO, sep_of hsep hz2, fun x hx => ?_, hEr, fun x hx b hb => ?_⟩, hK⟩
      · refine (nth_ext (by rw [List.length_map, marksF_len, hzl]; exact Hnl.out) fun i hi => ?_).symm
        rw [List.length_map, hzl] at hi
        rw [nth_map_fst (by omega), hz1 i hi, if_pos hi]
      · obtain ⟨i, hi, rfl⟩ := List.getElem_of_mem hx
        have := hbd i (by omega)
        rwa [nth_eq hi] at this
      · obtain ⟨i, hi, rfl⟩ := List.getElem_of_mem hx
        rw [← nth_eq hi, snd_nth hz2 Hvn.out hzl (by omega)] at hb
        exact (Hbl.out _ (nth_mem (by rw [Hvn.out]; omega)) b hb).2
set_option maxRecDepth 100000 in
set_option maxHeartbeats 1000000 in
theorem markTree_x (l : List Fi) (a : Option Addr) (n c B E k : Nat) (w : World) (hF : FilesE w B E a n c l) (hn : n ≤ 2097152) (hk : k + wtF l ≤ 1073741824) :
    Calls Tryz.prog 51 #[.agg #[.slice a n c], .int .i64 (k : Int)] w fun e w' => e = .returned (.int .i64 ((k + wtF l : Nat) : Int)) ∧ FilesE w' B E a n c (marksF k l) ∧ Keep B E w w' := by
  go_enter Tryz.func51, Tryz.ntmps51
  go_wp2_with fail
  refine calls_name (fun W hW => ?_)
  have hX0 : X w W := by rw [hW]; (repeat (first | with_reducible exact X.refl _ | with_reducible assumption | with_reducible refine X.setCell ?_ (by first | (simp; done) | (simp; omega)) _ | with_reducible refine X.ext ?_ _ | with_reducible refine X.alloc ?_ _ | with_reducible refine X.drew ?_))
  clear hW
  refine (markFileS_x l a n c B E k W (hF.fr (hX0.fr _)) hn hk).mono ?_
  rintro _ w2 ⟨rfl, hF2, hK⟩
  go_wp2
  go_ret
  exact ⟨rfl, hF2, (Keep.of_x hX0).trans hK⟩

end Go.Proofs.YtgjfjjhmgbemcaaGreatDoor
