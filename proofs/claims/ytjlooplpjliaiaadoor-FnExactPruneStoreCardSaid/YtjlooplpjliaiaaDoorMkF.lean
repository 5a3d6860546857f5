/- The laws' own marks on files: the walk. No condition but sizes. -/
import Derived.Test.YtjlooplpjliaiaaDoorMkW
import Derived.Test.YtjlooplpjliaiaaDoorTree
namespace Go.Proofs.YtjlooplpjliaiaaDoor
open Go.RowKit

theorem markStmtS_v (xs : List Value) (a : Option Addr) (n c B k : Nat) (v : Int) (w : World) (hv : v = (k : Int)) (hO : w.ownsRow B 88 5 (.slice a n c) n xs) (hn : n ≤ 1073741824) (hk : k ≤ 1073741824) :
    Calls Tryd.prog 25 #[.slice a n c, .int .i64 v] w fun e w' => e = .returned (.int .i64 ((k + 5 * n : Nat) : Int)) ∧ w'.ownsRow B 88 5 (.slice a n c) n ((stsM k n).flatMap scells) ∧ w.grownBy w' (Value.slice a n c).ownBlock := by
  subst hv
  exact markStmtS_c xs a n c B k w hO hn hk
theorem ret_intW {a b : Int} (h : a = b) : Ending.returned (.int .i64 a) = .returned (.int .i64 b) := by rw [h]
/-- One body of files of the call's own. -/
def BodyO (w : World) (B : Nat) (x : Fi × Value) : Prop := ∃ ba bc, x.2 = .slice ba x.1.body.length bc ∧ w.ownsRow B 88 5 (.slice ba x.1.body.length bc) x.1.body.length (x.1.body.flatMap scells)
theorem BodyO.grown {w w' : World} {B g : Nat} {x : Fi × Value} {cs : Array Value} (h : BodyO w B x) (hg : w.grownBy w' (some g)) (hb : w.heap[g]? = some (.cells cs 48 (0, 0))) : BodyO w' B x := by
  obtain ⟨ba, bc, e, ho⟩ := h
  exact ⟨ba, bc, e, ho.kept hg (.inr (own_ne_at ho hb (by decide)))⟩
theorem BodyO.kept {w w' : World} {B : Nat} {x : Fi × Value} {row : Option Nat} (h : BodyO w B x) (hg : w.grownBy w' row) (hr : x.2.ownBlock = none ∨ x.2.ownBlock ≠ row) : BodyO w' B x := by
  obtain ⟨ba, bc, e, ho⟩ := h
  rw [e] at hr
  exact ⟨ba, bc, e, ho.kept hg hr⟩
/-- Files of the call's own, in blocks before E. -/
def FilesE (w : World) (B E : Nat) (a : Option Addr) (n c : Nat) (l : List Fi) : Prop :=
  ∃ vs : List (Fi × Value), l = vs.map (·.1) ∧ n = l.length ∧ w.ownsRow B 48 6 (.slice a n c) n (vs.flatMap fcells) ∧ Sep vs ∧ (∀ x ∈ vs, BodyO w B x) ∧
    (∀ b, (Value.slice a n c).ownBlock = some b → b < E) ∧ ∀ x ∈ vs, ∀ b, x.2.ownBlock = some b → b < E
theorem FilesO.e {w : World} {B n c : Nat} {a : Option Addr} {l : List Fi} (h : FilesO w B a n c l) : FilesE w B w.heap.size a n c l := by
  obtain ⟨vs, e, h1, h2, hs, h3⟩ := h
  exact ⟨vs, e, h1, h2, hs, h3, fun b hb => (h2.lt b hb).2, fun x hx b hb => by obtain ⟨ba, bc, e, ho⟩ := h3 x hx; rw [e] at hb; exact (ho.lt b hb).2⟩
theorem FilesE.fr {w w' : World} {B E n c : Nat} {a : Option Addr} {l : List Fi} (h : FilesE w B E a n c l) (hx : Fr B w w') : FilesE w' B E a n c l := by
  obtain ⟨vs, e, h1, h2, hs, h3, h4, h5⟩ := h
  exact ⟨vs, e, h1, own_fr h2 hx, hs, fun x hm => let ⟨ba, bc, e, ho⟩ := h3 x hm; ⟨ba, bc, e, own_fr ho hx⟩, h4, h5⟩
theorem FilesE.o {w : World} {B E n c : Nat} {a : Option Addr} {l : List Fi} (h : FilesE w B E a n c l) : FilesO w B a n c l := by
  obtain ⟨vs, e, h1, h2, hs, h3, _⟩ := h
  exact ⟨vs, e, h1, h2, hs, h3⟩
theorem sep_at {vs : List (Fi × Value)} (h : Sep vs) {i j : Nat} (hi : i < vs.length) (hj : j < vs.length) (hne : i ≠ j) : (nth vs i).2.ownBlock = none ∨ (nth vs j).2.ownBlock = none ∨ (nth vs i).2.ownBlock ≠ (nth vs j).2.ownBlock := by
  unfold Sep at h
  rw [List.pairwise_iff_getElem] at h
  rw [nth_eq hi, nth_eq hj]
  rcases Nat.lt_or_ge i j with h1 | h1
  · rcases h i j hi hj h1 with h | h | h
    · exact .inl h
    · exact .inr (.inl h)
    · exact .inr (.inr (Ne.symm h))
  · rcases h j i hj hi (by omega) with h | h | h
    · exact .inr (.inl h)
    · exact .inl h
    · exact .inr (.inr h)
theorem nth_set {α : Type} [Inhabited α] {l : List α} {i j : Nat} {x : α} (hj : j < l.length) : nth (l.set j x) i = if i = j then x else nth l i := by
  unfold nth
  simp only [List.getD_eq_getElem?_getD, List.getElem?_set]
  by_cases h : j = i
  · subst h; simp [hj]
  · simp [h, Ne.symm h]
theorem fcells_five {zs : List (Fi × Value)} {j : Nat} (hj : j < zs.length) : (zs.flatMap fcells)[j * 6 + 5]? = some (nth zs j).2 := by
  have hl : j * 6 + 5 < (zs.flatMap fcells).length := by rw [flat_length 6 fcells fcells6]; omega
  rw [List.getElem?_eq_getElem hl, flat_get 6 fcells fcells6 zs j 5 hj (by omega) hl, nth_eq hj]
  rfl
theorem map_snd_set {zs : List (Fi × Value)} {j : Nat} (hj : j < zs.length) {f' : Fi} {v : Value} (hv : (nth zs j).2 = v) : (zs.set j (f', v)).map (·.2) = zs.map (·.2) := by
  rw [List.map_set]
  refine List.ext_getElem (by simp) fun i h1 h2 => ?_
  rw [List.getElem_set]
  split
  · rename_i h
    subst h
    rw [List.getElem_map, ← nth_eq hj, hv]
  · rfl
theorem sep_of {vs zs : List (Fi × Value)} (h : Sep vs) (hz : zs.map (·.2) = vs.map (·.2)) : Sep zs := by
  have h1 : (vs.map (·.2)).Pairwise (fun x y : Value => x.ownBlock = none ∨ y.ownBlock = none ∨ y.ownBlock ≠ x.ownBlock) := List.pairwise_map.2 h
  rw [← hz] at h1
  exact List.pairwise_map.1 h1
theorem snd_nth {vs zs : List (Fi × Value)} {n i : Nat} (hz : zs.map (·.2) = vs.map (·.2)) (hv : vs.length = n) (hl : zs.length = n) (hi : i < n) : (nth zs i).2 = (nth vs i).2 := by
  have h1 : (zs.map (·.2))[i]? = (vs.map (·.2))[i]? := by rw [hz]
  rw [List.getElem?_map, List.getElem?_map, List.getElem?_eq_getElem (by omega), List.getElem?_eq_getElem (by omega)] at h1
  rw [nth_eq (by omega), nth_eq (by omega)]
  simpa using h1

set_option maxRecDepth 100000 in
set_option maxHeartbeats 2000000 in
theorem markFileS_e (l : List Fi) (a : Option Addr) (n c B E k : Nat) (w : World) (hF : FilesE w B E a n c l) (hn : n ≤ 2097152) (hk : k + wtF l ≤ 1073741824) :
    Calls Tryd.prog 44 #[.slice a n c, .int .i64 (k : Int)] w fun e w' => e = .returned (.int .i64 ((k + wtF l : Nat) : Int)) ∧ FilesO w' B a n c (marksF k l) ∧ Keep B E w w' := by
  obtain ⟨vs, hvl, hnl, hO0, hsep, hbd0, hEr, hEb⟩ := hF
  have hbl : ∀ x ∈ vs, ∀ b, x.2.ownBlock = some b → B ≤ b ∧ b < E := fun x hx b hb => by
    obtain ⟨ba, bc, e, ho⟩ := hbd0 x hx
    have h2 := hEb x hx b hb
    rw [e] at hb
    exact ⟨(ho.lt b hb).1, h2⟩
  have hvn : vs.length = n := by rw [hnl, hvl, List.length_map]
  have Hw := Lib.hid (fun j h => @wtF_next l j h)
  have Ht := Lib.hid (wtF_take l)
  have Hvn := Lib.hid hvn
  have Hnl := Lib.hid hnl
  have Hvl := Lib.hid hvl
  have Hbl := Lib.hid hbl
  have hgw : ∀ g, a = some ⟨g, 0, none⟩ → B ≤ g ∧ g < E := fun g hg => ⟨(hO0.lt _ (by rw [hg]; rfl)).1, hEr g (by rw [hg]; rfl)⟩
  clear hvn hnl hvl hbl
  go_enter Tryd.func44, Tryd.ntmps44
  go_wp2
  go_loopw [1, 5] (fun v i wr => ∃ (j q : Nat) (zs : List (Fi × Value)), j ≤ n ∧ i = .int .i64 j ∧ v = .int .i64 (q : Int) ∧ q ≤ 1073741824 ∧ q = k + wtF (l.take j) ∧ zs.length = n ∧ zs.map (·.2) = vs.map (·.2) ∧ (∀ i, i < n → (nth zs i).1 = if i < j then nth (marksF k l) i else nth l i) ∧
    wr.ownsRow B 48 6 (.slice a n c) n (zs.flatMap fcells) ∧ (∀ i, i < n → BodyO wr B (nth zs i)) ∧ Keep B E w wr) (fun _ i _ => n - (intOf i).toNat)
  case atStart => exact ⟨0, k, vs, Nat.zero_le _, rfl, rfl, by omega, by simp [wtF], Hvn.out, rfl, fun i hi => by rw [if_neg (by omega), Hvl.out]; exact (nth_map_fst (by rw [Hvn.out]; exact hi)).symm, hO0, fun i hi => hbd0 _ (nth_mem (by rw [Hvn.out]; exact hi)), Keep.refl _ _ _⟩
  case round =>
    obtain ⟨j, q, zs, hj, rfl, rfl, hq, hqe, hzl, hz2, hz1, hO, hbd, hK⟩ := hrel
    have Hz := Lib.hid (And.intro hzl (And.intro hz2 (And.intro hz1 hqe)))
    clear hzl hz2 hz1 hqe hO0
    by_cases hlt : j < n
    · obtain ⟨g, rfl, hB, hgl⟩ := own_form hO (by omega)
      have hgE := hgw g rfl
      have hqn : q + (5 + 5 * (nth l j).body.length) ≤ 1073741824 := by
        have h1 := Hw.out j (by rw [← Hnl.out]; exact hlt)
        have h2 := Ht.out (j + 1)
        have h3 := Hz.out.2.2.2
        omega
      obtain ⟨ba, bc, hbv, hob⟩ := hbd j hlt
      have hfj : (nth zs j).1 = nth l j := by rw [Hz.out.2.2.1 j hlt, if_neg (by omega)]
      rw [hfj] at hbv hob
      have Hfj := Lib.hid hfj
      clear hfj
      have hf0 := (hO).frozenAt (j * 6); obtain ⟨u0, hu0⟩ := own_here hO (j := j * 6) (by omega)
      go_wp2_with fail
      refine calls_name (fun W1 hW1 => ?_)
      have hO1 := own_set_at hW1 hO
      have hg1 : wr.grownBy W1 (some g) := grown_set_at hW1 (World.grownBy.refl _ _)
      clear hW1
      refine (markText_v (q + 1) _ W1 (by omega) (by omega)).mono ?_
      rintro _ w2 ⟨rfl, hx2⟩
      have hO2 := own_fr hO1 (hx2.fr _)
      have hg2 := grown_x hg1 hx2
      have hgl2 := (hO2.lt g rfl).2
      clear hO1 hg1 hx2
      have hf1 := (hO2).frozenAt (j * 6 + 1); obtain ⟨u1, hu1⟩ := own_here hO2 (j := j * 6 + 1) (by omega)
      go_wp2_with fail
      refine calls_name (fun W3 hW3 => ?_)
      have hO3 := own_set_at hW3 hO2
      have hg3 := grown_set_at hW3 hg2
      clear hW3
      refine (markText_v (q + 2) _ W3 (by omega) (by omega)).mono ?_
      rintro _ w4 ⟨rfl, hx4⟩
      have hO4 := own_fr hO3 (hx4.fr _)
      have hg4 := grown_x hg3 hx4
      have hgl4 := (hO4.lt g rfl).2
      clear hO3 hg3 hx4
      have hf2 := (hO4).frozenAt (j * 6 + 2); obtain ⟨u2, hu2⟩ := own_here hO4 (j := j * 6 + 2) (by omega)
      have hf3 := (hO4).frozenAt (j * 6 + 3); obtain ⟨u3, hu3⟩ := own_here hO4 (j := j * 6 + 3) (by omega)
      have hf4 := (hO4).frozenAt (j * 6 + 4); obtain ⟨u4, hu4⟩ := own_here hO4 (j := j * 6 + 4) (by omega)
      have h5 : w4.cell? ⟨g, j * 6 + 5, none⟩ = some (.slice ba (nth l j).body.length bc) := by
        refine row_cell hO4 _ _ ?_
        rw [List.getElem?_set_ne (by omega), List.getElem?_set_ne (by omega), fcells_five (by rw [Hz.out.1]; exact hlt), hbv]
      obtain ⟨cs0, hb0⟩ := own_block hO
      go_wp2_with fail
      refine calls_name (fun W5 hW5 => ?_)
      have hO5 := own_set_at3 hW5 hO4
      have hg5 := grown_set_at3 hW5 hg4
      clear hW5
      rw [fcells_set (zs := zs) (x := nth zs j) (by rw [Hz.out.1]; exact hlt) rfl (fiM q (nth l j)) _ _ _ _ _ (by
        rw [fcells, fiM]
        simp only [List.cons.injEq, Value.int.injEq, Value.bool.injEq, and_true, true_and]
        refine ⟨by rw [Bool.eq_iff_iff]; simp; omega, by omega⟩)] at hO5
      refine (markStmtS_v _ ba _ bc B (q + 5) _ W5 (by omega) (hob.kept hg5 (.inr (own_ne_at hob hb0 (by decide)))) (by omega) (by omega)).mono ?_
      rintro _ w6 ⟨rfl, hob6, hg6⟩
      have hO6 := hO5.kept hg6 (row_ne hO5 (hob.kept hg5 (.inr (own_ne_at hob hb0 (by decide)))) (by decide))
      clear hO5 hO4 hg4 h5
      have hgl6 := (hO6.lt g rfl).2
      go_wp2
      go_roundw
      case rel =>
        obtain ⟨hzl, hz2, hz1, hqe⟩ := Hz.out
        refine ⟨j + 1, q + 5 + 5 * (nth l j).body.length, zs.set j (fiM q (nth l j), (nth zs j).2), by omega, by go_num, by go_num, by omega, ?_, by rw [List.length_set]; exact hzl, ?_, ?_, hO6, ?_, ?_⟩
        · rw [Hw.out j (by rw [← Hnl.out]; exact hlt)]; omega
        · rw [map_snd_set (by omega) rfl]; exact hz2
        · intro i hi
          rw [nth_set (by omega)]
          by_cases hij : i = j
          · subst hij
            rw [if_pos rfl, if_pos (by omega), marksF_nth l k i (by rw [← Hnl.out]; exact hi), ← hqe]
          · rw [if_neg hij, hz1 i hi]
            by_cases h : i < j
            · rw [if_pos h, if_pos (by omega)]
            · rw [if_neg h, if_neg (by omega)]
        · intro i hi
          rw [nth_set (by omega)]
          by_cases hij : i = j
          · subst hij
            rw [if_pos rfl]
            refine ⟨ba, bc, ?_, ?_⟩
            · rw [hbv]; simp only [fiM, stsM_len]
            · simp only [fiM, stsM_len]; exact hob6
          · rw [if_neg hij]
            refine ((hbd i hi).grown hg5 hb0).kept hg6 ?_
            have hs := sep_at (sep_of hsep hz2) (i := i) (j := j) (by omega) (by omega) hij
            rw [hbv] at hs
            rcases hs with h | h | h
            · exact .inl h
            · rw [h]
              cases hx : (nth zs i).2.ownBlock with
              | none => exact .inl rfl
              | some _ => exact .inr (by simp)
            · exact .inr h
        · refine (hK.trans (Keep.of_grown hg5 (fun b hb => ?_))).trans (Keep.of_grown hg6 (fun b hb => ?_))
          · injection hb with hb; subst hb; exact hgE
          · rw [← hbv] at hb
            rw [snd_nth hz2 Hvn.out hzl hlt] at hb
            exact Hbl.out _ (nth_mem (by rw [Hvn.out]; exact hlt)) b hb
      case measure => simp [intOf]; omega
    · obtain rfl : j = n := by omega
      obtain ⟨hzl, hz2, hz1, hqe⟩ := Hz.out
      have Hq := Lib.hid (show q = k + wtF l by rw [hqe, List.take_of_length_le (by rw [← Hnl.out]; omega)])
      clear hzl hz2 hz1 hqe
      go_wp2
      go_ret
      obtain ⟨hzl, hz2, hz1, hqe⟩ := Hz.out
      refine ⟨ret_intW (a := (q : Int)) (by have := Hq.out; omega), ⟨zs, ?_, by rw [marksF_len]; exact Hnl.out, hO, sep_of hsep hz2, fun x hx => ?_⟩, hK⟩
      · refine (nth_ext (by rw [List.length_map, marksF_len, hzl]; exact Hnl.out) fun i hi => ?_).symm
        rw [List.length_map, hzl] at hi
        rw [nth_map_fst (by omega), hz1 i hi, if_pos hi]
      · obtain ⟨i, hi, rfl⟩ := List.getElem_of_mem hx
        have := hbd i (by omega)
        rwa [nth_eq hi] at this
theorem markFileS_c (l : List Fi) (a : Option Addr) (n c B k : Nat) (w0 w : World) (hF : FilesO w0 B a n c l) (hx0 : X w0 w) (hn : n ≤ 2097152) (hk : k + wtF l ≤ 1073741824) :
    Calls Tryd.prog 44 #[.slice a n c, .int .i64 (k : Int)] w fun e w' => e = .returned (.int .i64 ((k + wtF l : Nat) : Int)) ∧ FilesO w' B a n c (marksF k l) ∧ Keep B w0.heap.size w w' :=
  markFileS_e l a n c B w0.heap.size k w (hF.e.fr (hx0.fr _)) hn hk
set_option maxRecDepth 100000 in
set_option maxHeartbeats 1000000 in
theorem markTree_e (l : List Fi) (a : Option Addr) (n c B E k : Nat) (w : World) (hF : FilesE w B E a n c l) (hn : n ≤ 2097152) (hk : k + wtF l ≤ 1073741824) :
    Calls Tryd.prog 13 #[.agg #[.slice a n c], .int .i64 (k : Int)] w fun e w' => e = .returned (.int .i64 ((k + wtF l : Nat) : Int)) ∧ FilesO w' B a n c (marksF k l) ∧ Keep B E w w' := by
  go_enter Tryd.func13, Tryd.ntmps13
  go_wp2_with fail
  refine calls_name (fun W hW => ?_)
  have hX0 : X w W := by rw [hW]; (repeat (first | with_reducible exact X.refl _ | with_reducible assumption | with_reducible refine X.setCell ?_ (by first | (simp; done) | (simp; omega)) _ | with_reducible refine X.ext ?_ _ | with_reducible refine X.alloc ?_ _ | with_reducible refine X.drew ?_))
  clear hW
  refine (markFileS_e l a n c B E k W (hF.fr (hX0.fr _)) hn hk).mono ?_
  rintro _ w2 ⟨rfl, hF2, hK⟩
  go_wp2
  go_ret
  exact ⟨rfl, hF2, (Keep.of_x hX0).trans hK⟩
theorem markTree_c (l : List Fi) (a : Option Addr) (n c B k : Nat) (w0 w : World) (hF : FilesO w0 B a n c l) (hx0 : X w0 w) (hn : n ≤ 2097152) (hk : k + wtF l ≤ 1073741824) :
    Calls Tryd.prog 13 #[.agg #[.slice a n c], .int .i64 (k : Int)] w fun e w' => e = .returned (.int .i64 ((k + wtF l : Nat) : Int)) ∧ FilesO w' B a n c (marksF k l) ∧ Keep B w0.heap.size w w' :=
  markTree_e l a n c B w0.heap.size k w (hF.e.fr (hx0.fr _)) hn hk
end Go.Proofs.YtjlooplpjliaiaaDoor
