/- The laws' own marks on what is compiled, written and read again: the walks. No condition but sizes. -/
import Derived.Test.YtjlooplpjliaiaaDoorCo
import Derived.Test.YtjlooplpjliaiaaDoorHeld
namespace Go.Proofs.YtjlooplpjliaiaaDoor
open Go.RowKit

theorem own_set_at6 {w W : World} {B e size n c g o0 o1 o2 o3 o4 o5 : Nat} {xs : List Value} {v0 v1 v2 v3 v4 v5 : Value}
    (hW : W = (((((w.setCell ⟨g, o0, none⟩ v0).setCell ⟨g, o1, none⟩ v1).setCell ⟨g, o2, none⟩ v2).setCell ⟨g, o3, none⟩ v3).setCell ⟨g, o4, none⟩ v4).setCell ⟨g, o5, none⟩ v5) (h : w.ownsRow B e size (.slice (some ⟨g, 0, none⟩) n c) n xs) :
    W.ownsRow B e size (.slice (some ⟨g, 0, none⟩) n c) n ((((((xs.set o0 v0).set o1 v1).set o2 v2).set o3 v3).set o4 v4).set o5 v5) := by
  subst hW; exact own_set (own_set (own_set (own_set (own_set (own_set h v0) v1) v2) v3) v4) v5
theorem grown_set_at6 {w0 w W : World} {g o0 o1 o2 o3 o4 o5 : Nat} {v0 v1 v2 v3 v4 v5 : Value}
    (hW : W = (((((w.setCell ⟨g, o0, none⟩ v0).setCell ⟨g, o1, none⟩ v1).setCell ⟨g, o2, none⟩ v2).setCell ⟨g, o3, none⟩ v3).setCell ⟨g, o4, none⟩ v4).setCell ⟨g, o5, none⟩ v5) (h : w0.grownBy w (some g)) : w0.grownBy W (some g) := by
  subst hW; exact grown_next (grown_next (grown_next (grown_next (grown_next (grown_next h o0 v0) o1 v1) o2 v2) o3 v3) o4 v4) o5 v5

set_option maxRecDepth 100000 in
set_option maxHeartbeats 2000000 in
theorem markCompiledS_e (l : List Co) (a : Option Addr) (n c B E k : Nat) (w : World) (hF : CosE w B E a n c l) (hn : n ≤ 2097152) (hk : k + wtC l ≤ 1073741824) :
    Calls Tryd.prog 14 #[.slice a n c, .int .i64 (k : Int)] w fun e w' => e = .returned (.int .i64 ((k + wtC l : Nat) : Int)) ∧ CosO w' B a n c (marksC k l) ∧ Keep B E w w' := by
  obtain ⟨vs, hvl, hnl, hO0, hsep, hbd0, hEr, hEb⟩ := hF
  have hbl : ∀ x ∈ vs, ∀ b, x.2.ownBlock = some b → B ≤ b ∧ b < E := fun x hx b hb => by
    obtain ⟨ba, bc, e, ho⟩ := hbd0 x hx
    have h2 := hEb x hx b hb
    rw [e] at hb
    exact ⟨(ho.lt b hb).1, h2⟩
  have hvn : vs.length = n := by rw [hnl, hvl, List.length_map]
  have Hw := Lib.hid (fun j h => @wtC_next l j h)
  have Ht := Lib.hid (wtC_take l)
  have Hvn := Lib.hid hvn
  have Hnl := Lib.hid hnl
  have Hvl := Lib.hid hvl
  have Hbl := Lib.hid hbl
  have hgw : ∀ g, a = some ⟨g, 0, none⟩ → B ≤ g ∧ g < E := fun g hg => ⟨(hO0.lt _ (by rw [hg]; rfl)).1, hEr g (by rw [hg]; rfl)⟩
  clear hvn hnl hvl hbl
  go_enter Tryd.func14, Tryd.ntmps14
  go_wp2
  go_loopw [1, 5] (fun v i wr => ∃ (j q : Nat) (zs : List (Co × Value)), j ≤ n ∧ i = .int .i64 j ∧ v = .int .i64 (q : Int) ∧ q ≤ 1073741824 ∧ q = k + wtC (l.take j) ∧ zs.length = n ∧ zs.map (·.2) = vs.map (·.2) ∧ (∀ i, i < n → (nth zs i).1 = if i < j then nth (marksC k l) i else nth l i) ∧
    wr.ownsRow B 65 8 (.slice a n c) n (zs.flatMap ccells) ∧ (∀ i, i < n → BodyC wr B (nth zs i)) ∧ Keep B E w wr) (fun _ i _ => n - (intOf i).toNat)
  case atStart => exact ⟨0, k, vs, Nat.zero_le _, rfl, rfl, by omega, by simp [wtC], Hvn.out, rfl, fun i hi => by rw [if_neg (by omega), Hvl.out]; exact (nth_map_fstC (by rw [Hvn.out]; exact hi)).symm, hO0, fun i hi => hbd0 _ (nth_mem (by rw [Hvn.out]; exact hi)), Keep.refl _ _ _⟩
  case round =>
    obtain ⟨j, q, zs, hj, rfl, rfl, hq, hqe, hzl, hz2, hz1, hO, hbd, hK⟩ := hrel
    have Hz := Lib.hid (And.intro hzl (And.intro hz2 (And.intro hz1 hqe)))
    clear hzl hz2 hz1 hqe hO0
    by_cases hlt : j < n
    · obtain ⟨g, rfl, hB, hgl⟩ := own_form hO (by omega)
      have hgE := hgw g rfl
      have hqn : q + (7 + 5 * (nth l j).body.length) ≤ 1073741824 := by
        have h1 := Hw.out j (by rw [← Hnl.out]; exact hlt)
        have h2 := Ht.out (j + 1)
        have h3 := Hz.out.2.2.2
        omega
      obtain ⟨ba, bc, hbv, hob⟩ := hbd j hlt
      have hfj : (nth zs j).1 = nth l j := by rw [Hz.out.2.2.1 j hlt, if_neg (by omega)]
      rw [hfj] at hbv hob
      have Hfj := Lib.hid hfj
      clear hfj
      have hf0 := (hO).frozenAt (j * 8); obtain ⟨u0, hu0⟩ := own_here hO (j := j * 8) (by omega)
      go_wp2_with fail
      refine calls_name (fun W1 hW1 => ?_)
      have hO1 := own_set_at hW1 hO
      have hg1 : wr.grownBy W1 (some g) := grown_set_at hW1 (World.grownBy.refl _ _)
      clear hW1
      refine (markText_v (q + 1) _ W1 (by omega) (by omega)).mono ?_
      rintro _ w2 ⟨rfl, hx2⟩
      have hO2 := own_fr hO1 (hx2.fr _)
      have hg2 := grown_x hg1 hx2
      have hgl2 := (hO2.lt g rfl).2
      clear hO1 hg1 hx2
      have hf1 := (hO2).frozenAt (j * 8 + 1); obtain ⟨u1, hu1⟩ := own_here hO2 (j := j * 8 + 1) (by omega)
      have hf2 := (hO2).frozenAt (j * 8 + 2); obtain ⟨u2, hu2⟩ := own_here hO2 (j := j * 8 + 2) (by omega)
      have hf3 := (hO2).frozenAt (j * 8 + 3); obtain ⟨u3, hu3⟩ := own_here hO2 (j := j * 8 + 3) (by omega)
      have hf4 := (hO2).frozenAt (j * 8 + 4); obtain ⟨u4, hu4⟩ := own_here hO2 (j := j * 8 + 4) (by omega)
      have hf5 := (hO2).frozenAt (j * 8 + 5); obtain ⟨u5, hu5⟩ := own_here hO2 (j := j * 8 + 5) (by omega)
      have hf6 := (hO2).frozenAt (j * 8 + 6); obtain ⟨u6, hu6⟩ := own_here hO2 (j := j * 8 + 6) (by omega)
      have h5 : w2.cell? ⟨g, j * 8 + 7, none⟩ = some (.slice ba (nth l j).body.length bc) := by
        refine row_cell hO2 _ _ ?_
        rw [List.getElem?_set_ne (by omega), ccells_last (by rw [Hz.out.1]; exact hlt), hbv]
      obtain ⟨cs0, hb0⟩ := own_block hO
      go_wp2_with fail
      refine calls_name (fun W5 hW5 => ?_)
      have hO5 := own_set_at6 hW5 hO2
      have hg5 := grown_set_at6 hW5 hg2
      clear hW5
      rw [ccells_set (zs := zs) (x := nth zs j) (by rw [Hz.out.1]; exact hlt) rfl (coM q (nth l j)) _ _ _ _ _ _ _ (by
        rw [ccells, coM]
        simp only [List.cons.injEq, Value.int.injEq, Value.bool.injEq, and_true, true_and]
        refine ⟨by rw [Bool.eq_iff_iff]; simp; omega, by omega, by omega, by omega, by omega⟩)] at hO5
      refine (markStmtS_v _ ba _ bc B (q + 7) _ W5 (by omega) (hob.kept hg5 (.inr (own_ne_at hob hb0 (by decide)))) (by omega) (by omega)).mono ?_
      rintro _ w6 ⟨rfl, hob6, hg6⟩
      have hO6 := hO5.kept hg6 (row_ne hO5 (hob.kept hg5 (.inr (own_ne_at hob hb0 (by decide)))) (by decide))
      clear hO5 hO2 hg2 h5
      have hgl6 := (hO6.lt g rfl).2
      go_wp2
      go_roundw
      case rel =>
        obtain ⟨hzl, hz2, hz1, hqe⟩ := Hz.out
        refine ⟨j + 1, q + 7 + 5 * (nth l j).body.length, zs.set j (coM q (nth l j), (nth zs j).2), by omega, by go_num, by go_num, by omega, ?_, by rw [List.length_set]; exact hzl, ?_, ?_, hO6, ?_, ?_⟩
        · rw [Hw.out j (by rw [← Hnl.out]; exact hlt)]; omega
        · rw [map_snd_setC (by omega) rfl]; exact hz2
        · intro i hi
          rw [nth_set (by omega)]
          by_cases hij : i = j
          · subst hij
            rw [if_pos rfl, if_pos (by omega), marksC_nth l k i (by rw [← Hnl.out]; exact hi), ← hqe]
          · rw [if_neg hij, hz1 i hi]
            by_cases h : i < j
            · rw [if_pos h, if_pos (by omega)]
            · rw [if_neg h, if_neg (by omega)]
        · intro i hi
          rw [nth_set (by omega)]
          by_cases hij : i = j
          · subst hij
            rw [if_pos rfl]
            refine ⟨ba, bc, ?_, ?_⟩
            · rw [hbv]; simp only [coM, stsM_len]
            · simp only [coM, stsM_len]; exact hob6
          · rw [if_neg hij]
            refine ((hbd i hi).grown hg5 hb0).kept hg6 ?_
            have hs := sepC_at (sepC_of hsep hz2) (i := i) (j := j) (by omega) (by omega) hij
            rw [hbv] at hs
            rcases hs with h | h | h
            · exact .inl h
            · rw [h]
              cases hx : (nth zs i).2.ownBlock with
              | none => exact .inl rfl
              | some _ => exact .inr (by simp)
            · exact .inr h
        · refine (hK.trans (Keep.of_grown hg5 (fun b hb => ?_))).trans (Keep.of_grown hg6 (fun b hb => ?_))
          · injection hb with hb; subst hb; exact hgE
          · rw [← hbv] at hb
            rw [sndC_nth hz2 Hvn.out hzl hlt] at hb
            exact Hbl.out _ (nth_mem (by rw [Hvn.out]; exact hlt)) b hb
      case measure => simp [intOf]; omega
    · obtain rfl : j = n := by omega
      obtain ⟨hzl, hz2, hz1, hqe⟩ := Hz.out
      have Hq := Lib.hid (show q = k + wtC l by rw [hqe, List.take_of_length_le (by rw [← Hnl.out]; omega)])
      clear hzl hz2 hz1 hqe
      go_wp2
      go_ret
      obtain ⟨hzl, hz2, hz1, hqe⟩ := Hz.out
      refine ⟨ret_intW (a := (q : Int)) (by have := Hq.out; omega), ⟨zs, ?_, by rw [marksC_len]; exact Hnl.out, hO, sepC_of hsep hz2, fun x hx => ?_⟩, hK⟩
      · refine (nth_ext (by rw [List.length_map, marksC_len, hzl]; exact Hnl.out) fun i hi => ?_).symm
        rw [List.length_map, hzl] at hi
        rw [nth_map_fstC (by omega), hz1 i hi, if_pos hi]
      · obtain ⟨i, hi, rfl⟩ := List.getElem_of_mem hx
        have := hbd i (by omega)
        rwa [nth_eq hi] at this
theorem marksC_at {w : World} {B n c k j : Nat} {a : Option Addr} {l : List Co} (h : CosO w B a n c (marksC k l)) (hj : j < n) :
    ∃ b off ba bc, a = some ⟨b, off, none⟩ ∧ b < w.heap.size ∧ Sl w B ba (nth l j).body.length ((stsM (k + wtC (l.take j) + 7) (nth l j).body.length).flatMap scells) ∧
      w.cell? ⟨b, off + j * 8, none⟩ = some (.int .i64 ((k + wtC (l.take j) : Nat) : Int)) ∧ w.cell? ⟨b, off + j * 8 + 1, none⟩ = some (.string ⟨(mtxt (k + wtC (l.take j) + 1)).toArray⟩) ∧
      w.cell? ⟨b, off + j * 8 + 2, none⟩ = some (.bool (decide ((k + wtC (l.take j) + 2) % 3 = 0))) ∧ w.cell? ⟨b, off + j * 8 + 3, none⟩ = some (.int .i64 ((k + wtC (l.take j) + 3 : Nat) : Int)) ∧ w.cell? ⟨b, off + j * 8 + 4, none⟩ = some (.int .i64 ((k + wtC (l.take j) + 4 : Nat) : Int)) ∧
      w.cell? ⟨b, off + j * 8 + 5, none⟩ = some (.int .i64 ((k + wtC (l.take j) + 5 : Nat) : Int)) ∧ w.cell? ⟨b, off + j * 8 + 6, none⟩ = some (.int .i64 ((k + wtC (l.take j) + 6 : Nat) : Int)) ∧ w.cell? ⟨b, off + j * 8 + 7, none⟩ = some (.slice ba (nth l j).body.length bc) := by
  obtain ⟨vs, e, h1, h2, _, h3⟩ := h
  have hvl : vs.length = n := by rw [h1, e, List.length_map]
  have hll : n = l.length := by rw [h1, marksC_len]
  obtain ⟨b, off, ha, _, hb, hc⟩ := (Sl.of_own h2).elem (s := 8) (fun _ => rfl) hvl.symm hj
  obtain ⟨ba, bc, e2, ho⟩ := h3 _ (nth_mem (l := vs) (k := j) (by omega))
  have hf : (nth vs j).1 = coM (k + wtC (l.take j)) (nth l j) := by rw [← nth_map_fstC (by omega), ← e, marksC_nth l k j (by omega)]
  have hbl : (nth vs j).1.body.length = (nth l j).body.length := by rw [hf]; exact stsM_len
  rw [hbl] at e2 ho
  have hbo : (nth vs j).1.body = stsM (k + wtC (l.take j) + 7) (nth l j).body.length := by rw [hf]; rfl
  rw [hbo] at ho
  have c0 := hc 0 (by omega)
  have c1 := hc 1 (by omega)
  have c2 := hc 2 (by omega)
  have c3 := hc 3 (by omega)
  have c4 := hc 4 (by omega)
  have c5 := hc 5 (by omega)
  have c6 := hc 6 (by omega)
  have c7 := hc 7 (by omega)
  simp only [ccells, hf, coM, e2, List.getElem_cons_zero, List.getElem_cons_succ] at c0 c1 c2 c3 c4 c5 c6 c7
  exact ⟨b, off, ba, bc, ha, hb, Sl.of_own ho, c0, c1, c2, c3, c4, c5, c6, c7⟩

set_option maxRecDepth 100000 in
set_option maxHeartbeats 2000000 in
theorem heldCompiledS_c (l : List Co) (a : Option Addr) (n c B k : Nat) (w : World) (hF : CosO w B a n c (marksC k l)) (hn : n ≤ 2097152) (hk : k + wtC l ≤ 1073741824) :
    Calls Tryd.prog 15 #[.slice a n c, .int .i64 (k : Int)] w fun e w' => e = .returned (.int .i64 ((k + wtC l : Nat) : Int)) ∧ X w w' := by
  have hnl : n = l.length := by obtain ⟨_, _, h1, _⟩ := hF; rw [h1, marksC_len]
  have Hw := Lib.hid (fun j h => @wtC_next l j h)
  have Ht := Lib.hid (wtC_take l)
  have Hnl := Lib.hid hnl
  clear hnl
  go_enter Tryd.func15, Tryd.ntmps15
  go_wp2
  go_loopw [1, 5] (fun v i wr => ∃ (j q : Nat), j ≤ n ∧ i = .int .i64 j ∧ v = .int .i64 (q : Int) ∧ q = k + wtC (l.take j) ∧ X w wr) (fun _ i _ => n - (intOf i).toNat)
  case atStart => exact ⟨0, k, Nat.zero_le _, rfl, rfl, by simp [wtC], X.refl _⟩
  case round =>
    obtain ⟨j, q, hj, rfl, rfl, hq, hX⟩ := hrel
    by_cases hlt : j < n
    · obtain ⟨b, off, ba, bc, rfl, hb, hSb, g0, g1, g2, g3, g4, g5, g6, g7⟩ := marksC_at (hF.fr (hX.fr _)) hlt
      rw [← hq] at g0 g1 g2 g3 g4 g5 g6 hSb
      have hqn : q + (7 + 5 * (nth l j).body.length) ≤ 1073741824 := by
        have h1 := Hw.out j (by rw [← Hnl.out]; exact hlt)
        have h2 := Ht.out (j + 1)
        omega
      have Hq := Lib.hid hq
      clear hq
      have e2 : decide ((q + 2) % 3 = 0) = (((q : Int) + 1 + 1) % 3 == 0) := by rw [Bool.eq_iff_iff]; simp; omega
      have e3 : ((q + 3 : Nat) : Int) = (q : Int) + 1 + 1 + 1 := by omega
      have e4 : ((q + 4 : Nat) : Int) = (q : Int) + 1 + 1 + 1 + 1 := by omega
      have e5 : ((q + 5 : Nat) : Int) = (q : Int) + 1 + 1 + 1 + 1 + 1 := by omega
      have e6 : ((q + 6 : Nat) : Int) = (q : Int) + 1 + 1 + 1 + 1 + 1 + 1 := by omega
      rw [e2] at g2
      rw [e3] at g3
      rw [e4] at g4
      rw [e5] at g5
      rw [e6] at g6
      clear e2 e3 e4 e5 e6
      go_wp2
      refine wp_region_grow0 (by kernel_rfl) (by kernel_rfl) ?_
      repeat (go_big_quiet_step (((go_at_call 45; refine grow_of (markText_v (q + 1) _ _ (by omega) (by omega))))))
      refine wpQuiet_nil ?_
      rintro _ ⟨y, rfl⟩
      go_wp2_with fail
      refine calls_name (fun W5 hW5 => ?_)
      have hX5 : X wr W5 := by rw [hW5]; (repeat (first | exact X.refl _ | assumption | refine X.ext ?_ _ | refine X.alloc ?_ _ | refine X.drew ?_))
      clear hW5
      refine (heldStmtS_v ba _ bc B (q + 7) _ W5 (by omega) (hSb.mono (hX5.fr _)) (by omega) (by omega)).mono ?_
      rintro _ w6 ⟨rfl, hx6⟩
      go_wp2
      go_roundw
      case rel => exact ⟨j + 1, q + 7 + 5 * (nth l j).body.length, by omega, by go_num, by go_num, by have := Hq.out; rw [Hw.out j (by rw [← Hnl.out]; exact hlt)]; omega, (hX.trans hX5).trans hx6⟩
      case measure => simp [intOf]; omega
    · obtain rfl : j = n := by omega
      have hqe : q = k + wtC l := by rw [hq, List.take_of_length_le (by rw [← Hnl.out]; omega)]
      have Hqe := Lib.hid hqe
      clear hqe hq
      go_wp2
      go_ret
      exact ⟨ret_intW (a := (q : Int)) (by have := Hqe.out; omega), hX⟩

end Go.Proofs.YtjlooplpjliaiaaDoor
