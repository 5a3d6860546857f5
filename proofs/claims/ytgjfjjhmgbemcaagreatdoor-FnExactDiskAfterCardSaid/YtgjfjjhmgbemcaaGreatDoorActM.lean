/- The laws' own marks on acts: the walk. No condition but sizes. -/
import Derived.Test.YtgjfjjhmgbemcaaGreatDoorActW
import Derived.Test.YtgjfjjhmgbemcaaGreatDoorIb
import Derived.Deep.CutRange
namespace Go.Proofs.YtgjfjjhmgbemcaaGreatDoor
open Go.RowKit

/-- A body of acts, whatever it holds. -/
def BodyA (w : World) (B : Nat) (v : Value) : Prop := ∃ ba bn bc ys, v = .slice ba bn bc ∧ bn ≤ 1073741824 ∧ w.ownsRow B 148 5 (.slice ba bn bc) bn ys
theorem BodyA.kept {w w' : World} {B : Nat} {v : Value} {row : Option Nat} (h : BodyA w B v) (hg : w.grownBy w' row) (hr : v.ownBlock = none ∨ v.ownBlock ≠ row) : BodyA w' B v := by
  obtain ⟨ba, bn, bc, ys, e, hn, ho⟩ := h
  rw [e] at hr
  exact ⟨ba, bn, bc, ys, e, hn, ho.kept hg hr⟩
theorem BodyA.grown {w w' : World} {B g : Nat} {v : Value} {cs : Array Value} (h : BodyA w B v) (hg : w.grownBy w' (some g)) (hb : w.heap[g]? = some (.cells cs 77 (0, 0))) : BodyA w' B v := by
  obtain ⟨ba, bn, bc, ys, e, hn, ho⟩ := h
  exact ⟨ba, bn, bc, ys, e, hn, ho.kept hg (.inr (own_ne_at ho hb (by decide)))⟩
/-- The weight of a body's value. -/
def wtV : Value → Nat
  | .slice _ n _ => 8 + 5 * n
  | _ => 0
def wtVs : List Value → Nat
  | [] => 0
  | v :: l => wtV v + wtVs l
theorem wtVs_take : ∀ (l : List Value) (k : Nat), wtVs (l.take k) ≤ wtVs l
  | [], k => by simp [wtVs]
  | v :: l, 0 => by simp [wtVs]
  | v :: l, k + 1 => by
    rw [List.take_succ_cons]
    unfold wtVs
    have := wtVs_take l k
    omega
theorem wtVs_append : ∀ (l m : List Value), wtVs (l ++ m) = wtVs l + wtVs m
  | [], m => by simp [wtVs]
  | v :: l, m => by
    rw [List.cons_append]
    show wtV v + wtVs (l ++ m) = wtV v + wtVs l + wtVs m
    rw [wtVs_append l m]
    omega
instance : Inhabited Value := ⟨undef⟩
theorem wtVs_next {l : List Value} {k : Nat} (hk : k < l.length) : wtVs (l.take (k + 1)) = wtVs (l.take k) + wtV (nth l k) := by
  rw [take_succ_nth hk, wtVs_append]
  simp [wtVs]

set_option maxRecDepth 100000 in
set_option maxHeartbeats 4000000 in
theorem markActS_e (l : List Ac) (a : Option Addr) (n c B E k : Nat) (vs : List (Ac × Value)) (w : World) (hvl : l = vs.map (·.1)) (hnl : n = l.length) (hO0 : w.ownsRow B 77 9 (.slice a n c) n (vs.flatMap acells)) (hsep : SepA vs)
    (hbd0 : ∀ x ∈ vs, BodyA w B x.2) (hEr : ∀ b, (Value.slice a n c).ownBlock = some b → b < E) (hEb : ∀ x ∈ vs, ∀ b, x.2.ownBlock = some b → b < E) (hn : n ≤ 2097152) (hk : k + wtVs (vs.map (·.2)) ≤ 1073741824) :
    Calls Tryz.prog 26 #[.slice a n c, .int .i64 (k : Int)] w fun e w' => ∃ q : Nat, e = .returned (.int .i64 (q : Int)) ∧ Keep B E w w' := by
  have hvn : vs.length = n := by rw [hnl, hvl, List.length_map]
  have hbl : ∀ x ∈ vs, ∀ b, x.2.ownBlock = some b → B ≤ b ∧ b < E := fun x hx b hb => by
    obtain ⟨ba, bn, bc, ys, e, _, ho⟩ := hbd0 x hx
    have h2 := hEb x hx b hb
    rw [e] at hb
    exact ⟨(ho.lt b hb).1, h2⟩
  have hgw : ∀ g, a = some ⟨g, 0, none⟩ → B ≤ g ∧ g < E := fun g hg => ⟨(hO0.lt _ (by rw [hg]; rfl)).1, hEr g (by rw [hg]; rfl)⟩
  have hx0 : ∀ i, i < n → (vs.flatMap acells)[i * 9 + 6]? = some (nth vs i).2 := fun i hi => by
    have hl : i * 9 + 6 < (vs.flatMap acells).length := by rw [flat_length 9 acells acells9]; omega
    rw [List.getElem?_eq_getElem hl, flat_get 9 acells acells9 vs i 6 (by omega) (by omega) hl, nth_eq (by omega)]
    rfl
  have hwn : ∀ i, i < n → wtVs ((vs.map (·.2)).take (i + 1)) = wtVs ((vs.map (·.2)).take i) + wtV (nth vs i).2 := fun i hi => by
    rw [wtVs_next (by rw [List.length_map]; omega)]
    congr 2
    rw [nth_eq (by rw [List.length_map]; omega), List.getElem_map, nth_eq (by omega)]
  have Hw := Lib.hid hwn
  have Ht := Lib.hid (wtVs_take (vs.map (·.2)))
  have Hvn := Lib.hid hvn
  have Hbl := Lib.hid hbl
  have Hsep := Lib.hid hsep
  have hb0 : ∀ i, i < n → BodyA w B (nth vs i).2 := fun i hi => hbd0 _ (nth_mem (by omega))
  clear hvn hnl hvl hbl hwn hbd0 hEb hsep
  go_enter Tryz.func26, Tryz.ntmps26
  go_wp2
  go_loopw [1, 5] (fun v i wr => ∃ (j q : Nat) (xs : List Value), j ≤ n ∧ i = .int .i64 j ∧ v = .int .i64 (q : Int) ∧ q = k + wtVs ((vs.map (·.2)).take j) ∧ q ≤ 1073741824 ∧ xs.length = n * 9 ∧ (∀ i, i < n → xs[i * 9 + 6]? = some (nth vs i).2) ∧
    wr.ownsRow B 77 9 (.slice a n c) n xs ∧ (∀ i, i < n → BodyA wr B (nth vs i).2) ∧ Keep B E w wr) (fun _ i _ => n - (intOf i).toNat)
  case atStart => exact ⟨0, k, _, Nat.zero_le _, rfl, rfl, by simp [wtVs], by omega, by rw [flat_length 9 acells acells9, Hvn.out], hx0, hO0, hb0, Keep.refl _ _ _⟩
  case round =>
    obtain ⟨j, q, xs, hj, rfl, rfl, hqe, hq, hxl, hx6, hO, hbd, hK⟩ := hrel
    have Hqe := Lib.hid (And.intro hqe (And.intro hxl hx6))
    clear hqe hxl hx6 hO0 hb0 hx0
    by_cases hlt : j < n
    · obtain ⟨g, rfl, hB, hgl⟩ := own_form hO (by omega)
      have hgE := hgw g rfl
      obtain ⟨ba, bn, bc, ys, hbv, hbn, hob⟩ := hbd j hlt
      have hqn : q + (8 + 5 * bn) ≤ 1073741824 := by
        have h1 := Hw.out j hlt
        have h2 := Ht.out (j + 1)
        have h3 := Hqe.out.1
        rw [hbv] at h1
        have h4 : wtV (.slice ba bn bc) = 8 + 5 * bn := rfl
        omega
      obtain ⟨cs0, hb0⟩ := own_block hO
      have hf0 := (hO).frozenAt (j * 9); obtain ⟨u0, hu0⟩ := own_here hO (j := j * 9) (by omega)
      have hf1 := (hO).frozenAt (j * 9 + 1); obtain ⟨u1, hu1⟩ := own_here hO (j := j * 9 + 1) (by omega)
      go_wp2_with fail
      refine calls_name (fun W1 hW1 => ?_)
      have hO1 := own_set_at2 hW1 hO
      have hg1 : wr.grownBy W1 (some g) := by rw [hW1]; exact grown_next (grown_set _ _ _) _ _
      clear hW1 hu0 hf0 hu1 hf1
      refine (markText_v (q + 2) _ W1 (by omega) (by omega)).mono ?_
      rintro _ w2 ⟨rfl, hx2⟩
      have hO2 := own_fr hO1 (hx2.fr _)
      have hg2 := grown_x hg1 hx2
      have hgl2 := (hO2.lt g rfl).2
      clear hO1 hg1 hx2
      have hf2 := (hO2).frozenAt (j * 9 + 2); obtain ⟨u2, hu2⟩ := own_here hO2 (j := j * 9 + 2) (by omega)
      go_wp2_with fail
      refine calls_name (fun W3 hW3 => ?_)
      have hO3 := own_set_at hW3 hO2
      have hg3 := grown_set_at hW3 hg2
      clear hW3 hu2 hf2
      refine (markText_v (q + 3) _ W3 (by omega) (by omega)).mono ?_
      rintro _ w4 ⟨rfl, hx4⟩
      have hO4 := own_fr hO3 (hx4.fr _)
      have hg4 := grown_x hg3 hx4
      have hgl4 := (hO4.lt g rfl).2
      clear hO3 hg3 hx4
      have hf3 := (hO4).frozenAt (j * 9 + 3); obtain ⟨u3, hu3⟩ := own_here hO4 (j := j * 9 + 3) (by omega)
      have hf4 := (hO4).frozenAt (j * 9 + 4); obtain ⟨u4, hu4⟩ := own_here hO4 (j := j * 9 + 4) (by omega)
      have hf5 := (hO4).frozenAt (j * 9 + 5); obtain ⟨u5, hu5⟩ := own_here hO4 (j := j * 9 + 5) (by omega)
      have h6 : w4.cell? ⟨g, j * 9 + 6, none⟩ = some (.slice ba bn bc) := by
        refine row_cell hO4 _ _ ?_
        rw [List.getElem?_set_ne (by omega), List.getElem?_set_ne (by omega), List.getElem?_set_ne (by omega), Hqe.out.2.2 j hlt, hbv]
      go_wp2_with fail
      refine calls_name (fun W5 hW5 => ?_)
      have hO5 := own_set_at3 hW5 hO4
      have hg5 := grown_set_at3 hW5 hg4
      clear hW5 hu3 hf3 hu4 hf4 hu5 hf5 h6
      have hob5 := hob.kept hg5 (.inr (own_ne_at hob hb0 (by decide)))
      refine (markStmtS_v _ ba bn bc B (q + 6) _ W5 (by omega) hob5 (by omega) (by omega)).mono ?_
      rintro _ w6 ⟨rfl, hob6, hg6⟩
      have hO6 := hO5.kept hg6 (row_ne hO5 hob5 (by decide))
      have hgl6 := (hO6.lt g rfl).2
      have hf7 := (hO6).frozenAt (j * 9 + 7); obtain ⟨u7, hu7⟩ := own_here hO6 (j := j * 9 + 7) (by omega)
      go_wp2_with fail
      refine calls_name (fun W7 hW7 => ?_)
      have hO7 := own_set_at hW7 hO6
      have hg7 : w6.grownBy W7 (some g) := grown_set_at hW7 (World.grownBy.refl _ _)
      clear hW7 hu7 hf7
      refine (markText_v (q + 7 + 5 * bn) _ W7 (by omega) (by omega)).mono ?_
      rintro _ w8 ⟨rfl, hx8⟩
      have hO8 := own_fr hO7 (hx8.fr _)
      have hg8 := grown_x hg7 hx8
      have hgl8 := (hO8.lt g rfl).2
      clear hO7 hg7 hx8
      have hf8 := (hO8).frozenAt (j * 9 + 8); obtain ⟨u8, hu8⟩ := own_here hO8 (j := j * 9 + 8) (by omega)
      go_upto_region 20 with fail
      refine wp_name (fun W9 hW9 => ?_)
      have hO9 := own_set_at hW9 hO8
      have hg9 : w6.grownBy W9 (some g) := grown_set_at hW9 hg8
      clear hW9 hu8 hf8 hO8 hg8
      go_wp2
      go_roundw
      case rel =>
        obtain ⟨hqe, hxl, hx6⟩ := Hqe.out
        refine ⟨j + 1, q + 8 + 5 * bn, _, by omega, by go_num, by go_num, ?_, by omega, ?_, ?_, hO9, ?_, ?_⟩
        · have h1 := Hw.out j hlt
          rw [hbv] at h1
          have h4 : wtV (.slice ba bn bc) = 8 + 5 * bn := rfl
          omega
        · simp [hxl]
        · intro i hi
          by_cases hij : i = j
          · subst hij
            rw [List.getElem?_set_ne (by omega), List.getElem?_set_ne (by omega), List.getElem?_set_ne (by omega), List.getElem?_set_ne (by omega), List.getElem?_set_ne (by omega), List.getElem?_set_ne (by omega), List.getElem?_set_ne (by omega), List.getElem?_set_ne (by omega)]
            exact hx6 i hi
          · rw [List.getElem?_set_ne (by omega), List.getElem?_set_ne (by omega), List.getElem?_set_ne (by omega), List.getElem?_set_ne (by omega), List.getElem?_set_ne (by omega), List.getElem?_set_ne (by omega), List.getElem?_set_ne (by omega), List.getElem?_set_ne (by omega)]
            exact hx6 i hi
        · intro i hi
          obtain ⟨cs6, hb6⟩ := own_block hO6
          by_cases hij : i = j
          · subst hij
            rw [hbv]
            refine ⟨ba, bn, bc, _, rfl, by omega, hob6.kept hg9 (.inr (own_ne_at hob6 hb6 (by decide)))⟩
          · refine (((hbd i hi).grown hg5 hb0).kept hg6 ?_).grown hg9 hb6
            have hs : (nth vs i).2.ownBlock = none ∨ (nth vs j).2.ownBlock = none ∨ (nth vs i).2.ownBlock ≠ (nth vs j).2.ownBlock := by
              have h := Hsep.out
              unfold SepA at h
              rw [List.pairwise_iff_getElem] at h
              have hvl := Hvn.out
              rw [nth_eq (by omega), nth_eq (by omega)]
              rcases Nat.lt_or_ge i j with h1 | h1
              · rcases h i j (by omega) (by omega) h1 with h | h | h
                · exact .inl h
                · exact .inr (.inl h)
                · exact .inr (.inr (Ne.symm h))
              · rcases h j i (by omega) (by omega) (by omega) with h | h | h
                · exact .inr (.inl h)
                · exact .inl h
                · exact .inr (.inr h)
            rw [hbv] at hs
            rcases hs with h | h | h
            · exact .inl h
            · rw [h]
              cases hx : (nth vs i).2.ownBlock with
              | none => exact .inl rfl
              | some _ => exact .inr (by simp)
            · exact .inr h
        · refine ((hK.trans (Keep.of_grown hg5 (fun b hb => ?_))).trans (Keep.of_grown hg6 (fun b hb => ?_))).trans (Keep.of_grown hg9 (fun b hb => ?_))
          · injection hb with hb; subst hb; exact hgE
          · rw [← hbv] at hb
            exact Hbl.out _ (nth_mem (by rw [Hvn.out]; exact hlt)) b hb
          · injection hb with hb; subst hb; exact hgE
      case measure => simp [intOf]; omega
    · obtain rfl : j = n := by omega
      go_wp2
      go_ret
      exact ⟨q, rfl, hK⟩
theorem ActsO.mark {w0 w : World} {B n c : Nat} {a : Option Addr} {l : List Ac} (h : ActsO w0 B a n c l) (hx : X w0 w) (hn : n ≤ 2097152) {k : Nat} (hk : k + (l.map (fun x => 8 + 5 * x.file.body.length)).sum ≤ 1073741824) (hb : ∀ x ∈ l, x.file.body.length ≤ 1073741824) :
    Calls Tryz.prog 26 #[.slice a n c, .int .i64 (k : Int)] w fun e w' => ∃ q : Nat, e = .returned (.int .i64 (q : Int)) ∧ Keep B w0.heap.size w w' := by
  obtain ⟨vs, e, h1, h2, hs, h3⟩ := h
  have hwt : ∀ (vs : List (Ac × Value)), (∀ x ∈ vs, ∃ ba bc, x.2 = .slice ba x.1.file.body.length bc) → wtVs (vs.map (·.2)) = ((vs.map (·.1)).map (fun x : Ac => 8 + 5 * x.file.body.length)).sum := by
    intro vs
    induction vs with
    | nil => intro _; rfl
    | cons x vs ih =>
      intro hx
      obtain ⟨ba, bc, e⟩ := hx x (List.mem_cons_self ..)
      rw [List.map_cons, List.map_cons, List.map_cons, List.sum_cons, ← ih (fun y hy => hx y (List.mem_cons_of_mem _ hy))]
      show wtV x.2 + _ = _
      rw [e]
      rfl
  refine markActS_e l a n c B w0.heap.size k vs w e h1 (own_fr h2 (hx.fr _)) hs (fun x hm => ?_) (fun b hb => (h2.lt b hb).2) (fun x hm b hbb => ?_) hn ?_
  · obtain ⟨ba, bc, e2, ho⟩ := h3 x hm
    exact ⟨ba, _, bc, _, e2, hb x.1 (by rw [e]; exact List.mem_map.2 ⟨x, hm, rfl⟩), own_fr ho (hx.fr _)⟩
  · obtain ⟨ba, bc, e2, ho⟩ := h3 x hm
    rw [e2] at hbb
    exact (ho.lt b hbb).2
  · rw [hwt vs (fun x hm => let ⟨ba, bc, e2, _⟩ := h3 x hm; ⟨ba, bc, e2⟩), ← e]
    exact hk

end Go.Proofs.YtgjfjjhmgbemcaaGreatDoor
