/- Lists of texts in the reference: whether a text is there, insertion. No condition but lengths. -/
import Derived.Test.YtgjfjjhmgbemcaaDoorSorted
import Derived.Test.YtgjfjjhmgbemcaaDoorIe
import Derived.Maps.AppendAt
namespace Go.Proofs.YtgjfjjhmgbemcaaDoor
open Go.RowKit

set_option maxHeartbeats 400000 in
theorem textAtS_c (l : List (List UInt8)) (a : Option Addr) (n c B : Nat) (s : List UInt8) (w : World) (hS : StrsAt w B a n l) :
    Calls Tryd.prog 115 #[.slice a n c, .string ⟨(s).toArray⟩] w fun e w' => e = .returned (.int .i64 (firstN (fun k => nth l k == s) n)) ∧ X w w' := by
  have hn := hS.2.1
  go_enter Tryd.func115, Tryd.ntmps115
  go_wp2
  go_loop [5] (fun i => ∃ k : Nat, k ≤ n ∧ i = .int .i64 k ∧ anyN (fun k => nth l k == s) k = false) (fun i => n - (intOf i).toNat)
  case atStart => exact ⟨0, by omega, rfl, rfl⟩
  case round =>
    obtain ⟨k, hk, rfl, hno⟩ := hrel
    by_cases hlt : k < n
    · obtain ⟨b, off, rfl, _, hb, hc, _⟩ := hS.at_ hlt
      cases he : nth l k == s
      · have hs : ¬ nth l k = s := by simpa using he
        go_wp2
        go_round
        case rel => exact ⟨k + 1, by omega, by go_num, anyN_next hno he⟩
        case measure => simp [intOf]; omega
      · have hs : nth l k = s := by simpa using he
        go_wp2
        go_ret
        exact ⟨ret_int (firstN_some hno he hlt).symm, by (repeat (first | exact X.refl _ | assumption | refine X.ext ?_ _ | refine X.alloc ?_ _ | refine X.drew ?_))⟩
    · obtain rfl : k = n := by omega
      go_wp2
      go_ret
      exact ⟨ret_int (firstN_none hno).symm, by (repeat (first | exact X.refl _ | assumption | refine X.ext ?_ _ | refine X.alloc ?_ _ | refine X.drew ?_))⟩
set_option maxHeartbeats 400000 in
theorem hasTextS_c (l : List (List UInt8)) (a : Option Addr) (n c B : Nat) (s : List UInt8) (w : World) (hS : StrsAt w B a n l) :
    Calls Tryd.prog 105 #[.slice a n c, .string ⟨(s).toArray⟩] w fun e w' => e = .returned (.bool (hasS l s)) ∧ X w w' := by
  have hl := hS.1
  have hm : decide (0 ≤ firstN (fun k => nth l k == s) n) = hasS l s := by
    rw [Bool.eq_iff_iff, decide_eq_true_iff, firstN_nonneg, hasS, hl]
  clear hl
  go_enter Tryd.func105, Tryd.ntmps105
  go_wp2_with (go_at_call 115; refine (textAtS_c l _ _ _ _ s _ hS).mono ?_; rintro _ _ ⟨rfl, x, rfl⟩)
  go_ret
  exact ⟨rfl, by (repeat (first | exact X.refl _ | assumption | refine X.ext ?_ _ | refine X.alloc ?_ _ | refine X.drew ?_))⟩
/-- append of a literal onto an owned slice: what is left lies where it lay, or in a new block. -/
theorem wpList_append_gat {P : Program} {ops : Array Oper} {rest : List Oper} {o : Oper} {a : Act} {Q : Exit → Act → World → Prop} {t e size bytes : Nat} (hT : AppT P t e size bytes) (hgd : o.guard = none) (s x : Operand)
    (ho : o.op = .call { callee := .builtin .append, args := #[s, x], argTypes := #[t, t] }) {w : World} {B b : Nat} {n c : Nat} {xs : List Value} {cs : Array Value}
    (hown : w.ownsRow B e size (.slice (some ⟨b, 0, none⟩) n c) n xs) (hs : a.eval s = .slice (some ⟨b, 0, none⟩) n c) {g : Nat} (hx : a.eval x = .slice (some ⟨g, 0, none⟩) 1 1) (hg : g = w.heap.size) (hcs : cs.size = size) (h1 : ∀ u ∈ cs.toList, u.oneCell' = true)
    (hb : (n + 1) * bytes ≤ 140737488355328) (hn : n + 1 ≤ 9223372036854775807) (hBw : B ≤ w.heap.size)
    (h : ∀ g' c' w', w'.ownsRow B e size (.slice (some ⟨g', 0, none⟩) (n + 1) c') (n + 1) (xs ++ cs.toList) → (w.alloc (.cells cs e)).grownBy w' (some b) → (g' = b ∨ w.heap.size < g') → wpList P ops Q rest (a.put o.dst (.slice (some ⟨g', 0, none⟩) (n + 1) c')) w') :
    wpList P ops Q (o :: rest) a (w.alloc (.cells cs e)) := by
  subst hg
  obtain ⟨i, z, hi, hz, hsize, hby, hzs⟩ := hT.hi
  refine wpList_append_own_at _ hgd s x t ho B e i z size bytes hT.ht hi hz hsize hby hzs hT.hsz _ n xs hs (hown.alloc _) ⟨w.heap.size, 0, none⟩ 1 1 cs.toList hx (by simp [hcs])
    (fun j u hu => ?_) h1 (by unfold maxLen; omega) hb (by simp; omega) ?_
  · have hadd : (⟨w.heap.size, 0, none⟩ : Addr).add j = ⟨w.heap.size, j, none⟩ := by unfold Addr.add; split <;> simp_all
    rw [hadd, World.cell?_alloc_new]
    simpa using hu
  · intro v' w' hown' hgr _ hat
    obtain ⟨a', c', rfl⟩ := own_slice hown'
    obtain ⟨g', rfl, _, _⟩ := own_form hown' (by omega)
    refine h g' c' w' hown' hgr ?_
    rcases hat with e | e
    · left
      injection e
    · right
      have e2 : some g' = some (w.heap.size + 1) := by rw [← World.size_alloc w (.cells cs _)]; exact e
      injection e2 with e2
      omega
/-- append of a whole slice onto an owned one that is not empty: what is left lies where it lay, or in a new block. -/
theorem wpList_append_slat {P : Program} {ops : Array Oper} {rest : List Oper} {o : Oper} {a : Act} {Q : Exit → Act → World → Prop} {t e size bytes : Nat} (hT : AppT P t e size bytes) (hgd : o.guard = none) (s x : Operand)
    (ho : o.op = .call { callee := .builtin .append, args := #[s, x], argTypes := #[t, t] }) {w : World} {B B' b n c0 : Nat} {xs : List Value}
    (hown : w.ownsRow B e size (.slice (some ⟨b, 0, none⟩) n c0) n xs) (h0 : 0 < n) (hs : a.eval s = .slice (some ⟨b, 0, none⟩) n c0) {sa : Option Addr} {m c : Nat} {news : List Value} (hx : a.eval x = .slice sa m c) (hsl : Sl w B' sa m news) (hl : news.length = m * size) (h1 : ∀ u ∈ news, u.oneCell' = true)
    (hb : (n + m) * bytes ≤ 140737488355328) (hn : n + m ≤ maxLen) (hBw : B ≤ w.heap.size)
    (h : ∀ g' c' w', w'.ownsRow B e size (.slice (some ⟨g', 0, none⟩) (n + m) c') (n + m) (xs ++ news) → w.grownBy w' (some b) → (g' = b ∨ w.heap.size ≤ g') → wpList P ops Q rest (a.put o.dst (.slice (some ⟨g', 0, none⟩) (n + m) c')) w') :
    wpList P ops Q (o :: rest) a w := by
  obtain ⟨i, z, hi, hz, hsize, hby, hzs⟩ := hT.hi
  cases sa with
  | none =>
    have hm : m = 0 := by
      rcases Nat.eq_zero_or_pos m with h0 | h0
      · exact h0
      · obtain ⟨b, off, ha, _⟩ := hsl h0; cases ha
    subst hm
    have hnil : news = [] := by rw [Nat.zero_mul] at hl; exact List.length_eq_zero_iff.1 hl
    subst hnil
    exact wpList_append_none_c hgd s x t ho B e i size hT.ht hi _ n c xs hs hown hx (h b c0 w (by simpa using hown) (World.grownBy.refl _ _) (.inl rfl))
  | some ad =>
    refine wpList_append_own_at _ hgd s x t ho B e i z size bytes hT.ht hi hz hsize hby hzs hT.hsz _ n xs hs hown ad m c news hx hl (fun j u hu => ?_) h1 hn hb hBw ?_
    · have hj : j < news.length := (List.getElem?_eq_some_iff.1 hu).1
      have hm : 0 < m := by
        rcases Nat.eq_zero_or_pos m with h0 | h0
        · subst h0; omega
        · exact h0
      obtain ⟨b, off, ha, _, hb, hc⟩ := hsl hm
      injection ha with ha
      subst ha
      have hadd : (⟨b, off, none⟩ : Addr).add j = ⟨b, off + j, none⟩ := by unfold Addr.add; split <;> simp_all
      rw [hadd, hc j hj, ← hu, List.getElem?_eq_getElem hj]
    · intro v' w' hown' hgr _ hat
      obtain ⟨a', c', rfl⟩ := own_slice hown'
      obtain ⟨g', rfl, _, _⟩ := own_form hown' (by omega)
      refine h g' c' w' hown' hgr ?_
      rcases hat with e | e
      · left
        injection e
      · right
        have e2 : some g' = some w.heap.size := e
        injection e2 with e2
        omega
theorem ret_slice {a : Option Addr} {n m c : Nat} (h : n = m) : Ending.returned (.slice a n c) = .returned (.slice a m c) := by rw [h]
theorem own_kept_low {w w' : World} {B e size n g : Nat} {v : Value} {xs : List Value} (h : w.ownsRow B e size v n xs) (hg : w.grownBy w' (some g)) (hlt : g < B) : w'.ownsRow B e size v n xs :=
  h.kept hg (.inr fun e => by have := (h.lt g e).1; omega)
theorem Sl.drop {w : World} {B g n p : Nat} {l : List (List UInt8)} (h : Sl w B (some ⟨g, 0, none⟩) n (strs l)) (hl : l.length = n) (hp : p ≤ n) : Sl w B (some ⟨g, p, none⟩) (n - p) (strs (l.drop p)) := by
  intro h0
  obtain ⟨b, off, e, hB, hb, hc⟩ := h (by omega)
  injection e with e
  injection e with e1 e2
  subst e1 e2
  refine ⟨g, p, rfl, hB, hb, fun i hi => ?_⟩
  rw [strs_map, List.length_map, List.length_drop] at hi
  have h2 := hc (p + i) (by rw [strs_map, List.length_map]; omega)
  rw [Nat.zero_add] at h2
  rw [h2]
  congr 1
  simp [strs_map]
set_option maxRecDepth 100000 in
set_option maxHeartbeats 1000000 in
theorem insertText_c (l : List (List UInt8)) (g n c B : Nat) (s : List UInt8) (w : World) (hO : w.ownsRow B 9 1 (.slice (some ⟨g, 0, none⟩) n c) n (strs l)) (hn : n ≤ 1048576) (hls : ∀ x ∈ l, x.length ≤ 4194304) (hBw : B ≤ w.heap.size) :
    Calls Tryd.prog 123 #[.slice (some ⟨g, 0, none⟩) n c, .string ⟨(s).toArray⟩] w fun e w' => ∃ g' rc, e = .returned (.slice (some ⟨g', 0, none⟩) (insS l s).length rc) ∧ w'.ownsRow B 9 1 (.slice (some ⟨g', 0, none⟩) (insS l s).length rc) (insS l s).length (strs (insS l s)) ∧ w.grownBy w' (some g) ∧ (g' = g ∨ w.heap.size ≤ g') := by
  have hl : l.length = n := by have := hO.1; rw [strs_len] at this; omega
  have hS : StrsAt w B (some ⟨g, 0, none⟩) n l := ⟨hl.symm, by omega, hls, Sl.of_own hO⟩
  have hnc := own_cap hO
  cases hh : hasS l s
  case true =>
    have hv : insS l s = l := by rw [insS, if_pos hh]
    rw [hv]
    have Hl := Lib.hid hl
    clear hl
    go_enter Tryd.func123, Tryd.ntmps123
    go_wp2_with (go_at_call 105; refine (hasTextS_c l _ _ _ _ s _ hS).mono ?_; rintro _ _ ⟨rfl, hx⟩; rw [hh])
    go_ret
    rw [Hl.out]
    exact ⟨g, c, rfl, own_fr hO (hx.fr _), X.grown hx (World.grownBy.refl _ _), .inl rfl⟩
  case false =>
    obtain ⟨V, hV⟩ : ∃ V, insS l s = V := ⟨_, rfl⟩
    have hv : V = l.take (posS l s n) ++ s :: l.drop (posS l s n) := by rw [← hV, insS, hh, hl]; rfl
    rw [hV]
    have hpn := posS_le l s n
    have Hv := Lib.hid hv
    have Hl := Lib.hid hl
    clear hv hV hl
    go_enter Tryd.func123, Tryd.ntmps123
    go_wp2_with fail
    refine (hasTextS_c l _ _ _ _ s _ hS).mono ?_
    rintro _ w1 ⟨rfl, hx1⟩
    rw [hh]
    have hz1 := hx1.size
    replace hO := own_fr hO (hx1.fr _)
    replace hS := hS.mono (hx1.fr _)
    go_wp2
    go_loop [5] (fun i => ∃ k : Nat, k ≤ n ∧ i = .int .i64 k ∧ posS l s n = posS l s k) (fun i => (intOf i).toNat)
    case atStart => exact ⟨n, Nat.le_refl _, rfl, rfl⟩
    case round =>
      obtain ⟨k, hk, rfl, hpos⟩ := hrel
      rcases Nat.eq_zero_or_pos k with hk0 | hk0
      · have hp : posS l s n = k := by rw [hpos, hk0]; rfl
        rw [hp] at Hv
        have hkz : ¬ 0 < k := by omega
        clear hpos hk0
        have hD := Sl.drop (Sl.of_own hO) Hl.out (p := k) (by omega)
        have hDl : (strs (l.drop (k))).length = (n - (k)) * 1 := by rw [strs_len, List.length_drop, Hl.out, Nat.mul_one]
        have hD1 := strs_one (l.drop (k))
        have hsh := own_short hO (m := k) (by omega)
        have hgl := (hO.lt g rfl).2
        rcases Nat.lt_or_ge (k) c with hpc | hpc
        · have hcp : ¬ c = k := by omega
          go_wp2_with (first
            | (at_builtin; refine wpList_append_sl str_T rfl _ _ rfl (own_lit (n := 0) (size := 1) rfl (Nat.le_refl _) rfl (by omega)) rfl rfl (hD.mono (X.fr (by (repeat (first | with_reducible exact X.refl _ | with_reducible assumption | with_reducible refine X.setCell ?_ (by first | (simp; done) | (simp; omega)) _ | with_reducible refine X.ext ?_ _ | with_reducible refine X.alloc ?_ _ | with_reducible refine X.drew ?_))) _)) hDl hD1 (by omega) (by unfold maxLen; omega) (by simp) ?_; intro a2 c2 w2 hO2 hg2; rw [Nat.zero_add, List.nil_append] at hO2; have hX2 : X w1 w2 := X.of_lit hg2; have hz2 := hX2.size)
            | (at_builtin; refine wpList_append_gat str_T rfl _ _ rfl (own_fr hsh (hX2.fr _)) rfl rfl rfl rfl (by simp [Value.oneCell']) (by omega) (by omega) (Nat.le_trans hBw (Nat.le_trans hx1.size hX2.size)) ?_; intro g3 c3 w3 hO3 hg3 hat3; have hR3 := own_kept_low (hO2.alloc _) hg3 hgl; have hz3 := hg3.size; rw [World.size_alloc] at hz3)
            | (at_builtin; refine wpList_append_slat str_T rfl _ _ rfl hO3 (by omega) rfl rfl (Sl.of_own hR3) hDl hD1 (by omega) (by unfold maxLen; omega) (by omega) ?_; intro g4 c4 w4 hO4 hg4 hat4))
          go_ret
          refine ⟨g4, c4, ?_, ?_, ?_, ?_⟩
          · rw [Hv.out, List.length_append, List.length_cons, List.length_take, List.length_drop, Hl.out, Nat.min_eq_left (by omega)]
            exact ret_slice (by omega)
          · have e1 : V.length = k + 1 + (n - (k)) := by rw [Hv.out, List.length_append, List.length_cons, List.length_take, List.length_drop, Hl.out, Nat.min_eq_left (by omega)]; omega
            have e2 : strs V = List.take ((k) * 1) (strs l) ++ [.string ⟨(s).toArray⟩] ++ strs (l.drop (k)) := by rw [Hv.out]; simp [strs_map]
            rw [e1, e2]
            first | exact hO4 | (rw [show n - (k) = 0 by omega]; exact hO4)
          · have hga : w.grownBy w3 (some g) := X.grown ((hx1.trans hX2).alloc _) hg3
            rcases hat3 with rfl | h3
            · exact hga.trans hg4
            · exact grown_over hga hg4 (by omega)
          · omega
        · have hcp : c = k := by omega
          subst hcp
          have hnp : n - (c) = 0 := by omega
          rw [hnp] at hDl
          go_wp2_with (first
            | (at_builtin; refine wpList_append_sl str_T rfl _ _ rfl (own_lit (n := 0) (size := 1) rfl (Nat.le_refl _) rfl (by omega)) rfl rfl ((show Sl _ B _ _ _ from fun h => absurd h (by omega))) hDl hD1 (by omega) (by unfold maxLen; omega) (by simp) ?_; intro a2 c2 w2 hO2 hg2; rw [Nat.zero_add, List.nil_append] at hO2; have hX2 : X w1 w2 := X.of_lit hg2; have hz2 := hX2.size)
            | (at_builtin; refine wpList_append_gat str_T rfl _ _ rfl (own_fr hsh (hX2.fr _)) rfl rfl rfl rfl (by simp [Value.oneCell']) (by omega) (by omega) (Nat.le_trans hBw (Nat.le_trans hx1.size hX2.size)) ?_; intro g3 c3 w3 hO3 hg3 hat3; have hR3 := own_kept_low (hO2.alloc _) hg3 hgl; have hz3 := hg3.size; rw [World.size_alloc] at hz3)
            | (at_builtin; refine wpList_append_slat str_T rfl _ _ rfl hO3 (by omega) rfl rfl (Sl.of_own hR3) hDl hD1 (by omega) (by unfold maxLen; omega) (by omega) ?_; intro g4 c4 w4 hO4 hg4 hat4))
          go_ret
          refine ⟨g4, c4, ?_, ?_, ?_, ?_⟩
          · rw [Hv.out, List.length_append, List.length_cons, List.length_take, List.length_drop, Hl.out, Nat.min_eq_left (by omega)]
            exact ret_slice (by omega)
          · have e1 : V.length = c + 1 + (n - (c)) := by rw [Hv.out, List.length_append, List.length_cons, List.length_take, List.length_drop, Hl.out, Nat.min_eq_left (by omega)]; omega
            have e2 : strs V = List.take ((c) * 1) (strs l) ++ [.string ⟨(s).toArray⟩] ++ strs (l.drop (c)) := by rw [Hv.out]; simp [strs_map]
            rw [e1, e2]
            first | exact hO4 | (rw [show n - (c) = 0 by omega]; exact hO4)
          · have hga : w.grownBy w3 (some g) := X.grown ((hx1.trans hX2).alloc _) hg3
            rcases hat3 with rfl | h3
            · exact hga.trans hg4
            · exact grown_over hga hg4 (by omega)
          · omega
      · obtain ⟨j, rfl⟩ : ∃ j, k = j + 1 := ⟨k - 1, by omega⟩
        obtain ⟨b, off, ha, _, hb, hc, _⟩ := hS.at_ (k := j) (by omega)
        injection ha with ha
        injection ha with e1 e2
        subst e1 e2
        rw [Nat.zero_add] at hc
        have q1 : IntKind.i64.wrap (((j + 1 : Nat) : Int) - 1) = (j : Int) := by rw [show (((j + 1 : Nat) : Int) - 1) = (j : Int) by omega]; exact IntWalk.i64_in _ (by omega)
        have hps : posS l s (j + 1) = if gtS (nth l j) s then posS l s j else j + 1 := rfl
        rw [hps] at hpos
        clear hps
        cases h1 : Op.bytesLess (nth l j) s <;> cases h2 : nth l j == s
        case false.false =>
          rw [gtS, h1, h2] at hpos
          have hs2 : ¬ nth l j = s := by simpa using h2
          go_wp2
          go_round
          case rel => exact ⟨j, by omega, by go_num, hpos⟩
          case measure => first | (simp [intOf]; done) | (simp [intOf]; omega)
        all_goals
          rw [gtS, h1, h2] at hpos
          have hp : posS l s n = j + 1 := hpos
          rw [hp] at Hv
          (first | (have hs2 : nth l j = s := by simpa using h2) | (have hs2 : ¬ nth l j = s := by simpa using h2))
          clear hpos
          have hD := Sl.drop (Sl.of_own hO) Hl.out (p := (j + 1)) (by omega)
          have hDl : (strs (l.drop ((j + 1)))).length = (n - ((j + 1))) * 1 := by rw [strs_len, List.length_drop, Hl.out, Nat.mul_one]
          have hD1 := strs_one (l.drop ((j + 1)))
          have hsh := own_short hO (m := (j + 1)) (by omega)
          have hgl := (hO.lt g rfl).2
          rcases Nat.lt_or_ge ((j + 1)) c with hpc | hpc
          · have hcp : ¬ c = (j + 1) := by omega
            go_wp2_with (first
              | (at_builtin; refine wpList_append_sl str_T rfl _ _ rfl (own_lit (n := 0) (size := 1) rfl (Nat.le_refl _) rfl (by omega)) rfl rfl (hD.mono (X.fr (by (repeat (first | with_reducible exact X.refl _ | with_reducible assumption | with_reducible refine X.setCell ?_ (by first | (simp; done) | (simp; omega)) _ | with_reducible refine X.ext ?_ _ | with_reducible refine X.alloc ?_ _ | with_reducible refine X.drew ?_))) _)) hDl hD1 (by omega) (by unfold maxLen; omega) (by simp) ?_; intro a2 c2 w2 hO2 hg2; rw [Nat.zero_add, List.nil_append] at hO2; have hX2 : X w1 w2 := X.of_lit hg2; have hz2 := hX2.size)
              | (at_builtin; refine wpList_append_gat str_T rfl _ _ rfl (own_fr hsh (hX2.fr _)) rfl rfl rfl rfl (by simp [Value.oneCell']) (by omega) (by omega) (Nat.le_trans hBw (Nat.le_trans hx1.size hX2.size)) ?_; intro g3 c3 w3 hO3 hg3 hat3; have hR3 := own_kept_low (hO2.alloc _) hg3 hgl; have hz3 := hg3.size; rw [World.size_alloc] at hz3)
              | (at_builtin; refine wpList_append_slat str_T rfl _ _ rfl hO3 (by omega) rfl rfl (Sl.of_own hR3) hDl hD1 (by omega) (by unfold maxLen; omega) (by omega) ?_; intro g4 c4 w4 hO4 hg4 hat4))
            go_ret
            refine ⟨g4, c4, ?_, ?_, ?_, ?_⟩
            · rw [Hv.out, List.length_append, List.length_cons, List.length_take, List.length_drop, Hl.out, Nat.min_eq_left (by omega)]
              exact ret_slice (by omega)
            · have e1 : V.length = (j + 1) + 1 + (n - ((j + 1))) := by rw [Hv.out, List.length_append, List.length_cons, List.length_take, List.length_drop, Hl.out, Nat.min_eq_left (by omega)]; omega
              have e2 : strs V = List.take (((j + 1)) * 1) (strs l) ++ [.string ⟨(s).toArray⟩] ++ strs (l.drop ((j + 1))) := by rw [Hv.out]; simp [strs_map]
              rw [e1, e2]
              first | exact hO4 | (rw [show n - ((j + 1)) = 0 by omega]; exact hO4)
            · have hga : w.grownBy w3 (some g) := X.grown ((hx1.trans hX2).alloc _) hg3
              rcases hat3 with rfl | h3
              · exact hga.trans hg4
              · exact grown_over hga hg4 (by omega)
            · omega
          · have hcp : c = (j + 1) := by omega
            subst hcp
            have hnp : n - ((j + 1)) = 0 := by omega
            rw [hnp] at hDl
            go_wp2_with (first
              | (at_builtin; refine wpList_append_sl str_T rfl _ _ rfl (own_lit (n := 0) (size := 1) rfl (Nat.le_refl _) rfl (by omega)) rfl rfl ((show Sl _ B _ _ _ from fun h => absurd h (by omega))) hDl hD1 (by omega) (by unfold maxLen; omega) (by simp) ?_; intro a2 c2 w2 hO2 hg2; rw [Nat.zero_add, List.nil_append] at hO2; have hX2 : X w1 w2 := X.of_lit hg2; have hz2 := hX2.size)
              | (at_builtin; refine wpList_append_gat str_T rfl _ _ rfl (own_fr hsh (hX2.fr _)) rfl rfl rfl rfl (by simp [Value.oneCell']) (by omega) (by omega) (Nat.le_trans hBw (Nat.le_trans hx1.size hX2.size)) ?_; intro g3 c3 w3 hO3 hg3 hat3; have hR3 := own_kept_low (hO2.alloc _) hg3 hgl; have hz3 := hg3.size; rw [World.size_alloc] at hz3)
              | (at_builtin; refine wpList_append_slat str_T rfl _ _ rfl hO3 (by omega) rfl rfl (Sl.of_own hR3) hDl hD1 (by omega) (by unfold maxLen; omega) (by omega) ?_; intro g4 c4 w4 hO4 hg4 hat4))
            go_ret
            refine ⟨g4, c4, ?_, ?_, ?_, ?_⟩
            · rw [Hv.out, List.length_append, List.length_cons, List.length_take, List.length_drop, Hl.out, Nat.min_eq_left (by omega)]
              exact ret_slice (by omega)
            · have e1 : V.length = (j + 1) + 1 + (n - ((j + 1))) := by rw [Hv.out, List.length_append, List.length_cons, List.length_take, List.length_drop, Hl.out, Nat.min_eq_left (by omega)]; omega
              have e2 : strs V = List.take (((j + 1)) * 1) (strs l) ++ [.string ⟨(s).toArray⟩] ++ strs (l.drop ((j + 1))) := by rw [Hv.out]; simp [strs_map]
              rw [e1, e2]
              first | exact hO4 | (rw [show n - ((j + 1)) = 0 by omega]; exact hO4)
            · have hga : w.grownBy w3 (some g) := X.grown ((hx1.trans hX2).alloc _) hg3
              rcases hat3 with rfl | h3
              · exact hga.trans hg4
              · exact grown_over hga hg4 (by omega)
            · omega

end Go.Proofs.YtgjfjjhmgbemcaaDoor
