/- EdgesOf, both sides: the walks. No condition but lengths. -/
import Derived.Test.YtlpbgingggnjpaaGreatDoorNeedT
import Derived.Test.YtlpbgingggnjpaaGreatDoorAboveP
namespace Go.Proofs.YtlpbgingggnjpaaGreatDoor
open Go.RowKit

/-- append of a whole slice onto an owned one: what is left lies where it lay, or in a new block. -/
theorem wpList_append_e {P : Program} {ops : Array Oper} {rest : List Oper} {o : Oper} {a : Act} {Q : Exit → Act → World → Prop} {t e size bytes : Nat} (hT : AppT P t e size bytes) (hgd : o.guard = none) (s x : Operand)
    (ho : o.op = .call { callee := .builtin .append, args := #[s, x], argTypes := #[t, t] }) {w : World} {B B' : Nat} {v : Value} {n : Nat} {xs : List Value}
    (hown : w.ownsRow B e size v n xs) (hs : a.eval s = v) {sa : Option Addr} {m c : Nat} {news : List Value} (hx : a.eval x = .slice sa m c) (hsl : Sl w B' sa m news) (hl : news.length = m * size) (h1 : ∀ u ∈ news, u.oneCell' = true)
    (hb : (n + m) * bytes ≤ 140737488355328) (hn : n + m ≤ maxLen) (hBw : B ≤ w.heap.size)
    (h : ∀ a' c' w', w'.ownsRow B e size (.slice a' (n + m) c') (n + m) (xs ++ news) → w.grownBy w' v.ownBlock → (∀ g, (Value.slice a' (n + m) c').ownBlock = some g → v.ownBlock = some g ∨ w.heap.size ≤ g) → wpList P ops Q rest (a.put o.dst (.slice a' (n + m) c')) w') :
    wpList P ops Q (o :: rest) a w := by
  obtain ⟨i, z, hi, hz, hsize, hby, hzs⟩ := hT.hi
  cases sa with
  | none =>
    have hm : m = 0 := by
      rcases Nat.eq_zero_or_pos m with h0 | h0
      · exact h0
      · obtain ⟨b, off, ha, _⟩ := hsl h0; cases ha
    subst hm
    have hnil : news = [] := by rw [Nat.zero_mul] at hl; exact List.length_eq_zero_iff.1 hl
    subst hnil
    obtain ⟨a', c', rfl⟩ := own_slice hown
    exact wpList_append_none_c hgd s x t ho B e i size hT.ht hi _ n c xs hs hown hx (h a' c' w (by simpa using hown) (World.grownBy.refl _ _) (fun g hg => .inl hg))
  | some ad =>
    refine wpList_append_own_at _ hgd s x t ho B e i z size bytes hT.ht hi hz hsize hby hzs hT.hsz v n xs hs hown ad m c news hx hl (fun j u hu => ?_) h1 hn hb hBw ?_
    · have hj : j < news.length := (List.getElem?_eq_some_iff.1 hu).1
      have hm : 0 < m := by
        rcases Nat.eq_zero_or_pos m with h0 | h0
        · subst h0; omega
        · exact h0
      obtain ⟨b, off, ha, _, hb, hc⟩ := hsl hm
      injection ha with ha
      subst ha
      have hadd : (⟨b, off, none⟩ : Addr).add j = ⟨b, off + j, none⟩ := by unfold Addr.add; split <;> simp_all
      rw [hadd, hc j hj, ← hu, List.getElem?_eq_getElem hj]
    · intro v' w' hown' hgr _ hat
      obtain ⟨a', c', rfl⟩ := own_slice hown'
      refine h a' c' w' hown' hgr fun g hg => ?_
      rcases hat with e | e
      · left
        rw [← e]
        exact hg
      · right
        have e2 := hg.symm.trans e
        injection e2 with e2
        omega
theorem fr_grownV {B : Nat} {row : Option Nat} {w W w' : World} (h : Fr B w W) (hg : W.grownBy w' row) (hb : ∀ g, row = some g → g < B ∨ w.heap.size ≤ g) : Fr B w w' :=
  ⟨Nat.le_trans h.size hg.size, fun k hk hl => (hg.block k (Nat.lt_of_lt_of_le hl h.size) (fun e => by have := hb k e.symm; omega)).trans (h.block k hk hl)⟩
theorem flat_len (xs : List (List UInt8)) : (xs.flatMap aboveP).length ≤ 3 * xs.length := by
  induction xs with
  | nil => simp
  | cons x xs ih =>
    have := aboveP_len x
    rw [List.flatMap_cons, List.length_append, List.length_cons]
    omega
theorem flat_short (xs : List (List UInt8)) : ∀ x ∈ xs.flatMap aboveP, x.length ≤ 12 := by
  intro x hx
  obtain ⟨y, _, hx⟩ := List.mem_flatMap.1 hx
  exact aboveP_short x hx
theorem flat_next {xs : List (List UInt8)} {k : Nat} (hk : k < xs.length) : (xs.take (k + 1)).flatMap aboveP = (xs.take k).flatMap aboveP ++ aboveP (nth xs k) := by
  rw [take_succ_nth hk, List.flatMap_append]
  simp
theorem needsL_le {l : List Fi} {path : List Int} {s : List UInt8} : (needsL l path s).length ≤ 8 := by
  unfold needsL
  refine Nat.le_trans uniqL_len ?_
  unfold needN
  split
  · simp
  · rename_i h
    exact Nat.le_trans bodyNames_len (bodyB_len (needN_body h))
theorem needsL_sh {l : List Fi} {path : List Int} {s : List UInt8} : ∀ x ∈ needsL l path s, x.length ≤ 4194304 := fun x hx => by have := nameB_len (needs_name hx); omega

set_option maxRecDepth 100000 in
set_option maxHeartbeats 2000000 in
theorem EdgesOf_i (l : List Fi) (a : Option Addr) (n c B : Nat) (path : List Int) (pa : Option Addr) (pn pc Bp : Nat) (s : List UInt8) (w : World) (hF : FilesAt w B a n l) (hnc : n ≤ c) (hI : IntsAt w Bp pa pn path) (hpc : pn ≤ pc) (hsl : s.length ≤ 4194304) (hG : Gm w) :
    Calls Tryz.prog 30 #[.agg #[.slice a n c], .slice pa pn pc, .string ⟨(s).toArray⟩] w fun e w' => ∃ ra rc, e = .returned (.slice ra (edgesL l path s).length rc) ∧ w'.ownsRow w.heap.size 9 1 (.slice ra (edgesL l path s).length rc) (edgesL l path s).length (strs (edgesL l path s)) ∧ X w w' := by
  obtain ⟨V, hV⟩ : ∃ V, edgesL l path s = V := ⟨_, rfl⟩
  rw [hV]
  rw [edgesL] at hV
  have hl8 := @needsL_le l path s
  have hsh := @needsL_sh l path s
  obtain ⟨N, hN⟩ : ∃ N, needsL l path s = N := ⟨_, rfl⟩
  rw [hN] at hl8 hsh hV
  have HV := Lib.hid hV
  have HN := Lib.hid hN
  clear hV hN
  obtain ⟨m, hm⟩ : ∃ m, N.length = m := ⟨_, rfl⟩
  have Hm := Lib.hid hm
  rw [hm] at hl8
  clear hm
  go_enter Tryz.func30, Tryz.ntmps30
  go_wp2_with fail
  refine calls_name (fun W hW => ?_)
  have hX0 : X w W := by rw [hW]; (repeat (first | with_reducible exact X.refl _ | with_reducible assumption | with_reducible refine X.setCell ?_ (by first | (simp; done) | (simp; omega)) _ | with_reducible refine X.ext ?_ _ | with_reducible refine X.alloc ?_ _ | with_reducible refine X.drew ?_))
  have hrow0 : W.ownsRow (w.heap.size + 1) 9 1 (.slice (some ⟨w.heap.size + 1, 0, none⟩) 0 0) 0 [] := by rw [hW]; exact own_lit (n := 0) (size := 1) (by simp) (by simp) rfl (by omega)
  clear hW
  refine (NeedsOf_i l a n c _ path pa pn pc _ s W (hF.mono (hX0.fr _)) hnc (hI.mono (hX0.fr _)) hpc hsl (hG.mono hX0)).mono ?_
  rw [HN.out, Hm.out]
  rintro _ W2 ⟨na, nc, rfl, hON, hx2⟩
  have hX2 := hX0.trans hx2
  have hrow2 := own_fr hrow0 (hx2.fr _)
  have hSN : StrsAt W2 W.heap.size na m N := ⟨Hm.out.symm, by omega, hsh, Sl.of_own hON⟩
  have hW0 : w.heap.size + 1 < W.heap.size := (hrow0.lt (w.heap.size + 1) rfl).2
  have hgr : w.heap.size + 1 < W2.heap.size := (hrow2.lt (w.heap.size + 1) rfl).2
  clear hON hrow0 hx2 hX0
  go_wp2
  go_loopw [7, 16] (fun v i wr => ∃ (k : Nat) (qa : Option Addr) (qc : Nat), k ≤ m ∧ i = .int .i64 k ∧ v = .slice qa ((N.take k).flatMap aboveP).length qc ∧ wr.ownsRow (w.heap.size + 1) 9 1 (.slice qa ((N.take k).flatMap aboveP).length qc) ((N.take k).flatMap aboveP).length (strs ((N.take k).flatMap aboveP)) ∧ X w wr ∧ Fr W.heap.size W2 wr ∧ (∀ g, (Value.slice qa ((N.take k).flatMap aboveP).length qc).ownBlock = some g → g < W.heap.size ∨ W2.heap.size ≤ g)) (fun _ i _ => m - (intOf i).toNat)
  case atStart => exact ⟨0, _, _, Nat.zero_le _, rfl, rfl, hrow2, hX2, Fr.refl _ _, fun g hg => .inl (by have hg2 : some (w.heap.size + 1) = some g := hg; injection hg2 with hg2; omega)⟩
  case round =>
    obtain ⟨k, qa, qc, hk, rfl, rfl, hrow, hX, hFr, hqg⟩ := hrel
    by_cases hlt : k < m
    · obtain ⟨b, off, rfl, _, hb, hc, hcl⟩ := (hSN.mono hFr).at_ hlt
      have Htk := Lib.hid (@flat_next N k (by rw [Hm.out]; exact hlt))
      have hll : ((N.take k).flatMap aboveP).length ≤ 24 := by
        have := flat_len (N.take k)
        rw [List.length_take] at this
        omega
      obtain ⟨A, hA⟩ : ∃ A, (N.take k).flatMap aboveP = A := ⟨_, rfl⟩
      rw [hA] at hrow hll Htk hqg ⊢
      clear hA
      generalize nth N k = x at *
      have hsz := hX.size
      have hfs := hFr.size
      go_wp2_with fail
      refine (NamesAbove_p x wr hcl (hG.mono hX)).mono ?_
      rintro _ w5 ⟨sa, sc, rfl, hO5, hx5⟩
      have hrow5 := own_fr hrow (hx5.fr _)
      have hs5 := hx5.size
      have hpl := aboveP_len x
      clear hrow
      obtain ⟨U, hU⟩ : ∃ U, aboveP x = U := ⟨_, rfl⟩
      rw [hU] at hO5 hpl Htk ⊢
      clear hU
      have hUl : (strs U).length = U.length * 1 := by rw [strs_len, Nat.mul_one]
      have hU1 := strs_one U
      go_wp2_with (at_builtin; refine wpList_append_e str_T rfl _ _ rfl hrow5 rfl rfl (Sl.of_own hO5) hUl hU1 (by omega) (by unfold maxLen; omega) (by omega) ?_; intro a' c' w6 hO6 hg6 hat6)
      go_roundw
      case rel => exact ⟨k + 1, a', c', by omega, by go_num, by rw [Htk.out, List.length_append], by
        rw [Htk.out, List.length_append, strs_map, List.map_append, ← strs_map, ← strs_map]
        exact hO6, x_own (hX.trans hx5) hrow5 (by omega) hg6, fr_grownV (hFr.trans (hx5.fr _)) hg6 hqg, fun g hg => by
        rw [Htk.out, List.length_append] at hg
        rcases hat6 g hg with h | h
        · exact hqg g h
        · exact .inr (by omega)⟩
      case measure => simp [intOf]; omega
    · obtain rfl : k = m := by omega
      have hall : N.take k = N := List.take_of_length_le (by rw [Hm.out]; exact Nat.le_refl _)
      rw [hall] at hrow ⊢
      have hl24 := flat_len N
      have hshort := flat_short N
      rw [Hm.out] at hl24
      obtain ⟨A, hA⟩ : ∃ A, N.flatMap aboveP = A := ⟨_, rfl⟩
      rw [hA] at hrow hl24 hshort ⊢
      have hv := HV.out
      rw [hA] at hv
      have Hv := Lib.hid hv
      clear hA hv
      go_wp2_with fail
      refine (unique_i A qa _ qc _ wr (StrsAt.of_own hrow (by omega) (fun x hx => by have := hshort x hx; omega)) (by omega)).mono ?_
      rw [Hv.out]
      rintro _ w9 ⟨ra9, rc9, rfl, hO9, hx9⟩
      go_wp2
      go_ret
      exact ⟨ra9, rc9, rfl, own_less hO9 hX.size, hX.trans hx9⟩

end Go.Proofs.YtlpbgingggnjpaaGreatDoor
