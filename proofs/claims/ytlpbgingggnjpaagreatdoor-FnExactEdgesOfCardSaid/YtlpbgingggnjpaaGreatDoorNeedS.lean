/- NeedsOf of the reference: the walks. No condition but lengths. -/
import Derived.Test.YtlpbgingggnjpaaGreatDoorNeedI
namespace Go.Proofs.YtlpbgingggnjpaaGreatDoor
open Go.RowKit

set_option maxRecDepth 100000 in
set_option maxHeartbeats 1000000 in
theorem parent_s (s : List UInt8) (w : World) (hs : nameB s = true) : Calls Tryz.prog 119 #[.string ⟨(s).toArray⟩] w fun e w' => e = .returned (.string ⟨(parentF s).toArray⟩) ∧ X w w' := by
  have e0 : parentF s = pfx s ((splitL 46 s).length - 1) := by rw [parentF, if_pos hs]
  rw [e0]
  clear e0
  obtain ⟨V, hV⟩ : ∃ V, pfx s ((splitL 46 s).length - 1) = V := ⟨_, rfl⟩
  rw [hV]
  have hsl := nameB_len hs
  have htn := (nameB_iff.1 hs).2
  have hpos := splitL_pos 46 s
  have hparts := (nameB_iff.1 hs).1
  go_enter Tryz.func119, Tryz.ntmps119
  go_wp2_with fail
  refine (splitAt_c s 46 w (by omega)).mono ?_
  rintro _ w1 ⟨ta, tc, rfl, hown, hx1⟩
  have htc := own_cap hown
  have hS := StrsAt.of_own hown (by omega) (fun p hp => by have := (partB_len (hparts p hp)).2; omega)
  have hj := join_p s ta _ ((splitL 46 s).length - 1) tc _ w1 hS hs (by omega)
  rw [hV] at hj
  have Hj := Lib.hid hj
  clear hown hj hV
  generalize hn : (splitL 46 s).length = tn at *
  have q1 : IntKind.i64.wrap ((tn : Int) - 1) = (tn : Int) - 1 := IntWalk.i64_in _ (by omega)
  have q2 : (0 : Int) ≤ (tn : Int) - 1 := by omega
  have q3 : ((tn : Int) - 1).toNat = tn - 1 := by omega
  have q4 : (tn : Int) - 1 ≤ (tc : Int) := by omega
  clear hn
  go_wp2_with fail
  refine (Hj.out).mono ?_
  rintro _ _ ⟨rfl, rfl⟩
  go_wp2
  go_ret
  exact ⟨rfl, hx1⟩

set_option maxRecDepth 100000 in
set_option maxHeartbeats 1000000 in
theorem base_s (p : List UInt8) (L : Nat) (w : World) (hp : pkgB p = true) (hL : L ≤ 3) :
    Calls Tryz.prog 151 #[.string ⟨(p).toArray⟩, .int .i64 ((L : Int) + 1)] w fun e w' => e = .returned (.tuple #[.string ⟨(upQ p L).toArray⟩, .bool (!(upQ p L).isEmpty)]) ∧ X w w' := by
  have hu := upQ_pkg hp
  have hnx := Lib.hid (fun j => upQ_next j p)
  have hend := Lib.hid (show ∀ j, j ≤ L → upQ p j = [] → upQ p L = [] from fun j hj h => by
    have : ∀ d, upQ p (j + d) = [] := fun d => by
      induction d with
      | zero => exact h
      | succ d ih => rw [← Nat.add_assoc, upQ_next, ih, parentF_nil]
    have := this (L - j)
    rwa [show j + (L - j) = L by omega] at this)
  obtain ⟨V, hV⟩ : ∃ V, upQ p L = V := ⟨_, rfl⟩
  rw [hV]
  have HV := Lib.hid hV
  clear hV
  go_enter Tryz.func151, Tryz.ntmps151
  go_wp2
  go_loopw [0, 6] (fun pv i wr => ∃ j : Nat, j ≤ L ∧ pv = .string ⟨(upQ p j).toArray⟩ ∧ i = .int .i64 ((j : Int) + 1) ∧ X w wr) (fun _ i _ => L + 1 - (intOf i).toNat)
  case atStart => exact ⟨0, Nat.zero_le _, rfl, rfl, X.refl _⟩
  case round =>
    obtain ⟨j, hj, rfl, rfl, hX⟩ := hrel
    have hq := hu j
    have hq12 := pkgB_12 hq
    have Hn := Lib.hid (hnx.out j)
    have He := Lib.hid (hend.out j hj)
    by_cases hlt : j < L
    · obtain ⟨Q, hQ⟩ : ∃ Q, upQ p j = Q := ⟨_, rfl⟩
      rw [hQ] at hq hq12 Hn He ⊢
      clear hQ
      cases hQe : Q.isEmpty
      · have hQn : nameB Q = true := pkgB_name hq (by intro e; rw [e] at hQe; cases hQe)
        go_wp2_with fail
        refine (parent_s Q wr hQn).mono ?_
        rintro _ w9 ⟨rfl, hx9⟩
        go_wp2
        go_roundw
        case rel => exact ⟨j + 1, by omega, by rw [Hn.out], by go_num, hX.trans hx9⟩
        case measure => simp [intOf]; omega
      · obtain rfl : Q = [] := by cases Q with | nil => rfl | cons _ _ => cases hQe
        obtain rfl : V = [] := by rw [← HV.out]; exact He.out rfl
        go_wp2
        refine bodyPost_ret (v := .tuple #[.string ⟨#[]⟩, .bool false]) (by simp [results, Tryz.results151, go_sem]) rfl ?_
        exact ⟨rfl, hX⟩
    · obtain rfl : j = L := by omega
      rw [HV.out]
      clear Hn He
      cases hQe : V.isEmpty
      · go_wp2
        refine bodyPost_ret (v := .tuple #[.string ⟨(V).toArray⟩, .bool true]) (by simp [results, Tryz.results151, go_sem]) rfl ?_
        exact ⟨by rw [hQe]; rfl, hX⟩
      · obtain rfl : V = [] := by cases V with | nil => rfl | cons _ _ => cases hQe
        go_wp2
        refine bodyPost_ret (v := .tuple #[.string ⟨#[]⟩, .bool false]) (by simp [results, Tryz.results151, go_sem]) rfl ?_
        exact ⟨rfl, hX⟩

set_option maxRecDepth 100000 in
set_option maxHeartbeats 1000000 in
theorem resolve_s (p m : List UInt8) (level : Int) (w : World) (hp : pkgB p = true) (hm : m.length ≤ 12) (h0 : 0 ≤ level) (h3 : level ≤ 3) :
    Calls Tryz.prog 120 #[.string ⟨(p).toArray⟩, .int .i64 level, .string ⟨(m).toArray⟩] w fun e w' => e = .returned (.string ⟨(resolveL p level m).toArray⟩) ∧ X w w' := by
  by_cases hl0 : level = 0
  · subst hl0
    rw [show resolveL p 0 m = m by rw [resolveL, if_pos rfl]]
    go_enter Tryz.func120, Tryz.ntmps120
    go_wp2
    go_ret
    exact ⟨rfl, X.refl _⟩
  obtain ⟨L, rfl⟩ : ∃ L : Nat, level = (L : Int) + 1 := ⟨(level - 1).toNat, by omega⟩
  have h2 : ((L : Int) + 1).toNat - 1 = L := by omega
  obtain ⟨V, hV⟩ : ∃ V, resolveL p ((L : Int) + 1) m = V := ⟨_, rfl⟩
  rw [hV]
  rw [resolveL, if_neg hl0, h2] at hV
  have hq12 := pkgB_12 (upQ_pkg hp L)
  have Hb := fun W => Lib.hid (base_s p L W hp (by omega))
  obtain ⟨Q, hQ⟩ : ∃ Q, upQ p L = Q := ⟨_, rfl⟩
  rw [hQ] at hV hq12 Hb
  have HV := Lib.hid hV
  have hL0 : (((L : Int) + 1) == 0) = false := by simp; omega
  clear hQ hV h2
  cases hQe : Q.isEmpty
  · have hQ0 : ¬ Q = [] := by intro e; rw [e] at hQe; cases hQe
    cases hme : m.isEmpty
    · have hm0 : ¬ m = [] := by intro e; rw [e] at hme; cases hme
      obtain rfl : V = Q ++ 46 :: m := by rw [← HV.out, if_neg hQ0, if_neg hm0]
      clear hQ0 hm0
      go_enter Tryz.func120, Tryz.ntmps120
      go_wp2_with fail
      refine ((Hb w).out).mono ?_
      rw [hQe]
      rintro _ w1 ⟨rfl, hx1⟩
      go_wp2_with fail
      refine (child_c Q m w1 (by omega) (by omega)).mono ?_
      rw [show childL Q m = Q ++ 46 :: m by rw [childL, hQe]; rfl]
      rintro _ _ ⟨rfl, rfl⟩
      go_wp2
      go_ret
      exact ⟨rfl, hx1⟩
    · obtain rfl : m = [] := by cases m with | nil => rfl | cons _ _ => cases hme
      obtain rfl : V = Q := by rw [← HV.out, if_neg hQ0, if_pos rfl]
      clear hQ0
      go_enter Tryz.func120, Tryz.ntmps120
      go_wp2_with fail
      refine ((Hb w).out).mono ?_
      rw [hQe]
      rintro _ w1 ⟨rfl, hx1⟩
      go_wp2
      go_ret
      exact ⟨rfl, hx1⟩
  · obtain rfl : Q = [] := by cases Q with | nil => rfl | cons _ _ => cases hQe
    obtain rfl : V = [] := by rw [← HV.out, if_pos rfl]
    go_enter Tryz.func120, Tryz.ntmps120
    go_wp2_with fail
    refine ((Hb w).out).mono ?_
    rw [hQe]
    rintro _ w1 ⟨rfl, hx1⟩
    go_wp2
    go_ret
    exact ⟨rfl, hx1⟩

theorem any_name {R : Act → World → Prop} {a : Act} {w : World} (h : ∀ W, W = w → R a W) : R a w := h w rfl
def nmS (p : List UInt8) (t : St) : List UInt8 := if t.kind = 0 ∨ t.kind = 2 then t.mod else if t.kind = 1 then resolveL p t.level t.mod else []
theorem nmS_names {p : List UInt8} {t : St} (h : stB t = true) : stNames p t = if nameB (nmS p t) then [nmS p t] else [] := by
  unfold stNames nmS
  by_cases h1 : t.kind = 0 ∨ t.kind = 2
  · rw [if_pos h1, if_pos h1]
    unfold stB at h
    rw [if_pos h1] at h
    simp only [Bool.and_eq_true] at h
    rw [if_pos h.1.1.1]
  · rw [if_neg h1, if_neg h1]
    by_cases h2 : t.kind = 1
    · rw [if_pos h2, if_pos h2]
    · rw [if_neg h2, if_neg h2, nameB_nil]
      rfl
def addN (A : List (List UInt8)) (x : List UInt8) : List (List UInt8) := if nameB x && !hasS A x then A ++ [x] else A
theorem uniq_next {p : List UInt8} {b : List St} {k : Nat} (hk : k < b.length) (h : stB (nth b k) = true) : uniqL (bodyNames p (b.take (k + 1))) = addN (uniqL (bodyNames p (b.take k))) (nmS p (nth b k)) := by
  rw [bodyNames_next hk, nmS_names h]
  unfold addN
  cases hn : nameB (nmS p (nth b k))
  · rw [if_neg (by simp), List.append_nil]
    rfl
  · rw [if_pos rfl, uniqL_snoc, addU]
    cases hasS (uniqL (bodyNames p (b.take k))) (nmS p (nth b k)) <;> rfl
theorem upQ_len {p : List UInt8} (h : pkgB p = true) (k : Nat) : (upQ p k).length ≤ 12 := pkgB_12 (upQ_pkg h k)
theorem resolveL_len {p m : List UInt8} {level : Int} (h : pkgB p = true) (hm : m.length ≤ 12) : (resolveL p level m).length ≤ 25 := by
  have := upQ_len h (level.toNat - 1)
  unfold resolveL
  split
  · omega
  · split
    · simp
    · split
      · omega
      · simp; omega
theorem stB_mod {t : St} (h : stB t = true) (hk : t.kind = 0 ∨ t.kind = 1 ∨ t.kind = 2) : t.mod.length ≤ 12 := by
  unfold stB at h
  by_cases h1 : t.kind = 0 ∨ t.kind = 2
  · rw [if_pos h1] at h
    simp only [Bool.and_eq_true] at h
    exact nameB_len h.1.1.1
  · rw [if_neg h1, if_pos (by omega)] at h
    simp only [Bool.and_eq_true] at h
    exact pkgB_12 h.1.1.1.1
theorem nmS_len {p : List UInt8} {t : St} (h : stB t = true) (hp : pkgB p = true) : (nmS p t).length ≤ 25 := by
  unfold nmS
  split
  · have := stB_mod h (by omega); omega
  · split
    · exact resolveL_len hp (stB_mod h (by omega))
    · simp

set_option maxRecDepth 100000 in
set_option maxHeartbeats 4000000 in
theorem needs_s (l : List Fi) (a : Option Addr) (n c B : Nat) (path : List Int) (pa : Option Addr) (pn pc : Nat) (s : List UInt8) (o : Sp) (ra : Option Addr) (rn rc : Nat) (w : World) (hF : FilesAt w B a n l) (ho : specB l path s = o) (hsl : s.length ≤ 4194304) :
    Calls Tryz.prog 92 #[.agg #[.slice a n c], .slice pa pn pc, .string ⟨(s).toArray⟩, .agg #[.int .i64 o.kind, .int .i64 o.file, .slice ra rn rc]] w fun e w' => ∃ qa qc, e = .returned (.slice qa (needsL l path s).length qc) ∧ StrsAt w' w.heap.size qa (needsL l path s).length (needsL l path s) ∧ X w w' := by
  have Hl := Lib.hid hF.len.1
  obtain ⟨V, hV⟩ : ∃ V, needsL l path s = V := ⟨_, rfl⟩
  rw [hV]
  have HV := Lib.hid hV
  have hVs : ∀ x ∈ V, x.length ≤ 4194304 := fun x hx => by
    have := nameB_len (needs_name (x := x) (by rw [hV]; exact hx))
    omega
  clear hV
  have hfile := @needN_file l path s
  have hbody := @needN_body l path s
  have hname := @spec_name l path s
  rw [ho] at hfile hbody hname
  have Ho := Lib.hid ho
  clear ho
  by_cases hneg : o.file < 0
  · obtain rfl : V = [] := by rw [← HV.out, needsL, needN, Ho.out, if_pos hneg]; rfl
    go_enter Tryz.func92, Tryz.ntmps92
    go_wp2
    go_ret
    have hs0 : ∀ W B a, StrsAt W B a 0 [] := fun W B a => ⟨rfl, by omega, (fun _ h => by cases h), fun h => absurd h (by omega)⟩
    exact ⟨_, ⟨_, rfl⟩, hs0 _ _ _, by (repeat (first | with_reducible exact X.refl _ | with_reducible assumption | with_reducible refine X.setCell ?_ (by first | (simp; done) | (simp; omega)) _ | with_reducible refine X.ext ?_ _ | with_reducible refine X.alloc ?_ _ | with_reducible refine X.drew ?_))⟩
  obtain ⟨ht, hfl, hfe⟩ := hfile hneg
  have hbd := hbody hneg
  have hnm := hname hneg
  obtain ⟨fi, hfi⟩ : ∃ fi : Nat, o.file.toNat = fi := ⟨_, rfl⟩
  rw [hfi] at hfl hfe hbd
  have hv : uniqL (bodyNames (pkgOf o s) (nth l fi).body) = V := by rw [← HV.out, needsL, needN, Ho.out, if_neg hneg, hfi]
  have Hv := Lib.hid hv
  rw [← hfe]
  have hlt : fi < n := by rw [Hl.out]; exact hfl
  have hpk := pkgOf_pkg (o := o) hnm
  have hs12 := nameB_len hnm
  have hn2 := hF.len.2
  obtain ⟨b, off, ba, bn, bc, rfl, _, hb, hok, hbc, hSb, g0, g1, g2, g3, g4, g5⟩ := hF.at_ hlt
  generalize nth l fi = f at *
  clear hv hfe hfi hneg hfile hbody hname HV Ho hfl g0 g1 g2 g3 g4 hok
  have Hbn := Lib.hid hSb.1
  have hb8 := bodyB_len hbd
  rw [← hSb.1] at hb8
  have hpe : pkgOf o s = if o.kind = 1 then parentF s else s := rfl
  obtain ⟨p, hp⟩ : ∃ p, pkgOf o s = p := ⟨_, rfl⟩
  rw [hp] at hpk Hv hpe
  clear hp
  have Hpe := Lib.hid hpe
  clear hpe
  have hb1 : b < w.heap.size + 1 := by omega
  have hb2 : b < w.heap.size + 1 + 1 := by omega
  by_cases hk1 : o.kind = 1
  · obtain rfl : p = parentF s := by rw [Hpe.out, if_pos hk1]
    go_enter Tryz.func92, Tryz.ntmps92
    go_wp2_with fail
    refine calls_name (fun W hW => ?_)
    have hX0 : X w W := by rw [hW]; (repeat (first | with_reducible exact X.refl _ | with_reducible assumption | with_reducible refine X.setCell ?_ (by first | (simp; done) | (simp; omega)) _ | with_reducible refine X.ext ?_ _ | with_reducible refine X.alloc ?_ _ | with_reducible refine X.drew ?_))
    have hB4 : Bx W w.heap.size #[.slice (some ⟨b, off, none⟩) n c] := by rw [hW]; exact Bx.x (Bx.new _ _ _) (by (repeat (first | with_reducible exact X.refl _ | with_reducible assumption | with_reducible refine X.setCell ?_ (by first | (simp; done) | (simp; omega)) _ | with_reducible refine X.ext ?_ _ | with_reducible refine X.alloc ?_ _ | with_reducible refine X.drew ?_)))
    have hB7 : Bx W (w.heap.size + 1) #[.int .i64 o.kind, .int .i64 fi, .slice ra rn rc] := by rw [hW, hk1]; exact (bx2 rfl).2.1.x (by (repeat (first | with_reducible exact X.refl _ | with_reducible assumption | with_reducible refine X.setCell ?_ (by first | (simp; done) | (simp; omega)) _ | with_reducible refine X.ext ?_ _ | with_reducible refine X.alloc ?_ _ | with_reducible refine X.drew ?_)))
    have hrow0 : W.ownsRow (w.heap.size + 1 + 1) 9 1 (.slice (some ⟨w.heap.size + 1 + 1, 0, none⟩) 0 0) 0 [] := by rw [hW]; exact own_lit (n := 0) (size := 1) (by simp) (by simp) rfl (by omega)
    clear hW
    refine (parent_s s W hnm).mono ?_
    rintro _ w1 ⟨rfl, hx1⟩
    have hX1 := hX0.trans hx1
    have hrow1 := own_fr hrow0 (hx1.fr _)
    have lt4 := (hB4.x hx1).lt
    have t4 := bxC (hB4.x hx1)
    obtain ⟨lt7, q7, _⟩ := (hB7.x hx1).out
    have t7 : w1.cell? ⟨w.heap.size + 1, 1, none⟩ = some (.int .i64 fi) := q7 1
    have g5' := (hX1.cell (p := ⟨b, _, none⟩) hb).trans g5
    have hb' : b < w1.heap.size := Nat.lt_of_lt_of_le hb hX1.size
    obtain ⟨p, hp⟩ : ∃ p, parentF s = p := ⟨_, rfl⟩
    rw [hp] at hpk Hv ⊢
    clear q7 hB4 hB7 hX0 hx1 hrow0 hb1 hb2 Hpe hp g5
    go_wp2
    refine wp_name (fun W3 hW3 => ?_)
    have hX3 : X w W3 := by rw [hW3]; exact hX1
    have hrow3 := own_fr hrow1 (show Fr _ w1 W3 by rw [hW3]; exact Fr.refl _ _)
    clear hW3 t4 t7 lt4 lt7 g5' hb' hX1 hrow1 hk1
    go_loopw [9, 12] (fun v i wr => ∃ (k : Nat) (qa : Option Addr) (qc : Nat), k ≤ bn ∧ i = .int .i64 k ∧ v = .slice qa (uniqL (bodyNames p (f.body.take k))).length qc ∧ wr.ownsRow (w.heap.size + 1 + 1) 9 1 (.slice qa (uniqL (bodyNames p (f.body.take k))).length qc) (uniqL (bodyNames p (f.body.take k))).length (strs (uniqL (bodyNames p (f.body.take k)))) ∧ X w wr ∧ w.heap.size + 1 + 1 ≤ wr.heap.size) (fun _ i _ => bn - (intOf i).toNat)
    case atStart => exact ⟨0, _, _, Nat.zero_le _, rfl, rfl, hrow3, hX3, by have := (hrow3.lt (w.heap.size + 1 + 1) rfl).2; omega⟩
    case round =>
      obtain ⟨k, qa, qc, hk, rfl, rfl, hrow, hX, hsz⟩ := hrel
      clear hX3 hrow3
      by_cases hlt2 : k < bn
      · obtain ⟨b2, off2, rfl, _, hb2, hos, s0, s1, s2, s3, s4⟩ := (hSb.mono (hX.fr _)).at_ hlt2
        have hst := bodyB_st hbd (k := k) (by rw [← Hbn.out]; exact hlt2)
        have Htk := Lib.hid (@uniq_next p f.body k (by rw [← Hbn.out]; exact hlt2) hst)
        have hll : (uniqL (bodyNames p (f.body.take k))).length ≤ 8 := by
          have h1 := @bodyNames_len p (f.body.take k)
          have h2 := @uniqL_len (bodyNames p (f.body.take k))
          rw [List.length_take] at h1
          omega
        have hus : ∀ x ∈ uniqL (bodyNames p (f.body.take k)), x.length ≤ 4194304 := fun x hx => by
          have := bodyNames_short (bodyB_take hbd k) x (mem_uniqL.1 hx)
          omega
        obtain ⟨A, hA⟩ : ∃ A, uniqL (bodyNames p (f.body.take k)) = A := ⟨_, rfl⟩
        rw [hA] at hrow hll hus Htk ⊢
        clear hA
        have hnl := nmS_len hst hpk
        generalize nth f.body k = t at *
        obtain ⟨N, hN⟩ : ∃ N, nmS p t = N := ⟨_, rfl⟩
        rw [hN] at Htk hnl
        have hSA : StrsAt wr (w.heap.size + 1 + 1) qa A.length A := StrsAt.of_own hrow (by omega) hus
        by_cases c02 : t.kind = 0 ∨ t.kind = 2
        · have hmod := stB_mod hst (by omega)
          obtain rfl : t.mod = N := by rw [← hN, nmS, if_pos c02]
          clear hN
          rcases c02 with c0 | c0
          · go_wp2_with fail
            refine calls_name (fun W5 hW5 => ?_)
            have hX5 : X wr W5 := by rw [hW5]; (repeat (first | with_reducible exact X.refl _ | with_reducible assumption | with_reducible refine X.setCell ?_ (by first | (simp; done) | (simp; omega)) _ | with_reducible refine X.ext ?_ _ | with_reducible refine X.alloc ?_ _ | with_reducible refine X.drew ?_))
            clear hW5
            refine (validName_c (t.mod) W5 (by first | (simp; done) | omega)).mono ?_
            rintro _ w6 ⟨rfl, hx6⟩
            have hX6 := hX5.trans hx6
            have hrow6 := own_fr hrow (hX6.fr _)
            have hSA6 := hSA.mono (hX6.fr _)
            have hX06 := hX.trans hX6
            have hs6 := hX6.size
            clear hX5 hx6 hrow hSA hX6
            cases hnb : nameB (t.mod)
            · have he : addN A (t.mod) = A := by rw [addN, hnb]; rfl
              go_wp2
              go_roundw
              case rel => exact ⟨k + 1, qa, qc, by omega, by go_num, by rw [Htk.out, he], by rw [Htk.out, he]; exact hrow6, hX06, by omega⟩
              case measure => simp [intOf]; omega
            · go_wp2_with fail
              refine (hasTextS_c A qa _ qc _ (t.mod) w6 hSA6).mono ?_
              rintro _ w7 ⟨rfl, hx7⟩
              have hrow7 := own_fr hrow6 (hx7.fr _)
              have hX07 := hX06.trans hx7
              have hs7 := hx7.size
              clear hrow6 hSA6 hX06 hx7
              cases hh : hasS A (t.mod)
              · have he : addN A (t.mod) = A ++ [t.mod] := by rw [addN, hnb, hh]; rfl
                go_wp2_with (at_builtin; refine wpList_append_g str_T rfl _ _ rfl hrow7 rfl rfl rfl rfl (by simp [Value.oneCell']) (by omega) (by omega) (by omega) ?_; intro a' c' w8 hO8 hg8)
                go_roundw
                case rel =>
                  have hX8 : X w w8 := x_own (X.alloc hX07 _) (hrow7.alloc _) (by omega) hg8
                  have hs8 := hg8.size
                  exact ⟨k + 1, a', c', by omega, by go_num, by rw [Htk.out, he, List.length_append]; rfl, by
                    rw [Htk.out, he, List.length_append, strs_map, List.map_append]
                    rw [strs_map] at hO8
                    exact hO8, hX8, by simp at hs8; omega⟩
                case measure => simp [intOf]; omega
              · have he : addN A (t.mod) = A := by rw [addN, hnb, hh]; rfl
                go_wp2
                go_roundw
                case rel => exact ⟨k + 1, qa, qc, by omega, by go_num, by rw [Htk.out, he], by rw [Htk.out, he]; exact hrow7, hX07, by omega⟩
                case measure => simp [intOf]; omega
          · go_wp2_with fail
            refine calls_name (fun W5 hW5 => ?_)
            have hX5 : X wr W5 := by rw [hW5]; (repeat (first | with_reducible exact X.refl _ | with_reducible assumption | with_reducible refine X.setCell ?_ (by first | (simp; done) | (simp; omega)) _ | with_reducible refine X.ext ?_ _ | with_reducible refine X.alloc ?_ _ | with_reducible refine X.drew ?_))
            clear hW5
            refine (validName_c (t.mod) W5 (by first | (simp; done) | omega)).mono ?_
            rintro _ w6 ⟨rfl, hx6⟩
            have hX6 := hX5.trans hx6
            have hrow6 := own_fr hrow (hX6.fr _)
            have hSA6 := hSA.mono (hX6.fr _)
            have hX06 := hX.trans hX6
            have hs6 := hX6.size
            clear hX5 hx6 hrow hSA hX6
            cases hnb : nameB (t.mod)
            · have he : addN A (t.mod) = A := by rw [addN, hnb]; rfl
              go_wp2
              go_roundw
              case rel => exact ⟨k + 1, qa, qc, by omega, by go_num, by rw [Htk.out, he], by rw [Htk.out, he]; exact hrow6, hX06, by omega⟩
              case measure => simp [intOf]; omega
            · go_wp2_with fail
              refine (hasTextS_c A qa _ qc _ (t.mod) w6 hSA6).mono ?_
              rintro _ w7 ⟨rfl, hx7⟩
              have hrow7 := own_fr hrow6 (hx7.fr _)
              have hX07 := hX06.trans hx7
              have hs7 := hx7.size
              clear hrow6 hSA6 hX06 hx7
              cases hh : hasS A (t.mod)
              · have he : addN A (t.mod) = A ++ [t.mod] := by rw [addN, hnb, hh]; rfl
                go_wp2_with (at_builtin; refine wpList_append_g str_T rfl _ _ rfl hrow7 rfl rfl rfl rfl (by simp [Value.oneCell']) (by omega) (by omega) (by omega) ?_; intro a' c' w8 hO8 hg8)
                go_roundw
                case rel =>
                  have hX8 : X w w8 := x_own (X.alloc hX07 _) (hrow7.alloc _) (by omega) hg8
                  have hs8 := hg8.size
                  exact ⟨k + 1, a', c', by omega, by go_num, by rw [Htk.out, he, List.length_append]; rfl, by
                    rw [Htk.out, he, List.length_append, strs_map, List.map_append]
                    rw [strs_map] at hO8
                    exact hO8, hX8, by simp at hs8; omega⟩
                case measure => simp [intOf]; omega
              · have he : addN A (t.mod) = A := by rw [addN, hnb, hh]; rfl
                go_wp2
                go_roundw
                case rel => exact ⟨k + 1, qa, qc, by omega, by go_num, by rw [Htk.out, he], by rw [Htk.out, he]; exact hrow7, hX07, by omega⟩
                case measure => simp [intOf]; omega
        by_cases c1 : t.kind = 1
        · have hmod := stB_mod hst (by omega)
          have hr : nmS p t = resolveL p t.level t.mod := by rw [nmS, if_neg c02, if_pos c1]
          have hlv : 0 ≤ t.level ∧ t.level ≤ 3 := by
            unfold stB at hst
            rw [if_neg c02, if_pos c1] at hst
            simp only [Bool.and_eq_true] at hst
            exact rangeB_iff.1 hst.1.1.1.2
          have hres := fun W => resolve_s p t.mod t.level W hpk hmod hlv.1 hlv.2
          rw [← hr, hN] at hres
          clear hN hr
          go_wp2
          refine wp_region_grow0 (by kernel_rfl) (by kernel_rfl) ?_
          repeat (go_big_quiet_step (((go_at_call 120; refine grow_of (hres _)))))
          refine wpQuiet_nil ?_
          rintro _ ⟨y, rfl⟩
          refine any_name (fun W5 hW5 => ?_)
          have hX5 : X wr W5 := by rw [hW5]; (repeat (first | with_reducible exact X.refl _ | with_reducible assumption | with_reducible refine X.setCell ?_ (by first | (simp; done) | (simp; omega)) _ | with_reducible refine X.ext ?_ _ | with_reducible refine X.alloc ?_ _ | with_reducible refine X.drew ?_))
          clear hW5
          go_wp2_with fail
          refine (validName_c (N) W5 (by omega)).mono ?_
          rintro _ w6 ⟨rfl, hx6⟩
          have hX6 := hX5.trans hx6
          have hrow6 := own_fr hrow (hX6.fr _)
          have hSA6 := hSA.mono (hX6.fr _)
          have hX06 := hX.trans hX6
          have hs6 := hX6.size
          clear hX5 hx6 hrow hSA hX6
          cases hnb : nameB (N)
          · have he : addN A (N) = A := by rw [addN, hnb]; rfl
            go_wp2
            go_roundw
            case rel => exact ⟨k + 1, qa, qc, by omega, by go_num, by rw [Htk.out, he], by rw [Htk.out, he]; exact hrow6, hX06, by omega⟩
            case measure => simp [intOf]; omega
          · go_wp2_with fail
            refine (hasTextS_c A qa _ qc _ (N) w6 hSA6).mono ?_
            rintro _ w7 ⟨rfl, hx7⟩
            have hrow7 := own_fr hrow6 (hx7.fr _)
            have hX07 := hX06.trans hx7
            have hs7 := hx7.size
            clear hrow6 hSA6 hX06 hx7
            cases hh : hasS A (N)
            · have he : addN A (N) = A ++ [N] := by rw [addN, hnb, hh]; rfl
              go_wp2_with (at_builtin; refine wpList_append_g str_T rfl _ _ rfl hrow7 rfl rfl rfl rfl (by simp [Value.oneCell']) (by omega) (by omega) (by omega) ?_; intro a' c' w8 hO8 hg8)
              go_roundw
              case rel =>
                have hX8 : X w w8 := x_own (X.alloc hX07 _) (hrow7.alloc _) (by omega) hg8
                have hs8 := hg8.size
                exact ⟨k + 1, a', c', by omega, by go_num, by rw [Htk.out, he, List.length_append]; rfl, by
                  rw [Htk.out, he, List.length_append, strs_map, List.map_append]
                  rw [strs_map] at hO8
                  exact hO8, hX8, by simp at hs8; omega⟩
              case measure => simp [intOf]; omega
            · have he : addN A (N) = A := by rw [addN, hnb, hh]; rfl
              go_wp2
              go_roundw
              case rel => exact ⟨k + 1, qa, qc, by omega, by go_num, by rw [Htk.out, he], by rw [Htk.out, he]; exact hrow7, hX07, by omega⟩
              case measure => simp [intOf]; omega
        · obtain rfl : N = [] := by rw [← hN, nmS, if_neg c02, if_neg c1]
          clear hN
          go_wp2_with fail
          refine calls_name (fun W5 hW5 => ?_)
          have hX5 : X wr W5 := by rw [hW5]; (repeat (first | with_reducible exact X.refl _ | with_reducible assumption | with_reducible refine X.setCell ?_ (by first | (simp; done) | (simp; omega)) _ | with_reducible refine X.ext ?_ _ | with_reducible refine X.alloc ?_ _ | with_reducible refine X.drew ?_))
          clear hW5
          refine (validName_c (([] : List UInt8)) W5 (by first | (simp; done) | omega)).mono ?_
          rintro _ w6 ⟨rfl, hx6⟩
          have hX6 := hX5.trans hx6
          have hrow6 := own_fr hrow (hX6.fr _)
          have hSA6 := hSA.mono (hX6.fr _)
          have hX06 := hX.trans hX6
          have hs6 := hX6.size
          clear hX5 hx6 hrow hSA hX6
          cases hnb : nameB (([] : List UInt8))
          · have he : addN A (([] : List UInt8)) = A := by rw [addN, hnb]; rfl
            go_wp2
            go_roundw
            case rel => exact ⟨k + 1, qa, qc, by omega, by go_num, by rw [Htk.out, he], by rw [Htk.out, he]; exact hrow6, hX06, by omega⟩
            case measure => simp [intOf]; omega
          · go_wp2_with fail
            refine (hasTextS_c A qa _ qc _ (([] : List UInt8)) w6 hSA6).mono ?_
            rintro _ w7 ⟨rfl, hx7⟩
            have hrow7 := own_fr hrow6 (hx7.fr _)
            have hX07 := hX06.trans hx7
            have hs7 := hx7.size
            clear hrow6 hSA6 hX06 hx7
            cases hh : hasS A (([] : List UInt8))
            · have he : addN A (([] : List UInt8)) = A ++ [([] : List UInt8)] := by rw [addN, hnb, hh]; rfl
              go_wp2_with (at_builtin; refine wpList_append_g str_T rfl _ _ rfl hrow7 rfl rfl rfl rfl (by simp [Value.oneCell']) (by omega) (by omega) (by omega) ?_; intro a' c' w8 hO8 hg8)
              go_roundw
              case rel =>
                have hX8 : X w w8 := x_own (X.alloc hX07 _) (hrow7.alloc _) (by omega) hg8
                have hs8 := hg8.size
                exact ⟨k + 1, a', c', by omega, by go_num, by rw [Htk.out, he, List.length_append]; rfl, by
                  rw [Htk.out, he, List.length_append, strs_map, List.map_append]
                  rw [strs_map] at hO8
                  exact hO8, hX8, by simp at hs8; omega⟩
              case measure => simp [intOf]; omega
            · have he : addN A (([] : List UInt8)) = A := by rw [addN, hnb, hh]; rfl
              go_wp2
              go_roundw
              case rel => exact ⟨k + 1, qa, qc, by omega, by go_num, by rw [Htk.out, he], by rw [Htk.out, he]; exact hrow7, hX07, by omega⟩
              case measure => simp [intOf]; omega
      · obtain rfl : k = bn := by omega
        have hall : f.body.take k = f.body := List.take_of_length_le (by rw [← Hbn.out]; exact Nat.le_refl _)
        rw [hall, Hv.out] at hrow
        rw [hall, Hv.out]
        have hl8 : V.length ≤ 8 := by
          have h1 := @bodyNames_len p f.body
          have h2 := @uniqL_len (bodyNames p f.body)
          rw [Hv.out] at h2
          have := Hbn.out
          omega
        go_wp2
        go_ret
        exact ⟨qa, qc, rfl, (StrsAt.of_own hrow (by omega) hVs).less (by omega), hX⟩
  · obtain rfl : p = s := by rw [Hpe.out, if_neg hk1]
    have hk1b : (o.kind == 1) = false := beq_eq_false_iff_ne.2 hk1
    go_enter Tryz.func92, Tryz.ntmps92
    go_wp2
    refine wp_name (fun W3 hW3 => ?_)
    have hX3 : X w W3 := by rw [hW3]; (repeat (first | with_reducible exact X.refl _ | with_reducible assumption | with_reducible refine X.setCell ?_ (by first | (simp; done) | (simp; omega)) _ | with_reducible refine X.ext ?_ _ | with_reducible refine X.alloc ?_ _ | with_reducible refine X.drew ?_))
    have hrow3 : W3.ownsRow (w.heap.size + 1 + 1) 9 1 (.slice (some ⟨w.heap.size + 1 + 1, 0, none⟩) 0 0) 0 [] := by rw [hW3]; exact own_lit (n := 0) (size := 1) (by simp) (by simp) rfl (by omega)
    clear hW3 g5 hb1 hb2 Hpe
    go_loopw [9, 12] (fun v i wr => ∃ (k : Nat) (qa : Option Addr) (qc : Nat), k ≤ bn ∧ i = .int .i64 k ∧ v = .slice qa (uniqL (bodyNames p (f.body.take k))).length qc ∧ wr.ownsRow (w.heap.size + 1 + 1) 9 1 (.slice qa (uniqL (bodyNames p (f.body.take k))).length qc) (uniqL (bodyNames p (f.body.take k))).length (strs (uniqL (bodyNames p (f.body.take k)))) ∧ X w wr ∧ w.heap.size + 1 + 1 ≤ wr.heap.size) (fun _ i _ => bn - (intOf i).toNat)
    case atStart => exact ⟨0, _, _, Nat.zero_le _, rfl, rfl, hrow3, hX3, by have := (hrow3.lt (w.heap.size + 1 + 1) rfl).2; omega⟩
    case round =>
      obtain ⟨k, qa, qc, hk, rfl, rfl, hrow, hX, hsz⟩ := hrel
      clear hX3 hrow3
      by_cases hlt2 : k < bn
      · obtain ⟨b2, off2, rfl, _, hb2, hos, s0, s1, s2, s3, s4⟩ := (hSb.mono (hX.fr _)).at_ hlt2
        have hst := bodyB_st hbd (k := k) (by rw [← Hbn.out]; exact hlt2)
        have Htk := Lib.hid (@uniq_next p f.body k (by rw [← Hbn.out]; exact hlt2) hst)
        have hll : (uniqL (bodyNames p (f.body.take k))).length ≤ 8 := by
          have h1 := @bodyNames_len p (f.body.take k)
          have h2 := @uniqL_len (bodyNames p (f.body.take k))
          rw [List.length_take] at h1
          omega
        have hus : ∀ x ∈ uniqL (bodyNames p (f.body.take k)), x.length ≤ 4194304 := fun x hx => by
          have := bodyNames_short (bodyB_take hbd k) x (mem_uniqL.1 hx)
          omega
        obtain ⟨A, hA⟩ : ∃ A, uniqL (bodyNames p (f.body.take k)) = A := ⟨_, rfl⟩
        rw [hA] at hrow hll hus Htk ⊢
        clear hA
        have hnl := nmS_len hst hpk
        generalize nth f.body k = t at *
        obtain ⟨N, hN⟩ : ∃ N, nmS p t = N := ⟨_, rfl⟩
        rw [hN] at Htk hnl
        have hSA : StrsAt wr (w.heap.size + 1 + 1) qa A.length A := StrsAt.of_own hrow (by omega) hus
        by_cases c02 : t.kind = 0 ∨ t.kind = 2
        · have hmod := stB_mod hst (by omega)
          obtain rfl : t.mod = N := by rw [← hN, nmS, if_pos c02]
          clear hN
          rcases c02 with c0 | c0
          · go_wp2_with fail
            refine calls_name (fun W5 hW5 => ?_)
            have hX5 : X wr W5 := by rw [hW5]; (repeat (first | with_reducible exact X.refl _ | with_reducible assumption | with_reducible refine X.setCell ?_ (by first | (simp; done) | (simp; omega)) _ | with_reducible refine X.ext ?_ _ | with_reducible refine X.alloc ?_ _ | with_reducible refine X.drew ?_))
            clear hW5
            refine (validName_c (t.mod) W5 (by first | (simp; done) | omega)).mono ?_
            rintro _ w6 ⟨rfl, hx6⟩
            have hX6 := hX5.trans hx6
            have hrow6 := own_fr hrow (hX6.fr _)
            have hSA6 := hSA.mono (hX6.fr _)
            have hX06 := hX.trans hX6
            have hs6 := hX6.size
            clear hX5 hx6 hrow hSA hX6
            cases hnb : nameB (t.mod)
            · have he : addN A (t.mod) = A := by rw [addN, hnb]; rfl
              go_wp2
              go_roundw
              case rel => exact ⟨k + 1, qa, qc, by omega, by go_num, by rw [Htk.out, he], by rw [Htk.out, he]; exact hrow6, hX06, by omega⟩
              case measure => simp [intOf]; omega
            · go_wp2_with fail
              refine (hasTextS_c A qa _ qc _ (t.mod) w6 hSA6).mono ?_
              rintro _ w7 ⟨rfl, hx7⟩
              have hrow7 := own_fr hrow6 (hx7.fr _)
              have hX07 := hX06.trans hx7
              have hs7 := hx7.size
              clear hrow6 hSA6 hX06 hx7
              cases hh : hasS A (t.mod)
              · have he : addN A (t.mod) = A ++ [t.mod] := by rw [addN, hnb, hh]; rfl
                go_wp2_with (at_builtin; refine wpList_append_g str_T rfl _ _ rfl hrow7 rfl rfl rfl rfl (by simp [Value.oneCell']) (by omega) (by omega) (by omega) ?_; intro a' c' w8 hO8 hg8)
                go_roundw
                case rel =>
                  have hX8 : X w w8 := x_own (X.alloc hX07 _) (hrow7.alloc _) (by omega) hg8
                  have hs8 := hg8.size
                  exact ⟨k + 1, a', c', by omega, by go_num, by rw [Htk.out, he, List.length_append]; rfl, by
                    rw [Htk.out, he, List.length_append, strs_map, List.map_append]
                    rw [strs_map] at hO8
                    exact hO8, hX8, by simp at hs8; omega⟩
                case measure => simp [intOf]; omega
              · have he : addN A (t.mod) = A := by rw [addN, hnb, hh]; rfl
                go_wp2
                go_roundw
                case rel => exact ⟨k + 1, qa, qc, by omega, by go_num, by rw [Htk.out, he], by rw [Htk.out, he]; exact hrow7, hX07, by omega⟩
                case measure => simp [intOf]; omega
          · go_wp2_with fail
            refine calls_name (fun W5 hW5 => ?_)
            have hX5 : X wr W5 := by rw [hW5]; (repeat (first | with_reducible exact X.refl _ | with_reducible assumption | with_reducible refine X.setCell ?_ (by first | (simp; done) | (simp; omega)) _ | with_reducible refine X.ext ?_ _ | with_reducible refine X.alloc ?_ _ | with_reducible refine X.drew ?_))
            clear hW5
            refine (validName_c (t.mod) W5 (by first | (simp; done) | omega)).mono ?_
            rintro _ w6 ⟨rfl, hx6⟩
            have hX6 := hX5.trans hx6
            have hrow6 := own_fr hrow (hX6.fr _)
            have hSA6 := hSA.mono (hX6.fr _)
            have hX06 := hX.trans hX6
            have hs6 := hX6.size
            clear hX5 hx6 hrow hSA hX6
            cases hnb : nameB (t.mod)
            · have he : addN A (t.mod) = A := by rw [addN, hnb]; rfl
              go_wp2
              go_roundw
              case rel => exact ⟨k + 1, qa, qc, by omega, by go_num, by rw [Htk.out, he], by rw [Htk.out, he]; exact hrow6, hX06, by omega⟩
              case measure => simp [intOf]; omega
            · go_wp2_with fail
              refine (hasTextS_c A qa _ qc _ (t.mod) w6 hSA6).mono ?_
              rintro _ w7 ⟨rfl, hx7⟩
              have hrow7 := own_fr hrow6 (hx7.fr _)
              have hX07 := hX06.trans hx7
              have hs7 := hx7.size
              clear hrow6 hSA6 hX06 hx7
              cases hh : hasS A (t.mod)
              · have he : addN A (t.mod) = A ++ [t.mod] := by rw [addN, hnb, hh]; rfl
                go_wp2_with (at_builtin; refine wpList_append_g str_T rfl _ _ rfl hrow7 rfl rfl rfl rfl (by simp [Value.oneCell']) (by omega) (by omega) (by omega) ?_; intro a' c' w8 hO8 hg8)
                go_roundw
                case rel =>
                  have hX8 : X w w8 := x_own (X.alloc hX07 _) (hrow7.alloc _) (by omega) hg8
                  have hs8 := hg8.size
                  exact ⟨k + 1, a', c', by omega, by go_num, by rw [Htk.out, he, List.length_append]; rfl, by
                    rw [Htk.out, he, List.length_append, strs_map, List.map_append]
                    rw [strs_map] at hO8
                    exact hO8, hX8, by simp at hs8; omega⟩
                case measure => simp [intOf]; omega
              · have he : addN A (t.mod) = A := by rw [addN, hnb, hh]; rfl
                go_wp2
                go_roundw
                case rel => exact ⟨k + 1, qa, qc, by omega, by go_num, by rw [Htk.out, he], by rw [Htk.out, he]; exact hrow7, hX07, by omega⟩
                case measure => simp [intOf]; omega
        by_cases c1 : t.kind = 1
        · have hmod := stB_mod hst (by omega)
          have hr : nmS p t = resolveL p t.level t.mod := by rw [nmS, if_neg c02, if_pos c1]
          have hlv : 0 ≤ t.level ∧ t.level ≤ 3 := by
            unfold stB at hst
            rw [if_neg c02, if_pos c1] at hst
            simp only [Bool.and_eq_true] at hst
            exact rangeB_iff.1 hst.1.1.1.2
          have hres := fun W => resolve_s p t.mod t.level W hpk hmod hlv.1 hlv.2
          rw [← hr, hN] at hres
          clear hN hr
          go_wp2
          refine wp_region_grow0 (by kernel_rfl) (by kernel_rfl) ?_
          repeat (go_big_quiet_step (((go_at_call 120; refine grow_of (hres _)))))
          refine wpQuiet_nil ?_
          rintro _ ⟨y, rfl⟩
          refine any_name (fun W5 hW5 => ?_)
          have hX5 : X wr W5 := by rw [hW5]; (repeat (first | with_reducible exact X.refl _ | with_reducible assumption | with_reducible refine X.setCell ?_ (by first | (simp; done) | (simp; omega)) _ | with_reducible refine X.ext ?_ _ | with_reducible refine X.alloc ?_ _ | with_reducible refine X.drew ?_))
          clear hW5
          go_wp2_with fail
          refine (validName_c (N) W5 (by omega)).mono ?_
          rintro _ w6 ⟨rfl, hx6⟩
          have hX6 := hX5.trans hx6
          have hrow6 := own_fr hrow (hX6.fr _)
          have hSA6 := hSA.mono (hX6.fr _)
          have hX06 := hX.trans hX6
          have hs6 := hX6.size
          clear hX5 hx6 hrow hSA hX6
          cases hnb : nameB (N)
          · have he : addN A (N) = A := by rw [addN, hnb]; rfl
            go_wp2
            go_roundw
            case rel => exact ⟨k + 1, qa, qc, by omega, by go_num, by rw [Htk.out, he], by rw [Htk.out, he]; exact hrow6, hX06, by omega⟩
            case measure => simp [intOf]; omega
          · go_wp2_with fail
            refine (hasTextS_c A qa _ qc _ (N) w6 hSA6).mono ?_
            rintro _ w7 ⟨rfl, hx7⟩
            have hrow7 := own_fr hrow6 (hx7.fr _)
            have hX07 := hX06.trans hx7
            have hs7 := hx7.size
            clear hrow6 hSA6 hX06 hx7
            cases hh : hasS A (N)
            · have he : addN A (N) = A ++ [N] := by rw [addN, hnb, hh]; rfl
              go_wp2_with (at_builtin; refine wpList_append_g str_T rfl _ _ rfl hrow7 rfl rfl rfl rfl (by simp [Value.oneCell']) (by omega) (by omega) (by omega) ?_; intro a' c' w8 hO8 hg8)
              go_roundw
              case rel =>
                have hX8 : X w w8 := x_own (X.alloc hX07 _) (hrow7.alloc _) (by omega) hg8
                have hs8 := hg8.size
                exact ⟨k + 1, a', c', by omega, by go_num, by rw [Htk.out, he, List.length_append]; rfl, by
                  rw [Htk.out, he, List.length_append, strs_map, List.map_append]
                  rw [strs_map] at hO8
                  exact hO8, hX8, by simp at hs8; omega⟩
              case measure => simp [intOf]; omega
            · have he : addN A (N) = A := by rw [addN, hnb, hh]; rfl
              go_wp2
              go_roundw
              case rel => exact ⟨k + 1, qa, qc, by omega, by go_num, by rw [Htk.out, he], by rw [Htk.out, he]; exact hrow7, hX07, by omega⟩
              case measure => simp [intOf]; omega
        · obtain rfl : N = [] := by rw [← hN, nmS, if_neg c02, if_neg c1]
          clear hN
          go_wp2_with fail
          refine calls_name (fun W5 hW5 => ?_)
          have hX5 : X wr W5 := by rw [hW5]; (repeat (first | with_reducible exact X.refl _ | with_reducible assumption | with_reducible refine X.setCell ?_ (by first | (simp; done) | (simp; omega)) _ | with_reducible refine X.ext ?_ _ | with_reducible refine X.alloc ?_ _ | with_reducible refine X.drew ?_))
          clear hW5
          refine (validName_c (([] : List UInt8)) W5 (by first | (simp; done) | omega)).mono ?_
          rintro _ w6 ⟨rfl, hx6⟩
          have hX6 := hX5.trans hx6
          have hrow6 := own_fr hrow (hX6.fr _)
          have hSA6 := hSA.mono (hX6.fr _)
          have hX06 := hX.trans hX6
          have hs6 := hX6.size
          clear hX5 hx6 hrow hSA hX6
          cases hnb : nameB (([] : List UInt8))
          · have he : addN A (([] : List UInt8)) = A := by rw [addN, hnb]; rfl
            go_wp2
            go_roundw
            case rel => exact ⟨k + 1, qa, qc, by omega, by go_num, by rw [Htk.out, he], by rw [Htk.out, he]; exact hrow6, hX06, by omega⟩
            case measure => simp [intOf]; omega
          · go_wp2_with fail
            refine (hasTextS_c A qa _ qc _ (([] : List UInt8)) w6 hSA6).mono ?_
            rintro _ w7 ⟨rfl, hx7⟩
            have hrow7 := own_fr hrow6 (hx7.fr _)
            have hX07 := hX06.trans hx7
            have hs7 := hx7.size
            clear hrow6 hSA6 hX06 hx7
            cases hh : hasS A (([] : List UInt8))
            · have he : addN A (([] : List UInt8)) = A ++ [([] : List UInt8)] := by rw [addN, hnb, hh]; rfl
              go_wp2_with (at_builtin; refine wpList_append_g str_T rfl _ _ rfl hrow7 rfl rfl rfl rfl (by simp [Value.oneCell']) (by omega) (by omega) (by omega) ?_; intro a' c' w8 hO8 hg8)
              go_roundw
              case rel =>
                have hX8 : X w w8 := x_own (X.alloc hX07 _) (hrow7.alloc _) (by omega) hg8
                have hs8 := hg8.size
                exact ⟨k + 1, a', c', by omega, by go_num, by rw [Htk.out, he, List.length_append]; rfl, by
                  rw [Htk.out, he, List.length_append, strs_map, List.map_append]
                  rw [strs_map] at hO8
                  exact hO8, hX8, by simp at hs8; omega⟩
              case measure => simp [intOf]; omega
            · have he : addN A (([] : List UInt8)) = A := by rw [addN, hnb, hh]; rfl
              go_wp2
              go_roundw
              case rel => exact ⟨k + 1, qa, qc, by omega, by go_num, by rw [Htk.out, he], by rw [Htk.out, he]; exact hrow7, hX07, by omega⟩
              case measure => simp [intOf]; omega
      · obtain rfl : k = bn := by omega
        have hall : f.body.take k = f.body := List.take_of_length_le (by rw [← Hbn.out]; exact Nat.le_refl _)
        rw [hall, Hv.out] at hrow
        rw [hall, Hv.out]
        have hl8 : V.length ≤ 8 := by
          have h1 := @bodyNames_len p f.body
          have h2 := @uniqL_len (bodyNames p f.body)
          rw [Hv.out] at h2
          have := Hbn.out
          omega
        go_wp2
        go_ret
        exact ⟨qa, qc, rfl, (StrsAt.of_own hrow (by omega) hVs).less (by omega), hX⟩

end Go.Proofs.YtlpbgingggnjpaaGreatDoor
