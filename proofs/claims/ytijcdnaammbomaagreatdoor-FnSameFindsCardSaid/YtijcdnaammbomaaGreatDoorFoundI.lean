/- The names that are found, the program's: the walks. No condition but lengths. -/
import Derived.Test.YtijcdnaammbomaaGreatDoorFoundW
import Derived.Deep.RegionHeldLaw
namespace Go.Proofs.YtijcdnaammbomaaGreatDoor
open Go.RowKit

theorem run_append_zero_k {P : Program} {w : World} (base : Nat) (t ty e : TypeId) (i : TypeInfo) (size : Nat) (ht : P.underlying t = some (.slice e)) (hi : P.info? e = some i)
    (v : Value) (n c : Nat) (sa : Option Addr) (xs : List Value) (hown : w.ownsRow base e size v n xs) :
    (Builtin.append_ #[t, t] ty #[v, .slice sa 0 c]).run P w = .ok v w := by
  rcases hown.2 with ⟨rfl, rfl⟩ | ⟨g, cap, cur, rfl, _, _, hnc, _⟩
  · cases sa <;> simp [Builtin.append_, run_underlying ht, sizeOf, typeInfo, hi, Builtin.lenOf, Builtin.firstCells, loadCells, loadCellsFrom]
  · cases sa <;> simp [Builtin.append_, run_underlying ht, sizeOf, typeInfo, hi, Builtin.lenOf, Builtin.firstCells, hnc, storeCells, loadCells, loadCellsFrom]
/-- append of a whole slice, wherever it lies, as one step of a region that draws its order. -/
theorem step_append_slK {P : Program} {ops : Array Oper} {o : Oper} {a : Act} {K : Act → World → Prop} {Q : Exit → Act → World → Prop} {E : Prop} {t e size bytes : Nat} (hT : AppT P t e size bytes) (hgd : o.guard = none) (s x : Operand)
    (ho : o.op = .call { callee := .builtin .append, args := #[s, x], argTypes := #[t, t] }) {w : World} {B B' : Nat} {v : Value} {n : Nat} {xs : List Value}
    (hown : w.ownsRow B e size v n xs) (hs : a.eval s = v) {sa : Option Addr} {m c : Nat} {news : List Value} (hx : a.eval x = .slice sa m c) (hsl : Sl w B' sa m news) (hl : news.length = m * size) (h1 : ∀ u ∈ news, u.oneCell' = true)
    (hb : (n + m) * bytes ≤ 140737488355328) (hn : n + m ≤ maxLen) (hBw : B ≤ w.heap.size)
    (h : ∀ a' c' w', w'.ownsRow B e size (.slice a' (n + m) c') (n + m) (xs ++ news) → w.grownBy w' v.ownBlock → (∀ g, v.ownBlock = some g → B ≤ g) → K (a.put o.dst (.slice a' (n + m) c')) w') :
    if Region.wanted o (yielded ops a.tmps) = true then Oper.wp P o a w K Q else E := by
  obtain ⟨i, z, hi, hz, hsize, hby, hzs⟩ := hT.hi
  rcases Nat.eq_zero_or_pos m with h0 | h0
  · subst h0
    have hnil : news = [] := by rw [Nat.zero_mul] at hl; exact List.length_eq_zero_iff.1 hl
    subst hnil
    obtain ⟨a', c', rfl⟩ := own_slice hown
    have hrun := run_append_zero_k (P := P) (w := w) B t o.type e i size hT.ht hi _ n c sa xs hown
    have hw : Region.wanted o (yielded ops a.tmps) = true := by simp [Region.wanted, hgd]
    rw [if_pos hw]
    unfold Oper.wp
    simp [execOp, ho, resolve, invoke, builtin, hs, hx, hrun, Result.andThen]
    exact h a' c' w (by simpa using hown) (World.grownBy.refl _ _) (fun g hg => (hown.lt g hg).1)
  · obtain ⟨b, off, rfl, _, hbl, hc⟩ := hsl h0
    refine step_append_lies w hgd s x t ho B e i z size bytes hT.ht hi hz hsize hby hzs hT.hsz v n xs hs hown ⟨b, off, none⟩ m c news hx hl (fun j u hu => ?_) h1 h0 hn hb hBw _ rfl (fun g cap w' h2 h3 _ _ => h _ _ w' h2 h3 (fun g hg => (hown.lt g hg).1))
    have hj : j < news.length := (List.getElem?_eq_some_iff.1 hu).1
    have hadd : (⟨b, off, none⟩ : Addr).add j = ⟨b, off + j, none⟩ := by unfold Addr.add; split <;> simp_all
    rw [hadd, hc j hj, ← hu, List.getElem?_eq_getElem hj]


theorem found_i {l : List Fi} {path : List Int} : ((namesI l).filter fun n => canB l path n) = foundL l path := by
  unfold foundL
  split
  · rename_i h
    rw [Bool.and_eq_true] at h
    rw [names_same h.1]
  · rename_i h
    cases h1 : treeB l
    · have : namesI l = [] := by rw [namesI, modsL, packsL, h1]; exact sortU_nil
      rw [this]
      rfl
    · cases h2 : pathB path
      · rw [List.filter_eq_nil_iff]
        intro x _
        rw [canB, specB, h1, h2]
        simp [noneSp]
      · rw [h1, h2] at h
        exact absurd rfl h
theorem namesI_len {l : List Fi} : (namesI l).length ≤ 48 := by
  have h1 := @modsL_len l
  have h2 := @packsL_len l
  have h3 := sortU_len (modsL l ++ packsL l)
  rw [List.length_append] at h3
  unfold namesI
  omega
theorem namesI_short {l : List Fi} : ∀ x ∈ namesI l, x.length ≤ 12 := by
  intro x hx
  unfold namesI at hx
  rw [(sortU_facts _).2, List.mem_append] at hx
  rcases hx with hx | hx
  · exact modsL_short x hx
  · exact packsL_short x hx

set_option maxRecDepth 100000 in
set_option maxHeartbeats 1000000 in
theorem allNames_i (l : List Fi) (a : Option Addr) (n c B : Nat) (w : World) (hF : FilesAt w B a n l) (hnc : n ≤ c) (hG : Gm w) :
    Calls Tryz.prog 35 #[.agg #[.slice a n c]] w fun e w' => ∃ ra rc, e = .returned (.slice ra (namesI l).length rc) ∧ w'.ownsRow w.heap.size 9 1 (.slice ra (namesI l).length rc) (namesI l).length (strs (namesI l)) ∧ X w w' := by
  have hm12 := @modsL_len l
  have hp36 := @packsL_len l
  obtain ⟨V, hV⟩ : ∃ V, namesI l = V := ⟨_, rfl⟩
  rw [hV]
  rw [namesI] at hV
  obtain ⟨M, hM⟩ : ∃ M, modsL l = M := ⟨_, rfl⟩
  obtain ⟨Q, hQ⟩ : ∃ Q, packsL l = Q := ⟨_, rfl⟩
  rw [hM, hQ] at hV
  rw [hM] at hm12
  rw [hQ] at hp36
  have HV := Lib.hid hV
  have HM := Lib.hid hM
  have HQ := Lib.hid hQ
  clear hV hM hQ
  have hUl : (strs Q).length = Q.length * 1 := by rw [strs_len, Nat.mul_one]
  have hU1 := strs_one Q
  have hB := Bx.new w #[.slice a n c] 25
  have t0 := bxC hB
  have lt0 := hB.lt
  go_enter Tryz.func35, Tryz.ntmps35
  go_wp2
  go_region_law (first
    | (refine step_append_slK str_T rfl _ _ rfl hrow2 rfl rfl (Sl.of_own hO2) hUl hU1 (by omega) (by unfold maxLen; omega) (by omega) ?_; intro a' c' w3 hO3 hg3 _; have hX3 := x_own hX2 hrow2 (Nat.le_refl _) hg3; have hO4 : w3.ownsRow w.heap.size 9 1 (.slice a' (M.length + Q.length) c') (M.length + Q.length) (strs (M ++ Q)) := (by rw [strs_map, List.map_append, ← strs_map, ← strs_map]; exact hO3))
    | (go_simp; go_at_call 13; refine (ModulesOf_i l a n c _ _ (hF.mono (X.fr (by (repeat (first | exact X.refl _ | assumption | refine X.ext ?_ _ | refine X.alloc ?_ _ | refine X.drew ?_))) _)) hnc (hG.mono (by (repeat (first | exact X.refl _ | assumption | refine X.ext ?_ _ | refine X.alloc ?_ _ | refine X.drew ?_))))).mono ?_; rw [HM.out]; rintro _ w1 ⟨ma, mc, rfl, hO1, hx1⟩; have hX1 : X w w1 := X.trans (by (repeat (first | exact X.refl _ | assumption | refine X.ext ?_ _ | refine X.alloc ?_ _ | refine X.drew ?_))) hx1; have t1 := bxC (hB.x hx1); have lt1 := (hB.x hx1).lt; have hs1 := hX1.size; have hO1' := own_less hO1 (show w.heap.size ≤ _ by first | omega | (simp; done) | (simp; omega)))
    | (go_simp; go_at_call 14; refine (PackagesOf_i l a n c _ w1 (hF.mono (hX1.fr _)) hnc (hG.mono hX1)).mono ?_; rw [HQ.out]; rintro _ w2 ⟨qa, qc, rfl, hO2, hx2⟩; have hrow2 := own_fr hO1' (X.fr hx2 _); have hX2 := hX1.trans hx2; have hs2 := hX2.size)
    | (go_simp; go_at_call 45; refine (sorted_c (M ++ Q) _ _ _ _ w3 hO4 (by omega)).mono ?_; rw [HV.out]; rintro _ w4 ⟨ra, rc, rfl, hO5, hg4⟩))
  all_goals
    go_wp2
    go_ret
    exact ⟨ra, rc, rfl, own_less hO5 hX3.size, x_own hX3 hO4 (Nat.le_refl _) hg4⟩

set_option maxRecDepth 100000 in
set_option maxHeartbeats 2000000 in
theorem FoundNames_i (l : List Fi) (a : Option Addr) (n c B : Nat) (path : List Int) (pa : Option Addr) (pn pc Bp : Nat) (w : World) (hF : FilesAt w B a n l) (hnc : n ≤ c) (hI : IntsAt w Bp pa pn path) (hpc : pn ≤ pc) (hG : Gm w) :
    Calls Tryz.prog 8 #[.agg #[.slice a n c], .slice pa pn pc] w fun e w' => ∃ g rc, e = .returned (.slice (some ⟨g, 0, none⟩) (foundL l path).length rc) ∧ w'.ownsRow w.heap.size 9 1 (.slice (some ⟨g, 0, none⟩) (foundL l path).length rc) (foundL l path).length (strs (foundL l path)) ∧ X w w' := by
  obtain ⟨V, hV⟩ : ∃ V, foundL l path = V := ⟨_, rfl⟩
  rw [hV]
  rw [← found_i] at hV
  have hm48 := @namesI_len l
  have hshN := @namesI_short l
  obtain ⟨N, hN⟩ : ∃ N, namesI l = N := ⟨_, rfl⟩
  rw [hN] at hV hm48 hshN
  have HV := Lib.hid hV
  have HN := Lib.hid hN
  clear hV hN
  obtain ⟨m, hm⟩ : ∃ m, N.length = m := ⟨_, rfl⟩
  rw [hm] at hm48
  have Hm := Lib.hid hm
  clear hm
  go_enter Tryz.func8, Tryz.ntmps8
  go_wp2_with fail
  refine calls_name (fun W hW => ?_)
  have hX0 : X w W := by rw [hW]; (repeat (first | with_reducible exact X.refl _ | with_reducible assumption | with_reducible refine X.setCell ?_ (by first | (simp; done) | (simp; omega)) _ | with_reducible refine X.ext ?_ _ | with_reducible refine X.alloc ?_ _ | with_reducible refine X.drew ?_))
  have hB0 : Bx W w.heap.size #[.slice a n c] := by rw [hW]; exact Bx.x (Bx.new _ _ _) (by (repeat (first | with_reducible exact X.refl _ | with_reducible assumption | with_reducible refine X.setCell ?_ (by first | (simp; done) | (simp; omega)) _ | with_reducible refine X.ext ?_ _ | with_reducible refine X.alloc ?_ _ | with_reducible refine X.drew ?_)))
  have hrow0 : W.ownsRow (w.heap.size + 1) 9 1 (.slice (some ⟨w.heap.size + 1, 0, none⟩) 0 0) 0 [] := by rw [hW]; exact own_lit (n := 0) (size := 1) (by simp) (by simp) rfl (by omega)
  have hl0 : w.heap.size + 1 < W.heap.size := (hrow0.lt (w.heap.size + 1) rfl).2
  clear hW
  refine (allNames_i l a n c _ W (hF.mono (hX0.fr _)) hnc (hG.mono hX0)).mono ?_
  rw [HN.out, Hm.out]
  rintro _ w4 ⟨na, nc, rfl, hO4, hx4⟩
  have hS4 : StrsAt w4 W.heap.size na m N := ⟨Hm.out.symm, by omega, fun x hx => by have := hshN x hx; omega, Sl.of_own hO4⟩
  have hrow4 := own_fr hrow0 (hx4.fr _)
  have hX4 := hX0.trans hx4
  have hB4 := hB0.x hx4
  have hs4 := hx4.size
  clear hO4 hrow0 hX0 hx4 hB0
  go_wp2
  go_loopw [5, 12] (fun v i wr => ∃ (k g rc : Nat), k ≤ m ∧ i = .int .i64 k ∧ v = .slice (some ⟨g, 0, none⟩) ((N.take k).filter fun n => canB l path n).length rc ∧ wr.ownsRow (w.heap.size + 1) 9 1 (.slice (some ⟨g, 0, none⟩) ((N.take k).filter fun n => canB l path n).length rc) ((N.take k).filter fun n => canB l path n).length (strs ((N.take k).filter fun n => canB l path n)) ∧ X w wr ∧ Bx wr w.heap.size #[.slice a n c] ∧ Fr W.heap.size w4 wr ∧ (g < W.heap.size ∨ w4.heap.size ≤ g)) (fun _ i _ => m - (intOf i).toNat)
  case atStart => exact ⟨0, w.heap.size + 1, 0, Nat.zero_le _, rfl, rfl, hrow4, hX4, hB4, Fr.refl _ _, .inl hl0⟩
  case round =>
    obtain ⟨k, g, rc, hk, rfl, rfl, hrow, hX, hBr, hFr, hgat⟩ := hrel
    clear hrow4 hX4 hB4
    by_cases hlt : k < m
    · obtain ⟨b, off, rfl, _, hb, hc, hcl⟩ := (hS4.mono hFr).at_ hlt
      have Htk := Lib.hid (@filt_next N (fun n => canB l path n) k (by rw [Hm.out]; exact hlt))
      have hll : ((N.take k).filter fun n => canB l path n).length ≤ 48 := by
        have := @filt_len N (fun n => canB l path n) k
        rw [Hm.out] at this
        omega
      obtain ⟨A, hA⟩ : ∃ A, ((N.take k).filter fun n => canB l path n) = A := ⟨_, rfl⟩
      rw [hA] at hrow hll Htk ⊢
      clear hA
      generalize nth N k = x at *
      have hgl := hrow.lt g rfl
      have t0 := bxC hBr
      have lt0 := hBr.lt
      go_wp2_with fail
      refine (CanFind_i l a n c _ path pa pn pc _ x wr (hF.mono (hX.fr _)) hnc (hI.mono (hX.fr _)) hpc hcl (hG.mono hX)).mono ?_
      rintro _ w5 ⟨rfl, hx5⟩
      have hrow5 := own_fr hrow (hx5.fr _)
      have hX5 := hX.trans hx5
      have hFr5 := hFr.trans (hx5.fr _)
      have hB5 := hBr.x hx5
      have hs5 := hx5.size
      have hsf := hFr5.size
      clear hrow hX hFr hx5 hc hb t0 lt0 hBr
      cases hcan : canB l path x
      · have he : (if canB l path x then [x] else []) = [] := by rw [hcan]; rfl
        go_wp2
        go_roundw
        case rel => exact ⟨k + 1, g, rc, by omega, by go_num, by rw [Htk.out, he, List.append_nil], by rw [Htk.out, he, List.append_nil]; exact hrow5, hX5, hB5, hFr5, hgat⟩
        case measure => simp [intOf]; omega
      · have he : (if canB l path x then [x] else []) = [x] := by rw [hcan]; rfl
        go_wp2_with (at_builtin; refine wpList_append_gat str_T rfl _ _ rfl hrow5 rfl rfl rfl rfl (by simp [Value.oneCell']) (by omega) (by omega) (by omega) ?_; intro g7 c7 w7 hO7 hg7 hat7)
        go_roundw
        case rel =>
          have hs7 := hg7.size
          rw [World.size_alloc] at hs7
          exact ⟨k + 1, g7, c7, by omega, by go_num, by rw [Htk.out, he, List.length_append]; rfl, by
            rw [Htk.out, he, List.length_append, strs_map, List.map_append]
            rw [strs_map] at hO7
            exact hO7, x_own (v := .slice (some ⟨g, 0, none⟩) A.length rc) (X.alloc hX5 _) (hrow5.alloc _) (by omega) hg7, (hB5.x (X.alloc (X.refl _) _)).grown hg7 (fun q e => by injection e with e; omega), fr_grown (hFr5.trans (X.fr (X.alloc (X.refl _) _) _)) hg7 hgat, by
            rcases hat7 with rfl | h
            · exact hgat
            · exact .inr (by omega)⟩
        case measure => simp [intOf]; omega
    · obtain rfl : k = m := by omega
      have hall : N.take k = N := List.take_of_length_le (by rw [Hm.out]; exact Nat.le_refl _)
      rw [hall, HV.out] at hrow
      rw [hall, HV.out]
      go_wp2
      go_ret
      exact ⟨_, _, rfl, own_less hrow (by omega), hX⟩

end Go.Proofs.YtijcdnaammbomaaGreatDoor
