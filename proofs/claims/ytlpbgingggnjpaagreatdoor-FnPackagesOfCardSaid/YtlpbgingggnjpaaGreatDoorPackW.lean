/- PackagesOf: the walks. No condition but lengths. -/
import Derived.Test.YtlpbgingggnjpaaGreatDoorModsW
import Derived.Test.YtlpbgingggnjpaaGreatDoorAboveP
namespace Go.Proofs.YtlpbgingggnjpaaGreatDoor
open Go.RowKit

theorem packsN_next {l : List Fi} {k : Nat} (hk : k < l.length) : packsN (l.take (k + 1)) = packsN (l.take k) ++ aboveP (nth l k).pkg := by
  unfold packsN
  rw [take_succ_nth hk, List.flatMap_append]
  simp
theorem packsN_len {l : List Fi} : (packsN l).length ≤ 3 * l.length := by
  induction l with
  | nil => simp [packsN]
  | cons f l ih =>
    have := aboveP_len f.pkg
    unfold packsN at ih ⊢
    rw [List.flatMap_cons, List.length_append, List.length_cons]
    omega
theorem packsN_short {l : List Fi} : ∀ x ∈ packsN l, x.length ≤ 12 := by
  intro x hx
  obtain ⟨f, _, hx⟩ := List.mem_flatMap.1 hx
  exact aboveP_short x hx
theorem packsL_len {l : List Fi} : (packsL l).length ≤ 36 := by
  unfold packsL
  split
  · rename_i h
    have h1 := sortU_len (packsN l)
    have h2 := treeB_12 h
    have h3 := @packsN_len l
    omega
  · simp
theorem packsL_short {l : List Fi} : ∀ x ∈ packsL l, x.length ≤ 12 := by
  intro x hx
  unfold packsL at hx
  split at hx
  · exact packsN_short x ((sortU_facts _).2 x |>.1 hx)
  · simp at hx
theorem pkg_12 {f : Fi} (h : fileB f = true) : f.pkg.length ≤ 12 := by
  have h1 := fileB_pkgB h
  cases h2 : f.pkg with
  | nil => simp
  | cons x y => rw [← h2]; exact nameB_len (pkgB_name h1 (by rw [h2]; simp))

set_option maxRecDepth 100000 in
set_option maxHeartbeats 1000000 in
theorem PackagesOf_i (l : List Fi) (a : Option Addr) (n c B : Nat) (w : World) (hF : FilesAt w B a n l) (hnc : n ≤ c) (hG : Gm w) :
    Calls Tryz.prog 9 #[.agg #[.slice a n c]] w fun e w' => ∃ ra rc, e = .returned (.slice ra (packsL l).length rc) ∧ w'.ownsRow w.heap.size 9 1 (.slice ra (packsL l).length rc) (packsL l).length (strs (packsL l)) ∧ X w w' := by
  obtain ⟨hl, _⟩ := hF.len
  have Hl := Lib.hid hl
  clear hl
  obtain ⟨V, hV⟩ : ∃ V, packsL l = V := ⟨_, rfl⟩
  rw [hV]
  have HV := Lib.hid hV
  clear hV
  go_enter Tryz.func9, Tryz.ntmps9
  go_wp2_with fail
  refine calls_name (fun W hW => ?_)
  have hB0 : Bx W w.heap.size #[.slice a n c] := by rw [hW]; exact Bx.x (Bx.new _ _ _) (by (repeat (first | with_reducible exact X.refl _ | with_reducible assumption | with_reducible refine X.setCell ?_ (by first | (simp; done) | (simp; omega)) _ | with_reducible refine X.ext ?_ _ | with_reducible refine X.alloc ?_ _ | with_reducible refine X.drew ?_)))
  have hX0 : X w W := by rw [hW]; (repeat (first | with_reducible exact X.refl _ | with_reducible assumption | with_reducible refine X.setCell ?_ (by first | (simp; done) | (simp; omega)) _ | with_reducible refine X.ext ?_ _ | with_reducible refine X.alloc ?_ _ | with_reducible refine X.drew ?_))
  have hrow0 : W.ownsRow (w.heap.size + 1) 9 1 (.slice (some ⟨w.heap.size + 1, 0, none⟩) 0 0) 0 [] := by rw [hW]; exact own_lit (n := 0) (size := 1) (by simp) (by simp) rfl (by omega)
  clear hW
  have t0 := bxC hB0
  have lt0 := hB0.lt
  refine (ValidTree_c l a n c _ W (hF.mono (hX0.fr _)) hnc (hG.mono hX0)).mono ?_
  rintro _ w1 ⟨rfl, hx1⟩
  have hB1 := hB0.x hx1
  replace hrow0 := own_fr hrow0 (hx1.fr _)
  have hX1 := hX0.trans hx1
  clear hx1 hB0 t0 lt0 hX0
  have t0 := bxC hB1
  have lt0 := hB1.lt
  cases ht : treeB l
  · have hv : packsL l = [] := by rw [packsL, ht]; rfl
    rw [HV.out] at hv
    subst hv
    go_wp2_with fail
    refine (sorted_c [] _ _ _ _ w1 hrow0 (by omega)).mono ?_
    rw [sortU_nil]
    rintro _ w2 ⟨ra, rc, rfl, hO2, hg2⟩
    go_wp2
    go_ret
    exact ⟨ra, rc, rfl, own_less hO2 hX1.size, x_own hX1 hrow0 (by omega) hg2⟩
  have hn12 : n ≤ 12 := by rw [Hl.out]; exact treeB_12 ht
  have hnc' := hnc
  go_wp2
  go_loopw [3, 12] (fun v i wr => ∃ (k : Nat) (ra : Option Addr) (rc : Nat), k ≤ n ∧ i = .int .i64 k ∧ v = .slice ra (packsN (l.take k)).length rc ∧ wr.ownsRow (w.heap.size + 1) 9 1 (.slice ra (packsN (l.take k)).length rc) (packsN (l.take k)).length (strs (packsN (l.take k))) ∧ X w wr) (fun _ i _ => n - (intOf i).toNat)
  case atStart => exact ⟨0, _, _, Nat.zero_le _, rfl, rfl, hrow0, hX1⟩
  case round =>
    obtain ⟨k, ra, rc, hk, rfl, rfl, hrow, hX⟩ := hrel
    clear t0 lt0 hB1 hrow0 hX1
    by_cases hlt : k < n
    · obtain ⟨b, off, ba, bn, bc, rfl, _, hb, hok, hbc, hSb, g0, g1, g2, g3, g4, g5⟩ := (hF.mono (hX.fr _)).at_ hlt
      have hfb := treeB_file ht (k := k) (by rw [← Hl.out]; exact hlt)
      have htk := Lib.hid (@packsN_next l k (by rw [← Hl.out]; exact hlt))
      have hll : (packsN (l.take k)).length ≤ 36 := by
        have := @packsN_len (l.take k)
        rw [List.length_take] at this
        omega
      have hpk := pkg_12 hfb
      obtain ⟨A, hA⟩ : ∃ A, packsN (l.take k) = A := ⟨_, rfl⟩
      rw [hA] at hrow hll htk ⊢
      clear hA
      generalize nth l k = f at *
      have hsz := hX.size
      go_wp2_with fail
      refine calls_name (fun W4 hW4 => ?_)
      have hX4 : X wr W4 := by rw [hW4]; (repeat (first | with_reducible exact X.refl _ | with_reducible assumption | with_reducible refine X.setCell ?_ (by first | (simp; done) | (simp; omega)) _ | with_reducible refine X.ext ?_ _ | with_reducible refine X.alloc ?_ _ | with_reducible refine X.drew ?_))
      have hs4 : wr.heap.size < W4.heap.size := by rw [hW4]; simp
      clear hW4
      refine (NamesAbove_p f.pkg W4 (by omega) (hG.mono (hX.trans hX4))).mono ?_
      rintro _ w5 ⟨sa, sc, rfl, hO5, hx5⟩
      have hX5 := hX4.trans hx5
      have hrow5 := own_fr hrow (hX5.fr _)
      have hs5 := hx5.size
      have hpl := aboveP_len f.pkg
      clear hX4 hx5 hrow g0 g1 g2 g3 g4 g5 hSb hok hfb
      obtain ⟨U, hU⟩ : ∃ U, aboveP f.pkg = U := ⟨_, rfl⟩
      rw [hU] at hO5 hpl htk ⊢
      clear hU
      have hUl : (strs U).length = U.length * 1 := by rw [strs_len, Nat.mul_one]
      have hU1 := strs_one U
      go_wp2_with (at_builtin; refine wpList_append_sl str_T rfl _ _ rfl hrow5 rfl rfl (Sl.of_own hO5) hUl hU1 (by omega) (by unfold maxLen; omega) (by omega) ?_; intro a' c' w6 hO6 hg6)
      go_roundw
      case rel => exact ⟨k + 1, a', c', by omega, by go_num, by rw [htk.out, List.length_append], by
        rw [htk.out, List.length_append, strs_map, List.map_append, ← strs_map, ← strs_map]
        exact hO6, x_own (hX.trans hX5) hrow5 (by omega) hg6⟩
      case measure => simp [intOf]; omega
    · obtain rfl : k = n := by omega
      have hv : sortU (packsN l) = V := by
        rw [← HV.out, packsL, ht]; rfl
      have h3 := @packsN_len l
      rw [Hl.out, List.take_length] at hrow
      rw [Hl.out, List.take_length]
      go_wp2_with fail
      refine (sorted_c (packsN l) _ _ _ _ wr hrow (by have := Hl.out; omega)).mono ?_
      rw [hv]
      rintro _ w2 ⟨ra2, rc2, rfl, hO2, hg2⟩
      go_wp2
      go_ret
      exact ⟨ra2, rc2, rfl, own_less hO2 hX.size, x_own hX hrow (by omega) hg2⟩

theorem insAll_app (l xs ys : List (List UInt8)) : insAll l (xs ++ ys) = insAll (insAll l xs) ys := by simp [insAll]
theorem insAll_lenL : ∀ {xs l : List (List UInt8)}, (insAll l xs).length ≤ l.length + xs.length
  | [], l => by simp [insAll]
  | y :: xs, l => by
    show (insAll (insS l y) xs).length ≤ _
    have h1 := @insAll_lenL xs (insS l y)
    have h2 : (insS l y).length ≤ l.length + 1 := by
      unfold insS
      split
      · omega
      · rw [List.length_append, List.length_cons, List.length_take, List.length_drop]
        have := posS_le l y l.length
        omega
    rw [List.length_cons]
    omega
set_option maxRecDepth 100000 in
set_option maxHeartbeats 2000000 in
theorem PackagesOf_s (l : List Fi) (a : Option Addr) (n c B : Nat) (w : World) (hF : FilesAt w B a n l) :
    Calls Tryz.prog 11 #[.agg #[.slice a n c]] w fun e w' => ∃ ra rc, e = .returned (.slice ra (packsL l).length rc) ∧ StrsAt w' w.heap.size ra (packsL l).length (packsL l) ∧ X w w' := by
  obtain ⟨hl, _⟩ := hF.len
  have Hl := Lib.hid hl
  clear hl
  obtain ⟨V, hV⟩ : ∃ V, packsL l = V := ⟨_, rfl⟩
  rw [hV]
  have HV := Lib.hid hV
  have hVs : ∀ x ∈ V, x.length ≤ 4194304 := fun x hx => by have := packsL_short (l := l) x (by rw [hV]; exact hx); omega
  have hVl : V.length ≤ 36 := by rw [← hV]; exact packsL_len
  clear hV
  go_enter Tryz.func11, Tryz.ntmps11
  go_wp2_with fail
  refine calls_name (fun W hW => ?_)
  have hB0 : Bx W w.heap.size #[.slice a n c] := by rw [hW]; exact Bx.new _ _ _
  have hX0 : X w W := by rw [hW]; (repeat (first | with_reducible exact X.refl _ | with_reducible assumption | with_reducible refine X.setCell ?_ (by first | (simp; done) | (simp; omega)) _ | with_reducible refine X.ext ?_ _ | with_reducible refine X.alloc ?_ _ | with_reducible refine X.drew ?_))
  clear hW
  have t0 := bxC hB0
  have lt0 := hB0.lt
  refine (validTree_c l a n c _ W (hF.mono (hX0.fr _))).mono ?_
  rintro _ w1 ⟨rfl, hx1⟩
  have hB1 := hB0.x hx1
  have hX1 := hX0.trans hx1
  clear hx1 hB0 t0 lt0 hX0
  have t0 := bxC hB1
  have lt0 := hB1.lt
  cases ht : treeB l
  · have hv : packsL l = [] := by rw [packsL, ht]; rfl
    rw [HV.out] at hv
    subst hv
    go_wp2
    go_ret
    exact ⟨none, 0, rfl, strsAt_nil _ _, hX1⟩
  have hn12 : n ≤ 12 := by rw [Hl.out]; exact treeB_12 ht
  go_wp2
  go_loopw [3, 4] (fun v i wr => ∃ (k g rc : Nat), k ≤ n ∧ i = .int .i64 k ∧ v = .slice (some ⟨g, 0, none⟩) (insAll [] (packsN (l.take k))).length rc ∧ wr.ownsRow (w.heap.size + 1) 9 1 (.slice (some ⟨g, 0, none⟩) (insAll [] (packsN (l.take k))).length rc) (insAll [] (packsN (l.take k))).length (strs (insAll [] (packsN (l.take k)))) ∧ X w wr ∧ Bx wr w.heap.size #[.slice a n c]) (fun _ i _ => n - (intOf i).toNat)
  case atStart => exact ⟨0, w1.heap.size, 0, Nat.zero_le _, rfl, rfl, own_lit (n := 0) (size := 1) rfl (by omega) rfl (by omega), by (repeat (first | with_reducible exact X.refl _ | with_reducible assumption | with_reducible refine X.setCell ?_ (by first | (simp; done) | (simp; omega)) _ | with_reducible refine X.ext ?_ _ | with_reducible refine X.alloc ?_ _ | with_reducible refine X.drew ?_)), hB1.x (by (repeat (first | with_reducible exact X.refl _ | with_reducible assumption | with_reducible refine X.setCell ?_ (by first | (simp; done) | (simp; omega)) _ | with_reducible refine X.ext ?_ _ | with_reducible refine X.alloc ?_ _ | with_reducible refine X.drew ?_)))⟩
  case round =>
    obtain ⟨k, g, rc, hk, rfl, rfl, hrow, hX, hBr⟩ := hrel
    clear t0 lt0 hB1
    have t0 := bxC hBr
    have lt0 := hBr.lt
    by_cases hlt : k < n
    · obtain ⟨b, off, ba, bn, bc, rfl, _, hb, hok, hbc, hSb, g0, g1, g2, g3, g4, g5⟩ := (hF.mono (hX.fr _)).at_ hlt
      have hfb := treeB_file ht (k := k) (by rw [← Hl.out]; exact hlt)
      have htk := Lib.hid (show insAll [] (packsN (l.take (k + 1))) = insAll (insAll [] (packsN (l.take k))) (aboveP (nth l k).pkg) by rw [packsN_next (by rw [← Hl.out]; exact hlt)]; exact insAll_app _ _ _)
      have hpk := pkg_12 hfb
      have hpkB := fileB_pkgB hfb
      have hsh : ∀ x ∈ insAll [] (packsN (l.take k)), x.length ≤ 12 := fun x hx => by
        rw [mem_insAll] at hx
        rcases hx with hx | hx
        · cases hx
        · exact packsN_short x hx
      have hll : (insAll [] (packsN (l.take k))).length ≤ 36 := by
        have h1 := insAll_len (packsN (l.take k))
        have h2 := @packsN_len (l.take k)
        rw [List.length_take] at h2
        omega
      obtain ⟨A, hA⟩ : ∃ A, insAll [] (packsN (l.take k)) = A := ⟨_, rfl⟩
      rw [hA] at hrow hsh hll htk ⊢
      clear hA
      generalize nth l k = f at *
      have hsz := hX.size
      cases hpe : f.pkg.isEmpty
      case true =>
        have he0 : f.pkg = [] := by cases hq : f.pkg with | nil => rfl | cons _ _ => rw [hq] at hpe; cases hpe
        have hu : aboveP f.pkg = [] := by rw [he0]; decide
        rw [hu] at htk
        clear he0
        go_wp2
        go_roundw
        case rel => exact ⟨k + 1, g, rc, by omega, by go_num, by rw [htk.out]; rfl, by rw [htk.out]; exact hrow, hX, hBr⟩
        case measure => simp [intOf]; omega
      case false =>
        have hnm : nameB f.pkg = true := pkgB_name hpkB (by intro e; rw [e] at hpe; cases hpe)
        have hal := aboveP_len f.pkg
        have hash := @aboveP_short f.pkg
        go_wp2_with fail
        refine (above_s f.pkg wr hnm).mono ?_
        rintro _ w5 ⟨ua, uc, rfl, hO5, hx5⟩
        have huc := own_cap hO5
        have hS5 := StrsAt.of_own hO5 (by omega) (fun x hx => by have := hash x hx; omega)
        have hrow5 := own_fr hrow (hx5.fr _)
        have hBr5 := hBr.x hx5
        have hX5 := hX.trans hx5
        have hs5 := hx5.size
        clear hO5 g0 g1 g2 g3 g4 g5 hSb hok hfb
        obtain ⟨U, hU⟩ : ∃ U, aboveP f.pkg = U := ⟨_, rfl⟩
        rw [hU] at hS5 hal hash htk huc ⊢
        clear hU
        obtain ⟨m, hm⟩ : ∃ m, U.length = m := ⟨_, rfl⟩
        rw [hm] at hS5 hal huc ⊢
        have Hm := Lib.hid hm
        clear hm
        clear t0 lt0
        obtain ⟨wo, rfl⟩ : ∃ wo, wo = wr := ⟨_, rfl⟩
        have hfr0 : Fr wo.heap.size w5 w5 := Fr.refl _ _
        have hgo := (hrow5.lt g rfl).2
        have hgo2 := (hrow.lt g rfl)
        clear hrow hBr hX
        go_wp2
        go_loopw [3, 6] (fun v i wr => ∃ (j g2 rc2 : Nat), j ≤ m ∧ i = .int .i64 j ∧ v = .slice (some ⟨g2, 0, none⟩) (insAll A (U.take j)).length rc2 ∧ wr.ownsRow (w.heap.size + 1) 9 1 (.slice (some ⟨g2, 0, none⟩) (insAll A (U.take j)).length rc2) (insAll A (U.take j)).length (strs (insAll A (U.take j))) ∧ X w wr ∧ Bx wr w.heap.size #[.slice (some ⟨b, off, none⟩) n c] ∧ Fr wo.heap.size w5 wr ∧ (g2 < wo.heap.size ∨ w5.heap.size ≤ g2)) (fun _ i _ => m - (intOf i).toNat)
        case atStart => exact ⟨0, g, rc, Nat.zero_le _, rfl, rfl, hrow5, hX5, hBr5, hfr0, .inl hgo2.2⟩
        case round =>
          obtain ⟨j, g2, rc2, hj, rfl, rfl, hrow2, hX2, hB2, hFr, hg2⟩ := hrel
          by_cases hjt : j < m
          · obtain ⟨b2, off2, rfl, _, hb2, hc2, hl2⟩ := (hS5.mono hFr).at_ hjt
            have htj := Lib.hid (show insAll A (U.take (j + 1)) = insS (insAll A (U.take j)) (nth U j) by rw [take_succ_nth (by rw [Hm.out]; exact hjt), insAll_app]; rfl)
            have hshj : ∀ x ∈ insAll A (U.take j), x.length ≤ 4194304 := fun x hx => by
              rw [mem_insAll] at hx
              rcases hx with hx | hx
              · have := hsh x hx; omega
              · have := hash x (List.mem_of_mem_take hx); omega
            have hlj : (insAll A (U.take j)).length ≤ 39 := by
              have := @insAll_lenL (U.take j) A
              rw [List.length_take] at this
              omega
            obtain ⟨D, hD⟩ : ∃ D, insAll A (U.take j) = D := ⟨_, rfl⟩
            rw [hD] at hrow2 hshj hlj htj ⊢
            clear hD
            have hlt2 := hrow2.lt g2 rfl
            go_wp2_with fail
            refine (insertText_c D g2 _ rc2 _ (nth U j) wr hrow2 (by omega) hshj (by omega)).mono ?_
            rintro _ w6 ⟨g6, rc6, rfl, hO6, hg6, hat⟩
            go_wp2
            go_roundw
            case rel => exact ⟨j + 1, g6, rc6, by omega, by go_num, by rw [htj.out], by rw [htj.out]; exact hO6, x_own (v := .slice (some ⟨g2, 0, none⟩) D.length rc2) hX2 hrow2 (by omega) hg6, hB2.grown hg6 (fun q e => by injection e with e; omega), fr_grown hFr hg6 hg2, by
              have := hFr.1
              rcases hat with rfl | h
              · exact hg2
              · exact .inr (by omega)⟩
            case measure => simp [intOf]; omega
          · obtain rfl : j = m := by omega
            have hall : U.take j = U := List.take_of_length_le (by rw [Hm.out]; exact Nat.le_refl _)
            rw [hall] at hrow2 ⊢
            go_wp2
            go_roundw
            case rel => exact ⟨k + 1, g2, rc2, by omega, by go_num, by rw [htk.out], by rw [htk.out]; exact hrow2, hX2, hB2⟩
            case measure => simp [intOf]; omega
    · obtain rfl : k = n := by omega
      have hv : insAll [] (packsN l) = V := by
        rw [insAll_sortU, ← HV.out, packsL, ht]; rfl
      rw [Hl.out, List.take_length, hv] at hrow
      go_wp2
      go_ret
      rw [Hl.out, List.take_length, hv]
      exact ⟨_, _, rfl, StrsAt.less ⟨rfl, by omega, hVs, Sl.of_own hrow⟩ (by omega), hX⟩

end Go.Proofs.YtlpbgingggnjpaaGreatDoor
