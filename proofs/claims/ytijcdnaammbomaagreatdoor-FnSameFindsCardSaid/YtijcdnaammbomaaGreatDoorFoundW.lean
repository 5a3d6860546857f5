/- The names of a tree and the names that are found: the walks. No condition but lengths. -/
import Derived.Test.YtijcdnaammbomaaGreatDoorPackW
import Derived.Test.YtijcdnaammbomaaGreatDoorModsW
import Derived.Test.YtijcdnaammbomaaGreatDoorFoundLaw
import Derived.Deep.RegionHeld3
namespace Go.Proofs.YtijcdnaammbomaaGreatDoor
open Go.RowKit

theorem allP_next {l : List Fi} {k : Nat} (hk : k < l.length) : allP (l.take (k + 1)) = allP (l.take k) ++ aboveP (moduleB (nth l k)) := by
  unfold allP
  rw [take_succ_nth hk, List.flatMap_append]
  simp
theorem allP_len {l : List Fi} : (allP l).length ≤ 3 * l.length := by
  induction l with
  | nil => simp [allP]
  | cons f l ih =>
    have := aboveP_len (moduleB f)
    unfold allP at ih ⊢
    rw [List.flatMap_cons, List.length_append, List.length_cons]
    omega
theorem allP_short {l : List Fi} : ∀ x ∈ allP l, x.length ≤ 12 := by
  intro x hx
  obtain ⟨f, _, hx⟩ := List.mem_flatMap.1 hx
  exact aboveP_short x hx

set_option maxRecDepth 100000 in
set_option maxHeartbeats 2000000 in
theorem names_s (l : List Fi) (a : Option Addr) (n c B : Nat) (w : World) (hF : FilesAt w B a n l) (ht : treeB l = true) :
    Calls Tryz.prog 38 #[.agg #[.slice a n c]] w fun e w' => ∃ g rc, e = .returned (.slice (some ⟨g, 0, none⟩) (sortU (allP l)).length rc) ∧ w'.ownsRow w.heap.size 9 1 (.slice (some ⟨g, 0, none⟩) (sortU (allP l)).length rc) (sortU (allP l)).length (strs (sortU (allP l))) ∧ X w w' := by
  obtain ⟨hl, _⟩ := hF.len
  have Hl := Lib.hid hl
  clear hl
  obtain ⟨V, hV⟩ : ∃ V, sortU (allP l) = V := ⟨_, rfl⟩
  rw [hV]
  have HV := Lib.hid hV
  clear hV
  have hn12 : n ≤ 12 := by rw [Hl.out]; exact treeB_12 ht
  go_enter Tryz.func38, Tryz.ntmps38
  go_wp2
  refine wp_name (fun W hW => ?_)
  have hB1 : Bx W w.heap.size #[.slice a n c] := by rw [hW]; exact Bx.x (Bx.new _ _ _) (by (repeat (first | with_reducible exact X.refl _ | with_reducible assumption | with_reducible refine X.setCell ?_ (by first | (simp; done) | (simp; omega)) _ | with_reducible refine X.ext ?_ _ | with_reducible refine X.alloc ?_ _ | with_reducible refine X.drew ?_)))
  have hX1 : X w W := by rw [hW]; (repeat (first | with_reducible exact X.refl _ | with_reducible assumption | with_reducible refine X.setCell ?_ (by first | (simp; done) | (simp; omega)) _ | with_reducible refine X.ext ?_ _ | with_reducible refine X.alloc ?_ _ | with_reducible refine X.drew ?_))
  have hrow0 : W.ownsRow (w.heap.size + 1) 9 1 (.slice (some ⟨w.heap.size + 1, 0, none⟩) 0 0) 0 [] := by rw [hW]; exact own_lit (n := 0) (size := 1) (by simp) (by simp) rfl (by omega)
  clear hW
  go_loopw [3, 4] (fun v i wr => ∃ (k g rc : Nat), k ≤ n ∧ i = .int .i64 k ∧ v = .slice (some ⟨g, 0, none⟩) (insAll [] (allP (l.take k))).length rc ∧ wr.ownsRow (w.heap.size + 1) 9 1 (.slice (some ⟨g, 0, none⟩) (insAll [] (allP (l.take k))).length rc) (insAll [] (allP (l.take k))).length (strs (insAll [] (allP (l.take k)))) ∧ X w wr ∧ Bx wr w.heap.size #[.slice a n c]) (fun _ i _ => n - (intOf i).toNat)
  case atStart => exact ⟨0, w.heap.size + 1, 0, Nat.zero_le _, rfl, rfl, hrow0, hX1, hB1⟩
  case round =>
    obtain ⟨k, g, rc, hk, rfl, rfl, hrow, hX, hBr⟩ := hrel
    clear hB1 hrow0 hX1
    have t0 := bxC hBr
    have lt0 := hBr.lt
    by_cases hlt : k < n
    · obtain ⟨b, off, ba, bn, bc, rfl, _, hb, hok, hbc, hSb, g0, g1, g2, g3, g4, g5⟩ := (hF.mono (hX.fr _)).at_ hlt
      have hfb := treeB_file ht (k := k) (by rw [← Hl.out]; exact hlt)
      have htk := Lib.hid (show insAll [] (allP (l.take (k + 1))) = insAll (insAll [] (allP (l.take k))) (aboveP (moduleB (nth l k))) by rw [allP_next (by rw [← Hl.out]; exact hlt)]; exact insAll_app _ _ _)
      have hsh : ∀ x ∈ insAll [] (allP (l.take k)), x.length ≤ 12 := fun x hx => by
        rw [mem_insAll] at hx
        rcases hx with hx | hx
        · cases hx
        · exact allP_short x hx
      have hll : (insAll [] (allP (l.take k))).length ≤ 36 := by
        have h1 := insAll_len (allP (l.take k))
        have h2 := @allP_len (l.take k)
        rw [List.length_take] at h2
        omega
      obtain ⟨A, hA⟩ : ∃ A, insAll [] (allP (l.take k)) = A := ⟨_, rfl⟩
      rw [hA] at hrow hsh hll htk ⊢
      clear hA
      generalize nth l k = f at *
      have hsz := hX.size
      have hnm := modName hfb
      have hal := aboveP_len (moduleB f)
      have hash := @aboveP_short (moduleB f)
      go_wp2_with fail
      refine (moduleName_c f _ wr hok).mono ?_
      rintro _ w4 ⟨rfl, hx4⟩
      go_wp2_with fail
      refine (above_s (moduleB f) w4 hnm).mono ?_
      rintro _ w5 ⟨ua, uc, rfl, hO5, hx45⟩
      have hx5 := hx4.trans hx45
      have hs45 := hx45.size
      have huc := own_cap hO5
      have hS5 := StrsAt.of_own hO5 (by omega) (fun x hx => by have := hash x hx; omega)
      have hrow5 := own_fr hrow (hx5.fr _)
      have hBr5 := hBr.x hx5
      have hX5 := hX.trans hx5
      have hs5 := hx5.size
      clear hO5 g0 g1 g2 g3 g4 g5 hSb hok hfb
      obtain ⟨U, hU⟩ : ∃ U, aboveP (moduleB f) = U := ⟨_, rfl⟩
      rw [hU] at hS5 hal hash htk huc ⊢
      clear hU
      obtain ⟨m, hm⟩ : ∃ m, U.length = m := ⟨_, rfl⟩
      rw [hm] at hS5 hal huc ⊢
      have Hm := Lib.hid hm
      clear hm
      clear t0 lt0
      obtain ⟨wo, rfl⟩ : ∃ wo, wo = wr := ⟨_, rfl⟩
      have hfr0 : Fr w4.heap.size w5 w5 := Fr.refl _ _
      have hgo := (hrow5.lt g rfl).2
      have hgo2 := (hrow.lt g rfl)
      clear hrow hBr hX
      go_wp2
      go_loopw [3, 6] (fun v i wr => ∃ (j g2 rc2 : Nat), j ≤ m ∧ i = .int .i64 j ∧ v = .slice (some ⟨g2, 0, none⟩) (insAll A (U.take j)).length rc2 ∧ wr.ownsRow (w.heap.size + 1) 9 1 (.slice (some ⟨g2, 0, none⟩) (insAll A (U.take j)).length rc2) (insAll A (U.take j)).length (strs (insAll A (U.take j))) ∧ X w wr ∧ Bx wr w.heap.size #[.slice (some ⟨b, off, none⟩) n c] ∧ Fr w4.heap.size w5 wr ∧ (g2 < w4.heap.size ∨ w5.heap.size ≤ g2)) (fun _ i _ => m - (intOf i).toNat)
      case atStart => exact ⟨0, g, rc, Nat.zero_le _, rfl, rfl, hrow5, hX5, hBr5, hfr0, .inl (Nat.lt_of_lt_of_le hgo2.2 hx4.size)⟩
      case round =>
        obtain ⟨j, g2, rc2, hj, rfl, rfl, hrow2, hX2, hB2, hFr, hg2⟩ := hrel
        by_cases hjt : j < m
        · obtain ⟨b2, off2, rfl, _, hb2, hc2, hl2⟩ := (hS5.mono hFr).at_ hjt
          have htj := Lib.hid (show insAll A (U.take (j + 1)) = insS (insAll A (U.take j)) (nth U j) by rw [take_succ_nth (by rw [Hm.out]; exact hjt), insAll_app]; rfl)
          have hshj : ∀ x ∈ insAll A (U.take j), x.length ≤ 4194304 := fun x hx => by
            rw [mem_insAll] at hx
            rcases hx with hx | hx
            · have := hsh x hx; omega
            · have := hash x (List.mem_of_mem_take hx); omega
          have hlj : (insAll A (U.take j)).length ≤ 39 := by
            have := @insAll_lenL (U.take j) A
            rw [List.length_take] at this
            omega
          obtain ⟨D, hD⟩ : ∃ D, insAll A (U.take j) = D := ⟨_, rfl⟩
          rw [hD] at hrow2 hshj hlj htj ⊢
          clear hD
          have hlt2 := hrow2.lt g2 rfl
          go_wp2_with fail
          refine (insertText_c D g2 _ rc2 _ (nth U j) wr hrow2 (by omega) hshj (by omega)).mono ?_
          rintro _ w6 ⟨g6, rc6, rfl, hO6, hg6, hat⟩
          go_wp2
          go_roundw
          case rel => exact ⟨j + 1, g6, rc6, by omega, by go_num, by rw [htj.out], by rw [htj.out]; exact hO6, x_own (v := .slice (some ⟨g2, 0, none⟩) D.length rc2) hX2 hrow2 (by omega) hg6, hB2.grown hg6 (fun q e => by injection e with e; omega), fr_grown hFr hg6 hg2, by
            have := hFr.1
            rcases hat with rfl | h
            · exact hg2
            · exact .inr (by omega)⟩
          case measure => simp [intOf]; omega
        · obtain rfl : j = m := by omega
          have hall : U.take j = U := List.take_of_length_le (by rw [Hm.out]; exact Nat.le_refl _)
          rw [hall] at hrow2 ⊢
          go_wp2
          go_roundw
          case rel => exact ⟨k + 1, g2, rc2, by omega, by go_num, by rw [htk.out], by rw [htk.out]; exact hrow2, hX2, hB2⟩
          case measure => simp [intOf]; omega
    · obtain rfl : k = n := by omega
      have hv : insAll [] (allP l) = V := by rw [insAll_sortU]; exact HV.out
      rw [Hl.out, List.take_length, hv] at hrow
      go_wp2
      go_ret
      rw [Hl.out, List.take_length, hv]
      exact ⟨_, _, rfl, own_less hrow (by omega), hX⟩

theorem namesU_len {l : List Fi} (ht : treeB l = true) : (sortU (allP l)).length ≤ 36 := by
  have h1 := sortU_len (allP l)
  have h2 := @allP_len l
  have h3 := treeB_12 ht
  omega
theorem namesU_short {l : List Fi} : ∀ x ∈ sortU (allP l), x.length ≤ 12 := fun x hx => allP_short x ((sortU_facts _).2 x |>.1 hx)
theorem foundL_len {l : List Fi} {path : List Int} : (foundL l path).length ≤ 36 := by
  unfold foundL
  split
  · rename_i h
    rw [Bool.and_eq_true] at h
    exact Nat.le_trans (List.length_filter_le _ _) (namesU_len h.1)
  · simp
theorem foundL_short {l : List Fi} {path : List Int} : ∀ x ∈ foundL l path, x.length ≤ 12 := by
  intro x hx
  unfold foundL at hx
  split at hx
  · exact namesU_short x ((List.mem_filter.1 hx).1)
  · simp at hx

theorem names_nm {l : List Fi} : ∀ x ∈ sortU (allP l), nameB x = true := by
  intro x hx
  obtain ⟨f, hf, hx⟩ := mem_allP.1 ((sortU_facts _).2 x |>.1 hx)
  exact (above_under hx).2.1
theorem filt_next {xs : List (List UInt8)} {p : List UInt8 → Bool} {k : Nat} (hk : k < xs.length) : (xs.take (k + 1)).filter p = (xs.take k).filter p ++ (if p (nth xs k) then [nth xs k] else []) := by
  rw [take_succ_nth hk, List.filter_append]
  congr 1
  rw [List.filter_cons, List.filter_nil]
theorem filt_len {xs : List (List UInt8)} {p : List UInt8 → Bool} {k : Nat} : ((xs.take k).filter p).length ≤ xs.length := by
  refine Nat.le_trans (List.length_filter_le _ _) ?_
  rw [List.length_take]
  omega
theorem found_not {l : List Fi} {path : List Int} (h : (treeB l && pathB path) = false) : foundL l path = [] := by rw [foundL, h]; rfl
theorem found_is {l : List Fi} {path : List Int} (h1 : treeB l = true) (h2 : pathB path = true) : foundL l path = (sortU (allP l)).filter fun n => canB l path n := by rw [foundL, h1, h2]; rfl
theorem can_spec {l : List Fi} {path : List Int} {s : List UInt8} (h1 : treeB l = true) (h2 : pathB path = true) (h3 : nameB s = true) : canB l path s = !((specF l path s).kind == 0) := by
  rw [canB, specB, h1, h2, h3]
  rfl

set_option maxRecDepth 100000 in
set_option maxHeartbeats 2000000 in
theorem FoundNames_s (l : List Fi) (a : Option Addr) (n c B : Nat) (path : List Int) (pa : Option Addr) (pn pc Bp : Nat) (w : World) (hF : FilesAt w B a n l) (hI : IntsAt w Bp pa pn path) (hpc : pn ≤ pc) :
    Calls Tryz.prog 10 #[.agg #[.slice a n c], .slice pa pn pc] w fun e w' => ∃ ra rc, e = .returned (.slice ra (foundL l path).length rc) ∧ StrsAt w' w.heap.size ra (foundL l path).length (foundL l path) ∧ X w w' := by
  have hVs : ∀ x ∈ foundL l path, x.length ≤ 4194304 := fun x hx => by have := foundL_short x hx; omega
  have hVl := @foundL_len l path
  obtain ⟨V, hV⟩ : ∃ V, foundL l path = V := ⟨_, rfl⟩
  rw [hV] at hVs hVl ⊢
  have HV := Lib.hid hV
  clear hV
  have hsl : True := trivial
  cases h1 : treeB l
  · obtain rfl : V = [] := by rw [← HV.out]; exact found_not (by rw [h1]; rfl)
    go_enter Tryz.func10, Tryz.ntmps10
    go_wp2_with (first | (go_at_call 36; refine (validTree_c _ _ _ _ _ _ (hF.mono (X.fr (by (repeat (first | exact X.refl _ | assumption | refine X.ext ?_ _ | refine X.alloc ?_ _ | refine X.drew ?_))) _))).mono ?_; rintro _ _ ⟨rfl, hx⟩; obtain ⟨x, rfl⟩ := hx.of_ext) | (go_at_call 36; refine (validTree_c _ _ _ _ _ _ (hF.mono (X.fr (by (repeat (first | exact X.refl _ | assumption | refine X.ext ?_ _ | refine X.alloc ?_ _ | refine X.drew ?_))) _))).mono ?_; rintro _ _ ⟨rfl, ⟨x, rfl⟩⟩) | (go_at_call 37; refine (validPath_c _ _ _ _ _ _ (hI.mono (X.fr (by (repeat (first | exact X.refl _ | assumption | refine X.ext ?_ _ | refine X.alloc ?_ _ | refine X.drew ?_))) _)) hpc).mono ?_; rintro _ _ ⟨rfl, hx⟩; obtain ⟨x, rfl⟩ := hx.of_ext) | (go_at_call 102; refine (validName_c _ _ hsl).mono ?_; rintro _ _ ⟨rfl, hx⟩; obtain ⟨x, rfl⟩ := hx.of_ext))
    go_ret
    exact ⟨_, _, rfl, strsAt_nil _ _, by (repeat (first | exact X.refl _ | assumption | refine X.ext ?_ _ | refine X.alloc ?_ _ | refine X.drew ?_))⟩
  cases h2 : pathB path
  · obtain rfl : V = [] := by rw [← HV.out]; exact found_not (by rw [h1, h2]; rfl)
    go_enter Tryz.func10, Tryz.ntmps10
    go_wp2_with (first | (go_at_call 36; refine (validTree_c _ _ _ _ _ _ (hF.mono (X.fr (by (repeat (first | exact X.refl _ | assumption | refine X.ext ?_ _ | refine X.alloc ?_ _ | refine X.drew ?_))) _))).mono ?_; rintro _ _ ⟨rfl, hx⟩; obtain ⟨x, rfl⟩ := hx.of_ext) | (go_at_call 36; refine (validTree_c _ _ _ _ _ _ (hF.mono (X.fr (by (repeat (first | exact X.refl _ | assumption | refine X.ext ?_ _ | refine X.alloc ?_ _ | refine X.drew ?_))) _))).mono ?_; rintro _ _ ⟨rfl, ⟨x, rfl⟩⟩) | (go_at_call 37; refine (validPath_c _ _ _ _ _ _ (hI.mono (X.fr (by (repeat (first | exact X.refl _ | assumption | refine X.ext ?_ _ | refine X.alloc ?_ _ | refine X.drew ?_))) _)) hpc).mono ?_; rintro _ _ ⟨rfl, hx⟩; obtain ⟨x, rfl⟩ := hx.of_ext) | (go_at_call 102; refine (validName_c _ _ hsl).mono ?_; rintro _ _ ⟨rfl, hx⟩; obtain ⟨x, rfl⟩ := hx.of_ext))
    go_ret
    exact ⟨_, _, rfl, strsAt_nil _ _, by (repeat (first | exact X.refl _ | assumption | refine X.ext ?_ _ | refine X.alloc ?_ _ | refine X.drew ?_))⟩
  have Hf := Lib.hid ((found_is h1 h2).symm.trans HV.out)
  have hm36 := namesU_len h1
  have hmnm := @names_nm l
  go_enter Tryz.func10, Tryz.ntmps10
  go_wp2_with fail
  refine calls_name (fun W hW => ?_)
  have hX0 : X w W := by rw [hW]; (repeat (first | with_reducible exact X.refl _ | with_reducible assumption | with_reducible refine X.setCell ?_ (by first | (simp; done) | (simp; omega)) _ | with_reducible refine X.ext ?_ _ | with_reducible refine X.alloc ?_ _ | with_reducible refine X.drew ?_))
  have hB0 : Bx W w.heap.size #[.slice a n c] := by rw [hW]; exact Bx.new _ _ _
  clear hW
  refine (validTree_c l a n c _ W (hF.mono (hX0.fr _))).mono ?_
  rintro _ w1 ⟨rfl, hx1⟩
  rw [h1]
  have hX2 := hX0.trans hx1
  have hB1 := hB0.x hx1
  clear hX0 hx1 hB0
  go_wp2_with fail
  refine (validPath_c path pa pn pc _ w1 (hI.mono (hX2.fr _)) hpc).mono ?_
  rintro _ w2 ⟨rfl, hx2⟩
  rw [h2]
  replace hX2 := hX2.trans hx2
  have hB2 := hB1.x hx2
  clear hx2 hB1
  have t0 := bxC hB2
  have lt0 := hB2.lt
  go_wp2_with fail
  refine calls_name (fun W3 hW3 => ?_)
  have hX23 : X w2 W3 := by rw [hW3]; (repeat (first | with_reducible exact X.refl _ | with_reducible assumption | with_reducible refine X.setCell ?_ (by first | (simp; done) | (simp; omega)) _ | with_reducible refine X.ext ?_ _ | with_reducible refine X.alloc ?_ _ | with_reducible refine X.drew ?_))
  have hX3 := hX2.trans hX23
  have hB3 := hB2.x hX23
  have hrow3 : W3.ownsRow w2.heap.size 9 1 (.slice (some ⟨w2.heap.size, 0, none⟩) 0 0) 0 [] := by rw [hW3]; exact own_lit (n := 0) (size := 1) rfl (Nat.le_refl _) rfl (by omega)
  have hl3 : w2.heap.size < W3.heap.size := (hrow3.lt w2.heap.size rfl).2
  have hX20 := hX2.size
  have hbw : w.heap.size < w2.heap.size := lt0
  clear hW3 hX2 hX23 hB2 t0 lt0
  refine (names_s l a n c _ W3 (hF.mono (hX3.fr _)) h1).mono ?_
  obtain ⟨N, hN⟩ : ∃ N, sortU (allP l) = N := ⟨_, rfl⟩
  have hshN := @namesU_short l
  have HfN := Hf.out
  rw [hN] at HfN hm36 hmnm hshN ⊢
  obtain ⟨m, hm⟩ : ∃ m, N.length = m := ⟨_, rfl⟩
  rw [hm] at hm36 ⊢
  have Hm := Lib.hid hm
  clear hN hm Hf
  rintro _ w4 ⟨ng, nc, rfl, hO4, hx4⟩
  obtain ⟨na, hna⟩ : ∃ na : Option Addr, some (⟨ng, 0, none⟩ : Addr) = na := ⟨_, rfl⟩
  rw [hna] at hO4 ⊢
  clear hna
  have hS4 : StrsAt w4 W3.heap.size na m N := ⟨Hm.out.symm, by omega, fun x hx => by have := hshN x hx; omega, Sl.of_own hO4⟩
  have hrow4 := own_fr hrow3 (hx4.fr _)
  have hX4 := hX3.trans hx4
  have hs4 := hx4.size
  have hB4 := hB3.x hx4
  clear hO4 hrow3 hX3 hx4 hB3
  go_wp2
  go_loopw [5, 7] (fun v i wr => ∃ (k g rc : Nat), k ≤ m ∧ i = .int .i64 k ∧ v = .slice (some ⟨g, 0, none⟩) ((N.take k).filter fun n => canB l path n).length rc ∧ wr.ownsRow w2.heap.size 9 1 (.slice (some ⟨g, 0, none⟩) ((N.take k).filter fun n => canB l path n).length rc) ((N.take k).filter fun n => canB l path n).length (strs ((N.take k).filter fun n => canB l path n)) ∧ X w wr ∧ Bx wr w.heap.size #[.slice a n c] ∧ Fr W3.heap.size w4 wr ∧ (g < W3.heap.size ∨ w4.heap.size ≤ g)) (fun _ i _ => m - (intOf i).toNat)
  case atStart => exact ⟨0, w2.heap.size, 0, Nat.zero_le _, rfl, rfl, hrow4, hX4, hB4, Fr.refl _ _, .inl hl3⟩
  case round =>
    obtain ⟨k, g, rc, hk, rfl, rfl, hrow, hX, hBr, hFr, hgat⟩ := hrel
    clear hrow4 hX4 hB4
    by_cases hlt : k < m
    · obtain ⟨b, off, rfl, _, hb, hc, hcl⟩ := (hS4.mono hFr).at_ hlt
      have hnm := hmnm _ (nth_mem (l := N) (k := k) (by rw [Hm.out]; exact hlt))
      have Htk := Lib.hid (@filt_next N (fun n => canB l path n) k (by rw [Hm.out]; exact hlt))
      have hll : ((N.take k).filter fun n => canB l path n).length ≤ 36 := by
        have := @filt_len N (fun n => canB l path n) k
        rw [Hm.out] at this
        omega
      have hcan := can_spec h1 h2 hnm
      obtain ⟨A, hA⟩ : ∃ A, ((N.take k).filter fun n => canB l path n) = A := ⟨_, rfl⟩
      rw [hA] at hrow hll Htk ⊢
      clear hA
      generalize nth N k = x at *
      have hgl := hrow.lt g rfl
      have t0 := bxC hBr
      have lt0 := hBr.lt
      have lb : b < wr.heap.size := hb
      have q1 : (0 : Int) ≤ (k : Int) := by omega
      have q2 : (k : Int) < (m : Int) := by omega
      cases hk0 : (specF l path x).kind == 0
      · rw [hk0] at hcan
        have hk1 : ¬ (specF l path x).kind = 0 := by simpa using hk0
        have he : (if canB l path x then [x] else []) = [x] := by rw [hcan]; rfl
        go_wp2
        go_region_held3 (fun W' => W'.cell? ⟨w.heap.size, 0, none⟩ = some (.slice a n c) ∧ W'.cell? ⟨b, off + k, none⟩ = some (.string ⟨(x).toArray⟩))
          (first | exact ⟨(World.cell?_ext _ _ _ _ lt0).trans t0, (World.cell?_ext _ _ _ _ lb).trans hc⟩ | exact ⟨t0, hc⟩ | go_keep)
          ((go_at_call 39; refine (find_s l a n c _ path pa pn pc _ x _ (hF.mono (X.fr (hX.trans (by (repeat (first | exact X.refl _ | assumption | refine X.ext ?_ _ | refine X.alloc ?_ _ | refine X.drew ?_)))) _)) (hI.mono (X.fr (hX.trans (by (repeat (first | exact X.refl _ | assumption | refine X.ext ?_ _ | refine X.alloc ?_ _ | refine X.drew ?_)))) _)) hpc hnm).mono ?_; rintro _ wq ⟨v5, rfl, ⟨a5, c5, rfl, hc5, hI5⟩, hxq⟩; replace hxq := X.trans (a := wr) (by (repeat (first | exact X.refl _ | assumption | refine X.ext ?_ _ | refine X.alloc ?_ _ | refine X.drew ?_))) hxq; obtain ⟨zq, rfl⟩ := hxq))
        go_wp2_with (at_builtin; refine wpList_append_gat str_T rfl _ _ rfl (own_fr hrow (X.fr (by (repeat (first | exact X.refl _ | assumption | refine X.ext ?_ _ | refine X.alloc ?_ _ | refine X.drew ?_))) _)) rfl rfl rfl rfl (by simp [Value.oneCell']) (by omega) (by omega) (by first | omega | (rw [World.size_ext]; omega)) ?_; intro g7 c7 w7 hO7 hg7 hat7)
        go_roundw
        case rel =>
          have hs7 := hg7.size
          have hXq : X wr (World.ext wr zq) := by (repeat (first | exact X.refl _ | assumption | refine X.ext ?_ _ | refine X.alloc ?_ _ | refine X.drew ?_))
          have hsq := hXq.size
          rw [World.size_alloc] at hs7
          exact ⟨k + 1, g7, c7, by omega, by go_num, by rw [Htk.out, he, List.length_append]; rfl, by
            rw [Htk.out, he, List.length_append, strs_map, List.map_append]
            rw [strs_map] at hO7
            exact hO7, x_own (v := .slice (some ⟨g, 0, none⟩) A.length rc) (X.alloc (hX.trans hXq) _) ((own_fr hrow (hXq.fr _)).alloc _) (by omega) hg7, (hBr.x (X.alloc hXq _)).grown hg7 (fun q e => by injection e with e; omega), fr_grown (hFr.trans (X.fr (X.alloc hXq _) _)) hg7 hgat, by
            rcases hat7 with rfl | h
            · exact hgat
            · exact .inr (by have := hFr.size; omega)⟩
        case measure => simp [intOf]; omega
      · rw [hk0] at hcan
        have hk1 : (specF l path x).kind = 0 := by simpa using hk0
        have he : (if canB l path x then [x] else []) = [] := by rw [hcan]; rfl
        go_wp2
        go_region_held3 (fun W' => W'.cell? ⟨w.heap.size, 0, none⟩ = some (.slice a n c) ∧ W'.cell? ⟨b, off + k, none⟩ = some (.string ⟨(x).toArray⟩))
          (first | exact ⟨(World.cell?_ext _ _ _ _ lt0).trans t0, (World.cell?_ext _ _ _ _ lb).trans hc⟩ | exact ⟨t0, hc⟩ | go_keep)
          ((go_at_call 39; refine (find_s l a n c _ path pa pn pc _ x _ (hF.mono (X.fr (hX.trans (by (repeat (first | exact X.refl _ | assumption | refine X.ext ?_ _ | refine X.alloc ?_ _ | refine X.drew ?_)))) _)) (hI.mono (X.fr (hX.trans (by (repeat (first | exact X.refl _ | assumption | refine X.ext ?_ _ | refine X.alloc ?_ _ | refine X.drew ?_)))) _)) hpc hnm).mono ?_; rintro _ wq ⟨v5, rfl, ⟨a5, c5, rfl, hc5, hI5⟩, hxq⟩; replace hxq := X.trans (a := wr) (by (repeat (first | exact X.refl _ | assumption | refine X.ext ?_ _ | refine X.alloc ?_ _ | refine X.drew ?_))) hxq; obtain ⟨zq, rfl⟩ := hxq))
        go_wp2
        go_roundw
        case rel =>
          have hXq : X wr (World.ext wr zq) := by (repeat (first | exact X.refl _ | assumption | refine X.ext ?_ _ | refine X.alloc ?_ _ | refine X.drew ?_))
          exact ⟨k + 1, g, rc, by omega, by go_num, by rw [Htk.out, he, List.append_nil], by rw [Htk.out, he, List.append_nil]; exact own_fr hrow (hXq.fr _), hX.trans hXq, hBr.x hXq, hFr.trans (hXq.fr _), hgat⟩
        case measure => simp [intOf]; omega
    · obtain rfl : k = m := by omega
      have hall : N.take k = N := List.take_of_length_le (by rw [Hm.out]; exact Nat.le_refl _)
      rw [hall, HfN] at hrow
      rw [hall, HfN]
      go_wp2
      go_ret
      exact ⟨_, _, rfl, StrsAt.less (StrsAt.of_own hrow (by omega) hVs) hX20, hX⟩

end Go.Proofs.YtijcdnaammbomaaGreatDoor
