/- EdgesOf of the reference: the walks. No condition but lengths. -/
import Derived.Test.YtlpbgingggnjpaaGreatDoorEdgW
namespace Go.Proofs.YtlpbgingggnjpaaGreatDoor
open Go.RowKit

theorem uniqL_app (xs ys : List (List UInt8)) : uniqL (xs ++ ys) = ys.foldl addU (uniqL xs) := by simp [uniqL, List.foldl_append]
theorem fold_take {A U : List (List UInt8)} {j : Nat} (hj : j < U.length) : (U.take (j + 1)).foldl addU A = addU ((U.take j).foldl addU A) (nth U j) := by
  rw [take_succ_nth hj, List.foldl_append]
  rfl
set_option maxRecDepth 100000 in
set_option maxHeartbeats 2000000 in
theorem full_s (xs : List (List UInt8)) (a : Option Addr) (n c B : Nat) (w : World) (hS : StrsAt w B a n xs) (hn8 : n ≤ 8) (hnm : ∀ x ∈ xs, nameB x = true) :
    Calls Tryz.prog 100 #[.slice a n c] w fun e w' => ∃ ra rc, e = .returned (.slice ra (uniqL (xs.flatMap aboveP)).length rc) ∧ StrsAt w' w.heap.size ra (uniqL (xs.flatMap aboveP)).length (uniqL (xs.flatMap aboveP)) ∧ X w w' := by
  have Hl := Lib.hid hS.1
  obtain ⟨V, hV⟩ : ∃ V, uniqL (xs.flatMap aboveP) = V := ⟨_, rfl⟩
  rw [hV]
  have hVs : ∀ x ∈ V, x.length ≤ 4194304 := fun x hx => by
    rw [← hV, mem_uniqL] at hx
    have := flat_short xs x hx
    omega
  have hVl : V.length ≤ 24 := by
    have h1 := @uniqL_len (xs.flatMap aboveP)
    have h2 := flat_len xs
    have := Hl.out
    rw [← hV]
    omega
  have HV := Lib.hid hV
  clear hV
  go_enter Tryz.func100, Tryz.ntmps100
  go_wp2
  refine wp_name (fun W hW => ?_)
  have hX0 : X w W := by rw [hW]; (repeat (first | with_reducible exact X.refl _ | with_reducible assumption | with_reducible refine X.setCell ?_ (by first | (simp; done) | (simp; omega)) _ | with_reducible refine X.ext ?_ _ | with_reducible refine X.alloc ?_ _ | with_reducible refine X.drew ?_))
  have hrow0 : W.ownsRow w.heap.size 9 1 (.slice (some ⟨w.heap.size, 0, none⟩) 0 0) 0 [] := by rw [hW]; exact own_lit (n := 0) (size := 1) rfl (Nat.le_refl _) rfl (by omega)
  clear hW
  go_loopw [3, 4] (fun v i wr => ∃ (k g rc : Nat), k ≤ n ∧ i = .int .i64 k ∧ v = .slice (some ⟨g, 0, none⟩) (uniqL ((xs.take k).flatMap aboveP)).length rc ∧ wr.ownsRow w.heap.size 9 1 (.slice (some ⟨g, 0, none⟩) (uniqL ((xs.take k).flatMap aboveP)).length rc) (uniqL ((xs.take k).flatMap aboveP)).length (strs (uniqL ((xs.take k).flatMap aboveP))) ∧ X w wr) (fun _ i _ => n - (intOf i).toNat)
  case atStart => exact ⟨0, w.heap.size, 0, Nat.zero_le _, rfl, rfl, hrow0, hX0⟩
  case round =>
    obtain ⟨k, g, rc, hk, rfl, rfl, hrow, hX⟩ := hrel
    clear hrow0 hX0
    by_cases hlt : k < n
    · obtain ⟨b, off, rfl, _, hb, hc, hcl⟩ := (hS.mono (hX.fr _)).at_ hlt
      have hx12 := hnm _ (nth_mem (l := xs) (k := k) (by rw [← Hl.out]; exact hlt))
      have Htk := Lib.hid (show uniqL ((xs.take (k + 1)).flatMap aboveP) = (aboveP (nth xs k)).foldl addU (uniqL ((xs.take k).flatMap aboveP)) by rw [flat_next (by rw [← Hl.out]; exact hlt), uniqL_app])
      have hll : (uniqL ((xs.take k).flatMap aboveP)).length ≤ 24 := by
        have h1 := @uniqL_len ((xs.take k).flatMap aboveP)
        have h2 := flat_len (xs.take k)
        rw [List.length_take] at h2
        omega
      have hsh : ∀ x ∈ uniqL ((xs.take k).flatMap aboveP), x.length ≤ 12 := fun x hx => flat_short _ x (mem_uniqL.1 hx)
      obtain ⟨A, hA⟩ : ∃ A, uniqL ((xs.take k).flatMap aboveP) = A := ⟨_, rfl⟩
      rw [hA] at hrow hll hsh Htk ⊢
      clear hA
      generalize nth xs k = x at *
      have hal := aboveP_len x
      have hash := @aboveP_short x
      have hgl := hrow.lt g rfl
      obtain ⟨wo, rfl⟩ : ∃ wo, wo = wr := ⟨_, rfl⟩
      go_wp2_with fail
      refine (above_s x wo hx12).mono ?_
      rintro _ w5 ⟨ua, uc, rfl, hO5, hx5⟩
      have hS5 := StrsAt.of_own hO5 (by omega) (fun y hy => by have := hash y hy; omega)
      have hrow5 := own_fr hrow (hx5.fr _)
      have hX5 := hX.trans hx5
      have hs5 := hx5.size
      clear hO5 hrow
      obtain ⟨U, hU⟩ : ∃ U, aboveP x = U := ⟨_, rfl⟩
      rw [hU] at hS5 hal hash Htk ⊢
      clear hU
      obtain ⟨m, hm⟩ : ∃ m, U.length = m := ⟨_, rfl⟩
      rw [hm] at hS5 hal ⊢
      have Hm := Lib.hid hm
      clear hm
      have hfr0 : Fr wo.heap.size w5 w5 := Fr.refl _ _
      go_wp2
      go_loopw [3, 6] (fun v i wr => ∃ (j g2 rc2 : Nat), j ≤ m ∧ i = .int .i64 j ∧ v = .slice (some ⟨g2, 0, none⟩) ((U.take j).foldl addU A).length rc2 ∧ wr.ownsRow w.heap.size 9 1 (.slice (some ⟨g2, 0, none⟩) ((U.take j).foldl addU A).length rc2) ((U.take j).foldl addU A).length (strs ((U.take j).foldl addU A)) ∧ X w wr ∧ Fr wo.heap.size w5 wr ∧ (g2 < wo.heap.size ∨ w5.heap.size ≤ g2)) (fun _ i _ => m - (intOf i).toNat)
      case atStart => exact ⟨0, g, rc, Nat.zero_le _, rfl, rfl, hrow5, hX5, hfr0, .inl hgl.2⟩
      case round =>
        obtain ⟨j, g2, rc2, hj, rfl, rfl, hrow2, hX2, hFr, hg2⟩ := hrel
        by_cases hjt : j < m
        · obtain ⟨b2, off2, rfl, _, hb2, hc2, hl2⟩ := (hS5.mono hFr).at_ hjt
          have Htj := Lib.hid (@fold_take A U j (by rw [Hm.out]; exact hjt))
          have hshj : ∀ x ∈ (U.take j).foldl addU A, x.length ≤ 4194304 := fun y hy => by
            rcases mem_foldU.1 hy with hy | hy
            · have := hsh y hy; omega
            · have := hash y (List.mem_of_mem_take hy); omega
          have hlj : ((U.take j).foldl addU A).length ≤ 27 := by
            have := @foldU_len (U.take j) A
            rw [List.length_take] at this
            omega
          obtain ⟨D, hD⟩ : ∃ D, (U.take j).foldl addU A = D := ⟨_, rfl⟩
          rw [hD] at hrow2 hshj hlj Htj ⊢
          clear hD
          generalize nth U j = y at *
          have hg2l := hrow2.lt g2 rfl
          have hsF := hFr.size
          go_wp2_with fail
          refine (hasTextS_c D _ _ rc2 _ y wr (StrsAt.of_own hrow2 (by omega) hshj)).mono ?_
          rintro _ w6 ⟨rfl, hx6⟩
          have hrow6 := own_fr hrow2 (hx6.fr _)
          have hX6 := hX2.trans hx6
          have hFr6 := hFr.trans (hx6.fr _)
          have hs6 := hx6.size
          have hc6 := (hx6.cell (p := ⟨b2, _, none⟩) hb2).trans hc2
          have hb6 : b2 < w6.heap.size := Nat.lt_of_lt_of_le hb2 hs6
          clear hrow2 hX2 hFr hx6 hc2 hb2
          cases hh : hasS D y
          · have he : addU D y = D ++ [y] := by rw [addU, hh]; rfl
            go_wp2_with (at_builtin; refine wpList_append_gat str_T rfl _ _ rfl hrow6 rfl rfl rfl rfl (by simp [Value.oneCell']) (by omega) (by omega) (by omega) ?_; intro g7 c7 w7 hO7 hg7 hat7)
            go_roundw
            case rel =>
              have hs7 := hg7.size
              rw [World.size_alloc] at hs7
              exact ⟨j + 1, g7, c7, by omega, by go_num, by rw [Htj.out, he, List.length_append]; rfl, by
                rw [Htj.out, he, List.length_append, strs_map, List.map_append]
                rw [strs_map] at hO7
                exact hO7, x_own (v := .slice (some ⟨g2, 0, none⟩) D.length rc2) (X.alloc hX6 _) (hrow6.alloc _) (Nat.le_refl _) hg7, fr_grown (hFr6.trans (X.fr (X.alloc (X.refl _) _) _)) hg7 hg2, by
                rcases hat7 with rfl | h
                · exact hg2
                · exact .inr (by omega)⟩
            case measure => simp [intOf]; omega
          · have he : addU D y = D := by rw [addU, hh]; rfl
            go_wp2
            go_roundw
            case rel => exact ⟨j + 1, g2, rc2, by omega, by go_num, by rw [Htj.out, he], by rw [Htj.out, he]; exact hrow6, hX6, hFr6, hg2⟩
            case measure => simp [intOf]; omega
        · obtain rfl : j = m := by omega
          have hall : U.take j = U := List.take_of_length_le (by rw [Hm.out]; exact Nat.le_refl _)
          rw [hall] at hrow2 ⊢
          go_wp2
          go_roundw
          case rel => exact ⟨k + 1, g2, rc2, by omega, by go_num, by rw [Htk.out], by rw [Htk.out]; exact hrow2, hX2⟩
          case measure => simp [intOf]; omega
    · obtain rfl : k = n := by omega
      have hall : xs.take k = xs := List.take_of_length_le (by rw [← Hl.out]; exact Nat.le_refl _)
      rw [hall, HV.out] at hrow
      rw [hall, HV.out]
      go_wp2
      go_ret
      exact ⟨_, _, rfl, StrsAt.of_own hrow (by omega) hVs, hX⟩

set_option maxRecDepth 100000 in
set_option maxHeartbeats 2000000 in
theorem edges_s (l : List Fi) (a : Option Addr) (n c B : Nat) (path : List Int) (pa : Option Addr) (pn pc Bp : Nat) (s : List UInt8) (w : World) (hF : FilesAt w B a n l) (hI : IntsAt w Bp pa pn path) (hpc : pn ≤ pc) (hs : nameB s = true) (hv : specB l path s = specF l path s) :
    Calls Tryz.prog 62 #[.agg #[.slice a n c], .slice pa pn pc, .string ⟨(s).toArray⟩] w fun e w' => ∃ qa qc, e = .returned (.slice qa (edgesL l path s).length qc) ∧ StrsAt w' w.heap.size qa (edgesL l path s).length (edgesL l path s) ∧ X w w' := by
  have hsl := nameB_len hs
  have hn8 := @needsL_le l path s
  have hnn : ∀ x ∈ needsL l path s, nameB x = true := fun x hx => needs_name hx
  obtain ⟨V, hV⟩ : ∃ V, edgesL l path s = V := ⟨_, rfl⟩
  rw [hV]
  rw [edgesL] at hV
  obtain ⟨N, hN⟩ : ∃ N, needsL l path s = N := ⟨_, rfl⟩
  rw [hN] at hn8 hnn hV
  have HV := Lib.hid hV
  have HN := Lib.hid hN
  clear hV hN
  go_enter Tryz.func62, Tryz.ntmps62
  go_wp2_with fail
  refine calls_name (fun W hW => ?_)
  have hX0 : X w W := by rw [hW]; (repeat (first | with_reducible exact X.refl _ | with_reducible assumption | with_reducible refine X.setCell ?_ (by first | (simp; done) | (simp; omega)) _ | with_reducible refine X.ext ?_ _ | with_reducible refine X.alloc ?_ _ | with_reducible refine X.drew ?_))
  clear hW
  refine (needsOf_s l a n c _ path pa pn pc _ s W (hF.mono (hX0.fr _)) (hI.mono (hX0.fr _)) hpc hs hv).mono ?_
  rw [HN.out]
  rintro _ w1 ⟨qa, qc, rfl, hS1, hx1⟩
  go_wp2_with fail
  refine (full_s N qa _ qc _ w1 hS1 hn8 hnn).mono ?_
  rw [HV.out]
  rintro _ w2 ⟨ra, rc, rfl, hS2, hx2⟩
  go_wp2
  go_ret
  exact ⟨ra, rc, rfl, hS2.less (hX0.trans hx1).size, (hX0.trans hx1).trans hx2⟩

set_option maxRecDepth 100000 in
set_option maxHeartbeats 2000000 in
theorem EdgesOf_s (l : List Fi) (a : Option Addr) (n c B : Nat) (path : List Int) (pa : Option Addr) (pn pc Bp : Nat) (s : List UInt8) (w : World) (hF : FilesAt w B a n l) (hI : IntsAt w Bp pa pn path) (hpc : pn ≤ pc) (hsl : s.length ≤ 4194304) :
    Calls Tryz.prog 31 #[.agg #[.slice a n c], .slice pa pn pc, .string ⟨(s).toArray⟩] w fun e w' => ∃ qa qc, e = .returned (.slice qa (edgesL l path s).length qc) ∧ StrsAt w' w.heap.size qa (edgesL l path s).length (edgesL l path s) ∧ X w w' := by
  obtain ⟨V, hV⟩ : ∃ V, edgesL l path s = V := ⟨_, rfl⟩
  rw [hV]
  have HV := Lib.hid hV
  clear hV
  cases hval : (treeB l && pathB path && nameB s)
  · obtain rfl : V = [] := by rw [← HV.out, edgesL, needsL, needN, specB, hval]; rfl
    cases h1 : treeB l <;> cases h2 : pathB path <;> cases h3 : nameB s
    case true.true.true => rw [h1, h2, h3] at hval; cases hval
    all_goals
      clear hval
      go_enter Tryz.func31, Tryz.ntmps31
      go_wp2_with (first | (go_at_call 39; refine (validTree_c _ _ _ _ _ _ (hF.mono (X.fr (by (repeat (first | exact X.refl _ | assumption | refine X.ext ?_ _ | refine X.alloc ?_ _ | refine X.drew ?_))) _))).mono ?_; rintro _ _ ⟨rfl, hx⟩; obtain ⟨x, rfl⟩ := hx.of_ext) | (go_at_call 39; refine (validTree_c _ _ _ _ _ _ (hF.mono (X.fr (by (repeat (first | exact X.refl _ | assumption | refine X.ext ?_ _ | refine X.alloc ?_ _ | refine X.drew ?_))) _))).mono ?_; rintro _ _ ⟨rfl, ⟨x, rfl⟩⟩) | (go_at_call 53; refine (validPath_c _ _ _ _ _ _ (hI.mono (X.fr (by (repeat (first | exact X.refl _ | assumption | refine X.ext ?_ _ | refine X.alloc ?_ _ | refine X.drew ?_))) _)) hpc).mono ?_; rintro _ _ ⟨rfl, hx⟩; obtain ⟨x, rfl⟩ := hx.of_ext) | (go_at_call 54; refine (validName_c _ _ hsl).mono ?_; rintro _ _ ⟨rfl, hx⟩; obtain ⟨x, rfl⟩ := hx.of_ext))
      go_ret
      exact ⟨_, _, rfl, strsAt_nil _ _, by (repeat (first | exact X.refl _ | assumption | refine X.ext ?_ _ | refine X.alloc ?_ _ | refine X.drew ?_))⟩
  · have hvv : specB l path s = specF l path s := by rw [specB, hval]; rfl
    simp only [Bool.and_eq_true] at hval
    obtain ⟨⟨h1, h2⟩, h3⟩ := hval
    cases hk : (specF l path s).kind == 0
    · have hk0 : ¬ (specF l path s).kind = 0 := by simpa using hk
      go_enter Tryz.func31, Tryz.ntmps31
      go_wp2_with (first | (go_at_call 39; refine (validTree_c _ _ _ _ _ _ (hF.mono (X.fr (by (repeat (first | exact X.refl _ | assumption | refine X.ext ?_ _ | refine X.alloc ?_ _ | refine X.drew ?_))) _))).mono ?_; rintro _ _ ⟨rfl, hx⟩; obtain ⟨x, rfl⟩ := hx.of_ext) | (go_at_call 39; refine (validTree_c _ _ _ _ _ _ (hF.mono (X.fr (by (repeat (first | exact X.refl _ | assumption | refine X.ext ?_ _ | refine X.alloc ?_ _ | refine X.drew ?_))) _))).mono ?_; rintro _ _ ⟨rfl, ⟨x, rfl⟩⟩) | (go_at_call 53; refine (validPath_c _ _ _ _ _ _ (hI.mono (X.fr (by (repeat (first | exact X.refl _ | assumption | refine X.ext ?_ _ | refine X.alloc ?_ _ | refine X.drew ?_))) _)) hpc).mono ?_; rintro _ _ ⟨rfl, hx⟩; obtain ⟨x, rfl⟩ := hx.of_ext) | (go_at_call 54; refine (validName_c _ _ hsl).mono ?_; rintro _ _ ⟨rfl, hx⟩; obtain ⟨x, rfl⟩ := hx.of_ext) | (go_at_call 55; refine (find_s l _ _ _ B path _ _ _ Bp s _ (hF.mono (X.fr (by (repeat (first | exact X.refl _ | assumption | refine X.ext ?_ _ | refine X.alloc ?_ _ | refine X.drew ?_))) _)) (hI.mono (X.fr (by (repeat (first | exact X.refl _ | assumption | refine X.ext ?_ _ | refine X.alloc ?_ _ | refine X.drew ?_))) _)) hpc h3).mono ?_; rintro _ w5 ⟨v5, rfl, ⟨a5, c5, rfl, hc5, hI5⟩, hx5⟩; obtain ⟨x5, rfl⟩ := hx5.of_ext) | (go_at_call 62; refine (edges_s l _ _ _ B path _ _ _ Bp s _ (hF.mono (X.fr (by (repeat (first | exact X.refl _ | assumption | refine X.ext ?_ _ | refine X.alloc ?_ _ | refine X.drew ?_))) _)) (hI.mono (X.fr (by (repeat (first | exact X.refl _ | assumption | refine X.ext ?_ _ | refine X.alloc ?_ _ | refine X.drew ?_))) _)) hpc h3 hvv).mono ?_; rw [HV.out]; rintro _ w6 ⟨qa, qc, rfl, hSq, hx6⟩; obtain ⟨x6, rfl⟩ := hx6.of_ext))
      go_ret
      exact ⟨qa, qc, rfl, hSq.less (by first | (simp [World.size_ext]; done) | (simp [World.size_ext]; omega)), by (repeat (first | exact X.refl _ | assumption | refine X.ext ?_ _ | refine X.alloc ?_ _ | refine X.drew ?_))⟩
    · have hk0 : (specF l path s).kind = 0 := by simpa using hk
      obtain rfl : V = [] := by
        have := specB_k0 (l := l) (path := path) (s := s) (by rw [hvv]; exact hk0)
        rw [← HV.out, edgesL, needsL, needN, if_pos (by omega)]
        rfl
      go_enter Tryz.func31, Tryz.ntmps31
      go_wp2_with (first | (go_at_call 39; refine (validTree_c _ _ _ _ _ _ (hF.mono (X.fr (by (repeat (first | exact X.refl _ | assumption | refine X.ext ?_ _ | refine X.alloc ?_ _ | refine X.drew ?_))) _))).mono ?_; rintro _ _ ⟨rfl, hx⟩; obtain ⟨x, rfl⟩ := hx.of_ext) | (go_at_call 39; refine (validTree_c _ _ _ _ _ _ (hF.mono (X.fr (by (repeat (first | exact X.refl _ | assumption | refine X.ext ?_ _ | refine X.alloc ?_ _ | refine X.drew ?_))) _))).mono ?_; rintro _ _ ⟨rfl, ⟨x, rfl⟩⟩) | (go_at_call 53; refine (validPath_c _ _ _ _ _ _ (hI.mono (X.fr (by (repeat (first | exact X.refl _ | assumption | refine X.ext ?_ _ | refine X.alloc ?_ _ | refine X.drew ?_))) _)) hpc).mono ?_; rintro _ _ ⟨rfl, hx⟩; obtain ⟨x, rfl⟩ := hx.of_ext) | (go_at_call 54; refine (validName_c _ _ hsl).mono ?_; rintro _ _ ⟨rfl, hx⟩; obtain ⟨x, rfl⟩ := hx.of_ext) | (go_at_call 55; refine (find_s l _ _ _ B path _ _ _ Bp s _ (hF.mono (X.fr (by (repeat (first | exact X.refl _ | assumption | refine X.ext ?_ _ | refine X.alloc ?_ _ | refine X.drew ?_))) _)) (hI.mono (X.fr (by (repeat (first | exact X.refl _ | assumption | refine X.ext ?_ _ | refine X.alloc ?_ _ | refine X.drew ?_))) _)) hpc h3).mono ?_; rintro _ w5 ⟨v5, rfl, ⟨a5, c5, rfl, hc5, hI5⟩, hx5⟩; obtain ⟨x5, rfl⟩ := hx5.of_ext))
      go_ret
      exact ⟨_, _, rfl, strsAt_nil _ _, by (repeat (first | exact X.refl _ | assumption | refine X.ext ?_ _ | refine X.alloc ?_ _ | refine X.drew ?_))⟩

end Go.Proofs.YtlpbgingggnjpaaGreatDoor
