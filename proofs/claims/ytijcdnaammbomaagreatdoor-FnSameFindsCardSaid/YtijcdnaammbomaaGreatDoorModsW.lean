/- ModulesOf: the walks. No condition. -/
import Derived.Test.YtijcdnaammbomaaGreatDoorTrLaw
import Derived.Test.YtijcdnaammbomaaGreatDoorIns
namespace Go.Proofs.YtijcdnaammbomaaGreatDoor
open Go.RowKit

theorem fileB_nm {f : Fi} (h : fileB f = true) : nameB (moduleB f) = true := by
  unfold fileB at h
  unfold moduleB
  simp only [Bool.and_eq_true] at h
  cases hi : f.init
  · rw [hi] at h
    simp only [Bool.false_eq_true, if_false, Bool.and_eq_true] at h ⊢
    exact h.2.2
  · rw [hi] at h
    simp only [if_true, Bool.and_eq_true, Bool.not_eq_true', List.isEmpty_eq_false_iff] at h ⊢
    exact pkgB_name h.1.1.1.2 h.2.1
theorem treeB_12 {t : List Fi} (h : treeB t = true) : t.length ≤ 12 := by
  unfold treeB at h
  simp only [Bool.and_eq_true, decide_eq_true_eq] at h
  exact h.2
theorem mods_name {t : List Fi} (h : treeB t = true) {x : List UInt8} (hx : x ∈ t.map moduleB) : x.length ≤ 12 := by
  obtain ⟨f, hf, rfl⟩ := List.mem_map.1 hx
  exact nameB_len (fileB_nm (treeB_mem h hf))
theorem modsL_len {t : List Fi} : (modsL t).length ≤ 12 := by
  unfold modsL
  split
  · rename_i h
    have h1 := sortU_len (t.map moduleB)
    have h2 := treeB_12 h
    rw [List.length_map] at h1
    omega
  · simp
theorem modsL_short {t : List Fi} : ∀ x ∈ modsL t, x.length ≤ 12 := by
  intro x hx
  unfold modsL at hx
  split at hx
  · rename_i h
    exact mods_name h ((sortU_facts _).2 x |>.1 hx)
  · simp at hx
theorem x_own {w W w' : World} {B e size n : Nat} {v : Value} {xs : List Value} (hX : X w W) (h : W.ownsRow B e size v n xs) (hB : w.heap.size ≤ B) (hg : W.grownBy w' v.ownBlock) : X w w' :=
  X.of_below (hX.below.grown hg hX.size (fun g hg => by have := (h.lt g hg).1; omega))
theorem bxC {w : World} {b : Nat} {v : Value} (h : Bx w b #[v]) : w.cell? ⟨b, 0, none⟩ = some v := h.out.2.1 0
theorem sortU_nil : sortU [] = [] := by simp [sortU, Lib.compact, Lib.compactUpTo]

set_option maxRecDepth 100000 in
set_option maxHeartbeats 1000000 in
theorem ModulesOf_i (l : List Fi) (a : Option Addr) (n c B : Nat) (w : World) (hF : FilesAt w B a n l) (hnc : n ≤ c) (hG : Gm w) :
    Calls Tryz.prog 13 #[.agg #[.slice a n c]] w fun e w' => ∃ ra rc, e = .returned (.slice ra (modsL l).length rc) ∧ w'.ownsRow w.heap.size 9 1 (.slice ra (modsL l).length rc) (modsL l).length (strs (modsL l)) ∧ X w w' := by
  obtain ⟨hl, _⟩ := hF.len
  have Hl := Lib.hid hl
  clear hl
  obtain ⟨V, hV⟩ : ∃ V, modsL l = V := ⟨_, rfl⟩
  rw [hV]
  have HV := Lib.hid hV
  clear hV
  go_enter Tryz.func13, Tryz.ntmps13
  go_wp2_with fail
  refine calls_name (fun W hW => ?_)
  have hB0 : Bx W w.heap.size #[.slice a n c] := by rw [hW]; exact Bx.x (Bx.new _ _ _) (by (repeat (first | with_reducible exact X.refl _ | with_reducible assumption | with_reducible refine X.setCell ?_ (by first | (simp; done) | (simp; omega)) _ | with_reducible refine X.ext ?_ _ | with_reducible refine X.alloc ?_ _ | with_reducible refine X.drew ?_)))
  have hX0 : X w W := by rw [hW]; (repeat (first | with_reducible exact X.refl _ | with_reducible assumption | with_reducible refine X.setCell ?_ (by first | (simp; done) | (simp; omega)) _ | with_reducible refine X.ext ?_ _ | with_reducible refine X.alloc ?_ _ | with_reducible refine X.drew ?_))
  have hrow0 : W.ownsRow (w.heap.size + 1) 9 1 (.slice (some ⟨w.heap.size + 1, 0, none⟩) 0 0) 0 [] := by rw [hW]; exact own_lit (n := 0) (size := 1) (by simp) (by simp) rfl (by omega)
  clear hW
  have t0 := bxC hB0
  have lt0 := hB0.lt
  refine (ValidTree_c l a n c _ W (hF.mono (hX0.fr _)) hnc (hG.mono hX0)).mono ?_
  rintro _ w1 ⟨rfl, hx1⟩
  have hB1 := hB0.x hx1
  replace hrow0 := own_fr hrow0 (hx1.fr _)
  have hX1 := hX0.trans hx1
  clear hx1 hB0 t0 lt0 hX0
  have t0 := bxC hB1
  have lt0 := hB1.lt
  cases ht : treeB l
  · have hv : modsL l = [] := by rw [modsL, ht]; rfl
    rw [HV.out] at hv
    subst hv
    go_wp2_with fail
    refine (sorted_c [] _ _ _ _ w1 hrow0 (by omega)).mono ?_
    rw [sortU_nil]
    rintro _ w2 ⟨ra, rc, rfl, hO2, hg2⟩
    go_wp2
    go_ret
    exact ⟨ra, rc, rfl, own_less hO2 hX1.size, x_own hX1 hrow0 (by omega) hg2⟩
  have hn12 : n ≤ 12 := by rw [Hl.out]; exact treeB_12 ht
  have hnc' := hnc
  go_wp2
  go_loopw [3, 12] (fun v i wr => ∃ (k : Nat) (ra : Option Addr) (rc : Nat), k ≤ n ∧ i = .int .i64 k ∧ v = .slice ra k rc ∧ wr.ownsRow (w.heap.size + 1) 9 1 (.slice ra k rc) k (strs ((l.take k).map moduleB)) ∧ X w wr) (fun _ i _ => n - (intOf i).toNat)
  case atStart => exact ⟨0, _, _, Nat.zero_le _, rfl, rfl, hrow0, hX1⟩
  case round =>
    obtain ⟨k, ra, rc, hk, rfl, rfl, hrow, hX⟩ := hrel
    clear t0 lt0 hB1 hrow0 hX1
    by_cases hlt : k < n
    · obtain ⟨b, off, ba, bn, bc, rfl, _, hb, hok, hbc, hSb, g0, g1, g2, g3, g4, g5⟩ := (hF.mono (hX.fr _)).at_ hlt
      have hfb := treeB_file ht (k := k) (by rw [← Hl.out]; exact hlt)
      have htk := Lib.hid (show (l.take (k + 1)).map moduleB = (l.take k).map moduleB ++ [moduleB (nth l k)] by rw [take_succ_nth (by rw [← Hl.out]; exact hlt), List.map_append]; rfl)
      generalize nth l k = f at *
      have hsz := hX.size
      go_wp2_with fail
      refine calls_name (fun W4 hW4 => ?_)
      have hX4 : X wr W4 := by rw [hW4]; (repeat (first | with_reducible exact X.refl _ | with_reducible assumption | with_reducible refine X.setCell ?_ (by first | (simp; done) | (simp; omega)) _ | with_reducible refine X.ext ?_ _ | with_reducible refine X.alloc ?_ _ | with_reducible refine X.drew ?_))
      have hs4 : wr.heap.size < W4.heap.size := by rw [hW4]; simp
      clear hW4
      refine (ModuleOf_c f ba bn bc _ W4 hok (hSb.mono (hX4.fr _)) (hG.mono (hX.trans hX4))).mono ?_
      rintro _ w5 ⟨rfl, hx5⟩
      rw [show moduleOf f = moduleB f by rw [moduleOf, hfb]; rfl]
      have hX5 := hX4.trans hx5
      have hrow5 := own_fr hrow (hX5.fr _)
      have hs5 := hx5.size
      clear hX4 hx5 hrow g0 g1 g2 g3 g4 g5 hSb hok hfb
      go_wp2_with (at_builtin; refine wpList_append_g str_T rfl _ _ rfl hrow5 rfl rfl rfl rfl (by simp [Value.oneCell']) (by omega) (by omega) (by omega) ?_; intro a' c' w6 hO6 hg6)
      go_roundw
      case rel => exact ⟨k + 1, a', c', by omega, by go_num, rfl, by
        rw [htk.out, strs_map, List.map_append]
        rw [strs_map] at hO6
        exact hO6, x_own ((hX.trans hX5).alloc _) (hrow5.alloc _) (by omega) hg6⟩
      case measure => simp [intOf]; omega
    · obtain rfl : k = n := by omega
      have hv : sortU (l.map moduleB) = V := by
        rw [← HV.out, modsL, ht]; rfl
      rw [Hl.out, List.take_length] at hrow
      rw [Hl.out]
      have hlm : (l.map moduleB).length = l.length := List.length_map ..
      go_wp2_with fail
      refine (sorted_c (l.map moduleB) _ _ _ _ wr hrow (by rw [← Hl.out]; omega)).mono ?_
      rw [hv]
      rintro _ w2 ⟨ra2, rc2, rfl, hO2, hg2⟩
      go_wp2
      go_ret
      exact ⟨ra2, rc2, rfl, own_less hO2 hX.size, x_own hX hrow (by omega) hg2⟩

theorem insAll_snoc (xs : List (List UInt8)) (x : List UInt8) : insAll [] (xs ++ [x]) = insS (insAll [] xs) x := by simp [insAll]
theorem insAll_len (xs : List (List UInt8)) : (insAll [] xs).length ≤ xs.length := by rw [insAll_sortU]; exact sortU_len xs
theorem strsAt_nil (w : World) (B : Nat) : StrsAt w B none 0 [] := ⟨rfl, by omega, (fun _ h => by cases h), fun h => absurd h (by omega)⟩
end Go.Proofs.YtijcdnaammbomaaGreatDoor
