/- PackagesOf: the walks. No condition but lengths. -/
import Derived.Test.YtgjfjjhmgbemcaaGreatDoorModsW
import Derived.Test.YtgjfjjhmgbemcaaGreatDoorLc
namespace Go.Proofs.YtgjfjjhmgbemcaaGreatDoor
open Go.RowKit

theorem packsN_next {l : List Fi} {k : Nat} (hk : k < l.length) : packsN (l.take (k + 1)) = packsN (l.take k) ++ aboveP (nth l k).pkg := by
  unfold packsN
  rw [take_succ_nth hk, List.flatMap_append]
  simp
theorem packsN_len {l : List Fi} : (packsN l).length ≤ 3 * l.length := by
  induction l with
  | nil => simp [packsN]
  | cons f l ih =>
    have := aboveP_len f.pkg
    unfold packsN at ih ⊢
    rw [List.flatMap_cons, List.length_append, List.length_cons]
    omega
theorem packsN_short {l : List Fi} : ∀ x ∈ packsN l, x.length ≤ 12 := by
  intro x hx
  obtain ⟨f, _, hx⟩ := List.mem_flatMap.1 hx
  exact aboveP_short x hx
theorem packsL_len {l : List Fi} : (packsL l).length ≤ 36 := by
  unfold packsL
  split
  · rename_i h
    have h1 := sortU_len (packsN l)
    have h2 := treeB_12 h
    have h3 := @packsN_len l
    omega
  · simp
theorem packsL_short {l : List Fi} : ∀ x ∈ packsL l, x.length ≤ 12 := by
  intro x hx
  unfold packsL at hx
  split at hx
  · exact packsN_short x ((sortU_facts _).2 x |>.1 hx)
  · simp at hx
theorem pkg_12 {f : Fi} (h : fileB f = true) : f.pkg.length ≤ 12 := by
  have h1 := fileB_pkgB h
  cases h2 : f.pkg with
  | nil => simp
  | cons x y => rw [← h2]; exact nameB_len (pkgB_name h1 (by rw [h2]; simp))

set_option maxRecDepth 100000 in
set_option maxHeartbeats 1000000 in
theorem PackagesOf_i (l : List Fi) (a : Option Addr) (n c B : Nat) (w : World) (hF : FilesAt w B a n l) (hnc : n ≤ c) (hG : Gm w) :
    Calls Tryz.prog 29 #[.agg #[.slice a n c]] w fun e w' => ∃ ra rc, e = .returned (.slice ra (packsL l).length rc) ∧ w'.ownsRow w.heap.size 9 1 (.slice ra (packsL l).length rc) (packsL l).length (strs (packsL l)) ∧ X w w' := by
  obtain ⟨hl, _⟩ := hF.len
  have Hl := Lib.hid hl
  clear hl
  obtain ⟨V, hV⟩ : ∃ V, packsL l = V := ⟨_, rfl⟩
  rw [hV]
  have HV := Lib.hid hV
  clear hV
  go_enter Tryz.func29, Tryz.ntmps29
  go_wp2_with fail
  refine calls_name (fun W hW => ?_)
  have hB0 : Bx W w.heap.size #[.slice a n c] := by rw [hW]; exact Bx.x (Bx.new _ _ _) (by (repeat (first | with_reducible exact X.refl _ | with_reducible assumption | with_reducible refine X.setCell ?_ (by first | (simp; done) | (simp; omega)) _ | with_reducible refine X.ext ?_ _ | with_reducible refine X.alloc ?_ _ | with_reducible refine X.drew ?_)))
  have hX0 : X w W := by rw [hW]; (repeat (first | with_reducible exact X.refl _ | with_reducible assumption | with_reducible refine X.setCell ?_ (by first | (simp; done) | (simp; omega)) _ | with_reducible refine X.ext ?_ _ | with_reducible refine X.alloc ?_ _ | with_reducible refine X.drew ?_))
  have hrow0 : W.ownsRow (w.heap.size + 1) 9 1 (.slice (some ⟨w.heap.size + 1, 0, none⟩) 0 0) 0 [] := by rw [hW]; exact own_lit (n := 0) (size := 1) (by simp) (by simp) rfl (by omega)
  clear hW
  have t0 := bxC hB0
  have lt0 := hB0.lt
  refine (ValidTree_c l a n c _ W (hF.mono (hX0.fr _)) hnc (hG.mono hX0)).mono ?_
  rintro _ w1 ⟨rfl, hx1⟩
  have hB1 := hB0.x hx1
  replace hrow0 := own_fr hrow0 (hx1.fr _)
  have hX1 := hX0.trans hx1
  clear hx1 hB0 t0 lt0 hX0
  have t0 := bxC hB1
  have lt0 := hB1.lt
  cases ht : treeB l
  · have hv : packsL l = [] := by rw [packsL, ht]; rfl
    rw [HV.out] at hv
    subst hv
    go_wp2_with fail
    refine (sorted_c [] _ _ _ _ w1 hrow0 (by omega)).mono ?_
    rw [sortU_nil]
    rintro _ w2 ⟨ra, rc, rfl, hO2, hg2⟩
    go_wp2
    go_ret
    exact ⟨ra, rc, rfl, own_less hO2 hX1.size, x_own hX1 hrow0 (by omega) hg2⟩
  have hn12 : n ≤ 12 := by rw [Hl.out]; exact treeB_12 ht
  have hnc' := hnc
  go_wp2
  go_loopw [3, 12] (fun v i wr => ∃ (k : Nat) (ra : Option Addr) (rc : Nat), k ≤ n ∧ i = .int .i64 k ∧ v = .slice ra (packsN (l.take k)).length rc ∧ wr.ownsRow (w.heap.size + 1) 9 1 (.slice ra (packsN (l.take k)).length rc) (packsN (l.take k)).length (strs (packsN (l.take k))) ∧ X w wr) (fun _ i _ => n - (intOf i).toNat)
  case atStart => exact ⟨0, _, _, Nat.zero_le _, rfl, rfl, hrow0, hX1⟩
  case round =>
    obtain ⟨k, ra, rc, hk, rfl, rfl, hrow, hX⟩ := hrel
    clear t0 lt0 hB1 hrow0 hX1
    by_cases hlt : k < n
    · obtain ⟨b, off, ba, bn, bc, rfl, _, hb, hok, hbc, hSb, g0, g1, g2, g3, g4, g5⟩ := (hF.mono (hX.fr _)).at_ hlt
      have hfb := treeB_file ht (k := k) (by rw [← Hl.out]; exact hlt)
      have htk := Lib.hid (@packsN_next l k (by rw [← Hl.out]; exact hlt))
      have hll : (packsN (l.take k)).length ≤ 36 := by
        have := @packsN_len (l.take k)
        rw [List.length_take] at this
        omega
      have hpk := pkg_12 hfb
      obtain ⟨A, hA⟩ : ∃ A, packsN (l.take k) = A := ⟨_, rfl⟩
      rw [hA] at hrow hll htk ⊢
      clear hA
      generalize nth l k = f at *
      have hsz := hX.size
      go_wp2_with fail
      refine calls_name (fun W4 hW4 => ?_)
      have hX4 : X wr W4 := by rw [hW4]; (repeat (first | with_reducible exact X.refl _ | with_reducible assumption | with_reducible refine X.setCell ?_ (by first | (simp; done) | (simp; omega)) _ | with_reducible refine X.ext ?_ _ | with_reducible refine X.alloc ?_ _ | with_reducible refine X.drew ?_))
      have hs4 : wr.heap.size < W4.heap.size := by rw [hW4]; simp
      clear hW4
      refine (NamesAbove_p f.pkg W4 (by omega) (hG.mono (hX.trans hX4))).mono ?_
      rintro _ w5 ⟨sa, sc, rfl, hO5, hx5⟩
      have hX5 := hX4.trans hx5
      have hrow5 := own_fr hrow (hX5.fr _)
      have hs5 := hx5.size
      have hpl := aboveP_len f.pkg
      clear hX4 hx5 hrow g0 g1 g2 g3 g4 g5 hSb hok hfb
      obtain ⟨U, hU⟩ : ∃ U, aboveP f.pkg = U := ⟨_, rfl⟩
      rw [hU] at hO5 hpl htk ⊢
      clear hU
      have hUl : (strs U).length = U.length * 1 := by rw [strs_len, Nat.mul_one]
      have hU1 := strs_one U
      go_wp2_with (at_builtin; refine wpList_append_sl str_T rfl _ _ rfl hrow5 rfl rfl (Sl.of_own hO5) hUl hU1 (by omega) (by unfold maxLen; omega) (by omega) ?_; intro a' c' w6 hO6 hg6)
      go_roundw
      case rel => exact ⟨k + 1, a', c', by omega, by go_num, by rw [htk.out, List.length_append], by
        rw [htk.out, List.length_append, strs_map, List.map_append, ← strs_map, ← strs_map]
        exact hO6, x_own (hX.trans hX5) hrow5 (by omega) hg6⟩
      case measure => simp [intOf]; omega
    · obtain rfl : k = n := by omega
      have hv : sortU (packsN l) = V := by
        rw [← HV.out, packsL, ht]; rfl
      have h3 := @packsN_len l
      rw [Hl.out, List.take_length] at hrow
      rw [Hl.out, List.take_length]
      go_wp2_with fail
      refine (sorted_c (packsN l) _ _ _ _ wr hrow (by have := Hl.out; omega)).mono ?_
      rw [hv]
      rintro _ w2 ⟨ra2, rc2, rfl, hO2, hg2⟩
      go_wp2
      go_ret
      exact ⟨ra2, rc2, rfl, own_less hO2 hX.size, x_own hX hrow (by omega) hg2⟩

theorem insAll_app (l xs ys : List (List UInt8)) : insAll l (xs ++ ys) = insAll (insAll l xs) ys := by simp [insAll]
theorem insAll_lenL : ∀ {xs l : List (List UInt8)}, (insAll l xs).length ≤ l.length + xs.length
  | [], l => by simp [insAll]
  | y :: xs, l => by
    show (insAll (insS l y) xs).length ≤ _
    have h1 := @insAll_lenL xs (insS l y)
    have h2 : (insS l y).length ≤ l.length + 1 := by
      unfold insS
      split
      · omega
      · rw [List.length_append, List.length_cons, List.length_take, List.length_drop]
        have := posS_le l y l.length
        omega
    rw [List.length_cons]
    omega
end Go.Proofs.YtgjfjjhmgbemcaaGreatDoor
