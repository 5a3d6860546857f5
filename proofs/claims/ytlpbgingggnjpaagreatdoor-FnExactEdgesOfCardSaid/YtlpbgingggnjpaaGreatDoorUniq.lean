/- Lists with each text once: the program's own function. No condition but lengths. -/
import Derived.Test.YtlpbgingggnjpaaGreatDoorNeedW
import Derived.Test.YtlpbgingggnjpaaGreatDoorModsW
namespace Go.Proofs.YtlpbgingggnjpaaGreatDoor
open Go.RowKit

theorem ContainsS_c (l : List (List UInt8)) (a : Option Addr) (n c B : Nat) (x : List UInt8) (w : World) (hS : StrsAt w B a n l) :
    Calls Tryz.prog 96 #[.slice a n c, .string ⟨(x).toArray⟩] w fun e w' => e = .returned (.bool (hasS l x)) ∧ w = w' := by
  have hl := hS.1
  rcases Nat.eq_zero_or_pos n with rfl | h0
  · obtain rfl : l = [] := List.eq_nil_of_length_eq_zero hl.symm
    exact (Tryz.slices_Contains_string_empty a c ⟨x.toArray⟩ w).mono fun e w' ⟨he, hw⟩ => ⟨he, hw.symm⟩
  · obtain ⟨b, off, rfl, _, _, _, _⟩ := hS.at_ (k := 0) (by omega)
    have hn := hS.2.1
    refine (Tryz.slices_Contains_string b off n c (l.map fun y => ByteArray.mk y.toArray) ⟨x.toArray⟩ w (by rw [List.length_map]; omega) (by omega) (fun j hj => ?_)).mono ?_
    · rw [List.length_map] at hj
      obtain ⟨b', off', hb, _, _, hc, _⟩ := hS.at_ (k := j) (by omega)
      simp only [Option.some.injEq, Addr.mk.injEq, and_true] at hb
      obtain ⟨rfl, rfl⟩ := hb
      rw [hc]
      simp [List.getD_eq_getElem?_getD, hj, nth_eq hj]
    · rintro e w' ⟨rfl, rfl⟩
      refine ⟨?_, rfl⟩
      congr 2
      rw [Bool.eq_iff_iff, Lib.containsS_iff, hasS_iff, hl, ← List.length_map (f := fun y => ByteArray.mk y.toArray), List.take_length, List.mem_map]
      constructor
      · rintro ⟨y, hy, e⟩
        injection e with e
        have : y = x := by simpa using congrArg Array.toList e
        exact this ▸ hy
      · exact fun h => ⟨x, h, rfl⟩

theorem uniqL_take {xs : List (List UInt8)} {k : Nat} (hk : k < xs.length) : uniqL (xs.take (k + 1)) = addU (uniqL (xs.take k)) (nth xs k) := by
  rw [take_succ_nth hk, uniqL_snoc]
set_option maxRecDepth 100000 in
set_option maxHeartbeats 1000000 in
theorem unique_i (xs : List (List UInt8)) (a : Option Addr) (n c B : Nat) (w : World) (hS : StrsAt w B a n xs) (hn : n ≤ 1048576) :
    Calls Tryz.prog 60 #[.slice a n c] w fun e w' => ∃ ra rc, e = .returned (.slice ra (uniqL xs).length rc) ∧ w'.ownsRow w.heap.size 9 1 (.slice ra (uniqL xs).length rc) (uniqL xs).length (strs (uniqL xs)) ∧ X w w' := by
  have Hl := Lib.hid hS.1
  have hxs := hS.2.2.1
  go_enter Tryz.func60, Tryz.ntmps60
  go_wp2
  go_loopw [3, 9] (fun v i wr => ∃ (k : Nat) (ra : Option Addr) (rc : Nat), k ≤ n ∧ i = .int .i64 k ∧ v = .slice ra (uniqL (xs.take k)).length rc ∧ wr.ownsRow w.heap.size 9 1 (.slice ra (uniqL (xs.take k)).length rc) (uniqL (xs.take k)).length (strs (uniqL (xs.take k))) ∧ X w wr) (fun _ i _ => n - (intOf i).toNat)
  case atStart => exact ⟨0, _, _, Nat.zero_le _, rfl, rfl, own_lit (n := 0) (size := 1) rfl (Nat.le_refl _) rfl (by omega), by (repeat (first | with_reducible exact X.refl _ | with_reducible assumption | with_reducible refine X.setCell ?_ (by first | (simp; done) | (simp; omega)) _ | with_reducible refine X.ext ?_ _ | with_reducible refine X.alloc ?_ _ | with_reducible refine X.drew ?_))⟩
  case round =>
    obtain ⟨k, ra, rc, hk, rfl, rfl, hrow, hX⟩ := hrel
    by_cases hlt : k < n
    · obtain ⟨b, off, rfl, _, hb, hc, hcl⟩ := (hS.mono (hX.fr _)).at_ hlt
      have Htk := Lib.hid (@uniqL_take xs k (by rw [← Hl.out]; exact hlt))
      have hul : (uniqL (xs.take k)).length ≤ n := by
        have := @uniqL_len (xs.take k)
        rw [List.length_take] at this
        omega
      have hus : ∀ x ∈ uniqL (xs.take k), x.length ≤ 4194304 := fun x hx => hxs x (List.mem_of_mem_take (mem_uniqL.1 hx))
      obtain ⟨A, hA⟩ : ∃ A, uniqL (xs.take k) = A := ⟨_, rfl⟩
      rw [hA] at hrow hul hus Htk ⊢
      clear hA
      generalize nth xs k = x at *
      have hsz := hX.size
      cases hh : hasS A x
      · have he : addU A x = A ++ [x] := by rw [addU, hh]; rfl
        go_wp2_with fail
        refine (ContainsS_c A ra _ rc _ x wr (StrsAt.of_own hrow (by omega) hus)).mono ?_
        rw [hh]
        rintro _ _ ⟨rfl, rfl⟩
        go_wp2_with (at_builtin; refine wpList_append_g str_T rfl _ _ rfl hrow rfl rfl rfl rfl (by simp [Value.oneCell']) (by omega) (by omega) (by omega) ?_; intro a' c' w6 hO6 hg6)
        go_roundw
        case rel => exact ⟨k + 1, a', c', by omega, by go_num, by rw [Htk.out, he, List.length_append]; rfl, by
          rw [Htk.out, he, List.length_append, strs_map, List.map_append]
          rw [strs_map] at hO6
          exact hO6, x_own (hX.alloc _) (hrow.alloc _) (Nat.le_refl _) hg6⟩
        case measure => simp [intOf]; omega
      · have he : addU A x = A := by rw [addU, hh]; rfl
        go_wp2_with fail
        refine (ContainsS_c A ra _ rc _ x wr (StrsAt.of_own hrow (by omega) hus)).mono ?_
        rw [hh]
        rintro _ _ ⟨rfl, rfl⟩
        go_wp2
        go_roundw
        case rel => exact ⟨k + 1, ra, rc, by omega, by go_num, by rw [Htk.out, he], by rw [Htk.out, he]; exact hrow, hX⟩
        case measure => simp [intOf]; omega
    · obtain rfl : k = n := by omega
      rw [Hl.out, List.take_length] at hrow
      rw [Hl.out, List.take_length]
      go_wp2
      go_ret
      exact ⟨ra, rc, rfl, hrow, hX⟩

end Go.Proofs.YtlpbgingggnjpaaGreatDoor
