/- The walk of the law FnEdgesOf. -/
import Derived.Test.YtlpbgingggnjpaaGreatDoorEdgS
import Derived.Test.YtlpbgingggnjpaaGreatDoorRises
import Derived.Test.YtlpbgingggnjpaaGreatDoorDrawName
namespace Go.Proofs.YtlpbgingggnjpaaGreatDoor
open Go.RowKit

theorem edges_le {l : List Fi} {path : List Int} {s : List UInt8} : (edgesL l path s).length ≤ 24 := by
  unfold edgesL
  have h1 := @uniqL_len ((needsL l path s).flatMap aboveP)
  have h2 := flat_len (needsL l path s)
  have h3 := @needsL_le l path s
  omega
theorem edges_sh {l : List Fi} {path : List Int} {s : List UInt8} : ∀ x ∈ edgesL l path s, x.length ≤ 4194304 := fun x hx => by have := flat_short _ x (mem_uniqL.1 hx); omega
theorem edges_first {V : List (List UInt8)} (hu : upIn V) {i : Nat} (hi : i < V.length) (hp : parentF (nth V i) ≠ []) : ∃ j : Nat, j < i ∧ firstN (fun k => nth V k == parentF (nth V i)) V.length = (j : Int) := by
  obtain ⟨j, hj, e⟩ := hu i hi hp
  rcases firstN_cases (fun k => nth V k == parentF (nth V i)) V.length with ⟨h1, _⟩ | ⟨k, hk, h1, h2, h3⟩
  · have := anyN_false.1 h1 j (by omega)
    rw [e] at this
    simp at this
  · refine ⟨k, ?_, h3⟩
    rcases Nat.lt_or_ge j k with h4 | h4
    · have := anyN_false.1 h2 j h4
      rw [e] at this
      simp at this
    · omega

set_option maxRecDepth 100000 in
set_option maxHeartbeats 4000000 in
theorem FnEdgesOf_c (ca : Option Addr) (cn cc : Nat) (w : World) (hC : CodeAt w ca cn cc) (hG : Gm w) :
    Calls Tryz.prog 6 #[.slice ca cn cc] w fun e w' => e = .returned (.bool true) ∧ X w w' := by
  by_cases hbig : 1048576 < cn
  · go_enter Tryz.func6, Tryz.ntmps6
    go_wp2
    go_ret
    exact ⟨by simp, by (repeat (first | exact X.refl _ | assumption | refine X.ext ?_ _ | refine X.alloc ?_ _ | refine X.drew ?_))⟩
  · go_enter Tryz.func6, Tryz.ntmps6
    go_wp2_with fail
    refine (DrawEdgesOf_c ca cn cc _ hC (by omega)).mono ?_
    rintro _ W1 ⟨l, a, n, c, path, pa, pn, pc, s, rfl, hF, hnc, hn11, hsm, hI, hpc, hpn3, hsl, hx1⟩
    have hlen := @edges_le l path s
    have hVs := @edges_sh l path s
    have hup := @edges_up l path s
    have hN8 := @needsL_le l path s
    have hNs := @needsL_sh l path s
    have hin : ∀ x ∈ needsL l path s, x ∈ edgesL l path s := fun x hx => needs_in_edges hx
    obtain ⟨V, hV⟩ : ∃ V, edgesL l path s = V := ⟨_, rfl⟩
    obtain ⟨N, hN⟩ : ∃ N, needsL l path s = N := ⟨_, rfl⟩
    rw [hV] at hlen hVs hup hin
    rw [hN] at hN8 hNs hin
    have HV := Lib.hid hV
    have HN := Lib.hid hN
    have Hup := Lib.hid hup
    have Hin := Lib.hid hin
    clear hV hN hup hin
    go_wp2_with fail
    refine calls_name (fun W2 hW2 => ?_)
    have hB2 : Bx W2 W1.heap.size #[.slice a n c] := by rw [hW2]; first | exact Bx.new _ _ _ | exact Bx.set (Bx.new _ _ _) 0 _
    have hx2 : X W1 W2 := by rw [hW2]; (repeat (first | with_reducible exact X.refl _ | with_reducible assumption | with_reducible refine X.setCell ?_ (by first | (simp; done) | (simp; omega)) _ | with_reducible refine X.ext ?_ _ | with_reducible refine X.alloc ?_ _ | with_reducible refine X.drew ?_))
    clear hW2
    have hxw := hx1.trans hx2
    replace hF := hF.mono (hx2.fr _)
    replace hI := hI.mono (hx2.fr _)
    replace hG := hG.mono hxw
    clear hx1 hx2
    refine (EdgesOf_i l a n c _ path pa pn pc _ s W2 hF hnc hI hpc (by omega) hG).mono ?_
    rw [HV.out]
    rintro _ W3 ⟨ra, rc, rfl, hO, hx3⟩
    have hS3 := StrsAt.of_own hO (by omega) hVs
    have hB3 := hB2.x hx3
    clear hO hB2
    have t0 := bxC hB3
    have lt0 := hB3.lt
    go_wp2_with fail
    refine (EdgesOf_s l a n c _ path pa pn pc _ s W3 (hF.mono (hx3.fr _)) (hI.mono (hx3.fr _)) hpc (by omega)).mono ?_
    rw [HV.out]
    rintro _ W4 ⟨ra4, rc4, rfl, hS4, hx4⟩
    go_wp2_with fail
    refine (equalTexts_c V V ra ra4 _ _ rc rc4 _ _ W4 (hS3.mono (hx4.fr _)) hS4).mono ?_
    rintro _ W5 ⟨rfl, hx5⟩
    rw [decide_eq_true (rfl : V = V)]
    have hx35 := hx4.trans hx5
    have hx25 := hx3.trans hx35
    have hS5 := hS3.mono (hx35.fr _)
    have hB5 := hB3.x hx35
    replace hxw := hxw.trans hx25
    replace hF := hF.mono (hx25.fr _)
    replace hI := hI.mono (hx25.fr _)
    replace hG := hG.mono hx25
    clear t0 lt0 hx3 hx4 hx5 hx35 hx25 hS3 hS4 hB3
    have t0 := bxC hB5
    have lt0 := hB5.lt
    go_wp2_with fail
    refine (CanFind_i l a n c _ path pa pn pc _ s W5 hF hnc hI hpc (by omega) hG).mono ?_
    rintro _ W6 ⟨rfl, hx6⟩
    have hS6 := hS5.mono (hx6.fr _)
    have hB6 := hB5.x hx6
    replace hxw := hxw.trans hx6
    replace hF := hF.mono (hx6.fr _)
    replace hI := hI.mono (hx6.fr _)
    replace hG := hG.mono hx6
    clear t0 lt0 hx6 hS5 hB5
    have t0 := bxC hB6
    have lt0 := hB6.lt
    cases hcb : canB l path s
    · go_wp2_with fail
      refine (EdgesOf_s l a n c _ path pa pn pc _ s W6 hF hI hpc (by omega)).mono ?_
      rw [HV.out]
      rintro _ W7 ⟨ra7, rc7, rfl, hS7, hx7⟩
      go_wp2_with fail
      refine (equalTexts_c V V ra ra7 _ _ rc rc7 _ _ W7 (hS6.mono (hx7.fr _)) hS7).mono ?_
      rintro _ W8 ⟨rfl, hx8⟩
      rw [decide_eq_true (rfl : V = V)]
      go_wp2
      go_ret
      exact ⟨rfl, (hxw.trans hx7).trans hx8⟩
    obtain ⟨m, hm⟩ : ∃ m, V.length = m := ⟨_, rfl⟩
    have Hf := Lib.hid (fun i (hi : i < V.length) hp => edges_first Hup.out hi hp)
    rw [hm] at hS6 hlen ⊢
    have Hm := Lib.hid hm
    clear hm
    go_wp2
    go_loopw [7] (fun i wr => ∃ k : Nat, k ≤ m ∧ i = .int .i64 k ∧ X W6 wr) (fun i _ => m - (intOf i).toNat)
    case atStart => exact ⟨0, Nat.zero_le _, rfl, X.refl _⟩
    case round =>
      obtain ⟨k, hk, rfl, hX⟩ := hrel
      clear t0 lt0
      have hSk := hS6.mono (hX.fr _)
      by_cases hlt : k < m
      · obtain ⟨b, off, rfl, _, hb, hc, hcl⟩ := hSk.at_ hlt
        have hf := Hf.out k (by rw [Hm.out]; exact hlt)
        rw [Hm.out] at hf
        generalize nth V k = x at *
        go_wp2_with fail
        refine (ParentOf_c x wr hcl (hG.mono hX)).mono ?_
        rintro _ w7 ⟨rfl, hx7⟩
        have hX7 := hX.trans hx7
        obtain ⟨P, hP⟩ : ∃ P, parentF x = P := ⟨_, rfl⟩
        rw [hP] at hf ⊢
        clear hP
        cases hPe : P.isEmpty
        · obtain ⟨j, hj, hfj⟩ := hf (by intro e; rw [e] at hPe; cases hPe)
          have q1 : ¬ (j : Int) < 0 := by omega
          have q2 : ¬ (k : Int) < (j : Int) := by omega
          have hSx := hS6.mono (hX7.fr _)
          clear hf
          go_wp2_with (go_at_call 33; refine (textAtL_c V _ _ rc _ P _ (hSx.mono (X.fr (by (repeat (first | exact X.refl _ | assumption | refine X.ext ?_ _ | refine X.alloc ?_ _ | refine X.drew ?_))) _))).mono ?_; rw [hfj]; rintro _ w9 ⟨rfl, hx9⟩; replace hx9 := X.trans (a := w7) (by (repeat (first | exact X.refl _ | assumption | refine X.ext ?_ _ | refine X.alloc ?_ _ | refine X.drew ?_))) hx9; obtain ⟨z9, rfl⟩ := hx9)
          go_roundw
          case rel => exact ⟨k + 1, by omega, by go_num, hX7.trans (by (repeat (first | exact X.refl _ | assumption | refine X.ext ?_ _ | refine X.alloc ?_ _ | refine X.drew ?_)))⟩
          case measure => simp [intOf]; omega
        · obtain rfl : P = [] := by cases P with | nil => rfl | cons _ _ => cases hPe
          clear hf
          go_wp2
          go_roundw
          case rel => exact ⟨k + 1, by omega, by go_num, hX7⟩
          case measure => simp [intOf]; omega
      · obtain rfl : k = m := by omega
        have t0 := bxC (hB6.x hX)
        have lt0 := (hB6.x hX).lt
        go_wp2_with fail
        refine (NeedsOf_i l a n c _ path pa pn pc _ s wr (hF.mono (hX.fr _)) hnc (hI.mono (hX.fr _)) hpc (by omega) (hG.mono hX)).mono ?_
        rw [HN.out]
        rintro _ w7 ⟨na, nc, rfl, hON, hx7⟩
        have hSN := StrsAt.of_own hON (by omega) hNs
        go_wp2_with fail
        refine (withinTexts_c N V na ra _ _ nc rc _ _ w7 hSN (hSk.mono (hx7.fr _)) Hin.out).mono ?_
        rintro _ w8 ⟨rfl, hx8⟩
        go_wp2
        go_ret
        exact ⟨rfl, hxw.trans (hX.trans (hx7.trans hx8))⟩

end Go.Proofs.YtlpbgingggnjpaaGreatDoor
