/- The walk of the law FnListDir. -/
import Derived.Test.YtlpbgingggnjpaaDoorListT
import Derived.Test.YtlpbgingggnjpaaDoorDrawMods
import Derived.Test.YtlpbgingggnjpaaDoorLHasDir
namespace Go.Proofs.YtlpbgingggnjpaaDoor
open Go.RowKit

theorem list_law2 {t : List Fi} {r : Int} {p : List UInt8} (h : treeB t = true) (hr : rangeB r 0 2 = true) :
    (∀ k, k < t.length → (nth t k).root = r → (nth t k).pkg = p → (if (nth t k).init then [42] else (nth t k).name) ∈ listL t r p) ∧ asc (listL t r p) ∧ (0 < (listL t r p).length → hasB t r p = true) := by
  cases hp : pkgB p
  · have e : listL t r p = [] := by rw [listL, h, hr, hp]; rfl
    rw [e]
    refine ⟨fun k hk _ hpk => ?_, asc_nil, fun h0 => by simp at h0⟩
    have := fileB_pkgB (treeB_file h hk)
    rw [hpk, hp] at this
    cases this
  · have hg : (treeB t && rangeB r 0 2 && pkgB p) = true := by rw [h, hr, hp]; rfl
    obtain ⟨h1, h2⟩ := list_law hg
    refine ⟨fun k hk e1 e2 => h1 _ (nth_mem hk) e1 e2, ?_, h2⟩
    rw [listL, if_pos hg]
    exact (sortU_facts _).1

set_option maxRecDepth 100000 in
set_option maxHeartbeats 2000000 in
theorem FnListDir_c (ca : Option Addr) (cn cc : Nat) (w : World) (hC : CodeAt w ca cn cc) (hG : Gm w) :
    Calls Tryd.prog 5 #[.slice ca cn cc] w fun e w' => e = .returned (.bool true) ∧ X w w' := by
  by_cases hbig : 1048576 < cn
  · go_enter Tryd.func5, Tryd.ntmps5
    go_wp2
    go_ret
    exact ⟨by simp, by (repeat (first | exact X.refl _ | assumption | refine X.ext ?_ _ | refine X.alloc ?_ _ | refine X.drew ?_))⟩
  · go_enter Tryd.func5, Tryd.ntmps5
    go_wp2_with fail
    refine (DrawListDir_c ca cn cc _ hC (by omega)).mono ?_
    rintro _ W1 ⟨l, a, n, c, q, p, rfl, hF, hnc, hn11, hq, hp, hx1⟩
    have hVl := @listL_len l q p
    have hVs : ∀ x ∈ listL l q p, x.length ≤ 4194304 := fun x hx => by have := listL_short x hx; omega
    have Hlaw := Lib.hid (@list_law2 l q p)
    obtain ⟨V, hV⟩ : ∃ V, listL l q p = V := ⟨_, rfl⟩
    rw [hV] at hVl hVs Hlaw
    have HV := Lib.hid hV
    clear hV
    go_wp2_with fail
    refine calls_name (fun W2 hW2 => ?_)
    have hB2 : Bx W2 W1.heap.size #[.slice a n c] := by rw [hW2]; first | exact Bx.new _ _ _ | exact Bx.set (Bx.new _ _ _) 0 _
    have hx2 : X W1 W2 := by rw [hW2]; (repeat (first | with_reducible exact X.refl _ | with_reducible assumption | with_reducible refine X.setCell ?_ (by first | (simp; done) | (simp; omega)) _ | with_reducible refine X.ext ?_ _ | with_reducible refine X.alloc ?_ _ | with_reducible refine X.drew ?_))
    clear hW2
    have hxw := hx1.trans hx2
    replace hF := hF.mono (hx2.fr _)
    replace hG := hG.mono hxw
    clear hx1 hx2
    refine (ListDir_i l a n c _ q p W2 hF hnc (by omega) hG).mono ?_
    rw [HV.out]
    rintro _ W3 ⟨ra, rc, rfl, hO, hx3⟩
    have hS3 := StrsAt.of_own hO (by omega) hVs
    have hB3 := hB2.x hx3
    clear hO hB2
    have t0 := bxC hB3
    have lt0 := hB3.lt
    go_wp2_with fail
    refine (ListDir_s l a n c _ q p W3 (hF.mono (hx3.fr _)) (by omega)).mono ?_
    rw [HV.out]
    rintro _ W4 ⟨ra4, rc4, rfl, hS4, hx4⟩
    go_wp2_with fail
    refine (equalTexts_c V V ra ra4 _ _ rc rc4 _ _ W4 (hS3.mono (hx4.fr _)) hS4).mono ?_
    rintro _ W5 ⟨rfl, hx5⟩
    rw [decide_eq_true (rfl : V = V)]
    have hx35 := hx4.trans hx5
    have hx25 := hx3.trans hx35
    have hS5 := hS3.mono (hx35.fr _)
    have hB5 := hB3.x hx35
    replace hxw := hxw.trans hx25
    replace hF := hF.mono (hx25.fr _)
    replace hG := hG.mono hx25
    clear t0 lt0 hx3 hx4 hx5 hx35 hx25 hS3 hS4 hB3
    have t0 := bxC hB5
    have lt0 := hB5.lt
    go_wp2_with fail
    refine (ValidTree_c l a n c _ W5 hF hnc hG).mono ?_
    rintro _ W6 ⟨rfl, hx6⟩
    have hS6 := hS5.mono (hx6.fr _)
    have hB6 := hB5.x hx6
    replace hxw := hxw.trans hx6
    replace hF := hF.mono (hx6.fr _)
    replace hG := hG.mono hx6
    clear t0 lt0 hx6 hS5 hB5
    have t0 := bxC hB6
    have lt0 := hB6.lt
    by_cases hgood : treeB l = true ∧ 0 ≤ q ∧ q < 3
    case neg =>
      cases ht : treeB l
      · go_wp2_with fail
        refine (ListDir_s l a n c _ q p W6 hF (by omega)).mono ?_
        rw [HV.out]
        rintro _ W7 ⟨ra7, rc7, rfl, hS7, hx7⟩
        go_wp2_with fail
        refine (equalTexts_c V V ra ra7 _ _ rc rc7 _ _ W7 (hS6.mono (hx7.fr _)) hS7).mono ?_
        rintro _ W8 ⟨rfl, hx8⟩
        rw [decide_eq_true (rfl : V = V)]
        go_wp2
        go_ret
        exact ⟨rfl, (hxw.trans hx7).trans hx8⟩
      · rw [ht] at hgood
        rcases Int.lt_or_le q 0 with h0 | h0
        · go_wp2_with fail
          refine (ListDir_s l a n c _ q p W6 hF (by omega)).mono ?_
          rw [HV.out]
          rintro _ W7 ⟨ra7, rc7, rfl, hS7, hx7⟩
          go_wp2_with fail
          refine (equalTexts_c V V ra ra7 _ _ rc rc7 _ _ W7 (hS6.mono (hx7.fr _)) hS7).mono ?_
          rintro _ W8 ⟨rfl, hx8⟩
          rw [decide_eq_true (rfl : V = V)]
          go_wp2
          go_ret
          exact ⟨rfl, (hxw.trans hx7).trans hx8⟩
        · have h3 : 3 ≤ q := by
            rcases Int.lt_or_le q 3 with h3 | h3
            · exact absurd ⟨rfl, h0, h3⟩ hgood
            · exact h3
          clear hgood
          go_wp2_with fail
          refine (ListDir_s l a n c _ q p W6 hF (by omega)).mono ?_
          rw [HV.out]
          rintro _ W7 ⟨ra7, rc7, rfl, hS7, hx7⟩
          go_wp2_with fail
          refine (equalTexts_c V V ra ra7 _ _ rc rc7 _ _ W7 (hS6.mono (hx7.fr _)) hS7).mono ?_
          rintro _ W8 ⟨rfl, hx8⟩
          rw [decide_eq_true (rfl : V = V)]
          go_wp2
          go_ret
          exact ⟨rfl, (hxw.trans hx7).trans hx8⟩
    obtain ⟨ht, hq0, hq3⟩ := hgood
    obtain ⟨h1, hasc, hne⟩ := Hlaw.out ht (rangeB_yes hq0 (by omega))
    rw [← hF.len.1] at h1
    rw [ht]
    go_wp2
    go_loopw [7] (fun i wr => ∃ k : Nat, k ≤ n ∧ i = .int .i64 k ∧ X W6 wr) (fun i _ => n - (intOf i).toNat)
    case atStart => exact ⟨0, Nat.zero_le _, rfl, X.refl _⟩
    case round =>
      obtain ⟨k, hk, rfl, hX⟩ := hrel
      clear t0 lt0
      have t0 := bxC (hB6.x hX)
      have lt0 := (hB6.x hX).lt
      by_cases hlt : k < n
      · obtain ⟨b, off, ba, bn, bc, rfl, _, hb, hok, hbc, hSb, g0, g1, g2, g3, g4, g5⟩ := (hF.mono (hX.fr _)).at_ hlt
        have hin := h1 k hlt
        generalize nth l k = f at *
        by_cases c1 : f.root = q
        case neg =>
          cases c3 : f.init
          all_goals
            go_wp2
            go_roundw
            case rel => exact ⟨k + 1, by omega, by go_num, hX.trans (by (repeat (first | with_reducible exact X.refl _ | with_reducible assumption | with_reducible refine X.setCell ?_ (by first | (simp; done) | (simp; omega)) _ | with_reducible refine X.ext ?_ _ | with_reducible refine X.alloc ?_ _ | with_reducible refine X.drew ?_)))⟩
            case measure => simp [intOf]; omega
        by_cases c2 : f.pkg = p
        case neg =>
          cases c3 : f.init
          all_goals
            go_wp2
            go_roundw
            case rel => exact ⟨k + 1, by omega, by go_num, hX.trans (by (repeat (first | with_reducible exact X.refl _ | with_reducible assumption | with_reducible refine X.setCell ?_ (by first | (simp; done) | (simp; omega)) _ | with_reducible refine X.ext ?_ _ | with_reducible refine X.alloc ?_ _ | with_reducible refine X.drew ?_)))⟩
            case measure => simp [intOf]; omega
        replace hin := hin c1 c2
        cases c3 : f.init
        all_goals
          rw [c3] at hin
          go_wp2_with fail
          refine calls_name (fun W7 hW7 => ?_)
          have hX7 : X wr W7 := by rw [hW7]; (repeat (first | with_reducible exact X.refl _ | with_reducible assumption | with_reducible refine X.setCell ?_ (by first | (simp; done) | (simp; omega)) _ | with_reducible refine X.ext ?_ _ | with_reducible refine X.alloc ?_ _ | with_reducible refine X.drew ?_))
          clear hW7
          refine (hasTextL_c V ra _ rc _ _ W7 (hS6.mono ((hX.trans hX7).fr _))).mono ?_
          first
            | rw [decide_eq_true (show f.name ∈ V from hin)]
            | rw [decide_eq_true (show [42] ∈ V from hin)]
          rintro _ w8 ⟨rfl, hx8⟩
          go_wp2
          go_roundw
          case rel => exact ⟨k + 1, by omega, by go_num, (hX.trans hX7).trans hx8⟩
          case measure => simp [intOf]; omega
      · obtain rfl : k = n := by omega
        go_wp2_with fail
        refine (rises_c V ra _ rc _ wr (hS6.mono (hX.fr _)) hasc).mono ?_
        rintro _ w7 ⟨rfl, hx7⟩
        clear t0 lt0
        have t0 := bxC (hB6.x (hX.trans hx7))
        have lt0 := (hB6.x (hX.trans hx7)).lt
        rcases Nat.eq_zero_or_pos V.length with h0 | h0
        · go_wp2
          go_ret
          exact ⟨by simp, hxw.trans (hX.trans hx7)⟩
        · have hn0 : ¬ V.length = 0 := by omega
          have hnh := hne h0
          clear h0 hne
          go_wp2_with fail
          refine (HasDir_c l _ _ c _ q p w7 (hF.mono ((hX.trans hx7).fr _)) hnc (by omega) (hG.mono (hX.trans hx7))).mono ?_
          rw [show (treeB l && rangeB q 0 2 && pkgB p && dirS l q p) = hasB l q p from rfl, hnh]
          rintro _ w8 ⟨rfl, hx8⟩
          go_wp2
          go_ret
          exact ⟨by simp, hxw.trans ((hX.trans hx7).trans hx8)⟩

end Go.Proofs.YtlpbgingggnjpaaDoor
