/- The walk of the law FnWrongFiles. -/
import Derived.Test.YtebnjkjllinabaaDoorGg
import Derived.Test.YtebnjkjllinabaaDoorEq
import Derived.Test.YtebnjkjllinabaaDoorIsIn
import Derived.Test.YtebnjkjllinabaaDoorDrawSo
namespace Go.Proofs.YtebnjkjllinabaaDoor
open Go.RowKit

theorem wrongN_mem {l : List Co} {t : List Fi} {n k : Nat} (hk : k < n) : decide ((k : Int) ∈ wrongN l t n) = !decide (bodyLd l (nth t k) = (nth t k).body) := by
  rw [Bool.eq_iff_iff, decide_eq_true_iff]
  simp only [wrongN, List.mem_map, List.mem_filter, List.mem_range]
  constructor
  · rintro ⟨i, ⟨_, h2⟩, h3⟩
    obtain rfl : i = k := by omega
    exact h2
  · exact fun h => ⟨k, ⟨hk, h⟩, rfl⟩
theorem wrongN_asc (l : List Co) (t : List Fi) : ∀ n, (∀ x ∈ wrongN l t n, x < (n : Int)) ∧ ∀ k, k + 1 < (wrongN l t n).length → nth (wrongN l t n) k < nth (wrongN l t n) (k + 1)
  | 0 => ⟨by simp [wrongN], by simp [wrongN]⟩
  | n + 1 => by
    obtain ⟨h1, h2⟩ := wrongN_asc l t n
    rw [wrongN_next]
    cases hd : wrongK l (nth t n)
    · simp only [Bool.false_eq_true, if_false]
      exact ⟨fun x hx => by have := h1 x hx; omega, h2⟩
    · simp only [if_true]
      refine ⟨fun x hx => ?_, fun k hk => ?_⟩
      · rcases List.mem_append.1 hx with hx | hx
        · have := h1 x hx; omega
        · obtain rfl : x = (n : Int) := by simpa using hx
          omega
      · rw [List.length_append, List.length_singleton] at hk
        rw [nth_append_left (by omega)]
        by_cases hk2 : k + 1 < (wrongN l t n).length
        · rw [nth_append_left hk2]; exact h2 k hk2
        · have e : k + 1 = (wrongN l t n).length + 0 := by omega
          rw [e, nth_append_right]
          exact h1 _ (nth_mem (by omega))

set_option maxRecDepth 100000 in
set_option maxHeartbeats 4000000 in
theorem FnWrongFiles_c (ca : Option Addr) (cn cc : Nat) (w : World) (hC : CodeAt w ca cn cc) (hG : Gm w) :
    Calls Tryd.prog 8 #[.slice ca cn cc] w fun e w' => e = .returned (.bool true) ∧ X w w' := by
  by_cases hbig : 1048576 < cn
  · go_enter Tryd.func8, Tryd.ntmps8
    go_wp2
    go_ret
    exact ⟨by simp, by (repeat (first | exact X.refl _ | assumption | refine X.ext ?_ _ | refine X.alloc ?_ _ | refine X.drew ?_))⟩
  · go_enter Tryd.func8, Tryd.ntmps8
    go_wp2_with fail
    refine (DrawWrongFiles_c ca cn cc _ hC (by omega)).mono ?_
    rintro _ W1 ⟨l, a, n, c, t, ta, tn, tc, rfl, hD, hF, hnc, htc, hn11, htn10, hx1⟩
    go_wp2_with fail
    refine calls_name (fun W2 hW2 => ?_)
    have hB2 : Bx W2 W1.heap.size #[.slice ta tn tc] := by rw [hW2]; first | exact Bx.new _ _ _ | exact Bx.set (Bx.new _ _ _) 0 _
    have hx2 : X W1 W2 := by rw [hW2]; (repeat (first | with_reducible exact X.refl _ | with_reducible assumption | with_reducible refine X.setCell ?_ (by first | (simp; done) | (simp; omega)) _ | with_reducible refine X.ext ?_ _ | with_reducible refine X.alloc ?_ _ | with_reducible refine X.drew ?_))
    clear hW2
    have hxw := hx1.trans hx2
    replace hD := hD.mono (hx2.fr _)
    replace hF := hF.mono (hx2.fr _)
    replace hG := hG.mono hxw
    clear hx1 hx2
    refine (WrongFiles_i l a n c _ t ta tn tc _ W2 hD hF htc hG).mono ?_
    rintro _ W3 ⟨ra, rc, rfl, hO, hx3⟩
    have hvl := @wrongL_len l t
    obtain ⟨hl, _⟩ := hF.len
    have hlen : (wrongL l t).length ≤ 10 := by omega
    have hI : IntsAt W3 W2.heap.size ra (wrongL l t).length (wrongL l t) := IntsAt.of_own hO rfl (by omega)
    have Hl := Lib.hid hl
    clear hl hvl hO
    obtain ⟨V, hV⟩ : ∃ V, wrongL l t = V := ⟨_, rfl⟩
    rw [hV] at hlen hI ⊢
    have hB3 := hB2.x hx3
    replace hxw := hxw.trans hx3
    replace hF := hF.mono (hx3.fr _)
    replace hD := hD.mono (hx3.fr _)
    replace hG := hG.mono hx3
    clear hx3 hB2
    obtain ⟨lt3, ct3, _⟩ := hB3.out
    have t0 := ct3 0
    clear ct3
    obtain ⟨N, hN⟩ : ∃ N, V.length = N := ⟨_, rfl⟩
    rw [hN] at hlen hI ⊢
    have HN := Lib.hid hN
    have HV := Lib.hid hV
    clear hN hV
    go_wp2_with fail
    refine (WrongFiles_s l a n c _ t ta tn tc _ W3 hD hF).mono ?_
    rw [HV.out, HN.out]
    rintro _ W4 ⟨ra4, rc4, rfl, hO4, hx4⟩
    have hI4 : IntsAt W4 W3.heap.size ra4 N V := IntsAt.of_own hO4 HN.out.symm (by omega)
    go_wp2_with fail
    refine (equalInts_c V V ra ra4 _ _ rc rc4 _ _ W4 (hI.mono (hx4.fr _)) hI4).mono ?_
    rintro _ W5 ⟨rfl, hx5⟩
    rw [decide_eq_true (rfl : V = V)]
    have hx35 := hx4.trans hx5
    go_wp2_with fail
    refine (ValidStore_c l a n c _ W5 (hD.mono (hx35.fr _)) (hG.mono hx35)).mono ?_
    rintro _ W6 ⟨rfl, hx6⟩
    have hx36 := hx35.trans hx6
    have hB6 := hB3.x hx36
    have hxw6 := hxw.trans hx36
    have hF6 := hF.mono (hx36.fr _)
    have hD6 := hD.mono (hx36.fr _)
    have hG6 := hG.mono hx36
    have hI6 := hI.mono (hx36.fr _)
    clear hx4 hx5 hx35 hI4 hO4 hB3 t0 lt3 hxw hF hD hG hI hx6 hx36
    have t0 := bxOne hB6
    have lt6 := hB6.lt
    cases q1 : storeB l
    · go_wp2_with fail
      refine (WrongFiles_s l a n c _ t ta tn tc _ W6 hD6 hF6).mono ?_
      rw [HV.out, HN.out]
      rintro _ W7 ⟨ra7, rc7, rfl, hO7, hx7⟩
      have hI7 : IntsAt W7 W6.heap.size ra7 N V := IntsAt.of_own hO7 HN.out.symm (by omega)
      go_wp2_with fail
      refine (equalInts_c V V ra ra7 _ _ rc rc7 _ _ W7 (hI6.mono (hx7.fr _)) hI7).mono ?_
      rintro _ W8 ⟨rfl, hx8⟩
      rw [decide_eq_true (rfl : V = V)]
      go_wp2
      go_ret
      exact ⟨rfl, (hxw6.trans hx7).trans hx8⟩
    go_wp2_with fail
    refine (ValidTree_c t ta tn tc _ W6 hF6 htc hG6).mono ?_
    rintro _ W7 ⟨rfl, hx7⟩
    have hB7 := hB6.x hx7
    have hxw7 := hxw6.trans hx7
    have hF7 := hF6.mono (hx7.fr _)
    have hD7 := hD6.mono (hx7.fr _)
    have hG7 := hG6.mono hx7
    have hI7 := hI6.mono (hx7.fr _)
    clear hx7 hB6 t0 lt6 hxw6 hF6 hD6 hG6 hI6
    have t0 := bxOne hB7
    have lt7 := hB7.lt
    cases q2 : treeB t
    · go_wp2_with fail
      refine (WrongFiles_s l a n c _ t ta tn tc _ W7 hD7 hF7).mono ?_
      rw [HV.out, HN.out]
      rintro _ W8 ⟨ra8, rc8, rfl, hO8, hx8⟩
      have hI8 : IntsAt W8 W7.heap.size ra8 N V := IntsAt.of_own hO8 HN.out.symm (by omega)
      go_wp2_with fail
      refine (equalInts_c V V ra ra8 _ _ rc rc8 _ _ W8 (hI7.mono (hx8.fr _)) hI8).mono ?_
      rintro _ W9 ⟨rfl, hx9⟩
      rw [decide_eq_true (rfl : V = V)]
      go_wp2
      go_ret
      exact ⟨rfl, (hxw7.trans hx8).trans hx9⟩
    have hV : V = wrongN l t tn := by rw [← HV.out, wrongL, q1, q2, ← Hl.out]; rfl
    have Hmem := Lib.hid (show ∀ k, k < tn → decide ((k : Int) ∈ V) = !decide (bodyLd l (nth t k) = (nth t k).body) from fun k hk => by rw [hV]; exact wrongN_mem hk)
    have Hasc := Lib.hid (show ∀ k, k + 1 < N → nth V k < nth V (k + 1) from by rw [← HN.out, hV]; exact (wrongN_asc l t tn).2)
    clear hV
    go_wp2
    go_loopw [6] (fun i wr => ∃ k : Nat, k ≤ tn ∧ i = .int .i64 k ∧ X W7 wr) (fun i _ => tn - (intOf i).toNat)
    case atStart => exact ⟨0, Nat.zero_le _, rfl, by (repeat (first | with_reducible exact X.refl _ | with_reducible assumption | with_reducible refine X.setCell ?_ (by first | (simp; done) | (simp; omega)) _ | with_reducible refine X.ext ?_ _ | with_reducible refine X.alloc ?_ _ | with_reducible refine X.drew ?_))⟩
    case round =>
      obtain ⟨k, hk, rfl, hX⟩ := hrel
      have hBr := hB7.x hX
      clear t0 lt7
      have t0 := bxOne hBr
      have ltr := hBr.lt
      by_cases hlt : k < tn
      · obtain ⟨b, off, ba, bn, bc, rfl, _, hb, hok, hbc, hSb, g0, g1, g2, g3, g4, g5⟩ := (hF7.mono (hX.fr _)).at_ hlt
        have Hbn := Lib.hid hSb.1
        have hfb := treeB_file q2 (k := k) (by rw [← Hl.out]; exact hlt)
        have hV := loadV_good (l := l) (f := nth t k) (mode := 0) (by rw [loadOk, q1, hfb]; rfl)
        have hbd := loadV_bodyW (f := nth t k) (mode := 0) hD7.okC (by have := hSb.1; have := hSb.2.1; omega) hSb.2.2.1
        rw [hV] at hbd
        dsimp only at hbd
        have hm := Hmem.out k hlt
        have Hm := Lib.hid hm
        clear hm
        generalize nth t k = f at *
        go_wp2_with fail
        refine (LoadBody_i l a n c _ f 0 ba bn bc _ wr (hD7.mono (hX.fr _)) hok hSb (hG7.mono hX)).mono ?_
        rw [hV]
        rintro _ w4 ⟨b6, c6, r6, rc6, B1, E1, E2, rfl, hO6, _, _, _, _, _, _, hx4⟩
        dsimp only at hO6 ⊢
        have hS6 : StmtsAt w4 E2 b6 (bodyLd l f).length (bodyLd l f) := ⟨rfl, hbd.1, hbd.2, Sl.of_own hO6⟩
        clear hV hO6
        have hX4 : X W7 w4 := hX.trans hx4
        have e4 : w4.cell? ⟨W1.heap.size, 0, none⟩ = some (.slice (some ⟨b, off, none⟩) tn tc) ∧ w4.cell? ⟨b, off + k * 6 + 5, none⟩ = some (.slice ba bn bc) := ⟨(hx4.cell (p := ⟨W1.heap.size, 0, none⟩) ltr).trans t0, (hx4.cell (p := ⟨b, off + k * 6 + 5, none⟩) hb).trans g5⟩
        have l4 : W1.heap.size < w4.heap.size := Nat.lt_of_lt_of_le ltr hx4.size
        have m4 : b < w4.heap.size := Nat.lt_of_lt_of_le hb hx4.size
        have hSb4 := hSb.mono (hx4.fr _)
        clear t0 g0 g1 g2 g3 g4 g5 hSb hBr
        obtain ⟨t0, g5⟩ := e4
        have hk1 : (k : Int) < (tn : Int) := by omega
        generalize bodyLd l f = bd at *
        generalize storeLd l f 0 = st at *
        generalize hadB l f = had at *
        cases hd : decide (bd = f.body)
        all_goals
          go_wp2
          go_region_held_law (fun w' => w'.cell? ⟨W1.heap.size, 0, none⟩ = some (.slice (some ⟨b, off, none⟩) tn tc) ∧ w'.cell? ⟨b, off + k * 6 + 5, none⟩ = some (.slice ba bn bc))
            (exact ⟨Eq.trans (X.cell (w := w4) (p := ⟨W1.heap.size, 0, none⟩) (by (repeat (first | with_reducible exact X.refl _ | with_reducible assumption | with_reducible refine X.setCell ?_ (by first | (simp; done) | (simp; omega)) _ | with_reducible refine X.ext ?_ _ | with_reducible refine X.alloc ?_ _ | with_reducible refine X.drew ?_))) l4) t0, Eq.trans (X.cell (w := w4) (p := ⟨b, off + k * 6 + 5, none⟩) (by (repeat (first | with_reducible exact X.refl _ | with_reducible assumption | with_reducible refine X.setCell ?_ (by first | (simp; done) | (simp; omega)) _ | with_reducible refine X.ext ?_ _ | with_reducible refine X.alloc ?_ _ | with_reducible refine X.drew ?_))) m4) g5⟩)
            (first
              | (go_at_call 29; refine (isIn_c V ra _ rc _ (k : Int) _ (hI7.mono (X.fr (X.trans (b := w4) hX4 (by (repeat (first | with_reducible exact X.refl _ | with_reducible assumption | with_reducible refine X.setCell ?_ (by first | (simp; done) | (simp; omega)) _ | with_reducible refine X.ext ?_ _ | with_reducible refine X.alloc ?_ _ | with_reducible refine X.drew ?_)))) _))).mono ?_; rintro _ w5 ⟨rfl, hx5⟩; replace hx5 : X w4 w5 := X.trans (by (repeat (first | with_reducible exact X.refl _ | with_reducible assumption | with_reducible refine X.setCell ?_ (by first | (simp; done) | (simp; omega)) _ | with_reducible refine X.ext ?_ _ | with_reducible refine X.alloc ?_ _ | with_reducible refine X.drew ?_))) hx5; rw [Hm.out, hd])
              | (go_at_call 20; refine (equalBody_c bd f.body b6 ba _ bn c6 bc E2 _ _ (hS6.mono (X.fr (by (repeat (first | with_reducible exact X.refl _ | with_reducible assumption | with_reducible refine X.setCell ?_ (by first | (simp; done) | (simp; omega)) _ | with_reducible refine X.ext ?_ _ | with_reducible refine X.alloc ?_ _ | with_reducible refine X.drew ?_))) _)) (hSb4.mono (X.fr (by (repeat (first | with_reducible exact X.refl _ | with_reducible assumption | with_reducible refine X.setCell ?_ (by first | (simp; done) | (simp; omega)) _ | with_reducible refine X.ext ?_ _ | with_reducible refine X.alloc ?_ _ | with_reducible refine X.drew ?_))) _))).mono ?_; rintro _ w6 ⟨rfl, hx6⟩; replace hx6 : X w4 w6 := X.trans (by (repeat (first | with_reducible exact X.refl _ | with_reducible assumption | with_reducible refine X.setCell ?_ (by first | (simp; done) | (simp; omega)) _ | with_reducible refine X.ext ?_ _ | with_reducible refine X.alloc ?_ _ | with_reducible refine X.drew ?_))) hx6; rw [hd]))
          all_goals
            have hX6 : X w4 w6 := hx6
            go_wp2
            go_roundw
            case rel => exact ⟨k + 1, by omega, by go_num, hX4.trans (by (repeat (first | with_reducible exact X.refl _ | with_reducible assumption | with_reducible refine X.setCell ?_ (by first | (simp; done) | (simp; omega)) _ | with_reducible refine X.ext ?_ _ | with_reducible refine X.alloc ?_ _ | with_reducible refine X.drew ?_)))⟩
            case measure => simp [intOf]; omega
      · obtain rfl : k = tn := by omega
        go_wp2_with fail
        refine (ascends_c V ra _ rc _ _ (hI7.mono (X.fr hX _)) Hasc.out).mono ?_
        rintro _ W8 ⟨rfl, hx8⟩
        go_wp2
        go_ret
        exact ⟨rfl, (hxw7.trans hX).trans hx8⟩

end Go.Proofs.YtebnjkjllinabaaDoor
