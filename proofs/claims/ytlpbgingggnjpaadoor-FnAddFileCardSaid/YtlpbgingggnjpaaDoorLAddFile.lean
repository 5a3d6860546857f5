/- The walk of the law FnAddFile. -/
import Derived.Test.YtlpbgingggnjpaaDoorAdd
import Derived.Test.YtlpbgingggnjpaaDoorDrawAdd
import Derived.Test.YtlpbgingggnjpaaDoorEqTr
import Derived.Test.YtlpbgingggnjpaaDoorRises
import Derived.Test.YtlpbgingggnjpaaDoorModsW
import Derived.Deep.RegionHeld3
namespace Go.Proofs.YtlpbgingggnjpaaDoor
open Go.RowKit

theorem bxF {w : World} {b : Nat} {v0 v1 v2 v3 v4 v5 : Value} (h : Bx w b #[v0, v1, v2, v3, v4, v5]) : b < w.heap.size ∧ w.cell? ⟨b, 0, none⟩ = some v0 ∧ w.cell? ⟨b, 1, none⟩ = some v1 ∧ w.cell? ⟨b, 2, none⟩ = some v2 ∧ w.cell? ⟨b, 3, none⟩ = some v3 ∧ w.cell? ⟨b, 4, none⟩ = some v4 ∧ w.cell? ⟨b, 5, none⟩ = some v5 :=
  ⟨h.lt, h.out.2.1 0, h.out.2.1 1, h.out.2.1 2, h.out.2.1 3, h.out.2.1 4, h.out.2.1 5⟩
theorem nth_snoc {l : List Fi} {f : Fi} : nth (l ++ [f]) l.length = f := by
  have := nth_append_right (l := l) (m := [f]) (k := 0)
  rw [Nat.add_zero] at this
  rw [this]
  rfl
theorem add_law {l : List Fi} {f : Fi} (h : addB l f = true) :
    remB (l ++ [f]) (l.length : Int) = true ∧ remL (l ++ [f]) (l.length : Int) = l ∧ addB (l ++ [f]) f = false ∧ moduleOf f ∈ modsL (l ++ [f]) := by
  unfold addB at h
  rw [Bool.and_eq_true] at h
  have hr : remB (l ++ [f]) (l.length : Int) = true := by
    rw [remB, h.2]
    have hl : ((l ++ [f]).length : Int) - 1 = (l.length : Int) := by rw [List.length_append, List.length_singleton]; omega
    rw [hl]
    exact rangeB_yes (n := (l.length : Int)) (lo := 0) (hi := (l.length : Int)) (by omega) (Int.le_refl _)
  refine ⟨hr, ?_, ?_, ?_⟩
  · rw [remL, if_pos hr]
    have : (l.length : Int).toNat = l.length := by omega
    rw [this, List.eraseIdx_append_of_length_le (Nat.le_refl _)]
    simp
  · have : treeB (l ++ [f] ++ [f]) = false := by
      rw [Bool.eq_false_iff]
      intro ht
      unfold treeB at ht
      rw [Bool.and_eq_true] at ht
      have h1 := allN_iff.1 ht.1 (l.length + 1) (by simp)
      rw [Bool.and_eq_true] at h1
      have e1 : nth (l ++ [f] ++ [f]) (l.length + 1) = f := by
        have := @nth_snoc (l ++ [f]) f
        rwa [List.length_append, List.length_singleton] at this
      have e2 : nth (l ++ [f] ++ [f]) l.length = f := by
        rw [nth_append_left (by simp)]
        exact nth_snoc
      have h2 : anyN (fun j => sameP (nth (l ++ [f] ++ [f]) j) (nth (l ++ [f] ++ [f]) (l.length + 1))) (l.length + 1) = true := anyN_yes (k := l.length) (by simp only [e1, e2]; exact sameP_refl f) (by omega)
      rw [h2] at h1
      simp at h1
    rw [addB, this, Bool.and_false]
  · rw [modsL, h.2, if_pos rfl, (sortU_facts _).2]
    have hf : fileB f = true := by
      have := treeB_file h.2 (k := l.length) (by simp)
      rwa [nth_snoc] at this
    rw [moduleOf, hf, if_pos rfl]
    exact List.mem_map_of_mem (List.mem_append.2 (.inr (List.mem_singleton.2 rfl)))

set_option maxRecDepth 100000 in
set_option maxHeartbeats 4000000 in
theorem FnAddFile_c (ca : Option Addr) (cn cc : Nat) (w : World) (hC : CodeAt w ca cn cc) (hG : Gm w) :
    Calls Tryd.prog 8 #[.slice ca cn cc] w fun e w' => e = .returned (.bool true) ∧ X w w' := by
  by_cases hbig : 1048576 < cn
  · go_enter Tryd.func8, Tryd.ntmps8
    go_wp2
    go_ret
    exact ⟨by simp, by (repeat (first | exact X.refl _ | assumption | refine X.ext ?_ _ | refine X.alloc ?_ _ | refine X.drew ?_))⟩
  · go_enter Tryd.func8, Tryd.ntmps8
    go_wp2_with fail
    refine (DrawAddFile_c ca cn cc _ hC (by omega)).mono ?_
    rintro _ W1 ⟨l, a, n, c, f, ba, bn, bc, rfl, hF, hnc, hn11, hok, hS, hbc, hbn5, hx1⟩
    have Hlaw := Lib.hid (@add_law l f)
    have okV := okL_snoc hF.okL (by have := hF.len.1; omega) hok (by have := hS.1; have := hS.2.1; omega) hS.2.2.1
    have hsn := @nth_snoc l f
    rw [← hF.len.1] at hsn
    have hVl : addB l f = true → (l ++ [f]).length = n + 1 := fun _ => by rw [List.length_append, ← hF.len.1]; rfl
    go_wp2_with fail
    refine calls_name (fun W2 hW2 => ?_)
    have hB3 : Bx W2 W1.heap.size #[.slice a n c] := by rw [hW2]; first | exact Bx.x (Bx.new _ _ _) (by (repeat (first | with_reducible exact X.refl _ | with_reducible assumption | with_reducible refine X.setCell ?_ (by first | (simp; done) | (simp; omega)) _ | with_reducible refine X.ext ?_ _ | with_reducible refine X.alloc ?_ _ | with_reducible refine X.drew ?_))) | skip
    have hB4 : Bx W2 (W1.heap.size + 1) #[.int .i64 f.root, .string ⟨(f.pkg).toArray⟩, .string ⟨(f.name).toArray⟩, .bool f.init, .int .i64 f.stamp, .slice ba bn bc] := by rw [hW2]; first | exact (bx2 rfl).2.1 | skip
    have hx2 : X W1 W2 := by rw [hW2]; (repeat (first | with_reducible exact X.refl _ | with_reducible assumption | with_reducible refine X.setCell ?_ (by first | (simp; done) | (simp; omega)) _ | with_reducible refine X.ext ?_ _ | with_reducible refine X.alloc ?_ _ | with_reducible refine X.drew ?_))
    clear hW2
    have hxw := hx1.trans hx2
    replace hF := hF.mono (hx2.fr _)
    replace hS := hS.mono (hx2.fr _)
    replace hG := hG.mono hxw
    clear hx1 hx2
    obtain ⟨V, hV⟩ : ∃ V, addL l f = V := ⟨_, rfl⟩
    have okV2 : OkL V := by
      rw [← hV, addL]
      split
      · exact okV
      · exact ⟨by simp, by simp⟩
    obtain ⟨N, hN⟩ : ∃ N, V.length = N := ⟨_, rfl⟩
    obtain ⟨ok, hok2⟩ : ∃ ok, addB l f = ok := ⟨_, rfl⟩
    have HV := Lib.hid hV
    have HN := Lib.hid hN
    have HB := Lib.hid hok2
    refine (AddFile_i l a n c _ f ba bn bc _ W2 hF (by omega) hok hS hnc hG).mono ?_
    rw [hV, hok2, hN]
    clear hV hN hok2
    rintro _ W3 ⟨ra, rc, rfl, hO, hx3⟩
    have hA := hO.at okV2
    have hVc : N ≤ rc := own_cap hO.choose_spec.2.2.1
    clear hO
    have l3 := (hB3.x hx3).lt
    have t3 := bxC (hB3.x hx3)
    obtain ⟨l4, f0, f1, f2, f3, f4, f5⟩ := bxF (hB4.x hx3)
    go_wp2_with fail
    refine calls_name (fun W4 hW4 => ?_)
    clear l3 t3 l4 f0 f1 f2 f3 f4 f5
    have hB5 : Bx W4 W3.heap.size #[.slice ra N rc] := by rw [hW4]; first | exact Bx.new _ _ _ | exact Bx.set (Bx.new _ _ _) 0 _
    have hx4 : X W3 W4 := by rw [hW4]; (repeat (first | with_reducible exact X.refl _ | with_reducible assumption | with_reducible refine X.setCell ?_ (by first | (simp; done) | (simp; omega)) _ | with_reducible refine X.ext ?_ _ | with_reducible refine X.alloc ?_ _ | with_reducible refine X.drew ?_))
    clear hW4
    have hx24 := hx3.trans hx4
    replace hA := hA.mono (hx4.fr _)
    clear hx3 hx4
    refine (AddFile_s l a n c _ f ba bn bc _ W4 (hF.mono (hx24.fr _)) (by omega) hok (hS.mono (hx24.fr _))).mono ?_
    rw [HV.out, HN.out, HB.out]
    rintro _ W5 ⟨ra2, rc2, rfl, hO2, hx5⟩
    have hA2 := hO2.at okV2
    clear hO2
    have l5 := (hB5.x hx5).lt
    have t5 := bxC (hB5.x hx5)
    go_wp2_with fail
    refine calls_name (fun W6 hW6 => ?_)
    clear l5 t5
    have hB7 : Bx W6 W5.heap.size #[.slice ra2 N rc2] := by rw [hW6]; first | exact Bx.new _ _ _ | exact Bx.set (Bx.new _ _ _) 0 _
    have hx6 : X W5 W6 := by rw [hW6]; (repeat (first | with_reducible exact X.refl _ | with_reducible assumption | with_reducible refine X.setCell ?_ (by first | (simp; done) | (simp; omega)) _ | with_reducible refine X.ext ?_ _ | with_reducible refine X.alloc ?_ _ | with_reducible refine X.drew ?_))
    clear hW6
    have hx46 := hx5.trans hx6
    replace hA := hA.mono (hx46.fr _)
    replace hA2 := hA2.mono (hx6.fr _)
    replace hB5 := hB5.x hx46
    have hx26 := hx24.trans hx46
    clear hx5 hx6 hx24 hx46
    refine (equalTree_c V V ra ra2 _ _ rc rc2 _ _ W6 hA hA2).mono ?_
    rintro _ W7 ⟨rfl, hx7⟩
    rw [decide_eq_true (rfl : V = V)]
    have hx27 := hx26.trans hx7
    replace hA := hA.mono (hx7.fr _)
    replace hA2 := hA2.mono (hx7.fr _)
    replace hB5 := hB5.x hx7
    replace hB7 := hB7.x hx7
    clear hx26 hx7
    cases ok
    · have l5 := hB5.lt
      have t5 := bxC hB5
      have l7 := hB7.lt
      have t7 := bxC hB7
      go_wp2_with fail
      refine (equalTree_c V V ra ra2 _ _ rc rc2 _ _ W7 hA hA2).mono ?_
      rintro _ W8 ⟨rfl, hx8⟩
      rw [decide_eq_true (rfl : V = V)]
      go_wp2
      go_ret
      exact ⟨rfl, hxw.trans (hx27.trans hx8)⟩
    obtain rfl : V = l ++ [f] := by rw [← HV.out, addL, HB.out]; rfl
    obtain rfl : N = n + 1 := by rw [← HN.out]; exact hVl HB.out
    obtain ⟨p1, p2, p3, p4⟩ := Hlaw.out HB.out
    rw [← hF.len.1] at p1 p2
    have hF7 := hF.mono (hx27.fr _)
    have hS7 := hS.mono (hx27.fr _)
    have hG7 := hG.mono hx27
    have hB37 := hB3.x hx27
    have hB47 := hB4.x hx27
    replace hxw := hxw.trans hx27
    clear hF hS hG hB3 hB4 hA2 hB7 hx27
    have okl : OkL l := hF7.okL
    have hnl := Lib.hid hF7.len.1
    obtain ⟨V, hV⟩ : ∃ V, l ++ [f] = V := ⟨_, rfl⟩
    rw [hV] at hA okV okV2 p1 p2 p3 p4 hsn
    have hml := @modsL_len V
    have hms : ∀ x ∈ modsL V, x.length ≤ 4194304 := fun x hx => by have := modsL_short x hx; omega
    clear hV hVl Hlaw HV HN HB okV
    have l5 := hB5.lt
    have t5 := bxC hB5
    have l3 := hB37.lt
    have t3 := bxC hB37
    go_wp2_with fail
    refine (RemoveFile_i V ra (n + 1) rc _ (n : Int) W7 hA hVc hG7).mono ?_
    rw [p1, p2, ← hnl.out]
    rintro _ W8 ⟨ra9, rc9, rfl, hO9, hx8⟩
    have hA9 := hO9.at okl
    clear hO9 t5 t3 l5 l3
    replace hB5 := hB5.x hx8
    replace hB37 := hB37.x hx8
    replace hB47 := hB47.x hx8
    have l5 := hB5.lt
    have t5 := bxC hB5
    obtain ⟨l4, f0, f1, f2, f3, f4, f5⟩ := bxF hB47
    go_wp2_with fail
    refine calls_name (fun W9 hW9 => ?_)
    have hB9 : Bx W9 W8.heap.size #[.slice ra9 n rc9] := by rw [hW9]; first | exact Bx.new _ _ _ | exact Bx.set (Bx.new _ _ _) 0 _
    have hx9 : X W8 W9 := by rw [hW9]; (repeat (first | with_reducible exact X.refl _ | with_reducible assumption | with_reducible refine X.setCell ?_ (by first | (simp; done) | (simp; omega)) _ | with_reducible refine X.ext ?_ _ | with_reducible refine X.alloc ?_ _ | with_reducible refine X.drew ?_))
    clear hW9 t5 f0 f1 f2 f3 f4 f5 l5 l4
    have hx79 := hx8.trans hx9
    refine (AddFile_i V ra (n + 1) rc _ f ba bn bc _ W9 (hA.mono (hx79.fr _)) (by omega) hok (hS7.mono (hx79.fr _)) hVc (hG7.mono hx79)).mono ?_
    rw [p3]
    rintro _ W10 ⟨ra11, rc11, rfl, _, hx10⟩
    have hx710 := hx79.trans hx10
    have hA10 := hA.mono (hx710.fr _)
    have hA910 := hA9.mono ((hx9.trans hx10).fr _)
    have hF10 := hF7.mono (hx710.fr _)
    have hS10 := hS7.mono (hx710.fr _)
    have hG10 := hG7.mono hx710
    obtain ⟨eb, eo, xa, xn, xc, hea, _, heb, _, _, hSx, g0, g1, g2, g3, g4, g5⟩ := hA10.at_ (k := n) (by omega)
    rw [hsn] at hSx g0 g1 g2 g3 g4
    have hall : ∀ W', X W10 W' → W'.cell? ⟨W1.heap.size, 0, none⟩ = some (.slice a n c) ∧ W'.cell? ⟨W3.heap.size, 0, none⟩ = some (.slice ra (n + 1) rc) ∧ W'.cell? ⟨W8.heap.size, 0, none⟩ = some (.slice ra9 n rc9) ∧
        W'.cell? ⟨W1.heap.size + 1, 0, none⟩ = some (.int .i64 f.root) ∧ W'.cell? ⟨W1.heap.size + 1, 1, none⟩ = some (.string ⟨(f.pkg).toArray⟩) ∧ W'.cell? ⟨W1.heap.size + 1, 2, none⟩ = some (.string ⟨(f.name).toArray⟩) ∧ W'.cell? ⟨W1.heap.size + 1, 3, none⟩ = some (.bool f.init) ∧ W'.cell? ⟨W1.heap.size + 1, 4, none⟩ = some (.int .i64 f.stamp) ∧ W'.cell? ⟨W1.heap.size + 1, 5, none⟩ = some (.slice ba bn bc) ∧
        W'.cell? ⟨eb, eo + n * 6, none⟩ = some (.int .i64 f.root) ∧ W'.cell? ⟨eb, eo + n * 6 + 1, none⟩ = some (.string ⟨(f.pkg).toArray⟩) ∧ W'.cell? ⟨eb, eo + n * 6 + 2, none⟩ = some (.string ⟨(f.name).toArray⟩) ∧ W'.cell? ⟨eb, eo + n * 6 + 3, none⟩ = some (.bool f.init) ∧ W'.cell? ⟨eb, eo + n * 6 + 4, none⟩ = some (.int .i64 f.stamp) ∧ W'.cell? ⟨eb, eo + n * 6 + 5, none⟩ = some (.slice xa xn xc) := fun W' hX => by
      obtain ⟨_, f0, f1, f2, f3, f4, f5⟩ := bxF (hB47.x ((hx9.trans hx10).trans hX))
      exact ⟨bxC (hB37.x ((hx9.trans hx10).trans hX)), bxC (hB5.x ((hx9.trans hx10).trans hX)), bxC (hB9.x (hx10.trans hX)), f0, f1, f2, f3, f4, f5,
        (hX.cell (p := ⟨eb, _, none⟩) heb).trans g0, (hX.cell (p := ⟨eb, _, none⟩) heb).trans g1, (hX.cell (p := ⟨eb, _, none⟩) heb).trans g2, (hX.cell (p := ⟨eb, _, none⟩) heb).trans g3, (hX.cell (p := ⟨eb, _, none⟩) heb).trans g4, (hX.cell (p := ⟨eb, _, none⟩) heb).trans g5⟩
    subst hea
    have hxw10 := hxw.trans hx710
    clear g0 g1 g2 g3 g4 g5 hA hA9 hF7 hS7 hG7 hB5 hB37 hB47 hB9 hx8 hx9 hx79 hx710 hxw hx10
    go_wp2_with fail
    refine wp_name (fun W hW => ?_)
    have hx11 : X W10 W := by rw [hW]; (repeat (first | with_reducible exact X.refl _ | with_reducible assumption | with_reducible refine X.setCell ?_ (by first | (simp; done) | (simp; omega)) _ | with_reducible refine X.ext ?_ _ | with_reducible refine X.alloc ?_ _ | with_reducible refine X.drew ?_))
    clear hW
    have hAW := hA10.mono (hx11.fr _)
    have hA9W := hA910.mono (hx11.fr _)
    have hFW := hF10.mono (hx11.fr _)
    have hSW := hS10.mono (hx11.fr _)
    have hSxW := hSx.mono (hx11.fr _)
    have hGW := hG10.mono hx11
    have hallW := fun W' (h : X W W') => hall W' (hx11.trans h)
    have hxwW := hxw10.trans hx11
    clear hA10 hA910 hF10 hS10 hSx hG10 hall hxw10 hx11
    have Hnl := hnl
    clear hnl
    have q1 : (n : Int) < ((n + 1 : Nat) : Int) := by omega
    have q2 : (0 : Int) ≤ (n : Int) := by omega
    have q3 : (n : Int) < (n : Int) + 1 := by omega
    have q4 : n < n + 1 := by omega
    obtain ⟨M, hM⟩ : ∃ M, modsL V = M := ⟨_, rfl⟩
    have HM := Lib.hid hM
    rw [hM] at p4 hml hms
    clear hM
    go_region_held3 (fun W' => W'.cell? ⟨W1.heap.size, 0, none⟩ = some (.slice a n c) ∧ W'.cell? ⟨W3.heap.size, 0, none⟩ = some (.slice (some ⟨eb, eo, none⟩) (n + 1) rc) ∧ W'.cell? ⟨W8.heap.size, 0, none⟩ = some (.slice ra9 n rc9) ∧
        W'.cell? ⟨W1.heap.size + 1, 0, none⟩ = some (.int .i64 f.root) ∧ W'.cell? ⟨W1.heap.size + 1, 1, none⟩ = some (.string ⟨(f.pkg).toArray⟩) ∧ W'.cell? ⟨W1.heap.size + 1, 2, none⟩ = some (.string ⟨(f.name).toArray⟩) ∧ W'.cell? ⟨W1.heap.size + 1, 3, none⟩ = some (.bool f.init) ∧ W'.cell? ⟨W1.heap.size + 1, 4, none⟩ = some (.int .i64 f.stamp) ∧ W'.cell? ⟨W1.heap.size + 1, 5, none⟩ = some (.slice ba bn bc) ∧
        W'.cell? ⟨eb, eo + n * 6, none⟩ = some (.int .i64 f.root) ∧ W'.cell? ⟨eb, eo + n * 6 + 1, none⟩ = some (.string ⟨(f.pkg).toArray⟩) ∧ W'.cell? ⟨eb, eo + n * 6 + 2, none⟩ = some (.string ⟨(f.name).toArray⟩) ∧ W'.cell? ⟨eb, eo + n * 6 + 3, none⟩ = some (.bool f.init) ∧ W'.cell? ⟨eb, eo + n * 6 + 4, none⟩ = some (.int .i64 f.stamp) ∧ W'.cell? ⟨eb, eo + n * 6 + 5, none⟩ = some (.slice xa xn xc))
      (first | exact hallW _ (by (repeat (first | exact X.refl _ | assumption | refine X.ext ?_ _ | refine X.alloc ?_ _ | refine X.drew ?_))) | go_keep)
      ((first
        | (go_at_call 36; refine (equalTree_c l l ra9 a _ _ rc9 c _ _ _ (hA9W.mono (X.fr (by (repeat (first | exact X.refl _ | assumption | refine X.ext ?_ _ | refine X.alloc ?_ _ | refine X.drew ?_))) _)) (hFW.mono (X.fr (by (repeat (first | exact X.refl _ | assumption | refine X.ext ?_ _ | refine X.alloc ?_ _ | refine X.drew ?_))) _))).mono ?_; rintro _ wq ⟨rfl, hxq⟩; rw [decide_eq_true (rfl : l = l)]; (try replace hSm := hSm.mono (hxq.fr _)); replace hxq := X.trans (a := W) (by (repeat (first | exact X.refl _ | assumption | refine X.ext ?_ _ | refine X.alloc ?_ _ | refine X.drew ?_))) hxq; obtain ⟨zq, rfl⟩ := hxq)
        | (go_at_call 38; refine (equalFile_c f f xa ba xn xc bn bc _ _ _ (hSxW.mono (X.fr (by (repeat (first | exact X.refl _ | assumption | refine X.ext ?_ _ | refine X.alloc ?_ _ | refine X.drew ?_))) _)) (hSW.mono (X.fr (by (repeat (first | exact X.refl _ | assumption | refine X.ext ?_ _ | refine X.alloc ?_ _ | refine X.drew ?_))) _))).mono ?_; rintro _ wq ⟨rfl, hxq⟩; rw [decide_eq_true (rfl : f = f)]; (try replace hSm := hSm.mono (hxq.fr _)); replace hxq := X.trans (a := W) (by (repeat (first | exact X.refl _ | assumption | refine X.ext ?_ _ | refine X.alloc ?_ _ | refine X.drew ?_))) hxq; obtain ⟨zq, rfl⟩ := hxq)
        | (go_at_call 16; refine (ModuleOf_c f ba bn bc _ _ hok (hSW.mono (X.fr (by (repeat (first | exact X.refl _ | assumption | refine X.ext ?_ _ | refine X.alloc ?_ _ | refine X.drew ?_))) _)) (hGW.mono (by (repeat (first | exact X.refl _ | assumption | refine X.ext ?_ _ | refine X.alloc ?_ _ | refine X.drew ?_))))).mono ?_; rintro _ wq ⟨rfl, hxq⟩; (try replace hSm := hSm.mono (hxq.fr _)); replace hxq := X.trans (a := W) (by (repeat (first | exact X.refl _ | assumption | refine X.ext ?_ _ | refine X.alloc ?_ _ | refine X.drew ?_))) hxq; obtain ⟨zq, rfl⟩ := hxq)
        | (go_at_call 11; refine (ModulesOf_i V _ (n + 1) rc _ _ (hAW.mono (X.fr (by (repeat (first | exact X.refl _ | assumption | refine X.ext ?_ _ | refine X.alloc ?_ _ | refine X.drew ?_))) _)) hVc (hGW.mono (by (repeat (first | exact X.refl _ | assumption | refine X.ext ?_ _ | refine X.alloc ?_ _ | refine X.drew ?_))))).mono ?_; rw [HM.out]; rintro _ wq ⟨ram, rcm, rfl, hOm, hxq⟩; have hSm := StrsAt.of_own hOm (by omega) hms; clear hOm; replace hxq := X.trans (a := W) (by (repeat (first | exact X.refl _ | assumption | refine X.ext ?_ _ | refine X.alloc ?_ _ | refine X.drew ?_))) hxq; obtain ⟨zq, rfl⟩ := hxq)
        | (go_at_call 15; refine (hasTextL_c M _ _ _ _ (moduleOf f) _ hSm).mono ?_; rw [decide_eq_true p4]; rintro _ wq ⟨rfl, hxq⟩; replace hxq := X.trans (a := W) (by (repeat (first | exact X.refl _ | assumption | refine X.ext ?_ _ | refine X.alloc ?_ _ | refine X.drew ?_))) hxq; obtain ⟨zq, rfl⟩ := hxq)))
    go_wp2
    go_ret
    exact ⟨by simp, hxwW.trans (by (repeat (first | exact X.refl _ | assumption | refine X.ext ?_ _ | refine X.alloc ?_ _ | refine X.drew ?_)))⟩

end Go.Proofs.YtlpbgingggnjpaaDoor
