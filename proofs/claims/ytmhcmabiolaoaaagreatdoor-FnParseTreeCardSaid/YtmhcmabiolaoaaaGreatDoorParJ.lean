/- Reading a line that is no file's, the program's: the walk. No condition but lengths. -/
import Derived.Test.YtmhcmabiolaoaaaGreatDoorParI
import Derived.Test.YtmhcmabiolaoaaaGreatDoorParP
namespace Go.Proofs.YtmhcmabiolaoaaaGreatDoor
open Go.RowKit

theorem x_set5 {A W : World} {b : Nat} (h : X A W) (hb : A.heap.size ≤ b) (v0 v1 v2 v3 v4 : Value) : X A (((((W.setCell ⟨b, 0, none⟩ v0).setCell ⟨b, 1, none⟩ v1).setCell ⟨b, 2, none⟩ v2).setCell ⟨b, 3, none⟩ v3).setCell ⟨b, 4, none⟩ v4) :=
  ((((h.setCell (p := ⟨b, 0, none⟩) hb v0).setCell (p := ⟨b, 1, none⟩) hb v1).setCell (p := ⟨b, 2, none⟩) hb v2).setCell (p := ⟨b, 3, none⟩) hb v3).setCell (p := ⟨b, 4, none⟩) hb v4
theorem bx_set5 {W : World} {b : Nat} {a0 a1 a2 a3 a4 : Value} (h : Bx W b #[a0, a1, a2, a3, a4]) (v0 v1 v2 v3 v4 : Value) : Bx (((((W.setCell ⟨b, 0, none⟩ v0).setCell ⟨b, 1, none⟩ v1).setCell ⟨b, 2, none⟩ v2).setCell ⟨b, 3, none⟩ v3).setCell ⟨b, 4, none⟩ v4) b #[v0, v1, v2, v3, v4] := by
  simpa using Bx.set (Bx.set (Bx.set (Bx.set (Bx.set h 0 v0) 1 v1) 2 v2) 3 v3) 4 v4
theorem unwant {o : Oper} {y : Nat → Option Bool} {A E : Prop} (hg : Region.wanted o y = true) (h : if Region.wanted o y = true then A else E) : A := by rwa [if_pos hg] at h
theorem name_w {R : World → Prop} {w0 : World} (h : R w0) : ∃ wx, wx = w0 ∧ R wx := ⟨w0, rfl, h⟩
theorem addSt_last {vs : List (Fi × Value)} {m : Nat} (hm : vs.length = m + 1) (s : St) (v : Value) : (vs.set m ({ (nth vs m).1 with body := (nth vs m).1.body ++ [s] }, v)).map (·.1) = addSt (vs.map (·.1)) s := by
  have hne : vs.map (·.1) ≠ [] := by
    intro e
    have := congrArg List.length e
    rw [List.length_map, hm] at this
    simp at this
  rw [addSt_set hne, List.map_set, List.length_map, hm, Nat.add_sub_cancel, nth_map_fst (by omega)]
set_option maxRecDepth 100000 in
set_option maxHeartbeats 8000000 in
theorem readLine_stmt (ws : List (List UInt8)) (sa : Option Addr) (sn sc tb B g0 c : Nat) (vs : List (Fi × Value)) (w : World) (hS : StrsAt w 0 sa sn ws) (hn : sn ≤ sc) (hE : Es w)
    (hT : w.heap[tb]? = some (.cells #[.slice (some ⟨g0, 0, none⟩) vs.length c] 24 (0, 0))) (hV : FilesV w B (some ⟨g0, 0, none⟩) c vs) (hB : B ≤ tb) (hvl : vs.length ≤ 4194304) (hbl : ∀ x ∈ vs, x.1.body.length ≤ 4194304) (hk : nth ws 0 ≠ kFile) :
    Calls Tryz.prog 20 #[.pointer (some ⟨tb, 0, none⟩), .slice sa sn sc] w fun e w' => e = .returned (.tuple #[]) ∧ ∃ vs', vs'.length = vs.length ∧ vs'.map (·.1) = addSt (vs.map (·.1)) (stI ws) ∧ w'.heap[tb]? = some (.cells #[.slice (some ⟨g0, 0, none⟩) vs.length c] 24 (0, 0)) ∧
      FilesV w' B (some ⟨g0, 0, none⟩) c vs' ∧ Kt tb w w' ∧ Below B w w' := by
  have hws := hS.2.2.1
  have htb : tb < w.heap.size := (Array.getElem?_eq_some_iff.1 hT).1
  go_enter Tryz.func20, Tryz.ntmps20
  go_wp2_with fail
  refine calls_name (fun W0 hW0 => ?_)
  obtain ⟨pb, hpb⟩ : ∃ pb, pb = w.heap.size := ⟨_, rfl⟩
  obtain ⟨ab, hab⟩ : ∃ ab, ab = pb + 1 := ⟨_, rfl⟩
  obtain ⟨sb, hsb⟩ : ∃ sb, sb = ab + 1 := ⟨_, rfl⟩
  rw [← hpb]
  rw [← hab]
  rw [← hsb]
  have hX0 : X w W0 := by rw [hW0]; (repeat (first | with_reducible exact X.refl _ | with_reducible assumption | with_reducible refine X.setCell ?_ (by first | (simp; done) | (simp; omega)) _ | with_reducible refine X.ext ?_ _ | with_reducible refine X.alloc ?_ _ | with_reducible refine X.drew ?_))
  have hP : WdAt W0 0 pb ws := by
    rw [hW0, hpb]
    exact ⟨sa, sn, sc, (((Bx.new w #[.slice sa sn sc] _).x (by (repeat (first | with_reducible exact X.refl _ | with_reducible assumption | with_reducible refine X.setCell ?_ (by first | (simp; done) | (simp; omega)) _ | with_reducible refine X.ext ?_ _ | with_reducible refine X.alloc ?_ _ | with_reducible refine X.drew ?_)))).out.2.1 0), ((Bx.new w #[.slice sa sn sc] _).x (by (repeat (first | with_reducible exact X.refl _ | with_reducible assumption | with_reducible refine X.setCell ?_ (by first | (simp; done) | (simp; omega)) _ | with_reducible refine X.ext ?_ _ | with_reducible refine X.alloc ?_ _ | with_reducible refine X.drew ?_)))).lt, hn, hS.mono (X.fr (by (repeat (first | with_reducible exact X.refl _ | with_reducible assumption | with_reducible refine X.setCell ?_ (by first | (simp; done) | (simp; omega)) _ | with_reducible refine X.ext ?_ _ | with_reducible refine X.alloc ?_ _ | with_reducible refine X.drew ?_))) _)⟩
  have hA0 : Bx W0 ab #[.func (.func 40) #[] #[.pointer (some ⟨pb, 0, none⟩)]] := by
    rw [hab, hpb]
    exact (bx3 hW0).2.1
  have hS0 : Bx W0 sb #[.int .i64 (-1), .string ⟨#[]⟩, .int .i64 0, .string ⟨#[]⟩, .int .i64 0] := by
    rw [hsb, hab, hpb]
    exact (bx3 hW0).2.2.1
  have hpw : w.heap.size ≤ pb := by omega
  have hpa : pb < ab := by omega
  have has : ab < sb := by omega
  clear hW0 hpb hab hsb
  refine (at_c ws 0 0 _ _ hP).mono ?_
  rintro _ _ ⟨rfl, rfl⟩
  have hE0 := hE.mono hX0
  have hq : (nth ws 0 == [102, 105, 108, 101]) = false := by unfold kFile at hk; simpa using hk
  go_upto_block 0 with (fail)
  go_cut [] from 9 (fun wx => X w wx ∧ Bx wx sb #[.int .i64 (stI ws).kind, .string ⟨((stI ws).mod).toArray⟩, .int .i64 (stI ws).level, .string ⟨((stI ws).name).toArray⟩, .int .i64 (stI ws).val])
  case first =>
    have cA := hA0.out.2.1 0
    have lA := hA0.lt
    by_cases h1 : nth ws 0 = kImport
    · have hst : stI ws = ⟨0, nth ws 1, 0, [], 0⟩ := by rw [stI, if_pos h1]
      rw [h1]
      unfold kImport
      clear hk hq h1
      obtain ⟨lS, cS, fS⟩ := hS0.out
      have s0 := cS 0
      have s1 := cS 1
      have s2 := cS 2
      have s3 := cS 3
      have s4 := cS 4
      have f0 := fS 0
      have f1 := fS 1
      have f2 := fS 2
      have f3 := fS 3
      have f4 := fS 4
      clear cS fS
      go_wp2_with fail
      refine (at_c ws 1 0 _ _ hP).mono ?_
      rintro _ _ ⟨rfl, rfl⟩
      go_wp2_with fail
      go_meet
      rw [hst]
      exact ⟨x_set5 hX0 (show w.heap.size ≤ sb by omega) _ _ _ _ _, bx_set5 hS0 _ _ _ _ _⟩
    have q1 : (nth ws 0 == [105, 109, 112, 111, 114, 116]) = false := by unfold kImport at h1; simpa using h1
    by_cases h2 : nth ws 0 = kFrom
    · have hst : stI ws = ⟨1, undash (nth ws 2), numI (nth ws 1), nth ws 3, 0⟩ := by rw [stI, if_neg h1, if_pos h2]
      rw [h2]
      unfold kFrom
      clear hk hq h1 h2 q1
      go_wp2_with fail
      refine wp_region_inv (fun L v W => X w W
          ∧ (L 8 = false → X W0 W)
          ∧ (L 0 = true → v 0 = (.func (.func 41) #[] #[.pointer (some ⟨ab, 0, none⟩)]))
          ∧ (L 1 = true → v 1 = .int .i64 (numI (nth ws 1)))
          ∧ (L 2 = true → v 2 = (.func (.func 40) #[] #[.pointer (some ⟨pb, 0, none⟩)]))
          ∧ (L 3 = true → v 3 = .string ⟨(nth ws 2).toArray⟩)
          ∧ (L 4 = true → v 4 = .string ⟨(undash (nth ws 2)).toArray⟩)
          ∧ (L 5 = true → v 5 = (.func (.func 40) #[] #[.pointer (some ⟨pb, 0, none⟩)]))
          ∧ (L 6 = true → v 6 = .string ⟨(nth ws 3).toArray⟩)
          ∧ (L 7 = true → v 7 = .agg #[.int .i64 1, .string ⟨(undash (nth ws 2)).toArray⟩, .int .i64 (numI (nth ws 1)), .string ⟨(nth ws 3).toArray⟩, .int .i64 0])
          ∧ (L 8 = true → L 7 = true)
          ∧ (L 7 = true → L 1 = true ∧ L 4 = true ∧ L 6 = true)
          ∧ (L 4 = true → L 3 = true)
          ∧ (L 3 = true → L 2 = true)
          ∧ (L 1 = true → L 0 = true)
          ∧ (L 6 = true → L 5 = true)
          ∧ (L 8 = true → Bx W sb #[.int .i64 1, .string ⟨(undash (nth ws 2)).toArray⟩, .int .i64 (numI (nth ws 1)), .string ⟨(nth ws 3).toArray⟩, .int .i64 0])) (by kernel_rfl) (by kernel_rfl) ?_ ?_ (l := [(50, 0), (51, 1), (52, 2), (53, 3), (54, 4), (55, 5), (56, 6), (57, 7)]) (by kernel_rfl) (n := 9) rfl ?_
      · intro v
        exact ⟨hX0.trans (X.refl _).drew, fun _ => (X.refl _).drew, fun h => Bool.noConfusion h, fun h => Bool.noConfusion h, fun h => Bool.noConfusion h, fun h => Bool.noConfusion h, fun h => Bool.noConfusion h, fun h => Bool.noConfusion h, fun h => Bool.noConfusion h, fun h => Bool.noConfusion h, fun h => Bool.noConfusion h, fun h => Bool.noConfusion h, fun h => Bool.noConfusion h, fun h => Bool.noConfusion h, fun h => Bool.noConfusion h, fun h => Bool.noConfusion h, fun h => Bool.noConfusion h⟩
      · intro i hi
        have hi' : i = 0 ∨ i = 1 ∨ i = 2 ∨ i = 3 ∨ i = 4 ∨ i = 5 ∨ i = 6 ∨ i = 7 ∨ i = 8 := by
          have : i < 9 := hi
          omega
        clear hi
        rcases hi' with rfl | rfl | rfl | rfl | rfl | rfl | rfl | rfl | rfl
        all_goals
          intro o ho L v aa W hI hS hL hA K hK
          cases (show some _ = some o from ho)
          obtain ⟨xw, xx, v0, v1, v2, v3, v4, v5, v6, v7, dp, d7, d4, d3, d1, d6, fin⟩ := hI
        · have a5 := hS.old 5 (by kernel_rfl) rfl
          have n8 : L 8 = false := by rcases h : L 8 with _ | _; (· rfl); (· have := d1 (d7 (dp h)).1; simp [hL] at this)
          clear hS ho hA
          go_simp
          exact hK _ W ⟨xw, xx, fun _ => rfl, v1, v2, v3, v4, v5, v6, v7, dp, d7, d4, d3, fun _ => rfl, d6, fun h => Bool.noConfusion (n8.symm.trans h)⟩
        · have l0 : L 0 = true := hA ⟨0, .data⟩ (by simp) rfl
          have a1 := hS.get 0 50 rfl l0 (v0 l0)
          have n8 : L 8 = false := by rcases h : L 8 with _ | _; (· rfl); (· have := (d7 (dp h)).1; simp [hL] at this)
          clear hS ho hA
          go_simp
          refine (num_c ws 1 0 pb ab W (hP.x (xx n8)) hws (hE0.mono (xx n8)) (((xx n8).cell (p := ⟨ab, 0, none⟩) hA0.lt).trans (hA0.out.2.1 0))).mono ?_
          rintro _ w' ⟨rfl, hx⟩
          exact hK _ w' ⟨xw.trans hx, fun h => (xx h).trans hx, v0, fun _ => rfl, v2, v3, v4, v5, v6, v7, dp, fun h => ⟨rfl, (d7 h).2⟩, d4, d3, fun _ => l0, d6, fun h => Bool.noConfusion (n8.symm.trans h)⟩
        · have a4 := hS.old 4 (by kernel_rfl) rfl
          have n8 : L 8 = false := by rcases h : L 8 with _ | _; (· rfl); (· have := d3 (d4 (d7 (dp h)).2.1); simp [hL] at this)
          have c4 := ((xx n8).cell (p := ⟨ab, 0, none⟩) hA0.lt).trans (hA0.out.2.1 0)
          have l4 := (hA0.x (xx n8)).lt
          clear hS ho hA
          go_simp
          exact hK _ W ⟨xw, xx, v0, v1, fun _ => rfl, v3, v4, v5, v6, v7, dp, d7, d4, fun _ => rfl, d1, d6, fun h => Bool.noConfusion (n8.symm.trans h)⟩
        · have l2 : L 2 = true := hA ⟨2, .data⟩ (by simp) rfl
          have a1 := hS.get 2 52 rfl l2 (v2 l2)
          have n8 : L 8 = false := by rcases h : L 8 with _ | _; (· rfl); (· have := d4 (d7 (dp h)).2.1; simp [hL] at this)
          clear hS ho hA
          go_simp
          refine (at_c ws 2 0 pb W (hP.x (xx n8))).mono ?_
          rintro _ w' ⟨rfl, rfl⟩
          exact hK _ _ ⟨xw, xx, v0, v1, v2, fun _ => rfl, v4, v5, v6, v7, dp, d7, fun _ => rfl, fun _ => l2, d1, d6, fun h => Bool.noConfusion (n8.symm.trans h)⟩
        · have l3 : L 3 = true := hA ⟨3, .data⟩ (by simp) rfl
          have a1 := hS.get 3 53 rfl l3 (v3 l3)
          have n8 : L 8 = false := by rcases h : L 8 with _ | _; (· rfl); (· have := (d7 (dp h)).2.1; simp [hL] at this)
          clear hS ho hA
          go_simp
          refine (noDash_c (nth ws 2) W).mono ?_
          rintro _ w' ⟨rfl, rfl⟩
          exact hK _ _ ⟨xw, xx, v0, v1, v2, v3, fun _ => rfl, v5, v6, v7, dp, fun h => ⟨(d7 h).1, rfl, (d7 h).2.2⟩, fun _ => l3, d3, d1, d6, fun h => Bool.noConfusion (n8.symm.trans h)⟩
        · have a4 := hS.old 4 (by kernel_rfl) rfl
          have n8 : L 8 = false := by rcases h : L 8 with _ | _; (· rfl); (· have := d6 (d7 (dp h)).2.2; simp [hL] at this)
          have c4 := ((xx n8).cell (p := ⟨ab, 0, none⟩) hA0.lt).trans (hA0.out.2.1 0)
          have l4 := (hA0.x (xx n8)).lt
          clear hS ho hA
          go_simp
          exact hK _ W ⟨xw, xx, v0, v1, v2, v3, v4, fun _ => rfl, v6, v7, dp, d7, d4, d3, d1, fun _ => rfl, fun h => Bool.noConfusion (n8.symm.trans h)⟩
        · have l5 : L 5 = true := hA ⟨5, .data⟩ (by simp) rfl
          have a1 := hS.get 5 55 rfl l5 (v5 l5)
          have n8 : L 8 = false := by rcases h : L 8 with _ | _; (· rfl); (· have := (d7 (dp h)).2.2; simp [hL] at this)
          clear hS ho hA
          go_simp
          refine (at_c ws 3 0 pb W (hP.x (xx n8))).mono ?_
          rintro _ w' ⟨rfl, rfl⟩
          exact hK _ _ ⟨xw, xx, v0, v1, v2, v3, v4, v5, fun _ => rfl, v7, dp, fun h => ⟨(d7 h).1, (d7 h).2.1, rfl⟩, d4, d3, d1, fun _ => l5, fun h => Bool.noConfusion (n8.symm.trans h)⟩
        · have l1 : L 1 = true := hA ⟨1, .data⟩ (by simp) rfl
          have l4 : L 4 = true := hA ⟨4, .data⟩ (by simp) rfl
          have l6 : L 6 = true := hA ⟨6, .data⟩ (by simp) rfl
          have n8 : L 8 = false := by rcases h : L 8 with _ | _; (· rfl); (· have := dp h; simp [hL] at this)
          have a1 := hS.get 1 51 rfl l1 (v1 l1)
          have a4 := hS.get 4 54 rfl l4 (v4 l4)
          have a6 := hS.get 6 56 rfl l6 (v6 l6)
          clear hS ho hA
          go_simp
          exact hK _ W ⟨xw, xx, v0, v1, v2, v3, v4, v5, v6, fun _ => rfl, fun _ => rfl, fun _ => ⟨l1, l4, l6⟩, d4, d3, d1, d6, fun h => Bool.noConfusion (n8.symm.trans h)⟩
        · have l7 : L 7 = true := hA ⟨7, .data⟩ (by simp) rfl
          have a7 := hS.get 7 57 rfl l7 (v7 l7)
          have a6 := hS.old 6 (by kernel_rfl) rfl
          obtain ⟨lb, cb, fb⟩ := (hS0.x (xx hL)).out
          have f0 := fb 0
          have f1 := fb 1
          have f2 := fb 2
          have f3 := fb 3
          have f4 := fb 4
          have c0 := cb 0
          have c1 := cb 1
          have c2 := cb 2
          have c3 := cb 3
          have c4 := cb 4
          clear fb cb
          clear hS ho hA
          go_simp
          exact hK undef _ ⟨x_set5 xw (show w.heap.size ≤ sb by omega) _ _ _ _ _, fun h => Bool.noConfusion h, v0, v1, v2, v3, v4, v5, v6, v7, fun _ => l7, d7, d4, d3, d1, d6, fun _ => bx_set5 (hS0.x (xx hL)) _ _ _ _ _⟩
      · intro v W hI
        obtain ⟨xw, xx, v0, v1, v2, v3, v4, v5, v6, v7, dp, d7, d4, d3, d1, d6, fin⟩ := hI
        have hfin := fin rfl
        clear fin v0 v1 v2 v3 v4 v5 v6 v7 dp d7 d4 d3 d1 d6 xx
        simp only [putL, List.foldl, List.setIfInBounds_toArray, List.set_cons_zero, List.set_cons_succ]
        clear hS0 hA0 hP cA lA
        go_wp2_with fail
        go_meet
        rw [hst]
        exact ⟨xw, hfin⟩
    have q2 : (nth ws 0 == [102, 114, 111, 109]) = false := by unfold kFrom at h2; simpa using h2
    by_cases h3 : nth ws 0 = kStar
    · have hst : stI ws = ⟨2, nth ws 1, 0, [], 0⟩ := by rw [stI, if_neg h1, if_neg h2, if_pos h3]
      rw [h3]
      unfold kStar
      clear hk hq h1 h2 h3 q1 q2
      obtain ⟨lS, cS, fS⟩ := hS0.out
      have s0 := cS 0
      have s1 := cS 1
      have s2 := cS 2
      have s3 := cS 3
      have s4 := cS 4
      have f0 := fS 0
      have f1 := fS 1
      have f2 := fS 2
      have f3 := fS 3
      have f4 := fS 4
      clear cS fS
      go_wp2_with fail
      refine (at_c ws 1 0 _ _ hP).mono ?_
      rintro _ _ ⟨rfl, rfl⟩
      go_wp2_with fail
      go_meet
      rw [hst]
      exact ⟨x_set5 hX0 (show w.heap.size ≤ sb by omega) _ _ _ _ _, bx_set5 hS0 _ _ _ _ _⟩
    have q3 : (nth ws 0 == [115, 116, 97, 114]) = false := by unfold kStar at h3; simpa using h3
    by_cases h4 : nth ws 0 = kSet
    · have hst : stI ws = ⟨3, [], 0, nth ws 1, numI (nth ws 2)⟩ := by rw [stI, if_neg h1, if_neg h2, if_neg h3, if_pos h4]
      rw [h4]
      unfold kSet
      clear hk hq h1 h2 h3 h4 q1 q2 q3
      go_wp2_with fail
      refine (at_c ws 1 0 _ _ hP).mono ?_
      rintro _ _ ⟨rfl, rfl⟩
      go_wp2_with fail
      refine (num_c ws 2 0 _ _ _ hP hws hE0 (hA0.out.2.1 0)).mono ?_
      rintro _ w5 ⟨rfl, hx5⟩
      have hS5 := hS0.x hx5
      obtain ⟨lS, cS, fS⟩ := hS5.out
      have s0 := cS 0
      have s1 := cS 1
      have s2 := cS 2
      have s3 := cS 3
      have s4 := cS 4
      have f0 := fS 0
      have f1 := fS 1
      have f2 := fS 2
      have f3 := fS 3
      have f4 := fS 4
      clear cS fS
      go_wp2_with fail
      go_meet
      rw [hst]
      exact ⟨x_set5 (hX0.trans hx5) (show w.heap.size ≤ sb by omega) _ _ _ _ _, bx_set5 hS5 _ _ _ _ _⟩
    have q4 : (nth ws 0 == [115, 101, 116]) = false := by unfold kSet at h4; simpa using h4
    by_cases h5 : nth ws 0 = kPrint
    · have hst : stI ws = ⟨4, [], 0, nth ws 1, 0⟩ := by rw [stI, if_neg h1, if_neg h2, if_neg h3, if_neg h4, if_pos h5]
      rw [h5]
      unfold kPrint
      clear hk hq h1 h2 h3 h4 h5 q1 q2 q3 q4
      obtain ⟨lS, cS, fS⟩ := hS0.out
      have s0 := cS 0
      have s1 := cS 1
      have s2 := cS 2
      have s3 := cS 3
      have s4 := cS 4
      have f0 := fS 0
      have f1 := fS 1
      have f2 := fS 2
      have f3 := fS 3
      have f4 := fS 4
      clear cS fS
      go_wp2_with fail
      refine (at_c ws 1 0 _ _ hP).mono ?_
      rintro _ _ ⟨rfl, rfl⟩
      go_wp2_with fail
      go_meet
      rw [hst]
      exact ⟨x_set5 hX0 (show w.heap.size ≤ sb by omega) _ _ _ _ _, bx_set5 hS0 _ _ _ _ _⟩
    have q5 : (nth ws 0 == [112, 114, 105, 110, 116]) = false := by unfold kPrint at h5; simpa using h5
    by_cases h6 : nth ws 0 = kFail
    · have hst : stI ws = ⟨5, [], 0, [], 0⟩ := by rw [stI, if_neg h1, if_neg h2, if_neg h3, if_neg h4, if_neg h5, if_pos h6]
      rw [h6]
      unfold kFail
      clear hk hq h1 h2 h3 h4 h5 h6 q1 q2 q3 q4 q5
      obtain ⟨lS, cS, fS⟩ := hS0.out
      have s0 := cS 0
      have s1 := cS 1
      have s2 := cS 2
      have s3 := cS 3
      have s4 := cS 4
      have f0 := fS 0
      have f1 := fS 1
      have f2 := fS 2
      have f3 := fS 3
      have f4 := fS 4
      clear cS fS
      go_wp2_with fail
      go_meet
      rw [hst]
      exact ⟨x_set5 hX0 (show w.heap.size ≤ sb by omega) _ _ _ _ _, bx_set5 hS0 _ _ _ _ _⟩
    have q6 : (nth ws 0 == [102, 97, 105, 108]) = false := by unfold kFail at h6; simpa using h6
    have hst : stI ws = ⟨-1, [], 0, [], 0⟩ := by rw [stI, if_neg h1, if_neg h2, if_neg h3, if_neg h4, if_neg h5, if_neg h6]
    go_wp2_with fail
    go_meet
    rw [hst]
    exact ⟨hX0, hS0⟩
  case rest =>
    obtain ⟨wx, hwx, hXc, hSc⟩ := name_w (R := fun wx => X w wx ∧ Bx wx sb _) hcut
    rw [← hwx]
    clear hcut hwx
    have hTc := at_x6 hT hXc
    obtain ⟨lt5, ct5, _⟩ := Bx.out ⟨_, hTc⟩
    have e0 := ct5 0
    clear ct5 hS0 hA0 hP
    have hVc := hV.fr (hXc.fr B)
    by_cases h0 : vs.length = 0
    · obtain rfl : vs = [] := List.length_eq_zero_iff.1 h0
      go_wp2
      go_end0
      refine ⟨rfl, [], rfl, rfl, hTc, ?_, Kt.x hXc, below_to hXc.below (by omega)⟩
      exact hV.fr (hXc.fr _)
    · obtain ⟨m, hm⟩ : ∃ m, vs.length = m + 1 := ⟨vs.length - 1, by omega⟩
      have hrow : wx.ownsRow B 36 6 (.slice (some ⟨g0, 0, none⟩) (m + 1) c) (m + 1) (vs.flatMap fcells) := by rw [← hm]; exact hVc.1
      have hmem := nth_mem (l := vs) (k := m) (by omega)
      obtain ⟨ba, bc, eb, hb⟩ := hVc.2.2 (nth vs m) hmem
      have hbl1 := hbl _ hmem
      have hlast := addSt_last (vs := vs) hm
      obtain ⟨q, hq⟩ : ∃ q, q = (nth vs m).1.body.length := ⟨_, rfl⟩
      rw [← hq] at eb hb hbl1
      have cB : wx.cell? ⟨g0, m * 6 + 5, none⟩ = some (.slice ba q bc) := row_cell hrow _ _ (by rw [fcells_five (by omega), eb])
      have gl := (hrow.lt g0 rfl).2
      rw [hm] at e0 hvl
      have Hm := Lib.hid hm
      have Hq := Lib.hid hq
      have Hlast := Lib.hid hlast
      have HV := Lib.hid hVc
      have HT := Lib.hid hT
      have HTc := Lib.hid hTc
      have HTm := Lib.hid (show wx.heap[tb]? = some (.cells #[.slice (some ⟨g0, 0, none⟩) (m + 1) c] 24 (0, 0)) by rw [← hm]; exact hTc)
      have HV0 := Lib.hid hV
      have HEb := Lib.hid eb
      clear hm hq h0 hmem eb hlast hVc hT hTc hV
      go_wp2_with fail
      have fl := fcells_five (zs := vs) (j := m) (by rw [Hm.out]; omega)
      rw [HEb.out] at fl
      have hmm : (m : Int) < (m : Int) + 1 := by omega
      refine wp_region_inv (fun L v W => (L 15 = false → X wx W)
          ∧ (L 18 = false → W.heap[tb]? = some (.cells #[.slice (some ⟨g0, 0, none⟩) (m + 1) c] 24 (0, 0)))
          ∧ (L 18 = false → W.ownsRow B 36 6 (.slice (some ⟨g0, 0, none⟩) (m + 1) c) (m + 1) (vs.flatMap fcells))
          ∧ (L 15 = true → L 18 = false → ∃ g9 c9, v 15 = .slice (some ⟨g9, 0, none⟩) (q + 1) c9 ∧ W.ownsRow B 53 5 (.slice (some ⟨g9, 0, none⟩) (q + 1) c9) (q + 1) ((nth vs m).1.body.flatMap scells ++ scells (stI ws)) ∧ wx.grownBy W (Value.slice ba q bc).ownBlock ∧ ((Value.slice ba q bc).ownBlock = some g9 ∨ wx.heap.size ≤ g9))
          ∧ (L 18 = true → L 3 = true ∧ L 8 = true ∧ L 15 = true)
          ∧ (L 15 = true → L 12 = true ∧ L 14 = true)
          ∧ (L 14 = true → L 13 = true)
          ∧ (L 0 = true → v 0 = .pointer (some ⟨tb, 0, none⟩))
          ∧ (L 1 = true → v 1 = .pointer (some ⟨tb, 0, none⟩))
          ∧ (L 2 = true → v 2 = .pointer (some ⟨tb, 0, none⟩))
          ∧ (L 3 = true → v 3 = .slice (some ⟨g0, 0, none⟩) (m + 1) c)
          ∧ (L 4 = true → v 4 = .int .i64 (m : Int))
          ∧ (L 5 = true → v 5 = .pointer (some ⟨tb, 0, none⟩))
          ∧ (L 6 = true → v 6 = .pointer (some ⟨tb, 0, none⟩))
          ∧ (L 7 = true → v 7 = .pointer (some ⟨tb, 0, none⟩))
          ∧ (L 8 = true → v 8 = .slice (some ⟨g0, 0, none⟩) (m + 1) c)
          ∧ (L 9 = true → v 9 = .int .i64 (m : Int))
          ∧ (L 10 = true → v 10 = .pointer (some ⟨g0, m * 6, none⟩))
          ∧ (L 11 = true → v 11 = .pointer (some ⟨g0, m * 6 + 5, none⟩))
          ∧ (L 12 = true → v 12 = .slice ba q bc)
          ∧ (L 13 = true → v 13 = .agg #[.int .i64 (stI ws).kind, .string ⟨((stI ws).mod).toArray⟩, .int .i64 (stI ws).level, .string ⟨((stI ws).name).toArray⟩, .int .i64 (stI ws).val])
          ∧ (L 14 = true → ∃ g, v 14 = .slice (some ⟨g, 0, none⟩) 1 1 ∧ (L 15 = false → W.heap[g]? = some (.cells #[.int .i64 (stI ws).kind, .string ⟨((stI ws).mod).toArray⟩, .int .i64 (stI ws).level, .string ⟨((stI ws).name).toArray⟩, .int .i64 (stI ws).val] 53 (0, 0))))
          ∧ (L 16 = true → v 16 = .pointer (some ⟨g0, m * 6, none⟩))
          ∧ (L 17 = true → v 17 = .pointer (some ⟨g0, m * 6 + 5, none⟩))
          ∧ (L 18 = true → ∃ w9 g9 c9, W = w9.setCell ⟨g0, m * 6 + 5, none⟩ (.slice (some ⟨g9, 0, none⟩) (q + 1) c9) ∧ w9.ownsRow B 53 5 (.slice (some ⟨g9, 0, none⟩) (q + 1) c9) (q + 1) ((nth vs m).1.body.flatMap scells ++ scells (stI ws)) ∧ wx.grownBy w9 (Value.slice ba q bc).ownBlock ∧ ((Value.slice ba q bc).ownBlock = some g9 ∨ wx.heap.size ≤ g9))) (by kernel_rfl) (by kernel_rfl) ?_ ?_ (l := [(86, 0), (87, 1), (88, 2), (89, 3), (90, 4), (91, 5), (92, 6), (93, 7), (94, 8), (95, 9), (96, 10), (97, 11), (98, 12), (99, 13), (100, 14), (101, 15), (102, 16), (103, 17)]) (by kernel_rfl) (n := 19) rfl ?_
      · intro v
        exact ⟨fun _ => (X.refl _).drew, fun _ => at_x6 HTm.out ((X.refl _).drew), fun _ => own_fr hrow (((X.refl wx).drew).fr _), fun h => Bool.noConfusion h, fun h => Bool.noConfusion h, fun h => Bool.noConfusion h, fun h => Bool.noConfusion h, fun h => Bool.noConfusion h, fun h => Bool.noConfusion h, fun h => Bool.noConfusion h, fun h => Bool.noConfusion h, fun h => Bool.noConfusion h, fun h => Bool.noConfusion h, fun h => Bool.noConfusion h, fun h => Bool.noConfusion h, fun h => Bool.noConfusion h, fun h => Bool.noConfusion h, fun h => Bool.noConfusion h, fun h => Bool.noConfusion h, fun h => Bool.noConfusion h, fun h => Bool.noConfusion h, fun h => Bool.noConfusion h, fun h => Bool.noConfusion h, fun h => Bool.noConfusion h, fun h => Bool.noConfusion h⟩
      · intro i hi
        have hi' : i = 0 ∨ i = 1 ∨ i = 2 ∨ i = 3 ∨ i = 4 ∨ i = 5 ∨ i = 6 ∨ i = 7 ∨ i = 8 ∨ i = 9 ∨ i = 10 ∨ i = 11 ∨ i = 12 ∨ i = 13 ∨ i = 14 ∨ i = 15 ∨ i = 16 ∨ i = 17 ∨ i = 18 := by
          have : i < 19 := hi
          omega
        clear hi
        rcases hi' with rfl | rfl | rfl | rfl | rfl | rfl | rfl | rfl | rfl | rfl | rfl | rfl | rfl | rfl | rfl | rfl | rfl | rfl | rfl
        all_goals
          intro o ho L v aa W hI hS hL hA K hK
          cases (show some _ = some o from ho)
          obtain ⟨xx, rt, rg, ap, d18, d15, d14, v0, v1, v2, v3, v4, v5, v6, v7, v8, v9, v10, v11, v12, v13, v14, v16, v17, fin⟩ := hI
        · have a0 := hS.old 0 (by kernel_rfl) rfl
          clear hS ho hA
          go_simp
          exact hK _ W ⟨xx, rt, rg, ap, d18, d15, d14, fun _ => rfl, v1, v2, v3, v4, v5, v6, v7, v8, v9, v10, v11, v12, v13, v14, v16, v17, fin⟩
        · have l0 : L 0 = true := hA ⟨0, .data⟩ (by simp) rfl
          have a0 := hS.get 0 86 rfl l0 (v0 l0)
          clear hS ho hA
          go_simp
          exact hK _ W ⟨xx, rt, rg, ap, d18, d15, d14, v0, fun _ => rfl, v2, v3, v4, v5, v6, v7, v8, v9, v10, v11, v12, v13, v14, v16, v17, fin⟩
        · have l1 : L 1 = true := hA ⟨1, .data⟩ (by simp) rfl
          have a1 := hS.get 1 87 rfl l1 (v1 l1)
          clear hS ho hA
          go_simp
          exact hK _ W ⟨xx, rt, rg, ap, d18, d15, d14, v0, v1, fun _ => rfl, v3, v4, v5, v6, v7, v8, v9, v10, v11, v12, v13, v14, v16, v17, fin⟩
        · have l2 : L 2 = true := hA ⟨2, .data⟩ (by simp) rfl
          have a2 := hS.get 2 88 rfl l2 (v2 l2)
          have n18 : L 18 = false := by rcases h : L 18 with _ | _; (· rfl); (· have := (d18 h).1; simp [hL] at this)
          obtain ⟨lt, ct, _⟩ := Bx.out ⟨_, rt n18⟩
          have e := ct 0
          clear ct
          clear hS ho hA
          go_simp
          exact hK _ W ⟨xx, rt, rg, ap, fun h => ⟨rfl, (d18 h).2⟩, d15, d14, v0, v1, v2, fun _ => rfl, v4, v5, v6, v7, v8, v9, v10, v11, v12, v13, v14, v16, v17, fin⟩
        · have a0 := hS.old 8 (by kernel_rfl) rfl
          clear hS ho hA
          go_simp
          exact hK _ W ⟨xx, rt, rg, ap, d18, d15, d14, v0, v1, v2, v3, fun _ => rfl, v5, v6, v7, v8, v9, v10, v11, v12, v13, v14, v16, v17, fin⟩
        · have a0 := hS.old 0 (by kernel_rfl) rfl
          clear hS ho hA
          go_simp
          exact hK _ W ⟨xx, rt, rg, ap, d18, d15, d14, v0, v1, v2, v3, v4, fun _ => rfl, v6, v7, v8, v9, v10, v11, v12, v13, v14, v16, v17, fin⟩
        · have l5 : L 5 = true := hA ⟨5, .data⟩ (by simp) rfl
          have a5 := hS.get 5 91 rfl l5 (v5 l5)
          clear hS ho hA
          go_simp
          exact hK _ W ⟨xx, rt, rg, ap, d18, d15, d14, v0, v1, v2, v3, v4, v5, fun _ => rfl, v7, v8, v9, v10, v11, v12, v13, v14, v16, v17, fin⟩
        · have l6 : L 6 = true := hA ⟨6, .data⟩ (by simp) rfl
          have a6 := hS.get 6 92 rfl l6 (v6 l6)
          clear hS ho hA
          go_simp
          exact hK _ W ⟨xx, rt, rg, ap, d18, d15, d14, v0, v1, v2, v3, v4, v5, v6, fun _ => rfl, v8, v9, v10, v11, v12, v13, v14, v16, v17, fin⟩
        · have l7 : L 7 = true := hA ⟨7, .data⟩ (by simp) rfl
          have a7 := hS.get 7 93 rfl l7 (v7 l7)
          have n18 : L 18 = false := by rcases h : L 18 with _ | _; (· rfl); (· have := (d18 h).2.1; simp [hL] at this)
          obtain ⟨lt, ct, _⟩ := Bx.out ⟨_, rt n18⟩
          have e := ct 0
          clear ct
          clear hS ho hA
          go_simp
          exact hK _ W ⟨xx, rt, rg, ap, fun h => ⟨(d18 h).1, rfl, (d18 h).2.2⟩, d15, d14, v0, v1, v2, v3, v4, v5, v6, v7, fun _ => rfl, v9, v10, v11, v12, v13, v14, v16, v17, fin⟩
        · have a0 := hS.old 8 (by kernel_rfl) rfl
          clear hS ho hA
          go_simp
          exact hK _ W ⟨xx, rt, rg, ap, d18, d15, d14, v0, v1, v2, v3, v4, v5, v6, v7, v8, fun _ => rfl, v10, v11, v12, v13, v14, v16, v17, fin⟩
        · have l8 : L 8 = true := hA ⟨8, .data⟩ (by simp) rfl
          have a8 := hS.get 8 94 rfl l8 (v8 l8)
          have l9 : L 9 = true := hA ⟨9, .data⟩ (by simp) rfl
          have a9 := hS.get 9 95 rfl l9 (v9 l9)
          clear hS ho hA
          go_simp
          exact hK _ W ⟨xx, rt, rg, ap, d18, d15, d14, v0, v1, v2, v3, v4, v5, v6, v7, v8, v9, fun _ => rfl, v11, v12, v13, v14, v16, v17, fin⟩
        · have l10 : L 10 = true := hA ⟨10, .data⟩ (by simp) rfl
          have a10 := hS.get 10 96 rfl l10 (v10 l10)
          clear hS ho hA
          go_simp
          exact hK _ W ⟨xx, rt, rg, ap, d18, d15, d14, v0, v1, v2, v3, v4, v5, v6, v7, v8, v9, v10, fun _ => rfl, v12, v13, v14, v16, v17, fin⟩
        · have l11 : L 11 = true := hA ⟨11, .data⟩ (by simp) rfl
          have a11 := hS.get 11 97 rfl l11 (v11 l11)
          have n15 : L 15 = false := by rcases h : L 15 with _ | _; (· rfl); (· have := (d15 h).1; simp [hL] at this)
          have n18 : L 18 = false := by rcases h : L 18 with _ | _; (· rfl); (· have := (d15 (d18 h).2.2).1; simp [hL] at this)
          have cB := row_cell (rg n18) _ _ fl
          have gl := ((rg n18).lt g0 rfl).2
          clear hS ho hA
          go_simp
          exact hK _ W ⟨xx, rt, rg, ap, d18, fun h => ⟨rfl, (d15 h).2⟩, d14, v0, v1, v2, v3, v4, v5, v6, v7, v8, v9, v10, v11, fun _ => rfl, v13, v14, v16, v17, fin⟩
        · have a6 := hS.old 6 (by kernel_rfl) rfl
          have n15 : L 15 = false := by rcases h : L 15 with _ | _; (· rfl); (· have := d14 (d15 h).2; simp [hL] at this)
          obtain ⟨ls, cs, _⟩ := (hSc.x (xx n15)).out
          have s0 := cs 0
          have s1 := cs 1
          have s2 := cs 2
          have s3 := cs 3
          have s4 := cs 4
          clear cs
          clear hS ho hA
          go_simp
          exact hK _ W ⟨xx, rt, rg, ap, d18, d15, fun _ => rfl, v0, v1, v2, v3, v4, v5, v6, v7, v8, v9, v10, v11, v12, fun _ => rfl, v14, v16, v17, fin⟩
        · have l13 : L 13 = true := hA ⟨13, .data⟩ (by simp) rfl
          have a13 := hS.get 13 99 rfl l13 (v13 l13)
          have n15 : L 15 = false := by rcases h : L 15 with _ | _; (· rfl); (· have := (d15 h).2; simp [hL] at this)
          have n18 : L 18 = false := by rcases h : L 18 with _ | _; (· rfl); (· have := (d15 (d18 h).2.2).2; simp [hL] at this)
          clear hS ho hA
          go_simp
          exact hK _ _ ⟨fun h => (xx h).alloc _, fun h => at_x6 (rt h) ((X.refl W).alloc _), fun h => own_fr (rg h) (((X.refl W).alloc _).fr _), fun h => Bool.noConfusion (n15.symm.trans h), d18, fun h => ⟨(d15 h).1, rfl⟩, fun _ => l13, v0, v1, v2, v3, v4, v5, v6, v7, v8, v9, v10, v11, v12, v13, fun _ => ⟨_, rfl, fun _ => heap_alloc_new _ _⟩, v16, v17, fun h => Bool.noConfusion (n18.symm.trans h)⟩
        · have l12 : L 12 = true := hA ⟨12, .data⟩ (by simp) rfl
          have l14 : L 14 = true := hA ⟨14, .data⟩ (by simp) rfl
          have n18 : L 18 = false := by rcases h : L 18 with _ | _; (· rfl); (· have := (d18 h).2.2; simp [hL] at this)
          obtain ⟨gl, e14, hgl⟩ := v14 l14
          refine unwant (E := True) (by exact rfl) (step_append_tL (ops := #[]) stmt_T' rfl _ _ rfl (xx hL) hb ((hS.eval_on 12 98 rfl l12).trans (v12 l12)) ((hS.eval_on 14 100 rfl l14).trans e14) (hgl hL) rfl (by simp [Value.oneCell']) (by omega) (by omega) (by omega) ?_)
          intro g9 c9 w9 hO9 hg9 hat9
          have hrow9 := hrow.kept hg9 (row_ne hrow hb (by decide))
          have hT9 := at_grown HTm.out hg9 (own_ne_at hb HTm.out (by decide))
          exact hK _ w9 ⟨fun h => Bool.noConfusion h, fun _ => hT9, fun _ => hrow9, fun _ _ => ⟨g9, c9, rfl, hO9, hg9, hat9⟩, fun h => Bool.noConfusion (n18.symm.trans h), fun _ => ⟨l12, l14⟩, d14, v0, v1, v2, v3, v4, v5, v6, v7, v8, v9, v10, v11, v12, v13, fun h => let ⟨g, e, _⟩ := v14 h; ⟨g, e, fun h => Bool.noConfusion h⟩, v16, v17, fun h => Bool.noConfusion (n18.symm.trans h)⟩
        · have l3 : L 3 = true := hA ⟨3, .data⟩ (by simp) rfl
          have a3 := hS.get 3 89 rfl l3 (v3 l3)
          have l4 : L 4 = true := hA ⟨4, .data⟩ (by simp) rfl
          have a4 := hS.get 4 90 rfl l4 (v4 l4)
          clear hS ho hA
          go_simp
          exact hK _ W ⟨xx, rt, rg, ap, d18, d15, d14, v0, v1, v2, v3, v4, v5, v6, v7, v8, v9, v10, v11, v12, v13, v14, fun _ => rfl, v17, fin⟩
        · have l16 : L 16 = true := hA ⟨16, .data⟩ (by simp) rfl
          have a16 := hS.get 16 102 rfl l16 (v16 l16)
          clear hS ho hA
          go_simp
          exact hK _ W ⟨xx, rt, rg, ap, d18, d15, d14, v0, v1, v2, v3, v4, v5, v6, v7, v8, v9, v10, v11, v12, v13, v14, v16, fun _ => rfl, fin⟩
        · have l17 : L 17 = true := hA ⟨17, .data⟩ (by simp) rfl
          have l15 : L 15 = true := hA ⟨15, .data⟩ (by simp) rfl
          have l3 : L 3 = true := hA ⟨3, .phase⟩ (by simp) rfl
          have l8 : L 8 = true := hA ⟨8, .phase⟩ (by simp) rfl
          have a17 := hS.get 17 103 rfl l17 (v17 l17)
          obtain ⟨g9, c9, e15, hO9, hg9, hat9⟩ := ap l15 hL
          have a15 := hS.get 15 101 rfl l15 e15
          have f9 := (rg hL).frozenAt (m * 6 + 5)
          have gl := ((rg hL).lt g0 rfl).2
          have cB := row_cell (rg hL) _ _ fl
          clear hS ho hA
          go_simp
          exact hK undef _ ⟨fun h => Bool.noConfusion (l15.symm.trans h), fun h => Bool.noConfusion h, fun h => Bool.noConfusion h, fun _ h => Bool.noConfusion h, fun _ => ⟨l3, l8, l15⟩, d15, d14, v0, v1, v2, v3, v4, v5, v6, v7, v8, v9, v10, v11, v12, v13, fun h => let ⟨g, e, _⟩ := v14 h; ⟨g, e, fun h => Bool.noConfusion (l15.symm.trans h)⟩, v16, v17, fun _ => ⟨W, g9, c9, rfl, hO9, hg9, hat9⟩⟩
      · intro v W hI
        obtain ⟨xx, rt, rg, ap, d18, d15, d14, v0, v1, v2, v3, v4, v5, v6, v7, v8, v9, v10, v11, v12, v13, v14, v16, v17, fin⟩ := hI
        obtain ⟨w9, g9, c9, rfl, hO9, hg9, hat9⟩ := fin rfl
        clear fin xx rt rg ap d18 d15 d14 v0 v1 v2 v3 v4 v5 v6 v7 v8 v9 v10 v11 v12 v13 v14 v16 v17
        simp only [putL, List.foldl, List.setIfInBounds_toArray, List.set_cons_zero, List.set_cons_succ]
        have hbl9 := own_block (hrow.kept hg9 (row_ne hrow hb (by decide)))
        have hT9 := at_grown HTm.out hg9 (own_ne_at hb HTm.out (by decide))
        have hne : tb ≠ g0 := fun e => own_ne_at hrow HTm.out (by decide) (by rw [e]; rfl)
        have hkt : Kt tb wx w9 := by
          cases hv : (Value.slice ba q bc).ownBlock with
          | none => exact Kt.grown (g := 0) (cs := #[]) (t := 53) (fz := (0, 0)) hg9 (.inl hv) (.inr rfl)
          | some g =>
            obtain ⟨cc, fz, h1⟩ := row_kind hb g hv
            exact Kt.grown hg9 (.inr ⟨hv, h1⟩) (.inr rfl)
        obtain ⟨cs9, hbl9⟩ := hbl9
        go_wp2
        go_end0
        refine ⟨rfl, vs.set m ({ (nth vs m).1 with body := (nth vs m).1.body ++ [stI ws] }, .slice (some ⟨g9, 0, none⟩) (q + 1) c9), by rw [List.length_set], Hlast.out (stI ws) _, ?_, ?_, ?_, ?_⟩
        · rw [Below.heap_setCell _ _ _ _ (by exact hne), Hm.out]; exact hT9
        · refine FilesV.body HV.out (by rw [Hm.out]; omega) Hq.out hO9 (by rw [HEb.out]; exact hg9) ?_
          rw [HEb.out]
          rcases hat9 with e | e
          · exact .inl e.symm
          · exact .inr ⟨g9, rfl, e⟩
        · exact ((Kt.x hXc).trans hkt).trans (Kt.setRow hbl9 (.inl rfl) _)
        · exact ((below_to hXc.below (by omega) : Below B w wx).grown hg9 (Nat.le_trans (by omega) hXc.size) (fun k hk => (hb.lt k hk).1)).setCell (by have := (hrow.lt g0 rfl).1; exact this) _
end Go.Proofs.YtmhcmabiolaoaaaGreatDoor
