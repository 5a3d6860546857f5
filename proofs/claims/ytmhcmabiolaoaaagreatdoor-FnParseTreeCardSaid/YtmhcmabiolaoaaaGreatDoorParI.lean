/- Reading a line into a tree, the program's: the walk. No condition but lengths. -/
import Derived.Test.YtmhcmabiolaoaaaGreatDoorParK
namespace Go.Proofs.YtmhcmabiolaoaaaGreatDoor
open Go.RowKit

set_option maxRecDepth 100000 in
set_option maxHeartbeats 2000000 in
theorem readLine_file (ws : List (List UInt8)) (sa : Option Addr) (sn sc tb B g0 c : Nat) (vs : List (Fi × Value)) (w : World) (hS : StrsAt w 0 sa sn ws) (hn : sn ≤ sc) (hE : Es w)
    (hT : w.heap[tb]? = some (.cells #[.slice (some ⟨g0, 0, none⟩) vs.length c] 24 (0, 0))) (hV : FilesV w B (some ⟨g0, 0, none⟩) c vs) (hB : B ≤ tb) (hvl : vs.length ≤ 4194304) (hk : nth ws 0 = kFile) :
    Calls Tryz.prog 20 #[.pointer (some ⟨tb, 0, none⟩), .slice sa sn sc] w fun e w' => e = .returned (.tuple #[]) ∧ ∃ g' c' bv, w'.heap[tb]? = some (.cells #[.slice (some ⟨g', 0, none⟩) (vs.length + 1) c'] 24 (0, 0)) ∧
      FilesV w' B (some ⟨g', 0, none⟩) c' (vs ++ [(fiI ws, bv)]) ∧ Kt tb w w' ∧ Below B w w' := by
  have hws := hS.2.2.1
  have htb : tb < w.heap.size := (Array.getElem?_eq_some_iff.1 hT).1
  go_enter Tryz.func20, Tryz.ntmps20
  go_wp2_with fail
  refine calls_name (fun W0 hW0 => ?_)
  obtain ⟨pb, hpb⟩ : ∃ pb, pb = w.heap.size := ⟨_, rfl⟩
  obtain ⟨ab, hab⟩ : ∃ ab, ab = pb + 1 := ⟨_, rfl⟩
  obtain ⟨sb, hsb⟩ : ∃ sb, sb = ab + 1 := ⟨_, rfl⟩
  rw [← hpb]
  rw [← hab]
  rw [← hsb]
  have hX0 : X w W0 := by rw [hW0]; (repeat (first | with_reducible exact X.refl _ | with_reducible assumption | with_reducible refine X.setCell ?_ (by first | (simp; done) | (simp; omega)) _ | with_reducible refine X.ext ?_ _ | with_reducible refine X.alloc ?_ _ | with_reducible refine X.drew ?_))
  have hP : WdAt W0 0 pb ws := by
    rw [hW0, hpb]
    exact ⟨sa, sn, sc, (((Bx.new w #[.slice sa sn sc] _).x (by (repeat (first | with_reducible exact X.refl _ | with_reducible assumption | with_reducible refine X.setCell ?_ (by first | (simp; done) | (simp; omega)) _ | with_reducible refine X.ext ?_ _ | with_reducible refine X.alloc ?_ _ | with_reducible refine X.drew ?_)))).out.2.1 0), ((Bx.new w #[.slice sa sn sc] _).x (by (repeat (first | with_reducible exact X.refl _ | with_reducible assumption | with_reducible refine X.setCell ?_ (by first | (simp; done) | (simp; omega)) _ | with_reducible refine X.ext ?_ _ | with_reducible refine X.alloc ?_ _ | with_reducible refine X.drew ?_)))).lt, hn, hS.mono (X.fr (by (repeat (first | with_reducible exact X.refl _ | with_reducible assumption | with_reducible refine X.setCell ?_ (by first | (simp; done) | (simp; omega)) _ | with_reducible refine X.ext ?_ _ | with_reducible refine X.alloc ?_ _ | with_reducible refine X.drew ?_))) _)⟩
  have hA0 : Bx W0 ab #[.func (.func 40) #[] #[.pointer (some ⟨pb, 0, none⟩)]] := by
    rw [hab, hpb]
    exact (bx3 hW0).2.1
  have hpw : w.heap.size ≤ pb := by omega
  have hpa : pb < ab := by omega
  have has : ab < sb := by omega
  clear hW0 hpb hab hsb
  refine (at_c ws 0 0 _ _ hP).mono ?_
  rintro _ _ ⟨rfl, rfl⟩
  rw [hk]
  unfold kFile
  have hE0 := hE.mono hX0
  go_wp2_with fail
  refine wp_region_inv (fun L v W => X W0 W
      ∧ (L 15 = true → L 14 = true)
      ∧ (L 0 = true → v 0 = (.func (.func 41) #[] #[.pointer (some ⟨ab, 0, none⟩)]))
      ∧ (L 1 = true → v 1 = .int .i64 (numI (nth ws 1)))
      ∧ (L 2 = true → v 2 = (.func (.func 40) #[] #[.pointer (some ⟨pb, 0, none⟩)]))
      ∧ (L 3 = true → v 3 = .string ⟨(nth ws 2).toArray⟩)
      ∧ (L 4 = true → v 4 = .string ⟨(undash (nth ws 2)).toArray⟩)
      ∧ (L 5 = true → v 5 = (.func (.func 40) #[] #[.pointer (some ⟨pb, 0, none⟩)]))
      ∧ (L 6 = true → v 6 = .string ⟨(nth ws 3).toArray⟩)
      ∧ (L 7 = true → v 7 = (.func (.func 40) #[] #[.pointer (some ⟨pb, 0, none⟩)]))
      ∧ (L 8 = true → v 8 = .string ⟨(nth ws 3).toArray⟩)
      ∧ (L 9 = true → v 9 = .bool (nth ws 3 == [42]))
      ∧ (L 10 = true → v 10 = (.func (.func 41) #[] #[.pointer (some ⟨ab, 0, none⟩)]))
      ∧ (L 11 = true → v 11 = .int .i64 (numI (nth ws 4)))
      ∧ (L 12 = true → ∃ ba bc, v 12 = .slice ba 0 bc ∧ W.ownsRow w.heap.size 53 5 (.slice ba 0 bc) 0 [])
      ∧ (L 13 = true → ∃ ba bc, v 13 = .agg #[.int .i64 (numI (nth ws 1)), .string ⟨(undash (nth ws 2)).toArray⟩, .string ⟨(nth ws 3).toArray⟩, .bool (nth ws 3 == [42]), .int .i64 (numI (nth ws 4)), .slice ba 0 bc] ∧ W.ownsRow w.heap.size 53 5 (.slice ba 0 bc) 0 [])
      ∧ (L 14 = true → ∃ g, v 14 = .pointer (some ⟨g, 0, none⟩) ∧ W0.heap.size ≤ g ∧ (L 15 = false → W.heap[g]? = some (.cells #[.int .i64 0, .string ⟨#[]⟩, .string ⟨#[]⟩, .bool false, .int .i64 0, .slice none 0 0] 36 (0, 0))))
      ∧ (L 15 = true → ∃ g ba bc, v 14 = .pointer (some ⟨g, 0, none⟩) ∧ W0.heap.size ≤ g ∧ W.heap[g]? = some (.cells #[.int .i64 (numI (nth ws 1)), .string ⟨(undash (nth ws 2)).toArray⟩, .string ⟨(nth ws 3).toArray⟩, .bool (nth ws 3 == [42]), .int .i64 (numI (nth ws 4)), .slice ba 0 bc] 36 (0, 0)) ∧ W.ownsRow w.heap.size 53 5 (.slice ba 0 bc) 0 [])) (by kernel_rfl) (by kernel_rfl) ?_ ?_ (l := [(16, 0), (17, 1), (18, 2), (19, 3), (20, 4), (21, 5), (22, 6), (23, 7), (24, 8), (25, 9), (26, 10), (27, 11), (28, 12), (29, 13), (7, 14)]) (by kernel_rfl) (n := 16) rfl ?_
  · intro v
    exact ⟨(X.refl _).drew, fun h => Bool.noConfusion h, fun h => Bool.noConfusion h, fun h => Bool.noConfusion h, fun h => Bool.noConfusion h, fun h => Bool.noConfusion h, fun h => Bool.noConfusion h, fun h => Bool.noConfusion h, fun h => Bool.noConfusion h, fun h => Bool.noConfusion h, fun h => Bool.noConfusion h, fun h => Bool.noConfusion h, fun h => Bool.noConfusion h, fun h => Bool.noConfusion h, fun h => Bool.noConfusion h, fun h => Bool.noConfusion h, fun h => Bool.noConfusion h, fun h => Bool.noConfusion h⟩
  · intro i hi
    have hi' : i = 0 ∨ i = 1 ∨ i = 2 ∨ i = 3 ∨ i = 4 ∨ i = 5 ∨ i = 6 ∨ i = 7 ∨ i = 8 ∨ i = 9 ∨ i = 10 ∨ i = 11 ∨ i = 12 ∨ i = 13 ∨ i = 14 ∨ i = 15 := by
      have : i < 16 := hi
      omega
    clear hi
    rcases hi' with rfl | rfl | rfl | rfl | rfl | rfl | rfl | rfl | rfl | rfl | rfl | rfl | rfl | rfl | rfl | rfl
    all_goals
      intro o ho L v aa W hI hS hL hA K hK
      cases (show some _ = some o from ho)
      obtain ⟨xx, dp, v0, v1, v2, v3, v4, v5, v6, v7, v8, v9, v10, v11, v12, v13, v14, fin⟩ := hI
    · have a5 := hS.old 5 (by kernel_rfl) rfl
      clear hS ho hA
      go_simp
      exact hK _ W ⟨xx, dp, fun _ => rfl, v1, v2, v3, v4, v5, v6, v7, v8, v9, v10, v11, v12, v13, v14, fin⟩
    · have l0 : L 0 = true := hA ⟨0, .data⟩ (by simp) rfl
      have a1 := hS.get 0 16 rfl l0 (v0 l0)
      clear hS ho hA
      go_simp
      refine (num_c ws 1 0 pb ab W (hP.x xx) hws (hE0.mono xx) ((xx.cell (p := ⟨ab, 0, none⟩) hA0.lt).trans (hA0.out.2.1 0))).mono ?_
      rintro _ w' ⟨rfl, hx⟩
      exact hK _ w' ⟨xx.trans hx, dp, v0, fun _ => rfl, v2, v3, v4, v5, v6, v7, v8, v9, v10, v11, fun h => let ⟨ba, bc, e, ho⟩ := v12 h; ⟨ba, bc, e, own_fr ho (hx.fr _)⟩, fun h => let ⟨ba, bc, e, ho⟩ := v13 h; ⟨ba, bc, e, own_fr ho (hx.fr _)⟩, fun h => let ⟨g, e, hg, hb⟩ := v14 h; ⟨g, e, hg, fun h => at_x6 (hb h) hx⟩, fun h => let ⟨g, ba, bc, e, hg, hb, ho⟩ := fin h; ⟨g, ba, bc, e, hg, at_x6 hb hx, own_fr ho (hx.fr _)⟩⟩
    · have a4 := hS.old 4 (by kernel_rfl) rfl
      have c4 := (xx.cell (p := ⟨ab, 0, none⟩) hA0.lt).trans (hA0.out.2.1 0)
      have l4 := (hA0.x xx).lt
      clear hS ho hA
      go_simp
      exact hK _ W ⟨xx, dp, v0, v1, fun _ => rfl, v3, v4, v5, v6, v7, v8, v9, v10, v11, v12, v13, v14, fin⟩
    · have l2 : L 2 = true := hA ⟨2, .data⟩ (by simp) rfl
      have a1 := hS.get 2 18 rfl l2 (v2 l2)
      clear hS ho hA
      go_simp
      refine (at_c ws 2 0 pb W (hP.x xx)).mono ?_
      rintro _ w' ⟨rfl, rfl⟩
      exact hK _ _ ⟨xx, dp, v0, v1, v2, fun _ => rfl, v4, v5, v6, v7, v8, v9, v10, v11, v12, v13, v14, fin⟩
    · have l3 : L 3 = true := hA ⟨3, .data⟩ (by simp) rfl
      have a1 := hS.get 3 19 rfl l3 (v3 l3)
      clear hS ho hA
      go_simp
      refine (noDash_c (nth ws 2) W).mono ?_
      rintro _ w' ⟨rfl, rfl⟩
      exact hK _ _ ⟨xx, dp, v0, v1, v2, v3, fun _ => rfl, v5, v6, v7, v8, v9, v10, v11, v12, v13, v14, fin⟩
    · have a4 := hS.old 4 (by kernel_rfl) rfl
      have c4 := (xx.cell (p := ⟨ab, 0, none⟩) hA0.lt).trans (hA0.out.2.1 0)
      have l4 := (hA0.x xx).lt
      clear hS ho hA
      go_simp
      exact hK _ W ⟨xx, dp, v0, v1, v2, v3, v4, fun _ => rfl, v6, v7, v8, v9, v10, v11, v12, v13, v14, fin⟩
    · have l5 : L 5 = true := hA ⟨5, .data⟩ (by simp) rfl
      have a1 := hS.get 5 21 rfl l5 (v5 l5)
      clear hS ho hA
      go_simp
      refine (at_c ws 3 0 pb W (hP.x xx)).mono ?_
      rintro _ w' ⟨rfl, rfl⟩
      exact hK _ _ ⟨xx, dp, v0, v1, v2, v3, v4, v5, fun _ => rfl, v7, v8, v9, v10, v11, v12, v13, v14, fin⟩
    · have a4 := hS.old 4 (by kernel_rfl) rfl
      have c4 := (xx.cell (p := ⟨ab, 0, none⟩) hA0.lt).trans (hA0.out.2.1 0)
      have l4 := (hA0.x xx).lt
      clear hS ho hA
      go_simp
      exact hK _ W ⟨xx, dp, v0, v1, v2, v3, v4, v5, v6, fun _ => rfl, v8, v9, v10, v11, v12, v13, v14, fin⟩
    · have l7 : L 7 = true := hA ⟨7, .data⟩ (by simp) rfl
      have a1 := hS.get 7 23 rfl l7 (v7 l7)
      clear hS ho hA
      go_simp
      refine (at_c ws 3 0 pb W (hP.x xx)).mono ?_
      rintro _ w' ⟨rfl, rfl⟩
      exact hK _ _ ⟨xx, dp, v0, v1, v2, v3, v4, v5, v6, v7, fun _ => rfl, v9, v10, v11, v12, v13, v14, fin⟩
    · have l8 : L 8 = true := hA ⟨8, .data⟩ (by simp) rfl
      have a8 := hS.get 8 24 rfl l8 (v8 l8)
      clear hS ho hA
      go_simp
      exact hK _ W ⟨xx, dp, v0, v1, v2, v3, v4, v5, v6, v7, v8, fun _ => rfl, v10, v11, v12, v13, v14, fin⟩
    · have a5 := hS.old 5 (by kernel_rfl) rfl
      clear hS ho hA
      go_simp
      exact hK _ W ⟨xx, dp, v0, v1, v2, v3, v4, v5, v6, v7, v8, v9, fun _ => rfl, v11, v12, v13, v14, fin⟩
    · have l10 : L 10 = true := hA ⟨10, .data⟩ (by simp) rfl
      have a1 := hS.get 10 26 rfl l10 (v10 l10)
      clear hS ho hA
      go_simp
      refine (num_c ws 4 0 pb ab W (hP.x xx) hws (hE0.mono xx) ((xx.cell (p := ⟨ab, 0, none⟩) hA0.lt).trans (hA0.out.2.1 0))).mono ?_
      rintro _ w' ⟨rfl, hx⟩
      exact hK _ w' ⟨xx.trans hx, dp, v0, v1, v2, v3, v4, v5, v6, v7, v8, v9, v10, fun _ => rfl, fun h => let ⟨ba, bc, e, ho⟩ := v12 h; ⟨ba, bc, e, own_fr ho (hx.fr _)⟩, fun h => let ⟨ba, bc, e, ho⟩ := v13 h; ⟨ba, bc, e, own_fr ho (hx.fr _)⟩, fun h => let ⟨g, e, hg, hb⟩ := v14 h; ⟨g, e, hg, fun h => at_x6 (hb h) hx⟩, fun h => let ⟨g, ba, bc, e, hg, hb, ho⟩ := fin h; ⟨g, ba, bc, e, hg, at_x6 hb hx, own_fr ho (hx.fr _)⟩⟩
    · clear hS ho hA
      go_simp
      exact hK _ _ ⟨xx.alloc _, dp, v0, v1, v2, v3, v4, v5, v6, v7, v8, v9, v10, v11, fun _ => ⟨_, _, rfl, own_lit (n := 0) (size := 5) (cs := #[]) rfl (Nat.le_trans hX0.size xx.size) rfl (by omega)⟩, fun h => let ⟨ba, bc, e, ho⟩ := v13 h; ⟨ba, bc, e, own_fr ho (((X.refl W).alloc _).fr _)⟩, fun h => let ⟨g, e, hg, hb⟩ := v14 h; ⟨g, e, hg, fun h => at_x6 (hb h) ((X.refl W).alloc _)⟩, fun h => let ⟨g, ba, bc, e, hg, hb, ho⟩ := fin h; ⟨g, ba, bc, e, hg, at_x6 hb ((X.refl W).alloc _), own_fr ho (((X.refl W).alloc _).fr _)⟩⟩
    · have l1 : L 1 = true := hA ⟨1, .data⟩ (by simp) rfl
      have l4 : L 4 = true := hA ⟨4, .data⟩ (by simp) rfl
      have l6 : L 6 = true := hA ⟨6, .data⟩ (by simp) rfl
      have l9 : L 9 = true := hA ⟨9, .data⟩ (by simp) rfl
      have l11 : L 11 = true := hA ⟨11, .data⟩ (by simp) rfl
      have l12 : L 12 = true := hA ⟨12, .data⟩ (by simp) rfl
      have a1 := hS.get 1 17 rfl l1 (v1 l1)
      have a4 := hS.get 4 20 rfl l4 (v4 l4)
      have a6 := hS.get 6 22 rfl l6 (v6 l6)
      have a9 := hS.get 9 25 rfl l9 (v9 l9)
      have a11 := hS.get 11 27 rfl l11 (v11 l11)
      obtain ⟨ba, bc, e12, hq⟩ := v12 l12
      have a12 := hS.get 12 28 rfl l12 e12
      clear hS ho hA
      go_simp
      exact hK _ W ⟨xx, dp, v0, v1, v2, v3, v4, v5, v6, v7, v8, v9, v10, v11, v12, fun _ => ⟨ba, bc, rfl, hq⟩, v14, fin⟩
    · have n15 : L 15 = false := by rcases h : L 15 with _ | _; (· rfl); (· have := dp h; simp [hL] at this)
      clear hS ho hA
      go_simp
      exact hK _ _ ⟨xx.alloc _, fun _ => rfl, v0, v1, v2, v3, v4, v5, v6, v7, v8, v9, v10, v11, fun h => let ⟨ba, bc, e, ho⟩ := v12 h; ⟨ba, bc, e, own_fr ho (((X.refl W).alloc _).fr _)⟩, fun h => let ⟨ba, bc, e, ho⟩ := v13 h; ⟨ba, bc, e, own_fr ho (((X.refl W).alloc _).fr _)⟩, fun _ => ⟨_, rfl, xx.size, fun _ => heap_alloc_new _ _⟩, fun h => Bool.noConfusion (n15.symm.trans h)⟩
    · have l13 : L 13 = true := hA ⟨13, .data⟩ (by simp) rfl
      have l14 : L 14 = true := hA ⟨14, .data⟩ (by simp) rfl
      obtain ⟨ba, bc, e13, hq⟩ := v13 l13
      obtain ⟨g, e14, hg, hb0⟩ := v14 l14
      have hb := hb0 hL
      have a13 := hS.get 13 29 rfl l13 e13
      have a14 := hS.get 14 7 rfl l14 e14
      obtain ⟨lb, cb, fb⟩ := Bx.out ⟨_, hb⟩
      have f0 := fb 0
      have f1 := fb 1
      have f2 := fb 2
      have f3 := fb 3
      have f4 := fb 4
      have f5 := fb 5
      have c0 := cb 0
      have c1 := cb 1
      have c2 := cb 2
      have c3 := cb 3
      have c4 := cb 4
      have c5 := cb 5
      clear fb cb
      clear hS ho hA
      go_simp
      exact hK undef _ ⟨x_set6 xx hg _ _ _ _ _ _, fun _ => l14, v0, v1, v2, v3, v4, v5, v6, v7, v8, v9, v10, v11, fun h => let ⟨ba, bc, e, ho⟩ := v12 h; ⟨ba, bc, e, own_far6 ho hb (by decide) _ _ _ _ _ _⟩, fun h => let ⟨ba, bc, e, ho⟩ := v13 h; ⟨ba, bc, e, own_far6 ho hb (by decide) _ _ _ _ _ _⟩, fun _ => ⟨g, e14, hg, fun h => Bool.noConfusion h⟩, fun _ => ⟨g, ba, bc, e14, hg, heap_set6 hb _ _ _ _ _ _, own_far6 hq hb (by decide) _ _ _ _ _ _⟩⟩
  · intro v W hI
    obtain ⟨xx, dp, v0, v1, v2, v3, v4, v5, v6, v7, v8, v9, v10, v11, v12, v13, v14, fin⟩ := hI
    obtain ⟨g, ba, bc, e14, hg, hb, ho⟩ := fin rfl
    clear fin v0 v1 v2 v3 v4 v5 v6 v7 v8 v9 v10 v11 v12 v13 v14 dp
    simp only [putL, List.foldl, List.setIfInBounds_toArray, List.set_cons_zero, List.set_cons_succ, e14]
    clear e14
    have hXW := hX0.trans xx
    have hgw : w.heap.size ≤ g := Nat.le_trans hX0.size hg
    have h5 := hb
    obtain ⟨lg, cg, fg⟩ := Bx.out ⟨_, hb⟩
    have d3 := cg 3
    have f2 := fg 2
    have d2 := cg 2
    clear cg fg
    cases hst : (nth ws 3 == [42])
    all_goals
      rw [hst] at d3 h5
      go_wp2_with fail
      refine wp_name (fun W5 hW5 => ?_)
      obtain ⟨nm, bb, hf5, hG5, hX5, hO5⟩ : ∃ nm bb, fiI ws = ⟨numI (nth ws 1), undash (nth ws 2), nm, bb, numI (nth ws 4), []⟩ ∧ W5.heap[g]? = some (.cells #[.int .i64 (numI (nth ws 1)), .string ⟨(undash (nth ws 2)).toArray⟩, .string ⟨(nm).toArray⟩, .bool bb, .int .i64 (numI (nth ws 4)), .slice ba 0 bc] 36 (0, 0)) ∧ X w W5 ∧ W5.ownsRow w.heap.size 53 5 (.slice ba 0 bc) 0 [] := by
        first
          | exact ⟨nth ws 3, _, by rw [fiI, if_neg (by simpa using hst), hst], by rw [hW5]; exact h5, by rw [hW5]; exact hXW, by rw [hW5]; exact ho⟩
          | exact ⟨[], _, by rw [fiI, if_pos (by simpa using hst), hst], by rw [hW5]; simpa using heap_setCell_same _ g 2 _ _ _ h5, by rw [hW5]; exact hXW.setCell hgw _, by rw [hW5]; exact own_set_far ho h5 (by decide) _ _⟩
      clear hW5 h5 hb d3 d2 f2 lg hst ho
      obtain ⟨l5, c5, _⟩ := Bx.out ⟨_, hG5⟩
      have b0 := c5 0
      have b1 := c5 1
      have b2 := c5 2
      have b3 := c5 3
      have b4 := c5 4
      have b5 := c5 5
      clear c5
      have hT5 := at_x6 hT hX5
      obtain ⟨lt5, ct5, _⟩ := Bx.out ⟨_, hT5⟩
      have e0 := ct5 0
      clear ct5
      have hrow5 := own_fr hV.1 (hX5.fr _)
      have hBw : B ≤ W5.heap.size := by omega
      go_region_law ((refine step_append_tL file_T' rfl _ _ rfl (w := W5) (by (repeat (first | exact X.refl _ | assumption | refine X.ext ?_ _ | refine X.alloc ?_ _ | refine X.drew ?_))) hrow5 rfl rfl (heap_alloc_new W5 _) rfl (by simp [Value.oneCell']) (by omega) (by omega) (by omega) ?_; intro g9 c9 w9 hO9 hg9 hat9; have hT9 := at_grown hT5 hg9 (own_ne_at hrow5 hT5 (by decide)); obtain ⟨lt9, ct9, ft9⟩ := Bx.out ⟨_, hT9⟩))
      all_goals
        go_wp2
        refine bodyPost_ret (results_none Tryz.results20 _ _ _) rfl ?_
        have hF5 : FilesV W5 B (some ⟨g0, 0, none⟩) c vs := ⟨hrow5, hV.2.1, hV.2.2.fr (hX5.fr _)⟩
        have hF9 := FilesV.snoc (f := fiI ws) hF5 (by rw [hf5]; exact hO9) hg9 (by rw [hf5]; exact own_less hO5 (by omega)) (fun x hx => by
          obtain ⟨p, q, e, ho⟩ := hV.2.2 x hx
          rw [hf5, e]
          exact own_ne_new hO5 (Nat.le_refl _) ho)
        obtain ⟨cs0, hc0⟩ := own_block hrow5
        have hF10 := hF9.far hT9 (by decide) (by decide) 0 (.slice (some ⟨g9, 0, none⟩) (vs.length + 1) c9)
        rw [hf5] at hF10
        refine ⟨rfl, g9, c9, ?_, ⟨_, hF10⟩, ?_, ?_⟩
        · have := heap_setCell_same w9 tb 0 _ _ (.slice (some ⟨g9, 0, none⟩) (vs.length + 1) c9) hT9
          simpa using this
        · exact ((Kt.x hX5).trans (Kt.grown hg9 (.inr ⟨rfl, hc0⟩) (.inl rfl))).trans (Kt.set _)
        · exact ((below_to hX5.below (by omega)).grown hg9 (by omega) (fun k hk => (hrow5.lt k hk).1)).setCell (by exact hB) _
end Go.Proofs.YtmhcmabiolaoaaaGreatDoor
