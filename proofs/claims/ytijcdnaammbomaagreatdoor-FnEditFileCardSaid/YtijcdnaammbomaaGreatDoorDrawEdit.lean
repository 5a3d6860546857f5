/- The arguments of EditFile, as they are generated. No condition. -/
import Derived.Test.YtijcdnaammbomaaGreatDoorDrawAdd
import Derived.Test.YtijcdnaammbomaaGreatDoorInv
import Derived.Test.YtijcdnaammbomaaGreatDoorModsW
import Derived.IntWalk
namespace Go.Proofs.YtijcdnaammbomaaGreatDoor
open Go.RowKit

def c100 (b : Bool) : Nat := cond b 0 100
/-- What is drawn: a tree, an index, a stamp, a body. -/
def DrawnTE (w w' : World) (e : Ending) : Prop := ∃ (l : List Fi) (a : Option Addr) (n c : Nat) (i st : Int) (b : List St) (ba : Option Addr) (bn bc : Nat),
  e = .returned (.tuple #[.agg #[.slice a n c], .int .i64 i, .int .i64 st, .slice ba bn bc]) ∧ FilesAt w' w.heap.size a n l ∧ n ≤ c ∧ n ≤ 11 ∧ StmtsAt w' w.heap.size ba bn b ∧ bn ≤ bc ∧ bn ≤ 5 ∧ X w w'
set_option maxRecDepth 100000 in
set_option maxHeartbeats 4000000 in
theorem DrawEditFile_c (ca : Option Addr) (cn cc : Nat) (w : World) (hC : CodeAt w ca cn cc) (hn : cn ≤ 1048576) :
    Calls Tryz.prog 28 #[.slice ca cn cc] w fun e w' => DrawnTE w w' e := by
  have hBr := Bx.new w #[.slice none 0 0] 25
  go_enter Tryz.func28, Tryz.ntmps28
  go_wp2_with fail
  refine (newReader_c ca cn cc _ hC.1 (fun h => by
    obtain ⟨b, off, h1, h2, h3⟩ := hC.2 h
    exact ⟨b, off, h1, by simp; omega, fun i hi => by
      obtain ⟨v, hv, hc⟩ := h3 i hi
      exact ⟨v, hv, by rw [World.cell?_alloc_lt _ _ _ h2]; exact hc⟩⟩) hn).mono ?_
  rintro _ w1 ⟨rfl, hr, hx⟩
  rw [World.size_alloc] at hr
  replace hBr := hBr.x hx
  have hxx : X w w1 := X.trans (by (repeat (first | exact X.refl _ | assumption | refine X.ext ?_ _ | refine X.alloc ?_ _ | refine X.drew ?_))) hx
  have hlt := hr.lt
  have hne : w.heap.size ≠ w.heap.size + 1 := by omega
  simp only [World.size_alloc]
  have hy : Y (w.heap.size + 1) w w1 := Y.of_x hxx
  clear hx hxx
  go_wp2_with fail
  refine (anyTree_c _ _ _ hr (by omega)).mono ?_
  rintro _ w2 ⟨l, a, n, c, rfl, hF, hnc, hn11, hsm, hr', hy'⟩
  replace hBr := hBr.y hy' hne
  replace hF := hF.less (B' := w.heap.size + 2) (by omega)
  replace hy := hy.trans hy'
  replace hr := hr'
  clear hr' hy'
  have hlt2 := hr.lt
  have q1 : IntKind.i64.wrap ((n : Int) + 1) = (n : Int) + 1 := IntWalk.i64_in _ (by omega)
  go_wp2
  refine wp_name (fun W3 hW3 => ?_)
  obtain ⟨b7, hb7e⟩ : ∃ b, b = w2.heap.size := ⟨_, rfl⟩
  have hT3 : Bx W3 b7 #[.slice a n c] := by rw [hW3, hb7e]; first | exact Bx.new _ _ _ | exact Bx.set (Bx.new _ _ _) 0 _
  have hx3 : X w2 W3 := by rw [hW3]; (repeat (first | with_reducible exact X.refl _ | with_reducible assumption | with_reducible refine X.setCell ?_ (by first | (simp; done) | (simp; omega)) _ | with_reducible refine X.ext ?_ _ | with_reducible refine X.alloc ?_ _ | with_reducible refine X.drew ?_))
  have hr3 := hr.x hx3
  have hy3 := hy.trans (Y.of_x hx3)
  have hR3 := hBr.x hx3
  have hF3 := hF.mono (hx3.fr _)
  have hz3 : w.heap.size + 2 ≤ W3.heap.size := by have := hr3.lt; omega
  have hb7 : b7 ≠ w.heap.size + 1 := by omega
  have hb7r : b7 ≠ w.heap.size := by omega
  rw [← hb7e]
  clear hb7e hW3 hx3 hr hy hBr hF hlt hlt2 hC
  refine wp_region_inv (fun L v W => (L 15 = false → ∃ m, m + (c100 (L 7) + c100 (L 9) + c100 (L 12) + c100 (L 14)) ≤ 1130 ∧ Rdr W (w.heap.size + 1) m)
      ∧ (L 15 = true → L 14 = true ∧ L 12 = true ∧ L 9 = true ∧ L 7 = true)
      ∧ w.heap.size + 2 ≤ W.heap.size
      ∧ (L 14 = true → L 12 = true)
      ∧ (L 12 = true → L 9 = true)
      ∧ (L 9 = true → L 7 = true)
      ∧ Y (w.heap.size + 1) w W
      ∧ (L 15 = false → Bx W w.heap.size #[.slice none 0 0])
      ∧ (L 15 = true → Bx W w.heap.size #[.slice a n c])
      ∧ Bx W b7 #[.slice a n c]
      ∧ FilesAt W (w.heap.size + 2) a n l
      ∧ (L 0 = true → v 0 = .agg #[.slice a n c])
      ∧ (L 1 = true → v 1 = (.pointer (some ⟨w.heap.size + 1, 0, none⟩)))
      ∧ (L 2 = true → v 2 = (.pointer (some ⟨w.heap.size + 1, 0, none⟩)))
      ∧ (L 3 = true → v 3 = .pointer (some ⟨b7, 0, none⟩))
      ∧ (L 4 = true → v 4 = .slice a n c)
      ∧ (L 5 = true → v 5 = .int .i64 (n : Int))
      ∧ (L 6 = true → v 6 = .int .i64 ((n : Int) + 1))
      ∧ (L 7 = true → ∃ x, v 7 = .int .i64 x)
      ∧ (L 8 = true → ∃ (p : Option Addr) (q : List Int), v 8 = .slice p 4 4 ∧ IntsAt W (w.heap.size + 2) p 4 q)
      ∧ (L 9 = true → ∃ x, v 9 = .int .i64 x)
      ∧ (L 10 = true → v 10 = (.pointer (some ⟨w.heap.size + 1, 0, none⟩)))
      ∧ (L 11 = true → ∃ (p : Option Addr) (q : List Int), v 11 = .slice p 4 4 ∧ IntsAt W (w.heap.size + 2) p 4 q)
      ∧ (L 12 = true → ∃ x, v 12 = .int .i64 x)
      ∧ (L 13 = true → v 13 = (.pointer (some ⟨w.heap.size + 1, 0, none⟩)))
      ∧ (L 14 = true → ∃ (ba : Option Addr) (bc : Nat) (b : List St), v 14 = .slice ba b.length bc ∧ W.ownsRow (w.heap.size + 2) 82 5 (.slice ba b.length bc) b.length (b.flatMap scells) ∧ b.length ≤ 4 ∧ ∀ s ∈ b, Oks s)
      ∧ (L 16 = true → ∃ x, v 16 = .int .i64 x)
      ∧ (L 17 = true → ∃ x, v 17 = .int .i64 x)
      ∧ (L 18 = true → ∃ (ba : Option Addr) (bc : Nat) (b : List St), v 18 = .slice ba b.length bc ∧ W.ownsRow (w.heap.size + 2) 82 5 (.slice ba b.length bc) b.length (b.flatMap scells) ∧ b.length ≤ 4 ∧ ∀ s ∈ b, Oks s)) (by kernel_rfl) (by kernel_rfl) ?_ ?_ (l := [(12, 0), (13, 1), (14, 2), (15, 3), (16, 4), (17, 5), (18, 6), (19, 7), (20, 8), (21, 9), (22, 10), (23, 11), (24, 12), (25, 13), (26, 14), (3, 16), (4, 17), (5, 18)]) (by kernel_rfl) (n := 19) rfl ?_
  · intro v
    exact ⟨fun _ => ⟨730, by decide, hr3.x ((X.refl _).drew)⟩, fun h => Bool.noConfusion h, hz3, fun h => Bool.noConfusion h, fun h => Bool.noConfusion h, fun h => Bool.noConfusion h, hy3.trans (Y.of_x (X.refl _).drew), fun _ => hR3.x (X.refl _).drew, fun h => Bool.noConfusion h, hT3.x (X.refl _).drew, hF3.mono ((X.refl _).drew.fr _), fun h => Bool.noConfusion h, fun h => Bool.noConfusion h, fun h => Bool.noConfusion h, fun h => Bool.noConfusion h, fun h => Bool.noConfusion h, fun h => Bool.noConfusion h, fun h => Bool.noConfusion h, fun h => Bool.noConfusion h, fun h => Bool.noConfusion h, fun h => Bool.noConfusion h, fun h => Bool.noConfusion h, fun h => Bool.noConfusion h, fun h => Bool.noConfusion h, fun h => Bool.noConfusion h, fun h => Bool.noConfusion h, fun h => Bool.noConfusion h, fun h => Bool.noConfusion h, fun h => Bool.noConfusion h⟩
  · intro i hi
    have hi' : i = 0 ∨ i = 1 ∨ i = 2 ∨ i = 3 ∨ i = 4 ∨ i = 5 ∨ i = 6 ∨ i = 7 ∨ i = 8 ∨ i = 9 ∨ i = 10 ∨ i = 11 ∨ i = 12 ∨ i = 13 ∨ i = 14 ∨ i = 15 ∨ i = 16 ∨ i = 17 ∨ i = 18 := by
      have : i < 19 := hi
      omega
    clear hi
    rcases hi' with rfl | rfl | rfl | rfl | rfl | rfl | rfl | rfl | rfl | rfl | rfl | rfl | rfl | rfl | rfl | rfl | rfl | rfl | rfl
    all_goals
      intro o ho L v aa W hI hS hL hA K hK
      cases (show some _ = some o from ho)
      obtain ⟨rd, dp, sz, k14, k12, k9, yy, r0, r1, tb, ff, v0, v1, v2, v3, v4, v5, v6, v7, v8, v9, v10, v11, v12, v13, v14, v16, v17, v18⟩ := hI
    · have a7 := hS.old 7 (by kernel_rfl) rfl
      have c7 := bxC tb
      have lb7 := tb.lt
      clear hS ho hA
      go_simp
      exact hK _ W ⟨rd, dp, sz, k14, k12, k9, yy, r0, r1, tb, ff, fun _ => rfl, v1, v2, v3, v4, v5, v6, v7, v8, v9, v10, v11, v12, v13, v14, v16, v17, v18⟩
    · have a6 := hS.old 6 (by kernel_rfl) rfl
      clear hS ho hA
      go_simp
      exact hK _ W ⟨rd, dp, sz, k14, k12, k9, yy, r0, r1, tb, ff, v0, fun _ => rfl, v2, v3, v4, v5, v6, v7, v8, v9, v10, v11, v12, v13, v14, v16, v17, v18⟩
    · have a6 := hS.old 6 (by kernel_rfl) rfl
      clear hS ho hA
      go_simp
      exact hK _ W ⟨rd, dp, sz, k14, k12, k9, yy, r0, r1, tb, ff, v0, v1, fun _ => rfl, v3, v4, v5, v6, v7, v8, v9, v10, v11, v12, v13, v14, v16, v17, v18⟩
    · have a7 := hS.old 7 (by kernel_rfl) rfl
      clear hS ho hA
      go_simp
      exact hK _ W ⟨rd, dp, sz, k14, k12, k9, yy, r0, r1, tb, ff, v0, v1, v2, fun _ => rfl, v4, v5, v6, v7, v8, v9, v10, v11, v12, v13, v14, v16, v17, v18⟩
    · have l3 : L 3 = true := hA ⟨3, .data⟩ (by simp) rfl
      have a3 := hS.get 3 15 rfl l3 (v3 l3)
      have c7 := bxC tb
      have lb7 := tb.lt
      clear hS ho hA
      go_simp
      exact hK _ W ⟨rd, dp, sz, k14, k12, k9, yy, r0, r1, tb, ff, v0, v1, v2, v3, fun _ => rfl, v5, v6, v7, v8, v9, v10, v11, v12, v13, v14, v16, v17, v18⟩
    · have l4 : L 4 = true := hA ⟨4, .data⟩ (by simp) rfl
      have a4 := hS.get 4 16 rfl l4 (v4 l4)
      clear hS ho hA
      go_simp
      exact hK _ W ⟨rd, dp, sz, k14, k12, k9, yy, r0, r1, tb, ff, v0, v1, v2, v3, v4, fun _ => rfl, v6, v7, v8, v9, v10, v11, v12, v13, v14, v16, v17, v18⟩
    · have l5 : L 5 = true := hA ⟨5, .data⟩ (by simp) rfl
      have a5 := hS.get 5 17 rfl l5 (v5 l5)
      clear hS ho hA
      go_simp
      exact hK _ W ⟨rd, dp, sz, k14, k12, k9, yy, r0, r1, tb, ff, v0, v1, v2, v3, v4, v5, fun _ => rfl, v7, v8, v9, v10, v11, v12, v13, v14, v16, v17, v18⟩
    · have l2 : L 2 = true := hA ⟨2, .data⟩ (by simp) rfl
      have l6 : L 6 = true := hA ⟨6, .data⟩ (by simp) rfl
      have a2 := hS.get 2 14 rfl l2 (v2 l2)
      have a6 := hS.get 6 18 rfl l6 (v6 l6)
      have n15 : L 15 = false := by rcases h : L 15 with _ | _; (· rfl); (· have := dp h; simp [hL] at this)
      obtain ⟨m, hm, hr⟩ := rd n15
      rw [hL] at hm
      have hm0 : c100 false = 100 := rfl
      have hm1 : c100 true = 0 := rfl
      clear hS ho hA
      go_simp
      refine (pick_c (w.heap.size + 1) m ((n : Int) + 1) W hr (by omega) (by omega)).mono ?_
      rintro _ w' ⟨k, rfl, _, hr', hy'⟩
      exact hK _ w' ⟨fun _ => ⟨_, (by show _ + (c100 true + c100 (L 9) + c100 (L 12) + c100 (L 14)) ≤ 1130; omega), hr'⟩, fun h => Bool.noConfusion (n15.symm.trans h), Nat.le_trans sz hy'.size, k14, k12, fun _ => rfl, yy.trans hy', fun h => (r0 h).y hy' (by omega), fun h => (r1 h).y hy' (by omega), tb.y hy' hb7, ff.mono (hy'.fr.mono (by omega)), v0, v1, v2, v3, v4, v5, v6, fun _ => ⟨_, rfl⟩, fun h => let ⟨p, q, e, hi⟩ := v8 h; ⟨p, q, e, hi.mono (hy'.fr.mono (by omega))⟩, v9, v10, fun h => let ⟨p, q, e, hi⟩ := v11 h; ⟨p, q, e, hi.mono (hy'.fr.mono (by omega))⟩, v12, v13, fun h => let ⟨p, q, b, e, ho, h4, h5⟩ := v14 h; ⟨p, q, b, e, own_fr ho (hy'.fr.mono (by omega)), h4, h5⟩, v16, v17, fun h => let ⟨p, q, b, e, ho, h4, h5⟩ := v18 h; ⟨p, q, b, e, own_fr ho (hy'.fr.mono (by omega)), h4, h5⟩⟩
    · have l7 : L 7 = true := hA ⟨7, .data⟩ (by simp) rfl
      obtain ⟨x7, e7⟩ := v7 l7
      have a7 := hS.get 7 19 rfl l7 e7
      clear hS ho hA
      go_simp
      have hx : X W (W.alloc (.cells #[.int .i64 0, .int .i64 x7, .int .i64 1, .int .i64 (-1)] 3)) := (X.refl W).alloc _
      have hsz := yy.size
      exact hK _ _ ⟨fun h => let ⟨m, hm, hr⟩ := rd h; ⟨m, hm, hr.x hx⟩, dp, Nat.le_trans sz hx.size, k14, k12, k9, yy.trans (Y.of_x hx), fun h => (r0 h).x hx, fun h => (r1 h).x hx, tb.x hx, ff.mono (hx.fr _), v0, v1, v2, v3, v4, v5, v6, v7, fun _ => ⟨_, [0, x7, 1, -1], rfl, ints_lit rfl sz rfl rfl (by simp)⟩, v9, v10, fun h => let ⟨p, q, e, hi⟩ := v11 h; ⟨p, q, e, hi.mono (hx.fr _)⟩, v12, v13, fun h => let ⟨p, q, b, e, ho, h4, h5⟩ := v14 h; ⟨p, q, b, e, own_fr ho (hx.fr _), h4, h5⟩, v16, v17, fun h => let ⟨p, q, b, e, ho, h4, h5⟩ := v18 h; ⟨p, q, b, e, own_fr ho (hx.fr _), h4, h5⟩⟩
    · have l1 : L 1 = true := hA ⟨1, .data⟩ (by simp) rfl
      have l8 : L 8 = true := hA ⟨8, .data⟩ (by simp) rfl
      have lc : L 7 = true := hA ⟨7, .chain⟩ (by simp) rfl
      have a1 := hS.get 1 13 rfl l1 (v1 l1)
      obtain ⟨p8, q8, e8, i8⟩ := v8 l8
      have a8 := hS.get 8 20 rfl l8 e8
      have n15 : L 15 = false := by rcases h : L 15 with _ | _; (· rfl); (· have := dp h; simp [hL] at this)
      obtain ⟨m, hm, hr⟩ := rd n15
      rw [hL] at hm
      have hm0 : c100 false = 100 := rfl
      have hm1 : c100 true = 0 := rfl
      clear hS ho hA
      go_simp
      refine (one_c (w.heap.size + 1) m q8 p8 4 4 (w.heap.size + 2) W hr (by omega) i8 (by omega) (by omega)).mono ?_
      rintro _ w' ⟨x, rfl, _, hr', hy'⟩
      exact hK _ w' ⟨fun _ => ⟨_, (by show _ + (c100 (L 7) + c100 true + c100 (L 12) + c100 (L 14)) ≤ 1130; omega), hr'⟩, fun h => Bool.noConfusion (n15.symm.trans h), Nat.le_trans sz hy'.size, k14, fun _ => rfl, fun _ => lc, yy.trans hy', fun h => (r0 h).y hy' (by omega), fun h => (r1 h).y hy' (by omega), tb.y hy' hb7, ff.mono (hy'.fr.mono (by omega)), v0, v1, v2, v3, v4, v5, v6, v7, fun h => let ⟨p, q, e, hi⟩ := v8 h; ⟨p, q, e, hi.mono (hy'.fr.mono (by omega))⟩, fun _ => ⟨_, rfl⟩, v10, fun h => let ⟨p, q, e, hi⟩ := v11 h; ⟨p, q, e, hi.mono (hy'.fr.mono (by omega))⟩, v12, v13, fun h => let ⟨p, q, b, e, ho, h4, h5⟩ := v14 h; ⟨p, q, b, e, own_fr ho (hy'.fr.mono (by omega)), h4, h5⟩, v16, v17, fun h => let ⟨p, q, b, e, ho, h4, h5⟩ := v18 h; ⟨p, q, b, e, own_fr ho (hy'.fr.mono (by omega)), h4, h5⟩⟩
    · have a6 := hS.old 6 (by kernel_rfl) rfl
      clear hS ho hA
      go_simp
      exact hK _ W ⟨rd, dp, sz, k14, k12, k9, yy, r0, r1, tb, ff, v0, v1, v2, v3, v4, v5, v6, v7, v8, v9, fun _ => rfl, v11, v12, v13, v14, v16, v17, v18⟩
    · clear hS ho hA
      go_simp
      have hx : X W (W.alloc (.cells #[.int .i64 5, .int .i64 99, .int .i64 0, .int .i64 100] 3)) := (X.refl W).alloc _
      exact hK _ _ ⟨fun h => let ⟨m, hm, hr⟩ := rd h; ⟨m, hm, hr.x hx⟩, dp, Nat.le_trans sz hx.size, k14, k12, k9, yy.trans (Y.of_x hx), fun h => (r0 h).x hx, fun h => (r1 h).x hx, tb.x hx, ff.mono (hx.fr _), v0, v1, v2, v3, v4, v5, v6, v7, fun h => let ⟨p, q, e, hi⟩ := v8 h; ⟨p, q, e, hi.mono (hx.fr _)⟩, v9, v10, fun _ => ⟨_, [5, 99, 0, 100], rfl, ints_lit rfl sz rfl rfl (by simp)⟩, v12, v13, fun h => let ⟨p, q, b, e, ho, h4, h5⟩ := v14 h; ⟨p, q, b, e, own_fr ho (hx.fr _), h4, h5⟩, v16, v17, fun h => let ⟨p, q, b, e, ho, h4, h5⟩ := v18 h; ⟨p, q, b, e, own_fr ho (hx.fr _), h4, h5⟩⟩
    · have l10 : L 10 = true := hA ⟨10, .data⟩ (by simp) rfl
      have l11 : L 11 = true := hA ⟨11, .data⟩ (by simp) rfl
      have lc : L 9 = true := hA ⟨9, .chain⟩ (by simp) rfl
      have a10 := hS.get 10 22 rfl l10 (v10 l10)
      obtain ⟨p11, q11, e11, i11⟩ := v11 l11
      have a11 := hS.get 11 23 rfl l11 e11
      have n15 : L 15 = false := by rcases h : L 15 with _ | _; (· rfl); (· have := dp h; simp [hL] at this)
      obtain ⟨m, hm, hr⟩ := rd n15
      rw [hL] at hm
      have hm0 : c100 false = 100 := rfl
      have hm1 : c100 true = 0 := rfl
      clear hS ho hA
      go_simp
      refine (one_c (w.heap.size + 1) m q11 p11 4 4 (w.heap.size + 2) W hr (by omega) i11 (by omega) (by omega)).mono ?_
      rintro _ w' ⟨x, rfl, _, hr', hy'⟩
      exact hK _ w' ⟨fun _ => ⟨_, (by show _ + (c100 (L 7) + c100 (L 9) + c100 true + c100 (L 14)) ≤ 1130; omega), hr'⟩, fun h => Bool.noConfusion (n15.symm.trans h), Nat.le_trans sz hy'.size, fun _ => rfl, fun _ => lc, k9, yy.trans hy', fun h => (r0 h).y hy' (by omega), fun h => (r1 h).y hy' (by omega), tb.y hy' hb7, ff.mono (hy'.fr.mono (by omega)), v0, v1, v2, v3, v4, v5, v6, v7, fun h => let ⟨p, q, e, hi⟩ := v8 h; ⟨p, q, e, hi.mono (hy'.fr.mono (by omega))⟩, v9, v10, fun h => let ⟨p, q, e, hi⟩ := v11 h; ⟨p, q, e, hi.mono (hy'.fr.mono (by omega))⟩, fun _ => ⟨_, rfl⟩, v13, fun h => let ⟨p, q, b, e, ho, h4, h5⟩ := v14 h; ⟨p, q, b, e, own_fr ho (hy'.fr.mono (by omega)), h4, h5⟩, v16, v17, fun h => let ⟨p, q, b, e, ho, h4, h5⟩ := v18 h; ⟨p, q, b, e, own_fr ho (hy'.fr.mono (by omega)), h4, h5⟩⟩
    · have a6 := hS.old 6 (by kernel_rfl) rfl
      clear hS ho hA
      go_simp
      exact hK _ W ⟨rd, dp, sz, k14, k12, k9, yy, r0, r1, tb, ff, v0, v1, v2, v3, v4, v5, v6, v7, v8, v9, v10, v11, v12, fun _ => rfl, v14, v16, v17, v18⟩
    · have l13 : L 13 = true := hA ⟨13, .data⟩ (by simp) rfl
      have lc : L 12 = true := hA ⟨12, .chain⟩ (by simp) rfl
      have a13 := hS.get 13 25 rfl l13 (v13 l13)
      have hlt := hr3.lt
      have n15 : L 15 = false := by rcases h : L 15 with _ | _; (· rfl); (· have := dp h; simp [hL] at this)
      obtain ⟨m, hm, hr⟩ := rd n15
      rw [hL] at hm
      have hm0 : c100 false = 100 := rfl
      have hm1 : c100 true = 0 := rfl
      clear hS ho hA
      go_simp
      refine (anyBody_c (w.heap.size + 1) m W hr (by omega)).mono ?_
      rintro _ w' ⟨b, ba, bc, rfl, hO, ⟨h4, h5⟩, hr', hy'⟩
      exact hK _ w' ⟨fun _ => ⟨_, (by show _ + (c100 (L 7) + c100 (L 9) + c100 (L 12) + c100 true) ≤ 1130; omega), hr'⟩, fun h => Bool.noConfusion (n15.symm.trans h), Nat.le_trans sz hy'.size, fun _ => lc, k12, k9, yy.trans hy', fun h => (r0 h).y hy' (by omega), fun h => (r1 h).y hy' (by omega), tb.y hy' hb7, ff.mono (hy'.fr.mono (by omega)), v0, v1, v2, v3, v4, v5, v6, v7, fun h => let ⟨p, q, e, hi⟩ := v8 h; ⟨p, q, e, hi.mono (hy'.fr.mono (by omega))⟩, v9, v10, fun h => let ⟨p, q, e, hi⟩ := v11 h; ⟨p, q, e, hi.mono (hy'.fr.mono (by omega))⟩, v12, v13, fun _ => ⟨ba, bc, b, rfl, own_less hO (by have := hr.lt; omega), h4, fun s hs => ⟨by have := (h5 s hs).1; omega, by have := (h5 s hs).2; omega⟩⟩, v16, v17, fun h => let ⟨p, q, b, e, ho, h4, h5⟩ := v18 h; ⟨p, q, b, e, own_fr ho (hy'.fr.mono (by omega)), h4, h5⟩⟩
    · have l0 : L 0 = true := hA ⟨0, .data⟩ (by simp) rfl
      have e14 : L 14 = true := hA ⟨14, .chain⟩ (by simp) rfl
      have e12 := k14 e14
      have e9 := k12 e12
      have e7 := k9 e9
      have a2 := hS.old 2 (by kernel_rfl) rfl
      have a0 := hS.get 0 12 rfl l0 (v0 l0)
      obtain ⟨lr, cr, fr⟩ := (r0 hL).out
      have c0 := cr 0
      clear cr
      clear hS ho hA
      go_simp
      have hfs : Fr (w.heap.size + 2) W (W.setCell ⟨w.heap.size, 0, none⟩ (.slice a n c)) := Fr.set (Fr.refl _ _) (.inr (by simp)) _
      exact hK undef (W.setCell ⟨w.heap.size, 0, none⟩ (.slice a n c)) ⟨fun h => Bool.noConfusion h, fun _ => ⟨e14, e12, e9, e7⟩, by simpa using sz, k14, k12, k9, Y.set2 yy (Nat.le_refl _) _, fun h => Bool.noConfusion h, fun _ => Bx.set (r0 hL) 0 _, tb.far hb7r _, ff.mono hfs, v0, v1, v2, v3, v4, v5, v6, v7, fun h => let ⟨p, q, e, hi⟩ := v8 h; ⟨p, q, e, hi.mono hfs⟩, v9, v10, fun h => let ⟨p, q, e, hi⟩ := v11 h; ⟨p, q, e, hi.mono hfs⟩, v12, v13, fun h => let ⟨p, q, b, e, ho, h4, h5⟩ := v14 h; ⟨p, q, b, e, own_fr ho hfs, h4, h5⟩, v16, v17, fun h => let ⟨p, q, b, e, ho, h4, h5⟩ := v18 h; ⟨p, q, b, e, own_fr ho hfs, h4, h5⟩⟩
    · have l9 : L 9 = true := hA ⟨9, .data⟩ (by simp) rfl
      obtain ⟨x9, e9⟩ := v9 l9
      have a9 := hS.get 9 21 rfl l9 e9
      clear hS ho hA
      go_simp
      exact hK _ W ⟨rd, dp, sz, k14, k12, k9, yy, r0, r1, tb, ff, v0, v1, v2, v3, v4, v5, v6, v7, v8, v9, v10, v11, v12, v13, v14, fun _ => ⟨_, rfl⟩, v17, v18⟩
    · have l12 : L 12 = true := hA ⟨12, .data⟩ (by simp) rfl
      obtain ⟨x12, e12⟩ := v12 l12
      have a12 := hS.get 12 24 rfl l12 e12
      clear hS ho hA
      go_simp
      exact hK _ W ⟨rd, dp, sz, k14, k12, k9, yy, r0, r1, tb, ff, v0, v1, v2, v3, v4, v5, v6, v7, v8, v9, v10, v11, v12, v13, v14, v16, fun _ => ⟨_, rfl⟩, v18⟩
    · have l14 : L 14 = true := hA ⟨14, .data⟩ (by simp) rfl
      obtain ⟨ba, bc, b, e14, hob, h4, h5⟩ := v14 l14
      have a14 := hS.get 14 26 rfl l14 e14
      clear hS ho hA
      go_simp
      exact hK _ W ⟨rd, dp, sz, k14, k12, k9, yy, r0, r1, tb, ff, v0, v1, v2, v3, v4, v5, v6, v7, v8, v9, v10, v11, v12, v13, v14, v16, v17, fun _ => ⟨ba, bc, b, rfl, hob, h4, h5⟩⟩
  · intro v W hI
    obtain ⟨rd, dp, sz, k14, k12, k9, yy, r0, r1, tb, ff, v0, v1, v2, v3, v4, v5, v6, v7, v8, v9, v10, v11, v12, v13, v14, v16, v17, v18⟩ := hI
    obtain ⟨x, ex⟩ := v16 rfl
    obtain ⟨y, ey⟩ := v17 rfl
    obtain ⟨ba, bc, b, eb, hO, hb4, hb5⟩ := v18 rfl
    have hB := r1 rfl
    clear rd dp k14 k12 k9 v0 v1 v2 v3 v4 v5 v6 v7 v8 v9 v10 v11 v12 v13 v14 v16 v17 v18 r0 r1 tb
    simp only [putL, List.foldl, List.setIfInBounds_toArray, List.set_cons_zero, List.set_cons_succ, ex, ey, eb]
    clear ex ey eb
    obtain ⟨_, hc2, _⟩ := hB.out
    have e0 : W.cell? ⟨w.heap.size, 0, none⟩ = some (.slice a n c) := hc2 0
    clear hc2
    go_wp2
    refine bodyPost_ret (v := .tuple #[.agg #[.slice a n c], .int .i64 x, .int .i64 y, .slice ba b.length bc]) (by simp [results, Tryz.results28, go_sem, e0, Result.andThen]) rfl ?_
    exact ⟨l, a, n, c, x, y, b, ba, b.length, bc, rfl, ff.less (by omega), hnc, hn11, ⟨rfl, by omega, hb5, Sl.of_own (own_less hO (by omega))⟩, own_cap hO, by omega, Y.x yy (by omega)⟩

end Go.Proofs.YtijcdnaammbomaaGreatDoor
