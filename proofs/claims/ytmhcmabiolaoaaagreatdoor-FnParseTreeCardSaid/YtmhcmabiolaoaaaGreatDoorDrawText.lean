/- Texts of trees, as they are generated. No condition but that the reader has not read too far. -/
import Derived.Test.YtmhcmabiolaoaaaGreatDoorFmtN
import Derived.Test.YtmhcmabiolaoaaaGreatDoorDrawMods
import Derived.Test.YtmhcmabiolaoaaaGreatDoorInv
import Derived.IntWalk
namespace Go.Proofs.YtmhcmabiolaoaaaGreatDoor
open Go.RowKit

set_option maxRecDepth 100000 in
set_option maxHeartbeats 2000000 in
theorem mutate_c (rb m : Nat) (s : List UInt8) (w : World) (hr : Rdr w rb m) (hm : m + 5 ≤ 1000000000) (hs : s.length ≤ 100000) :
    Calls Tryz.prog 65 #[.pointer (some ⟨rb, 0, none⟩), .string ⟨(s).toArray⟩] w fun e w' => ∃ x : List UInt8, e = .returned (.string ⟨(x).toArray⟩) ∧ x.length ≤ 2 * s.length + 10 ∧ Rdr w' rb (m + 3) ∧ Y rb w w' := by
  have hy : Y rb w w := Y.refl _ _
  go_enter Tryz.func65, Tryz.ntmps65
  go_wp2_with fail
  refine (pick_c rb _ _ _ hr (by omega) (by omega)).mono ?_
  rintro _ w1 ⟨k, rfl, hk, hr', hy'⟩
  replace hy := hy.trans ((Y.of_x (by (repeat (first | exact X.refl _ | assumption | refine X.ext ?_ _ | refine X.alloc ?_ _ | refine X.drew ?_)))).trans hy'); replace hr := hr'; clear hr' hy'
  have hks : k ≤ s.length := by omega
  clear hk
  go_wp2_with fail
  refine (pick_c rb _ _ _ hr (by omega) (by omega)).mono ?_
  rintro _ w2 ⟨q, rfl, hq, hr', hy'⟩
  replace hy := hy.trans ((Y.of_x (by (repeat (first | exact X.refl _ | assumption | refine X.ext ?_ _ | refine X.alloc ?_ _ | refine X.drew ?_)))).trans hy'); replace hr := hr'; clear hr' hy'
  replace hr : Rdr w2 rb (m + 2) := hr
  have hlt := hr.lt
  have hq' : q = 0 ∨ q = 1 ∨ q = 2 ∨ q = 3 ∨ q = 4 := by omega
  clear hq
  by_cases hkl : k < s.length
  · rcases hq' with rfl | rfl | rfl | rfl | rfl
    · go_wp2
      have hk1 : (0 : Int) ≤ (k : Int) := by omega
      have hk2 : (k : Int) ≤ (s.length : Int) := by omega
      have hk3 : (k : Int) + 1 ≤ (s.length : Int) := by omega
      have hk4 : IntKind.i64.wrap ((k : Int) + 1) = (k : Int) + 1 := IntWalk.i64_in _ (by omega)
      refine wp_region_inv (fun L v W => Y rb w W
          ∧ (L 5 = false → Rdr W rb (m + 2))
          ∧ (L 5 = true → Rdr W rb (m + 3))
          ∧ (L 5 = true → L 4 = true)
          ∧ (L 0 = true → v 0 = .string ⟨(s).toArray⟩)
          ∧ (L 1 = true → v 1 = .int .i64 (k : Int))
          ∧ (L 2 = true → ∃ x : List UInt8, v 2 = .string ⟨(x).toArray⟩ ∧ x.length ≤ s.length)
          ∧ (L 3 = true → v 3 = .pointer (some ⟨rb, 0, none⟩))
          ∧ (L 4 = true → L 5 = false → ∃ p, v 4 = .slice p 7 7 ∧ StrsAt W (rb + 1) p 7 [[48], [97], [32], [45], [46], [10], [42]])
          ∧ (L 5 = true → ∃ x : List UInt8, v 5 = .string ⟨(x).toArray⟩ ∧ x.length ≤ 10)
          ∧ (L 6 = true → ∃ x : List UInt8, v 6 = .string ⟨(x).toArray⟩ ∧ x.length ≤ s.length + 10)
          ∧ (L 7 = true → v 7 = .string ⟨(s).toArray⟩)
          ∧ (L 8 = true → v 8 = .int .i64 (k : Int))
          ∧ (L 9 = true → v 9 = .int .i64 ((k : Int) + 1))
          ∧ (L 10 = true → ∃ x : List UInt8, v 10 = .string ⟨(x).toArray⟩ ∧ x.length ≤ s.length)
          ∧ (L 11 = true → ∃ x : List UInt8, v 11 = .string ⟨(x).toArray⟩ ∧ x.length ≤ 2 * s.length + 10)
          ∧ (L 12 = true → ∃ x : List UInt8, v 12 = .string ⟨(x).toArray⟩ ∧ x.length ≤ 2 * s.length + 10)) (by kernel_rfl) (by kernel_rfl) ?_ ?_ (l := [(20, 0), (21, 1), (22, 2), (23, 3), (24, 4), (25, 5), (26, 6), (27, 7), (28, 8), (29, 9), (30, 10), (31, 11), (4, 12)]) (by kernel_rfl) (n := 13) rfl ?_
      · intro v
        exact ⟨hy.trans (Y.of_x (X.refl _).drew), fun _ => hr.x (X.refl _).drew, fun h => Bool.noConfusion h, fun h => Bool.noConfusion h, fun h => Bool.noConfusion h, fun h => Bool.noConfusion h, fun h => Bool.noConfusion h, fun h => Bool.noConfusion h, fun h => Bool.noConfusion h, fun h => Bool.noConfusion h, fun h => Bool.noConfusion h, fun h => Bool.noConfusion h, fun h => Bool.noConfusion h, fun h => Bool.noConfusion h, fun h => Bool.noConfusion h, fun h => Bool.noConfusion h, fun h => Bool.noConfusion h⟩
      · intro i hi
        have hi' : i = 0 ∨ i = 1 ∨ i = 2 ∨ i = 3 ∨ i = 4 ∨ i = 5 ∨ i = 6 ∨ i = 7 ∨ i = 8 ∨ i = 9 ∨ i = 10 ∨ i = 11 ∨ i = 12 := by
          have : i < 13 := hi
          omega
        clear hi
        rcases hi' with rfl | rfl | rfl | rfl | rfl | rfl | rfl | rfl | rfl | rfl | rfl | rfl | rfl
        all_goals
          intro o ho L v aa W hI hS hL hA K hK
          cases (show some _ = some o from ho)
          obtain ⟨yy, rd, rf, d5, v0, v1, v2, v3, v4, v5, v6, v7, v8, v9, v10, v11, v12⟩ := hI
        · have a0 := hS.old 1 (by kernel_rfl) rfl
          clear hS ho hA
          go_simp
          exact hK _ W ⟨yy, rd, rf, d5, fun _ => rfl, v1, v2, v3, v4, v5, v6, v7, v8, v9, v10, v11, v12⟩
        · have a0 := hS.old 5 (by kernel_rfl) rfl
          clear hS ho hA
          go_simp
          exact hK _ W ⟨yy, rd, rf, d5, v0, fun _ => rfl, v2, v3, v4, v5, v6, v7, v8, v9, v10, v11, v12⟩
        · have l0 : L 0 = true := hA ⟨0, .data⟩ (by simp) rfl
          have l1 : L 1 = true := hA ⟨1, .data⟩ (by simp) rfl
          have a0 := hS.get 0 20 rfl l0 (v0 l0)
          have a1 := hS.get 1 21 rfl l1 (v1 l1)
          clear hS ho hA
          go_simp
          exact hK _ W ⟨yy, rd, rf, d5, v0, v1, fun _ => ⟨_, rfl, by simp; try omega⟩, v3, v4, v5, v6, v7, v8, v9, v10, v11, v12⟩
        · have a0 := hS.old 0 (by kernel_rfl) rfl
          clear hS ho hA
          go_simp
          exact hK _ W ⟨yy, rd, rf, d5, v0, v1, v2, fun _ => rfl, v4, v5, v6, v7, v8, v9, v10, v11, v12⟩
        · have n5 : L 5 = false := by rcases h : L 5 with _ | _; (· rfl); (· have := d5 h; simp [hL] at this)
          clear hS ho hA
          go_simp
          have hlr := (rd n5).lt
          have hx : X W (W.alloc (.cells #[.string ⟨#[48]⟩, .string ⟨#[97]⟩, .string ⟨#[32]⟩, .string ⟨#[45]⟩, .string ⟨#[46]⟩, .string ⟨#[10]⟩, .string ⟨#[42]⟩] 9)) := (X.refl W).alloc _
          exact hK _ _ ⟨yy.trans (Y.of_x hx), fun h => (rd h).x hx, fun h => (rf h).x hx, fun _ => rfl, v0, v1, v2, v3, fun _ _ => ⟨_, rfl, strs_lit rfl (by omega) rfl rfl (by decide) (by decide)⟩, v5, v6, v7, v8, v9, v10, v11, v12⟩
        · have l3 : L 3 = true := hA ⟨3, .data⟩ (by simp) rfl
          have l4 : L 4 = true := hA ⟨4, .data⟩ (by simp) rfl
          have a3 := hS.get 3 23 rfl l3 (v3 l3)
          obtain ⟨p4, e4, i4⟩ := v4 l4 hL
          have a4 := hS.get 4 24 rfl l4 e4
          clear hS ho hA
          go_simp
          refine (of_c rb (m + 2) [[48], [97], [32], [45], [46], [10], [42]] p4 7 7 (rb + 1) W (rd hL) (by omega) i4 (by omega) (by decide)).mono ?_
          rintro _ w' ⟨x, rfl, hx0, hr', hy'⟩
          have hxl := of_len (n := 10) hx0 (by decide)
          exact hK _ w' ⟨yy.trans hy', fun h => Bool.noConfusion h, fun _ => hr', fun _ => l4, v0, v1, v2, v3, fun _ h => Bool.noConfusion h, fun _ => ⟨x, rfl, hxl⟩, v6, v7, v8, v9, v10, v11, v12⟩
        · have l2 : L 2 = true := hA ⟨2, .data⟩ (by simp) rfl
          have l5 : L 5 = true := hA ⟨5, .data⟩ (by simp) rfl
          obtain ⟨x2, e2, b2⟩ := v2 l2
          have a2 := hS.get 2 22 rfl l2 e2
          obtain ⟨x5, e5, b5⟩ := v5 l5
          have a5 := hS.get 5 25 rfl l5 e5
          clear hS ho hA
          go_simp
          rw [if_neg (by omega)]
          exact hK _ W ⟨yy, rd, rf, d5, v0, v1, v2, v3, v4, v5, fun _ => ⟨_, rfl, by simp; omega⟩, v7, v8, v9, v10, v11, v12⟩
        · have a0 := hS.old 1 (by kernel_rfl) rfl
          clear hS ho hA
          go_simp
          exact hK _ W ⟨yy, rd, rf, d5, v0, v1, v2, v3, v4, v5, v6, fun _ => rfl, v8, v9, v10, v11, v12⟩
        · have a0 := hS.old 5 (by kernel_rfl) rfl
          clear hS ho hA
          go_simp
          exact hK _ W ⟨yy, rd, rf, d5, v0, v1, v2, v3, v4, v5, v6, v7, fun _ => rfl, v9, v10, v11, v12⟩
        · have l8 : L 8 = true := hA ⟨8, .data⟩ (by simp) rfl
          have a8 := hS.get 8 28 rfl l8 (v8 l8)
          clear hS ho hA
          go_simp
          exact hK _ W ⟨yy, rd, rf, d5, v0, v1, v2, v3, v4, v5, v6, v7, v8, fun _ => rfl, v10, v11, v12⟩
        · have l7 : L 7 = true := hA ⟨7, .data⟩ (by simp) rfl
          have l9 : L 9 = true := hA ⟨9, .data⟩ (by simp) rfl
          have a7 := hS.get 7 27 rfl l7 (v7 l7)
          have a9 := hS.get 9 29 rfl l9 (v9 l9)
          clear hS ho hA
          go_simp
          exact hK _ W ⟨yy, rd, rf, d5, v0, v1, v2, v3, v4, v5, v6, v7, v8, v9, fun _ => ⟨_, rfl, by simp; try omega⟩, v11, v12⟩
        · have l6 : L 6 = true := hA ⟨6, .data⟩ (by simp) rfl
          have l10 : L 10 = true := hA ⟨10, .data⟩ (by simp) rfl
          obtain ⟨x6, e6, b6⟩ := v6 l6
          have a6 := hS.get 6 26 rfl l6 e6
          obtain ⟨x10, e10, b10⟩ := v10 l10
          have a10 := hS.get 10 30 rfl l10 e10
          clear hS ho hA
          go_simp
          rw [if_neg (by omega)]
          exact hK _ W ⟨yy, rd, rf, d5, v0, v1, v2, v3, v4, v5, v6, v7, v8, v9, v10, fun _ => ⟨_, rfl, by simp; omega⟩, v12⟩
        · have l11 : L 11 = true := hA ⟨11, .data⟩ (by simp) rfl
          obtain ⟨x11, e11, b11⟩ := v11 l11
          have a11 := hS.get 11 31 rfl l11 e11
          clear hS ho hA
          go_simp
          exact hK _ W ⟨yy, rd, rf, d5, v0, v1, v2, v3, v4, v5, v6, v7, v8, v9, v10, v11, fun _ => ⟨_, rfl, b11⟩⟩
      · intro v W hI
        obtain ⟨yy, rd, rf, d5, v0, v1, v2, v3, v4, v5, v6, v7, v8, v9, v10, v11, v12⟩ := hI
        have hrf := rf rfl
        obtain ⟨x, e12, hxl⟩ := v12 rfl
        clear rd rf d5 v0 v1 v2 v3 v4 v5 v6 v7 v8 v9 v10 v11 v12
        simp only [putL, List.foldl, List.setIfInBounds_toArray, List.set_cons_zero, List.set_cons_succ, e12]
        clear e12
        go_wp2
        go_ret
        exact ⟨x, rfl, hxl, hrf, yy⟩
    · go_wp2
      have hk1 : (0 : Int) ≤ (k : Int) := by omega
      have hk2 : (k : Int) ≤ (s.length : Int) := by omega
      have hk3 : (k : Int) + 1 ≤ (s.length : Int) := by omega
      have hk4 : IntKind.i64.wrap ((k : Int) + 1) = (k : Int) + 1 := IntWalk.i64_in _ (by omega)
      refine wp_region_inv (fun L v W => Y rb w W
          ∧ (L 5 = false → Rdr W rb (m + 2))
          ∧ (L 5 = true → Rdr W rb (m + 3))
          ∧ (L 5 = true → L 4 = true)
          ∧ (L 0 = true → v 0 = .string ⟨(s).toArray⟩)
          ∧ (L 1 = true → v 1 = .int .i64 (k : Int))
          ∧ (L 2 = true → ∃ x : List UInt8, v 2 = .string ⟨(x).toArray⟩ ∧ x.length ≤ s.length)
          ∧ (L 3 = true → v 3 = .pointer (some ⟨rb, 0, none⟩))
          ∧ (L 4 = true → L 5 = false → ∃ p, v 4 = .slice p 7 7 ∧ StrsAt W (rb + 1) p 7 [[48], [97], [32], [45], [46], [10], [42]])
          ∧ (L 5 = true → ∃ x : List UInt8, v 5 = .string ⟨(x).toArray⟩ ∧ x.length ≤ 10)
          ∧ (L 6 = true → ∃ x : List UInt8, v 6 = .string ⟨(x).toArray⟩ ∧ x.length ≤ s.length + 10)
          ∧ (L 7 = true → v 7 = .string ⟨(s).toArray⟩)
          ∧ (L 8 = true → v 8 = .int .i64 (k : Int))
          ∧ (L 9 = true → v 9 = .int .i64 ((k : Int) + 1))
          ∧ (L 10 = true → ∃ x : List UInt8, v 10 = .string ⟨(x).toArray⟩ ∧ x.length ≤ s.length)
          ∧ (L 11 = true → ∃ x : List UInt8, v 11 = .string ⟨(x).toArray⟩ ∧ x.length ≤ 2 * s.length + 10)
          ∧ (L 12 = true → ∃ x : List UInt8, v 12 = .string ⟨(x).toArray⟩ ∧ x.length ≤ 2 * s.length + 10)) (by kernel_rfl) (by kernel_rfl) ?_ ?_ (l := [(20, 0), (21, 1), (22, 2), (23, 3), (24, 4), (25, 5), (26, 6), (27, 7), (28, 8), (29, 9), (30, 10), (31, 11), (4, 12)]) (by kernel_rfl) (n := 13) rfl ?_
      · intro v
        exact ⟨hy.trans (Y.of_x (X.refl _).drew), fun _ => hr.x (X.refl _).drew, fun h => Bool.noConfusion h, fun h => Bool.noConfusion h, fun h => Bool.noConfusion h, fun h => Bool.noConfusion h, fun h => Bool.noConfusion h, fun h => Bool.noConfusion h, fun h => Bool.noConfusion h, fun h => Bool.noConfusion h, fun h => Bool.noConfusion h, fun h => Bool.noConfusion h, fun h => Bool.noConfusion h, fun h => Bool.noConfusion h, fun h => Bool.noConfusion h, fun h => Bool.noConfusion h, fun h => Bool.noConfusion h⟩
      · intro i hi
        have hi' : i = 0 ∨ i = 1 ∨ i = 2 ∨ i = 3 ∨ i = 4 ∨ i = 5 ∨ i = 6 ∨ i = 7 ∨ i = 8 ∨ i = 9 ∨ i = 10 ∨ i = 11 ∨ i = 12 := by
          have : i < 13 := hi
          omega
        clear hi
        rcases hi' with rfl | rfl | rfl | rfl | rfl | rfl | rfl | rfl | rfl | rfl | rfl | rfl | rfl
        all_goals
          intro o ho L v aa W hI hS hL hA K hK
          cases (show some _ = some o from ho)
          obtain ⟨yy, rd, rf, d5, v0, v1, v2, v3, v4, v5, v6, v7, v8, v9, v10, v11, v12⟩ := hI
        · have a0 := hS.old 1 (by kernel_rfl) rfl
          clear hS ho hA
          go_simp
          exact hK _ W ⟨yy, rd, rf, d5, fun _ => rfl, v1, v2, v3, v4, v5, v6, v7, v8, v9, v10, v11, v12⟩
        · have a0 := hS.old 5 (by kernel_rfl) rfl
          clear hS ho hA
          go_simp
          exact hK _ W ⟨yy, rd, rf, d5, v0, fun _ => rfl, v2, v3, v4, v5, v6, v7, v8, v9, v10, v11, v12⟩
        · have l0 : L 0 = true := hA ⟨0, .data⟩ (by simp) rfl
          have l1 : L 1 = true := hA ⟨1, .data⟩ (by simp) rfl
          have a0 := hS.get 0 20 rfl l0 (v0 l0)
          have a1 := hS.get 1 21 rfl l1 (v1 l1)
          clear hS ho hA
          go_simp
          exact hK _ W ⟨yy, rd, rf, d5, v0, v1, fun _ => ⟨_, rfl, by simp; try omega⟩, v3, v4, v5, v6, v7, v8, v9, v10, v11, v12⟩
        · have a0 := hS.old 0 (by kernel_rfl) rfl
          clear hS ho hA
          go_simp
          exact hK _ W ⟨yy, rd, rf, d5, v0, v1, v2, fun _ => rfl, v4, v5, v6, v7, v8, v9, v10, v11, v12⟩
        · have n5 : L 5 = false := by rcases h : L 5 with _ | _; (· rfl); (· have := d5 h; simp [hL] at this)
          clear hS ho hA
          go_simp
          have hlr := (rd n5).lt
          have hx : X W (W.alloc (.cells #[.string ⟨#[48]⟩, .string ⟨#[97]⟩, .string ⟨#[32]⟩, .string ⟨#[45]⟩, .string ⟨#[46]⟩, .string ⟨#[10]⟩, .string ⟨#[42]⟩] 9)) := (X.refl W).alloc _
          exact hK _ _ ⟨yy.trans (Y.of_x hx), fun h => (rd h).x hx, fun h => (rf h).x hx, fun _ => rfl, v0, v1, v2, v3, fun _ _ => ⟨_, rfl, strs_lit rfl (by omega) rfl rfl (by decide) (by decide)⟩, v5, v6, v7, v8, v9, v10, v11, v12⟩
        · have l3 : L 3 = true := hA ⟨3, .data⟩ (by simp) rfl
          have l4 : L 4 = true := hA ⟨4, .data⟩ (by simp) rfl
          have a3 := hS.get 3 23 rfl l3 (v3 l3)
          obtain ⟨p4, e4, i4⟩ := v4 l4 hL
          have a4 := hS.get 4 24 rfl l4 e4
          clear hS ho hA
          go_simp
          refine (of_c rb (m + 2) [[48], [97], [32], [45], [46], [10], [42]] p4 7 7 (rb + 1) W (rd hL) (by omega) i4 (by omega) (by decide)).mono ?_
          rintro _ w' ⟨x, rfl, hx0, hr', hy'⟩
          have hxl := of_len (n := 10) hx0 (by decide)
          exact hK _ w' ⟨yy.trans hy', fun h => Bool.noConfusion h, fun _ => hr', fun _ => l4, v0, v1, v2, v3, fun _ h => Bool.noConfusion h, fun _ => ⟨x, rfl, hxl⟩, v6, v7, v8, v9, v10, v11, v12⟩
        · have l2 : L 2 = true := hA ⟨2, .data⟩ (by simp) rfl
          have l5 : L 5 = true := hA ⟨5, .data⟩ (by simp) rfl
          obtain ⟨x2, e2, b2⟩ := v2 l2
          have a2 := hS.get 2 22 rfl l2 e2
          obtain ⟨x5, e5, b5⟩ := v5 l5
          have a5 := hS.get 5 25 rfl l5 e5
          clear hS ho hA
          go_simp
          rw [if_neg (by omega)]
          exact hK _ W ⟨yy, rd, rf, d5, v0, v1, v2, v3, v4, v5, fun _ => ⟨_, rfl, by simp; omega⟩, v7, v8, v9, v10, v11, v12⟩
        · have a0 := hS.old 1 (by kernel_rfl) rfl
          clear hS ho hA
          go_simp
          exact hK _ W ⟨yy, rd, rf, d5, v0, v1, v2, v3, v4, v5, v6, fun _ => rfl, v8, v9, v10, v11, v12⟩
        · have a0 := hS.old 5 (by kernel_rfl) rfl
          clear hS ho hA
          go_simp
          exact hK _ W ⟨yy, rd, rf, d5, v0, v1, v2, v3, v4, v5, v6, v7, fun _ => rfl, v9, v10, v11, v12⟩
        · have l8 : L 8 = true := hA ⟨8, .data⟩ (by simp) rfl
          have a8 := hS.get 8 28 rfl l8 (v8 l8)
          clear hS ho hA
          go_simp
          exact hK _ W ⟨yy, rd, rf, d5, v0, v1, v2, v3, v4, v5, v6, v7, v8, fun _ => rfl, v10, v11, v12⟩
        · have l7 : L 7 = true := hA ⟨7, .data⟩ (by simp) rfl
          have l9 : L 9 = true := hA ⟨9, .data⟩ (by simp) rfl
          have a7 := hS.get 7 27 rfl l7 (v7 l7)
          have a9 := hS.get 9 29 rfl l9 (v9 l9)
          clear hS ho hA
          go_simp
          exact hK _ W ⟨yy, rd, rf, d5, v0, v1, v2, v3, v4, v5, v6, v7, v8, v9, fun _ => ⟨_, rfl, by simp; try omega⟩, v11, v12⟩
        · have l6 : L 6 = true := hA ⟨6, .data⟩ (by simp) rfl
          have l10 : L 10 = true := hA ⟨10, .data⟩ (by simp) rfl
          obtain ⟨x6, e6, b6⟩ := v6 l6
          have a6 := hS.get 6 26 rfl l6 e6
          obtain ⟨x10, e10, b10⟩ := v10 l10
          have a10 := hS.get 10 30 rfl l10 e10
          clear hS ho hA
          go_simp
          rw [if_neg (by omega)]
          exact hK _ W ⟨yy, rd, rf, d5, v0, v1, v2, v3, v4, v5, v6, v7, v8, v9, v10, fun _ => ⟨_, rfl, by simp; omega⟩, v12⟩
        · have l11 : L 11 = true := hA ⟨11, .data⟩ (by simp) rfl
          obtain ⟨x11, e11, b11⟩ := v11 l11
          have a11 := hS.get 11 31 rfl l11 e11
          clear hS ho hA
          go_simp
          exact hK _ W ⟨yy, rd, rf, d5, v0, v1, v2, v3, v4, v5, v6, v7, v8, v9, v10, v11, fun _ => ⟨_, rfl, b11⟩⟩
      · intro v W hI
        obtain ⟨yy, rd, rf, d5, v0, v1, v2, v3, v4, v5, v6, v7, v8, v9, v10, v11, v12⟩ := hI
        have hrf := rf rfl
        obtain ⟨x, e12, hxl⟩ := v12 rfl
        clear rd rf d5 v0 v1 v2 v3 v4 v5 v6 v7 v8 v9 v10 v11 v12
        simp only [putL, List.foldl, List.setIfInBounds_toArray, List.set_cons_zero, List.set_cons_succ, e12]
        clear e12
        go_wp2
        go_ret
        exact ⟨x, rfl, hxl, hrf, yy⟩
    · go_wp2
      go_ret
      exact ⟨s.take k, by simp, by simp; omega, hr.weak (by omega) (by omega), hy⟩
    · go_wp2_with ((go_at_call 89; refine (of_c rb _ [[48], [32], [10], [120]] _ _ _ (rb + 1) _ (hr.x (by (repeat (first | exact X.refl _ | assumption | refine X.ext ?_ _ | refine X.alloc ?_ _ | refine X.drew ?_)))) (by omega) (strs_lit rfl (by have := hr.lt; first | omega | (simp; omega)) rfl rfl (by decide) (by decide)) (by omega) (by decide)).mono ?_; rintro _ w' ⟨xs, rfl, hxs, hr', hy'⟩; replace hxs := of_len (n := 10) hxs (by decide); replace hy := hy.trans ((Y.of_x (by (repeat (first | exact X.refl _ | assumption | refine X.ext ?_ _ | refine X.alloc ?_ _ | refine X.drew ?_)))).trans hy'); replace hr := hr'; clear hr' hy'))
      go_ret
      exact ⟨s ++ xs, by simp, by simp; omega, hr.weak (by omega) (by omega), hy⟩
    · go_wp2
      go_ret
      exact ⟨s, rfl, by omega, hr.weak (by omega) (by omega), hy⟩
  · rcases hq' with rfl | rfl | rfl | rfl | rfl
    · go_wp2
      go_ret
      exact ⟨s, rfl, by omega, hr.weak (by omega) (by omega), hy⟩
    · go_wp2
      go_ret
      exact ⟨s, rfl, by omega, hr.weak (by omega) (by omega), hy⟩
    · go_wp2
      go_ret
      exact ⟨s.take k, by simp, by simp; omega, hr.weak (by omega) (by omega), hy⟩
    · go_wp2_with ((go_at_call 89; refine (of_c rb _ [[48], [32], [10], [120]] _ _ _ (rb + 1) _ (hr.x (by (repeat (first | exact X.refl _ | assumption | refine X.ext ?_ _ | refine X.alloc ?_ _ | refine X.drew ?_)))) (by omega) (strs_lit rfl (by have := hr.lt; first | omega | (simp; omega)) rfl rfl (by decide) (by decide)) (by omega) (by decide)).mono ?_; rintro _ w' ⟨xs, rfl, hxs, hr', hy'⟩; replace hxs := of_len (n := 10) hxs (by decide); replace hy := hy.trans ((Y.of_x (by (repeat (first | exact X.refl _ | assumption | refine X.ext ?_ _ | refine X.alloc ?_ _ | refine X.drew ?_)))).trans hy'); replace hr := hr'; clear hr' hy'))
      go_ret
      exact ⟨s ++ xs, by simp, by simp; omega, hr.weak (by omega) (by omega), hy⟩
    · go_wp2
      go_ret
      exact ⟨s, rfl, by omega, hr.weak (by omega) (by omega), hy⟩
set_option maxRecDepth 100000 in
set_option maxHeartbeats 1000000 in
theorem someText_c (rb m : Nat) (w : World) (hr : Rdr w rb m) (hm : m + 730 ≤ 1000000000) :
    Calls Tryz.prog 35 #[.pointer (some ⟨rb, 0, none⟩)] w fun e w' => ∃ x : List UInt8, e = .returned (.string ⟨(x).toArray⟩) ∧ x.length ≤ 20000 ∧ Rdr w' rb (m + 730) ∧ Y rb w w' := by
  have hlt := hr.lt
  go_enter Tryz.func35, Tryz.ntmps35
  go_wp2_with fail
  refine (someTree_n rb m w hr (by omega)).mono ?_
  rintro _ w1 ⟨vs, a, c, rfl, hT, hv10, h4, hr1, hy1⟩
  have hF := hT.files (by omega)
  have hsm : ∀ f ∈ vs.map (·.1), SmN f := fun f hf => by
    obtain ⟨x, hx, rfl⟩ := List.mem_map.1 hf
    obtain ⟨a1, a2, a3, _⟩ := hT.small x hx
    exact ⟨⟨a1, a2, by omega⟩, (h4 x hx).2⟩
  have hl12 : (vs.map (·.1)).length ≤ 12 := by rw [List.length_map]; omega
  have hfl := fmtT_lenN hsm
  rw [List.length_map] at hfl
  have hlen : (fmtT (vs.map (·.1))).length ≤ 8000 := by omega
  go_wp2_with fail
  refine (format_n (vs.map (·.1)) a vs.length c _ w1 hF hsm hl12).mono ?_
  generalize fmtT (vs.map (·.1)) = s at *
  rintro _ w2 ⟨rfl, hx2⟩
  have hr2 := hr1.x hx2
  go_wp2_with fail
  refine (pick_c rb _ _ _ hr2 (by omega) (by omega)).mono ?_
  rintro _ w3 ⟨k, rfl, hk, hr3, hy3⟩
  have hY3 := (hy1.trans (Y.of_x hx2)).trans hy3
  clear hk
  by_cases h0 : k = 0
  · subst h0
    go_wp2_with fail
    refine (mutate_c rb _ s w3 hr3 (by omega) (by omega)).mono ?_
    rintro _ w4 ⟨x, rfl, hxl, hr4, hy4⟩
    go_wp2
    go_ret
    exact ⟨x, rfl, by omega, hr4.weak (by omega) (by omega), hY3.trans hy4⟩
  · have hk0 : ((k : Int) == 0) = false := by simp; omega
    go_wp2
    go_ret
    exact ⟨s, rfl, by omega, hr3.weak (by omega) (by omega), hY3⟩
set_option maxRecDepth 100000 in
theorem DrawParseTree_c (ca : Option Addr) (cn cc : Nat) (w : World) (hC : CodeAt w ca cn cc) (hn : cn ≤ 1048576) :
    Calls Tryz.prog 17 #[.slice ca cn cc] w fun e w' => ∃ x : List UInt8, e = .returned (.string ⟨(x).toArray⟩) ∧ x.length ≤ 20000 ∧ X w w' := by
  go_enter Tryz.func17, Tryz.ntmps17
  go_wp2_with fail
  refine (newReader_c ca cn cc w hC.1 hC.2 hn).mono ?_
  rintro _ w1 ⟨rfl, hr, hx⟩
  go_wp2_with fail
  refine (someText_c _ _ w1 hr (by omega)).mono ?_
  rintro _ w2 ⟨x, rfl, hxl, hr2, hy2⟩
  go_wp2
  go_ret
  exact ⟨x, rfl, hxl, ((Y.of_x hx).trans hy2).x (Nat.le_refl _)⟩

end Go.Proofs.YtmhcmabiolaoaaaGreatDoor
