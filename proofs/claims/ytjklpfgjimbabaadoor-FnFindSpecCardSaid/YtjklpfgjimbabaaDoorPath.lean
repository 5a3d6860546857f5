/- The generators of search paths. No condition but that the reader has not read too far. -/
import Derived.Test.YtjklpfgjimbabaaDoorRowk
namespace Go.Proofs.YtjklpfgjimbabaaDoor
open Go.RowKit

set_option maxHeartbeats 1000000 in
theorem somePath_c (rb m : Nat) (w : World) (hr : Rdr w rb m) (hm : m + 1 ≤ 1000000000) :
    Calls Tryd.prog 82 #[.pointer (some ⟨rb, 0, none⟩)] w fun e w' => ∃ (l : List Int) (a : Option Addr) (n c : Nat), e = .returned (.slice a n c) ∧ IntsAt w' w.heap.size a n l ∧ n ≤ c ∧ n ≤ 3 ∧ Rdr w' rb (m + 1) ∧ Y rb w w' := by
  have hlt := hr.lt
  have hy := Y.refl rb w
  go_enter Tryd.func82, Tryd.ntmps82
  go_wp2_with fail
  refine (pick_c rb _ _ _ hr (by omega) (by omega)).mono ?_
  rintro _ w2 ⟨k, rfl, hk, hr', hy'⟩
  replace hy := hy.trans ((Y.of_x (by (repeat (first | exact X.refl _ | assumption | refine X.ext ?_ _ | refine X.alloc ?_ _ | refine X.drew ?_)))).trans hy'); replace hr := hr'; clear hr' hy'
  have hs := hy.size
  clear hk
  go_wp2
  · go_ret
    exact ⟨[1, 0], _, 2, _, rfl, ints_lit rfl hs rfl rfl (by decide), by omega, by omega, hr.x (by (repeat (first | exact X.refl _ | assumption | refine X.ext ?_ _ | refine X.alloc ?_ _ | refine X.drew ?_))), hy.trans (Y.of_x (by (repeat (first | exact X.refl _ | assumption | refine X.ext ?_ _ | refine X.alloc ?_ _ | refine X.drew ?_))))⟩
  · go_ret
    exact ⟨[2, 1, 0], _, 3, _, rfl, ints_lit rfl hs rfl rfl (by decide), by omega, by omega, hr.x (by (repeat (first | exact X.refl _ | assumption | refine X.ext ?_ _ | refine X.alloc ?_ _ | refine X.drew ?_))), hy.trans (Y.of_x (by (repeat (first | exact X.refl _ | assumption | refine X.ext ?_ _ | refine X.alloc ?_ _ | refine X.drew ?_))))⟩
  · go_ret
    exact ⟨[0], _, 1, _, rfl, ints_lit rfl hs rfl rfl (by decide), by omega, by omega, hr.x (by (repeat (first | exact X.refl _ | assumption | refine X.ext ?_ _ | refine X.alloc ?_ _ | refine X.drew ?_))), hy.trans (Y.of_x (by (repeat (first | exact X.refl _ | assumption | refine X.ext ?_ _ | refine X.alloc ?_ _ | refine X.drew ?_))))⟩
  · go_ret
    exact ⟨[1], _, 1, _, rfl, ints_lit rfl hs rfl rfl (by decide), by omega, by omega, hr.x (by (repeat (first | exact X.refl _ | assumption | refine X.ext ?_ _ | refine X.alloc ?_ _ | refine X.drew ?_))), hy.trans (Y.of_x (by (repeat (first | exact X.refl _ | assumption | refine X.ext ?_ _ | refine X.alloc ?_ _ | refine X.drew ?_))))⟩
  · go_ret
    exact ⟨[0, 1], _, 2, _, rfl, ints_lit rfl hs rfl rfl (by decide), by omega, by omega, hr.x (by (repeat (first | exact X.refl _ | assumption | refine X.ext ?_ _ | refine X.alloc ?_ _ | refine X.drew ?_))), hy.trans (Y.of_x (by (repeat (first | exact X.refl _ | assumption | refine X.ext ?_ _ | refine X.alloc ?_ _ | refine X.drew ?_))))⟩
  · go_ret
    exact ⟨[0, 1, 2], _, 3, _, rfl, ints_lit rfl hs rfl rfl (by decide), by omega, by omega, hr.x (by (repeat (first | exact X.refl _ | assumption | refine X.ext ?_ _ | refine X.alloc ?_ _ | refine X.drew ?_))), hy.trans (Y.of_x (by (repeat (first | exact X.refl _ | assumption | refine X.ext ?_ _ | refine X.alloc ?_ _ | refine X.drew ?_))))⟩

set_option maxHeartbeats 1000000 in
theorem anyPath_c (rb m : Nat) (w : World) (hr : Rdr w rb m) (hm : m + 2 ≤ 1000000000) :
    Calls Tryd.prog 45 #[.pointer (some ⟨rb, 0, none⟩)] w fun e w' => ∃ (l : List Int) (a : Option Addr) (n c : Nat), e = .returned (.slice a n c) ∧ IntsAt w' w.heap.size a n l ∧ n ≤ c ∧ n ≤ 3 ∧ Rdr w' rb (m + 2) ∧ Y rb w w' := by
  have hlt := hr.lt
  have hy := Y.refl rb w
  go_enter Tryd.func45, Tryd.ntmps45
  go_wp2_with fail
  refine (pick_c rb _ _ _ hr (by omega) (by omega)).mono ?_
  rintro _ w2 ⟨k, rfl, hk, hr', hy'⟩
  replace hy := hy.trans ((Y.of_x (by (repeat (first | exact X.refl _ | assumption | refine X.ext ?_ _ | refine X.alloc ?_ _ | refine X.drew ?_)))).trans hy'); replace hr := hr'; clear hr' hy'
  have hs := hy.size
  clear hk
  go_wp2_with fail
  · refine (pick_c rb _ _ _ (hr.x (by (repeat (first | exact X.refl _ | assumption | refine X.ext ?_ _ | refine X.alloc ?_ _ | refine X.drew ?_)))) (by omega) (by omega)).mono ?_
    rintro _ w3 ⟨j, rfl, hj, hr', hy'⟩
    have hs4 := hs
    have i0 := ((ints_lit (w := w2) (B := w.heap.size) (l := []) (cs := #[]) (n := 0) (g := w2.heap.size) rfl (by omega) rfl rfl (by decide)).mono (X.fr (w' := (((w2.alloc (.cells #[] 3)).alloc (.cells #[.int .i64 0, .int .i64 0] 3)).alloc (.cells #[.int .i64 3] 3)).alloc (.cells #[.slice (some ⟨w2.heap.size, 0, none⟩) 0 0, .slice (some ⟨w2.heap.size + 1, 0, none⟩) 2 2, .slice (some ⟨w2.heap.size + 1 + 1, 0, none⟩) 1 1] 26)) (by (repeat (first | exact X.refl _ | assumption | refine X.ext ?_ _ | refine X.alloc ?_ _ | refine X.drew ?_))) _)).mono (hy'.fr.mono (by omega))
    have i1 := ((ints_lit (w := w2.alloc (.cells #[] 3)) (B := w.heap.size) (l := [0, 0]) (cs := #[.int .i64 0, .int .i64 0]) (n := 2) (g := w2.heap.size + 1) (by simp) (by omega) rfl rfl (by decide)).mono (X.fr (w' := (((w2.alloc (.cells #[] 3)).alloc (.cells #[.int .i64 0, .int .i64 0] 3)).alloc (.cells #[.int .i64 3] 3)).alloc (.cells #[.slice (some ⟨w2.heap.size, 0, none⟩) 0 0, .slice (some ⟨w2.heap.size + 1, 0, none⟩) 2 2, .slice (some ⟨w2.heap.size + 1 + 1, 0, none⟩) 1 1] 26)) (by (repeat (first | exact X.refl _ | assumption | refine X.ext ?_ _ | refine X.alloc ?_ _ | refine X.drew ?_))) _)).mono (hy'.fr.mono (by omega))
    have i2 := ((ints_lit (w := (w2.alloc (.cells #[] 3)).alloc (.cells #[.int .i64 0, .int .i64 0] 3)) (B := w.heap.size) (l := [3]) (cs := #[.int .i64 3]) (n := 1) (g := w2.heap.size + 1 + 1) (by simp) (by omega) rfl rfl (by decide)).mono (X.fr (w' := (((w2.alloc (.cells #[] 3)).alloc (.cells #[.int .i64 0, .int .i64 0] 3)).alloc (.cells #[.int .i64 3] 3)).alloc (.cells #[.slice (some ⟨w2.heap.size, 0, none⟩) 0 0, .slice (some ⟨w2.heap.size + 1, 0, none⟩) 2 2, .slice (some ⟨w2.heap.size + 1 + 1, 0, none⟩) 1 1] 26)) (by (repeat (first | exact X.refl _ | assumption | refine X.ext ?_ _ | refine X.alloc ?_ _ | refine X.drew ?_))) _)).mono (hy'.fr.mono (by omega))
    have hB := Bx.y (Bx.new _ _ _) hy' (by simp; omega)
    simp only [World.size_alloc] at hB
    obtain ⟨hb, hc, hf⟩ := hB.out
    replace hy := hy.trans ((Y.of_x (by (repeat (first | exact X.refl _ | assumption | refine X.ext ?_ _ | refine X.alloc ?_ _ | refine X.drew ?_)))).trans hy'); replace hr := hr'; clear hr' hy'
    rcases (show j = 0 ∨ j = 1 ∨ j = 2 by omega) with rfl | rfl | rfl
    · go_wp2
      go_ret
      exact ⟨_, _, 0, _, rfl, i0, by omega, by omega, hr, hy⟩
    · go_wp2
      go_ret
      exact ⟨_, _, 2, _, rfl, i1, by omega, by omega, hr, hy⟩
    · go_wp2
      go_ret
      exact ⟨_, _, 1, _, rfl, i2, by omega, by omega, hr, hy⟩
  · refine (somePath_c rb _ _ hr (by omega)).mono ?_
    rintro _ w3 ⟨l, a, n, c, rfl, hI, hc, hn, hr', hy'⟩
    replace hI := hI.less hs
    replace hy := hy.trans ((Y.of_x (by (repeat (first | exact X.refl _ | assumption | refine X.ext ?_ _ | refine X.alloc ?_ _ | refine X.drew ?_)))).trans hy'); replace hr := hr'; clear hr' hy'
    go_wp2
    go_ret
    exact ⟨l, a, n, c, rfl, hI, hc, hn, hr, hy⟩

end Go.Proofs.YtjklpfgjimbabaaDoor
