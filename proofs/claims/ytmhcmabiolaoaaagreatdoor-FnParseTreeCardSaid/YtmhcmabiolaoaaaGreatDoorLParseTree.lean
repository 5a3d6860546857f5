/- The walk of the law FnParseTree. -/
import Derived.Test.YtmhcmabiolaoaaaGreatDoorLFormatTree
import Derived.Test.YtmhcmabiolaoaaaGreatDoorDrawText
namespace Go.Proofs.YtmhcmabiolaoaaaGreatDoor
open Go.RowKit

set_option maxRecDepth 100000 in
set_option maxHeartbeats 2000000 in
theorem FnParseTree_c (ca : Option Addr) (cn cc : Nat) (w : World) (hC : CodeAt w ca cn cc) (hG : Gm w) (hE : Es w) :
    Calls Tryz.prog 5 #[.slice ca cn cc] w fun e w' => e = .returned (.bool true) ∧ X w w' := by
  by_cases hbig : 1048576 < cn
  · go_enter Tryz.func5, Tryz.ntmps5
    go_wp2
    go_ret
    exact ⟨by simp, by (repeat (first | exact X.refl _ | assumption | refine X.ext ?_ _ | refine X.alloc ?_ _ | refine X.drew ?_))⟩
  · go_enter Tryz.func5, Tryz.ntmps5
    go_wp2_with fail
    refine (DrawParseTree_c ca cn cc _ hC (by omega)).mono ?_
    rintro _ W1 ⟨s, rfl, hsl, hx1⟩
    have hs : s.length ≤ 1048576 := by omega
    have okV := parL_ok hs
    have hi := fun w hG hE => ParseTree_i s w hs hG hE
    have hsp := fun w => ParseTree_s s w hs
    have hval := (ok_same s).2
    clear hs hsl
    generalize parL s = V at *
    generalize okI s = ok at *
    obtain ⟨n, hn⟩ : ∃ n, V.length = n := ⟨_, rfl⟩
    simp only [hn] at hi hsp
    have Hn := Lib.hid hn
    clear hn
    have Hval := Lib.hid hval
    clear hval
    go_wp2_with fail
    refine (hi W1 (hG.mono hx1) (hE.mono hx1)).mono ?_
    rintro _ W2 ⟨ra2, rc2, rfl, hO2, hx2⟩
    have hA2 := hO2.at okV
    have hnc := (show n ≤ rc2 by obtain ⟨vs, _, _, h, _⟩ := hO2; exact own_cap h)
    go_wp2_with fail
    refine calls_name (fun W3 hW3 => ?_)
    have hB3 : Bx W3 W2.heap.size #[.slice ra2 n rc2] := by rw [hW3]; first | exact Bx.new _ _ _ | exact Bx.set (Bx.new _ _ _) 0 _
    have hp3 : X W2 W3 := by rw [hW3]; (repeat (first | with_reducible exact X.refl _ | with_reducible assumption | with_reducible refine X.setCell ?_ (by first | (simp; done) | (simp; omega)) _ | with_reducible refine X.ext ?_ _ | with_reducible refine X.alloc ?_ _ | with_reducible refine X.drew ?_))
    clear hW3
    refine (hsp W3).mono ?_
    rintro _ W4 ⟨ra4, rc4, rfl, hO4, hx4⟩
    have hA4 := hO4.at okV
    have t4 := bxCf (hB3.x hx4)
    have l4 := (hB3.x hx4).lt
    go_wp2_with fail
    refine calls_name (fun W5 hW5 => ?_)
    have hB5 : Bx W5 W4.heap.size #[.slice ra4 n rc4] := by rw [hW5]; first | exact Bx.new _ _ _ | exact Bx.set (Bx.new _ _ _) 0 _
    have hp5 : X W4 W5 := by rw [hW5]; (repeat (first | with_reducible exact X.refl _ | with_reducible assumption | with_reducible refine X.setCell ?_ (by first | (simp; done) | (simp; omega)) _ | with_reducible refine X.ext ?_ _ | with_reducible refine X.alloc ?_ _ | with_reducible refine X.drew ?_))
    clear hW5 t4 l4
    have hA25 := hA2.mono (X.fr ((hp3.trans hx4).trans hp5) _)
    have hA45 := hA4.mono (X.fr hp5 _)
    have hB35 := hB3.x (hx4.trans hp5)
    have hX5 : X w W5 := (((hx1.trans hx2).trans hp3).trans hx4).trans hp5
    clear hA2 hA4 hB3 hx1 hx2 hp3 hx4 hp5 hO2 hO4
    refine (equalTree_c V V ra2 ra4 n n rc2 rc4 _ _ W5 hA25 hA45).mono ?_
    rintro _ W6 ⟨rfl, hx6⟩
    rw [decide_eq_true (rfl : V = V)]
    have t6 := bxCf (hB35.x hx6)
    have l6 := (hB35.x hx6).lt
    have u6 := bxCf (hB5.x hx6)
    have v6 := (hB5.x hx6).lt
    cases ok
    · go_wp2_with fail
      refine (equalTree_c V V ra2 ra4 n n rc2 rc4 _ _ W6 (hA25.mono (hx6.fr _)) (hA45.mono (hx6.fr _))).mono ?_
      rintro _ W7 ⟨rfl, hx7⟩
      rw [decide_eq_true (rfl : V = V)]
      go_wp2
      go_ret
      exact ⟨by simp, (hX5.trans hx6).trans hx7⟩
    · obtain ⟨_, ht, hf⟩ := Hval.out rfl
      have hfv : fmtV V = s := by rw [fmtV, if_pos ht, hf]
      clear hf
      go_wp2_with fail
      refine (FormatTree_i V ra2 n rc2 _ W6 (hA25.mono (hx6.fr _)) hnc (hG.mono (hX5.trans hx6))).mono ?_
      rw [hfv]
      rintro _ W7 ⟨rfl, hx7⟩
      have hX7 := hx6.trans hx7
      clear t6 l6 u6 v6 hfv
      have t7 := bxCf (hB35.x hX7)
      have l7 := (hB35.x hX7).lt
      go_wp2_with fail
      refine (ValidTree_c V ra2 n rc2 _ W7 (hA25.mono (hX7.fr _)) hnc (hG.mono (hX5.trans hX7))).mono ?_
      rw [ht]
      rintro _ W8 ⟨rfl, hx8⟩
      go_wp2
      go_ret
      exact ⟨by simp, (hX5.trans hX7).trans hx8⟩

end Go.Proofs.YtmhcmabiolaoaaaGreatDoor
