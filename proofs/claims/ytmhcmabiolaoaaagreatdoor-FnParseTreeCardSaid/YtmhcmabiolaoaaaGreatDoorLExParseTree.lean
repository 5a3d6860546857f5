/- The exact law of ParseTree: the walk. No condition but that the two errors of strconv are interface values. -/
import Derived.Test.YtmhcmabiolaoaaaGreatDoorParU
import Derived.Test.YtmhcmabiolaoaaaGreatDoorMd
import Derived.Test.YtmhcmabiolaoaaaGreatDoorExL
import Derived.Test.YtmhcmabiolaoaaaGreatDoorEsC
namespace Go.Proofs.YtmhcmabiolaoaaaGreatDoor
open Go.RowKit

theorem parL_ok {s : List UInt8} (hs : s.length ≤ 1048576) : OkL (parL s) := by
  unfold parL
  split
  · rw [parseI_fold]
    have hl := splitL_length_le 10 s
    have hpc : ∀ x ∈ splitL 10 s, x.length ≤ 1048576 := fun x hx => Nat.le_trans (splitL_piece_le 10 s x hx) hs
    exact sh_okL (foldI_sh hpc _ (by omega)) (foldI_bd _ _ (by omega)) (by omega)
  · exact ⟨by simp, fun f hf => by cases hf⟩
theorem wt_len : ∀ {l : List Fi}, (∀ f ∈ l, fileB f = true) → wtF l ≤ 45 * l.length
  | [], _ => by simp [wtF]
  | f :: l, h => by
    have h1 := wt_len fun g hg => h g (List.mem_cons_of_mem _ hg)
    have h2 := (bodyB_l8 (fi_parts (h f List.mem_cons_self)).2.2.2.1).1
    rw [wtF, List.length_cons]
    omega
theorem wt_tree {l : List Fi} (h : treeB l = true) : wtF l ≤ 540 := by
  have h1 := wt_len (treeB_all h)
  have h2 : l.length ≤ 12 := by
    unfold treeB at h
    rw [Bool.and_eq_true] at h
    simpa using h.2
  omega
theorem parL_wt (s : List UInt8) : wtF (parL s) ≤ 540 := by
  cases h : okI s with
  | true => exact wt_tree ((ok_same s).2 h).2.1
  | false => rw [parL, h]; simp [wtF]
set_option maxRecDepth 100000 in
set_option maxHeartbeats 4000000 in
theorem FnExactParseTree_c (s : List UInt8) (w : World) (hG : Gm w) (hE : Es w) :
    Calls Tryz.prog 3 #[.string ⟨(s).toArray⟩] w fun e w' => e = .returned (.bool true) ∧ Below w.heap.size w w' := by
  by_cases h3 : (1048576 : Int) < (s.length : Int)
  · go_enter Tryz.func3, Tryz.ntmps3
    go_wp2
    go_ret
    exact ⟨rfl, Below.refl _ _⟩
  have hs : s.length ≤ 1048576 := by omega
  have okV := parL_ok hs
  have wtV := parL_wt s
  have hi := fun w hG hE => ParseTree_i s w hs hG hE
  have hsp := fun w => ParseTree_s s w hs
  clear hs
  generalize parL s = V at *
  generalize okI s = ok at *
  obtain ⟨n, hn⟩ : ∃ n, V.length = n := ⟨_, rfl⟩
  simp only [hn] at hi hsp
  have hnn : n ≤ 2097152 := by rw [← hn]; exact okV.1
  have Hn := Lib.hid hn
  clear hn
  cases ok
  all_goals
    go_enter Tryz.func3, Tryz.ntmps3
    go_wp2_with fail
    refine (hsp w).mono ?_
    rintro _ w1 ⟨ra1, rc1, rfl, hO1, hx1⟩
    have hA1 := hO1.at okV
    go_wp2_with fail
    refine calls_name (fun W1 hW1 => ?_)
    have hB1 : Bx W1 w1.heap.size #[.slice ra1 n rc1] := by rw [hW1]; first | exact Bx.new _ _ _ | exact Bx.set (Bx.new _ _ _) 0 _
    have hp1 : X w1 W1 := by rw [hW1]; (repeat (first | with_reducible exact X.refl _ | with_reducible assumption | with_reducible refine X.setCell ?_ (by first | (simp; done) | (simp; omega)) _ | with_reducible refine X.ext ?_ _ | with_reducible refine X.alloc ?_ _ | with_reducible refine X.drew ?_))
    clear hW1
    have hs1 := hB1.lt
    refine (hi W1 (hG.mono (hx1.trans hp1)) (hE.mono (hx1.trans hp1))).mono ?_
    rintro _ w2 ⟨ra2, rc2, rfl, hO2, hx2⟩
    have hA2 := hO2.at okV
    have b1_2 := (X.cell (w := W1) (by (repeat (first | with_reducible exact X.refl _ | with_reducible assumption | (refine X.trans ?_ (by with_reducible assumption)))) : X W1 w2) (p := ⟨w1.heap.size, 0, none⟩) hB1.lt).trans (hB1.out.2.1 0)
    have l1_2 : w1.heap.size < w2.heap.size := Nat.lt_of_lt_of_le hB1.lt (X.size (by (repeat (first | with_reducible exact X.refl _ | with_reducible assumption | (refine X.trans ?_ (by with_reducible assumption))))))
    go_wp2_with fail
    refine calls_name (fun W3 hW3 => ?_)
    have hB3 : Bx W3 w2.heap.size #[.slice ra2 n rc2] := by rw [hW3]; first | exact Bx.new _ _ _ | exact Bx.set (Bx.new _ _ _) 0 _
    have hp3 : X w2 W3 := by rw [hW3]; (repeat (first | with_reducible exact X.refl _ | with_reducible assumption | with_reducible refine X.setCell ?_ (by first | (simp; done) | (simp; omega)) _ | with_reducible refine X.ext ?_ _ | with_reducible refine X.alloc ?_ _ | with_reducible refine X.drew ?_))
    clear hW3
    have hs3 := hB3.lt
    refine (eqTree_c V V ra2 ra1 n n rc2 rc1 _ _ W3 (hA2.mono (X.fr hp3 _)) (hA1.mono (X.fr (by (repeat (first | with_reducible exact X.refl _ | with_reducible assumption | (refine X.trans ?_ (by with_reducible assumption))))) _))).mono ?_
    rintro _ w3 ⟨rfl, hx3⟩
    rw [decide_eq_true (rfl : V = V)]
    clear b1_2 l1_2
    have b3_3 := (X.cell (w := W3) (by (repeat (first | with_reducible exact X.refl _ | with_reducible assumption | (refine X.trans ?_ (by with_reducible assumption)))) : X W3 w3) (p := ⟨w2.heap.size, 0, none⟩) hB3.lt).trans (hB3.out.2.1 0)
    have l3_3 : w2.heap.size < w3.heap.size := Nat.lt_of_lt_of_le hB3.lt (X.size (by (repeat (first | with_reducible exact X.refl _ | with_reducible assumption | (refine X.trans ?_ (by with_reducible assumption))))))
    go_wp2_with fail
    have o2 := hO2.e.fr ((hp3.trans hx3).fr _)
    have z1 : w1.heap.size ≤ W1.heap.size := hp1.size
    have z2 : W1.heap.size ≤ w2.heap.size := hx2.size
    have z3 : w2.heap.size ≤ w3.heap.size := (hp3.trans hx3).size
    have z0 : w.heap.size ≤ w1.heap.size := hx1.size
    refine (markTree_e V ra2 _ rc2 W1.heap.size w2.heap.size 1 w3 o2 hnn (by omega)).mono ?_
    rintro _ v3 ⟨rfl, m2, hK3⟩
    have q1 : Below w1.heap.size w1 v3 := hK3.below (by omega) (((hp1.trans hx2).trans hp3).trans hx3).below
    have q0 : Below w.heap.size w v3 := hK3.below (by omega) ((((hx1.trans hp1).trans hx2).trans hp3).trans hx3).below
    have B1 := (hB1.x ((hx2.trans hp3).trans hx3)).keep hK3 (.inl (by omega))
    have B3 := (hB3.x hx3).keep hK3 (.inr (Nat.le_refl _))
    clear o2 hK3 b3_3 l3_3
    obtain ⟨ltr, ccr, _⟩ := Bx.out B3
    have er0 := ccr 0
    clear ccr
    go_wp2_with fail
    refine (heldTree_c V ra2 _ rc2 _ 1 v3 m2 hnn (by omega)).mono ?_
    rintro _ v4 ⟨rfl, hx4⟩
    clear er0 ltr
    replace q0 := below_x q0 hx4
    replace q1 := below_x q1 hx4
    replace B1 := B1.x hx4
    replace B3 := B3.x hx4
    replace m2 := m2.fr (X.fr hx4 _)
    go_wp2_with fail
    refine (hi v4 (hG.mono (X.of_below q0)) (hE.mono (X.of_below q0))).mono ?_
    rintro _ v5 ⟨ra5, rc5, rfl, hO5, hx5⟩
    replace q0 := below_x q0 hx5
    replace q1 := below_x q1 hx5
    replace B1 := B1.x hx5
    replace B3 := B3.x hx5
    replace m2 := m2.fr (X.fr hx5 _)
    obtain ⟨ltt, cct, _⟩ := Bx.out B1
    have et0 := cct 0
    clear cct
    go_wp2_with fail
    refine calls_name (fun W6 hW6 => ?_)
    have hp6 : X v5 W6 := by rw [hW6]; (repeat (first | with_reducible exact X.refl _ | with_reducible assumption | with_reducible refine X.setCell ?_ (by first | (simp; done) | (simp; omega)) _ | with_reducible refine X.ext ?_ _ | with_reducible refine X.alloc ?_ _ | with_reducible refine X.drew ?_))
    clear hW6 et0 ltt
    refine (eqTree_c V V ra5 ra1 n n rc5 rc1 _ _ W6 ((hO5.at okV).mono (hp6.fr _)) (hA1.mono ((below_fr0 (below_x q1 hp6)).mono (Nat.zero_le _)))).mono ?_
    rintro _ v6 ⟨rfl, hx6⟩
    rw [decide_eq_true (rfl : V = V)]
    replace hx6 := hp6.trans hx6
    replace q0 := below_x q0 hx6
    replace B3 := B3.x hx6
    replace m2 := m2.fr (X.fr hx6 _)
    obtain ⟨ltr, ccr, _⟩ := Bx.out B3
    have er0 := ccr 0
    clear ccr
    go_wp2_with fail
    refine (heldTree_c V ra2 _ rc2 _ 1 v6 m2 hnn (by omega)).mono ?_
    rintro _ v7 ⟨rfl, hx7⟩
    go_wp2
    go_ret
    exact ⟨rfl, below_x q0 hx7⟩

end Go.Proofs.YtmhcmabiolaoaaaGreatDoor
