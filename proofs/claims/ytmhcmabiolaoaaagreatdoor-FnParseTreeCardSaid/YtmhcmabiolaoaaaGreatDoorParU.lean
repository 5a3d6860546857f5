/- Reading a tree, the reference's: the walk. No condition but the length. -/
import Derived.Test.YtmhcmabiolaoaaaGreatDoorParT
import Derived.Test.YtmhcmabiolaoaaaGreatDoorParR
import Derived.Test.YtmhcmabiolaoaaaGreatDoorInvG
namespace Go.Proofs.YtmhcmabiolaoaaaGreatDoor
open Go.RowKit

/-- What the reference's reader leaves: the tree's files and whether it is one. -/
def parS (s : List UInt8) : List Fi := match parseS s with | some t => t | none => []
set_option maxRecDepth 100000 in
set_option maxHeartbeats 4000000 in
theorem parse_c (s : List UInt8) (w : World) (hs : s.length ≤ 1048576) :
    Calls Tryz.prog 18 #[.string ⟨(s).toArray⟩] w fun e w' => ∃ ra rc, e = .returned (.tuple #[.agg #[.slice ra (parS s).length rc], .bool (okS s)]) ∧ FilesO w' w.heap.size ra (parS s).length rc (parS s) ∧ X w w' := by
  obtain ⟨M, hM⟩ : ∃ M, (splitL 10 s).length = M + 1 := ⟨(splitL 10 s).length - 1, by have := List.length_pos_iff.2 (splitL_ne 10 s); omega⟩
  have hlen := splitL_length_le 10 s
  have hpc : ∀ x ∈ splitL 10 s, x.length ≤ 1048576 := fun x hx => Nat.le_trans (splitL_piece_le 10 s x hx) hs
  have hbds : ∀ k, k ≤ M → ∀ t, foldS (splitL 10 s) k = some t → BdL t k := fun k hk => foldS_bd _ k (by omega)
  have hnx : ∀ k, k < M → foldS (splitL 10 s) (k + 1) = rdS (foldS (splitL 10 s) k) (splitL 32 (nth (splitL 10 s) k)) := fun k hk => foldS_next (by omega)
  have hno : ∀ k, k ≤ M → foldS (splitL 10 s) k = none → parseS s = none := fun k hk h => by rw [parseS_fold, hM]; exact foldS_none _ (by omega) (by omega) h
  have hfin : parseS s = foldS (splitL 10 s) M := by rw [parseS_fold, hM]; rfl
  have hokM : ∀ t, foldS (splitL 10 s) M = some t → OkL t := fun t h => sh_okL (foldS_sh hpc M (by omega) t h) (foldS_bd _ M (by omega) t h) (by omega)
  obtain ⟨V, hV⟩ : ∃ V, parS s = V := ⟨_, rfl⟩
  obtain ⟨ok, hok⟩ : ∃ ok, okS s = ok := ⟨_, rfl⟩
  rw [hV, hok]
  have hMs : M ≤ 1048576 := by omega
  have HM := Lib.hid hM
  have HVp := Lib.hid hV
  have HB := Lib.hid hok
  have Hfin := Lib.hid hfin
  have Hbd := Lib.hid hbds
  have Hnx := Lib.hid hnx
  have Hno := Lib.hid hno
  have Hpc := Lib.hid hpc
  have HokM := Lib.hid hokM
  clear hM hV hok hfin hbds hnx hno hlen hpc hokM
  go_enter Tryz.func18, Tryz.ntmps18
  go_wp2_with fail
  refine calls_name (fun W0 hW0 => ?_)
  obtain ⟨tb, htb⟩ : ∃ tb, tb = w.heap.size + 1 := ⟨_, rfl⟩
  have hX0 : X w W0 := by rw [hW0]; (repeat (first | with_reducible exact X.refl _ | with_reducible assumption | with_reducible refine X.setCell ?_ (by first | (simp; done) | (simp; omega)) _ | with_reducible refine X.ext ?_ _ | with_reducible refine X.alloc ?_ _ | with_reducible refine X.drew ?_))
  have hR0 : Bx W0 w.heap.size #[.slice none 0 0] := by
    rw [hW0]
    exact (Bx.new w #[.slice none 0 0] _).x (by (repeat (first | with_reducible exact X.refl _ | with_reducible assumption | with_reducible refine X.setCell ?_ (by first | (simp; done) | (simp; omega)) _ | with_reducible refine X.ext ?_ _ | with_reducible refine X.alloc ?_ _ | with_reducible refine X.drew ?_)))
  have hTb : W0.heap[tb]? = some (.cells #[.slice none 0 0] 24 (0, 0)) := by
    rw [hW0, htb]
    have := heap_alloc_new (w.alloc (.cells #[.slice none 0 0] 24)) (.cells #[.slice none 0 0] 24)
    simpa using this
  have hz0 : tb < W0.heap.size := (Array.getElem?_eq_some_iff.1 hTb).1
  rw [← htb]
  have htw : w.heap.size < tb := by omega
  obtain ⟨B, hBt⟩ : ∃ B, B = w.heap.size + 1 := ⟨_, rfl⟩
  have hBt2 : B ≤ tb := by omega
  have hBw : w.heap.size < B := by omega
  have hBW : B ≤ W0.heap.size := by omega
  clear hW0 htb hBt
  refine (splitAt_c s 10 W0 (by omega)).mono ?_
  rintro _ w1 ⟨la, lc, rfl, hrowL, hx1⟩
  have hSL := StrsAt.of_own hrowL (by rw [HM.out]; omega) (fun p hp => Nat.le_trans (Hpc.out p hp) (by omega))
  rw [HM.out] at hrowL hSL ⊢
  have hcl := own_cap hrowL
  have hX1 := hX0.trans hx1
  have hT1 := at_x6 hTb hx1
  have hz1 := hx1.size
  have hR1 := hR0.x hx1
  clear hTb hR0 hx1
  go_wp2
  go_loopw [6, 7, 8] (fun i _ _ wr => ∃ (k : Nat) (vs : List (Fi × Value)) (a : Option Addr) (c : Nat), k ≤ M ∧ i = .int .i64 k ∧ foldS (splitL 10 s) k = some (vs.map (·.1)) ∧ wr.heap[tb]? = some (.cells #[.slice a vs.length c] 24 (0, 0)) ∧
      FilesV wr B a c vs ∧ Kt tb w1 wr ∧ Below B w1 wr) (fun i _ _ _ => M - (intOf i).toNat)
  case atStart => exact ⟨0, [], none, 0, Nat.zero_le _, rfl, rfl, hT1, FilesV.nil _ _, Kt.refl _ _, Below.refl _ _⟩
  case round =>
    obtain ⟨k, vs, a, c, hk, rfl, hvs, hT, hV, hK, hBl⟩ := hrel
    have hXr : X w wr := hX1.trans' hBl
    have hRr := hR1.below hBl hBw
    by_cases hlt : k < M
    · have hSr := strs_kt hrowL hSL hT1 hK
      obtain ⟨b, off, rfl, _, hb, hc, hf⟩ := hSr.at_ (k := k) (by omega)
      have hbv := Hbd.out k hk _ hvs
      have Hvs := Lib.hid hvs
      have Hbv := Lib.hid hbv
      have Hk1 := Lib.hid (Hnx.out k hlt)
      clear hvs hbv
      go_wp2_with fail
      refine (splitAt_c (nth (splitL 10 s) k) 32 wr hf).mono ?_
      rintro _ wx ⟨sa, sc, rfl, hrowS, hx3⟩
      have hSw := (StrsAt.of_own hrowS (by have := splitL_length_le 32 (nth (splitL 10 s) k); omega) (fun p hp => Nat.le_trans (splitL_piece_le 32 _ p hp) hf)).less (Nat.zero_le _)
      have hsn := List.length_pos_iff.2 (splitL_ne 32 (nth (splitL 10 s) k))
      have hsl : (splitL 32 (nth (splitL 10 s) k)).length ≤ 4194305 := by have := splitL_length_le 32 (nth (splitL 10 s) k); omega
      have hz3 := hx3.size
      have hTx := at_x6 hT hx3
      have hVx := hV.fr (hx3.fr B)
      have hKx := hK.trans (Kt.x hx3)
      have hBx2 : Below B w1 wx := hBl.trans (below_to hx3.below (by have := hBl.size; omega))
      have hXx := hXr.trans hx3
      have hRx := hRr.x hx3
      clear hT hV hrowS hRr hSr
      obtain ⟨ws, hws⟩ : ∃ ws, splitL 32 (nth (splitL 10 s) k) = ws := ⟨_, rfl⟩
      rw [hws] at hSw hsn hsl ⊢
      have Hws := Lib.hid hws
      clear hws
      obtain ⟨sn, hsnl⟩ : ∃ sn, ws.length = sn := ⟨_, rfl⟩
      rw [hsnl] at hSw hsn hsl ⊢
      have Hsn := Lib.hid hsnl
      clear hsnl
      obtain ⟨b0, off0, rfl, _, hb0, hc0, hf0⟩ := hSw.at_ hsn
      rw [Nat.add_zero] at hc0
      have hB4 : B ≤ wx.heap.size := by omega
      by_cases hfile : nth ws 0 = kFile ∧ sn = 5
      · obtain ⟨hf1, rfl⟩ := hfile
        have hrd : foldS (splitL 10 s) (k + 1) = some (vs.map (·.1) ++ [fiS ws]) := by rw [Hk1.out, Hvs.out, Hws.out, rdS, if_pos ⟨hf1, Hsn.out⟩]
        have Hrd := Lib.hid hrd
        have hc0k := hc0
        rw [hf1] at hc0k
        unfold kFile at hc0k
        clear hrd hf1 hc0
        have hvl : vs.length ≤ 1048576 := by have := Hbv.out.1; rw [List.length_map] at this; omega
        have hrow := hVx.1
        obtain ⟨lt5, ct5, _⟩ := Bx.out ⟨_, hTx⟩
        have e0 := ct5 0
        clear ct5
        have HVx := Lib.hid hVx
        have HTx := Lib.hid hTx
        generalize hvn : vs.length = n at *
        have Hvn := Lib.hid hvn
        clear hvn hVx hTx
        go_wp2
        go_region_law (first
          | (refine step_append_tL file_T' rfl _ _ rfl (w := w3) (by (repeat (first | exact X.refl _ | assumption | refine X.ext ?_ _ | refine X.alloc ?_ _ | refine X.drew ?_))) hrow3 rfl rfl (heap_alloc_new w3 _) rfl (by simp [Value.oneCell']) (by omega) (by omega) (by omega) ?_; intro g' c' w' hrow' hg' hat'; have hTb5 := at_grown hTb3 hg' (own_ne_at hrow3 hTb3 (by decide)); obtain ⟨lt5, ct5, ft5⟩ := Bx.out ⟨_, hTb5⟩)
          | (go_simp; go_at_call 37; refine (readFile_c ws _ sc 0 _ (hSw.mono (X.fr (by (repeat (first | exact X.refl _ | assumption | refine X.ext ?_ _ | refine X.alloc ?_ _ | refine X.drew ?_))) _))).mono ?_; rintro _ w3 ⟨rfl, hx3b⟩; have hX3 : X wx w3 := X.trans (by (repeat (first | exact X.refl _ | assumption | refine X.ext ?_ _ | refine X.alloc ?_ _ | refine X.drew ?_))) hx3b; have hTb3 := at_x6 HTx.out hX3; obtain ⟨lt3, ct3, _⟩ := Bx.out ⟨_, hTb3⟩; have d3 := ct3 0; clear ct3; have hrow3 := own_fr hrow (hX3.fr _); have hB3 := Nat.le_trans hB4 hX3.size))
        all_goals
          have hF3 : FilesV w3 B a c vs := HVx.out.fr (hX3.fr B)
          have hF9 := FilesV.snoc (f := fiS ws) (ba := none) (bc := 0) hF3 (by rw [Hvn.out]; exact hrow') (by rw [Hvn.out]; exact hg') ⟨rfl, .inl ⟨rfl, rfl⟩⟩ (fun x hx => .inl rfl)
          have hF10 := hF9.far hTb5 (by decide) (by decide) 0 (.slice (some ⟨g', 0, none⟩) (n + 1) c')
          have hkt : Kt tb w3 w' := by
            cases hv : (Value.slice a n c).ownBlock with
            | none => exact Kt.grown (g := 0) (cs := #[]) (t := 36) (fz := (0, 0)) hg' (.inl hv) (.inl rfl)
            | some g =>
              obtain ⟨cc, fz, h1⟩ := row_kind hrow3 g hv
              exact Kt.grown hg' (.inr ⟨hv, h1⟩) (.inl rfl)
          have hB9 : Below B w1 (w'.setCell ⟨tb, 0, none⟩ (.slice (some ⟨g', 0, none⟩) (n + 1) c')) := ((hBx2.trans (below_to hX3.below hB4)).grown hg' (by have := hX3.size; omega) (fun k hk => (hrow3.lt k hk).1)).setCell (by exact hBt2) _
          have hHz := heap_setCell_same w' tb 0 _ _ (.slice (some ⟨g', 0, none⟩) (n + 1) c') hTb5
          go_wp2
          go_roundw
          case rel => exact ⟨k + 1, vs ++ [(fiS ws, .slice none 0 0)], some ⟨g', 0, none⟩, c', by omega, by go_num, by rw [Hrd.out, List.map_append]; rfl, by rw [List.length_append, List.length_singleton, Hvn.out]; simpa using hHz, hF10, ((hKx.trans (Kt.x hX3)).trans hkt).trans (Kt.set _), hB9⟩
          case measure => simp [intOf]; omega
      · have hq : (nth ws 0 == [102, 105, 108, 101]) = false ∨ ((nth ws 0 == [102, 105, 108, 101]) = true ∧ ((sn : Int) == 5) = false) := by
          by_cases h1 : nth ws 0 = kFile
          · right
            refine ⟨by rw [h1]; rfl, ?_⟩
            have h2 : ¬ sn = 5 := fun h => hfile ⟨h1, h⟩
            simp; omega
          · left
            unfold kFile at h1
            simpa using h1
        have hvl : vs.length ≤ 1048576 := by have := Hbv.out.1; rw [List.length_map] at this; omega
        have hrd : rdS (some (vs.map (·.1))) ws = if vs.map (·.1) = [] then none else some (addSt (vs.map (·.1)) (stS ws)) := by rw [rdS, if_neg fun h => hfile ⟨h.1, by rw [← Hsn.out]; exact h.2⟩]
        have hnx2 : foldS (splitL 10 s) (k + 1) = if vs.map (·.1) = [] then none else some (addSt (vs.map (·.1)) (stS ws)) := by rw [Hk1.out, Hvs.out, Hws.out]; exact hrd
        have Hnx2 := Lib.hid hnx2
        clear hfile hrd hnx2
        obtain ⟨lt5, ct5, _⟩ := Bx.out ⟨_, hTx⟩
        have e0 := ct5 0
        clear ct5
        by_cases h0 : vs.length = 0
        · obtain rfl : vs = [] := List.length_eq_zero_iff.1 h0
          have hz := Hno.out (k + 1) (by omega) (by rw [Hnx2.out]; rfl)
          obtain rfl : ok = false := by rw [← HB.out, okS, hz]
          obtain rfl : V = [] := by rw [← HVp.out, parS, hz]
          obtain ⟨lr, cr, fr⟩ := hRx.out
          have r0 := cr 0
          clear cr hz h0
          have hRf := (Bx.set hRx 0 (.slice none 0 0)).out.2.1 0
          rcases hq with hq | ⟨hq, hl2⟩
          all_goals
            go_wp2
            refine bodyPost_ret (v := .tuple #[.agg #[.slice none 0 0], .bool false]) (by simp [results, Tryz.results18, go_sem, hRf]) rfl ?_
            exact ⟨none, 0, rfl, FilesO.nil _ _, X.setCell hXx (by first | (simp; done) | (simp; omega)) _⟩
        · obtain ⟨m, hm⟩ : ∃ m, vs.length = m + 1 := ⟨vs.length - 1, by omega⟩
          obtain ⟨g0, rfl, _, _⟩ := own_form hVx.1 (by omega)
          have hrow : wx.ownsRow B 36 6 (.slice (some ⟨g0, 0, none⟩) (m + 1) c) (m + 1) (vs.flatMap fcells) := by rw [← hm]; exact hVx.1
          have hmem := nth_mem (l := vs) (k := m) (by omega)
          obtain ⟨ba, bc, eb, hb⟩ := hVx.2.2 (nth vs m) hmem
          have hbl1 := Hbv.out.2 (nth vs m).1 (List.mem_map.2 ⟨_, hmem, rfl⟩)
          have hlast := fun v => addSt_last (vs := vs) hm (stS ws) v
          have hvne : ¬ vs.map (·.1) = [] := by
            intro e
            have := congrArg List.length e
            rw [List.length_map, hm] at this
            simp at this
          have hnx3 : ∀ v, foldS (splitL 10 s) (k + 1) = some ((vs.set m ({ (nth vs m).1 with body := (nth vs m).1.body ++ [stS ws] }, v)).map (·.1)) := fun v => by rw [Hnx2.out, if_neg hvne, hlast v]
          obtain ⟨q, hqq⟩ : ∃ q, q = (nth vs m).1.body.length := ⟨_, rfl⟩
          rw [← hqq] at eb hb hbl1
          have gl := (hrow.lt g0 rfl).2
          rw [hm] at e0 hvl
          have fl := fcells_five (zs := vs) (j := m) (by omega)
          rw [eb] at fl
          have Hm := Lib.hid hm
          have Hq := Lib.hid hqq
          have Hnx3 := Lib.hid hnx3
          have HV := Lib.hid hVx
          have HTm := Lib.hid (show wx.heap[tb]? = some (.cells #[.slice (some ⟨g0, 0, none⟩) (m + 1) c] 24 (0, 0)) by rw [← hm]; exact hTx)
          have HEb := Lib.hid eb
          have hmm : (m : Int) < (m : Int) + 1 := by omega
          have hn0 : 0 < sn := hsn
          have hBx := hB4
          clear hm hqq h0 hmem eb hlast hvne hVx hTx hnx3 lt5
          obtain ⟨lt5, ct5, _⟩ := Bx.out ⟨_, HTm.out⟩
          clear ct5
          rcases hq with hq | ⟨hq, hl2⟩
          all_goals
            go_wp2
            refine wp_region_inv (fun L v W => (L 12 = false → X wx W)
                ∧ (L 15 = false → W.heap[tb]? = some (.cells #[.slice (some ⟨g0, 0, none⟩) (m + 1) c] 24 (0, 0)))
                ∧ (L 15 = false → W.ownsRow B 36 6 (.slice (some ⟨g0, 0, none⟩) (m + 1) c) (m + 1) (vs.flatMap fcells))
                ∧ (L 12 = true → L 15 = false → ∃ g9 c9, v 12 = .slice (some ⟨g9, 0, none⟩) (q + 1) c9 ∧ W.ownsRow B 53 5 (.slice (some ⟨g9, 0, none⟩) (q + 1) c9) (q + 1) ((nth vs m).1.body.flatMap scells ++ scells (stS ws)) ∧ wx.grownBy W (Value.slice ba q bc).ownBlock ∧ ((Value.slice ba q bc).ownBlock = some g9 ∨ wx.heap.size ≤ g9))
                ∧ (L 15 = true → L 1 = true ∧ L 4 = true ∧ L 12 = true)
                ∧ (L 12 = true → L 8 = true ∧ L 11 = true)
                ∧ (L 11 = true → L 10 = true)
                ∧ (L 0 = true → v 0 = .pointer (some ⟨tb, 0, none⟩))
                ∧ (L 1 = true → v 1 = .slice (some ⟨g0, 0, none⟩) (m + 1) c)
                ∧ (L 2 = true → v 2 = .int .i64 (m : Int))
                ∧ (L 3 = true → v 3 = .pointer (some ⟨tb, 0, none⟩))
                ∧ (L 4 = true → v 4 = .slice (some ⟨g0, 0, none⟩) (m + 1) c)
                ∧ (L 5 = true → v 5 = .int .i64 (m : Int))
                ∧ (L 6 = true → v 6 = .pointer (some ⟨g0, m * 6, none⟩))
                ∧ (L 7 = true → v 7 = .pointer (some ⟨g0, m * 6 + 5, none⟩))
                ∧ (L 8 = true → v 8 = .slice ba q bc)
                ∧ (L 9 = true → v 9 = .slice (some ⟨b0, off0, none⟩) sn sc)
                ∧ (L 10 = true → v 10 = .agg #[.int .i64 (stS ws).kind, .string ⟨((stS ws).mod).toArray⟩, .int .i64 (stS ws).level, .string ⟨((stS ws).name).toArray⟩, .int .i64 (stS ws).val])
                ∧ (L 11 = true → ∃ g, v 11 = .slice (some ⟨g, 0, none⟩) 1 1 ∧ (L 12 = false → W.heap[g]? = some (.cells #[.int .i64 (stS ws).kind, .string ⟨((stS ws).mod).toArray⟩, .int .i64 (stS ws).level, .string ⟨((stS ws).name).toArray⟩, .int .i64 (stS ws).val] 53 (0, 0))))
                ∧ (L 13 = true → v 13 = .pointer (some ⟨g0, m * 6, none⟩))
                ∧ (L 14 = true → v 14 = .pointer (some ⟨g0, m * 6 + 5, none⟩))
                ∧ (L 15 = true → ∃ w9 g9 c9, W = w9.setCell ⟨g0, m * 6 + 5, none⟩ (.slice (some ⟨g9, 0, none⟩) (q + 1) c9) ∧ w9.ownsRow B 53 5 (.slice (some ⟨g9, 0, none⟩) (q + 1) c9) (q + 1) ((nth vs m).1.body.flatMap scells ++ scells (stS ws)) ∧ wx.grownBy w9 (Value.slice ba q bc).ownBlock ∧ ((Value.slice ba q bc).ownBlock = some g9 ∨ wx.heap.size ≤ g9))) (by kernel_rfl) (by kernel_rfl) ?_ ?_ (l := [(47, 0), (48, 1), (49, 2), (50, 3), (51, 4), (52, 5), (53, 6), (54, 7), (55, 8), (56, 9), (57, 10), (58, 11), (59, 12), (60, 13), (61, 14)]) (by kernel_rfl) (n := 16) rfl ?_
            · intro v
              exact ⟨fun _ => (X.refl _).drew, fun _ => at_x6 HTm.out ((X.refl _).drew), fun _ => own_fr hrow (((X.refl wx).drew).fr _), fun h => Bool.noConfusion h, fun h => Bool.noConfusion h, fun h => Bool.noConfusion h, fun h => Bool.noConfusion h, fun h => Bool.noConfusion h, fun h => Bool.noConfusion h, fun h => Bool.noConfusion h, fun h => Bool.noConfusion h, fun h => Bool.noConfusion h, fun h => Bool.noConfusion h, fun h => Bool.noConfusion h, fun h => Bool.noConfusion h, fun h => Bool.noConfusion h, fun h => Bool.noConfusion h, fun h => Bool.noConfusion h, fun h => Bool.noConfusion h, fun h => Bool.noConfusion h, fun h => Bool.noConfusion h, fun h => Bool.noConfusion h⟩
            · intro i hi
              have hi' : i = 0 ∨ i = 1 ∨ i = 2 ∨ i = 3 ∨ i = 4 ∨ i = 5 ∨ i = 6 ∨ i = 7 ∨ i = 8 ∨ i = 9 ∨ i = 10 ∨ i = 11 ∨ i = 12 ∨ i = 13 ∨ i = 14 ∨ i = 15 := by
                have : i < 16 := hi
                omega
              clear hi
              rcases hi' with rfl | rfl | rfl | rfl | rfl | rfl | rfl | rfl | rfl | rfl | rfl | rfl | rfl | rfl | rfl | rfl
              all_goals
                intro o ho L v aa W hI hS hL hA K hK
                cases (show some _ = some o from ho)
                obtain ⟨xx, rt, rg, ap, d15, d12, d11, v0, v1, v2, v3, v4, v5, v6, v7, v8, v9, v10, v11, v13, v14, fin⟩ := hI
              · have a0 := hS.old 4 (by kernel_rfl) rfl
                clear hS ho hA
                go_simp
                exact hK _ W ⟨xx, rt, rg, ap, d15, d12, d11, fun _ => rfl, v1, v2, v3, v4, v5, v6, v7, v8, v9, v10, v11, v13, v14, fin⟩
              · have l0 : L 0 = true := hA ⟨0, .data⟩ (by simp) rfl
                have a0 := hS.get 0 47 rfl l0 (v0 l0)
                have n15 : L 15 = false := by rcases h : L 15 with _ | _; (· rfl); (· have := (d15 h).1; simp [hL] at this)
                obtain ⟨lt, ct, _⟩ := Bx.out ⟨_, rt n15⟩
                have e := ct 0
                clear ct
                clear hS ho hA
                go_simp
                exact hK _ W ⟨xx, rt, rg, ap, fun h => ⟨rfl, (d15 h).2⟩, d12, d11, v0, fun _ => rfl, v2, v3, v4, v5, v6, v7, v8, v9, v10, v11, v13, v14, fin⟩
              · have a0 := hS.old 8 (by kernel_rfl) rfl
                clear hS ho hA
                go_simp
                exact hK _ W ⟨xx, rt, rg, ap, d15, d12, d11, v0, v1, fun _ => rfl, v3, v4, v5, v6, v7, v8, v9, v10, v11, v13, v14, fin⟩
              · have a0 := hS.old 4 (by kernel_rfl) rfl
                clear hS ho hA
                go_simp
                exact hK _ W ⟨xx, rt, rg, ap, d15, d12, d11, v0, v1, v2, fun _ => rfl, v4, v5, v6, v7, v8, v9, v10, v11, v13, v14, fin⟩
              · have l3 : L 3 = true := hA ⟨3, .data⟩ (by simp) rfl
                have a3 := hS.get 3 50 rfl l3 (v3 l3)
                have n15 : L 15 = false := by rcases h : L 15 with _ | _; (· rfl); (· have := (d15 h).2.1; simp [hL] at this)
                obtain ⟨lt, ct, _⟩ := Bx.out ⟨_, rt n15⟩
                have e := ct 0
                clear ct
                clear hS ho hA
                go_simp
                exact hK _ W ⟨xx, rt, rg, ap, fun h => ⟨(d15 h).1, rfl, (d15 h).2.2⟩, d12, d11, v0, v1, v2, v3, fun _ => rfl, v5, v6, v7, v8, v9, v10, v11, v13, v14, fin⟩
              · have a0 := hS.old 8 (by kernel_rfl) rfl
                clear hS ho hA
                go_simp
                exact hK _ W ⟨xx, rt, rg, ap, d15, d12, d11, v0, v1, v2, v3, v4, fun _ => rfl, v6, v7, v8, v9, v10, v11, v13, v14, fin⟩
              · have l4 : L 4 = true := hA ⟨4, .data⟩ (by simp) rfl
                have a4 := hS.get 4 51 rfl l4 (v4 l4)
                have l5 : L 5 = true := hA ⟨5, .data⟩ (by simp) rfl
                have a5 := hS.get 5 52 rfl l5 (v5 l5)
                clear hS ho hA
                go_simp
                exact hK _ W ⟨xx, rt, rg, ap, d15, d12, d11, v0, v1, v2, v3, v4, v5, fun _ => rfl, v7, v8, v9, v10, v11, v13, v14, fin⟩
              · have l6 : L 6 = true := hA ⟨6, .data⟩ (by simp) rfl
                have a6 := hS.get 6 53 rfl l6 (v6 l6)
                clear hS ho hA
                go_simp
                exact hK _ W ⟨xx, rt, rg, ap, d15, d12, d11, v0, v1, v2, v3, v4, v5, v6, fun _ => rfl, v8, v9, v10, v11, v13, v14, fin⟩
              · have l7 : L 7 = true := hA ⟨7, .data⟩ (by simp) rfl
                have a7 := hS.get 7 54 rfl l7 (v7 l7)
                have n12 : L 12 = false := by rcases h : L 12 with _ | _; (· rfl); (· have := (d12 h).1; simp [hL] at this)
                have n15 : L 15 = false := by rcases h : L 15 with _ | _; (· rfl); (· have := (d12 (d15 h).2.2).1; simp [hL] at this)
                have cB := row_cell (rg n15) _ _ fl
                have gl := ((rg n15).lt g0 rfl).2
                clear hS ho hA
                go_simp
                exact hK _ W ⟨xx, rt, rg, ap, d15, fun h => ⟨rfl, (d12 h).2⟩, d11, v0, v1, v2, v3, v4, v5, v6, v7, fun _ => rfl, v9, v10, v11, v13, v14, fin⟩
              · have a0 := hS.old 7 (by kernel_rfl) rfl
                clear hS ho hA
                go_simp
                exact hK _ W ⟨xx, rt, rg, ap, d15, d12, d11, v0, v1, v2, v3, v4, v5, v6, v7, v8, fun _ => rfl, v10, v11, v13, v14, fin⟩
              · have l9 : L 9 = true := hA ⟨9, .data⟩ (by simp) rfl
                have a9 := hS.get 9 56 rfl l9 (v9 l9)
                have n12 : L 12 = false := by rcases h : L 12 with _ | _; (· rfl); (· have := d11 (d12 h).2; simp [hL] at this)
                have n15 : L 15 = false := by rcases h : L 15 with _ | _; (· rfl); (· have := d11 (d12 (d15 h).2.2).2; simp [hL] at this)
                clear hS ho hA
                go_simp
                refine (readStmt_c ws _ sn sc 0 W (hSw.mono ((xx n12).fr _)) hn0).mono ?_
                rintro _ w' ⟨rfl, hx⟩
                exact hK _ w' ⟨fun h => (xx h).trans hx, fun h => at_x6 (rt h) hx, fun h => own_fr (rg h) (hx.fr _), fun h => Bool.noConfusion (n12.symm.trans h), d15, d12, fun _ => rfl, v0, v1, v2, v3, v4, v5, v6, v7, v8, v9, fun _ => rfl, fun h => let ⟨g, e, hg⟩ := v11 h; ⟨g, e, fun h => at_x6 (hg h) hx⟩, v13, v14, fun h => Bool.noConfusion (n15.symm.trans h)⟩
              · have l10 : L 10 = true := hA ⟨10, .data⟩ (by simp) rfl
                have a10 := hS.get 10 57 rfl l10 (v10 l10)
                have n12 : L 12 = false := by rcases h : L 12 with _ | _; (· rfl); (· have := (d12 h).2; simp [hL] at this)
                have n15 : L 15 = false := by rcases h : L 15 with _ | _; (· rfl); (· have := (d12 (d15 h).2.2).2; simp [hL] at this)
                clear hS ho hA
                go_simp
                exact hK _ _ ⟨fun h => (xx h).alloc _, fun h => at_x6 (rt h) ((X.refl W).alloc _), fun h => own_fr (rg h) (((X.refl W).alloc _).fr _), fun h => Bool.noConfusion (n12.symm.trans h), d15, fun h => ⟨(d12 h).1, rfl⟩, fun _ => l10, v0, v1, v2, v3, v4, v5, v6, v7, v8, v9, v10, fun _ => ⟨_, rfl, fun _ => heap_alloc_new _ _⟩, v13, v14, fun h => Bool.noConfusion (n15.symm.trans h)⟩
              · have l8 : L 8 = true := hA ⟨8, .data⟩ (by simp) rfl
                have l11 : L 11 = true := hA ⟨11, .data⟩ (by simp) rfl
                have n15 : L 15 = false := by rcases h : L 15 with _ | _; (· rfl); (· have := (d15 h).2.2; simp [hL] at this)
                obtain ⟨gl, e11, hgl⟩ := v11 l11
                refine unwant (E := True) (by exact rfl) (step_append_tL (ops := #[]) stmt_T' rfl _ _ rfl (xx hL) hb ((hS.eval_on 8 55 rfl l8).trans (v8 l8)) ((hS.eval_on 11 58 rfl l11).trans e11) (hgl hL) rfl (by simp [Value.oneCell']) (by omega) (by omega) (by omega) ?_)
                intro g9 c9 w9 hO9 hg9 hat9
                have hrow9 := hrow.kept hg9 (row_ne hrow hb (by decide))
                have hT9 := at_grown HTm.out hg9 (own_ne_at hb HTm.out (by decide))
                exact hK _ w9 ⟨fun h => Bool.noConfusion h, fun _ => hT9, fun _ => hrow9, fun _ _ => ⟨g9, c9, rfl, hO9, hg9, hat9⟩, fun h => Bool.noConfusion (n15.symm.trans h), fun _ => ⟨l8, l11⟩, d11, v0, v1, v2, v3, v4, v5, v6, v7, v8, v9, v10, fun h => let ⟨g, e, _⟩ := v11 h; ⟨g, e, fun h => Bool.noConfusion h⟩, v13, v14, fun h => Bool.noConfusion (n15.symm.trans h)⟩
              · have l1 : L 1 = true := hA ⟨1, .data⟩ (by simp) rfl
                have a1 := hS.get 1 48 rfl l1 (v1 l1)
                have l2 : L 2 = true := hA ⟨2, .data⟩ (by simp) rfl
                have a2 := hS.get 2 49 rfl l2 (v2 l2)
                clear hS ho hA
                go_simp
                exact hK _ W ⟨xx, rt, rg, ap, d15, d12, d11, v0, v1, v2, v3, v4, v5, v6, v7, v8, v9, v10, v11, fun _ => rfl, v14, fin⟩
              · have l13 : L 13 = true := hA ⟨13, .data⟩ (by simp) rfl
                have a13 := hS.get 13 60 rfl l13 (v13 l13)
                clear hS ho hA
                go_simp
                exact hK _ W ⟨xx, rt, rg, ap, d15, d12, d11, v0, v1, v2, v3, v4, v5, v6, v7, v8, v9, v10, v11, v13, fun _ => rfl, fin⟩
              · have l14 : L 14 = true := hA ⟨14, .data⟩ (by simp) rfl
                have l12 : L 12 = true := hA ⟨12, .data⟩ (by simp) rfl
                have l1 : L 1 = true := hA ⟨1, .phase⟩ (by simp) rfl
                have l4 : L 4 = true := hA ⟨4, .phase⟩ (by simp) rfl
                have a14 := hS.get 14 61 rfl l14 (v14 l14)
                obtain ⟨g9, c9, e12, hO9, hg9, hat9⟩ := ap l12 hL
                have a12 := hS.get 12 59 rfl l12 e12
                have f9 := (rg hL).frozenAt (m * 6 + 5)
                have gl := ((rg hL).lt g0 rfl).2
                have cB := row_cell (rg hL) _ _ fl
                clear hS ho hA
                go_simp
                exact hK undef _ ⟨fun h => Bool.noConfusion (l12.symm.trans h), fun h => Bool.noConfusion h, fun h => Bool.noConfusion h, fun _ h => Bool.noConfusion h, fun _ => ⟨l1, l4, l12⟩, d12, d11, v0, v1, v2, v3, v4, v5, v6, v7, v8, v9, v10, fun h => let ⟨g, e, _⟩ := v11 h; ⟨g, e, fun h => Bool.noConfusion (l12.symm.trans h)⟩, v13, v14, fun _ => ⟨W, g9, c9, rfl, hO9, hg9, hat9⟩⟩
            · intro v W hI
              obtain ⟨xx, rt, rg, ap, d15, d12, d11, v0, v1, v2, v3, v4, v5, v6, v7, v8, v9, v10, v11, v13, v14, fin⟩ := hI
              obtain ⟨w9, g9, c9, rfl, hO9, hg9, hat9⟩ := fin rfl
              clear fin xx rt rg ap d15 d12 d11 v0 v1 v2 v3 v4 v5 v6 v7 v8 v9 v10 v11 v13 v14
              simp only [putL, List.foldl, List.setIfInBounds_toArray, List.set_cons_zero, List.set_cons_succ]
              have hbl9 := own_block (hrow.kept hg9 (row_ne hrow hb (by decide)))
              have hT9 := at_grown HTm.out hg9 (own_ne_at hb HTm.out (by decide))
              have hne : tb ≠ g0 := fun e => own_ne_at hrow HTm.out (by decide) (by rw [e]; rfl)
              have hkt : Kt tb wx w9 := by
                cases hv : (Value.slice ba q bc).ownBlock with
                | none => exact Kt.grown (g := 0) (cs := #[]) (t := 53) (fz := (0, 0)) hg9 (.inl hv) (.inr rfl)
                | some g =>
                  obtain ⟨cc, fz, h1⟩ := row_kind hb g hv
                  exact Kt.grown hg9 (.inr ⟨hv, h1⟩) (.inr rfl)
              obtain ⟨cs9, hbl9⟩ := hbl9
              have hK9 := hkt.trans (Kt.setRow (tb := tb) (i := m * 6 + 5) hbl9 (.inl rfl) (.slice (some ⟨g9, 0, none⟩) (q + 1) c9))
              have hB9 : Below B wx (w9.setCell ⟨g0, m * 6 + 5, none⟩ (.slice (some ⟨g9, 0, none⟩) (q + 1) c9)) := ((Below.refl B wx).grown hg9 hBx (fun k hk => (hb.lt k hk).1)).setCell (by have := (hrow.lt g0 rfl).1; exact this) _
              have hTz : (w9.setCell ⟨g0, m * 6 + 5, none⟩ (.slice (some ⟨g9, 0, none⟩) (q + 1) c9)).heap[tb]? = some (.cells #[.slice (some ⟨g0, 0, none⟩) (m + 1) c] 24 (0, 0)) := by rw [Below.heap_setCell _ _ _ _ (by exact hne)]; exact hT9
              have hVz : FilesV (w9.setCell ⟨g0, m * 6 + 5, none⟩ (.slice (some ⟨g9, 0, none⟩) (q + 1) c9)) B (some ⟨g0, 0, none⟩) c (vs.set m ({ (nth vs m).1 with body := (nth vs m).1.body ++ [stS ws] }, .slice (some ⟨g9, 0, none⟩) (q + 1) c9)) := by
                refine FilesV.body HV.out (by rw [Hm.out]; omega) Hq.out hO9 (by rw [HEb.out]; exact hg9) ?_
                rw [HEb.out]
                rcases hat9 with e | e
                · exact .inl e.symm
                · exact .inr ⟨g9, rfl, e⟩
              clear hO9 hg9 hat9 hT9 hkt hbl9
              go_wp2
              go_roundw
              case rel => exact ⟨k + 1, _, some ⟨g0, 0, none⟩, c, by omega, by go_num, Hnx3.out _, by rw [List.length_set, Hm.out]; exact hTz, hVz, hKx.trans hK9, hBx2.trans hB9⟩
              case measure => simp [intOf]; omega
    · obtain rfl : k = M := by omega
      have hSr := strs_kt hrowL hSL hT1 hK
      obtain ⟨b, off, rfl, hbB, hb, hc, hf⟩ := hSr.at_ (k := k) (by omega)
      have okT := HokM.out _ hvs
      obtain ⟨T, hTd⟩ : ∃ T, vs.map (·.1) = T := ⟨_, rfl⟩
      have hpar : parseS s = some T := by rw [Hfin.out, hvs, hTd]
      obtain rfl : V = T := by rw [← HVp.out, parS, hpar]
      have hokv : ok = (nth (splitL 10 s) k == [] && treeB V && fmtT V == s) := by rw [← HB.out, okS, hpar, HM.out]; rfl
      rw [hTd] at okT
      have hO : FilesO wr B a vs.length c V := by rw [← hTd]; exact hV.o
      have hA := hO.at okT
      have hTl : vs.length = V.length := by rw [← hTd, List.length_map]
      have Hokv := Lib.hid hokv
      clear hV hvs hrowL hSL hR1 hpar hTd hokv hSr okT
      generalize vs.length = N at *
      have HTl := Lib.hid hTl
      clear hTl
      obtain ⟨lt5, ct5, _⟩ := Bx.out ⟨_, hT⟩
      have e0 := ct5 0
      obtain ⟨lr, cr, fr⟩ := hRr.out
      have r0 := cr 0
      have hne : tb ≠ w.heap.size := by omega
      have hneb : b ≠ w.heap.size := by
        have := hX0.size
        omega
      clear ct5 cr
      have hend : ∀ w9, X wr w9 → X w (w9.setCell ⟨w.heap.size, 0, none⟩ (.slice a N c)) ∧ FilesO (w9.setCell ⟨w.heap.size, 0, none⟩ (.slice a N c)) w.heap.size a V.length c V := fun w9 hx => by
        refine ⟨(hXr.trans hx).setCell (Nat.le_refl _) _, ?_⟩
        rw [← HTl.out]
        exact ((hO.fr (hx.fr _)).fr (Fr.set (Fr.refl _ _) (.inr hBw) _)).less (by omega)
      cases h0 : (nth (splitL 10 s) k == [])
      · obtain rfl : ok = false := by rw [Hokv.out, h0]; rfl
        go_wp2
        go_region
        go_wp2
        have hRf := (Bx.set hRr 0 (.slice a N c)).out.2.1 0
        refine bodyPost_ret (v := .tuple #[.agg #[.slice a N c], .bool false]) (by simp [results, Tryz.results18, go_sem, hRf]) rfl ?_
        obtain ⟨e1, e2⟩ := hend wr (X.refl _)
        exact ⟨a, c, by rw [← HTl.out], e2.fr (((X.refl _).drew).fr _), e1.drew⟩
      · cases h1 : treeB V
        · obtain rfl : ok = false := by rw [Hokv.out, h0, h1]; rfl
          have hA0 := hA
          clear hO hT fr r0 lr hA
          go_wp2
          have hk1 : (k : Int) < (k : Int) + 1 := by omega
          have hk2 : (0 : Int) ≤ (k : Int) := by omega
          have hk4 : IntKind.i64.wrap (k : Int) = (k : Int) := IntWalk.i64_in _ (by omega)
          refine wp_region_invG (fun L v W => (L 18 = false → X wr W)
              ∧ (L 18 = true → L 14 = true ∧ L 0 = true)
              ∧ (L 14 = true → L 12 = true ∧ L 13 = true)
              ∧ (L 12 = true → L 11 = true)
              ∧ (L 11 = true → L 8 = true ∧ L 10 = true)
              ∧ (L 10 = true → L 9 = true)
              ∧ (L 8 = true → L 7 = true)
              ∧ (L 7 = true → L 6 = true)
              ∧ (L 0 = true → v 0 = .agg #[.slice a N c])
              ∧ (L 1 = true → v 1 = .slice (some ⟨b, off, none⟩) (k + 1) lc)
              ∧ (L 2 = true → v 2 = .slice (some ⟨b, off, none⟩) (k + 1) lc)
              ∧ (L 3 = true → v 3 = .int .i64 ((k : Int) + 1))
              ∧ (L 4 = true → v 4 = .int .i64 (k : Int))
              ∧ (L 5 = true → v 5 = .pointer (some ⟨b, off + k, none⟩))
              ∧ (L 6 = true → v 6 = .string ⟨(nth (splitL 10 s) k).toArray⟩)
              ∧ (L 7 = true → v 7 = .bool true)
              ∧ (L 8 = true → v 8 = .bool true)
              ∧ (L 9 = true → v 9 = .agg #[.slice a N c])
              ∧ (L 10 = true → v 10 = .bool false)
              ∧ (L 11 = true → v 11 = .bool false)
              ∧ (L 12 = true → v 12 = .bool false)
              ∧ (L 17 = true → v 17 = .bool false)
              ∧ (L 19 = true → v 19 = .bool false)
              ∧ (L 18 = true → ∃ w9, W = w9.setCell ⟨w.heap.size, 0, none⟩ (.slice a N c) ∧ X wr w9)) (by kernel_rfl) (by kernel_rfl) ?_ ?_ (l := [(62, 0), (63, 1), (64, 2), (65, 3), (66, 4), (67, 5), (68, 6), (69, 7), (70, 8), (71, 9), (72, 10), (73, 11), (74, 12), (75, 13), (76, 14), (77, 15), (78, 16), (79, 17), (3, 19)]) (by kernel_rfl) (n := 20) rfl ?_
          · intro v
            exact ⟨fun _ => (X.refl _).drew, fun h => Bool.noConfusion h, fun h => Bool.noConfusion h, fun h => Bool.noConfusion h, fun h => Bool.noConfusion h, fun h => Bool.noConfusion h, fun h => Bool.noConfusion h, fun h => Bool.noConfusion h, fun h => Bool.noConfusion h, fun h => Bool.noConfusion h, fun h => Bool.noConfusion h, fun h => Bool.noConfusion h, fun h => Bool.noConfusion h, fun h => Bool.noConfusion h, fun h => Bool.noConfusion h, fun h => Bool.noConfusion h, fun h => Bool.noConfusion h, fun h => Bool.noConfusion h, fun h => Bool.noConfusion h, fun h => Bool.noConfusion h, fun h => Bool.noConfusion h, fun h => Bool.noConfusion h, fun h => Bool.noConfusion h, fun h => Bool.noConfusion h⟩
          · intro i hi
            have hi' : i = 0 ∨ i = 1 ∨ i = 2 ∨ i = 3 ∨ i = 4 ∨ i = 5 ∨ i = 6 ∨ i = 7 ∨ i = 8 ∨ i = 9 ∨ i = 10 ∨ i = 11 ∨ i = 12 ∨ i = 13 ∨ i = 14 ∨ i = 15 ∨ i = 16 ∨ i = 17 ∨ i = 18 ∨ i = 19 := by
              have : i < 20 := hi
              omega
            clear hi
            rcases hi' with rfl | rfl | rfl | rfl | rfl | rfl | rfl | rfl | rfl | rfl | rfl | rfl | rfl | rfl | rfl | rfl | rfl | rfl | rfl | rfl
            all_goals
              intro o ho L v aa W hI hS hL hA K hK
              cases (show some _ = some o from ho)
              obtain ⟨xx, d18, d14, d12, d11, d10, d8, d7, v0, v1, v2, v3, v4, v5, v6, v7, v8, v9, v10, v11, v12, v17, v19, fin⟩ := hI
            · have a4 := hS.old 4 (by kernel_rfl) rfl
              have n18 : L 18 = false := by rcases h : L 18 with _ | _; (· rfl); (· have := (d18 h).2; simp [hL] at this)
              have e := ((xx n18).cell (p := ⟨tb, 0, none⟩) lt5).trans e0
              have lt := Nat.lt_of_lt_of_le lt5 (xx n18).size
              refine wantY (by exact rfl) ?_
              clear hS ho hA
              go_simp
              exact hK _ W ⟨xx, fun h => ⟨(d18 h).1, rfl⟩, d14, d12, d11, d10, d8, d7, fun _ => rfl, v1, v2, v3, v4, v5, v6, v7, v8, v9, v10, v11, v12, v17, v19, fin⟩
            · have a0 := hS.old 5 (by kernel_rfl) rfl
              refine wantY (by exact rfl) ?_
              clear hS ho hA
              go_simp
              exact hK _ W ⟨xx, d18, d14, d12, d11, d10, d8, d7, v0, fun _ => rfl, v2, v3, v4, v5, v6, v7, v8, v9, v10, v11, v12, v17, v19, fin⟩
            · have a0 := hS.old 5 (by kernel_rfl) rfl
              refine wantY (by exact rfl) ?_
              clear hS ho hA
              go_simp
              exact hK _ W ⟨xx, d18, d14, d12, d11, d10, d8, d7, v0, v1, fun _ => rfl, v3, v4, v5, v6, v7, v8, v9, v10, v11, v12, v17, v19, fin⟩
            · have l2 : L 2 = true := hA ⟨2, .data⟩ (by simp) rfl
              have a2 := hS.get 2 64 rfl l2 (v2 l2)
              refine wantY (by exact rfl) ?_
              clear hS ho hA
              go_simp
              exact hK _ W ⟨xx, d18, d14, d12, d11, d10, d8, d7, v0, v1, v2, fun _ => rfl, v4, v5, v6, v7, v8, v9, v10, v11, v12, v17, v19, fin⟩
            · have l3 : L 3 = true := hA ⟨3, .data⟩ (by simp) rfl
              have a3 := hS.get 3 65 rfl l3 (v3 l3)
              refine wantY (by exact rfl) ?_
              clear hS ho hA
              go_simp
              exact hK _ W ⟨xx, d18, d14, d12, d11, d10, d8, d7, v0, v1, v2, v3, fun _ => rfl, v5, v6, v7, v8, v9, v10, v11, v12, v17, v19, fin⟩
            · have l1 : L 1 = true := hA ⟨1, .data⟩ (by simp) rfl
              have a1 := hS.get 1 63 rfl l1 (v1 l1)
              have l4 : L 4 = true := hA ⟨4, .data⟩ (by simp) rfl
              have a4 := hS.get 4 66 rfl l4 (v4 l4)
              refine wantY (by exact rfl) ?_
              clear hS ho hA
              go_simp
              exact hK _ W ⟨xx, d18, d14, d12, d11, d10, d8, d7, v0, v1, v2, v3, v4, fun _ => rfl, v6, v7, v8, v9, v10, v11, v12, v17, v19, fin⟩
            · have l5 : L 5 = true := hA ⟨5, .data⟩ (by simp) rfl
              have a5 := hS.get 5 67 rfl l5 (v5 l5)
              have n18 : L 18 = false := by rcases h : L 18 with _ | _; (· rfl); (· have := d7 (d8 (d11 (d12 (d14 (d18 h).1).1)).1); simp [hL] at this)
              have cl := ((xx n18).cell (p := ⟨b, off + k, none⟩) hb).trans hc
              have lb := Nat.lt_of_lt_of_le hb (xx n18).size
              refine wantY (by exact rfl) ?_
              clear hS ho hA
              go_simp
              exact hK _ W ⟨xx, d18, d14, d12, d11, d10, d8, fun _ => rfl, v0, v1, v2, v3, v4, v5, fun _ => rfl, v7, v8, v9, v10, v11, v12, v17, v19, fin⟩
            · have l6 : L 6 = true := hA ⟨6, .data⟩ (by simp) rfl
              have a6 := hS.get 6 68 rfl l6 (v6 l6)
              refine wantY (by exact rfl) ?_
              clear hS ho hA
              go_simp
              exact hK _ W ⟨xx, d18, d14, d12, d11, d10, fun _ => rfl, fun _ => l6, v0, v1, v2, v3, v4, v5, v6, fun _ => rfl, v8, v9, v10, v11, v12, v17, v19, fin⟩
            · have l7 : L 7 = true := hA ⟨7, .data⟩ (by simp) rfl
              have a7 := hS.get 7 69 rfl l7 (v7 l7)
              refine wantY (by exact rfl) ?_
              clear hS ho hA
              go_simp
              exact hK _ W ⟨xx, d18, d14, d12, fun h => ⟨rfl, (d11 h).2⟩, d10, fun _ => l7, d7, v0, v1, v2, v3, v4, v5, v6, v7, fun _ => rfl, v9, v10, v11, v12, v17, v19, fin⟩
            · have l8 : L 8 = true := hA ⟨8, .guard⟩ (by simp) rfl
              have a4 := hS.old 4 (by kernel_rfl) rfl
              have n18 : L 18 = false := by rcases h : L 18 with _ | _; (· rfl); (· have := d10 (d11 (d12 (d14 (d18 h).1).1)).2; simp [hL] at this)
              have e := ((xx n18).cell (p := ⟨tb, 0, none⟩) lt5).trans e0
              have lt := Nat.lt_of_lt_of_le lt5 (xx n18).size
              refine wantY (by rw [wanted_of rfl (hS.yield 8 70 rfl l8 (v8 l8))]; rfl) ?_
              clear hS ho hA
              go_simp
              exact hK _ W ⟨xx, d18, d14, d12, d11, fun _ => rfl, d8, d7, v0, v1, v2, v3, v4, v5, v6, v7, v8, fun _ => rfl, v10, v11, v12, v17, v19, fin⟩
            · have l8 : L 8 = true := hA ⟨8, .guard⟩ (by simp) rfl
              have l9 : L 9 = true := hA ⟨9, .data⟩ (by simp) rfl
              have a9 := hS.get 9 71 rfl l9 (v9 l9)
              have n18 : L 18 = false := by rcases h : L 18 with _ | _; (· rfl); (· have := (d11 (d12 (d14 (d18 h).1).1)).2; simp [hL] at this)
              refine wantY (by rw [wanted_of rfl (hS.yield 8 70 rfl l8 (v8 l8))]; rfl) ?_
              clear hS ho hA
              go_simp
              refine (validTree_c V a N c B W (hA0.mono ((xx n18).fr _))).mono ?_
              rw [h1]
              rintro _ w' ⟨rfl, hx⟩
              exact hK _ w' ⟨fun h => (xx h).trans hx, d18, d14, d12, fun h => ⟨(d11 h).1, rfl⟩, fun _ => l9, d8, d7, v0, v1, v2, v3, v4, v5, v6, v7, v8, v9, fun _ => rfl, v11, v12, v17, v19, fun h => Bool.noConfusion (n18.symm.trans h)⟩
            · have l8 : L 8 = true := hA ⟨8, .data⟩ (by simp) rfl
              have a8 := hS.get 8 70 rfl l8 (v8 l8)
              have l10 : L 10 = true := hA ⟨10, .data⟩ (by simp) rfl
              have a10 := hS.get 10 72 rfl l10 (v10 l10)
              refine wantY (by exact rfl) ?_
              clear hS ho hA
              go_simp
              exact hK _ W ⟨xx, d18, d14, fun _ => rfl, fun _ => ⟨l8, l10⟩, d10, d8, d7, v0, v1, v2, v3, v4, v5, v6, v7, v8, v9, v10, fun _ => rfl, v12, v17, v19, fin⟩
            · have l11 : L 11 = true := hA ⟨11, .data⟩ (by simp) rfl
              have a11 := hS.get 11 73 rfl l11 (v11 l11)
              refine wantY (by exact rfl) ?_
              clear hS ho hA
              go_simp
              exact hK _ W ⟨xx, d18, fun h => ⟨rfl, (d14 h).2⟩, fun _ => l11, d11, d10, d8, d7, v0, v1, v2, v3, v4, v5, v6, v7, v8, v9, v10, v11, fun _ => rfl, v17, v19, fin⟩
            · have l12 : L 12 = true := hA ⟨12, .guard⟩ (by simp) rfl
              refine wantN (by rw [wanted_of rfl (hS.yield 12 74 rfl l12 (v12 l12))]; decide) ?_
              exact hK _ W ⟨xx, d18, fun h => ⟨(d14 h).1, rfl⟩, d12, d11, d10, d8, d7, v0, v1, v2, v3, v4, v5, v6, v7, v8, v9, v10, v11, v12, v17, v19, fin⟩
            · have l12 : L 12 = true := hA ⟨12, .guard⟩ (by simp) rfl
              have l13 : L 13 = true := hA ⟨13, .data⟩ (by simp) rfl
              refine wantN (by rw [wanted_of rfl (hS.yield 12 74 rfl l12 (v12 l12))]; decide) ?_
              exact hK _ W ⟨xx, fun h => ⟨rfl, (d18 h).2⟩, fun _ => ⟨l12, l13⟩, d12, d11, d10, d8, d7, v0, v1, v2, v3, v4, v5, v6, v7, v8, v9, v10, v11, v12, v17, v19, fin⟩
            · have l12 : L 12 = true := hA ⟨12, .guard⟩ (by simp) rfl
              refine wantN (by rw [wanted_of rfl (hS.yield 12 74 rfl l12 (v12 l12))]; decide) ?_
              exact hK _ W ⟨xx, d18, d14, d12, d11, d10, d8, d7, v0, v1, v2, v3, v4, v5, v6, v7, v8, v9, v10, v11, v12, v17, v19, fin⟩
            · have l12 : L 12 = true := hA ⟨12, .guard⟩ (by simp) rfl
              have l14 : L 14 = true := hA ⟨14, .data⟩ (by simp) rfl
              have l15 : L 15 = true := hA ⟨15, .data⟩ (by simp) rfl
              refine wantN (by rw [wanted_of rfl (hS.yield 12 74 rfl l12 (v12 l12))]; decide) ?_
              exact hK _ W ⟨xx, d18, d14, d12, d11, d10, d8, d7, v0, v1, v2, v3, v4, v5, v6, v7, v8, v9, v10, v11, v12, v17, v19, fin⟩
            · have l12 : L 12 = true := hA ⟨12, .data⟩ (by simp) rfl
              have a12 := hS.get 12 74 rfl l12 (v12 l12)
              refine wantY (by exact rfl) ?_
              clear hS ho hA
              go_simp
              exact hK _ W ⟨xx, d18, d14, d12, d11, d10, d8, d7, v0, v1, v2, v3, v4, v5, v6, v7, v8, v9, v10, v11, v12, fun _ => rfl, v19, fin⟩
            · have l0 : L 0 = true := hA ⟨0, .data⟩ (by simp) rfl
              have l14 : L 14 = true := hA ⟨14, .chain⟩ (by simp) rfl
              have a0 := hS.get 0 62 rfl l0 (v0 l0)
              have a2 := hS.old 2 (by kernel_rfl) rfl
              obtain ⟨lr, cr, fr⟩ := (hRr.x (xx hL)).out
              have r0 := cr 0
              have f0 := fr 0
              clear cr fr
              refine wantY (by exact rfl) ?_
              clear hS ho hA
              go_simp
              exact hK undef _ ⟨fun h => Bool.noConfusion h, fun _ => ⟨l14, l0⟩, d14, d12, d11, d10, d8, d7, v0, v1, v2, v3, v4, v5, v6, v7, v8, v9, v10, v11, v12, v17, v19, fun _ => ⟨W, rfl, xx hL⟩⟩
            · have l17 : L 17 = true := hA ⟨17, .data⟩ (by simp) rfl
              have a17 := hS.get 17 79 rfl l17 (v17 l17)
              refine wantY (by exact rfl) ?_
              clear hS ho hA
              go_simp
              exact hK _ W ⟨xx, d18, d14, d12, d11, d10, d8, d7, v0, v1, v2, v3, v4, v5, v6, v7, v8, v9, v10, v11, v12, v17, fun _ => rfl, fin⟩
          · intro v W hI
            obtain ⟨xx, d18, d14, d12, d11, d10, d8, d7, v0, v1, v2, v3, v4, v5, v6, v7, v8, v9, v10, v11, v12, v17, v19, fin⟩ := hI
            obtain ⟨w9, rfl, hx9⟩ := fin rfl
            have e19 := v19 rfl
            clear fin xx d18 d14 d12 d11 d10 d8 d7 v0 v1 v2 v3 v4 v5 v6 v7 v8 v9 v10 v11 v12 v17 v19
            simp only [putL, List.foldl, List.setIfInBounds_toArray, List.set_cons_zero, List.set_cons_succ, e19]
            clear e19
            obtain ⟨z1, z2⟩ := hend w9 hx9
            have hRf := (Bx.set (hRr.x hx9) 0 (.slice a N c)).out.2.1 0
            go_wp2
            refine bodyPost_ret (v := .tuple #[.agg #[.slice a N c], .bool false]) (by simp [results, Tryz.results18, go_sem, hRf]) rfl ?_
            exact ⟨a, c, by rw [← HTl.out], z2, z1⟩
        · obtain ⟨D, hD⟩ : ∃ D, fmtT V = D := ⟨_, rfl⟩
          obtain ⟨okv, hov⟩ : ∃ okv, (D == s) = okv := ⟨_, rfl⟩
          obtain rfl : okv = ok := by symm; rw [Hokv.out, h0, h1, hD, hov]; rfl
          have HD := Lib.hid hD
          have hA0 := hA
          clear hD hO hT fr r0 lr hA
          go_wp2
          have hk1 : (k : Int) < (k : Int) + 1 := by omega
          have hk2 : (0 : Int) ≤ (k : Int) := by omega
          have hk4 : IntKind.i64.wrap (k : Int) = (k : Int) := IntWalk.i64_in _ (by omega)
          refine wp_region_invG (fun L v W => (L 18 = false → X wr W)
              ∧ (L 18 = true → L 14 = true ∧ L 0 = true)
              ∧ (L 14 = true → L 12 = true ∧ L 13 = true)
              ∧ (L 12 = true → L 11 = true)
              ∧ (L 11 = true → L 8 = true ∧ L 10 = true)
              ∧ (L 10 = true → L 9 = true)
              ∧ (L 8 = true → L 7 = true)
              ∧ (L 7 = true → L 6 = true)
              ∧ (L 0 = true → v 0 = .agg #[.slice a N c])
              ∧ (L 1 = true → v 1 = .slice (some ⟨b, off, none⟩) (k + 1) lc)
              ∧ (L 2 = true → v 2 = .slice (some ⟨b, off, none⟩) (k + 1) lc)
              ∧ (L 3 = true → v 3 = .int .i64 ((k : Int) + 1))
              ∧ (L 4 = true → v 4 = .int .i64 (k : Int))
              ∧ (L 5 = true → v 5 = .pointer (some ⟨b, off + k, none⟩))
              ∧ (L 6 = true → v 6 = .string ⟨(nth (splitL 10 s) k).toArray⟩)
              ∧ (L 7 = true → v 7 = .bool true)
              ∧ (L 8 = true → v 8 = .bool true)
              ∧ (L 9 = true → v 9 = .agg #[.slice a N c])
              ∧ (L 10 = true → v 10 = .bool true)
              ∧ (L 11 = true → v 11 = .bool true)
              ∧ (L 12 = true → v 12 = .bool true)
              ∧ (L 13 = true → v 13 = .agg #[.slice a N c])
              ∧ (L 14 = true → v 14 = .string ⟨(D).toArray⟩)
              ∧ (L 15 = true → v 15 = .string ⟨(s).toArray⟩)
              ∧ (L 16 = true → v 16 = .bool okv)
              ∧ (L 17 = true → v 17 = .bool okv)
              ∧ (L 19 = true → v 19 = .bool okv)
              ∧ (L 18 = true → ∃ w9, W = w9.setCell ⟨w.heap.size, 0, none⟩ (.slice a N c) ∧ X wr w9)) (by kernel_rfl) (by kernel_rfl) ?_ ?_ (l := [(62, 0), (63, 1), (64, 2), (65, 3), (66, 4), (67, 5), (68, 6), (69, 7), (70, 8), (71, 9), (72, 10), (73, 11), (74, 12), (75, 13), (76, 14), (77, 15), (78, 16), (79, 17), (3, 19)]) (by kernel_rfl) (n := 20) rfl ?_
          · intro v
            exact ⟨fun _ => (X.refl _).drew, fun h => Bool.noConfusion h, fun h => Bool.noConfusion h, fun h => Bool.noConfusion h, fun h => Bool.noConfusion h, fun h => Bool.noConfusion h, fun h => Bool.noConfusion h, fun h => Bool.noConfusion h, fun h => Bool.noConfusion h, fun h => Bool.noConfusion h, fun h => Bool.noConfusion h, fun h => Bool.noConfusion h, fun h => Bool.noConfusion h, fun h => Bool.noConfusion h, fun h => Bool.noConfusion h, fun h => Bool.noConfusion h, fun h => Bool.noConfusion h, fun h => Bool.noConfusion h, fun h => Bool.noConfusion h, fun h => Bool.noConfusion h, fun h => Bool.noConfusion h, fun h => Bool.noConfusion h, fun h => Bool.noConfusion h, fun h => Bool.noConfusion h, fun h => Bool.noConfusion h, fun h => Bool.noConfusion h, fun h => Bool.noConfusion h, fun h => Bool.noConfusion h⟩
          · intro i hi
            have hi' : i = 0 ∨ i = 1 ∨ i = 2 ∨ i = 3 ∨ i = 4 ∨ i = 5 ∨ i = 6 ∨ i = 7 ∨ i = 8 ∨ i = 9 ∨ i = 10 ∨ i = 11 ∨ i = 12 ∨ i = 13 ∨ i = 14 ∨ i = 15 ∨ i = 16 ∨ i = 17 ∨ i = 18 ∨ i = 19 := by
              have : i < 20 := hi
              omega
            clear hi
            rcases hi' with rfl | rfl | rfl | rfl | rfl | rfl | rfl | rfl | rfl | rfl | rfl | rfl | rfl | rfl | rfl | rfl | rfl | rfl | rfl | rfl
            all_goals
              intro o ho L v aa W hI hS hL hA K hK
              cases (show some _ = some o from ho)
              obtain ⟨xx, d18, d14, d12, d11, d10, d8, d7, v0, v1, v2, v3, v4, v5, v6, v7, v8, v9, v10, v11, v12, v13, v14, v15, v16, v17, v19, fin⟩ := hI
            · have a4 := hS.old 4 (by kernel_rfl) rfl
              have n18 : L 18 = false := by rcases h : L 18 with _ | _; (· rfl); (· have := (d18 h).2; simp [hL] at this)
              have e := ((xx n18).cell (p := ⟨tb, 0, none⟩) lt5).trans e0
              have lt := Nat.lt_of_lt_of_le lt5 (xx n18).size
              refine wantY (by exact rfl) ?_
              clear hS ho hA
              go_simp
              exact hK _ W ⟨xx, fun h => ⟨(d18 h).1, rfl⟩, d14, d12, d11, d10, d8, d7, fun _ => rfl, v1, v2, v3, v4, v5, v6, v7, v8, v9, v10, v11, v12, v13, v14, v15, v16, v17, v19, fin⟩
            · have a0 := hS.old 5 (by kernel_rfl) rfl
              refine wantY (by exact rfl) ?_
              clear hS ho hA
              go_simp
              exact hK _ W ⟨xx, d18, d14, d12, d11, d10, d8, d7, v0, fun _ => rfl, v2, v3, v4, v5, v6, v7, v8, v9, v10, v11, v12, v13, v14, v15, v16, v17, v19, fin⟩
            · have a0 := hS.old 5 (by kernel_rfl) rfl
              refine wantY (by exact rfl) ?_
              clear hS ho hA
              go_simp
              exact hK _ W ⟨xx, d18, d14, d12, d11, d10, d8, d7, v0, v1, fun _ => rfl, v3, v4, v5, v6, v7, v8, v9, v10, v11, v12, v13, v14, v15, v16, v17, v19, fin⟩
            · have l2 : L 2 = true := hA ⟨2, .data⟩ (by simp) rfl
              have a2 := hS.get 2 64 rfl l2 (v2 l2)
              refine wantY (by exact rfl) ?_
              clear hS ho hA
              go_simp
              exact hK _ W ⟨xx, d18, d14, d12, d11, d10, d8, d7, v0, v1, v2, fun _ => rfl, v4, v5, v6, v7, v8, v9, v10, v11, v12, v13, v14, v15, v16, v17, v19, fin⟩
            · have l3 : L 3 = true := hA ⟨3, .data⟩ (by simp) rfl
              have a3 := hS.get 3 65 rfl l3 (v3 l3)
              refine wantY (by exact rfl) ?_
              clear hS ho hA
              go_simp
              exact hK _ W ⟨xx, d18, d14, d12, d11, d10, d8, d7, v0, v1, v2, v3, fun _ => rfl, v5, v6, v7, v8, v9, v10, v11, v12, v13, v14, v15, v16, v17, v19, fin⟩
            · have l1 : L 1 = true := hA ⟨1, .data⟩ (by simp) rfl
              have a1 := hS.get 1 63 rfl l1 (v1 l1)
              have l4 : L 4 = true := hA ⟨4, .data⟩ (by simp) rfl
              have a4 := hS.get 4 66 rfl l4 (v4 l4)
              refine wantY (by exact rfl) ?_
              clear hS ho hA
              go_simp
              exact hK _ W ⟨xx, d18, d14, d12, d11, d10, d8, d7, v0, v1, v2, v3, v4, fun _ => rfl, v6, v7, v8, v9, v10, v11, v12, v13, v14, v15, v16, v17, v19, fin⟩
            · have l5 : L 5 = true := hA ⟨5, .data⟩ (by simp) rfl
              have a5 := hS.get 5 67 rfl l5 (v5 l5)
              have n18 : L 18 = false := by rcases h : L 18 with _ | _; (· rfl); (· have := d7 (d8 (d11 (d12 (d14 (d18 h).1).1)).1); simp [hL] at this)
              have cl := ((xx n18).cell (p := ⟨b, off + k, none⟩) hb).trans hc
              have lb := Nat.lt_of_lt_of_le hb (xx n18).size
              refine wantY (by exact rfl) ?_
              clear hS ho hA
              go_simp
              exact hK _ W ⟨xx, d18, d14, d12, d11, d10, d8, fun _ => rfl, v0, v1, v2, v3, v4, v5, fun _ => rfl, v7, v8, v9, v10, v11, v12, v13, v14, v15, v16, v17, v19, fin⟩
            · have l6 : L 6 = true := hA ⟨6, .data⟩ (by simp) rfl
              have a6 := hS.get 6 68 rfl l6 (v6 l6)
              refine wantY (by exact rfl) ?_
              clear hS ho hA
              go_simp
              exact hK _ W ⟨xx, d18, d14, d12, d11, d10, fun _ => rfl, fun _ => l6, v0, v1, v2, v3, v4, v5, v6, fun _ => rfl, v8, v9, v10, v11, v12, v13, v14, v15, v16, v17, v19, fin⟩
            · have l7 : L 7 = true := hA ⟨7, .data⟩ (by simp) rfl
              have a7 := hS.get 7 69 rfl l7 (v7 l7)
              refine wantY (by exact rfl) ?_
              clear hS ho hA
              go_simp
              exact hK _ W ⟨xx, d18, d14, d12, fun h => ⟨rfl, (d11 h).2⟩, d10, fun _ => l7, d7, v0, v1, v2, v3, v4, v5, v6, v7, fun _ => rfl, v9, v10, v11, v12, v13, v14, v15, v16, v17, v19, fin⟩
            · have l8 : L 8 = true := hA ⟨8, .guard⟩ (by simp) rfl
              have a4 := hS.old 4 (by kernel_rfl) rfl
              have n18 : L 18 = false := by rcases h : L 18 with _ | _; (· rfl); (· have := d10 (d11 (d12 (d14 (d18 h).1).1)).2; simp [hL] at this)
              have e := ((xx n18).cell (p := ⟨tb, 0, none⟩) lt5).trans e0
              have lt := Nat.lt_of_lt_of_le lt5 (xx n18).size
              refine wantY (by rw [wanted_of rfl (hS.yield 8 70 rfl l8 (v8 l8))]; rfl) ?_
              clear hS ho hA
              go_simp
              exact hK _ W ⟨xx, d18, d14, d12, d11, fun _ => rfl, d8, d7, v0, v1, v2, v3, v4, v5, v6, v7, v8, fun _ => rfl, v10, v11, v12, v13, v14, v15, v16, v17, v19, fin⟩
            · have l8 : L 8 = true := hA ⟨8, .guard⟩ (by simp) rfl
              have l9 : L 9 = true := hA ⟨9, .data⟩ (by simp) rfl
              have a9 := hS.get 9 71 rfl l9 (v9 l9)
              have n18 : L 18 = false := by rcases h : L 18 with _ | _; (· rfl); (· have := (d11 (d12 (d14 (d18 h).1).1)).2; simp [hL] at this)
              refine wantY (by rw [wanted_of rfl (hS.yield 8 70 rfl l8 (v8 l8))]; rfl) ?_
              clear hS ho hA
              go_simp
              refine (validTree_c V a N c B W (hA0.mono ((xx n18).fr _))).mono ?_
              rw [h1]
              rintro _ w' ⟨rfl, hx⟩
              exact hK _ w' ⟨fun h => (xx h).trans hx, d18, d14, d12, fun h => ⟨(d11 h).1, rfl⟩, fun _ => l9, d8, d7, v0, v1, v2, v3, v4, v5, v6, v7, v8, v9, fun _ => rfl, v11, v12, v13, v14, v15, v16, v17, v19, fun h => Bool.noConfusion (n18.symm.trans h)⟩
            · have l8 : L 8 = true := hA ⟨8, .data⟩ (by simp) rfl
              have a8 := hS.get 8 70 rfl l8 (v8 l8)
              have l10 : L 10 = true := hA ⟨10, .data⟩ (by simp) rfl
              have a10 := hS.get 10 72 rfl l10 (v10 l10)
              refine wantY (by exact rfl) ?_
              clear hS ho hA
              go_simp
              exact hK _ W ⟨xx, d18, d14, fun _ => rfl, fun _ => ⟨l8, l10⟩, d10, d8, d7, v0, v1, v2, v3, v4, v5, v6, v7, v8, v9, v10, fun _ => rfl, v12, v13, v14, v15, v16, v17, v19, fin⟩
            · have l11 : L 11 = true := hA ⟨11, .data⟩ (by simp) rfl
              have a11 := hS.get 11 73 rfl l11 (v11 l11)
              refine wantY (by exact rfl) ?_
              clear hS ho hA
              go_simp
              exact hK _ W ⟨xx, d18, fun h => ⟨rfl, (d14 h).2⟩, fun _ => l11, d11, d10, d8, d7, v0, v1, v2, v3, v4, v5, v6, v7, v8, v9, v10, v11, fun _ => rfl, v13, v14, v15, v16, v17, v19, fin⟩
            · have l12 : L 12 = true := hA ⟨12, .guard⟩ (by simp) rfl
              have a4 := hS.old 4 (by kernel_rfl) rfl
              have n18 : L 18 = false := by rcases h : L 18 with _ | _; (· rfl); (· have := (d14 (d18 h).1).2; simp [hL] at this)
              have e := ((xx n18).cell (p := ⟨tb, 0, none⟩) lt5).trans e0
              have lt := Nat.lt_of_lt_of_le lt5 (xx n18).size
              refine wantY (by rw [wanted_of rfl (hS.yield 12 74 rfl l12 (v12 l12))]; rfl) ?_
              clear hS ho hA
              go_simp
              exact hK _ W ⟨xx, d18, fun h => ⟨(d14 h).1, rfl⟩, d12, d11, d10, d8, d7, v0, v1, v2, v3, v4, v5, v6, v7, v8, v9, v10, v11, v12, fun _ => rfl, v14, v15, v16, v17, v19, fin⟩
            · have l12 : L 12 = true := hA ⟨12, .guard⟩ (by simp) rfl
              have l13 : L 13 = true := hA ⟨13, .data⟩ (by simp) rfl
              have a13 := hS.get 13 75 rfl l13 (v13 l13)
              have n18 : L 18 = false := by rcases h : L 18 with _ | _; (· rfl); (· have := (d18 h).1; simp [hL] at this)
              refine wantY (by rw [wanted_of rfl (hS.yield 12 74 rfl l12 (v12 l12))]; rfl) ?_
              clear hS ho hA
              go_simp
              refine (format_c V a N c B W (hA0.mono ((xx n18).fr _)) h1).mono ?_
              rw [HD.out]
              rintro _ w' ⟨rfl, hx⟩
              exact hK _ w' ⟨fun h => (xx h).trans hx, fun h => ⟨rfl, (d18 h).2⟩, fun _ => ⟨l12, l13⟩, d12, d11, d10, d8, d7, v0, v1, v2, v3, v4, v5, v6, v7, v8, v9, v10, v11, v12, v13, fun _ => rfl, v15, v16, v17, v19, fun h => Bool.noConfusion (n18.symm.trans h)⟩
            · have l12 : L 12 = true := hA ⟨12, .guard⟩ (by simp) rfl
              have a0 := hS.old 0 (by kernel_rfl) rfl
              refine wantY (by rw [wanted_of rfl (hS.yield 12 74 rfl l12 (v12 l12))]; rfl) ?_
              clear hS ho hA
              go_simp
              exact hK _ W ⟨xx, d18, d14, d12, d11, d10, d8, d7, v0, v1, v2, v3, v4, v5, v6, v7, v8, v9, v10, v11, v12, v13, v14, fun _ => rfl, v16, v17, v19, fin⟩
            · have l12 : L 12 = true := hA ⟨12, .guard⟩ (by simp) rfl
              have l14 : L 14 = true := hA ⟨14, .data⟩ (by simp) rfl
              have a14 := hS.get 14 76 rfl l14 (v14 l14)
              have l15 : L 15 = true := hA ⟨15, .data⟩ (by simp) rfl
              have a15 := hS.get 15 77 rfl l15 (v15 l15)
              refine wantY (by rw [wanted_of rfl (hS.yield 12 74 rfl l12 (v12 l12))]; rfl) ?_
              clear hS ho hA
              go_simp
              exact hK _ W ⟨xx, d18, d14, d12, d11, d10, d8, d7, v0, v1, v2, v3, v4, v5, v6, v7, v8, v9, v10, v11, v12, v13, v14, v15, fun _ => rfl, v17, v19, fin⟩
            · have l12 : L 12 = true := hA ⟨12, .data⟩ (by simp) rfl
              have a12 := hS.get 12 74 rfl l12 (v12 l12)
              have l16 : L 16 = true := hA ⟨16, .data⟩ (by simp) rfl
              have a16 := hS.get 16 78 rfl l16 (v16 l16)
              refine wantY (by exact rfl) ?_
              clear hS ho hA
              go_simp
              exact hK _ W ⟨xx, d18, d14, d12, d11, d10, d8, d7, v0, v1, v2, v3, v4, v5, v6, v7, v8, v9, v10, v11, v12, v13, v14, v15, v16, fun _ => rfl, v19, fin⟩
            · have l0 : L 0 = true := hA ⟨0, .data⟩ (by simp) rfl
              have l14 : L 14 = true := hA ⟨14, .chain⟩ (by simp) rfl
              have a0 := hS.get 0 62 rfl l0 (v0 l0)
              have a2 := hS.old 2 (by kernel_rfl) rfl
              obtain ⟨lr, cr, fr⟩ := (hRr.x (xx hL)).out
              have r0 := cr 0
              have f0 := fr 0
              clear cr fr
              refine wantY (by exact rfl) ?_
              clear hS ho hA
              go_simp
              exact hK undef _ ⟨fun h => Bool.noConfusion h, fun _ => ⟨l14, l0⟩, d14, d12, d11, d10, d8, d7, v0, v1, v2, v3, v4, v5, v6, v7, v8, v9, v10, v11, v12, v13, v14, v15, v16, v17, v19, fun _ => ⟨W, rfl, xx hL⟩⟩
            · have l17 : L 17 = true := hA ⟨17, .data⟩ (by simp) rfl
              have a17 := hS.get 17 79 rfl l17 (v17 l17)
              refine wantY (by exact rfl) ?_
              clear hS ho hA
              go_simp
              exact hK _ W ⟨xx, d18, d14, d12, d11, d10, d8, d7, v0, v1, v2, v3, v4, v5, v6, v7, v8, v9, v10, v11, v12, v13, v14, v15, v16, v17, fun _ => rfl, fin⟩
          · intro v W hI
            obtain ⟨xx, d18, d14, d12, d11, d10, d8, d7, v0, v1, v2, v3, v4, v5, v6, v7, v8, v9, v10, v11, v12, v13, v14, v15, v16, v17, v19, fin⟩ := hI
            obtain ⟨w9, rfl, hx9⟩ := fin rfl
            have e19 := v19 rfl
            clear fin xx d18 d14 d12 d11 d10 d8 d7 v0 v1 v2 v3 v4 v5 v6 v7 v8 v9 v10 v11 v12 v13 v14 v15 v16 v17 v19
            simp only [putL, List.foldl, List.setIfInBounds_toArray, List.set_cons_zero, List.set_cons_succ, e19]
            clear e19
            obtain ⟨z1, z2⟩ := hend w9 hx9
            have hRf := (Bx.set (hRr.x hx9) 0 (.slice a N c)).out.2.1 0
            go_wp2
            refine bodyPost_ret (v := .tuple #[.agg #[.slice a N c], .bool okv]) (by simp [results, Tryz.results18, go_sem, hRf]) rfl ?_
            exact ⟨a, c, by rw [← HTl.out], z2, z1⟩

set_option maxRecDepth 100000 in
set_option maxHeartbeats 2000000 in
theorem ParseTree_s (s : List UInt8) (w : World) (hs : s.length ≤ 1048576) :
    Calls Tryz.prog 6 #[.string ⟨(s).toArray⟩] w fun e w' => ∃ ra rc, e = .returned (.tuple #[.agg #[.slice ra (parL s).length rc], .bool (okI s)]) ∧ FilesO w' w.heap.size ra (parL s).length rc (parL s) ∧ X w w' := by
  obtain ⟨hsame, hval⟩ := ok_same s
  have hp := parse_c s
  rw [hsame] at hp
  have hvv : okI s = true → parS s = parL s := fun h => by rw [parS, (hval h).1]
  have hvn : okI s = false → parL s = [] := fun h => by rw [parL, h]; rfl
  obtain ⟨V, hV⟩ : ∃ V, parL s = V := ⟨_, rfl⟩
  obtain ⟨S, hS⟩ : ∃ S, parS s = S := ⟨_, rfl⟩
  rw [hV, hS] at hvv
  rw [hV] at hvn ⊢
  rw [hS] at hp
  clear hval hsame hV hS
  cases hok : okI s
  · obtain rfl := hvn hok
    rw [hok] at hp
    clear hok hvv hvn
    go_enter Tryz.func6, Tryz.ntmps6
    go_wp2_with fail
    refine calls_name (fun W0 hW0 => ?_)
    have hX0 : X w W0 := by rw [hW0]; (repeat (first | with_reducible exact X.refl _ | with_reducible assumption | with_reducible refine X.setCell ?_ (by first | (simp; done) | (simp; omega)) _ | with_reducible refine X.ext ?_ _ | with_reducible refine X.alloc ?_ _ | with_reducible refine X.drew ?_))
    have hR0 : Bx W0 w.heap.size #[.slice none 0 0] := by rw [hW0]; exact Bx.new _ _ _
    clear hW0
    refine (hp W0 hs).mono ?_
    rintro _ w1 ⟨ra, rc, rfl, hO, hx1⟩
    obtain ⟨lr, cr, fr⟩ := (hR0.x hx1).out
    have r0 := cr 0
    clear cr
    go_wp2
    have hRf := ((Bx.set (hR0.x hx1) 0 (.slice none 0 0)).x ((X.refl _).alloc (.cells #[.slice ra S.length rc] 24))).out.2.1 0
    refine bodyPost_ret (v := .tuple #[.agg #[.slice none 0 0], .bool false]) (by simp [results, Tryz.results6, go_sem, hRf]) rfl ?_
    exact ⟨none, 0, rfl, FilesO.nil _ _, ((hX0.trans hx1).setCell (Nat.le_refl _) _).alloc _⟩
  · obtain rfl := hvv hok
    rw [hok] at hp
    clear hok hvn
    go_enter Tryz.func6, Tryz.ntmps6
    go_wp2_with fail
    refine calls_name (fun W0 hW0 => ?_)
    have hX0 : X w W0 := by rw [hW0]; (repeat (first | with_reducible exact X.refl _ | with_reducible assumption | with_reducible refine X.setCell ?_ (by first | (simp; done) | (simp; omega)) _ | with_reducible refine X.ext ?_ _ | with_reducible refine X.alloc ?_ _ | with_reducible refine X.drew ?_))
    have hR0 : Bx W0 w.heap.size #[.slice none 0 0] := by rw [hW0]; exact Bx.new _ _ _
    clear hW0
    refine (hp W0 hs).mono ?_
    rintro _ w1 ⟨ra, rc, rfl, hO, hx1⟩
    obtain ⟨lr, cr, fr⟩ := (hR0.x hx1).out
    have r0 := cr 0
    clear cr
    go_wp2
    have hRf := ((Bx.set (hR0.x hx1) 0 (.slice ra S.length rc)).x ((X.refl _).alloc (.cells #[.slice ra S.length rc] 24))).out.2.1 0
    refine bodyPost_ret (v := .tuple #[.agg #[.slice ra S.length rc], .bool true]) (by simp [results, Tryz.results6, go_sem, hRf]) rfl ?_
    exact ⟨ra, rc, rfl, ((hO.fr (Fr.set (Fr.refl _ _) (.inr hR0.lt) _)).fr (((X.refl _).alloc _).fr _)).less hX0.size, ((hX0.trans hx1).setCell (Nat.le_refl _) _).alloc _⟩

end Go.Proofs.YtmhcmabiolaoaaaGreatDoor
