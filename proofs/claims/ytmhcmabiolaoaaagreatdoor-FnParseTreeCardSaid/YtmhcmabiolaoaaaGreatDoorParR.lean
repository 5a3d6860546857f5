/- Reading a tree, the program's: the walk. No condition but the length. -/
import Derived.Test.YtmhcmabiolaoaaaGreatDoorParJ
import Derived.Test.YtmhcmabiolaoaaaGreatDoorParQ
import Derived.Test.YtmhcmabiolaoaaaGreatDoorFmtI
namespace Go.Proofs.YtmhcmabiolaoaaaGreatDoor
open Go.RowKit

theorem readLine_c (ws : List (List UInt8)) (sa : Option Addr) (sn sc tb B g0 c : Nat) (vs : List (Fi × Value)) (w : World) (hS : StrsAt w 0 sa sn ws) (hn : sn ≤ sc) (hE : Es w)
    (hT : w.heap[tb]? = some (.cells #[.slice (some ⟨g0, 0, none⟩) vs.length c] 24 (0, 0))) (hV : FilesV w B (some ⟨g0, 0, none⟩) c vs) (hB : B ≤ tb) (hvl : vs.length ≤ 4194304) (hbl : ∀ x ∈ vs, x.1.body.length ≤ 4194304) :
    Calls Tryz.prog 20 #[.pointer (some ⟨tb, 0, none⟩), .slice sa sn sc] w fun e w' => e = .returned (.tuple #[]) ∧ ∃ g' c' vs', w'.heap[tb]? = some (.cells #[.slice (some ⟨g', 0, none⟩) (List.length (α := Fi × Value) vs') c'] 24 (0, 0)) ∧
      FilesV w' B (some ⟨g', 0, none⟩) c' vs' ∧ vs'.map (·.1) = rdI (vs.map (·.1)) ws ∧ Kt tb w w' ∧ Below B w w' := by
  by_cases hk : nth ws 0 = kFile
  · refine (readLine_file ws sa sn sc tb B g0 c vs w hS hn hE hT hV hB hvl hk).mono ?_
    rintro _ w' ⟨rfl, g', c', bv, h1, h2, h3, h4⟩
    exact ⟨rfl, g', c', vs ++ [(fiI ws, bv)], by rw [List.length_append, List.length_singleton]; exact h1, h2, by rw [rdI, if_pos hk, List.map_append]; rfl, h3, h4⟩
  · refine (readLine_stmt ws sa sn sc tb B g0 c vs w hS hn hE hT hV hB hvl hbl hk).mono ?_
    rintro _ w' ⟨rfl, vs', h1, h2, h3, h4, h5, h6⟩
    exact ⟨rfl, g0, c, vs', by rw [h1]; exact h3, h4, by rw [rdI, if_neg hk]; exact h2, h5, h6⟩
/-- The rows of texts are kept. -/
theorem strs_kt {W W' : World} {tb B n c : Nat} {a : Option Addr} {l : List (List UInt8)} {cs : Array Value} (h : W.ownsRow B 9 1 (.slice a n c) n (strs l)) (hS : StrsAt W B a n l) (hT : W.heap[tb]? = some (.cells cs 24 (0, 0))) (hk : Kt tb W W') : StrsAt W' B a n l := by
  refine ⟨hS.1, hS.2.1, hS.2.2.1, fun hn => ?_⟩
  obtain ⟨g, rfl, hB, hg⟩ := own_form h hn
  obtain ⟨cs', hb⟩ := own_block h
  have hne : g ≠ tb := by
    rintro rfl
    rw [hT] at hb
    injection hb with hb
    injection hb with _ e _
    exact absurd e (by decide)
  have hb' := hk.block g cs' _ _ hb hne (by decide) (by decide)
  obtain ⟨b, off, ha, h1, h2, h3⟩ := hS.2.2.2 hn
  injection ha with ha
  injection ha with e1 e2
  subst e1 e2
  exact ⟨g, 0, rfl, hB, Nat.lt_of_lt_of_le hg hk.size, fun i hi => (World.cell?_of_block (hb'.trans hb.symm)).trans (h3 i hi)⟩
theorem X.trans' {w w1 wr : World} {B : Nat} (h : X w w1) (hB : Below B w1 wr) (hle : w.heap.size ≤ B := by omega) : X w wr :=
  X.of_below (h.below.trans (below_to hB hle))
theorem Bx.below {w w' : World} {B b : Nat} {cs : Array Value} (h : Bx w b cs) (hB : Below B w w') (hb : b < B) : Bx w' b cs := by
  obtain ⟨t, h⟩ := h
  exact ⟨t, (hB.block b hb).trans h⟩
set_option maxRecDepth 100000 in
set_option maxHeartbeats 2000000 in
theorem ParseTree_i (s : List UInt8) (w : World) (hs : s.length ≤ 1048576) (hG : Gm w) (hE : Es w) :
    Calls Tryz.prog 7 #[.string ⟨(s).toArray⟩] w fun e w' => ∃ ra rc, e = .returned (.tuple #[.agg #[.slice ra (parL s).length rc], .bool (okI s)]) ∧ FilesO w' w.heap.size ra (parL s).length rc (parL s) ∧ X w w' := by
  obtain ⟨M, hM⟩ : ∃ M, (splitL 10 s).length = M + 1 := ⟨(splitL 10 s).length - 1, by have := List.length_pos_iff.2 (splitL_ne 10 s); omega⟩
  have hlen := splitL_length_le 10 s
  have hpc : ∀ x ∈ splitL 10 s, x.length ≤ 1048576 := fun x hx => Nat.le_trans (splitL_piece_le 10 s x hx) hs
  obtain ⟨T, hTd⟩ : ∃ T, foldI (splitL 10 s) M = T := ⟨_, rfl⟩
  have hpar : parseI s = T := by rw [parseI_fold, hM, ← hTd]; rfl
  have okT : OkL T := by rw [← hTd]; exact sh_okL (foldI_sh hpc M (by omega)) (foldI_bd _ M (by omega)) (by omega)
  have hbds : ∀ k, k ≤ M → BdL (foldI (splitL 10 s) k) k := fun k hk => foldI_bd _ k (by omega)
  have hnx : ∀ k, k < M → foldI (splitL 10 s) (k + 1) = rdI (foldI (splitL 10 s) k) (splitL 32 (nth (splitL 10 s) k)) := fun k hk => foldI_next (by omega)
  obtain ⟨V, hV⟩ : ∃ V, parL s = V := ⟨_, rfl⟩
  obtain ⟨ok, hok⟩ : ∃ ok, okI s = ok := ⟨_, rfl⟩
  rw [hV, hok]
  have hMs : M ≤ 1048576 := by omega
  have HM := Lib.hid hM
  have HV := Lib.hid hV
  have HB := Lib.hid hok
  have HT := Lib.hid hTd
  have HP := Lib.hid hpar
  have Hbd := Lib.hid hbds
  have Hnx := Lib.hid hnx
  have Hpc := Lib.hid hpc
  clear hM hV hok hTd hpar hbds hnx hlen hpc
  go_enter Tryz.func7, Tryz.ntmps7
  go_wp2_with fail
  refine calls_name (fun W0 hW0 => ?_)
  have hX0 : X w W0 := by rw [hW0]; (repeat (first | with_reducible exact X.refl _ | with_reducible assumption | with_reducible refine X.setCell ?_ (by first | (simp; done) | (simp; omega)) _ | with_reducible refine X.ext ?_ _ | with_reducible refine X.alloc ?_ _ | with_reducible refine X.drew ?_))
  have hR0 : Bx W0 w.heap.size #[.slice none 0 0] := by
    rw [hW0]
    exact (Bx.new w #[.slice none 0 0] _).x (by (repeat (first | with_reducible exact X.refl _ | with_reducible assumption | with_reducible refine X.setCell ?_ (by first | (simp; done) | (simp; omega)) _ | with_reducible refine X.ext ?_ _ | with_reducible refine X.alloc ?_ _ | with_reducible refine X.drew ?_)))
  have hTb : W0.heap[w.heap.size + 2]? = some (.cells #[.slice (some ⟨w.heap.size + 1, 0, none⟩) 0 0] 24 (0, 0)) := by
    rw [hW0]
    have := heap_alloc_new ((w.alloc (.cells #[.slice none 0 0] 24)).alloc (.cells #[] 36)) (.cells #[.slice (some ⟨w.heap.size + 1, 0, none⟩) 0 0] 24)
    simpa using this
  have hrow0 : W0.ownsRow (w.heap.size + 1) 36 6 (.slice (some ⟨w.heap.size + 1, 0, none⟩) 0 0) 0 [] := by
    rw [hW0]
    exact own_fr (own_lit (w := w.alloc (.cells #[.slice none 0 0] 24)) (cs := #[]) (e := 36) (B := w.heap.size + 1) (g := w.heap.size + 1) (size := 6) (n := 0) (by simp) (by simp) rfl (by omega)) (X.fr (by (repeat (first | with_reducible exact X.refl _ | with_reducible assumption | with_reducible refine X.setCell ?_ (by first | (simp; done) | (simp; omega)) _ | with_reducible refine X.ext ?_ _ | with_reducible refine X.alloc ?_ _ | with_reducible refine X.drew ?_))) _)
  have hz0 : w.heap.size + 2 < W0.heap.size := (Array.getElem?_eq_some_iff.1 hTb).1
  clear hW0
  refine (Split_c s 10 W0 (by omega) (hG.mono hX0)).mono ?_
  rintro _ w1 ⟨la, lc, rfl, hrowL, hx1⟩
  have hSL := StrsAt.of_own hrowL (by rw [HM.out]; omega) (fun p hp => Nat.le_trans (Hpc.out p hp) (by omega))
  rw [HM.out] at hrowL hSL ⊢
  have hcl := own_cap hrowL
  have hX1 := hX0.trans hx1
  have hT1 := at_x6 hTb hx1
  have hz1 := hx1.size
  have hR1 := hR0.x hx1
  have hrow1 := own_fr hrow0 (hx1.fr _)
  clear hTb hR0 hrow0 hx1
  go_wp2
  go_loopw [7, 18] (fun _ i wr => ∃ (k : Nat) (vs : List (Fi × Value)) (g c : Nat), k ≤ M ∧ i = .int .i64 k ∧ vs.map (·.1) = foldI (splitL 10 s) k ∧ wr.heap[w.heap.size + 2]? = some (.cells #[.slice (some ⟨g, 0, none⟩) vs.length c] 24 (0, 0)) ∧
      FilesV wr (w.heap.size + 1) (some ⟨g, 0, none⟩) c vs ∧ Kt (w.heap.size + 2) w1 wr ∧ Below (w.heap.size + 1) w1 wr) (fun _ i _ => M - (intOf i).toNat)
  case atStart => exact ⟨0, [], w.heap.size + 1, 0, Nat.zero_le _, rfl, rfl, hT1, ⟨hrow1, List.Pairwise.nil, fun _ h => by cases h⟩, Kt.refl _ _, Below.refl _ _⟩
  case round =>
    obtain ⟨k, vs, g, c, hk, rfl, hvs, hT, hV, hK, hBl⟩ := hrel
    have hXr : X w wr := hX1.trans' hBl
    by_cases hlt : k < M
    · have hSr := strs_kt hrowL hSL hT1 hK
      obtain ⟨b, off, rfl, _, hb, hc, hf⟩ := hSr.at_ (k := k) (by omega)
      have hbv := Hbd.out k hk
      rw [← hvs] at hbv
      have Hvs := Lib.hid hvs
      have Hbv := Lib.hid hbv
      have HVV := Lib.hid hV
      clear hvs hbv hV
      go_wp2_with fail
      refine (Split_c (nth (splitL 10 s) k) 32 wr hf (hG.mono hXr)).mono ?_
      rintro _ w3 ⟨sa, sc, rfl, hrowS, hx3⟩
      have hSS := StrsAt.of_own hrowS (by have := splitL_length_le 32 (nth (splitL 10 s) k); omega) (fun p hp => Nat.le_trans (splitL_piece_le 32 _ p hp) hf)
      have hsc := own_cap hrowS
      have hz3 := hx3.size
      clear hrowS
      go_wp2_with fail
      refine (readLine_c (splitL 32 (nth (splitL 10 s) k)) sa _ sc (w.heap.size + 2) (w.heap.size + 1) g c vs w3 (hSS.less (Nat.zero_le _)) hsc (hE.mono (hXr.trans hx3)) (at_x6 hT hx3) (HVV.out.fr (hx3.fr _)) (by omega) (by have := Hbv.out.1; rw [List.length_map] at this; omega) (fun x hx => by have := Hbv.out.2 x.1 (List.mem_map.2 ⟨x, hx, rfl⟩); omega)).mono ?_
      rintro _ w4 ⟨rfl, g', c', vs', hT', hV', hvs', hK', hB'⟩
      have hvs2 : vs'.map (·.1) = foldI (splitL 10 s) (k + 1) := by rw [hvs', Hnx.out k hlt, Hvs.out]
      have hB2 : Below (w.heap.size + 1) w1 w4 := (hBl.trans (below_to hx3.below (by have := hBl.size; omega))).trans hB'
      have hK2 := (hK.trans (Kt.x hx3)).trans hK'
      clear hvs'
      go_wp2
      go_roundw
      case rel => exact ⟨k + 1, vs', g', c', by omega, by go_num, hvs2, hT', hV', hK2, hB2⟩
      case measure => simp [intOf]; omega
    · obtain rfl : k = M := by omega
      have hO : FilesO wr (w.heap.size + 1) (some ⟨g, 0, none⟩) vs.length c T := by rw [← HT.out, ← hvs]; exact hV.o
      have hA := hO.at okT
      have hnc := own_cap hV.1
      have hTl : vs.length = T.length := by rw [← HT.out, ← hvs, List.length_map]
      have hRr : Bx wr w.heap.size #[.slice none 0 0] := hR1.below hBl (by omega)
      clear hV hvs hrowL hSL hR1 hrow1
      generalize vs.length = N at *
      have HTl := Lib.hid hTl
      clear hTl
      obtain ⟨lt5, ct5, _⟩ := Bx.out ⟨_, hT⟩
      have e0 := ct5 0
      clear ct5
      cases h1 : treeB T
      · obtain rfl : ok = false := by rw [← HB.out, okI, HP.out, h1]; rfl
        obtain rfl : V = [] := by rw [← HV.out, parL, HB.out]; rfl
        go_wp2_with (go_at_call 14; refine (ValidTree_c T _ N c _ wr hA hnc (hG.mono hXr)).mono ?_; rintro _ w6 ⟨rfl, hx6⟩; rw [h1]; obtain ⟨lr, cr, fr⟩ := (hRr.x hx6).out; have r0 := cr 0; clear cr)
        have hRf := (Bx.set (hRr.x hx6) 0 (.slice none 0 0)).out.2.1 0
        refine bodyPost_ret (v := .tuple #[.agg #[.slice none 0 0], .bool false]) (by simp [results, Tryz.results7, go_sem, hRf]) rfl ?_
        exact ⟨none, 0, rfl, FilesO.nil _ _, X.setCell (hXr.trans hx6) (by first | (simp; done) | (simp; omega)) _⟩
      · obtain ⟨D, hD⟩ : ∃ D, fmtV T = D := ⟨_, rfl⟩
        have hD2 : fmtT T = D := by rw [← hD, fmtV, if_pos h1]
        have HD := Lib.hid hD
        clear hD
        cases h2 : D == s
        · obtain rfl : ok = false := by rw [← HB.out, okI, HP.out, h1, hD2, h2]; rfl
          obtain rfl : V = [] := by rw [← HV.out, parL, HB.out]; rfl
          have HD2 := Lib.hid hD2
          clear hD2
          go_wp2_with (first
            | (go_at_call 14; refine (ValidTree_c T _ N c _ wr hA hnc (hG.mono hXr)).mono ?_; rintro _ w6 ⟨rfl, hx6⟩; rw [h1]; have e6 := (hx6.cell (p := ⟨w.heap.size + 2, 0, none⟩) lt5).trans e0; have l6 := Nat.lt_of_lt_of_le lt5 hx6.size)
            | (go_at_call 12; refine (FormatTree_i T _ N c _ _ (hA.mono (hx6.fr _)) hnc (hG.mono (hXr.trans hx6))).mono ?_; rw [HD.out]; rintro _ w7 ⟨rfl, hx7⟩; obtain ⟨lr, cr, fr⟩ := (hRr.x (hx6.trans hx7)).out; have r0 := cr 0; clear cr))
          have hRf := (Bx.set (hRr.x (hx6.trans hx7)) 0 (.slice none 0 0)).out.2.1 0
          refine bodyPost_ret (v := .tuple #[.agg #[.slice none 0 0], .bool false]) (by simp [results, Tryz.results7, go_sem, hRf]) rfl ?_
          exact ⟨none, 0, rfl, FilesO.nil _ _, X.setCell (hXr.trans (hx6.trans hx7)) (by first | (simp; done) | (simp; omega)) _⟩
        · obtain rfl : ok = true := by rw [← HB.out, okI, HP.out, h1, hD2, h2]; rfl
          obtain rfl : V = T := by rw [← HV.out, parL, HB.out, HP.out]; rfl
          have HD2 := Lib.hid hD2
          clear hD2
          go_wp2_with (first
            | (go_at_call 14; refine (ValidTree_c V _ N c _ wr hA hnc (hG.mono hXr)).mono ?_; rintro _ w6 ⟨rfl, hx6⟩; rw [h1]; have e6 := (hx6.cell (p := ⟨w.heap.size + 2, 0, none⟩) lt5).trans e0; have l6 := Nat.lt_of_lt_of_le lt5 hx6.size)
            | (go_at_call 12; refine (FormatTree_i V _ N c _ _ (hA.mono (hx6.fr _)) hnc (hG.mono (hXr.trans hx6))).mono ?_; rw [HD.out]; rintro _ w7 ⟨rfl, hx7⟩; obtain ⟨lr, cr, fr⟩ := (hRr.x (hx6.trans hx7)).out; have r0 := cr 0; clear cr; have e7 := (hx7.cell (p := ⟨w.heap.size + 2, 0, none⟩) l6).trans e6; have l7 := Nat.lt_of_lt_of_le l6 hx7.size))
          have hRf := (Bx.set (hRr.x (hx6.trans hx7)) 0 (.slice (some ⟨g, 0, none⟩) N c)).out.2.1 0
          refine bodyPost_ret (v := .tuple #[.agg #[.slice (some ⟨g, 0, none⟩) N c], .bool true]) (by simp [results, Tryz.results7, go_sem, hRf]) rfl ?_
          refine ⟨some ⟨g, 0, none⟩, c, by rw [← HTl.out], ?_, X.setCell (hXr.trans (hx6.trans hx7)) (by first | (simp; done) | (simp; omega)) _⟩
          rw [← HTl.out]
          exact ((hO.fr (X.fr (hx6.trans hx7) _)).fr (Fr.set (Fr.refl _ _) (.inr (by first | (simp; done) | (simp; omega))) _)).less (by omega)

end Go.Proofs.YtmhcmabiolaoaaaGreatDoor
