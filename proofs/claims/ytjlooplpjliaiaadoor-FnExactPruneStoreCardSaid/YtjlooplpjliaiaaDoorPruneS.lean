/- PruneStore of the reference: the walk. No condition but lengths. -/
import Derived.Test.YtjlooplpjliaiaaDoorPrune
namespace Go.Proofs.YtjlooplpjliaiaaDoor
open Go.RowKit

theorem Sl.one8 {w : World} {B b o : Nat} {x : Co × Value} (hB : B ≤ b) (hb : b < w.heap.size) (h : ∀ j (hj : j < 8), w.cell? ⟨b, o + j, none⟩ = some ((ccells x)[j]'hj)) : Sl w B (some ⟨b, o, none⟩) 1 ([x].flatMap ccells) := fun _ =>
  ⟨b, o, rfl, hB, hb, fun i hi => by
    have hi8 : i < 8 := by simpa [ccells] using hi
    rw [h i hi8]
    congr 1⟩
theorem CosAt.one {w : World} {B b o : Nat} {c : Co} {ba : Option Addr} {bn bc : Nat} (hB : B ≤ b) (hb : b < w.heap.size) (hm : c.mod.length ≤ 4194304) (hbc : bn ≤ bc) (hS : StmtsAt w B ba bn c.body)
    (h0 : w.cell? ⟨b, o, none⟩ = some (.int .i64 c.root)) (h1 : w.cell? ⟨b, o + 1, none⟩ = some (.string ⟨(c.mod).toArray⟩)) (h2 : w.cell? ⟨b, o + 2, none⟩ = some (.bool c.init)) (h3 : w.cell? ⟨b, o + 3, none⟩ = some (.int .i64 c.mode)) (h4 : w.cell? ⟨b, o + 4, none⟩ = some (.int .i64 c.stamp))
    (h5 : w.cell? ⟨b, o + 5, none⟩ = some (.int .i64 c.size)) (h6 : w.cell? ⟨b, o + 6, none⟩ = some (.int .i64 c.hash)) (h7 : w.cell? ⟨b, o + 7, none⟩ = some (.slice ba bn bc)) : CosAt w B (some ⟨b, o, none⟩) 1 [c] := by
  refine ⟨[(c, .slice ba bn bc)], rfl, rfl, by omega, (fun x hx => by rw [List.mem_singleton.1 hx]; exact hm), Sl.one8 hB hb ?_, fun x hx => ?_⟩
  · intro j hj
    match j, hj with
    | 0, _ => exact h0
    | 1, _ => exact h1
    | 2, _ => exact h2
    | 3, _ => exact h3
    | 4, _ => exact h4
    | 5, _ => exact h5
    | 6, _ => exact h6
    | 7, _ => exact h7
  · rw [List.mem_singleton.1 hx]
    exact ⟨ba, bn, bc, rfl, hbc, hS⟩
theorem metB_next {t : List Fi} {c : Co} {k : Nat} : metB t c (k + 1) = (metB t c k || samePl (nth t k) c) := anyN_succ

set_option maxRecDepth 100000 in
set_option maxHeartbeats 4000000 in
theorem PruneStore_s (l : List Co) (a : Option Addr) (n c B : Nat) (t : List Fi) (ta : Option Addr) (tn tc B2 : Nat) (w : World) (hD : CosAt w B a n l) (hF : FilesAt w B2 ta tn t) (hnc : n ≤ c) :
    Calls Tryd.prog 27 #[.slice a n c, .agg #[.slice ta tn tc]] w fun e w' => ∃ ra rc, e = .returned (.slice ra (pruneL l t).length rc) ∧ CosO w' w.heap.size ra (pruneL l t).length rc (pruneL l t) ∧ X w w' := by
  obtain ⟨hl, hn⟩ := hD.len
  have Hl := Lib.hid hl
  have htn := hF.len.2
  have Htl := Lib.hid hF.len.1
  cases q1 : storeB l <;> cases q2 : treeB t
  case true.true =>
    rw [show pruneL l t = pruneN l t n by rw [pruneL, q1, q2, hl]; rfl]
    clear hl
    go_enter Tryd.func27, Tryd.ntmps27
    go_wp2_with fail
    refine calls_name (fun W0 hW0 => ?_)
    have hT0 : Bx W0 w.heap.size #[.slice ta tn tc] := by rw [hW0]; exact Bx.new _ _ _
    have hX0 : X w W0 := by rw [hW0]; (repeat (first | with_reducible exact X.refl _ | with_reducible assumption | with_reducible refine X.setCell ?_ (by first | (simp; done) | (simp; omega)) _ | with_reducible refine X.ext ?_ _ | with_reducible refine X.alloc ?_ _ | with_reducible refine X.drew ?_))
    clear hW0
    refine (validStore_c l a n c B W0 (hD.mono (hX0.fr _))).mono ?_
    rintro _ w1 ⟨rfl, hx1⟩
    rw [q1]
    obtain ⟨lt2, ct2, _⟩ := (hT0.x hx1).out
    have t0 := ct2 0
    clear ct2
    go_wp2_with fail
    refine (validTree_c t ta tn tc B2 w1 (hF.mono (X.fr (hX0.trans hx1) _))).mono ?_
    rintro _ w2 ⟨rfl, hx2⟩
    rw [q2]
    clear t0 lt2
    have hT2 := (hT0.x hx1).x hx2
    have hXw := (hX0.trans hx1).trans hx2
    clear hx1 hx2 hX0 hT0
    go_wp2
    refine wp_name (fun W2 hW2 => ?_)
    have hrow2 : W2.ownsRow (w.heap.size + 1) 65 8 (.slice (some ⟨w2.heap.size, 0, none⟩) 0 0) 0 [] := by
      rw [hW2]
      exact own_lit (w := w2) (cs := #[]) (e := 65) (B := w.heap.size + 1) (g := w2.heap.size) (size := 8) (n := 0) rfl hT2.lt rfl (by omega)
    have hX2 : X w2 W2 := by rw [hW2]; (repeat (first | with_reducible exact X.refl _ | with_reducible assumption | with_reducible refine X.setCell ?_ (by first | (simp; done) | (simp; omega)) _ | with_reducible refine X.ext ?_ _ | with_reducible refine X.alloc ?_ _ | with_reducible refine X.drew ?_))
    clear hW2
    have hT := hT2.x hX2
    replace hXw := hXw.trans hX2
    clear hT2 hX2
    go_loopw [5, 6] (fun v i wr => ∃ (k : Nat) (vs : List (Co × Value)) (ra : Option Addr) (rc : Nat), k ≤ n ∧ i = .int .i64 k ∧ v = .slice ra vs.length rc ∧ vs.map (·.1) = pruneN l t k ∧ wr.ownsRow (w.heap.size + 1) 65 8 (.slice ra vs.length rc) vs.length (vs.flatMap ccells) ∧ SepC vs ∧
      (∀ x ∈ vs, BodyC wr (w.heap.size + 1) x) ∧ X w wr ∧ Bx wr w.heap.size #[.slice ta tn tc]) (fun _ i _ => n - (intOf i).toNat)
    case atStart => exact ⟨0, [], _, _, Nat.zero_le _, rfl, rfl, rfl, hrow2, List.Pairwise.nil, (fun _ h => by cases h), hXw, hT⟩
    case round =>
      obtain ⟨k, vs, ra, rc, hk, rfl, rfl, hvs, hrow, hsep, hbd, hX, hT⟩ := hrel
      clear hXw hrow2
      have hsz : w.heap.size + 1 ≤ wr.heap.size := hT.lt
      have hvl : vs.length ≤ 2097152 := by have := congrArg List.length hvs; rw [List.length_map] at this; have := @pruneN_len l t k; omega
      have Hv := Lib.hid (And.intro hvs (And.intro hsep hbd))
      clear hvs hsep hbd
      obtain ⟨ltT, cT, _⟩ := hT.out
      have z0 := cT 0
      clear cT
      by_cases hlt : k < n
      · obtain ⟨b, off, ba, bn, bc, rfl, hBb, hb, hok, hbc, hSb, g0, g1, g2, g3, g4, g5, g6, g7⟩ := (hD.mono (hX.fr _)).at_ hlt
        have hk1 : (k : Int) < (n : Int) := by omega
        have Hn := Lib.hid (@pruneN_next l t k (by rw [← Hl.out]; exact hlt))
        generalize nth l k = cf at *
        go_wp2
        obtain ⟨wo, rfl⟩ : ∃ wo, wo = wr := ⟨_, rfl⟩
        go_loopw [7, 8] (fun m j wr => ∃ q : Nat, q ≤ tn ∧ j = .int .i64 q ∧ m = .bool (metB t cf q) ∧ X wo wr) (fun _ j _ => tn - (intOf j).toNat)
        case atStart => exact ⟨0, Nat.zero_le _, rfl, rfl, X.refl _⟩
        case round =>
          obtain ⟨q, hq, rfl, rfl, hXs⟩ := hrel
          obtain ⟨ltS, cS, _⟩ := (hT.x hXs).out
          have y0 := cS 0
          clear cS
          by_cases hqt : q < tn
          · obtain ⟨fb, foff, fa, fn, fc, rfl, _, hfb0, hfok, hfbc, hSf, h0, h1, h2, h3, h4, h5⟩ := (hF.mono (X.fr (hX.trans hXs) _)).at_ hqt
            have Hm := Lib.hid (@metB_next t cf q)
            generalize nth t q = f at *
            go_wp2
            refine wp_name (fun W3 hW3 => ?_)
            have hB3 : Bx W3 wr.heap.size #[.int .i64 f.root, .string ⟨(f.pkg).toArray⟩, .string ⟨(f.name).toArray⟩, .bool f.init, .int .i64 f.stamp, .slice fa fn fc] := by rw [hW3]; exact Bx.new _ _ _
            have hX3 : X wr W3 := by rw [hW3]; (repeat (first | with_reducible exact X.refl _ | with_reducible assumption | with_reducible refine X.setCell ?_ (by first | (simp; done) | (simp; omega)) _ | with_reducible refine X.ext ?_ _ | with_reducible refine X.alloc ?_ _ | with_reducible refine X.drew ?_))
            clear hW3
            obtain ⟨t0, t1, t2, t3, t4, t5⟩ := keepT hB3
            have hlT := hB3.lt
            have hXs3 := hXs.trans hX3
            have hb3 : b < W3.heap.size := Nat.lt_of_lt_of_le hb hXs3.size
            have u0 := (hXs3.cell (p := ⟨b, off + k * 8, none⟩) hb).trans g0
            have u1 := (hXs3.cell (p := ⟨b, off + k * 8 + 1, none⟩) hb).trans g1
            have u2 := (hXs3.cell (p := ⟨b, off + k * 8 + 2, none⟩) hb).trans g2
            cases hm : metB t cf q
            · cases c1 : f.root == cf.root <;> cases c2 : moduleB f == cf.mod <;> cases c3 : f.init == cf.init
              all_goals
                have He := Lib.hid (show metB t cf (q + 1) = _ by rw [Hm.out, hm, samePl, c1, c2, c3])
                refine wp_region_grow0 (by kernel_rfl) (by kernel_rfl) ?_
                repeat (go_big_quiet_step (((go_at_call 62; refine grow_of (moduleName_c f _ _ hfok)))))
                refine wpQuiet_nil ?_
                rintro _ ⟨y, rfl⟩
                go_wp2
                go_roundw
                case rel => exact ⟨q + 1, by omega, by go_num, by rw [He.out]; rfl, hXs3.trans (by (repeat (first | exact X.refl _ | assumption | refine X.ext ?_ _ | refine X.alloc ?_ _ | refine X.drew ?_)))⟩
                case measure => simp [intOf]; omega
            · have He := Lib.hid (show metB t cf (q + 1) = true by rw [Hm.out, hm]; rfl)
              refine wp_region_grow0 (by kernel_rfl) (by kernel_rfl) ?_
              repeat (go_big_quiet_step ((fail)))
              refine wpQuiet_nil ?_
              rintro _ ⟨y, rfl⟩
              go_wp2
              go_roundw
              case rel => exact ⟨q + 1, by omega, by go_num, by rw [He.out], hXs3.trans (by (repeat (first | exact X.refl _ | assumption | refine X.ext ?_ _ | refine X.alloc ?_ _ | refine X.drew ?_)))⟩
              case measure => simp [intOf]; omega
          · obtain rfl : q = tn := by omega
            have hXr := hX.trans hXs
            have hTr := hT.x hXs
            have hrowr := own_fr hrow (hXs.fr _)
            have hszr : w.heap.size + 1 ≤ wr.heap.size := Nat.le_trans hsz hXs.size
            cases hd : metB t cf q
            · have He : pruneN l t (k + 1) = pruneN l t k := by rw [Hn.out, ← Htl.out, hd]; rfl
              have He := Lib.hid He
              go_wp2
              go_roundw
              case rel => exact ⟨k + 1, vs, ra, rc, by omega, by go_num, rfl, by rw [He.out, Hv.out.1], hrowr, Hv.out.2.1, (fun x hx => (Hv.out.2.2 x hx).fr (hXs.fr _)), hXr, hTr⟩
              case measure => simp [intOf]; omega
            · have He : pruneN l t (k + 1) = pruneN l t k ++ [cf] := by rw [Hn.out, ← Htl.out, hd]; rfl
              have He := Lib.hid He
              have hck : ¬ c = k := by omega
              have hbr : b < wr.heap.size := Nat.lt_of_lt_of_le hb hXs.size
              have hC1 : CosAt wr B (some ⟨b, off + k * 8, none⟩) 1 [cf] := CosAt.one hBb hbr hok hbc (hSb.mono (hXs.fr _)) ((hXs.cell (p := ⟨b, off + k * 8, none⟩) hb).trans g0) ((hXs.cell (p := ⟨b, off + k * 8 + 1, none⟩) hb).trans g1) ((hXs.cell (p := ⟨b, off + k * 8 + 2, none⟩) hb).trans g2) ((hXs.cell (p := ⟨b, off + k * 8 + 3, none⟩) hb).trans g3) ((hXs.cell (p := ⟨b, off + k * 8 + 4, none⟩) hb).trans g4) ((hXs.cell (p := ⟨b, off + k * 8 + 5, none⟩) hb).trans g5) ((hXs.cell (p := ⟨b, off + k * 8 + 6, none⟩) hb).trans g6) ((hXs.cell (p := ⟨b, off + k * 8 + 7, none⟩) hb).trans g7)
              go_wp2_with fail
              refine (copyStore_c [cf] (some ⟨b, off + k * 8, none⟩) 1 (c - k) B wr hC1).mono ?_
              rintro _ w5 ⟨ra5, rc5, rfl, ⟨zs, hz, hz1, hrow5, hsep5, hbd5⟩, hx5⟩
              obtain ⟨x, rfl⟩ : ∃ x, zs = [x] := by
                match zs, hz with
                | [x], _ => exact ⟨x, rfl⟩
              have hxc : x.1 = cf := by simpa using hz.symm
              have hbx := hbd5 x (List.mem_singleton.2 rfl)
              have hone : ∀ u ∈ [x].flatMap ccells, u.oneCell' = true := by
                obtain ⟨xa, xc, e, _⟩ := hbx
                intro u hu
                simp only [List.flatMap_cons, List.flatMap_nil, List.append_nil, ccells, List.mem_cons, List.not_mem_nil, or_false, e] at hu
                rcases hu with rfl | rfl | rfl | rfl | rfl | rfl | rfl | rfl <;> rfl
              have hrow6 := own_fr hrowr (hx5.fr _)
              have hsz5 : w.heap.size + 1 ≤ w5.heap.size := Nat.le_trans hszr hx5.size
              clear hz hz1 hsep5 hbd5
              go_wp2_with (at_builtin; refine wpList_append_sl co_T rfl _ _ rfl hrow6 rfl rfl (Sl.of_own hrow5) rfl hone (by omega) (by unfold maxLen; omega) hsz5 ?_; intro a' c' w' hrow' hg')
              have hXw' : X w w' := X.of_below (((hXr.trans hx5).below).grown hg' (X.size (hXr.trans hx5)) (fun g hg => by have := (hrow6.lt g hg).1; omega))
              have hT' := (hTr.x hx5).grown hg' (fun g hg => by have := (hrow6.lt g hg).1; omega)
              go_roundw
              case rel => exact ⟨k + 1, vs ++ [x], a', c', by omega, by go_num, by rw [List.length_append]; rfl, by rw [List.map_append, Hv.out.1, He.out, ← hxc]; rfl, by
                  rw [List.length_append, List.flatMap_append]
                  exact hrow', sepC_snoc (E := wr.heap.size) Hv.out.2.1 (bodyC_lt (fun y hy => (Hv.out.2.2 y hy).fr (hXs.fr _))) (fun b hb => by
                    obtain ⟨xa, xc, e, ho⟩ := hbx
                    rw [e] at hb
                    exact (ho.lt b hb).1), fun y hy => by
                  have hy5 : BodyC w5 (w.heap.size + 1) y := by
                    rcases List.mem_append.1 hy with hy | hy
                    · exact (Hv.out.2.2 y hy).fr (X.fr (hXs.trans hx5) _)
                    · rw [List.mem_singleton.1 hy]
                      exact hbx.less hszr
                  refine hy5.kept hg' ?_
                  obtain ⟨ya, yc, e, ho⟩ := hy5
                  rw [e]
                  exact row_ne ho hrow6 (by decide), hXw', hT'⟩
              case measure => simp [intOf]; omega
      · obtain rfl : k = n := by omega
        go_wp2
        go_ret
        have hvl2 : vs.length = (pruneN l t k).length := by rw [← Hv.out.1, List.length_map]
        rw [← hvl2]
        have hFO : CosO wr (w.heap.size + 1) ra vs.length rc (pruneN l t k) := ⟨vs, Hv.out.1.symm, hvl2, hrow, Hv.out.2.1, Hv.out.2.2⟩
        exact ⟨ra, rc, rfl, hFO.less (by omega), hX⟩
  all_goals
    rw [show pruneL l t = [] by rw [pruneL, q1, q2]; rfl]
    clear hl
    go_enter Tryd.func27, Tryd.ntmps27
    go_wp2_with fail
    refine calls_name (fun W0 hW0 => ?_)
    have hT0 : Bx W0 w.heap.size #[.slice ta tn tc] := by rw [hW0]; exact Bx.new _ _ _
    have hX0 : X w W0 := by rw [hW0]; (repeat (first | with_reducible exact X.refl _ | with_reducible assumption | with_reducible refine X.setCell ?_ (by first | (simp; done) | (simp; omega)) _ | with_reducible refine X.ext ?_ _ | with_reducible refine X.alloc ?_ _ | with_reducible refine X.drew ?_))
    clear hW0
    refine (validStore_c l a n c B W0 (hD.mono (hX0.fr _))).mono ?_
    rintro _ w1 ⟨rfl, hx1⟩
    rw [q1]
    obtain ⟨lt2, ct2, _⟩ := (hT0.x hx1).out
    have t0 := ct2 0
    clear ct2
    have hXw := hX0.trans hx1
    go_wp2_with (go_at_call 35; refine (validTree_c t ta tn tc B2 w1 (hF.mono (X.fr hXw _))).mono ?_; rintro _ w2 ⟨rfl, hx2⟩; rw [q2]; replace hXw := hXw.trans hx2)
    go_ret
    exact ⟨none, 0, rfl, CosO.nil ⟨rfl, .inl ⟨rfl, rfl⟩⟩, hXw⟩

end Go.Proofs.YtjlooplpjliaiaaDoor
