/- PruneStore of the program: the walk. No condition but lengths. -/
import Derived.Test.YtjlooplpjliaiaaDoorLoadI
namespace Go.Proofs.YtjlooplpjliaiaaDoor
open Go.RowKit

def samePl (f : Fi) (c : Co) : Bool := f.root == c.root && moduleB f == c.mod && f.init == c.init
def metB (t : List Fi) (c : Co) (n : Nat) : Bool := anyN (fun j => samePl (nth t j) c) n
def pruneN (l : List Co) (t : List Fi) (k : Nat) : List Co := (l.take k).filter (fun c => metB t c t.length)
def pruneL (l : List Co) (t : List Fi) : List Co := if storeB l && treeB t then pruneN l t l.length else []
theorem pruneN_next {l : List Co} {t : List Fi} {k : Nat} (hk : k < l.length) : pruneN l t (k + 1) = if metB t (nth l k) t.length then pruneN l t k ++ [nth l k] else pruneN l t k := by
  rw [pruneN, take_succ_nth hk, List.filter_append]
  cases h : metB t (nth l k) t.length <;> simp [h, pruneN]
theorem pruneN_sub {l : List Co} {t : List Fi} {k : Nat} : ∀ x ∈ pruneN l t k, x ∈ l := fun _ hx => List.mem_of_mem_take (List.mem_filter.1 hx).1
theorem pruneN_len {l : List Co} {t : List Fi} {k : Nat} : (pruneN l t k).length ≤ k := Nat.le_trans (List.length_filter_le _ _) (by rw [List.length_take]; omega)
theorem wtC_filter (p : Co → Bool) : ∀ l : List Co, wtC (l.filter p) ≤ wtC l
  | [] => by simp [wtC]
  | c :: l => by
    have := wtC_filter p l
    rw [List.filter_cons]
    split <;> simp only [wtC] <;> omega
theorem pruneL_len (l : List Co) (t : List Fi) : (pruneL l t).length ≤ l.length := by
  unfold pruneL
  split
  · exact pruneN_len
  · simp
theorem pruneL_wt (l : List Co) (t : List Fi) : wtC (pruneL l t) ≤ wtC l := by
  unfold pruneL
  split
  · exact Nat.le_trans (wtC_filter _ _) (wtC_take _ _)
  · simp [wtC]
theorem pruneL_ok {l : List Co} {t : List Fi} (h : OkC l) : OkC (pruneL l t) := by
  refine ⟨Nat.le_trans (pruneL_len l t) h.1, fun c hc => ?_⟩
  unfold pruneL at hc
  split at hc
  · exact h.2 c (pruneN_sub c hc)
  · cases hc

theorem coKeep {cb : Nat} {c : Co} {bv : Value} {w : World} (hT : Bx w cb #[.int .i64 c.root, .string ⟨(c.mod).toArray⟩, .bool c.init, .int .i64 c.mode, .int .i64 c.stamp, .int .i64 c.size, .int .i64 c.hash, bv]) :
    w.cell? ⟨cb, 0, none⟩ = some (.int .i64 c.root) ∧ w.cell? ⟨cb, 1, none⟩ = some (.string ⟨(c.mod).toArray⟩) ∧ w.cell? ⟨cb, 2, none⟩ = some (.bool c.init) ∧ w.cell? ⟨cb, 3, none⟩ = some (.int .i64 c.mode) ∧ w.cell? ⟨cb, 4, none⟩ = some (.int .i64 c.stamp) ∧ w.cell? ⟨cb, 5, none⟩ = some (.int .i64 c.size) ∧ w.cell? ⟨cb, 6, none⟩ = some (.int .i64 c.hash) ∧ w.cell? ⟨cb, 7, none⟩ = some bv := by
  obtain ⟨_, hc, _⟩ := hT.out
  exact ⟨hc 0, hc 1, hc 2, hc 3, hc 4, hc 5, hc 6, hc 7⟩

set_option maxRecDepth 100000 in
set_option maxHeartbeats 2000000 in
theorem prune1_c (f : Fi) (ba : Option Addr) (bn bc B : Nat) (c : Co) (bv : Value) (cb : Nat) (w : World) (hf : Okf f) (hS : StmtsAt w B ba bn f.body) (hfb : fileB f = true) (hC : Bx w cb #[.int .i64 c.root, .string ⟨(c.mod).toArray⟩, .bool c.init, .int .i64 c.mode, .int .i64 c.stamp, .int .i64 c.size, .int .i64 c.hash, bv]) (hG : Gm w) :
    Calls Tryd.prog 64 #[.agg #[.int .i64 (f).root, .string ⟨(f).pkg.toArray⟩, .string ⟨(f).name.toArray⟩, .bool (f).init, .int .i64 (f).stamp, .slice ba bn bc], .pointer (some ⟨cb, 0, none⟩)] w fun e w' => e = .returned (.bool (samePl f c)) ∧ X w w' := by
  cases c1 : f.root == c.root <;> cases c2 : moduleB f == c.mod <;> cases c3 : f.init == c.init
  all_goals
    go_enter Tryd.func64, Tryd.ntmps64
    go_wp2
    refine wp_name (fun W hW => ?_)
    have hT : Bx W w.heap.size #[.int .i64 f.root, .string ⟨(f.pkg).toArray⟩, .string ⟨(f.name).toArray⟩, .bool f.init, .int .i64 f.stamp, .slice ba bn bc] := by rw [hW]; exact Bx.new _ _ _
    have hX0 : X w W := by rw [hW]; (repeat (first | with_reducible exact X.refl _ | with_reducible assumption | with_reducible refine X.setCell ?_ (by first | (simp; done) | (simp; omega)) _ | with_reducible refine X.ext ?_ _ | with_reducible refine X.alloc ?_ _ | with_reducible refine X.drew ?_))
    clear hW
    obtain ⟨t0, t1, t2, t3, t4, t5⟩ := keepT hT
    have hlT := hT.lt
    obtain ⟨u0, u1, u2, _, _, _, _, _⟩ := coKeep (hC.x hX0)
    have hlU := (hC.x hX0).lt
    refine wp_region_grow0 (by kernel_rfl) (by kernel_rfl) ?_
    repeat (go_big_quiet_step (((go_at_call 58; refine grow_of (moduleOf_ok hfb ba bn bc B _ hf (hS.mono (X.fr (hX0.trans (by (repeat (first | exact X.refl _ | assumption | refine X.ext ?_ _ | refine X.alloc ?_ _ | refine X.drew ?_)))) _)) (hG.mono (hX0.trans (by (repeat (first | exact X.refl _ | assumption | refine X.ext ?_ _ | refine X.alloc ?_ _ | refine X.drew ?_))))))))))
    refine wpQuiet_nil ?_
    rintro _ ⟨y, rfl⟩
    go_wp2
    go_ret
    exact ⟨by simp [samePl, c1, c2, c3], hX0.trans (by (repeat (first | exact X.refl _ | assumption | refine X.ext ?_ _ | refine X.alloc ?_ _ | refine X.drew ?_)))⟩

set_option maxRecDepth 100000 in
set_option maxHeartbeats 1000000 in
theorem IndexFuncP_c (t : List Fi) (a : Option Addr) (n c B : Nat) (d : Co) (bv : Value) (cb : Nat) (w : World) (hF : FilesAt w B a n t) (hv : treeB t = true) (hC : Bx w cb #[.int .i64 d.root, .string ⟨(d.mod).toArray⟩, .bool d.init, .int .i64 d.mode, .int .i64 d.stamp, .int .i64 d.size, .int .i64 d.hash, bv]) (hG : Gm w) :
    Calls Tryd.prog 90 #[.slice a n c, .func (.func 64) #[] #[.pointer (some ⟨cb, 0, none⟩)]] w fun e w' => e = .returned (.int .i64 (firstN (fun j => samePl (nth t j) d) n)) ∧ X w w' := by
  have hn := hF.len.2
  have Hl := Lib.hid hF.len.1
  go_enter Tryd.func90, Tryd.ntmps90
  go_wp2
  go_loopw [8] (fun i wr => ∃ k : Nat, k ≤ n ∧ i = .int .i64 k ∧ anyN (fun j => samePl (nth t j) d) k = false ∧ X w wr) (fun i _ => n - (intOf i).toNat)
  case atStart => exact ⟨0, by omega, rfl, rfl, X.refl _⟩
  case round =>
    obtain ⟨k, hk, rfl, hno, hX⟩ := hrel
    by_cases hlt : k < n
    · obtain ⟨b, off, ba, bn, bc, rfl, _, hb, hok, _, hS, g0, g1, g2, g3, g4, g5⟩ := (hF.mono (hX.fr _)).at_ (k := k) (by omega)
      have hfb := treeB_file hv (k := k) (by rw [← Hl.out]; exact hlt)
      cases hs : samePl (nth t k) d
      all_goals
        go_wp2_with (go_at_call 64; refine (prune1_c (nth t k) ba bn bc _ d bv cb _ hok hS hfb (hC.x hX) (hG.mono hX)).mono ?_; rintro _ w3 ⟨rfl, hx3⟩; rw [hs])
      · go_roundw
        case rel => exact ⟨k + 1, by omega, by go_num, anyN_next hno hs, hX.trans hx3⟩
        case measure => simp [intOf]; omega
      · go_ret
        exact ⟨ret_intC (firstN_some (p := fun j => samePl (nth t j) d) hno hs hlt).symm, hX.trans hx3⟩
    · obtain rfl : k = n := by omega
      go_wp2
      go_ret
      exact ⟨ret_intC (firstN_none (p := fun j => samePl (nth t j) d) hno).symm, hX⟩
set_option maxRecDepth 100000 in
set_option maxHeartbeats 1000000 in
theorem ContainsP_c (t : List Fi) (a : Option Addr) (n c B : Nat) (d : Co) (bv : Value) (cb : Nat) (w : World) (hF : FilesAt w B a n t) (hv : treeB t = true) (hC : Bx w cb #[.int .i64 d.root, .string ⟨(d.mod).toArray⟩, .bool d.init, .int .i64 d.mode, .int .i64 d.stamp, .int .i64 d.size, .int .i64 d.hash, bv]) (hG : Gm w) :
    Calls Tryd.prog 63 #[.slice a n c, .func (.func 64) #[] #[.pointer (some ⟨cb, 0, none⟩)]] w fun e w' => e = .returned (.bool (metB t d t.length)) ∧ X w w' := by
  have Hl := Lib.hid hF.len.1
  go_enter Tryd.func63, Tryd.ntmps63
  go_wp2_with fail
  refine (IndexFuncP_c t a n c B d bv cb w hF hv hC hG).mono ?_
  rintro _ w2 ⟨rfl, hx2⟩
  go_wp2
  go_ret
  refine ⟨?_, hx2⟩
  have h := @firstN_nonneg (fun j => samePl (nth t j) d) n
  rw [metB, ← Hl.out, Bool.eq_iff_iff.2 (show decide (0 ≤ firstN (fun j => samePl (nth t j) d) n) = true ↔ anyN (fun j => samePl (nth t j) d) n = true by rw [decide_eq_true_iff, h])]
  rfl

set_option maxRecDepth 100000 in
set_option maxHeartbeats 4000000 in
theorem PruneStore_i (l : List Co) (a : Option Addr) (n c B : Nat) (t : List Fi) (ta : Option Addr) (tn tc B2 : Nat) (w : World) (hD : CosAt w B a n l) (hF : FilesAt w B2 ta tn t) (htc : tn ≤ tc) (hG : Gm w) :
    Calls Tryd.prog 28 #[.slice a n c, .agg #[.slice ta tn tc]] w fun e w' => ∃ ra rc, e = .returned (.slice ra (pruneL l t).length rc) ∧ CosO w' w.heap.size ra (pruneL l t).length rc (pruneL l t) ∧ X w w' := by
  obtain ⟨hl, hn⟩ := hD.len
  have Hl := Lib.hid hl
  have hokC := hD.okC
  cases q1 : storeB l <;> cases q2 : treeB t
  case true.true =>
    rw [show pruneL l t = pruneN l t n by rw [pruneL, q1, q2, hl]; rfl]
    clear hl
    go_enter Tryd.func28, Tryd.ntmps28
    go_wp2_with fail
    refine calls_name (fun W0 hW0 => ?_)
    obtain ⟨hT0, hE0, hX0⟩ := bx2 hW0
    have hrow0 : W0.ownsRow (w.heap.size + 1) 65 8 (.slice (some ⟨w.heap.size + 1, 0, none⟩) 0 0) 0 [] := by
      rw [hW0]
      exact own_lit (w := w.alloc (.cells #[.slice ta tn tc] 30)) (cs := #[]) (e := 65) (B := w.heap.size + 1) (g := w.heap.size + 1) (size := 8) (n := 0) (by simp) (by simp) rfl (by omega)
    have hs0 : w.heap.size + 1 < W0.heap.size := hE0.lt
    clear hW0 hE0
    refine (ValidStore_c l a n c B W0 (hD.mono (hX0.fr _)) (hG.mono hX0)).mono ?_
    rintro _ w1 ⟨rfl, hx1⟩
    rw [q1]
    obtain ⟨lt2, ct2, _⟩ := (hT0.x hx1).out
    have t0 := ct2 0
    clear ct2
    go_wp2_with fail
    refine (ValidTree_c t ta tn tc B2 w1 (hF.mono (X.fr (hX0.trans hx1) _)) htc (hG.mono (hX0.trans hx1))).mono ?_
    rintro _ w2 ⟨rfl, hx2⟩
    rw [q2]
    clear t0 lt2
    have hT2 := (hT0.x hx1).x hx2
    have hXw := (hX0.trans hx1).trans hx2
    have hrow2 := own_fr hrow0 ((hx1.trans hx2).fr _)
    clear hx1 hx2 hX0 hrow0 hT0
    go_wp2
    go_loopw [5, 20] (fun v i wr => ∃ (k : Nat) (vs : List (Co × Value)) (ra : Option Addr) (rc : Nat), k ≤ n ∧ i = .int .i64 k ∧ v = .slice ra vs.length rc ∧ vs.map (·.1) = pruneN l t k ∧ wr.ownsRow (w.heap.size + 1) 65 8 (.slice ra vs.length rc) vs.length (vs.flatMap ccells) ∧
      (∀ x ∈ vs, ∃ ba bn bc, x.2 = .slice ba bn bc ∧ bn ≤ bc ∧ StmtsAt w B ba bn x.1.body) ∧ X w wr ∧ Bx wr w.heap.size #[.slice ta tn tc]) (fun _ i _ => n - (intOf i).toNat)
    case atStart => exact ⟨0, [], _, _, Nat.zero_le _, rfl, rfl, rfl, hrow2, (fun _ h => by cases h), hXw, hT2⟩
    case round =>
      obtain ⟨k, vs, ra, rc, hk, rfl, rfl, hvs, hrow, hbd, hX, hT⟩ := hrel
      clear hXw hrow2 hT2
      have hsz : w.heap.size + 1 ≤ wr.heap.size := hT.lt
      have hvl : vs.length ≤ 2097152 := by have := congrArg List.length hvs; rw [List.length_map] at this; have := @pruneN_len l t k; omega
      have Hv := Lib.hid (And.intro hvs hbd)
      clear hvs hbd
      obtain ⟨ltT, cT, _⟩ := hT.out
      have z0 := cT 0
      clear cT
      by_cases hlt : k < n
      · obtain ⟨b, off, ba, bn, bc, rfl, _, hb, hok, hbc, hSb, g0, g1, g2, g3, g4, g5, g6, g7⟩ := (hD.mono (hX.fr _)).at_ hlt
        have hS0 : StmtsAt w B ba bn (nth l k).body := by
          obtain ⟨b', off', ba', bn', bc', e, _, hb', _, hbc', hS', u0, _, _, _, _, _, _, u7⟩ := hD.at_ hlt
          injection e with e
          injection e with e1 e2
          subst e1 e2
          have := (hX.cell (p := ⟨b, off + k * 8 + 7, none⟩) hb').trans u7
          rw [g7] at this
          injection this with this
          injection this with h1 h2 h3
          rw [h1, h2]
          exact hS'
        have Hn := Lib.hid (@pruneN_next l t k (by rw [← Hl.out]; exact hlt))
        generalize nth l k = cf at *
        go_wp2_with fail
        refine calls_name (fun W3 hW3 => ?_)
        have hB3 : Bx W3 wr.heap.size #[.int .i64 cf.root, .string ⟨(cf.mod).toArray⟩, .bool cf.init, .int .i64 cf.mode, .int .i64 cf.stamp, .int .i64 cf.size, .int .i64 cf.hash, .slice ba bn bc] := by rw [hW3]; exact Bx.new _ _ _
        have hX3 : X wr W3 := by rw [hW3]; (repeat (first | with_reducible exact X.refl _ | with_reducible assumption | with_reducible refine X.setCell ?_ (by first | (simp; done) | (simp; omega)) _ | with_reducible refine X.ext ?_ _ | with_reducible refine X.alloc ?_ _ | with_reducible refine X.drew ?_))
        clear hW3
        refine (ContainsP_c t ta tn tc B2 cf (.slice ba bn bc) wr.heap.size W3 (hF.mono (X.fr (hX.trans hX3) _)) q2 hB3 (hG.mono (hX.trans hX3))).mono ?_
        rintro _ w4 ⟨rfl, hx4⟩
        have hX4 : X wr w4 := hX3.trans hx4
        obtain ⟨e0, e1, e2, e3, e4, e5, e6, e7⟩ := coKeep (hB3.x hx4)
        have hl4 := (hB3.x hx4).lt
        have hrow4 := own_fr hrow (hX4.fr _)
        have hsz4 : w.heap.size + 1 ≤ w4.heap.size := Nat.le_trans hsz hX4.size
        cases hd : metB t cf t.length
        · have He : pruneN l t (k + 1) = pruneN l t k := by rw [Hn.out, hd]; rfl
          have He := Lib.hid He
          go_wp2
          go_roundw
          case rel => exact ⟨k + 1, vs, ra, rc, by omega, by go_num, rfl, by rw [He.out, Hv.out.1], hrow4, Hv.out.2, hX.trans hX4, hT.x hX4⟩
          case measure => simp [intOf]; omega
        · have He : pruneN l t (k + 1) = pruneN l t k ++ [cf] := by rw [Hn.out, hd]; rfl
          have He := Lib.hid He
          go_wp2_with (at_builtin; refine wpList_append_g co_T rfl _ _ rfl hrow4 rfl rfl rfl rfl (by simp [Value.oneCell']) (by omega) (by omega) hsz4 ?_; intro a' c' w' hrow' hg')
          have hga : w4.grownBy w' (Value.slice ra vs.length rc).ownBlock := X.grown ((X.refl w4).alloc _) hg'
          have hXw' : X w w' := X.of_below (((hX.trans hX4).below).grown hga (X.size (hX.trans hX4)) (fun g hg => by have := (hrow4.lt g hg).1; omega))
          have hT' := (hT.x hX4).grown hga (fun g hg => by have := (hrow4.lt g hg).1; omega)
          go_roundw
          case rel => exact ⟨k + 1, vs ++ [(cf, .slice ba bn bc)], a', c', by omega, by go_num, by rw [List.length_append]; rfl, by rw [List.map_append, Hv.out.1, He.out]; rfl, by
              rw [List.length_append, List.flatMap_append]
              exact hrow', fun x hx => by
              rcases List.mem_append.1 hx with hx | hx
              · exact Hv.out.2 x hx
              · rw [List.mem_singleton.1 hx]
                exact ⟨ba, bn, bc, rfl, hbc, hS0⟩, hXw', hT'⟩
          case measure => simp [intOf]; omega
      · obtain rfl : k = n := by omega
        obtain ⟨hvs, hbd⟩ := Hv.out
        have hA : CosAt wr 0 ra vs.length (pruneN l t k) := by
          refine ⟨vs, hvs.symm, by rw [← hvs, List.length_map], hvl, fun x hx => (hokC.2 x (pruneN_sub x hx)).1, (Sl.of_own hrow).less (Nat.zero_le _), fun x hx => ?_⟩
          obtain ⟨ba, bn, bc, e, h1, h2⟩ := hbd x hx
          exact ⟨ba, bn, bc, e, h1, (h2.mono (hX.fr _)).less (Nat.zero_le _)⟩
        have hvl2 : vs.length = (pruneN l t k).length := by rw [← hvs, List.length_map]
        have Hvl := Lib.hid hvl2
        clear hvl2 hvs hbd
        go_wp2_with fail
        refine (cloneStore_c (pruneN l t k) ra vs.length rc 0 wr hA).mono ?_
        rintro _ w5 ⟨ra5, rc5, rfl, hO5, hx5⟩
        go_wp2
        go_ret
        rw [← Hvl.out]
        exact ⟨ra5, rc5, rfl, hO5.less (by omega), hX.trans hx5⟩
  all_goals
    rw [show pruneL l t = [] by rw [pruneL, q1, q2]; rfl]
    clear hl
    go_enter Tryd.func28, Tryd.ntmps28
    go_wp2_with fail
    refine calls_name (fun W0 hW0 => ?_)
    obtain ⟨hT0, hE0, hX0⟩ := bx2 hW0
    have hrow0 : W0.ownsRow (w.heap.size + 1) 65 8 (.slice (some ⟨w.heap.size + 1, 0, none⟩) 0 0) 0 [] := by
      rw [hW0]
      exact own_lit (w := w.alloc (.cells #[.slice ta tn tc] 30)) (cs := #[]) (e := 65) (B := w.heap.size + 1) (g := w.heap.size + 1) (size := 8) (n := 0) (by simp) (by simp) rfl (by omega)
    clear hW0 hE0
    refine (ValidStore_c l a n c B W0 (hD.mono (hX0.fr _)) (hG.mono hX0)).mono ?_
    rintro _ w1 ⟨rfl, hx1⟩
    rw [q1]
    obtain ⟨lt2, ct2, _⟩ := (hT0.x hx1).out
    have t0 := ct2 0
    clear ct2
    have hXw := hX0.trans hx1
    have hrow1 := own_fr hrow0 (hx1.fr _)
    go_wp2_with (go_at_call 39; refine (ValidTree_c t ta tn tc B2 w1 (hF.mono (X.fr hXw _)) htc (hG.mono hXw)).mono ?_; rintro _ w2 ⟨rfl, hx2⟩; rw [q2]; replace hXw := hXw.trans hx2; replace hrow1 := own_fr hrow1 (hx2.fr _))
    go_ret
    exact ⟨_, _, rfl, (CosO.nil hrow1).less (by omega), hXw⟩

end Go.Proofs.YtjlooplpjliaiaaDoor
