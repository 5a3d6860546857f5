/- The text of a tree, the program's: the walks. No condition but that the tree is valid. -/
import Derived.Test.YtmhcmabiolaoaaaGreatDoorFmtS
import Derived.Test.YtmhcmabiolaoaaaGreatDoorInv
import Derived.Lib.ItoaNum
namespace Go.Proofs.YtmhcmabiolaoaaaGreatDoor
open Go.RowKit

theorem bxS {w : World} {b : Nat} {v : Value} (h : Bx w b #[v]) : w.cell? ⟨b, 0, none⟩ = some v := h.out.2.1 0
theorem join_spJ (l : List (List UInt8)) : Lib.join l [32] = spJ l := by
  cases l with
  | nil => rfl
  | cons p r =>
    rw [Lib.join_cons, spJ]
    have h : ∀ (r : List (List UInt8)) (a : List UInt8), r.foldl (fun a q => a ++ 32 :: q) a = a ++ Lib.joinTail [32] r := fun r => by
      induction r with
      | nil => intro a; simp [Lib.joinTail]
      | cons q r ih =>
        intro a
        rw [List.foldl_cons, ih]
        simp [Lib.joinTail, List.append_assoc]
    exact (h r p).symm
theorem JoinSp_c (l : List (List UInt8)) (a : Option Addr) (n c B : Nat) (w : World) (hS : StrsAt w B a n l) (h0 : 0 < n) (hnc : n ≤ c) (hl : (spJ l).length ≤ 1000000) :
    Calls Tryz.prog 28 #[.slice a n c, .string ⟨#[32]⟩] w fun e w' => e = .returned (.string ⟨(spJ l).toArray⟩) ∧ X w w' := by
  have hn := hS.1
  have hn2 := hS.2.1
  obtain ⟨b, off, rfl, _, hb, _, _⟩ := hS.at_ (k := 0) (by omega)
  have hmap : (l.map fun p => ByteArray.mk p.toArray).map (·.data.toList) = l := by
    rw [List.map_map]
    have : ((fun x : ByteArray => x.data.toList) ∘ fun p : List UInt8 => ByteArray.mk p.toArray) = id := rfl
    rw [this, List.map_id]
  have hlen : (l.map fun p => ByteArray.mk p.toArray).length = n := by rw [List.length_map]; omega
  have h := Tryz.strings_Join b off c (l.map fun p => ByteArray.mk p.toArray) ⟨#[32]⟩ w (fun j x hx => by
      have hj : j < n := by
        have := (List.getElem?_eq_some_iff.1 hx).1
        omega
      obtain ⟨b', off', ha, _, _, hc, _⟩ := hS.at_ (k := j) (by omega)
      injection ha with ha
      injection ha with e1 e2
      subst e1 e2
      rw [hc]
      rw [List.getElem?_map, nth_get? (by omega)] at hx
      simpa using hx) hb (by omega) (by omega) (by
      rw [hmap]
      show (Lib.join l [32]).length ≤ _
      rw [join_spJ]
      omega)
  rw [hlen, hmap] at h
  refine h.mono ?_
  rintro _ w' ⟨rfl, hb'⟩
  exact ⟨by rw [show Lib.join l (ByteArray.mk #[32]).data.toList = spJ l from join_spJ _], X.of_below hb'⟩
set_option maxRecDepth 100000 in
set_option maxHeartbeats 1000000 in
theorem line_c (ws : List (List UInt8)) (a : Option Addr) (n c B ob : Nat) (S : List UInt8) (w : World) (hSt : StrsAt w B a n ws) (hn0 : 0 < n) (hnc : n ≤ c) (hB : Bx w ob #[.string ⟨(S).toArray⟩]) (hsl : S.length ≤ 1000000) (hjl : (spJ ws).length ≤ 1000000) :
    Calls Tryz.prog 27 #[.slice a n c, .pointer (some ⟨ob, 0, none⟩)] w fun e w' => e = .returned (.tuple #[]) ∧ Bx w' ob #[.string ⟨(S ++ lineL ws).toArray⟩] ∧ w.grownBy w' (some ob) := by
  rw [lineL]
  obtain ⟨J, hJ⟩ : ∃ J, spJ ws = J := ⟨_, rfl⟩
  have hjl2 := hjl
  rw [hJ] at hjl2 ⊢
  have HJ := Lib.hid hJ
  clear hJ
  go_enter Tryz.func27, Tryz.ntmps27
  go_wp2
  refine wp_region_inv (fun L v W => w.grownBy W (some ob)
      ∧ (L 5 = false → X w W)
      ∧ (L 5 = false → Bx W ob #[.string ⟨(S).toArray⟩])
      ∧ (L 5 = true → Bx W ob #[.string ⟨(S ++ (J ++ [10])).toArray⟩])
      ∧ (L 5 = true → L 2 = true ∧ L 0 = true)
      ∧ (L 4 = true → L 3 = true ∧ L 0 = true)
      ∧ (L 3 = true → L 2 = true)
      ∧ (L 0 = true → v 0 = .string ⟨(S).toArray⟩)
      ∧ (L 1 = true → v 1 = .slice a n c)
      ∧ (L 2 = true → v 2 = .string ⟨(J).toArray⟩)
      ∧ (L 3 = true → v 3 = .string ⟨(J ++ [10]).toArray⟩)
      ∧ (L 4 = true → v 4 = .string ⟨(S ++ (J ++ [10])).toArray⟩)) (by kernel_rfl) (by kernel_rfl) ?_ ?_ (l := [(3, 0), (4, 1), (5, 2), (6, 3), (7, 4)]) (by kernel_rfl) (n := 6) rfl ?_
  · intro v
    exact ⟨grown_x (World.grownBy.refl _ _) (X.refl _).drew, fun _ => (X.refl _).drew, fun _ => hB.x (X.refl _).drew, fun h => Bool.noConfusion h, fun h => Bool.noConfusion h, fun h => Bool.noConfusion h, fun h => Bool.noConfusion h, fun h => Bool.noConfusion h, fun h => Bool.noConfusion h, fun h => Bool.noConfusion h, fun h => Bool.noConfusion h, fun h => Bool.noConfusion h⟩
  · intro i hi
    have hi' : i = 0 ∨ i = 1 ∨ i = 2 ∨ i = 3 ∨ i = 4 ∨ i = 5 := by
      have : i < 6 := hi
      omega
    clear hi
    rcases hi' with rfl | rfl | rfl | rfl | rfl | rfl
    all_goals
      intro o ho L v aa W hI hS hL hA K hK
      cases (show some _ = some o from ho)
      obtain ⟨gr, xx, b0, b1, dp, k4, k3, v0, v1, v2, v3, v4⟩ := hI
    · have a1 := hS.old 1 (by kernel_rfl) rfl
      have n5 : L 5 = false := by rcases h : L 5 with _ | _; (· rfl); (· have := dp h; simp [hL] at this)
      have c0 := bxS (b0 n5)
      have lb := (b0 n5).lt
      clear hS ho hA
      go_simp
      exact hK _ W ⟨gr, xx, b0, b1, fun h => ⟨(dp h).1, rfl⟩, fun h => ⟨(k4 h).1, rfl⟩, k3, fun _ => rfl, v1, v2, v3, v4⟩
    · have a0 := hS.old 0 (by kernel_rfl) rfl
      clear hS ho hA
      go_simp
      exact hK _ W ⟨gr, xx, b0, b1, dp, k4, k3, v0, fun _ => rfl, v2, v3, v4⟩
    · have l1 : L 1 = true := hA ⟨1, .data⟩ (by simp) rfl
      have a1 := hS.get 1 4 rfl l1 (v1 l1)
      have n5 : L 5 = false := by rcases h : L 5 with _ | _; (· rfl); (· have := dp h; simp [hL] at this)
      clear hS ho hA
      go_simp
      refine (JoinSp_c ws a n c B W (hSt.mono ((xx n5).fr _)) hn0 hnc hjl).mono ?_
      rw [HJ.out]
      rintro _ w' ⟨rfl, hx⟩
      exact hK _ w' ⟨grown_x gr hx, fun h => (xx h).trans hx, fun h => (b0 h).x hx, fun h => (b1 h).x hx, fun h => ⟨rfl, (dp h).2⟩, k4, fun _ => rfl, v0, v1, fun _ => rfl, v3, v4⟩
    · have l2 : L 2 = true := hA ⟨2, .data⟩ (by simp) rfl
      have a2 := hS.get 2 5 rfl l2 (v2 l2)
      clear hS ho hA
      go_simp
      rw [if_neg (by omega)]
      exact hK _ W ⟨gr, xx, b0, b1, dp, fun h => ⟨rfl, (k4 h).2⟩, fun _ => l2, v0, v1, v2, fun _ => rfl, v4⟩
    · have l0 : L 0 = true := hA ⟨0, .data⟩ (by simp) rfl
      have l3 : L 3 = true := hA ⟨3, .data⟩ (by simp) rfl
      have a0 := hS.get 0 3 rfl l0 (v0 l0)
      have a3 := hS.get 3 6 rfl l3 (v3 l3)
      clear hS ho hA
      go_simp
      rw [if_neg (by omega)]
      exact hK _ W ⟨gr, xx, b0, b1, dp, fun _ => ⟨l3, l0⟩, k3, v0, v1, v2, v3, fun _ => rfl⟩
    · have l4 : L 4 = true := hA ⟨4, .data⟩ (by simp) rfl
      have e3 := (k4 l4).1
      have e0 := (k4 l4).2
      have e2 := k3 e3
      have a1 := hS.old 1 (by kernel_rfl) rfl
      have a4 := hS.get 4 7 rfl l4 (v4 l4)
      have c0 := bxS (b0 hL)
      have lb := (b0 hL).lt
      have f0 := (b0 hL).out.2.2 0
      clear hS ho hA
      go_simp
      exact hK undef (W.setCell ⟨ob, 0, none⟩ (.string ⟨(S ++ (J ++ [10])).toArray⟩)) ⟨grown_next gr 0 _, fun h => Bool.noConfusion h, fun h => Bool.noConfusion h, fun _ => Bx.set (b0 hL) 0 _, fun _ => ⟨e2, e0⟩, k4, k3, v0, v1, v2, v3, v4⟩
  · intro v W hI
    obtain ⟨gr, xx, b0, b1, dp, k4, k3, v0, v1, v2, v3, v4⟩ := hI
    have hB5 := b1 rfl
    clear xx b0 b1 dp k4 k3 v0 v1 v2 v3 v4
    go_end0
    exact ⟨rfl, hB5, gr⟩

theorem Itoa_c (n : Int) (w : World) (h : rangeB n 0 99 = true) : Calls Tryz.prog 26 #[.int .i64 n] w fun e w' => e = .returned (.string ⟨(decF n).toArray⟩) ∧ w = w' := by
  obtain ⟨h0, h1⟩ := rangeB_iff.1 h
  obtain ⟨k, rfl⟩ : ∃ k : Nat, n = (k : Int) := ⟨n.toNat, by omega⟩
  exact (Tryz.strconv_Itoa_small k (by omega) w).mono fun _ _ ⟨e, h⟩ => ⟨e, h.symm⟩
theorem orDash_i (s : List UInt8) (w : World) : Calls Tryz.prog 29 #[.string ⟨(s).toArray⟩] w fun e w' => e = .returned (.string ⟨(dashL s).toArray⟩) ∧ w = w' := by
  cases s with
  | nil =>
    go_enter Tryz.func29, Tryz.ntmps29
    go_wp2
    go_ret
    exact ⟨rfl, rfl⟩
  | cons x xs =>
    go_enter Tryz.func29, Tryz.ntmps29
    go_wp2
    go_ret
    exact ⟨rfl, rfl⟩
theorem x_grownO {w W W' : World} {ob : Nat} (hX : X w W) (hg : W.grownBy W' (some ob)) (h : w.heap.size ≤ ob) : X w W' :=
  X.of_below (hX.below.grown hg hX.size (fun b e => by injection e with e; omega))
theorem strs_litF {w : World} {B g n : Nat} {l : List (List UInt8)} {cs : Array Value} (hg : g = w.heap.size) (hB : B ≤ g) (hn : n = l.length) (hcs : cs.toList = strs l) (hl : l.length ≤ 8388608) (hs : ∀ s ∈ l, s.length ≤ 4194304) :
    StrsAt (w.alloc (.cells cs 9)) B (some ⟨g, 0, none⟩) n l := by
  subst hg hn
  refine StrsAt.of_own (c := l.length) (e := 9) ?_ hl hs
  rw [← hcs]
  refine own_lit rfl hB ?_ (by omega)
  rw [← Array.length_toList, hcs, flat_length 1 _ (fun _ => rfl)]
theorem strs_litX {w W : World} {B g n : Nat} {l : List (List UInt8)} {cs : Array Value} (hg : g = w.heap.size) (hB : B ≤ g) (hn : n = l.length) (hcs : cs.toList = strs l) (hl : l.length ≤ 8388608) (hs : ∀ s ∈ l, s.length ≤ 4194304) (hx : X (w.alloc (.cells cs 9)) W) :
    StrsAt W B (some ⟨g, 0, none⟩) n l := (strs_litF hg hB hn hcs hl hs).mono (hx.fr _)
set_option maxRecDepth 100000 in
set_option maxHeartbeats 4000000 in
theorem FormatTree_i (l : List Fi) (a : Option Addr) (n c B : Nat) (w : World) (hF : FilesAt w B a n l) (hnc : n ≤ c) (hG : Gm w) : Calls Tryz.prog 12 #[.agg #[.slice a n c]] w fun e w' => e = .returned (.string ⟨(fmtV l).toArray⟩) ∧ X w w' := by
  cases ht : treeB l
  · rw [show fmtV l = _ by rw [fmtV, ht]]
    go_enter Tryz.func12, Tryz.ntmps12
    go_wp2_with fail
    refine calls_name (fun W hW => ?_)
    have hX0 : X w W := by rw [hW]; (repeat (first | with_reducible exact X.refl _ | with_reducible assumption | with_reducible refine X.setCell ?_ (by first | (simp; done) | (simp; omega)) _ | with_reducible refine X.ext ?_ _ | with_reducible refine X.alloc ?_ _ | with_reducible refine X.drew ?_))
    clear hW
    refine (ValidTree_c l a n c B W (hF.mono (hX0.fr _)) hnc (hG.mono hX0)).mono ?_
    rintro _ w1 ⟨rfl, hx1⟩
    rw [ht]
    go_wp2
    go_ret
    exact ⟨rfl, hX0.trans hx1⟩
  rw [show fmtV l = fmtT l by rw [fmtV, ht]; rfl]
  have hfb := treeB_all ht
  have hl12 : l.length ≤ 12 := by
    unfold treeB at ht
    rw [Bool.and_eq_true] at ht
    simpa using ht.2
  have Hl := Lib.hid hF.len.1
  have hn := hF.len.2
  have hn12 : n ≤ 12 := by rw [Hl.out]; exact hl12
  clear hl12
  go_enter Tryz.func12, Tryz.ntmps12
  go_wp2_with fail
  refine calls_name (fun W hW => ?_)
  have hB : Bx W w.heap.size #[.slice a n c] := by rw [hW]; exact Bx.new _ _ _
  have hX0 : X w W := by rw [hW]; (repeat (first | with_reducible exact X.refl _ | with_reducible assumption | with_reducible refine X.setCell ?_ (by first | (simp; done) | (simp; omega)) _ | with_reducible refine X.ext ?_ _ | with_reducible refine X.alloc ?_ _ | with_reducible refine X.drew ?_))
  clear hW
  refine (ValidTree_c l a n c B W (hF.mono (hX0.fr _)) hnc (hG.mono hX0)).mono ?_
  rintro _ w1 ⟨rfl, hx1⟩
  rw [ht]
  have t0 := bxS (hB.x hx1)
  have lt0 := (hB.x hx1).lt
  have hX1 := hX0.trans hx1
  have hs1 : w.heap.size ≤ w1.heap.size := hX1.size
  clear hx1 hX0 hB
  go_wp2
  refine wp_name (fun W0 hW0 => ?_)
  obtain ⟨ob, hob⟩ : ∃ ob, ob = w1.heap.size := ⟨_, rfl⟩
  have hO0 : Bx W0 ob #[.string ⟨(([] : List UInt8)).toArray⟩] := by rw [hW0, hob]; exact Bx.new _ _ _
  have hX0 : X w W0 := by rw [hW0]; exact hX1.trans (by (repeat (first | with_reducible exact X.refl _ | with_reducible assumption | with_reducible refine X.setCell ?_ (by first | (simp; done) | (simp; omega)) _ | with_reducible refine X.ext ?_ _ | with_reducible refine X.alloc ?_ _ | with_reducible refine X.drew ?_)))
  have hobw : w.heap.size ≤ ob := by rw [hob]; exact hs1
  rw [← hob]
  clear hW0 hob t0 lt0 hX1 hs1
  go_loopw [18] (fun i wr => ∃ k : Nat, k ≤ n ∧ i = .int .i64 k ∧ Bx wr ob #[.string ⟨(fmtT (l.take k)).toArray⟩] ∧ X w wr) (fun i _ => n - (intOf i).toNat)
  case atStart => exact ⟨0, Nat.zero_le _, rfl, hO0, hX0⟩
  case round =>
    obtain ⟨k, hk, rfl, hO, hX⟩ := hrel
    clear hO0 hX0
    by_cases hlt : k < n
    · obtain ⟨b, off, ba, bn, bc, rfl, _, hb, hok, hbc, hS, e0, e1, e2, e3, e4, e5⟩ := hF.at_ hlt
      have g0 := (hX.cell (p := ⟨b, _, none⟩) hb).trans e0
      have g1 := (hX.cell (p := ⟨b, _, none⟩) hb).trans e1
      have g2 := (hX.cell (p := ⟨b, _, none⟩) hb).trans e2
      have g3 := (hX.cell (p := ⟨b, _, none⟩) hb).trans e3
      have g4 := (hX.cell (p := ⟨b, _, none⟩) hb).trans e4
      have g5 := (hX.cell (p := ⟨b, _, none⟩) hb).trans e5
      have lbr := Nat.lt_of_lt_of_le hb hX.size
      clear e0 e1 e2 e3 e4 e5
      have hfk := hfb _ (nth_mem (l := l) (k := k) (by rw [← Hl.out]; exact hlt))
      have hlen1 : (fmtT (l.take k)).length ≤ 6000 := by
        have := fmtT_len (t := l.take k) (fun f hf => hfb f (List.mem_of_mem_take hf))
        rw [List.length_take] at this
        omega
      have hnext := Lib.hid (fmtT_next (t := l) (k := k) (by rw [← Hl.out]; exact hlt))
      obtain ⟨A, hA⟩ : ∃ A, fmtT (l.take k) = A := ⟨_, rfl⟩
      rw [hA] at hlen1 hnext hO
      clear hA
      have r1 : (0 : Int) ≤ (k : Int) := by omega
      have r2 : (k : Int) < (n : Int) := by omega
      obtain ⟨h1, h2, h3, h4, h5, h6⟩ := fi_parts hfk
      have hr := range_02 h1
      have hbb := bodyB_l8 h4
      have Hbn := Lib.hid hS.1
      have hbn8 : bn ≤ 8 := by rw [Hbn.out]; exact hbb.1
      have hstb := hbb.2
      have hwl := wordsF_len hfk
      have hjl : (spJ (wordsF (nth l k))).length ≤ 1000000 := by
        have := lineF_len hfk
        unfold lineL at this
        rw [List.length_append] at this
        omega
      have hz := Lib.hid (fileT_zero (nth l k))
      have hfl := fileT_len hfk
      clear hbb
      generalize nth l k = f at *
      cases hi : f.init
      all_goals
        have Hwf := Lib.hid (show wordsF f = _ by rw [wordsF, hi])
        rw [hi] at g3
        go_wp2
        refine wp_name (fun W8 hW8 => ?_)
        obtain ⟨fb, hfbk⟩ : ∃ fb, fb = wr.heap.size := ⟨_, rfl⟩
        have c0 : W8.cell? ⟨fb, 0, none⟩ = some (.int .i64 f.root) := by rw [hW8, hfbk]; exact (Bx.new _ _ _).out.2.1 0
        have c1 : W8.cell? ⟨fb, 1, none⟩ = some (.string ⟨(f.pkg).toArray⟩) := by rw [hW8, hfbk]; exact (Bx.new _ _ _).out.2.1 1
        have c4 : W8.cell? ⟨fb, 4, none⟩ = some (.int .i64 f.stamp) := by rw [hW8, hfbk]; exact (Bx.new _ _ _).out.2.1 4
        have c5 : W8.cell? ⟨fb, 5, none⟩ = some (.slice ba bn bc) := by rw [hW8, hfbk]; exact (Bx.new _ _ _).out.2.1 5
        have hX8 : X wr W8 := by rw [hW8]; (repeat (first | with_reducible exact X.refl _ | with_reducible assumption | with_reducible refine X.setCell ?_ (by first | (simp; done) | (simp; omega)) _ | with_reducible refine X.ext ?_ _ | with_reducible refine X.alloc ?_ _ | with_reducible refine X.drew ?_))
        have lf8 : fb < W8.heap.size := by rw [hW8, hfbk]; simp
        have hne : fb ≠ ob := by have := hO.lt; omega
        rw [← hfbk]
        have hO8 := hO.x hX8
        clear hW8 hfbk
        have hcell : ∀ W' i, W8.grownBy W' (some ob) → W'.cell? ⟨fb, i, none⟩ = W8.cell? ⟨fb, i, none⟩ := fun W' i hg => World.cell?_of_block (hg.block fb lf8 (by intro e; injection e with e; exact hne e))
        have hall : ∀ W', W8.grownBy W' (some ob) → W'.cell? ⟨fb, 0, none⟩ = some (.int .i64 f.root) ∧ W'.cell? ⟨fb, 1, none⟩ = some (.string ⟨(f.pkg).toArray⟩) ∧ W'.cell? ⟨fb, 4, none⟩ = some (.int .i64 f.stamp) := fun W' hg => ⟨(hcell W' 0 hg).trans c0, (hcell W' 1 hg).trans c1, (hcell W' 4 hg).trans c4⟩
        go_region_held3 (fun W' => W'.cell? ⟨fb, 0, none⟩ = some (.int .i64 f.root) ∧ W'.cell? ⟨fb, 1, none⟩ = some (.string ⟨(f.pkg).toArray⟩) ∧ W'.cell? ⟨fb, 4, none⟩ = some (.int .i64 f.stamp))
          (first | exact hall _ hgl | exact ⟨c0, c1, c4⟩ | exact hall _ (grown_x (World.grownBy.refl _ _) (((X.refl _).alloc _).drew)) | go_keep)
          ((first
            | (go_at_call_of 26 f.root; refine (Itoa_c f.root _ hr).mono ?_; rintro _ _ ⟨rfl, rfl⟩)
            | (go_at_call 26; refine (Itoa_c f.stamp _ h3).mono ?_; rintro _ _ ⟨rfl, rfl⟩)
            | (go_at_call 29; refine (orDash_i f.pkg _).mono ?_; rintro _ _ ⟨rfl, rfl⟩)
            | (go_at_call 27; refine (line_c (wordsF f) _ 5 5 W8.heap.size ob A _ (by exact strs_litX (w := W8) rfl (Nat.le_refl _) rfl (by rw [Hwf.out]; rfl) (by simp [wordsF]) (fun s hs => by have := hwl s hs; omega) (X.refl _).drew) (by omega) (Nat.le_refl _) (hO8.x (by exact ((X.refl _).alloc _).drew)) (by omega) hjl).mono ?_; rintro _ w12 ⟨rfl, hO12, hg12⟩; have hgl : W8.grownBy w12 (some ob) := X.grown ((X.refl W8).alloc _).drew hg12)))
        have hX12 := x_grownO (hX.trans hX8) hgl hobw
        have d5 := (hcell w12 5 hgl).trans c5
        have lf12 := Nat.lt_of_lt_of_le lf8 hgl.size
        rw [← hz.out] at hO12
        clear hall hcell hgl hg12 hO8 hO hX8 hX c0 c1 c4 c5 g0 g1 g2 g3 g4 g5 lf8 lbr
        go_wp2
        obtain ⟨wo, hwo⟩ : ∃ wo, wo = wr := ⟨_, rfl⟩
        clear hwo
        go_loopw [44] (fun i wr => ∃ j : Nat, j ≤ bn ∧ i = .int .i64 j ∧ Bx wr ob #[.string ⟨(A ++ fileT f j).toArray⟩] ∧ X w wr) (fun i _ => bn - (intOf i).toNat)
        case atStart => exact ⟨0, Nat.zero_le _, rfl, hO12, hX12⟩
        case round =>
          obtain ⟨j, hj, rfl, hO, hX⟩ := hrel
          have hflj := hfl j
          by_cases hjt : j < bn
          · obtain ⟨b2, off2, rfl, _, hb3, hos, z0, z1, z2, z3, z4⟩ := hS.at_ hjt
            have s0 := (hX.cell (p := ⟨b2, _, none⟩) hb3).trans z0
            have s1 := (hX.cell (p := ⟨b2, _, none⟩) hb3).trans z1
            have s2 := (hX.cell (p := ⟨b2, _, none⟩) hb3).trans z2
            have s3 := (hX.cell (p := ⟨b2, _, none⟩) hb3).trans z3
            have s4 := (hX.cell (p := ⟨b2, _, none⟩) hb3).trans z4
            have lb2 := Nat.lt_of_lt_of_le hb3 hX.size
            clear z0 z1 z2 z3 z4
            have hst := hstb _ (nth_mem (l := f.body) (k := j) (by rw [← Hbn.out]; exact hjt))
            have hnx := Lib.hid (fileT_next (f := f) (m := j) (by rw [← Hbn.out]; exact hjt))
            have hsl : (spJ (wordsS (nth f.body j))).length ≤ 1000000 := by
              have := lineS_len hst
              unfold lineL at this
              rw [List.length_append] at this
              omega
            have hsw := (wordsS_len hst).1
            have hkk := st_kinds hst
            have hnx := Lib.hid (show A ++ fileT f (j + 1) = A ++ fileT f j ++ lineL (wordsS (nth f.body j)) by rw [hnx.out, List.append_assoc])
            generalize fileT f j = F at *
            generalize nth f.body j = t at *
            obtain ⟨kd, md, lv, nm, vl⟩ := t
            simp only at hkk s0 s1 s2 s3 s4
            have r3 : (0 : Int) ≤ (j : Int) := by omega
            have r4 : (j : Int) < (bn : Int) := by omega
            rcases hkk with ⟨rfl, k1, rfl, rfl, rfl⟩ | ⟨rfl, k1, k2, k3, rfl⟩ | ⟨rfl, k1, rfl, rfl, rfl⟩ | ⟨rfl, rfl, rfl, k1, k2⟩ | ⟨rfl, rfl, rfl, k1, rfl⟩ | ⟨rfl, rfl, rfl, rfl, rfl⟩
            · have hwv : wordsS ⟨0, md, 0, [], 0⟩ = [kImport, md] := rfl
              rw [hwv] at hsl hsw hnx
              clear hwv
              go_wp2_with fail
              refine calls_name (fun W5 hW5 => ?_)
              have hSt : StrsAt W5 0 (some ⟨wr.heap.size + 1, 0, none⟩) 2 ([kImport, md]) := by
                rw [hW5]
                exact (strs_litF (w := wr.alloc _) (B := 0) (by simp) (Nat.zero_le _) rfl rfl (by simp) (fun s hs => by have := hsw s hs; omega))
              have hX5 : X wr W5 := by rw [hW5]; (repeat (first | with_reducible exact X.refl _ | with_reducible assumption | with_reducible refine X.setCell ?_ (by first | (simp; done) | (simp; omega)) _ | with_reducible refine X.ext ?_ _ | with_reducible refine X.alloc ?_ _ | with_reducible refine X.drew ?_))
              clear hW5
              refine (line_c ([kImport, md]) _ 2 2 _ ob (A ++ F) W5 hSt (by omega) (Nat.le_refl _) (hO.x hX5) (by rw [List.length_append]; omega) hsl).mono ?_
              rintro _ w6 ⟨rfl, hO6, hg6⟩
              have hX6 := x_grownO (hX.trans hX5) hg6 hobw
              rw [← hnx.out] at hO6
              go_wp2
              go_roundw
              case rel => exact ⟨j + 1, by omega, by go_num, hO6, hX6⟩
              case measure => simp [intOf]; omega
            · have hwv : wordsS ⟨1, md, lv, nm, 0⟩ = [kFrom, decF lv, dashL md, nm] := rfl
              rw [hwv] at hsl hsw hnx
              clear hwv
              go_wp2
              refine wp_name (fun W8 hW8 => ?_)
              obtain ⟨tb, htb⟩ : ∃ tb, tb = wr.heap.size := ⟨_, rfl⟩
              have c1 : W8.cell? ⟨tb, 1, none⟩ = some (.string ⟨(md).toArray⟩) := by rw [hW8, htb]; exact (Bx.new _ _ _).out.2.1 1
              have c2 : W8.cell? ⟨tb, 2, none⟩ = some (.int .i64 lv) := by rw [hW8, htb]; exact (Bx.new _ _ _).out.2.1 2
              have c3 : W8.cell? ⟨tb, 3, none⟩ = some (.string ⟨(nm).toArray⟩) := by rw [hW8, htb]; exact (Bx.new _ _ _).out.2.1 3
              have hX8 : X wr W8 := by rw [hW8]; (repeat (first | with_reducible exact X.refl _ | with_reducible assumption | with_reducible refine X.setCell ?_ (by first | (simp; done) | (simp; omega)) _ | with_reducible refine X.ext ?_ _ | with_reducible refine X.alloc ?_ _ | with_reducible refine X.drew ?_))
              have lt8 : tb < W8.heap.size := by rw [hW8, htb]; simp
              have hnet : tb ≠ ob := by have := hO.lt; omega
              rw [← htb]
              have hO8 := hO.x hX8
              clear hW8 htb
              have hcell : ∀ W' i, W8.grownBy W' (some ob) → W'.cell? ⟨tb, i, none⟩ = W8.cell? ⟨tb, i, none⟩ := fun W' i hg => World.cell?_of_block (hg.block tb lt8 (by intro e; injection e with e; exact hnet e))
              have hall : ∀ W', W8.grownBy W' (some ob) → W'.cell? ⟨tb, 1, none⟩ = some (.string ⟨(md).toArray⟩) ∧ W'.cell? ⟨tb, 2, none⟩ = some (.int .i64 lv) ∧ W'.cell? ⟨tb, 3, none⟩ = some (.string ⟨(nm).toArray⟩) := fun W' hg => ⟨(hcell W' 1 hg).trans c1, (hcell W' 2 hg).trans c2, (hcell W' 3 hg).trans c3⟩
              go_region_held3 (fun W' => W'.cell? ⟨tb, 1, none⟩ = some (.string ⟨(md).toArray⟩) ∧ W'.cell? ⟨tb, 2, none⟩ = some (.int .i64 lv) ∧ W'.cell? ⟨tb, 3, none⟩ = some (.string ⟨(nm).toArray⟩))
                (first | exact hall _ hgl | exact ⟨c1, c2, c3⟩ | exact hall _ (grown_x (World.grownBy.refl _ _) (((X.refl _).alloc _).drew)) | go_keep)
                ((first
                  | (go_at_call 26; refine (Itoa_c lv _ (range_03 k2)).mono ?_; rintro _ _ ⟨rfl, rfl⟩)
                  | (go_at_call 29; refine (orDash_i md _).mono ?_; rintro _ _ ⟨rfl, rfl⟩)
                  | (go_at_call 27; refine (line_c ([kFrom, decF lv, dashL md, nm]) _ 4 4 W8.heap.size ob (A ++ F) _ (by exact strs_litX (w := W8) rfl (Nat.le_refl _) rfl rfl (by simp) (fun s hs => by have := hsw s hs; omega) (X.refl _).drew) (by omega) (Nat.le_refl _) (hO8.x (by exact ((X.refl _).alloc _).drew)) (by rw [List.length_append]; omega) hsl).mono ?_; rintro _ w12 ⟨rfl, hO6, hg12⟩; have hgl : W8.grownBy w12 (some ob) := X.grown ((X.refl W8).alloc _).drew hg12)))
              have hX6 := x_grownO (hX.trans hX8) hgl hobw
              rw [← hnx.out] at hO6
              go_wp2
              go_roundw
              case rel => exact ⟨j + 1, by omega, by go_num, hO6, hX6⟩
              case measure => simp [intOf]; omega
            · have hwv : wordsS ⟨2, md, 0, [], 0⟩ = [kStar, md] := rfl
              rw [hwv] at hsl hsw hnx
              clear hwv
              go_wp2_with fail
              refine calls_name (fun W5 hW5 => ?_)
              have hSt : StrsAt W5 0 (some ⟨wr.heap.size + 1, 0, none⟩) 2 ([kStar, md]) := by
                rw [hW5]
                exact (strs_litF (w := wr.alloc _) (B := 0) (by simp) (Nat.zero_le _) rfl rfl (by simp) (fun s hs => by have := hsw s hs; omega))
              have hX5 : X wr W5 := by rw [hW5]; (repeat (first | with_reducible exact X.refl _ | with_reducible assumption | with_reducible refine X.setCell ?_ (by first | (simp; done) | (simp; omega)) _ | with_reducible refine X.ext ?_ _ | with_reducible refine X.alloc ?_ _ | with_reducible refine X.drew ?_))
              clear hW5
              refine (line_c ([kStar, md]) _ 2 2 _ ob (A ++ F) W5 hSt (by omega) (Nat.le_refl _) (hO.x hX5) (by rw [List.length_append]; omega) hsl).mono ?_
              rintro _ w6 ⟨rfl, hO6, hg6⟩
              have hX6 := x_grownO (hX.trans hX5) hg6 hobw
              rw [← hnx.out] at hO6
              go_wp2
              go_roundw
              case rel => exact ⟨j + 1, by omega, by go_num, hO6, hX6⟩
              case measure => simp [intOf]; omega
            · have hwv : wordsS ⟨3, [], 0, nm, vl⟩ = [kSet, nm, decF vl] := rfl
              rw [hwv] at hsl hsw hnx
              clear hwv
              go_wp2
              refine wp_name (fun W8 hW8 => ?_)
              obtain ⟨tb, htb⟩ : ∃ tb, tb = wr.heap.size := ⟨_, rfl⟩
              have c3 : W8.cell? ⟨tb, 3, none⟩ = some (.string ⟨(nm).toArray⟩) := by rw [hW8, htb]; exact (Bx.new _ _ _).out.2.1 3
              have c4 : W8.cell? ⟨tb, 4, none⟩ = some (.int .i64 vl) := by rw [hW8, htb]; exact (Bx.new _ _ _).out.2.1 4
              have hX8 : X wr W8 := by rw [hW8]; (repeat (first | with_reducible exact X.refl _ | with_reducible assumption | with_reducible refine X.setCell ?_ (by first | (simp; done) | (simp; omega)) _ | with_reducible refine X.ext ?_ _ | with_reducible refine X.alloc ?_ _ | with_reducible refine X.drew ?_))
              have lt8 : tb < W8.heap.size := by rw [hW8, htb]; simp
              have hnet : tb ≠ ob := by have := hO.lt; omega
              rw [← htb]
              have hO8 := hO.x hX8
              clear hW8 htb
              have hcell : ∀ W' i, W8.grownBy W' (some ob) → W'.cell? ⟨tb, i, none⟩ = W8.cell? ⟨tb, i, none⟩ := fun W' i hg => World.cell?_of_block (hg.block tb lt8 (by intro e; injection e with e; exact hnet e))
              have hall : ∀ W', W8.grownBy W' (some ob) → W'.cell? ⟨tb, 3, none⟩ = some (.string ⟨(nm).toArray⟩) ∧ W'.cell? ⟨tb, 4, none⟩ = some (.int .i64 vl) := fun W' hg => ⟨(hcell W' 3 hg).trans c3, (hcell W' 4 hg).trans c4⟩
              go_region_held3 (fun W' => W'.cell? ⟨tb, 3, none⟩ = some (.string ⟨(nm).toArray⟩) ∧ W'.cell? ⟨tb, 4, none⟩ = some (.int .i64 vl))
                (first | exact hall _ hgl | exact ⟨c3, c4⟩ | exact hall _ (grown_x (World.grownBy.refl _ _) (((X.refl _).alloc _).drew)) | go_keep)
                ((first
                  | (go_at_call 26; refine (Itoa_c vl _ k2).mono ?_; rintro _ _ ⟨rfl, rfl⟩)
                  | (go_at_call 27; refine (line_c ([kSet, nm, decF vl]) _ 3 3 W8.heap.size ob (A ++ F) _ (by exact strs_litX (w := W8) rfl (Nat.le_refl _) rfl rfl (by simp) (fun s hs => by have := hsw s hs; omega) (X.refl _).drew) (by omega) (Nat.le_refl _) (hO8.x (by exact ((X.refl _).alloc _).drew)) (by rw [List.length_append]; omega) hsl).mono ?_; rintro _ w12 ⟨rfl, hO6, hg12⟩; have hgl : W8.grownBy w12 (some ob) := X.grown ((X.refl W8).alloc _).drew hg12)))
              have hX6 := x_grownO (hX.trans hX8) hgl hobw
              rw [← hnx.out] at hO6
              go_wp2
              go_roundw
              case rel => exact ⟨j + 1, by omega, by go_num, hO6, hX6⟩
              case measure => simp [intOf]; omega
            · have hwv : wordsS ⟨4, [], 0, nm, 0⟩ = [kPrint, nm] := rfl
              rw [hwv] at hsl hsw hnx
              clear hwv
              go_wp2_with fail
              refine calls_name (fun W5 hW5 => ?_)
              have hSt : StrsAt W5 0 (some ⟨wr.heap.size + 1, 0, none⟩) 2 ([kPrint, nm]) := by
                rw [hW5]
                exact (strs_litF (w := wr.alloc _) (B := 0) (by simp) (Nat.zero_le _) rfl rfl (by simp) (fun s hs => by have := hsw s hs; omega))
              have hX5 : X wr W5 := by rw [hW5]; (repeat (first | with_reducible exact X.refl _ | with_reducible assumption | with_reducible refine X.setCell ?_ (by first | (simp; done) | (simp; omega)) _ | with_reducible refine X.ext ?_ _ | with_reducible refine X.alloc ?_ _ | with_reducible refine X.drew ?_))
              clear hW5
              refine (line_c ([kPrint, nm]) _ 2 2 _ ob (A ++ F) W5 hSt (by omega) (Nat.le_refl _) (hO.x hX5) (by rw [List.length_append]; omega) hsl).mono ?_
              rintro _ w6 ⟨rfl, hO6, hg6⟩
              have hX6 := x_grownO (hX.trans hX5) hg6 hobw
              rw [← hnx.out] at hO6
              go_wp2
              go_roundw
              case rel => exact ⟨j + 1, by omega, by go_num, hO6, hX6⟩
              case measure => simp [intOf]; omega
            · have hwv : wordsS ⟨5, [], 0, [], 0⟩ = [kFail] := rfl
              rw [hwv] at hsl hsw hnx
              clear hwv
              go_wp2_with fail
              refine calls_name (fun W5 hW5 => ?_)
              have hSt : StrsAt W5 0 (some ⟨wr.heap.size + 1, 0, none⟩) 1 ([kFail]) := by
                rw [hW5]
                exact (strs_litF (w := wr.alloc _) (B := 0) (by simp) (Nat.zero_le _) rfl rfl (by simp) (fun s hs => by have := hsw s hs; omega))
              have hX5 : X wr W5 := by rw [hW5]; (repeat (first | with_reducible exact X.refl _ | with_reducible assumption | with_reducible refine X.setCell ?_ (by first | (simp; done) | (simp; omega)) _ | with_reducible refine X.ext ?_ _ | with_reducible refine X.alloc ?_ _ | with_reducible refine X.drew ?_))
              clear hW5
              refine (line_c ([kFail]) _ 1 1 _ ob (A ++ F) W5 hSt (by omega) (Nat.le_refl _) (hO.x hX5) (by rw [List.length_append]; omega) hsl).mono ?_
              rintro _ w6 ⟨rfl, hO6, hg6⟩
              have hX6 := x_grownO (hX.trans hX5) hg6 hobw
              rw [← hnx.out] at hO6
              go_wp2
              go_roundw
              case rel => exact ⟨j + 1, by omega, by go_num, hO6, hX6⟩
              case measure => simp [intOf]; omega
          · obtain rfl : j = bn := by omega
            have hnx2 := hnext.out
            rw [← Hbn.out] at hnx2
            have hnx := Lib.hid hnx2
            clear hnx2 hnext
            go_wp2
            go_roundw
            case rel => exact ⟨k + 1, by omega, by go_num, by rw [hnx.out]; exact hO, hX⟩
            case measure => simp [intOf]; omega
    · obtain rfl : k = n := by omega
      rw [List.take_of_length_le (by rw [← Hl.out]; exact Nat.le_refl _)] at hO
      have o0 := bxS hO
      have lo := hO.lt
      go_wp2
      go_ret
      exact ⟨rfl, hX⟩

end Go.Proofs.YtmhcmabiolaoaaaGreatDoor
