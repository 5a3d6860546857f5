/- A disk after a change, the program's: the walk. No condition but lengths. -/
import Derived.Test.YtgjfjjhmgbemcaaGreatDoorDkO
import Derived.Test.YtgjfjjhmgbemcaaGreatDoorAboveP
import Derived.Test.YtgjfjjhmgbemcaaGreatDoorInv
import Derived.Deep.CutRange
namespace Go.Proofs.YtgjfjjhmgbemcaaGreatDoor
open Go.RowKit

set_option maxRecDepth 100000 in
set_option maxHeartbeats 4000000 in
theorem stamped_i (l' : List Fi) (ta a : Option Addr) (tn tc n c : Nat) (kk ticks : Int) (dl : List Di) (da : Option Addr) (dn dc Bt Bd : Nat) (f : Fi) (bv : Value) (w : World) (hT : FilesAt w Bt ta tn l') (htc : tn ≤ tc) (hD : DirsAt w Bd da dn dl) (hdn : dn ≤ 1000000) (hk : rangeB kk 0 200 = true) (h0 : 0 ≤ ticks) (hp : f.pkg.length ≤ 1048576) (hG : Gm w) :
    Calls Tryz.prog 47 #[.agg #[.slice a n c, .int .i64 kk, .slice da dn dc], .agg #[.slice ta tn tc], .agg #[.int .i64 (f).root, .string ⟨(f).pkg.toArray⟩, .string ⟨(f).name.toArray⟩, .bool (f).init, .int .i64 (f).stamp, bv], .int .i64 ticks] w fun e w' => ∃ v, e = .returned (.tuple #[v, .bool (chB l' kk dl f.root f.pkg ticks)]) ∧
      (chB l' kk dl f.root f.pkg ticks = false → v = .agg #[.slice none 0 0, .int .i64 0, .slice none 0 0]) ∧
      (chB l' kk dl f.root f.pkg ticks = true → ∃ ra rc, v = .agg #[.slice ta tn tc, .int .i64 (kk + ticks), .slice ra (chD dl f.root f.pkg (kk + ticks)).length rc] ∧ DirsO w' w.heap.size ra (chD dl f.root f.pkg (kk + ticks)).length rc (chD dl f.root f.pkg (kk + ticks))) ∧ X w w' := by
  obtain ⟨hk0, hk1⟩ := rangeB_iff.1 hk
  by_cases ht : (200 : Int) < ticks
  · have hch : chB l' kk dl f.root f.pkg ticks = false := by
      unfold chB
      rw [show rangeB ticks 0 200 = false from by rw [Bool.eq_false_iff, Ne, rangeB_iff]; omega, Bool.false_and]
    rw [hch]
    go_enter Tryz.func47, Tryz.ntmps47
    go_wp2
    refine bodyPost_ret (v := .tuple #[.agg #[.slice none 0 0, .int .i64 0, .slice none 0 0], .bool false]) (by simp [results, Tryz.results47, go_sem, Result.andThen]) rfl ?_
    exact ⟨_, rfl, fun _ => rfl, fun h => (by cases h), by (repeat (first | with_reducible exact X.refl _ | with_reducible assumption | with_reducible refine X.setCell ?_ (by first | (simp; done) | (simp; omega)) _ | with_reducible refine X.ext ?_ _ | with_reducible refine X.alloc ?_ _ | with_reducible refine X.drew ?_))⟩
  obtain ⟨st, hst⟩ : ∃ st, st = kk + ticks := ⟨_, rfl⟩
  have hst2 : IntKind.i64.wrap (kk + ticks) = st := by rw [hst]; exact IntWalk.i64_in _ (by omega)
  obtain ⟨ps, hps⟩ : ∃ ps, pathsL f.pkg = ps := ⟨_, rfl⟩
  obtain ⟨cl, hcl⟩ : ∃ cl, chD dl f.root f.pkg (kk + ticks) = cl := ⟨_, rfl⟩
  have hclp : stampsL dl f.root ps st = cl := by rw [← hcl, chD, hps, hst]
  obtain ⟨ok, hok⟩ : ∃ ok, chB l' kk dl f.root f.pkg ticks = ok := ⟨_, rfl⟩
  have hok2 : diskB l' st cl = ok := by
    rw [← hok, chB, hcl, hst, show rangeB ticks 0 200 = true from rangeB_iff.2 (by omega), Bool.true_and]
  rw [hcl, hok, ← hst]
  obtain ⟨hpl4, hpl12⟩ := paths_len (p := f.pkg)
  rw [hps] at hpl4 hpl12
  have hdl := hD.len.1
  have okD := hD.okD
  have hokj : ∀ j, OkD (stampsL dl f.root (ps.take j) st) ∧ (stampsL dl f.root (ps.take j) st).length ≤ 1000004 := fun j => by
    have h1 : (ps.take j).length ≤ 4 := by rw [List.length_take]; omega
    obtain ⟨h2, h3⟩ := okD_stamps (r := f.root) (st := st) (ps.take j) dl 1000000 okD (by omega) (by omega) (fun p hp => Nat.le_trans (hpl12 p (List.mem_of_mem_take hp)) (by omega))
    exact ⟨h2, by omega⟩
  have hnxj := fun j (hj : j < ps.length) => @stamps_next dl f.root st ps j hj
  have Hst := Lib.hid hst
  have Hps := Lib.hid hps
  have Hclp := Lib.hid hclp
  have Hok2 := Lib.hid hok2
  have Hpl12 := Lib.hid hpl12
  have Hokj := Lib.hid hokj
  have Hnxj := Lib.hid hnxj
  have Hdl := Lib.hid hdl
  clear hst hps hcl hclp hok hok2 hpl12 hokj hnxj hdl hk okD
  go_enter Tryz.func47, Tryz.ntmps47
  go_wp2
  refine wp_name (fun W0 hW0 => ?_)
  obtain ⟨hD0, hT0, hF0, hR0, hX0⟩ := bx4d hW0
  have hsz0 : w.heap.size + 4 = W0.heap.size := by rw [hW0]; simp
  clear hW0
  have hDl := hD.mono (hX0.fr _)
  refine wp_region_inv (fun L v W => X W0 W
      ∧ (L 10 = true → L 9 = true)
      ∧ (L 8 = true → L 7 = true)
      ∧ (L 10 = true → L 8 = true)
      ∧ (L 0 = true → v 0 = .agg #[.slice ta tn tc])
      ∧ (L 1 = true → v 1 = .pointer (some ⟨w.heap.size, 1, none⟩))
      ∧ (L 2 = true → v 2 = .int .i64 kk)
      ∧ (L 3 = true → v 3 = .int .i64 ticks)
      ∧ (L 4 = true → v 4 = .int .i64 st)
      ∧ (L 5 = true → v 5 = .pointer (some ⟨w.heap.size, 2, none⟩))
      ∧ (L 6 = true → v 6 = .slice da dn dc)
      ∧ (L 7 = true → ∃ ra rc, v 7 = .slice ra dn rc ∧ DirsO W W0.heap.size ra dn rc dl)
      ∧ (L 8 = true → ∃ ra rc, v 8 = .agg #[.slice ta tn tc, .int .i64 st, .slice ra dn rc] ∧ DirsO W W0.heap.size ra dn rc dl)
      ∧ (L 9 = true → ∃ g, v 9 = .pointer (some ⟨g, 0, none⟩) ∧ W0.heap.size ≤ g ∧ (L 10 = false → W.heap[g]? = some (.cells #[.slice none 0 0, .int .i64 0, .slice none 0 0] 38 (0, 0))))
      ∧ (L 10 = true → ∃ g ra rc, v 9 = .pointer (some ⟨g, 0, none⟩) ∧ W0.heap.size ≤ g ∧ W.heap[g]? = some (.cells #[.slice ta tn tc, .int .i64 st, .slice ra dn rc] 38 (0, 0)) ∧ DirsO W W0.heap.size ra dn rc dl)) (by kernel_rfl) (by kernel_rfl) ?_ ?_ (l := [(17, 0), (18, 1), (19, 2), (20, 3), (21, 4), (22, 5), (23, 6), (24, 7), (25, 8), (10, 9)]) (by kernel_rfl) (n := 11) rfl ?_
  · intro v
    exact ⟨(X.refl _).drew, fun h => Bool.noConfusion h, fun h => Bool.noConfusion h, fun h => Bool.noConfusion h, fun h => Bool.noConfusion h, fun h => Bool.noConfusion h, fun h => Bool.noConfusion h, fun h => Bool.noConfusion h, fun h => Bool.noConfusion h, fun h => Bool.noConfusion h, fun h => Bool.noConfusion h, fun h => Bool.noConfusion h, fun h => Bool.noConfusion h, fun h => Bool.noConfusion h, fun h => Bool.noConfusion h⟩
  · intro i hi
    have hi' : i = 0 ∨ i = 1 ∨ i = 2 ∨ i = 3 ∨ i = 4 ∨ i = 5 ∨ i = 6 ∨ i = 7 ∨ i = 8 ∨ i = 9 ∨ i = 10 := by
      have : i < 11 := hi
      omega
    clear hi
    rcases hi' with rfl | rfl | rfl | rfl | rfl | rfl | rfl | rfl | rfl | rfl | rfl
    all_goals
      intro o ho L v aa W hI hS hL hA K hK
      cases (show some _ = some o from ho)
      obtain ⟨xx, dp, d8, d10, v0, v1, v2, v3, v4, v5, v6, v7, v8, v9, fin⟩ := hI
    · have a5 := hS.old 5 (by kernel_rfl) rfl
      obtain ⟨lt, ct, _⟩ := (hT0.x xx).out
      have e := ct 0
      clear ct
      clear hS ho hA
      go_simp
      exact hK _ W ⟨xx, dp, d8, d10, fun _ => rfl, v1, v2, v3, v4, v5, v6, v7, v8, v9, fin⟩
    · have a0 := hS.old 4 (by kernel_rfl) rfl
      clear hS ho hA
      go_simp
      exact hK _ W ⟨xx, dp, d8, d10, v0, fun _ => rfl, v2, v3, v4, v5, v6, v7, v8, v9, fin⟩
    · have l1 : L 1 = true := hA ⟨1, .data⟩ (by simp) rfl
      have a1 := hS.get 1 18 rfl l1 (v1 l1)
      obtain ⟨lt, ct, _⟩ := (hD0.x xx).out
      have e := ct 1
      clear ct
      clear hS ho hA
      go_simp
      exact hK _ W ⟨xx, dp, d8, d10, v0, v1, fun _ => rfl, v3, v4, v5, v6, v7, v8, v9, fin⟩
    · have a0 := hS.old 3 (by kernel_rfl) rfl
      clear hS ho hA
      go_simp
      exact hK _ W ⟨xx, dp, d8, d10, v0, v1, v2, fun _ => rfl, v4, v5, v6, v7, v8, v9, fin⟩
    · have l2 : L 2 = true := hA ⟨2, .data⟩ (by simp) rfl
      have l3 : L 3 = true := hA ⟨3, .data⟩ (by simp) rfl
      have a2 := hS.get 2 19 rfl l2 (v2 l2)
      have a3 := hS.get 3 20 rfl l3 (v3 l3)
      clear hS ho hA
      go_simp
      exact hK _ W ⟨xx, dp, d8, d10, v0, v1, v2, v3, fun _ => rfl, v5, v6, v7, v8, v9, fin⟩
    · have a0 := hS.old 4 (by kernel_rfl) rfl
      clear hS ho hA
      go_simp
      exact hK _ W ⟨xx, dp, d8, d10, v0, v1, v2, v3, v4, fun _ => rfl, v6, v7, v8, v9, fin⟩
    · have l5 : L 5 = true := hA ⟨5, .data⟩ (by simp) rfl
      have a5 := hS.get 5 22 rfl l5 (v5 l5)
      obtain ⟨lt, ct, _⟩ := (hD0.x xx).out
      have e := ct 2
      clear ct
      clear hS ho hA
      go_simp
      exact hK _ W ⟨xx, dp, d8, d10, v0, v1, v2, v3, v4, v5, fun _ => rfl, v7, v8, v9, fin⟩
    · have l6 : L 6 = true := hA ⟨6, .data⟩ (by simp) rfl
      have a6 := hS.get 6 23 rfl l6 (v6 l6)
      have n10 : L 10 = false := by rcases h : L 10 with _ | _; (· rfl); (· have := d8 (d10 h); simp [hL] at this)
      clear hS ho hA
      go_simp
      refine (cloneDirs_c dl da dn dc Bd W (hDl.mono (xx.fr _))).mono ?_
      rintro _ w' ⟨ra, rc, rfl, hO, hx⟩
      exact hK _ w' ⟨xx.trans hx, dp, fun _ => rfl, d10, v0, v1, v2, v3, v4, v5, v6, fun _ => ⟨ra, rc, rfl, hO.less xx.size⟩, fun h => let ⟨ra, rc, e, ho⟩ := v8 h; ⟨ra, rc, e, ho.fr (hx.fr _)⟩, fun h => let ⟨g, e, hg, hb⟩ := v9 h; ⟨g, e, hg, fun h => at_x2' (hb h) hx⟩, fun h => Bool.noConfusion (n10.symm.trans h)⟩
    · have l0 : L 0 = true := hA ⟨0, .data⟩ (by simp) rfl
      have l4 : L 4 = true := hA ⟨4, .data⟩ (by simp) rfl
      have l7 : L 7 = true := hA ⟨7, .data⟩ (by simp) rfl
      have a0 := hS.get 0 17 rfl l0 (v0 l0)
      have a4 := hS.get 4 21 rfl l4 (v4 l4)
      obtain ⟨ra, rc, e7, hq⟩ := v7 l7
      have a7 := hS.get 7 24 rfl l7 e7
      have n10 : L 10 = false := by rcases h : L 10 with _ | _; (· rfl); (· have := d10 h; simp [hL] at this)
      clear hS ho hA
      go_simp
      exact hK _ W ⟨xx, dp, fun _ => l7, fun h => Bool.noConfusion (n10.symm.trans h), v0, v1, v2, v3, v4, v5, v6, v7, fun _ => ⟨ra, rc, rfl, hq⟩, v9, fin⟩
    · have n10 : L 10 = false := by rcases h : L 10 with _ | _; (· rfl); (· have := dp h; simp [hL] at this)
      clear hS ho hA
      go_simp
      exact hK _ _ ⟨xx.alloc _, fun _ => rfl, d8, d10, v0, v1, v2, v3, v4, v5, v6, fun h => let ⟨ra, rc, e, ho⟩ := v7 h; ⟨ra, rc, e, ho.fr (((X.refl W).alloc _).fr _)⟩, fun h => let ⟨ra, rc, e, ho⟩ := v8 h; ⟨ra, rc, e, ho.fr (((X.refl W).alloc _).fr _)⟩, fun _ => ⟨_, rfl, xx.size, fun _ => heap_alloc_new _ _⟩, fun h => Bool.noConfusion (n10.symm.trans h)⟩
    · have l8 : L 8 = true := hA ⟨8, .data⟩ (by simp) rfl
      have l9 : L 9 = true := hA ⟨9, .data⟩ (by simp) rfl
      obtain ⟨ra, rc, e8, hq⟩ := v8 l8
      obtain ⟨g, e9, hg, hb0⟩ := v9 l9
      have hb := hb0 hL
      have a8 := hS.get 8 25 rfl l8 e8
      have a9 := hS.get 9 10 rfl l9 e9
      obtain ⟨lb, cb, fb0⟩ := Bx.out ⟨_, hb⟩
      have f0 := fb0 0
      have f1 := fb0 1
      have f2 := fb0 2
      have c0 := cb 0
      have c1 := cb 1
      have c2 := cb 2
      clear fb0 cb
      clear hS ho hA
      go_simp
      exact hK undef _ ⟨x_set3 xx hg _ _ _, fun _ => l9, d8, fun _ => l8, v0, v1, v2, v3, v4, v5, v6, fun h => let ⟨ra, rc, e, ho⟩ := v7 h; ⟨ra, rc, e, (((ho.far hb (by decide) (by decide) _ _).far (heap_set1 hb) (by decide) (by decide) _ _).far (heap_set2 hb) (by decide) (by decide) _ _)⟩, fun h => let ⟨ra, rc, e, ho⟩ := v8 h; ⟨ra, rc, e, (((ho.far hb (by decide) (by decide) _ _).far (heap_set1 hb) (by decide) (by decide) _ _).far (heap_set2 hb) (by decide) (by decide) _ _)⟩, fun _ => ⟨g, e9, hg, fun h => Bool.noConfusion h⟩, fun _ => ⟨g, ra, rc, e9, hg, heap_set3 hb _ _ _, (((hq.far hb (by decide) (by decide) _ _).far (heap_set1 hb) (by decide) (by decide) _ _).far (heap_set2 hb) (by decide) (by decide) _ _)⟩⟩
  · intro v W hI
    obtain ⟨xx, dp, d8, d10, v0, v1, v2, v3, v4, v5, v6, v7, v8, v9, fin⟩ := hI
    obtain ⟨g, ra, rc, e9, hg, hb, hO⟩ := fin rfl
    clear fin v0 v1 v2 v3 v4 v5 v6 v7 v8 v9 dp d8 d10
    simp only [putL, List.foldl, List.setIfInBounds_toArray, List.set_cons_zero, List.set_cons_succ, e9]
    clear e9
    have hXW := hX0.trans xx
    have hzW := xx.size
    obtain ⟨vs0, hvl0, hvs0, hV0⟩ := hO.v
    rw [hvl0] at hb
    have HV0 := Lib.hid (And.intro hvl0 hvs0)
    clear hO hvl0 hvs0
    have hFW := hF0.x xx
    obtain ⟨lf, cf, _⟩ := hFW.out
    have f1 := cf 1
    clear cf
    go_wp2_with (first
      | (go_at_call 75; refine (NamesAbove_p f.pkg _ (by omega) (hG.mono (hXW.trans (by (repeat (first | with_reducible exact X.refl _ | with_reducible assumption | with_reducible refine X.setCell ?_ (by first | (simp; done) | (simp; omega)) _ | with_reducible refine X.ext ?_ _ | with_reducible refine X.alloc ?_ _ | with_reducible refine X.drew ?_)))))).mono ?_; rintro _ w5 ⟨pa, pc, rfl, hOa, hx5⟩; have hX5 : X W w5 := X.trans (by (repeat (first | with_reducible exact X.refl _ | with_reducible assumption | with_reducible refine X.setCell ?_ (by first | (simp; done) | (simp; omega)) _ | with_reducible refine X.ext ?_ _ | with_reducible refine X.alloc ?_ _ | with_reducible refine X.drew ?_))) hx5; have hL5 := own_fr (own_lit (w := W) (cs := #[.string ⟨#[]⟩]) (e := 9) (B := W.heap.size) (g := W.heap.size) (size := 1) (n := 1) rfl (Nat.le_refl _) rfl (by omega)) (hx5.fr _); have hal : (aboveP f.pkg).length ≤ 3 := by have := hpl4; rw [← Hps.out, pathsL, List.length_cons] at this; omega)
      | (at_builtin; refine wpList_append_sl str_T rfl _ _ rfl hL5 rfl rfl (Sl.of_own hOa) (by rw [strs_lenD, Nat.mul_one]) (strs_oneD _) (by omega) (by unfold maxLen; omega) (by have := hX5.size; omega) ?_; intro pa' pc' w6 hP6 hg6))
    obtain ⟨M, hMd⟩ : ∃ M, M = 1 + (aboveP f.pkg).length := ⟨_, rfl⟩
    have hML : ps.length = M := by rw [← Hps.out, pathsL, List.length_cons, hMd]; omega
    have hM4 : M ≤ 4 := by omega
    have hX6 : X W w6 := X.of_below (hX5.below.grown hg6 hX5.size (fun k hk => by simp [Value.ownBlock] at hk; omega))
    have hP6' : w6.ownsRow W0.heap.size 9 1 (.slice pa' M pc') M (strs ps) := by
      rw [hMd, ← Hps.out]
      exact own_less hP6 hzW
    rw [← hMd]
    have hbB := at_x2' hb hX6
    have hVB := hV0.fr (hX6.fr W0.heap.size)
    have hXB := xx.trans hX6
    have HML := Lib.hid hML
    have HMd := Lib.hid hMd
    clear hMd hML hP6 hg6 hL5 hOa hX5 hx5 hb hV0 f1 lf hFW hX6 hal
    go_loopw [12, 13, 32] (fun _ _ i wr => ∃ (j : Nat) (vs : List (Di × Value)) (ra' : Option Addr) (rc' : Nat), j ≤ M ∧ i = .int .i64 j ∧ vs.map (·.1) = stampsL dl f.root (ps.take j) st ∧ wr.heap[g]? = some (.cells #[.slice ta tn tc, .int .i64 st, .slice ra' vs.length rc'] 38 (0, 0)) ∧
        DirsV wr W0.heap.size ra' rc' vs ∧ wr.ownsRow W0.heap.size 9 1 (.slice pa' M pc') M (strs ps) ∧ X W0 wr) (fun _ _ i _ => M - (intOf i).toNat)
    case atStart => exact ⟨0, vs0, ra, rc, Nat.zero_le _, rfl, HV0.out.2, hbB, hVB, hP6', hXB⟩
    case round =>
      obtain ⟨j, vs, ra', rc', hj, rfl, hvs, hgb, hV, hP, hX⟩ := hrel
      clear hbB hVB hP6' hXB hXW xx
      have hbj := Hokj.out j
      rw [← hvs] at hbj
      obtain ⟨okj, lnj⟩ := hbj
      rw [List.length_map] at lnj
      have hDA := hV.o.at okj
      have hzr := hX.size
      obtain ⟨lg, cg, fg⟩ := Bx.out ⟨_, hgb⟩
      have e0 := cg 0
      have e1 := cg 1
      have e2 := cg 2
      clear cg
      have Hvs := Lib.hid hvs
      clear hvs
      by_cases hlt : j < M
      · have hlt2 : (j : Int) < 1 + ((aboveP f.pkg).length : Int) := by have := HMd.out; omega
        have hSP := strsAt_of hP HML.out (by omega) (fun s hs => Nat.le_trans (Hpl12.out s hs) (by omega))
        obtain ⟨pb, poff, rfl, _, hpb, hpc, _⟩ := hSP.at_ hlt
        have hnx := Hnxj.out j (by rw [HML.out]; exact hlt)
        rw [← Hvs.out] at hnx
        generalize nth ps j = q at *
        have Hnx := Lib.hid hnx
        clear hnx hSP
        obtain ⟨lf, cf, _⟩ := (hF0.x hX).out
        have f0 := cf 0
        clear cf
        have hdx : didx (vs.map (·.1)) f.root q vs.length = didxL (vs.map (·.1)) f.root q := by unfold didxL; rw [List.length_map]
        rcases didxL_cases (vs.map (·.1)) f.root q with ⟨hd, _⟩ | ⟨k, hkl, hd, _, _⟩
        · have hst2 := stD_none (st := st) hd
          have Hst2 := Lib.hid hst2
          rw [hd] at hdx
          have Hdx := Lib.hid hdx
          clear hst2 hd hdx
          have hrow := hV.1
          go_upto_region 11 with (first
            | (go_at_call 105; refine (dirAt_i (vs.map (·.1)) ra' vs.length vs.length rc' _ f.root q wr hDA (Nat.le_refl _)).mono ?_; rintro _ w7 ⟨rfl, hx7⟩; rw [Hdx.out]; have hgb7 := at_x2' hgb hx7; obtain ⟨lg7, cg7, fg7⟩ := Bx.out ⟨_, hgb7⟩; have e7 := cg7 2; clear cg7; obtain ⟨lf7, cf7, _⟩ := ((hF0.x hX).x hx7).out; have f7 := cf7 0; clear cf7)
            | (at_builtin; refine wpList_append_g dir_T' rfl _ _ rfl (own_fr hrow (X.fr (X.alloc hx7 (.cells #[] 9)) _)) rfl rfl (by simp) rfl (by simp [Value.oneCell']) (by omega) (by omega) (by have := hx7.size; first | omega | (simp; omega)) ?_; intro a8 c8 w8 hO8 hg8; obtain ⟨g8, rfl, _, hgl8⟩ := own_form hO8 (by omega); have hX8 : X wr (((w7.alloc (.cells #[] 9))).alloc (.cells #[.int .i64 f.root, .string ⟨(q).toArray⟩, .int .i64 0, .slice (some ⟨w7.heap.size, 0, none⟩) 0 0] 140)) := (hx7.alloc _).alloc _; have hgb8 := at_grown (at_x2' hgb hX8) hg8 (own_ne_at hrow hgb (by decide)); obtain ⟨lg8, cg8, fg8⟩ := Bx.out ⟨_, hgb8⟩; have u0 := cg8 0; have u1 := cg8 1; have u2 := cg8 2; clear cg8))
          refine wp_name (fun W9 hW9 => ?_)
          have hne8 : g8 ≠ g := fun e => own_ne_at hO8 hgb8 (by decide) (by rw [e]; rfl)
          have hgb9 : W9.heap[g]? = some (.cells #[.slice ta tn tc, .int .i64 st, .slice (some ⟨g8, 0, none⟩) (vs.length + 1) c8] 38 (0, 0)) := by rw [hW9]; simpa using heap_setCell_same w8 g 2 _ _ (.slice (some ⟨g8, 0, none⟩) (vs.length + 1) c8) hgb8
          have hN8 : ((w7.alloc (.cells #[] 9)).alloc (.cells #[.int .i64 f.root, .string ⟨(q).toArray⟩, .int .i64 0, .slice (some ⟨w7.heap.size, 0, none⟩) 0 0] 140)).ownsRow W0.heap.size 9 1 (.slice (some ⟨w7.heap.size, 0, none⟩) 0 0) 0 [] :=
            own_less ((own_lit (w := w7) (cs := #[]) (e := 9) (B := w7.heap.size) (g := w7.heap.size) (size := 1) (n := 0) rfl (Nat.le_refl _) rfl (by omega)).alloc _) (Nat.le_trans hzr hx7.size)
          have hV8 := DirsV.snoc (d := ⟨f.root, q, 0, []⟩) (ba := some ⟨w7.heap.size, 0, none⟩) (bc := 0) (hV.fr (hX8.fr _)) hO8 hg8 hN8 (fun x hx => by
            obtain ⟨p, q', e, ho⟩ := hV.2.2 x hx
            refine .inr ?_
            rw [e]
            cases hb : (Value.slice p x.1.names.length q').ownBlock with
            | none => exact .inl rfl
            | some y =>
              refine .inr fun e2 => ?_
              have h1 := (ho.lt y hb).2
              have h2 : w7.heap.size = y := by simpa [Value.ownBlock] using e2
              have h3 := hx7.size
              omega)
          have hV9 : DirsV W9 W0.heap.size (some ⟨g8, 0, none⟩) c8 (vs ++ [(⟨f.root, q, 0, []⟩, .slice (some ⟨w7.heap.size, 0, none⟩) 0 0)]) := by rw [hW9]; exact hV8.far hgb8 (by decide) (by decide) _ _
          have hrow8 := own_fr hP (hX8.fr _)
          have hP9 : W9.ownsRow W0.heap.size 9 1 (.slice (some ⟨pb, poff, none⟩) M pc') M (strs ps) := by
            rw [hW9]
            exact own_set_far (hrow8.kept hg8 (row_ne hrow8 (own_fr hrow (hX8.fr _)) (by decide))) hgb8 (by decide) _ _
          have hX9 : X W0 W9 := by
            rw [hW9]
            refine X.setCell (X.of_below ((hX.trans hX8).below.grown hg8 (hX.trans hX8).size (fun k hk => (hrow.lt k hk).1))) ?_ _
            exact hg
          obtain ⟨h91, h92, h93⟩ := hV9
          have hmm : (vs ++ [((⟨f.root, q, 0, []⟩ : Di), Value.slice (some ⟨w7.heap.size, 0, none⟩) 0 0)]).length = vs.length + 1 := by rw [List.length_append, List.length_singleton]
          have hV9 : DirsV W9 W0.heap.size (some ⟨g8, 0, none⟩) c8 (vs ++ [(⟨f.root, q, 0, []⟩, .slice (some ⟨w7.heap.size, 0, none⟩) 0 0)]) := ⟨h91, h92, h93⟩
          have HV9 := Lib.hid hV9
          rw [hmm] at h91
          have Hmm := Lib.hid hmm
          obtain ⟨l9, c9, f9⟩ := Bx.out ⟨_, hgb9⟩
          have y1 := c9 1
          have y2 := c9 2
          have hf9 := (h91).frozenAt (vs.length * 4 + 2); obtain ⟨u9, hu9⟩ := own_here h91 (j := vs.length * 4 + 2) (by omega)
          have gl9 := (h91.lt g8 rfl).2
          have hkx : (vs.length : Int) < (vs.length : Int) + 1 := by omega
          clear c9 hW9 hgb8 u0 u1 u2 lg8 fg8 hO8 hg8 hX8 hgb7 lg7 fg7 e7 lf7 f7 hx7 hV hP hgb hDA e0 e1 e2 lg fg lf f0 hV8 hN8 hrow8 hrow hV9 h92 h93 hmm
          go_wp2
          go_roundw
          case rel =>
            have hst3 := HV9.out.stamp (k := vs.length) (by rw [Hmm.out]; omega) st
            refine ⟨j + 1, _, some ⟨g8, 0, none⟩, c8, by omega, by go_num, ?_, ?_, hst3, own_set_far hP9 (own_block h91).choose_spec (by decide) _ _, X.setCell hX9 (by exact (h91.lt g8 rfl).1) _⟩
            · (try rw [Hnx.out])
              rw [Hst2.out, List.map_set, List.map_append]
              rw [show nth (vs ++ [((⟨f.root, q, 0, []⟩ : Di), Value.slice (some ⟨w7.heap.size, 0, none⟩) 0 0)]) vs.length = (⟨f.root, q, 0, []⟩, .slice (some ⟨w7.heap.size, 0, none⟩) 0 0) from by
                have := nth_append_right (l := vs) (m := [((⟨f.root, q, 0, []⟩ : Di), Value.slice (some ⟨w7.heap.size, 0, none⟩) 0 0)]) (k := 0)
                rw [Nat.add_zero] at this
                rw [this]; rfl]
              rw [List.set_append_right _ _ (by rw [List.length_map]; exact Nat.le_refl _), List.length_map, Nat.sub_self]
              rfl
            · rw [Below.heap_setCell _ _ _ _ (by exact fun e => hne8 e.symm), List.length_set, Hmm.out]; exact hgb9
          case measure => simp [intOf]; omega
        · have hst2 := stD_some (st := st) hd
          have Hst2 := Lib.hid hst2
          rw [hd] at hdx
          have Hdx := Lib.hid hdx
          rw [List.length_map] at hkl
          clear hst2 hd hdx
          obtain ⟨g8, rfl, hg8B, hgl8⟩ := own_form hV.1 (by omega)
          have hne8 : g8 ≠ g := fun e => own_ne_at hV.1 hgb (by decide) (by rw [e]; rfl)
          have hk0' : (0 : Int) ≤ (k : Int) := by omega
          go_upto_region 11 with ((go_at_call 105; refine (dirAt_i (vs.map (·.1)) _ vs.length vs.length rc' _ f.root q wr hDA (Nat.le_refl _)).mono ?_; rintro _ W9 ⟨rfl, hx7⟩; rw [Hdx.out]))
          have hgb9 := at_x2' hgb hx7
          have hV9 := hV.fr (hx7.fr W0.heap.size)
          have hP9 := own_fr hP (hx7.fr _)
          have hX9 := hX.trans hx7
          obtain ⟨l9, c9, f9⟩ := Bx.out ⟨_, hgb9⟩
          have y1 := c9 1
          have y2 := c9 2
          have h91 := hV9.1
          have hf9 := (h91).frozenAt (k * 4 + 2); obtain ⟨u9, hu9⟩ := own_here h91 (j := k * 4 + 2) (by omega)
          have gl9 := (h91.lt g8 rfl).2
          have hkx : (k : Int) < (vs.length : Int) := by omega
          have HV9 := Lib.hid hV9
          have Hkl := Lib.hid hkl
          clear c9 hx7 hV hP hgb hDA e0 e1 e2 lg fg lf f0 hV9
          go_wp2
          go_roundw
          case rel =>
            have hst3 := HV9.out.stamp (k := k) Hkl.out st
            refine ⟨j + 1, _, some ⟨g8, 0, none⟩, rc', by omega, by go_num, ?_, ?_, hst3, own_set_far hP9 (own_block h91).choose_spec (by decide) _ _, X.setCell hX9 (by exact (h91.lt g8 rfl).1) _⟩
            · (try rw [Hnx.out])
              rw [Hst2.out, List.map_set, nth_map_fstD Hkl.out]
            · rw [Below.heap_setCell _ _ _ _ (by exact fun e => hne8 e.symm), List.length_set]; exact hgb9
          case measure => simp [intOf]; omega
      · obtain rfl : j = M := by omega
        have hlt2 : ¬ (j : Int) < 1 + ((aboveP f.pkg).length : Int) := by have := HMd.out; omega
        have hcl : vs.map (·.1) = cl := by rw [Hvs.out, List.take_of_length_le (by rw [HML.out]; exact Nat.le_refl _), Hclp.out]
        have hO9 := hV.o
        have hdc := own_cap hV.1
        rw [hcl] at hDA hO9
        have hln : vs.length = cl.length := by rw [← hcl, List.length_map]
        rw [hln] at hDA hO9 hdc e2
        have hRr := hR0.x hX
        have hTr := (hT.mono (hX0.fr _)).mono (hX.fr _)
        have hGr := hG.mono (hX0.trans hX)
        clear hgb fg hV hP okj lnj hcl hln
        cases ok
        · go_wp2_with (go_at_call 32; refine (ValidDisk_i l' ta tn tc st cl ra' cl.length rc' 0 wr (hTr.less (Nat.zero_le _)) htc (hDA.less (Nat.zero_le _)) hdc hGr).mono ?_; rintro _ w6 ⟨rfl, hx6⟩; rw [Hok2.out]; obtain ⟨lr, cr, fr⟩ := (hRr.x hx6).out; have r0 := cr 0; have r1 := cr 1; have r2 := cr 2; clear cr)
          obtain ⟨_, c9, _⟩ := (Bx.set (Bx.set (Bx.set (hRr.x hx6) 0 (.slice none 0 0)) 1 (.int .i64 0)) 2 (.slice none 0 0)).out
          have q0 := c9 0
          have q1 := c9 1
          have q2 := c9 2
          clear c9
          refine bodyPost_ret (v := .tuple #[.agg #[.slice none 0 0, .int .i64 0, .slice none 0 0], .bool false]) (by simp [results, Tryz.results47, go_sem, Result.andThen, q0, q1, q2]) rfl ?_
          exact ⟨_, rfl, rfl, x_set3 (b := w.heap.size + 3) ((hX0.trans hX).trans hx6) (by omega) _ _ _⟩
        · go_wp2_with (go_at_call 32; refine (ValidDisk_i l' ta tn tc st cl ra' cl.length rc' 0 wr (hTr.less (Nat.zero_le _)) htc (hDA.less (Nat.zero_le _)) hdc hGr).mono ?_; rintro _ w6 ⟨rfl, hx6⟩; rw [Hok2.out]; have z0 := (hx6.cell (p := ⟨g, 0, none⟩) lg).trans e0; have z1 := (hx6.cell (p := ⟨g, 1, none⟩) lg).trans e1; have z2 := (hx6.cell (p := ⟨g, 2, none⟩) lg).trans e2; have lz := Nat.lt_of_lt_of_le lg hx6.size; obtain ⟨lr, cr, fr⟩ := (hRr.x hx6).out; have r0 := cr 0; have r1 := cr 1; have r2 := cr 2; clear cr)
          obtain ⟨_, c9, _⟩ := (Bx.set (Bx.set (Bx.set (hRr.x hx6) 0 (.slice ta tn tc)) 1 (.int .i64 st)) 2 (.slice ra' cl.length rc')).out
          have q0 := c9 0
          have q1 := c9 1
          have q2 := c9 2
          clear c9
          refine bodyPost_ret (v := .tuple #[.agg #[.slice ta tn tc, .int .i64 st, .slice ra' cl.length rc'], .bool true]) (by simp [results, Tryz.results47, go_sem, Result.andThen, q0, q1, q2]) rfl ?_
          have hlb : w.heap.size + 3 < W0.heap.size := hR0.lt
          refine ⟨_, rfl, ⟨ra', rc', rfl, ?_⟩, x_set3 (b := w.heap.size + 3) ((hX0.trans hX).trans hx6) (by omega) _ _ _⟩
          exact ((hO9.fr (hx6.fr _)).fr (Fr.set (Fr.set (Fr.set (Fr.refl _ _) (.inr hlb) _) (.inr hlb) _) (.inr hlb) _)).less hX0.size

end Go.Proofs.YtgjfjjhmgbemcaaGreatDoor
