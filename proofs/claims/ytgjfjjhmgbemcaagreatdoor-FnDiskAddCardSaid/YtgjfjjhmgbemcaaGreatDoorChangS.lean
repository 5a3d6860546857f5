/- A disk after a change, the reference's. No condition but lengths. -/
import Derived.Test.YtgjfjjhmgbemcaaGreatDoorStampS
namespace Go.Proofs.YtgjfjjhmgbemcaaGreatDoor
open Go.RowKit

theorem below_then2 {B C : Nat} {a b c : World} (h : Below B a b) (k : Below C b c) (hBC : B ≤ C) : Below B a c :=
  ⟨k.os.trans h.os, k.tape.trans h.tape, k.output.trans h.output, Nat.le_trans h.size k.size, fun i hi => (k.block i (Nat.lt_of_lt_of_le hi hBC)).trans (h.block i hi)⟩
set_option maxRecDepth 100000 in
set_option maxHeartbeats 4000000 in
theorem changed_s (l' : List Fi) (ta a : Option Addr) (tn tc n c : Nat) (kk ticks r : Int) (p : List UInt8) (dl : List Di) (da : Option Addr) (dn dc Bt Bd : Nat) (w : World) (hT : FilesAt w Bt ta tn l') (hD : DirsAt w Bd da dn dl) (hdn : dn ≤ 1000000) (hk : rangeB kk 0 200 = true) (ht : rangeB ticks 0 200 = true) (hp : pkgB p = true) :
    Calls Tryz.prog 42 #[.agg #[.slice a n c, .int .i64 kk, .slice da dn dc], .agg #[.slice ta tn tc], .int .i64 r, .string ⟨(p).toArray⟩, .int .i64 ticks] w fun e w' => ∃ v, e = .returned (.tuple #[v, .bool (chB l' kk dl r p ticks)]) ∧
      (chB l' kk dl r p ticks = false → v = .agg #[.slice none 0 0, .int .i64 0, .slice none 0 0]) ∧
      (chB l' kk dl r p ticks = true → ∃ ra rc, v = .agg #[.slice ta tn tc, .int .i64 (kk + ticks), .slice ra (chD dl r p (kk + ticks)).length rc] ∧ DirsO w' w.heap.size ra (chD dl r p (kk + ticks)).length rc (chD dl r p (kk + ticks))) ∧ X w w' := by
  obtain ⟨hk0, hk1⟩ := rangeB_iff.1 hk
  obtain ⟨h0, ht1⟩ := rangeB_iff.1 ht
  obtain ⟨st, hst⟩ : ∃ st, st = kk + ticks := ⟨_, rfl⟩
  have hst2 : IntKind.i64.wrap (kk + ticks) = st := by rw [hst]; exact IntWalk.i64_in _ (by omega)
  obtain ⟨cl, hcl⟩ : ∃ cl, chD dl r p (kk + ticks) = cl := ⟨_, rfl⟩
  have hclp : stampsL dl r (pathsL p) st = cl := by rw [← hcl, chD, hst]
  obtain ⟨ok, hok⟩ : ∃ ok, chB l' kk dl r p ticks = ok := ⟨_, rfl⟩
  have hok2 : diskB l' st cl = ok := by
    rw [← hok, chB, hcl, hst, ht, Bool.true_and]
  rw [hcl, hok, ← hst]
  have okD := hD.okD
  have okC : OkD cl := by
    obtain ⟨hpl4, hpl12⟩ := paths_len (p := p)
    have hdl := hD.len.1
    rw [← hclp]
    exact (okD_stamps (r := r) (st := st) (pathsL p) dl 1000000 okD (by omega) (by omega) (fun q hq => Nat.le_trans (hpl12 q hq) (by omega))).1
  have Hst := Lib.hid hst
  have Hclp := Lib.hid hclp
  have Hok2 := Lib.hid hok2
  clear hst hcl hclp hok hok2 hk ht
  go_enter Tryz.func42, Tryz.ntmps42
  go_wp2
  refine wp_name (fun W0 hW0 => ?_)
  obtain ⟨hD0, hT0, hR0, hX0⟩ := bx3 hW0
  have hsz0 : w.heap.size + 3 = W0.heap.size := by rw [hW0]; simp
  clear hW0
  have hDl := hD.mono (hX0.fr _)
  refine wp_region_inv (fun L v W => X W0 W
      ∧ (L 10 = true → L 9 = true)
      ∧ (L 8 = true → L 7 = true)
      ∧ (L 10 = true → L 8 = true)
      ∧ (L 0 = true → v 0 = .agg #[.slice ta tn tc])
      ∧ (L 1 = true → v 1 = .pointer (some ⟨w.heap.size, 1, none⟩))
      ∧ (L 2 = true → v 2 = .int .i64 kk)
      ∧ (L 3 = true → v 3 = .int .i64 ticks)
      ∧ (L 4 = true → v 4 = .int .i64 st)
      ∧ (L 5 = true → v 5 = .pointer (some ⟨w.heap.size, 2, none⟩))
      ∧ (L 6 = true → v 6 = .slice da dn dc)
      ∧ (L 7 = true → ∃ ra rc, v 7 = .slice ra dn rc ∧ DirsO W W0.heap.size ra dn rc dl)
      ∧ (L 8 = true → ∃ ra rc, v 8 = .agg #[.slice ta tn tc, .int .i64 st, .slice ra dn rc] ∧ DirsO W W0.heap.size ra dn rc dl)
      ∧ (L 9 = true → ∃ g, v 9 = .pointer (some ⟨g, 0, none⟩) ∧ W0.heap.size ≤ g ∧ (L 10 = false → W.heap[g]? = some (.cells #[.slice none 0 0, .int .i64 0, .slice none 0 0] 38 (0, 0))))
      ∧ (L 10 = true → ∃ g ra rc, v 9 = .pointer (some ⟨g, 0, none⟩) ∧ W0.heap.size ≤ g ∧ W.heap[g]? = some (.cells #[.slice ta tn tc, .int .i64 st, .slice ra dn rc] 38 (0, 0)) ∧ DirsO W W0.heap.size ra dn rc dl)) (by kernel_rfl) (by kernel_rfl) ?_ ?_ (l := [(13, 0), (14, 1), (15, 2), (16, 3), (17, 4), (18, 5), (19, 6), (20, 7), (21, 8), (12, 9)]) (by kernel_rfl) (n := 11) rfl ?_
  · intro v
    exact ⟨(X.refl _).drew, fun h => Bool.noConfusion h, fun h => Bool.noConfusion h, fun h => Bool.noConfusion h, fun h => Bool.noConfusion h, fun h => Bool.noConfusion h, fun h => Bool.noConfusion h, fun h => Bool.noConfusion h, fun h => Bool.noConfusion h, fun h => Bool.noConfusion h, fun h => Bool.noConfusion h, fun h => Bool.noConfusion h, fun h => Bool.noConfusion h, fun h => Bool.noConfusion h, fun h => Bool.noConfusion h⟩
  · intro i hi
    have hi' : i = 0 ∨ i = 1 ∨ i = 2 ∨ i = 3 ∨ i = 4 ∨ i = 5 ∨ i = 6 ∨ i = 7 ∨ i = 8 ∨ i = 9 ∨ i = 10 := by
      have : i < 11 := hi
      omega
    clear hi
    rcases hi' with rfl | rfl | rfl | rfl | rfl | rfl | rfl | rfl | rfl | rfl | rfl
    all_goals
      intro o ho L v aa W hI hS hL hA K hK
      cases (show some _ = some o from ho)
      obtain ⟨xx, dp, d8, d10, v0, v1, v2, v3, v4, v5, v6, v7, v8, v9, fin⟩ := hI
    · have a5 := hS.old 6 (by kernel_rfl) rfl
      obtain ⟨lt, ct, _⟩ := (hT0.x xx).out
      have e := ct 0
      clear ct
      clear hS ho hA
      go_simp
      exact hK _ W ⟨xx, dp, d8, d10, fun _ => rfl, v1, v2, v3, v4, v5, v6, v7, v8, v9, fin⟩
    · have a0 := hS.old 5 (by kernel_rfl) rfl
      clear hS ho hA
      go_simp
      exact hK _ W ⟨xx, dp, d8, d10, v0, fun _ => rfl, v2, v3, v4, v5, v6, v7, v8, v9, fin⟩
    · have l1 : L 1 = true := hA ⟨1, .data⟩ (by simp) rfl
      have a1 := hS.get 1 14 rfl l1 (v1 l1)
      obtain ⟨lt, ct, _⟩ := (hD0.x xx).out
      have e := ct 1
      clear ct
      clear hS ho hA
      go_simp
      exact hK _ W ⟨xx, dp, d8, d10, v0, v1, fun _ => rfl, v3, v4, v5, v6, v7, v8, v9, fin⟩
    · have a0 := hS.old 4 (by kernel_rfl) rfl
      clear hS ho hA
      go_simp
      exact hK _ W ⟨xx, dp, d8, d10, v0, v1, v2, fun _ => rfl, v4, v5, v6, v7, v8, v9, fin⟩
    · have l2 : L 2 = true := hA ⟨2, .data⟩ (by simp) rfl
      have l3 : L 3 = true := hA ⟨3, .data⟩ (by simp) rfl
      have a2 := hS.get 2 15 rfl l2 (v2 l2)
      have a3 := hS.get 3 16 rfl l3 (v3 l3)
      clear hS ho hA
      go_simp
      exact hK _ W ⟨xx, dp, d8, d10, v0, v1, v2, v3, fun _ => rfl, v5, v6, v7, v8, v9, fin⟩
    · have a0 := hS.old 5 (by kernel_rfl) rfl
      clear hS ho hA
      go_simp
      exact hK _ W ⟨xx, dp, d8, d10, v0, v1, v2, v3, v4, fun _ => rfl, v6, v7, v8, v9, fin⟩
    · have l5 : L 5 = true := hA ⟨5, .data⟩ (by simp) rfl
      have a5 := hS.get 5 18 rfl l5 (v5 l5)
      obtain ⟨lt, ct, _⟩ := (hD0.x xx).out
      have e := ct 2
      clear ct
      clear hS ho hA
      go_simp
      exact hK _ W ⟨xx, dp, d8, d10, v0, v1, v2, v3, v4, v5, fun _ => rfl, v7, v8, v9, fin⟩
    · have l6 : L 6 = true := hA ⟨6, .data⟩ (by simp) rfl
      have a6 := hS.get 6 19 rfl l6 (v6 l6)
      have n10 : L 10 = false := by rcases h : L 10 with _ | _; (· rfl); (· have := d8 (d10 h); simp [hL] at this)
      clear hS ho hA
      go_simp
      refine (copyDirs_c dl da dn dc Bd W (hDl.mono (xx.fr _))).mono ?_
      rintro _ w' ⟨ra, rc, rfl, hO, hx⟩
      exact hK _ w' ⟨xx.trans hx, dp, fun _ => rfl, d10, v0, v1, v2, v3, v4, v5, v6, fun _ => ⟨ra, rc, rfl, hO.less xx.size⟩, fun h => let ⟨ra, rc, e, ho⟩ := v8 h; ⟨ra, rc, e, ho.fr (hx.fr _)⟩, fun h => let ⟨g, e, hg, hb⟩ := v9 h; ⟨g, e, hg, fun h => at_x2' (hb h) hx⟩, fun h => Bool.noConfusion (n10.symm.trans h)⟩
    · have l0 : L 0 = true := hA ⟨0, .data⟩ (by simp) rfl
      have l4 : L 4 = true := hA ⟨4, .data⟩ (by simp) rfl
      have l7 : L 7 = true := hA ⟨7, .data⟩ (by simp) rfl
      have a0 := hS.get 0 13 rfl l0 (v0 l0)
      have a4 := hS.get 4 17 rfl l4 (v4 l4)
      obtain ⟨ra, rc, e7, hq⟩ := v7 l7
      have a7 := hS.get 7 20 rfl l7 e7
      have n10 : L 10 = false := by rcases h : L 10 with _ | _; (· rfl); (· have := d10 h; simp [hL] at this)
      clear hS ho hA
      go_simp
      exact hK _ W ⟨xx, dp, fun _ => l7, fun h => Bool.noConfusion (n10.symm.trans h), v0, v1, v2, v3, v4, v5, v6, v7, fun _ => ⟨ra, rc, rfl, hq⟩, v9, fin⟩
    · have n10 : L 10 = false := by rcases h : L 10 with _ | _; (· rfl); (· have := dp h; simp [hL] at this)
      clear hS ho hA
      go_simp
      exact hK _ _ ⟨xx.alloc _, fun _ => rfl, d8, d10, v0, v1, v2, v3, v4, v5, v6, fun h => let ⟨ra, rc, e, ho⟩ := v7 h; ⟨ra, rc, e, ho.fr (((X.refl W).alloc _).fr _)⟩, fun h => let ⟨ra, rc, e, ho⟩ := v8 h; ⟨ra, rc, e, ho.fr (((X.refl W).alloc _).fr _)⟩, fun _ => ⟨_, rfl, xx.size, fun _ => heap_alloc_new _ _⟩, fun h => Bool.noConfusion (n10.symm.trans h)⟩
    · have l8 : L 8 = true := hA ⟨8, .data⟩ (by simp) rfl
      have l9 : L 9 = true := hA ⟨9, .data⟩ (by simp) rfl
      obtain ⟨ra, rc, e8, hq⟩ := v8 l8
      obtain ⟨g, e9, hg, hb0⟩ := v9 l9
      have hb := hb0 hL
      have a8 := hS.get 8 21 rfl l8 e8
      have a9 := hS.get 9 12 rfl l9 e9
      obtain ⟨lb, cb, fb0⟩ := Bx.out ⟨_, hb⟩
      have f0 := fb0 0
      have f1 := fb0 1
      have f2 := fb0 2
      have c0 := cb 0
      have c1 := cb 1
      have c2 := cb 2
      clear fb0 cb
      clear hS ho hA
      go_simp
      exact hK undef _ ⟨x_set3 xx hg _ _ _, fun _ => l9, d8, fun _ => l8, v0, v1, v2, v3, v4, v5, v6, fun h => let ⟨ra, rc, e, ho⟩ := v7 h; ⟨ra, rc, e, (((ho.far hb (by decide) (by decide) _ _).far (heap_set1 hb) (by decide) (by decide) _ _).far (heap_set2 hb) (by decide) (by decide) _ _)⟩, fun h => let ⟨ra, rc, e, ho⟩ := v8 h; ⟨ra, rc, e, (((ho.far hb (by decide) (by decide) _ _).far (heap_set1 hb) (by decide) (by decide) _ _).far (heap_set2 hb) (by decide) (by decide) _ _)⟩, fun _ => ⟨g, e9, hg, fun h => Bool.noConfusion h⟩, fun _ => ⟨g, ra, rc, e9, hg, heap_set3 hb _ _ _, (((hq.far hb (by decide) (by decide) _ _).far (heap_set1 hb) (by decide) (by decide) _ _).far (heap_set2 hb) (by decide) (by decide) _ _)⟩⟩
  · intro v W hI
    obtain ⟨xx, dp, d8, d10, v0, v1, v2, v3, v4, v5, v6, v7, v8, v9, fin⟩ := hI
    obtain ⟨g, ra, rc, e9, hg, hb, hO⟩ := fin rfl
    clear fin v0 v1 v2 v3 v4 v5 v6 v7 v8 v9 dp d8 d10
    simp only [putL, List.foldl, List.setIfInBounds_toArray, List.set_cons_zero, List.set_cons_succ, e9]
    clear e9
    have hXW := hX0.trans xx
    have hzW := xx.size
    obtain ⟨lg, cg, fg⟩ := Bx.out ⟨_, hb⟩
    have e0 := cg 0
    have e1 := cg 1
    have e2 := cg 2
    clear cg
    cases ok
    all_goals go_wp2_with (first
      | (go_at_call 98; refine (stamped_s ta tn tc st r p dl ra dn rc W0.heap.size W hO hzW okD hdn hp).mono ?_; rintro _ w5 ⟨ra', rc', rfl, hO5, hB5, hK5⟩; rw [Hclp.out] at hO5 ⊢; have hb5 := hK5 g _ lg hb; obtain ⟨l5, c5, f5⟩ := Bx.out ⟨_, hb5⟩; have x0 := c5 0; have x1 := c5 1; have x2 := c5 2; clear c5)
      | (go_at_call 39; refine calls_name (fun w6 hw6 => ?_); have hb6 : w6.heap[g]? = some (.cells #[.slice ta tn tc, .int .i64 st, .slice ra' cl.length rc'] 38 (0, 0)) := (by rw [hw6]; exact heap_set3 hb5 _ _ _);
         have hO6 : DirsO w6 W0.heap.size ra' cl.length rc' cl := (by rw [hw6]; exact ((hO5.far hb5 (by decide) (by decide) _ _).far (heap_set1 hb5) (by decide) (by decide) _ _).far (heap_set2 hb5) (by decide) (by decide) _ _);
         have hB6 : Below W0.heap.size W w6 := (by rw [hw6]; exact ((hB5.setCell hg _).setCell hg _).setCell hg _); clear hw6 hb5 x0 x1 x2 f5 l5 hO5 hB5 hK5;
         have hX6 : X w w6 := X.of_below (below_then2 hXW.below hB6 (by omega)); have hX06 : X W0 w6 := X.of_below (below_then2 xx.below hB6 (Nat.le_refl _)); have hDA6 := hO6.at okC; have hRr := hR0.x hX06;
         refine (validDisk_c l' ta tn tc st cl ra' cl.length rc' 0 w6 ((hT.mono (hX6.fr _)).less (Nat.zero_le _)) (hDA6.less (Nat.zero_le _))).mono ?_; rintro _ w7 ⟨rfl, hx7⟩; rw [Hok2.out]; have hb7 := at_x2' hb6 hx7; obtain ⟨l7, c7, f7⟩ := Bx.out ⟨_, hb7⟩; have z0 := c7 0; have z1 := c7 1; have z2 := c7 2; clear c7; obtain ⟨lr, cr, fr⟩ := (hRr.x hx7).out; have r0 := cr 0; have r1 := cr 1; have r2 := cr 2; clear cr; have hX7 : X w w7 := hX6.trans hx7))
    · obtain ⟨_, c9, _⟩ := (Bx.set (Bx.set (Bx.set (hRr.x hx7) 0 (.slice none 0 0)) 1 (.int .i64 0)) 2 (.slice none 0 0)).out
      have q0 := c9 0
      have q1 := c9 1
      have q2 := c9 2
      clear c9
      refine bodyPost_ret (v := .tuple #[.agg #[.slice none 0 0, .int .i64 0, .slice none 0 0], .bool false]) (by simp [results, Tryz.results42, go_sem, Result.andThen, q0, q1, q2]) rfl ?_
      exact ⟨_, rfl, rfl, x_set3 (b := w.heap.size + 2) hX7 (by omega) _ _ _⟩
    · obtain ⟨_, c9, _⟩ := (Bx.set (Bx.set (Bx.set (hRr.x hx7) 0 (.slice ta tn tc)) 1 (.int .i64 st)) 2 (.slice ra' cl.length rc')).out
      have q0 := c9 0
      have q1 := c9 1
      have q2 := c9 2
      clear c9
      refine bodyPost_ret (v := .tuple #[.agg #[.slice ta tn tc, .int .i64 st, .slice ra' cl.length rc'], .bool true]) (by simp [results, Tryz.results42, go_sem, Result.andThen, q0, q1, q2]) rfl ?_
      have hlb : w.heap.size + 2 < W0.heap.size := by omega
      refine ⟨_, rfl, ⟨ra', rc', rfl, ?_⟩, x_set3 (b := w.heap.size + 2) hX7 (by omega) _ _ _⟩
      exact ((hO6.fr (hx7.fr _)).fr (Fr.set (Fr.set (Fr.set (Fr.refl _ _) (.inr hlb) _) (.inr hlb) _) (.inr hlb) _)).less hX0.size

end Go.Proofs.YtgjfjjhmgbemcaaGreatDoor
