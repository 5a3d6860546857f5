/- Several texts in one: DkO, StampI, DiskS, StampS, ChangS. No condition but lengths. -/
import Derived.Test.YtgjfjjhmgbemcaaGreatDoorLf
import Derived.Test.YtgjfjjhmgbemcaaGreatDoorLc
import Derived.Test.YtgjfjjhmgbemcaaGreatDoorLe
import Derived.Deep.CutRange
import Derived.Deep.AppendLies
import Derived.Deep.RegionHeldLaw
namespace Go.Proofs.YtgjfjjhmgbemcaaGreatDoor
open Go.RowKit

theorem x_set3 {A W : World} {b : Nat} (h : X A W) (hb : A.heap.size ≤ b) (v0 v1 v2 : Value) : X A (((W.setCell ⟨b, 0, none⟩ v0).setCell ⟨b, 1, none⟩ v1).setCell ⟨b, 2, none⟩ v2) :=
  ((h.setCell (p := ⟨b, 0, none⟩) hb v0).setCell (p := ⟨b, 1, none⟩) hb v1).setCell (p := ⟨b, 2, none⟩) hb v2
theorem heap_set1 {W : World} {b t : Nat} {a0 a1 a2 v0 : Value} (h : W.heap[b]? = some (.cells #[a0, a1, a2] t (0, 0))) : (W.setCell ⟨b, 0, none⟩ v0).heap[b]? = some (.cells #[v0, a1, a2] t (0, 0)) := by
  simpa using heap_setCell_same _ b 0 _ t v0 h
theorem heap_set2 {W : World} {b t : Nat} {a0 a1 a2 v0 v1 : Value} (h : W.heap[b]? = some (.cells #[a0, a1, a2] t (0, 0))) : ((W.setCell ⟨b, 0, none⟩ v0).setCell ⟨b, 1, none⟩ v1).heap[b]? = some (.cells #[v0, v1, a2] t (0, 0)) := by
  simpa using heap_setCell_same _ b 1 _ t v1 (heap_set1 (v0 := v0) h)
theorem heap_set3 {W : World} {b t : Nat} {a0 a1 a2 : Value} (h : W.heap[b]? = some (.cells #[a0, a1, a2] t (0, 0))) (v0 v1 v2 : Value) : (((W.setCell ⟨b, 0, none⟩ v0).setCell ⟨b, 1, none⟩ v1).setCell ⟨b, 2, none⟩ v2).heap[b]? = some (.cells #[v0, v1, v2] t (0, 0)) := by
  simpa using heap_setCell_same _ b 2 _ t v2 (heap_set2 (v0 := v0) (v1 := v1) h)
theorem bx4d {w W : World} {c1 c2 c3 c4 : Array Value} {t1 t2 t3 t4 : TypeId} (h : W = (((w.alloc (.cells c1 t1)).alloc (.cells c2 t2)).alloc (.cells c3 t3)).alloc (.cells c4 t4)) : Bx W w.heap.size c1 ∧ Bx W (w.heap.size + 1) c2 ∧ Bx W (w.heap.size + 2) c3 ∧ Bx W (w.heap.size + 3) c4 ∧ X w W := by
  obtain ⟨h1, h2, h3, hx⟩ := bx3 (w := w) (c1 := c1) (c2 := c2) (c3 := c3) (t1 := t1) (t2 := t2) (t3 := t3) rfl
  have hX : X (((w.alloc (.cells c1 t1)).alloc (.cells c2 t2)).alloc (.cells c3 t3)) W := by rw [h]; exact X.alloc (X.refl _) _
  refine ⟨h1.x hX, h2.x hX, h3.x hX, ?_, hx.trans hX⟩
  rw [h]
  have := Bx.new (((w.alloc (.cells c1 t1)).alloc (.cells c2 t2)).alloc (.cells c3 t3)) c4 t4
  simpa using this
theorem DirsO.far {w : World} {B n c b : Nat} {a : Option Addr} {l : List Di} {cs : Array Value} {t : TypeId} (h : DirsO w B a n c l) (hb : w.heap[b]? = some (.cells cs t (0, 0))) (h1 : 140 ≠ t) (h2 : 9 ≠ t) (i : Nat) (u : Value) : DirsO (w.setCell ⟨b, i, none⟩ u) B a n c l := by
  obtain ⟨vs, rfl, e, hv⟩ := h.v
  obtain ⟨k1, k2, k3⟩ := hv.far hb h1 h2 i u
  exact ⟨vs, e.symm, by rw [← e, List.length_map], k1, k2, k3⟩
theorem stamps_next {dl : List Di} {r st : Int} {ps : List (List UInt8)} {j : Nat} (hj : j < ps.length) : stampsL dl r (ps.take (j + 1)) st = stD (stampsL dl r (ps.take j) st) r (nth ps j) st := by
  unfold stampsL
  rw [take_succ_nth hj, List.foldl_append]
  rfl
theorem okD_st {dl : List Di} {r st : Int} {p : List UInt8} {m : Nat} (h : OkD dl) (hl : dl.length ≤ m) (hm : m + 1 ≤ 2097152) (hp : p.length ≤ 1048576) : OkD (stD dl r p st) ∧ (stD dl r p st).length ≤ m + 1 := by
  have hlen := stD_len dl r p st
  refine ⟨⟨by omega, fun f hf => ?_⟩, by omega⟩
  unfold stD at hf
  split at hf
  · rcases List.mem_append.1 hf with hf | hf
    · exact h.2 f hf
    · rw [List.mem_singleton.1 hf]
      exact ⟨hp, by simp, by simp⟩
  · rename_i hge
    rcases List.mem_or_eq_of_mem_set hf with hf | rfl
    · exact h.2 f hf
    · rcases didxL_cases dl r p with ⟨e, _⟩ | ⟨i, hi, e, _, _⟩
      · omega
      · rw [e, Int.toNat_natCast]
        have hm := h.2 _ (nth_mem hi)
        exact hm
theorem okD_stamps {r st : Int} : ∀ (ps : List (List UInt8)) (dl : List Di) (m : Nat), OkD dl → dl.length ≤ m → m + ps.length ≤ 2097152 → (∀ p ∈ ps, p.length ≤ 1048576) → OkD (stampsL dl r ps st) ∧ (stampsL dl r ps st).length ≤ m + ps.length
  | [], dl, m, h, hl, _, _ => ⟨h, by simpa [stampsL] using hl⟩
  | p :: ps, dl, m, h, hl, hm, hp => by
    have e : stampsL dl r (p :: ps) st = stampsL (stD dl r p st) r ps st := rfl
    rw [List.length_cons] at hm
    obtain ⟨h1, h2⟩ := okD_st (r := r) (st := st) h hl (by omega) (hp p List.mem_cons_self)
    obtain ⟨h3, h4⟩ := okD_stamps ps (stD dl r p st) (m + 1) h1 h2 (by omega) (fun q hq => hp q (List.mem_cons_of_mem _ hq))
    rw [e, List.length_cons]
    exact ⟨h3, by omega⟩
theorem paths_len {p : List UInt8} : (pathsL p).length ≤ 4 ∧ ∀ q ∈ pathsL p, q.length ≤ 12 := by
  unfold pathsL aboveP
  cases h : nameB p
  · simp
  · simp only [if_true]
    have h3 := (nameB_iff.1 h).2
    refine ⟨by rw [List.length_cons, aboveL_len]; omega, fun q hq => ?_⟩
    rcases List.mem_cons.1 hq with rfl | hq
    · simp
    · obtain ⟨i, hi, rfl⟩ := List.getElem_of_mem hq
      rw [aboveL_len] at hi
      have := aboveL_nth (s := p) hi
      rw [← nth_eq, this]
      have hl := pfx_len h (i + 1)
      omega
/-- One directory is stamped that is there; one that is not comes behind the others. -/
theorem stD_some {dl : List Di} {r st : Int} {p : List UInt8} {k : Nat} (h : didxL dl r p = (k : Int)) : stD dl r p st = dl.set k { nth dl k with stamp := st } := by
  unfold stD
  rw [h, if_neg (by omega), Int.toNat_natCast]
theorem stD_none {dl : List Di} {r st : Int} {p : List UInt8} (h : didxL dl r p = -1) : stD dl r p st = dl ++ [⟨r, p, st, []⟩] := by
  unfold stD
  rw [h, if_pos (by omega)]
/-- A disk of the call's own: its files lie before its directories. -/
def DkO (w : World) (B : Nat) (v : Value) (l : List Fi) (kk : Int) (dl : List Di) : Prop :=
  ∃ a c da dc E1, v = .agg #[.slice a l.length c, .int .i64 kk, .slice da dl.length dc] ∧ B ≤ E1 ∧ E1 ≤ w.heap.size ∧ FilesE w B E1 a l.length c l ∧ DirsO w E1 da dl.length dc dl
theorem DkO.fr {w w' : World} {B : Nat} {v : Value} {l : List Fi} {kk : Int} {dl : List Di} (h : DkO w B v l kk dl) (hx : Fr B w w') : DkO w' B v l kk dl := by
  obtain ⟨a, c, da, dc, E1, e, h1, h2, h3, h4⟩ := h
  exact ⟨a, c, da, dc, E1, e, h1, Nat.le_trans h2 hx.size, h3.fr hx, h4.fr (hx.mono h1)⟩
theorem DkO.zero (w : World) (B : Nat) (hB : B ≤ w.heap.size) : DkO w B (.agg #[.slice none 0 0, .int .i64 0, .slice none 0 0]) [] 0 [] :=
  ⟨none, 0, none, 0, w.heap.size, rfl, hB, Nat.le_refl _, (FilesO.nil w B).e, ⟨[], rfl, rfl, ⟨rfl, .inl ⟨rfl, rfl⟩⟩, List.Pairwise.nil, fun _ h => by cases h⟩⟩

end Go.Proofs.YtgjfjjhmgbemcaaGreatDoor

namespace Go.Proofs.YtgjfjjhmgbemcaaGreatDoor
open Go.RowKit

set_option maxRecDepth 100000 in
set_option maxHeartbeats 4000000 in
theorem stamped_i (l' : List Fi) (ta a : Option Addr) (tn tc n c : Nat) (kk ticks : Int) (dl : List Di) (da : Option Addr) (dn dc Bt Bd : Nat) (f : Fi) (bv : Value) (w : World) (hT : FilesAt w Bt ta tn l') (htc : tn ≤ tc) (hD : DirsAt w Bd da dn dl) (hdn : dn ≤ 1000000) (hk : rangeB kk 0 200 = true) (h0 : 0 ≤ ticks) (hp : f.pkg.length ≤ 1048576) (hG : Gm w) :
    Calls Tryz.prog 47 #[.agg #[.slice a n c, .int .i64 kk, .slice da dn dc], .agg #[.slice ta tn tc], .agg #[.int .i64 (f).root, .string ⟨(f).pkg.toArray⟩, .string ⟨(f).name.toArray⟩, .bool (f).init, .int .i64 (f).stamp, bv], .int .i64 ticks] w fun e w' => ∃ v, e = .returned (.tuple #[v, .bool (chB l' kk dl f.root f.pkg ticks)]) ∧
      (chB l' kk dl f.root f.pkg ticks = false → v = .agg #[.slice none 0 0, .int .i64 0, .slice none 0 0]) ∧
      (chB l' kk dl f.root f.pkg ticks = true → ∃ ra rc, v = .agg #[.slice ta tn tc, .int .i64 (kk + ticks), .slice ra (chD dl f.root f.pkg (kk + ticks)).length rc] ∧ DirsO w' w.heap.size ra (chD dl f.root f.pkg (kk + ticks)).length rc (chD dl f.root f.pkg (kk + ticks))) ∧ X w w' := by
  obtain ⟨hk0, hk1⟩ := rangeB_iff.1 hk
  by_cases ht : (200 : Int) < ticks
  · have hch : chB l' kk dl f.root f.pkg ticks = false := by
      unfold chB
      rw [show rangeB ticks 0 200 = false from by rw [Bool.eq_false_iff, Ne, rangeB_iff]; omega, Bool.false_and]
    rw [hch]
    go_enter Tryz.func47, Tryz.ntmps47
    go_wp2
    refine bodyPost_ret (v := .tuple #[.agg #[.slice none 0 0, .int .i64 0, .slice none 0 0], .bool false]) (by simp [results, Tryz.results47, go_sem, Result.andThen]) rfl ?_
    exact ⟨_, rfl, fun _ => rfl, fun h => (by cases h), by (repeat (first | with_reducible exact X.refl _ | with_reducible assumption | with_reducible refine X.setCell ?_ (by first | (simp; done) | (simp; omega)) _ | with_reducible refine X.ext ?_ _ | with_reducible refine X.alloc ?_ _ | with_reducible refine X.drew ?_))⟩
  obtain ⟨st, hst⟩ : ∃ st, st = kk + ticks := ⟨_, rfl⟩
  have hst2 : IntKind.i64.wrap (kk + ticks) = st := by rw [hst]; exact IntWalk.i64_in _ (by omega)
  obtain ⟨ps, hps⟩ : ∃ ps, pathsL f.pkg = ps := ⟨_, rfl⟩
  obtain ⟨cl, hcl⟩ : ∃ cl, chD dl f.root f.pkg (kk + ticks) = cl := ⟨_, rfl⟩
  have hclp : stampsL dl f.root ps st = cl := by rw [← hcl, chD, hps, hst]
  obtain ⟨ok, hok⟩ : ∃ ok, chB l' kk dl f.root f.pkg ticks = ok := ⟨_, rfl⟩
  have hok2 : diskB l' st cl = ok := by
    rw [← hok, chB, hcl, hst, show rangeB ticks 0 200 = true from rangeB_iff.2 (by omega), Bool.true_and]
  rw [hcl, hok, ← hst]
  obtain ⟨hpl4, hpl12⟩ := paths_len (p := f.pkg)
  rw [hps] at hpl4 hpl12
  have hdl := hD.len.1
  have okD := hD.okD
  have hokj : ∀ j, OkD (stampsL dl f.root (ps.take j) st) ∧ (stampsL dl f.root (ps.take j) st).length ≤ 1000004 := fun j => by
    have h1 : (ps.take j).length ≤ 4 := by rw [List.length_take]; omega
    obtain ⟨h2, h3⟩ := okD_stamps (r := f.root) (st := st) (ps.take j) dl 1000000 okD (by omega) (by omega) (fun p hp => Nat.le_trans (hpl12 p (List.mem_of_mem_take hp)) (by omega))
    exact ⟨h2, by omega⟩
  have hnxj := fun j (hj : j < ps.length) => @stamps_next dl f.root st ps j hj
  have Hst := Lib.hid hst
  have Hps := Lib.hid hps
  have Hclp := Lib.hid hclp
  have Hok2 := Lib.hid hok2
  have Hpl12 := Lib.hid hpl12
  have Hokj := Lib.hid hokj
  have Hnxj := Lib.hid hnxj
  have Hdl := Lib.hid hdl
  clear hst hps hcl hclp hok hok2 hpl12 hokj hnxj hdl hk okD
  go_enter Tryz.func47, Tryz.ntmps47
  go_wp2
  refine wp_name (fun W0 hW0 => ?_)
  obtain ⟨hD0, hT0, hF0, hR0, hX0⟩ := bx4d hW0
  have hsz0 : w.heap.size + 4 = W0.heap.size := by rw [hW0]; simp
  clear hW0
  have hDl := hD.mono (hX0.fr _)
  refine wp_region_inv (fun L v W => X W0 W
      ∧ (L 10 = true → L 9 = true)
      ∧ (L 8 = true → L 7 = true)
      ∧ (L 10 = true → L 8 = true)
      ∧ (L 0 = true → v 0 = .agg #[.slice ta tn tc])
      ∧ (L 1 = true → v 1 = .pointer (some ⟨w.heap.size, 1, none⟩))
      ∧ (L 2 = true → v 2 = .int .i64 kk)
      ∧ (L 3 = true → v 3 = .int .i64 ticks)
      ∧ (L 4 = true → v 4 = .int .i64 st)
      ∧ (L 5 = true → v 5 = .pointer (some ⟨w.heap.size, 2, none⟩))
      ∧ (L 6 = true → v 6 = .slice da dn dc)
      ∧ (L 7 = true → ∃ ra rc, v 7 = .slice ra dn rc ∧ DirsO W W0.heap.size ra dn rc dl)
      ∧ (L 8 = true → ∃ ra rc, v 8 = .agg #[.slice ta tn tc, .int .i64 st, .slice ra dn rc] ∧ DirsO W W0.heap.size ra dn rc dl)
      ∧ (L 9 = true → ∃ g, v 9 = .pointer (some ⟨g, 0, none⟩) ∧ W0.heap.size ≤ g ∧ (L 10 = false → W.heap[g]? = some (.cells #[.slice none 0 0, .int .i64 0, .slice none 0 0] 38 (0, 0))))
      ∧ (L 10 = true → ∃ g ra rc, v 9 = .pointer (some ⟨g, 0, none⟩) ∧ W0.heap.size ≤ g ∧ W.heap[g]? = some (.cells #[.slice ta tn tc, .int .i64 st, .slice ra dn rc] 38 (0, 0)) ∧ DirsO W W0.heap.size ra dn rc dl)) (by kernel_rfl) (by kernel_rfl) ?_ ?_ (l := [(17, 0), (18, 1), (19, 2), (20, 3), (21, 4), (22, 5), (23, 6), (24, 7), (25, 8), (10, 9)]) (by kernel_rfl) (n := 11) rfl ?_
  · intro v
    exact ⟨(X.refl _).drew, fun h => Bool.noConfusion h, fun h => Bool.noConfusion h, fun h => Bool.noConfusion h, fun h => Bool.noConfusion h, fun h => Bool.noConfusion h, fun h => Bool.noConfusion h, fun h => Bool.noConfusion h, fun h => Bool.noConfusion h, fun h => Bool.noConfusion h, fun h => Bool.noConfusion h, fun h => Bool.noConfusion h, fun h => Bool.noConfusion h, fun h => Bool.noConfusion h, fun h => Bool.noConfusion h⟩
  · intro i hi
    have hi' : i = 0 ∨ i = 1 ∨ i = 2 ∨ i = 3 ∨ i = 4 ∨ i = 5 ∨ i = 6 ∨ i = 7 ∨ i = 8 ∨ i = 9 ∨ i = 10 := by
      have : i < 11 := hi
      omega
    clear hi
    rcases hi' with rfl | rfl | rfl | rfl | rfl | rfl | rfl | rfl | rfl | rfl | rfl
    all_goals
      intro o ho L v aa W hI hS hL hA K hK
      cases (show some _ = some o from ho)
      obtain ⟨xx, dp, d8, d10, v0, v1, v2, v3, v4, v5, v6, v7, v8, v9, fin⟩ := hI
    · have a5 := hS.old 5 (by kernel_rfl) rfl
      obtain ⟨lt, ct, _⟩ := (hT0.x xx).out
      have e := ct 0
      clear ct
      clear hS ho hA
      go_simp
      exact hK _ W ⟨xx, dp, d8, d10, fun _ => rfl, v1, v2, v3, v4, v5, v6, v7, v8, v9, fin⟩
    · have a0 := hS.old 4 (by kernel_rfl) rfl
      clear hS ho hA
      go_simp
      exact hK _ W ⟨xx, dp, d8, d10, v0, fun _ => rfl, v2, v3, v4, v5, v6, v7, v8, v9, fin⟩
    · have l1 : L 1 = true := hA ⟨1, .data⟩ (by simp) rfl
      have a1 := hS.get 1 18 rfl l1 (v1 l1)
      obtain ⟨lt, ct, _⟩ := (hD0.x xx).out
      have e := ct 1
      clear ct
      clear hS ho hA
      go_simp
      exact hK _ W ⟨xx, dp, d8, d10, v0, v1, fun _ => rfl, v3, v4, v5, v6, v7, v8, v9, fin⟩
    · have a0 := hS.old 3 (by kernel_rfl) rfl
      clear hS ho hA
      go_simp
      exact hK _ W ⟨xx, dp, d8, d10, v0, v1, v2, fun _ => rfl, v4, v5, v6, v7, v8, v9, fin⟩
    · have l2 : L 2 = true := hA ⟨2, .data⟩ (by simp) rfl
      have l3 : L 3 = true := hA ⟨3, .data⟩ (by simp) rfl
      have a2 := hS.get 2 19 rfl l2 (v2 l2)
      have a3 := hS.get 3 20 rfl l3 (v3 l3)
      clear hS ho hA
      go_simp
      exact hK _ W ⟨xx, dp, d8, d10, v0, v1, v2, v3, fun _ => rfl, v5, v6, v7, v8, v9, fin⟩
    · have a0 := hS.old 4 (by kernel_rfl) rfl
      clear hS ho hA
      go_simp
      exact hK _ W ⟨xx, dp, d8, d10, v0, v1, v2, v3, v4, fun _ => rfl, v6, v7, v8, v9, fin⟩
    · have l5 : L 5 = true := hA ⟨5, .data⟩ (by simp) rfl
      have a5 := hS.get 5 22 rfl l5 (v5 l5)
      obtain ⟨lt, ct, _⟩ := (hD0.x xx).out
      have e := ct 2
      clear ct
      clear hS ho hA
      go_simp
      exact hK _ W ⟨xx, dp, d8, d10, v0, v1, v2, v3, v4, v5, fun _ => rfl, v7, v8, v9, fin⟩
    · have l6 : L 6 = true := hA ⟨6, .data⟩ (by simp) rfl
      have a6 := hS.get 6 23 rfl l6 (v6 l6)
      have n10 : L 10 = false := by rcases h : L 10 with _ | _; (· rfl); (· have := d8 (d10 h); simp [hL] at this)
      clear hS ho hA
      go_simp
      refine (cloneDirs_c dl da dn dc Bd W (hDl.mono (xx.fr _))).mono ?_
      rintro _ w' ⟨ra, rc, rfl, hO, hx⟩
      exact hK _ w' ⟨xx.trans hx, dp, fun _ => rfl, d10, v0, v1, v2, v3, v4, v5, v6, fun _ => ⟨ra, rc, rfl, hO.less xx.size⟩, fun h => let ⟨ra, rc, e, ho⟩ := v8 h; ⟨ra, rc, e, ho.fr (hx.fr _)⟩, fun h => let ⟨g, e, hg, hb⟩ := v9 h; ⟨g, e, hg, fun h => at_x2' (hb h) hx⟩, fun h => Bool.noConfusion (n10.symm.trans h)⟩
    · have l0 : L 0 = true := hA ⟨0, .data⟩ (by simp) rfl
      have l4 : L 4 = true := hA ⟨4, .data⟩ (by simp) rfl
      have l7 : L 7 = true := hA ⟨7, .data⟩ (by simp) rfl
      have a0 := hS.get 0 17 rfl l0 (v0 l0)
      have a4 := hS.get 4 21 rfl l4 (v4 l4)
      obtain ⟨ra, rc, e7, hq⟩ := v7 l7
      have a7 := hS.get 7 24 rfl l7 e7
      have n10 : L 10 = false := by rcases h : L 10 with _ | _; (· rfl); (· have := d10 h; simp [hL] at this)
      clear hS ho hA
      go_simp
      exact hK _ W ⟨xx, dp, fun _ => l7, fun h => Bool.noConfusion (n10.symm.trans h), v0, v1, v2, v3, v4, v5, v6, v7, fun _ => ⟨ra, rc, rfl, hq⟩, v9, fin⟩
    · have n10 : L 10 = false := by rcases h : L 10 with _ | _; (· rfl); (· have := dp h; simp [hL] at this)
      clear hS ho hA
      go_simp
      exact hK _ _ ⟨xx.alloc _, fun _ => rfl, d8, d10, v0, v1, v2, v3, v4, v5, v6, fun h => let ⟨ra, rc, e, ho⟩ := v7 h; ⟨ra, rc, e, ho.fr (((X.refl W).alloc _).fr _)⟩, fun h => let ⟨ra, rc, e, ho⟩ := v8 h; ⟨ra, rc, e, ho.fr (((X.refl W).alloc _).fr _)⟩, fun _ => ⟨_, rfl, xx.size, fun _ => heap_alloc_new _ _⟩, fun h => Bool.noConfusion (n10.symm.trans h)⟩
    · have l8 : L 8 = true := hA ⟨8, .data⟩ (by simp) rfl
      have l9 : L 9 = true := hA ⟨9, .data⟩ (by simp) rfl
      obtain ⟨ra, rc, e8, hq⟩ := v8 l8
      obtain ⟨g, e9, hg, hb0⟩ := v9 l9
      have hb := hb0 hL
      have a8 := hS.get 8 25 rfl l8 e8
      have a9 := hS.get 9 10 rfl l9 e9
      obtain ⟨lb, cb, fb0⟩ := Bx.out ⟨_, hb⟩
      have f0 := fb0 0
      have f1 := fb0 1
      have f2 := fb0 2
      have c0 := cb 0
      have c1 := cb 1
      have c2 := cb 2
      clear fb0 cb
      clear hS ho hA
      go_simp
      exact hK undef _ ⟨x_set3 xx hg _ _ _, fun _ => l9, d8, fun _ => l8, v0, v1, v2, v3, v4, v5, v6, fun h => let ⟨ra, rc, e, ho⟩ := v7 h; ⟨ra, rc, e, (((ho.far hb (by decide) (by decide) _ _).far (heap_set1 hb) (by decide) (by decide) _ _).far (heap_set2 hb) (by decide) (by decide) _ _)⟩, fun h => let ⟨ra, rc, e, ho⟩ := v8 h; ⟨ra, rc, e, (((ho.far hb (by decide) (by decide) _ _).far (heap_set1 hb) (by decide) (by decide) _ _).far (heap_set2 hb) (by decide) (by decide) _ _)⟩, fun _ => ⟨g, e9, hg, fun h => Bool.noConfusion h⟩, fun _ => ⟨g, ra, rc, e9, hg, heap_set3 hb _ _ _, (((hq.far hb (by decide) (by decide) _ _).far (heap_set1 hb) (by decide) (by decide) _ _).far (heap_set2 hb) (by decide) (by decide) _ _)⟩⟩
  · intro v W hI
    obtain ⟨xx, dp, d8, d10, v0, v1, v2, v3, v4, v5, v6, v7, v8, v9, fin⟩ := hI
    obtain ⟨g, ra, rc, e9, hg, hb, hO⟩ := fin rfl
    clear fin v0 v1 v2 v3 v4 v5 v6 v7 v8 v9 dp d8 d10
    simp only [putL, List.foldl, List.setIfInBounds_toArray, List.set_cons_zero, List.set_cons_succ, e9]
    clear e9
    have hXW := hX0.trans xx
    have hzW := xx.size
    obtain ⟨vs0, hvl0, hvs0, hV0⟩ := hO.v
    rw [hvl0] at hb
    have HV0 := Lib.hid (And.intro hvl0 hvs0)
    clear hO hvl0 hvs0
    have hFW := hF0.x xx
    obtain ⟨lf, cf, _⟩ := hFW.out
    have f1 := cf 1
    clear cf
    go_wp2_with (first
      | (go_at_call 75; refine (NamesAbove_p f.pkg _ (by omega) (hG.mono (hXW.trans (by (repeat (first | with_reducible exact X.refl _ | with_reducible assumption | with_reducible refine X.setCell ?_ (by first | (simp; done) | (simp; omega)) _ | with_reducible refine X.ext ?_ _ | with_reducible refine X.alloc ?_ _ | with_reducible refine X.drew ?_)))))).mono ?_; rintro _ w5 ⟨pa, pc, rfl, hOa, hx5⟩; have hX5 : X W w5 := X.trans (by (repeat (first | with_reducible exact X.refl _ | with_reducible assumption | with_reducible refine X.setCell ?_ (by first | (simp; done) | (simp; omega)) _ | with_reducible refine X.ext ?_ _ | with_reducible refine X.alloc ?_ _ | with_reducible refine X.drew ?_))) hx5; have hL5 := own_fr (own_lit (w := W) (cs := #[.string ⟨#[]⟩]) (e := 9) (B := W.heap.size) (g := W.heap.size) (size := 1) (n := 1) rfl (Nat.le_refl _) rfl (by omega)) (hx5.fr _); have hal : (aboveP f.pkg).length ≤ 3 := by have := hpl4; rw [← Hps.out, pathsL, List.length_cons] at this; omega)
      | (at_builtin; refine wpList_append_sl str_T rfl _ _ rfl hL5 rfl rfl (Sl.of_own hOa) (by rw [strs_lenD, Nat.mul_one]) (strs_oneD _) (by omega) (by unfold maxLen; omega) (by have := hX5.size; omega) ?_; intro pa' pc' w6 hP6 hg6))
    obtain ⟨M, hMd⟩ : ∃ M, M = 1 + (aboveP f.pkg).length := ⟨_, rfl⟩
    have hML : ps.length = M := by rw [← Hps.out, pathsL, List.length_cons, hMd]; omega
    have hM4 : M ≤ 4 := by omega
    have hX6 : X W w6 := X.of_below (hX5.below.grown hg6 hX5.size (fun k hk => by simp [Value.ownBlock] at hk; omega))
    have hP6' : w6.ownsRow W0.heap.size 9 1 (.slice pa' M pc') M (strs ps) := by
      rw [hMd, ← Hps.out]
      exact own_less hP6 hzW
    rw [← hMd]
    have hbB := at_x2' hb hX6
    have hVB := hV0.fr (hX6.fr W0.heap.size)
    have hXB := xx.trans hX6
    have HML := Lib.hid hML
    have HMd := Lib.hid hMd
    clear hMd hML hP6 hg6 hL5 hOa hX5 hx5 hb hV0 f1 lf hFW hX6 hal
    go_loopw [12, 13, 32] (fun _ _ i wr => ∃ (j : Nat) (vs : List (Di × Value)) (ra' : Option Addr) (rc' : Nat), j ≤ M ∧ i = .int .i64 j ∧ vs.map (·.1) = stampsL dl f.root (ps.take j) st ∧ wr.heap[g]? = some (.cells #[.slice ta tn tc, .int .i64 st, .slice ra' vs.length rc'] 38 (0, 0)) ∧
        DirsV wr W0.heap.size ra' rc' vs ∧ wr.ownsRow W0.heap.size 9 1 (.slice pa' M pc') M (strs ps) ∧ X W0 wr) (fun _ _ i _ => M - (intOf i).toNat)
    case atStart => exact ⟨0, vs0, ra, rc, Nat.zero_le _, rfl, HV0.out.2, hbB, hVB, hP6', hXB⟩
    case round =>
      obtain ⟨j, vs, ra', rc', hj, rfl, hvs, hgb, hV, hP, hX⟩ := hrel
      clear hbB hVB hP6' hXB hXW xx
      have hbj := Hokj.out j
      rw [← hvs] at hbj
      obtain ⟨okj, lnj⟩ := hbj
      rw [List.length_map] at lnj
      have hDA := hV.o.at okj
      have hzr := hX.size
      obtain ⟨lg, cg, fg⟩ := Bx.out ⟨_, hgb⟩
      have e0 := cg 0
      have e1 := cg 1
      have e2 := cg 2
      clear cg
      have Hvs := Lib.hid hvs
      clear hvs
      by_cases hlt : j < M
      · have hlt2 : (j : Int) < 1 + ((aboveP f.pkg).length : Int) := by have := HMd.out; omega
        have hSP := strsAt_of hP HML.out (by omega) (fun s hs => Nat.le_trans (Hpl12.out s hs) (by omega))
        obtain ⟨pb, poff, rfl, _, hpb, hpc, _⟩ := hSP.at_ hlt
        have hnx := Hnxj.out j (by rw [HML.out]; exact hlt)
        rw [← Hvs.out] at hnx
        generalize nth ps j = q at *
        have Hnx := Lib.hid hnx
        clear hnx hSP
        obtain ⟨lf, cf, _⟩ := (hF0.x hX).out
        have f0 := cf 0
        clear cf
        have hdx : didx (vs.map (·.1)) f.root q vs.length = didxL (vs.map (·.1)) f.root q := by unfold didxL; rw [List.length_map]
        rcases didxL_cases (vs.map (·.1)) f.root q with ⟨hd, _⟩ | ⟨k, hkl, hd, _, _⟩
        · have hst2 := stD_none (st := st) hd
          have Hst2 := Lib.hid hst2
          rw [hd] at hdx
          have Hdx := Lib.hid hdx
          clear hst2 hd hdx
          have hrow := hV.1
          go_upto_region 11 with (first
            | (go_at_call 105; refine (dirAt_i (vs.map (·.1)) ra' vs.length vs.length rc' _ f.root q wr hDA (Nat.le_refl _)).mono ?_; rintro _ w7 ⟨rfl, hx7⟩; rw [Hdx.out]; have hgb7 := at_x2' hgb hx7; obtain ⟨lg7, cg7, fg7⟩ := Bx.out ⟨_, hgb7⟩; have e7 := cg7 2; clear cg7; obtain ⟨lf7, cf7, _⟩ := ((hF0.x hX).x hx7).out; have f7 := cf7 0; clear cf7)
            | (at_builtin; refine wpList_append_g dir_T' rfl _ _ rfl (own_fr hrow (X.fr (X.alloc hx7 (.cells #[] 9)) _)) rfl rfl (by simp) rfl (by simp [Value.oneCell']) (by omega) (by omega) (by have := hx7.size; first | omega | (simp; omega)) ?_; intro a8 c8 w8 hO8 hg8; obtain ⟨g8, rfl, _, hgl8⟩ := own_form hO8 (by omega); have hX8 : X wr (((w7.alloc (.cells #[] 9))).alloc (.cells #[.int .i64 f.root, .string ⟨(q).toArray⟩, .int .i64 0, .slice (some ⟨w7.heap.size, 0, none⟩) 0 0] 140)) := (hx7.alloc _).alloc _; have hgb8 := at_grown (at_x2' hgb hX8) hg8 (own_ne_at hrow hgb (by decide)); obtain ⟨lg8, cg8, fg8⟩ := Bx.out ⟨_, hgb8⟩; have u0 := cg8 0; have u1 := cg8 1; have u2 := cg8 2; clear cg8))
          refine wp_name (fun W9 hW9 => ?_)
          have hne8 : g8 ≠ g := fun e => own_ne_at hO8 hgb8 (by decide) (by rw [e]; rfl)
          have hgb9 : W9.heap[g]? = some (.cells #[.slice ta tn tc, .int .i64 st, .slice (some ⟨g8, 0, none⟩) (vs.length + 1) c8] 38 (0, 0)) := by rw [hW9]; simpa using heap_setCell_same w8 g 2 _ _ (.slice (some ⟨g8, 0, none⟩) (vs.length + 1) c8) hgb8
          have hN8 : ((w7.alloc (.cells #[] 9)).alloc (.cells #[.int .i64 f.root, .string ⟨(q).toArray⟩, .int .i64 0, .slice (some ⟨w7.heap.size, 0, none⟩) 0 0] 140)).ownsRow W0.heap.size 9 1 (.slice (some ⟨w7.heap.size, 0, none⟩) 0 0) 0 [] :=
            own_less ((own_lit (w := w7) (cs := #[]) (e := 9) (B := w7.heap.size) (g := w7.heap.size) (size := 1) (n := 0) rfl (Nat.le_refl _) rfl (by omega)).alloc _) (Nat.le_trans hzr hx7.size)
          have hV8 := DirsV.snoc (d := ⟨f.root, q, 0, []⟩) (ba := some ⟨w7.heap.size, 0, none⟩) (bc := 0) (hV.fr (hX8.fr _)) hO8 hg8 hN8 (fun x hx => by
            obtain ⟨p, q', e, ho⟩ := hV.2.2 x hx
            refine .inr ?_
            rw [e]
            cases hb : (Value.slice p x.1.names.length q').ownBlock with
            | none => exact .inl rfl
            | some y =>
              refine .inr fun e2 => ?_
              have h1 := (ho.lt y hb).2
              have h2 : w7.heap.size = y := by simpa [Value.ownBlock] using e2
              have h3 := hx7.size
              omega)
          have hV9 : DirsV W9 W0.heap.size (some ⟨g8, 0, none⟩) c8 (vs ++ [(⟨f.root, q, 0, []⟩, .slice (some ⟨w7.heap.size, 0, none⟩) 0 0)]) := by rw [hW9]; exact hV8.far hgb8 (by decide) (by decide) _ _
          have hrow8 := own_fr hP (hX8.fr _)
          have hP9 : W9.ownsRow W0.heap.size 9 1 (.slice (some ⟨pb, poff, none⟩) M pc') M (strs ps) := by
            rw [hW9]
            exact own_set_far (hrow8.kept hg8 (row_ne hrow8 (own_fr hrow (hX8.fr _)) (by decide))) hgb8 (by decide) _ _
          have hX9 : X W0 W9 := by
            rw [hW9]
            refine X.setCell (X.of_below ((hX.trans hX8).below.grown hg8 (hX.trans hX8).size (fun k hk => (hrow.lt k hk).1))) ?_ _
            exact hg
          obtain ⟨h91, h92, h93⟩ := hV9
          have hmm : (vs ++ [((⟨f.root, q, 0, []⟩ : Di), Value.slice (some ⟨w7.heap.size, 0, none⟩) 0 0)]).length = vs.length + 1 := by rw [List.length_append, List.length_singleton]
          have hV9 : DirsV W9 W0.heap.size (some ⟨g8, 0, none⟩) c8 (vs ++ [(⟨f.root, q, 0, []⟩, .slice (some ⟨w7.heap.size, 0, none⟩) 0 0)]) := ⟨h91, h92, h93⟩
          have HV9 := Lib.hid hV9
          rw [hmm] at h91
          have Hmm := Lib.hid hmm
          obtain ⟨l9, c9, f9⟩ := Bx.out ⟨_, hgb9⟩
          have y1 := c9 1
          have y2 := c9 2
          have hf9 := (h91).frozenAt (vs.length * 4 + 2); obtain ⟨u9, hu9⟩ := own_here h91 (j := vs.length * 4 + 2) (by omega)
          have gl9 := (h91.lt g8 rfl).2
          have hkx : (vs.length : Int) < (vs.length : Int) + 1 := by omega
          clear c9 hW9 hgb8 u0 u1 u2 lg8 fg8 hO8 hg8 hX8 hgb7 lg7 fg7 e7 lf7 f7 hx7 hV hP hgb hDA e0 e1 e2 lg fg lf f0 hV8 hN8 hrow8 hrow hV9 h92 h93 hmm
          go_wp2
          go_roundw
          case rel =>
            have hst3 := HV9.out.stamp (k := vs.length) (by rw [Hmm.out]; omega) st
            refine ⟨j + 1, _, some ⟨g8, 0, none⟩, c8, by omega, by go_num, ?_, ?_, hst3, own_set_far hP9 (own_block h91).choose_spec (by decide) _ _, X.setCell hX9 (by exact (h91.lt g8 rfl).1) _⟩
            · (try rw [Hnx.out])
              rw [Hst2.out, List.map_set, List.map_append]
              rw [show nth (vs ++ [((⟨f.root, q, 0, []⟩ : Di), Value.slice (some ⟨w7.heap.size, 0, none⟩) 0 0)]) vs.length = (⟨f.root, q, 0, []⟩, .slice (some ⟨w7.heap.size, 0, none⟩) 0 0) from by
                have := nth_append_right (l := vs) (m := [((⟨f.root, q, 0, []⟩ : Di), Value.slice (some ⟨w7.heap.size, 0, none⟩) 0 0)]) (k := 0)
                rw [Nat.add_zero] at this
                rw [this]; rfl]
              rw [List.set_append_right _ _ (by rw [List.length_map]; exact Nat.le_refl _), List.length_map, Nat.sub_self]
              rfl
            · rw [Below.heap_setCell _ _ _ _ (by exact fun e => hne8 e.symm), List.length_set, Hmm.out]; exact hgb9
          case measure => simp [intOf]; omega
        · have hst2 := stD_some (st := st) hd
          have Hst2 := Lib.hid hst2
          rw [hd] at hdx
          have Hdx := Lib.hid hdx
          rw [List.length_map] at hkl
          clear hst2 hd hdx
          obtain ⟨g8, rfl, hg8B, hgl8⟩ := own_form hV.1 (by omega)
          have hne8 : g8 ≠ g := fun e => own_ne_at hV.1 hgb (by decide) (by rw [e]; rfl)
          have hk0' : (0 : Int) ≤ (k : Int) := by omega
          go_upto_region 11 with ((go_at_call 105; refine (dirAt_i (vs.map (·.1)) _ vs.length vs.length rc' _ f.root q wr hDA (Nat.le_refl _)).mono ?_; rintro _ W9 ⟨rfl, hx7⟩; rw [Hdx.out]))
          have hgb9 := at_x2' hgb hx7
          have hV9 := hV.fr (hx7.fr W0.heap.size)
          have hP9 := own_fr hP (hx7.fr _)
          have hX9 := hX.trans hx7
          obtain ⟨l9, c9, f9⟩ := Bx.out ⟨_, hgb9⟩
          have y1 := c9 1
          have y2 := c9 2
          have h91 := hV9.1
          have hf9 := (h91).frozenAt (k * 4 + 2); obtain ⟨u9, hu9⟩ := own_here h91 (j := k * 4 + 2) (by omega)
          have gl9 := (h91.lt g8 rfl).2
          have hkx : (k : Int) < (vs.length : Int) := by omega
          have HV9 := Lib.hid hV9
          have Hkl := Lib.hid hkl
          clear c9 hx7 hV hP hgb hDA e0 e1 e2 lg fg lf f0 hV9
          go_wp2
          go_roundw
          case rel =>
            have hst3 := HV9.out.stamp (k := k) Hkl.out st
            refine ⟨j + 1, _, some ⟨g8, 0, none⟩, rc', by omega, by go_num, ?_, ?_, hst3, own_set_far hP9 (own_block h91).choose_spec (by decide) _ _, X.setCell hX9 (by exact (h91.lt g8 rfl).1) _⟩
            · (try rw [Hnx.out])
              rw [Hst2.out, List.map_set, nth_map_fstD Hkl.out]
            · rw [Below.heap_setCell _ _ _ _ (by exact fun e => hne8 e.symm), List.length_set]; exact hgb9
          case measure => simp [intOf]; omega
      · obtain rfl : j = M := by omega
        have hlt2 : ¬ (j : Int) < 1 + ((aboveP f.pkg).length : Int) := by have := HMd.out; omega
        have hcl : vs.map (·.1) = cl := by rw [Hvs.out, List.take_of_length_le (by rw [HML.out]; exact Nat.le_refl _), Hclp.out]
        have hO9 := hV.o
        have hdc := own_cap hV.1
        rw [hcl] at hDA hO9
        have hln : vs.length = cl.length := by rw [← hcl, List.length_map]
        rw [hln] at hDA hO9 hdc e2
        have hRr := hR0.x hX
        have hTr := (hT.mono (hX0.fr _)).mono (hX.fr _)
        have hGr := hG.mono (hX0.trans hX)
        clear hgb fg hV hP okj lnj hcl hln
        cases ok
        · go_wp2_with (go_at_call 32; refine (ValidDisk_i l' ta tn tc st cl ra' cl.length rc' 0 wr (hTr.less (Nat.zero_le _)) htc (hDA.less (Nat.zero_le _)) hdc hGr).mono ?_; rintro _ w6 ⟨rfl, hx6⟩; rw [Hok2.out]; obtain ⟨lr, cr, fr⟩ := (hRr.x hx6).out; have r0 := cr 0; have r1 := cr 1; have r2 := cr 2; clear cr)
          obtain ⟨_, c9, _⟩ := (Bx.set (Bx.set (Bx.set (hRr.x hx6) 0 (.slice none 0 0)) 1 (.int .i64 0)) 2 (.slice none 0 0)).out
          have q0 := c9 0
          have q1 := c9 1
          have q2 := c9 2
          clear c9
          refine bodyPost_ret (v := .tuple #[.agg #[.slice none 0 0, .int .i64 0, .slice none 0 0], .bool false]) (by simp [results, Tryz.results47, go_sem, Result.andThen, q0, q1, q2]) rfl ?_
          exact ⟨_, rfl, rfl, x_set3 (b := w.heap.size + 3) ((hX0.trans hX).trans hx6) (by omega) _ _ _⟩
        · go_wp2_with (go_at_call 32; refine (ValidDisk_i l' ta tn tc st cl ra' cl.length rc' 0 wr (hTr.less (Nat.zero_le _)) htc (hDA.less (Nat.zero_le _)) hdc hGr).mono ?_; rintro _ w6 ⟨rfl, hx6⟩; rw [Hok2.out]; have z0 := (hx6.cell (p := ⟨g, 0, none⟩) lg).trans e0; have z1 := (hx6.cell (p := ⟨g, 1, none⟩) lg).trans e1; have z2 := (hx6.cell (p := ⟨g, 2, none⟩) lg).trans e2; have lz := Nat.lt_of_lt_of_le lg hx6.size; obtain ⟨lr, cr, fr⟩ := (hRr.x hx6).out; have r0 := cr 0; have r1 := cr 1; have r2 := cr 2; clear cr)
          obtain ⟨_, c9, _⟩ := (Bx.set (Bx.set (Bx.set (hRr.x hx6) 0 (.slice ta tn tc)) 1 (.int .i64 st)) 2 (.slice ra' cl.length rc')).out
          have q0 := c9 0
          have q1 := c9 1
          have q2 := c9 2
          clear c9
          refine bodyPost_ret (v := .tuple #[.agg #[.slice ta tn tc, .int .i64 st, .slice ra' cl.length rc'], .bool true]) (by simp [results, Tryz.results47, go_sem, Result.andThen, q0, q1, q2]) rfl ?_
          have hlb : w.heap.size + 3 < W0.heap.size := hR0.lt
          refine ⟨_, rfl, ⟨ra', rc', rfl, ?_⟩, x_set3 (b := w.heap.size + 3) ((hX0.trans hX).trans hx6) (by omega) _ _ _⟩
          exact ((hO9.fr (hx6.fr _)).fr (Fr.set (Fr.set (Fr.set (Fr.refl _ _) (.inr hlb) _) (.inr hlb) _) (.inr hlb) _)).less hX0.size

end Go.Proofs.YtgjfjjhmgbemcaaGreatDoor

namespace Go.Proofs.YtgjfjjhmgbemcaaGreatDoor
open Go.RowKit

set_option maxRecDepth 100000 in
set_option maxHeartbeats 2000000 in
theorem validDirs_c (l : List Di) (a : Option Addr) (n c B : Nat) (w : World) (hD : DirsAt w B a n l) :
    Calls Tryz.prog 94 #[.slice a n c] w fun e w' => e = .returned (.bool (dirsB l 200 12)) ∧ X w w' := by
  obtain ⟨hl, hn⟩ := hD.len
  have Hl := Lib.hid hl
  clear hl
  go_enter Tryz.func94, Tryz.ntmps94
  go_wp2
  go_loopw [3] (fun i wr => ∃ k : Nat, k ≤ n ∧ i = .int .i64 k ∧ allN (dirB l 200 12) k = true ∧ X w wr) (fun i _ => n - (intOf i).toNat)
  case atStart => exact ⟨0, by omega, rfl, rfl, X.refl _⟩
  case round =>
    obtain ⟨k, hk, rfl, hall, hX⟩ := hrel
    by_cases hlt : k < n
    · have hD2 := hD.mono (hX.fr _)
      obtain ⟨b, off, ba, bn, bc, rfl, _, hb, hpk, _, hS, g0, g1, g2, g3⟩ := hD2.at_ (k := k) hlt
      have hbn := hS.1
      have hbl := hS.2.1
      have Hno := Lib.hid (show dirB l 200 12 k = false → dirsB l 200 12 = false from fun h1 => by
        unfold dirsB; rw [allN_not (k := k) h1 (by rw [← Hl.out]; exact hlt)]; rfl)
      have Hd := Lib.hid (show dirB l 200 12 k = (rangeB (nth l k).root 0 2 && pkgB (nth l k).pkg && rangeB (nth l k).stamp 0 200 && decide ((bn : Int) ≤ 12) && !decide (didx l (nth l k).root (nth l k).pkg n < (k : Int))) by
        unfold dirB
        rw [hbn, didx_lt hlt])
      clear hbn
      have hXw := hX
      cases q1 : rangeB (nth l k).root 0 2
      · go_wp2
        refine wp_region_grow0 (by kernel_rfl) (by kernel_rfl) ?_
        repeat (go_big_quiet_step (((first
          | (go_at_call 40; refine grow_same (inRange_c _ _ _ _))
          | (go_at_call 149; refine grow_of (validPackage_c (nth l k).pkg _ (by omega)))
          | (go_at_call 150; refine grow_of (dirAt_s l _ n n c B (nth l k).root (nth l k).pkg _ (hD2.mono (X.fr (by (repeat (first | exact X.refl _ | assumption | refine X.ext ?_ _ | refine X.alloc ?_ _ | refine X.drew ?_))) _)) (Nat.le_refl _)))))))
        refine wpQuiet_nil ?_
        rintro _ ⟨y, rfl⟩
        go_wp2
        go_ret
        exact ⟨ret_bool (Hno.out (by rw [Hd.out]; simp [*])).symm, hXw.trans (by (repeat (first | exact X.refl _ | assumption | refine X.ext ?_ _ | refine X.alloc ?_ _ | refine X.drew ?_)))⟩
      cases q2 : pkgB (nth l k).pkg
      · go_wp2
        refine wp_region_grow0 (by kernel_rfl) (by kernel_rfl) ?_
        repeat (go_big_quiet_step (((first
          | (go_at_call 40; refine grow_same (inRange_c _ _ _ _))
          | (go_at_call 149; refine grow_of (validPackage_c (nth l k).pkg _ (by omega)))
          | (go_at_call 150; refine grow_of (dirAt_s l _ n n c B (nth l k).root (nth l k).pkg _ (hD2.mono (X.fr (by (repeat (first | exact X.refl _ | assumption | refine X.ext ?_ _ | refine X.alloc ?_ _ | refine X.drew ?_))) _)) (Nat.le_refl _)))))))
        refine wpQuiet_nil ?_
        rintro _ ⟨y, rfl⟩
        go_wp2
        go_ret
        exact ⟨ret_bool (Hno.out (by rw [Hd.out]; simp [*])).symm, hXw.trans (by (repeat (first | exact X.refl _ | assumption | refine X.ext ?_ _ | refine X.alloc ?_ _ | refine X.drew ?_)))⟩
      cases q3 : rangeB (nth l k).stamp 0 200
      · go_wp2
        refine wp_region_grow0 (by kernel_rfl) (by kernel_rfl) ?_
        repeat (go_big_quiet_step (((first
          | (go_at_call 40; refine grow_same (inRange_c _ _ _ _))
          | (go_at_call 149; refine grow_of (validPackage_c (nth l k).pkg _ (by omega)))
          | (go_at_call 150; refine grow_of (dirAt_s l _ n n c B (nth l k).root (nth l k).pkg _ (hD2.mono (X.fr (by (repeat (first | exact X.refl _ | assumption | refine X.ext ?_ _ | refine X.alloc ?_ _ | refine X.drew ?_))) _)) (Nat.le_refl _)))))))
        refine wpQuiet_nil ?_
        rintro _ ⟨y, rfl⟩
        go_wp2
        go_ret
        exact ⟨ret_bool (Hno.out (by rw [Hd.out]; simp [*])).symm, hXw.trans (by (repeat (first | exact X.refl _ | assumption | refine X.ext ?_ _ | refine X.alloc ?_ _ | refine X.drew ?_)))⟩
      by_cases q5 : didx l (nth l k).root (nth l k).pkg n < (k : Int)
      · go_wp2
        refine wp_region_grow0 (by kernel_rfl) (by kernel_rfl) ?_
        repeat (go_big_quiet_step (((first
          | (go_at_call 40; refine grow_same (inRange_c _ _ _ _))
          | (go_at_call 149; refine grow_of (validPackage_c (nth l k).pkg _ (by omega)))
          | (go_at_call 150; refine grow_of (dirAt_s l _ n n c B (nth l k).root (nth l k).pkg _ (hD2.mono (X.fr (by (repeat (first | exact X.refl _ | assumption | refine X.ext ?_ _ | refine X.alloc ?_ _ | refine X.drew ?_))) _)) (Nat.le_refl _)))))))
        refine wpQuiet_nil ?_
        rintro _ ⟨y, rfl⟩
        go_wp2
        go_ret
        exact ⟨ret_bool (Hno.out (by rw [Hd.out]; simp [*])).symm, hXw.trans (by (repeat (first | exact X.refl _ | assumption | refine X.ext ?_ _ | refine X.alloc ?_ _ | refine X.drew ?_)))⟩
      have q5b : decide (didx l (nth l k).root (nth l k).pkg n < (k : Int)) = false := by rw [decide_eq_false_iff_not]; exact q5
      by_cases q4 : (12 : Int) < (bn : Int)
      · have q4' : decide ((bn : Int) ≤ 12) = false := by rw [decide_eq_false_iff_not]; omega
        go_wp2
        refine wp_region_grow0 (by kernel_rfl) (by kernel_rfl) ?_
        repeat (go_big_quiet_step (((first
          | (go_at_call 40; refine grow_same (inRange_c _ _ _ _))
          | (go_at_call 149; refine grow_of (validPackage_c (nth l k).pkg _ (by omega)))
          | (go_at_call 150; refine grow_of (dirAt_s l _ n n c B (nth l k).root (nth l k).pkg _ (hD2.mono (X.fr (by (repeat (first | exact X.refl _ | assumption | refine X.ext ?_ _ | refine X.alloc ?_ _ | refine X.drew ?_))) _)) (Nat.le_refl _)))))))
        refine wpQuiet_nil ?_
        rintro _ ⟨y, rfl⟩
        go_wp2
        go_ret
        exact ⟨ret_bool (Hno.out (by rw [Hd.out]; simp [*])).symm, hXw.trans (by (repeat (first | exact X.refl _ | assumption | refine X.ext ?_ _ | refine X.alloc ?_ _ | refine X.drew ?_)))⟩
      have q4' : decide ((bn : Int) ≤ 12) = true := by rw [decide_eq_true_iff]; omega
      go_wp2
      refine wp_region_grow0 (by kernel_rfl) (by kernel_rfl) ?_
      repeat (go_big_quiet_step (((first
        | (go_at_call 40; refine grow_same (inRange_c _ _ _ _))
        | (go_at_call 149; refine grow_of (validPackage_c (nth l k).pkg _ (by omega)))
        | (go_at_call 150; refine grow_of (dirAt_s l _ n n c B (nth l k).root (nth l k).pkg _ (hD2.mono (X.fr (by (repeat (first | exact X.refl _ | assumption | refine X.ext ?_ _ | refine X.alloc ?_ _ | refine X.drew ?_))) _)) (Nat.le_refl _)))))))
      refine wpQuiet_nil ?_
      rintro _ ⟨y, rfl⟩
      go_wp2
      go_roundw
      case rel => exact ⟨k + 1, by omega, by go_num, allN_next hall (by rw [Hd.out]; simp [*]), hXw.trans (by (repeat (first | exact X.refl _ | assumption | refine X.ext ?_ _ | refine X.alloc ?_ _ | refine X.drew ?_)))⟩
      case measure => simp [intOf]; omega
    · obtain rfl : k = n := by omega
      go_wp2
      go_ret
      exact ⟨ret_bool (by rw [dirsB, ← Hl.out, hall, Bool.true_and]; exact decide_eq_decide.2 (by omega)), hX⟩

set_option maxRecDepth 100000 in
set_option maxHeartbeats 2000000 in
theorem validDisk_c (l : List Fi) (a : Option Addr) (n c : Nat) (kk : Int) (dl : List Di) (da : Option Addr) (dn dc B : Nat) (w : World) (hF : FilesAt w B a n l) (hD : DirsAt w B da dn dl) :
    Calls Tryz.prog 39 #[.agg #[.slice a n c, .int .i64 kk, .slice da dn dc]] w fun e w' => e = .returned (.bool (diskB l kk dl)) ∧ X w w' := by
  obtain ⟨hl, hn⟩ := hD.len
  have Hl := Lib.hid hl
  clear hl
  have Hlaw := Lib.hid (@disk_law l kk dl)
  go_enter Tryz.func39, Tryz.ntmps39
  go_wp2
  refine wp_name (fun W0 hW0 => ?_)
  have hB0 : Bx W0 w.heap.size #[.slice a n c, .int .i64 kk, .slice da dn dc] := by rw [hW0]; exact Bx.new _ _ _
  have hX0 : X w W0 := by rw [hW0]; (repeat (first | with_reducible exact X.refl _ | with_reducible assumption | with_reducible refine X.setCell ?_ (by first | (simp; done) | (simp; omega)) _ | with_reducible refine X.ext ?_ _ | with_reducible refine X.alloc ?_ _ | with_reducible refine X.drew ?_))
  clear hW0
  obtain ⟨lb, cb, _⟩ := hB0.out
  have e0 := cb 0
  have e1 := cb 1
  have e2 := cb 2
  clear cb
  go_loopw [3] (fun i wr => ∃ k : Nat, k ≤ dn ∧ i = .int .i64 k ∧ allN (fun k => decide ((nth dl k).stamp ≤ kk) && decide (((nth dl k).names.length : Int) ≤ 0)) k = true ∧ ∃ x, wr = World.ext W0 x) (fun i _ => dn - (intOf i).toNat)
  case atStart => exact ⟨0, by omega, rfl, rfl, X.refl _⟩
  case round =>
    obtain ⟨k, hk, rfl, hall, x, rfl⟩ := hrel
    by_cases hlt : k < dn
    · obtain ⟨b, off, ba, bn, bc, rfl, _, hb, _, _, hS, g0, g1, g2, g3⟩ := (hD.mono (hX0.fr _)).at_ (k := k) hlt
      have hbn := hS.1
      have hbl := hS.2.1
      have Hbn := Lib.hid hbn
      clear hbn
      have Hno := Lib.hid (@disk_no l kk dl k (by rw [← Hl.out]; exact hlt))
      by_cases q1 : kk < (nth dl k).stamp
      · go_wp2
        refine wp_region_grow (by kernel_rfl) (by kernel_rfl) ?_
        repeat (go_big_quiet_step ((fail)))
        refine wpQuiet_nil ?_
        rintro _ ⟨y, rfl⟩
        go_wp2
        go_ret
        exact ⟨ret_bool (Hno.out (by rw [decide_eq_false (by omega)]; rfl)).symm, hX0.trans (by (repeat (first | exact X.refl _ | assumption | refine X.ext ?_ _ | refine X.alloc ?_ _ | refine X.drew ?_)))⟩
      have q1b : decide (kk < (nth dl k).stamp) = false := by rw [decide_eq_false_iff_not]; exact q1
      by_cases q2 : (0 : Int) < (bn : Int)
      · go_wp2
        refine wp_region_grow (by kernel_rfl) (by kernel_rfl) ?_
        repeat (go_big_quiet_step ((fail)))
        refine wpQuiet_nil ?_
        rintro _ ⟨y, rfl⟩
        go_wp2
        go_ret
        exact ⟨ret_bool (Hno.out (by rw [← Hbn.out, decide_eq_false (p := (bn : Int) ≤ 0) (by omega), Bool.and_false])).symm, hX0.trans (by (repeat (first | exact X.refl _ | assumption | refine X.ext ?_ _ | refine X.alloc ?_ _ | refine X.drew ?_)))⟩
      go_wp2
      refine wp_region_grow (by kernel_rfl) (by kernel_rfl) ?_
      repeat (go_big_quiet_step ((fail)))
      refine wpQuiet_nil ?_
      rintro _ ⟨y, rfl⟩
      go_wp2
      go_roundw
      case rel => exact ⟨k + 1, by omega, by go_num, allN_next hall (by rw [← Hbn.out, decide_eq_true (p := (nth dl k).stamp ≤ kk) (by omega), decide_eq_true (p := (bn : Int) ≤ 0) (by omega)]; rfl), _, rfl⟩
      case measure => simp [intOf]; omega
    · obtain rfl : k = dn := by omega
      have Hall := Lib.hid (Hlaw.out (by rw [← Hl.out]; exact hall))
      clear hall
      cases h1 : treeB l <;> cases h2 : rangeB kk 0 200
      all_goals
        go_wp2_with (first
          | (go_at_call 93; refine (validTree_c l a n c B _ (hF.mono (X.fr (hX0.trans (by (repeat (first | exact X.refl _ | assumption | refine X.ext ?_ _ | refine X.alloc ?_ _ | refine X.drew ?_)))) _))).mono ?_; rintro _ w3 ⟨rfl, hx3⟩; rw [h1]; replace hx3 := X.trans (a := W0) (by (repeat (first | exact X.refl _ | assumption | refine X.ext ?_ _ | refine X.alloc ?_ _ | refine X.drew ?_))) hx3; obtain ⟨z3, rfl⟩ := hx3)
          | (go_at_call 40; refine (inRange_c kk 0 200 _).mono ?_; rintro _ _ ⟨rfl, rfl⟩; rw [h2])
          | (go_at_call 94; refine (validDirs_c dl da k dc B _ (hD.mono (X.fr (hX0.trans (by (repeat (first | exact X.refl _ | assumption | refine X.ext ?_ _ | refine X.alloc ?_ _ | refine X.drew ?_)))) _))).mono ?_; rintro _ w4 ⟨rfl, hx4⟩; replace hx4 := X.trans (a := W0) (by (repeat (first | exact X.refl _ | assumption | refine X.ext ?_ _ | refine X.alloc ?_ _ | refine X.drew ?_))) hx4; obtain ⟨z4, rfl⟩ := hx4))
        all_goals go_ret
        all_goals exact ⟨ret_bool (by rw [← Hall.out]; simp [h1, h2]), hX0.trans (by (repeat (first | exact X.refl _ | assumption | refine X.ext ?_ _ | refine X.alloc ?_ _ | refine X.drew ?_)))⟩

end Go.Proofs.YtgjfjjhmgbemcaaGreatDoor

namespace Go.Proofs.YtgjfjjhmgbemcaaGreatDoor
open Go.RowKit

theorem pkg_cases {p : List UInt8} (h : pkgB p = true) : p = [] ∨ nameB p = true := by
  by_cases hp : p = []
  · exact .inl hp
  · exact .inr (pkgB_name h hp)
theorem below_toS {B B' : Nat} {w w' : World} (h : Below B' w w') (hB : B ≤ B') : Below B w w' := ⟨h.os, h.tape, h.output, h.size, fun k hk => h.block k (by omega)⟩
theorem unwantS {o : Oper} {y : Nat → Option Bool} {A E : Prop} (hg : Region.wanted o y = true) (h : if Region.wanted o y = true then A else E) : A := by rwa [if_pos hg] at h
theorem below_thenS {B : Nat} {a b c : World} (h : Below B a b) (hB : B ≤ a.heap.size) (k : Below b.heap.size b c) : Below B a c :=
  ⟨k.os.trans h.os, k.tape.trans h.tape, k.output.trans h.output, Nat.le_trans h.size k.size, fun i hi => (k.block i (Nat.lt_of_lt_of_le hi (Nat.le_trans hB h.size))).trans (h.block i hi)⟩
/-- The disks' boxes that were there are as they were. -/
def KD (w w' : World) : Prop := ∀ b cs, b < w.heap.size → w.heap[b]? = some (.cells cs 38 (0, 0)) → w'.heap[b]? = some (.cells cs 38 (0, 0))
theorem KD.x {w a b : World} (h : KD w a) (k : X a b) : KD w b := fun i cs hi e => at_x2' (h i cs hi e) k
theorem KD.of_x {w a : World} (k : X w a) : KD w a := fun _ _ _ e => at_x2' e k
theorem KD.grown {w a b : World} {B n : Nat} {v : Value} {xs : List Value} (h : KD w a) (hg : a.grownBy b v.ownBlock) (ho : a.ownsRow B 140 4 v n xs) : KD w b :=
  fun i cs hi e => at_grown (h i cs hi e) hg (own_ne_at ho (h i cs hi e) (by decide))
theorem KD.set {w a : World} (h : KD w a) (p : Addr) (u : Value) (hp : w.heap.size ≤ p.block) : KD w (a.setCell p u) :=
  fun i cs hi e => (heap_setCell_other a p i u (by omega)).trans (h i cs hi e)
theorem KD.setRow {w a : World} {B n c g k : Nat} {xs : List Value} (h : KD w a) (u : Value) (ho : a.ownsRow B 140 4 (.slice (some ⟨g, 0, none⟩) n c) n xs) : KD w (a.setCell ⟨g, k, none⟩ u) :=
  fun i cs hi e => (heap_setCell_other a ⟨g, k, none⟩ i u (fun e2 => own_ne_at ho (h i cs hi e) (by decide) (by rw [e2]; rfl))).trans (h i cs hi e)
theorem st_open {w W : World} {c1 c2 : Array Value} {t1 t2 : TypeId} {s : Value} (h : W = ((w.alloc (.cells c1 t1)).alloc (.cells c2 t2)).alloc (.cells #[s] 9)) :
    W.heap[w.heap.size]? = some (.cells c1 t1 (0, 0)) ∧ W.heap[w.heap.size + 1]? = some (.cells c2 t2 (0, 0)) ∧ W.ownsRow w.heap.size 9 1 (.slice (some ⟨w.heap.size + 1 + 1, 0, none⟩) 1 1) 1 [s] ∧ X w W ∧ w.heap.size + 3 = W.heap.size := by
  obtain ⟨h1, h2, _, hx⟩ := bx3 (w := w) (c1 := c1) (c2 := c2) (c3 := #[s]) (t1 := t1) (t2 := t2) (t3 := 9) rfl
  rw [h]
  refine ⟨?_, ?_, ?_, hx, by simp⟩
  · have := at_x2' (heap_alloc_new w (.cells c1 t1)) ((X.refl _).alloc (.cells c2 t2))
    exact at_x2' this ((X.refl _).alloc _)
  · have := heap_alloc_new (w.alloc (.cells c1 t1)) (.cells c2 t2)
    have := at_x2' this ((X.refl _).alloc (.cells #[s] 9))
    simpa using this
  · exact own_less (own_lit (w := (w.alloc (.cells c1 t1)).alloc (.cells c2 t2)) (cs := #[s]) (e := 9) (B := w.heap.size) (g := w.heap.size + 1 + 1) (size := 1) (n := 1) (by simp) (by simp; omega) rfl (by omega)) (Nat.le_refl _)
set_option maxRecDepth 100000 in
set_option maxHeartbeats 4000000 in
theorem stamped_s (a : Option Addr) (n c : Nat) (st r : Int) (p : List UInt8) (dl : List Di) (da : Option Addr) (dn dc B : Nat) (w : World) (hO : DirsO w B da dn dc dl) (hB : B ≤ w.heap.size) (okD : OkD dl) (hdn : dn ≤ 1000000) (hp : pkgB p = true) :
    Calls Tryz.prog 98 #[.agg #[.slice a n c, .int .i64 st, .slice da dn dc], .int .i64 r, .string ⟨(p).toArray⟩] w fun e w' => ∃ ra rc, e = .returned (.agg #[.slice a n c, .int .i64 st, .slice ra (stampsL dl r (pathsL p) st).length rc]) ∧
      DirsO w' B ra (stampsL dl r (pathsL p) st).length rc (stampsL dl r (pathsL p) st) ∧ Below B w w' ∧ KD w w' := by
  obtain ⟨ps, hps⟩ : ∃ ps, pathsL p = ps := ⟨_, rfl⟩
  obtain ⟨cl, hcl⟩ : ∃ cl, stampsL dl r (pathsL p) st = cl := ⟨_, rfl⟩
  have hclp : stampsL dl r ps st = cl := by rw [← hcl, hps]
  rw [hcl]
  obtain ⟨hpl4, hpl12⟩ := paths_len (p := p)
  rw [hps] at hpl4 hpl12
  have hdl : dn = dl.length := by obtain ⟨_, _, h, _⟩ := hO; exact h
  have hokj : ∀ j, OkD (stampsL dl r (ps.take j) st) ∧ (stampsL dl r (ps.take j) st).length ≤ 1000004 := fun j => by
    have h1 : (ps.take j).length ≤ 4 := by rw [List.length_take]; omega
    obtain ⟨h2, h3⟩ := okD_stamps (r := r) (st := st) (ps.take j) dl 1000000 okD (by omega) (by omega) (fun p hp => Nat.le_trans (hpl12 p (List.mem_of_mem_take hp)) (by omega))
    exact ⟨h2, by omega⟩
  have hnxj := fun j (hj : j < ps.length) => @stamps_next dl r st ps j hj
  have Hps := Lib.hid hps
  have Hclp := Lib.hid hclp
  have Hpl12 := Lib.hid hpl12
  have Hokj := Lib.hid hokj
  have Hnxj := Lib.hid hnxj
  clear hps hcl hclp hpl12 hokj hnxj hdl okD
  obtain ⟨vs0, hvl0, hvs0, hV0⟩ := hO.v
  rw [hvl0] at hdn
  have Hvs0 := Lib.hid hvs0
  clear hO hvs0
  subst hvl0
  rcases pkg_cases hp with rfl | hn
  case' inl =>
    have hML : ps.length = 1 := by rw [← Hps.out]; rfl
    obtain ⟨M, hM⟩ : ∃ M, M = 1 := ⟨_, rfl⟩
    have hps1 : ps = [[]] := by rw [← Hps.out]; rfl
    go_enter Tryz.func98, Tryz.ntmps98
    go_wp2
    refine wp_name (fun W6 hW6 => ?_)
    obtain ⟨hb0, hR0, hP6, hX6, hz6⟩ := st_open hW6
    clear hW6
    obtain ⟨pa', hpa⟩ : ∃ x, x = some (⟨w.heap.size + 1 + 1, 0, none⟩ : Addr) := ⟨_, rfl⟩
    obtain ⟨pc', hpc⟩ : ∃ x, x = 1 := ⟨_, rfl⟩
    have hv : Value.slice (some ⟨w.heap.size + 1 + 1, 0, none⟩) 1 1 = .slice pa' M pc' := by rw [hpa, hpc, hM]
    rw [hv] at hP6 ⊢
    have hP6 : W6.ownsRow w.heap.size 9 1 (.slice pa' M pc') M (strs ps) := by rw [hps1]; rw [hM] at hP6 ⊢; exact hP6
    rw [← hM] at hML
    have hM4 : M ≤ 4 := by omega
    clear hM hpa hpc hv hps1
  case' inr =>
    have hne : p.isEmpty = false := by
      cases p with
      | nil => exact absurd hn (by decide)
      | cons => rfl
    go_enter Tryz.func98, Tryz.ntmps98
    go_wp2_with (first
      | (go_at_call 151; refine calls_name (fun W1 hW1 => ?_); refine (above_s p W1 hn).mono ?_; rintro _ w5 ⟨pa, pc, rfl, hOa, hx5⟩; obtain ⟨hb1, hR1, hP1, hX1, hz1⟩ := st_open hW1; clear hW1; have hL5 := own_fr hP1 (hx5.fr _); have hal : (aboveP p).length ≤ 3 := by (have := hpl4; rw [← Hps.out, pathsL, List.length_cons] at this; omega))
      | (at_builtin; refine wpList_append_sl str_T rfl _ _ rfl hL5 rfl rfl (Sl.of_own hOa) (by rw [strs_lenD, Nat.mul_one]) (strs_oneD _) (by omega) (by unfold maxLen; omega) (by have := hx5.size; omega) ?_; intro pa' pc' W6 hP6 hg6))
    obtain ⟨M, hMd⟩ : ∃ M, M = 1 + (aboveP p).length := ⟨_, rfl⟩
    have hML : ps.length = M := by rw [← Hps.out, pathsL, List.length_cons, hMd]; omega
    have hM4 : M ≤ 4 := by omega
    have hX6 : X w W6 := X.of_below (((hX1.trans hx5).below).grown hg6 (hX1.trans hx5).size (fun k hk => by simp [Value.ownBlock] at hk; omega))
    have hP6 : W6.ownsRow w.heap.size 9 1 (.slice pa' M pc') M (strs ps) := by
      rw [hMd, ← Hps.out]
      exact hP6
    rw [← hMd]
    have hb0 := at_grown (at_x2' hb1 hx5) hg6 (by intro e; have e2 : some (w.heap.size + 1 + 1) = some _ := e; have := Option.some.inj e2; omega)
    have hR0 := at_grown (at_x2' hR1 hx5) hg6 (by intro e; have e2 : some (w.heap.size + 1 + 1) = some _ := e; have := Option.some.inj e2; omega)
    clear hMd hg6 hL5 hOa hx5 hX1 hb1 hR1 hP1 hz1 hal
  all_goals
    have HML := Lib.hid hML
    clear hML
    go_loopw [8, 9] (fun i _ wr => ∃ (j : Nat) (vs : List (Di × Value)) (ra' : Option Addr) (rc' : Nat), j ≤ M ∧ i = .int .i64 j ∧ vs.map (·.1) = stampsL dl r (ps.take j) st ∧ wr.heap[w.heap.size]? = some (.cells #[.slice a n c, .int .i64 st, .slice ra' vs.length rc'] 38 (0, 0)) ∧
        wr.heap[w.heap.size + 1]? = some (.cells #[.slice none 0 0, .int .i64 0, .slice none 0 0] 38 (0, 0)) ∧ DirsV wr B ra' rc' vs ∧ wr.ownsRow w.heap.size 9 1 (.slice pa' M pc') M (strs ps) ∧ Below B w wr ∧ KD w wr) (fun i _ _ => M - (intOf i).toNat)
    case atStart => exact ⟨0, vs0, da, dc, Nat.zero_le _, rfl, by rw [Hvs0.out]; rfl, hb0, hR0, hV0.fr (hX6.fr _), hP6, below_toS hX6.below hB, KD.of_x hX6⟩
    case round =>
      obtain ⟨j, vs, ra', rc', hj, rfl, hvs, hgb, hR, hV, hP, hX, hK⟩ := hrel
      clear hb0 hR0 hP6 hX6 hV0
      have hbj := Hokj.out j
      rw [← hvs] at hbj
      obtain ⟨okj, lnj⟩ := hbj
      rw [List.length_map] at lnj
      have hDA := hV.o.at okj
      have hzr := hX.size
      obtain ⟨lg, cg, fg⟩ := Bx.out ⟨_, hgb⟩
      have e0 := cg 0
      have e1 := cg 1
      have e2 := cg 2
      clear cg
      have Hvs := Lib.hid hvs
      clear hvs
      by_cases hlt : j < M
      · have hlt2 : (j : Int) < (M : Int) := by omega
        have hSP := strsAt_of hP HML.out (by omega) (fun s hs => Nat.le_trans (Hpl12.out s hs) (by omega))
        obtain ⟨pb, poff, rfl, _, hpb, hpc, _⟩ := hSP.at_ hlt
        have hnx := Hnxj.out j (by rw [HML.out]; exact hlt)
        rw [← Hvs.out] at hnx
        generalize nth ps j = q at *
        have Hnx := Lib.hid hnx
        clear hnx hSP
        have hdx : didx (vs.map (·.1)) r q vs.length = didxL (vs.map (·.1)) r q := by unfold didxL; rw [List.length_map]
        rcases didxL_cases (vs.map (·.1)) r q with ⟨hd, _⟩ | ⟨k, hkl, hd, _, _⟩
        · have hst2 := stD_none (st := st) hd
          have Hst2 := Lib.hid hst2
          rw [hd] at hdx
          have Hdx := Lib.hid hdx
          clear hst2 hd hdx
          have hrow := hV.1
          have hPne : some pb ≠ (Value.slice ra' vs.length rc').ownBlock := (row_ne hP hrow (by decide)).elim (fun h => absurd (show some pb = none from h) (by simp)) (fun h => h)
          go_wp2_with fail
          go_region_held_law (fun w' => w'.cell? ⟨w.heap.size, 2, none⟩ = some (.slice ra' vs.length rc') ∧ w'.cell? ⟨pb, poff + j, none⟩ = some (.string ⟨(q).toArray⟩))
            (first | exact ⟨e2, hpc⟩ | exact ⟨e72, hpc7⟩ | go_keep)
            ((go_at_call 150; refine (dirAt_s (vs.map (·.1)) ra' vs.length vs.length rc' _ r q _ (hDA.mono (X.fr (w := wr) (by (repeat (first | exact X.refl _ | assumption | refine X.ext ?_ _ | refine X.alloc ?_ _ | refine X.drew ?_))) _)) (Nat.le_refl _)).mono ?_; rintro _ w7 ⟨rfl, hx7⟩; have hx7 : X wr w7 := X.trans (by (repeat (first | exact X.refl _ | assumption | refine X.ext ?_ _ | refine X.alloc ?_ _ | refine X.drew ?_))) hx7; rw [Hdx.out]; have hgb7 := at_x2' hgb hx7; obtain ⟨lg7, cg7, fg7⟩ := Bx.out ⟨_, hgb7⟩; have e71 := cg7 1; have e72 := cg7 2; clear cg7; have hpc7 := (hx7.cell (p := ⟨pb, poff + j, none⟩) hpb).trans hpc))
          all_goals
            rename_i hHeld
            clear hHeld
            have hpb7 := Nat.lt_of_lt_of_le hpb hx7.size
            have hrow7 := own_fr hrow (hx7.fr _)
            have hBw7 : B ≤ w7.heap.size := Nat.le_trans hB (Nat.le_trans hX.size hx7.size)
            go_wp2_with fail
            refine wp_region_inv (fun L v W => (L 11 = false → X w7 W)
                ∧ (L 11 = true → L 13 = false → ∃ g8 c8, v 11 = .slice (some ⟨g8, 0, none⟩) (vs.length + 1) c8 ∧ W.ownsRow B 140 4 (.slice (some ⟨g8, 0, none⟩) (vs.length + 1) c8) (vs.length + 1) (vs.flatMap dcells ++ [.int .i64 r, .string ⟨(q).toArray⟩, .int .i64 st, .slice none 0 0]) ∧ w7.grownBy W (Value.slice ra' vs.length rc').ownBlock)
                ∧ (L 13 = true → L 11 = true)
                ∧ (L 11 = true → L 1 = true ∧ L 10 = true)
                ∧ (L 10 = true → L 9 = true)
                ∧ (L 9 = true → L 6 = true ∧ L 8 = true)
                ∧ (L 0 = true → v 0 = .pointer (some ⟨w.heap.size, 2, none⟩))
                ∧ (L 1 = true → v 1 = .slice ra' vs.length rc')
                ∧ (L 2 = true → v 2 = .int .i64 r)
                ∧ (L 3 = true → v 3 = .slice (some ⟨pb, poff, none⟩) M pc')
                ∧ (L 4 = true → v 4 = .int .i64 (j : Int))
                ∧ (L 5 = true → v 5 = .pointer (some ⟨pb, poff + j, none⟩))
                ∧ (L 6 = true → v 6 = .string ⟨(q).toArray⟩)
                ∧ (L 7 = true → v 7 = .pointer (some ⟨w.heap.size, 1, none⟩))
                ∧ (L 8 = true → v 8 = .int .i64 st)
                ∧ (L 9 = true → v 9 = .agg #[.int .i64 r, .string ⟨(q).toArray⟩, .int .i64 st, .slice none 0 0])
                ∧ (L 10 = true → ∃ g, v 10 = .slice (some ⟨g, 0, none⟩) 1 1 ∧ (L 11 = false → W.heap[g]? = some (.cells #[.int .i64 r, .string ⟨(q).toArray⟩, .int .i64 st, .slice none 0 0] 140 (0, 0))))
                ∧ (L 12 = true → v 12 = .pointer (some ⟨w.heap.size, 2, none⟩))
                ∧ (L 13 = true → ∃ w8 g8 c8, W = w8.setCell ⟨w.heap.size, 2, none⟩ (.slice (some ⟨g8, 0, none⟩) (vs.length + 1) c8) ∧ w8.ownsRow B 140 4 (.slice (some ⟨g8, 0, none⟩) (vs.length + 1) c8) (vs.length + 1) (vs.flatMap dcells ++ [.int .i64 r, .string ⟨(q).toArray⟩, .int .i64 st, .slice none 0 0]) ∧ w7.grownBy w8 (Value.slice ra' vs.length rc').ownBlock)) (by kernel_rfl) (by kernel_rfl) ?_ ?_ (l := [(33, 0), (34, 1), (35, 2), (36, 3), (37, 4), (38, 5), (39, 6), (40, 7), (41, 8), (42, 9), (43, 10), (44, 11), (45, 12)]) (by kernel_rfl) (n := 14) rfl ?_
            · intro v
              exact ⟨fun _ => (X.refl _).drew, fun h => Bool.noConfusion h, fun h => Bool.noConfusion h, fun h => Bool.noConfusion h, fun h => Bool.noConfusion h, fun h => Bool.noConfusion h, fun h => Bool.noConfusion h, fun h => Bool.noConfusion h, fun h => Bool.noConfusion h, fun h => Bool.noConfusion h, fun h => Bool.noConfusion h, fun h => Bool.noConfusion h, fun h => Bool.noConfusion h, fun h => Bool.noConfusion h, fun h => Bool.noConfusion h, fun h => Bool.noConfusion h, fun h => Bool.noConfusion h, fun h => Bool.noConfusion h, fun h => Bool.noConfusion h⟩
            · intro i hi
              have hi' : i = 0 ∨ i = 1 ∨ i = 2 ∨ i = 3 ∨ i = 4 ∨ i = 5 ∨ i = 6 ∨ i = 7 ∨ i = 8 ∨ i = 9 ∨ i = 10 ∨ i = 11 ∨ i = 12 ∨ i = 13 := by
                have : i < 14 := hi
                omega
              clear hi
              rcases hi' with rfl | rfl | rfl | rfl | rfl | rfl | rfl | rfl | rfl | rfl | rfl | rfl | rfl | rfl
              all_goals
                intro o ho L v aa W hI hS hL hA K hK
                cases (show some _ = some o from ho)
                obtain ⟨xx, ap, d13, d11, d10, d9, v0, v1, v2, v3, v4, v5, v6, v7, v8, v9, v10, v12, fin⟩ := hI
              · have a0 := hS.old 3 (by kernel_rfl) rfl
                clear hS ho hA
                go_simp
                exact hK _ W ⟨xx, ap, d13, d11, d10, d9, fun _ => rfl, v1, v2, v3, v4, v5, v6, v7, v8, v9, v10, v12, fin⟩
              · have l0 : L 0 = true := hA ⟨0, .data⟩ (by simp) rfl
                have a0 := hS.get 0 33 rfl l0 (v0 l0)
                have n11 : L 11 = false := by rcases h : L 11 with _ | _; (· rfl); (· have := (d11 h).1; simp [hL] at this)
                obtain ⟨lt, ct, _⟩ := Bx.out ⟨_, at_x2' hgb7 (xx n11)⟩
                have e1 := ct 1
                have e2 := ct 2
                clear ct
                clear hS ho hA
                go_simp
                exact hK _ W ⟨xx, ap, d13, fun h => ⟨rfl, (d11 h).2⟩, d10, d9, v0, fun _ => rfl, v2, v3, v4, v5, v6, v7, v8, v9, v10, v12, fin⟩
              · have a0 := hS.old 1 (by kernel_rfl) rfl
                clear hS ho hA
                go_simp
                exact hK _ W ⟨xx, ap, d13, d11, d10, d9, v0, v1, fun _ => rfl, v3, v4, v5, v6, v7, v8, v9, v10, v12, fin⟩
              · have a0 := hS.old 7 (by kernel_rfl) rfl
                clear hS ho hA
                go_simp
                exact hK _ W ⟨xx, ap, d13, d11, d10, d9, v0, v1, v2, fun _ => rfl, v4, v5, v6, v7, v8, v9, v10, v12, fin⟩
              · have a0 := hS.old 8 (by kernel_rfl) rfl
                clear hS ho hA
                go_simp
                exact hK _ W ⟨xx, ap, d13, d11, d10, d9, v0, v1, v2, v3, fun _ => rfl, v5, v6, v7, v8, v9, v10, v12, fin⟩
              · have l3 : L 3 = true := hA ⟨3, .data⟩ (by simp) rfl
                have a3 := hS.get 3 36 rfl l3 (v3 l3)
                have l4 : L 4 = true := hA ⟨4, .data⟩ (by simp) rfl
                have a4 := hS.get 4 37 rfl l4 (v4 l4)
                clear hS ho hA
                go_simp
                exact hK _ W ⟨xx, ap, d13, d11, d10, d9, v0, v1, v2, v3, v4, fun _ => rfl, v6, v7, v8, v9, v10, v12, fin⟩
              · have l5 : L 5 = true := hA ⟨5, .data⟩ (by simp) rfl
                have a5 := hS.get 5 38 rfl l5 (v5 l5)
                have n11 : L 11 = false := by rcases h : L 11 with _ | _; (· rfl); (· have := (d9 (d10 (d11 h).2)).1; simp [hL] at this)
                have cB := ((xx n11).cell (p := ⟨pb, poff + j, none⟩) hpb7).trans hpc7
                have gl := Nat.lt_of_lt_of_le hpb7 (xx n11).size
                clear hS ho hA
                go_simp
                exact hK _ W ⟨xx, ap, d13, d11, d10, fun h => ⟨rfl, (d9 h).2⟩, v0, v1, v2, v3, v4, v5, fun _ => rfl, v7, v8, v9, v10, v12, fin⟩
              · have a0 := hS.old 3 (by kernel_rfl) rfl
                clear hS ho hA
                go_simp
                exact hK _ W ⟨xx, ap, d13, d11, d10, d9, v0, v1, v2, v3, v4, v5, v6, fun _ => rfl, v8, v9, v10, v12, fin⟩
              · have l7 : L 7 = true := hA ⟨7, .data⟩ (by simp) rfl
                have a7 := hS.get 7 40 rfl l7 (v7 l7)
                have n11 : L 11 = false := by rcases h : L 11 with _ | _; (· rfl); (· have := (d9 (d10 (d11 h).2)).2; simp [hL] at this)
                obtain ⟨lt, ct, _⟩ := Bx.out ⟨_, at_x2' hgb7 (xx n11)⟩
                have e1 := ct 1
                have e2 := ct 2
                clear ct
                clear hS ho hA
                go_simp
                exact hK _ W ⟨xx, ap, d13, d11, d10, fun h => ⟨(d9 h).1, rfl⟩, v0, v1, v2, v3, v4, v5, v6, v7, fun _ => rfl, v9, v10, v12, fin⟩
              · have l2 : L 2 = true := hA ⟨2, .data⟩ (by simp) rfl
                have l6 : L 6 = true := hA ⟨6, .data⟩ (by simp) rfl
                have l8 : L 8 = true := hA ⟨8, .data⟩ (by simp) rfl
                have a2 := hS.get 2 35 rfl l2 (v2 l2)
                have a6 := hS.get 6 39 rfl l6 (v6 l6)
                have a8 := hS.get 8 41 rfl l8 (v8 l8)
                clear hS ho hA
                go_simp
                exact hK _ W ⟨xx, ap, d13, d11, fun _ => rfl, fun _ => ⟨l6, l8⟩, v0, v1, v2, v3, v4, v5, v6, v7, v8, fun _ => rfl, v10, v12, fin⟩
              · have l9 : L 9 = true := hA ⟨9, .data⟩ (by simp) rfl
                have a9 := hS.get 9 42 rfl l9 (v9 l9)
                have n11 : L 11 = false := by rcases h : L 11 with _ | _; (· rfl); (· have := (d11 h).2; simp [hL] at this)
                have n13 : L 13 = false := by rcases h : L 13 with _ | _; (· rfl); (· have := (d11 (d13 h)).2; simp [hL] at this)
                clear hS ho hA
                go_simp
                exact hK _ _ ⟨fun h => (xx h).alloc _, fun h => Bool.noConfusion (n11.symm.trans h), d13, fun h => ⟨(d11 h).1, rfl⟩, fun _ => l9, d9, v0, v1, v2, v3, v4, v5, v6, v7, v8, v9, fun _ => ⟨_, rfl, fun _ => heap_alloc_new _ _⟩, v12, fun h => Bool.noConfusion (n13.symm.trans h)⟩
              · have l1 : L 1 = true := hA ⟨1, .data⟩ (by simp) rfl
                have l10 : L 10 = true := hA ⟨10, .data⟩ (by simp) rfl
                have n13 : L 13 = false := by rcases h : L 13 with _ | _; (· rfl); (· have := d13 h; simp [hL] at this)
                obtain ⟨gl, e10, hgl⟩ := v10 l10
                refine unwantS (E := True) (by exact rfl) (step_append_t (ops := #[]) dir_T' rfl _ _ rfl (xx hL) hrow7 ((hS.eval_on 1 34 rfl l1).trans (v1 l1)) ((hS.eval_on 10 43 rfl l10).trans e10) (hgl hL) rfl (by simp [Value.oneCell']) (by omega) (by omega) hBw7 ?_)
                intro a8 c8 w8 hO8 hg8
                obtain ⟨g8, rfl, _, _⟩ := own_form hO8 (by omega)
                exact hK _ w8 ⟨fun h => Bool.noConfusion h, fun _ _ => ⟨g8, c8, rfl, hO8, hg8⟩, fun _ => rfl, fun _ => ⟨l1, l10⟩, d10, d9, v0, v1, v2, v3, v4, v5, v6, v7, v8, v9, fun h => let ⟨g, e, _⟩ := v10 h; ⟨g, e, fun h => Bool.noConfusion h⟩, v12, fun h => Bool.noConfusion (n13.symm.trans h)⟩
              · have a0 := hS.old 3 (by kernel_rfl) rfl
                clear hS ho hA
                go_simp
                exact hK _ W ⟨xx, ap, d13, d11, d10, d9, v0, v1, v2, v3, v4, v5, v6, v7, v8, v9, v10, fun _ => rfl, fin⟩
              · have l12 : L 12 = true := hA ⟨12, .data⟩ (by simp) rfl
                have l11 : L 11 = true := hA ⟨11, .data⟩ (by simp) rfl
                have a12 := hS.get 12 45 rfl l12 (v12 l12)
                obtain ⟨g8, c8, e11, hO8, hg8⟩ := ap l11 hL
                have a11 := hS.get 11 44 rfl l11 e11
                obtain ⟨lt, ct, ft⟩ := Bx.out ⟨_, at_grown hgb7 hg8 (own_ne_at hrow7 hgb7 (by decide))⟩
                have e2 := ct 2
                clear ct
                clear hS ho hA
                go_simp
                exact hK undef _ ⟨fun h => Bool.noConfusion (l11.symm.trans h), fun _ h => Bool.noConfusion h, fun _ => l11, d11, d10, d9, v0, v1, v2, v3, v4, v5, v6, v7, v8, v9, fun h => let ⟨g, e, _⟩ := v10 h; ⟨g, e, fun h => Bool.noConfusion (l11.symm.trans h)⟩, v12, fun _ => ⟨W, g8, c8, rfl, hO8, hg8⟩⟩
            · intro v W hI
              obtain ⟨xx, ap, d13, d11, d10, d9, v0, v1, v2, v3, v4, v5, v6, v7, v8, v9, v10, v12, fin⟩ := hI
              obtain ⟨w8, g8, c8, rfl, hO8, hg8⟩ := fin rfl
              clear fin xx ap d13 d11 d10 d9 v0 v1 v2 v3 v4 v5 v6 v7 v8 v9 v10 v12
              simp only [putL, List.foldl, List.setIfInBounds_toArray, List.set_cons_zero, List.set_cons_succ]
              have hgb8 := at_grown hgb7 hg8 (own_ne_at hrow7 hgb7 (by decide))
              have hR7 := at_x2' hR hx7
              have hR8 := at_grown hR7 hg8 (own_ne_at hrow7 hR7 (by decide))
              have hV8 := DirsV.snoc (d := ⟨r, q, st, []⟩) (ba := none) (bc := 0) (hV.fr (hx7.fr _)) hO8 hg8 ⟨rfl, .inl ⟨rfl, rfl⟩⟩ (fun _ _ => .inl rfl)
              have hV9 := hV8.far hgb8 (by decide) (by decide) 2 (.slice (some ⟨g8, 0, none⟩) (vs.length + 1) c8)
              have hP7 := own_fr hP (hx7.fr _)
              have hP8 := hP7.kept hg8 (row_ne hP7 hrow7 (by decide))
              have hP9 := own_set_far hP8 hgb8 (by decide) 2 (.slice (some ⟨g8, 0, none⟩) (vs.length + 1) c8)
              have hgb9 := heap_setCell_same w8 w.heap.size 2 _ _ (.slice (some ⟨g8, 0, none⟩) (vs.length + 1) c8) hgb8
              have hR9 := (heap_setCell_other w8 ⟨w.heap.size, 2, none⟩ (w.heap.size + 1) (.slice (some ⟨g8, 0, none⟩) (vs.length + 1) c8) (by simp)).trans hR8
              have hB9 : Below B w (w8.setCell ⟨w.heap.size, 2, none⟩ (.slice (some ⟨g8, 0, none⟩) (vs.length + 1) c8)) := ((below_thenS hX hB hx7.below).grown hg8 hBw7 (fun k hk => (hrow7.lt k hk).1)).setCell hB _
              have hK9 := ((hK.x hx7).grown hg8 hrow7).set ⟨w.heap.size, 2, none⟩ (.slice (some ⟨g8, 0, none⟩) (vs.length + 1) c8) (Nat.le_refl _)
              clear hK hgb8 hR7 hR8 hV8 hP7 hP8 hgb7 lg7 fg7 e71 e72 hpc7 hrow7 hBw7 hO8 hg8 hV hR hP hgb hDA e0 e1 e2 lg fg
              go_wp2
              go_roundw
              case rel =>
                refine ⟨j + 1, _, some ⟨g8, 0, none⟩, c8, by omega, by go_num, ?_, ?_, hR9, hV9, hP9, hB9, hK9⟩
                · rw [Hnx.out, Hst2.out, List.map_append]
                  rfl
                · rw [List.length_append, List.length_singleton]
                  simpa using hgb9
              case measure => simp [intOf]; omega
        · have hst2 := stD_some (st := st) hd
          have Hst2 := Lib.hid hst2
          rw [hd] at hdx
          have Hdx := Lib.hid hdx
          rw [List.length_map] at hkl
          clear hst2 hd hdx
          obtain ⟨g8, rfl, hg8B, hgl8⟩ := own_form hV.1 (by omega)
          have hne8 : g8 ≠ w.heap.size := fun e => own_ne_at hV.1 hgb (by decide) (by rw [e]; rfl)
          have hne9 : g8 ≠ w.heap.size + 1 := fun e => own_ne_at hV.1 hR (by decide) (by rw [e]; rfl)
          have hk0' : (0 : Int) ≤ (k : Int) := by omega
          have hk0'' : ¬ (k : Int) < 0 := by omega
          go_wp2_with fail
          go_region_held_law (fun w' => w'.cell? ⟨w.heap.size, 2, none⟩ = some (.slice (some ⟨g8, 0, none⟩) vs.length rc') ∧ w'.cell? ⟨pb, poff + j, none⟩ = some (.string ⟨(q).toArray⟩))
            (first | exact ⟨e2, hpc⟩ | exact ⟨e72, hpc7⟩ | go_keep)
            ((go_at_call 150; refine (dirAt_s (vs.map (·.1)) _ vs.length vs.length rc' _ r q _ (hDA.mono (X.fr (w := wr) (by (repeat (first | exact X.refl _ | assumption | refine X.ext ?_ _ | refine X.alloc ?_ _ | refine X.drew ?_))) _)) (Nat.le_refl _)).mono ?_; rintro _ w7 ⟨rfl, hx7⟩; have hx7 : X wr w7 := X.trans (by (repeat (first | exact X.refl _ | assumption | refine X.ext ?_ _ | refine X.alloc ?_ _ | refine X.drew ?_))) hx7; rw [Hdx.out]; have hgb7 := at_x2' hgb hx7; obtain ⟨lg7, cg7, fg7⟩ := Bx.out ⟨_, hgb7⟩; have e71 := cg7 1; have e72 := cg7 2; clear cg7; have hpc7 := (hx7.cell (p := ⟨pb, poff + j, none⟩) hpb).trans hpc))
          all_goals
            rename_i hHeld
            clear hHeld
            have hV9 := hV.fr (hx7.fr B)
            have hP9 := own_fr hP (hx7.fr _)
            have hR9 := at_x2' hR hx7
            have hX9 := below_thenS hX hB hx7.below
            have hK9 := hK.x hx7
            clear hK
            have h91 := hV9.1
            have hf9 := (h91).frozenAt (k * 4 + 2); obtain ⟨u9, hu9⟩ := own_here h91 (j := k * 4 + 2) (by omega)
            have gl9 := (h91.lt g8 rfl).2
            have hkx : (k : Int) < (vs.length : Int) := by omega
            have HV9 := Lib.hid hV9
            have Hkl := Lib.hid hkl
            clear hx7 hV hP hgb hDA e0 e1 e2 lg fg hV9 hR
            go_wp2
            go_roundw
            case rel =>
              have hst3 := HV9.out.stamp (k := k) Hkl.out st
              refine ⟨j + 1, _, some ⟨g8, 0, none⟩, rc', by omega, by go_num, ?_, ?_, ?_, hst3, own_set_far hP9 (own_block h91).choose_spec (by decide) _ _, hX9.setCell hg8B _, hK9.setRow _ h91⟩
              · rw [Hnx.out, Hst2.out, List.map_set, nth_map_fstD Hkl.out]
              · rw [Below.heap_setCell _ _ _ _ (by exact fun e => hne8 e.symm), List.length_set]; exact hgb7
              · rw [Below.heap_setCell _ _ _ _ (by exact fun e => hne9 e.symm)]; exact hR9
            case measure => simp [intOf]; omega
      · obtain rfl : j = M := by omega
        have hlt2 : ¬ (j : Int) < (j : Int) := by omega
        have hcl : vs.map (·.1) = cl := by rw [Hvs.out, List.take_of_length_le (by rw [HML.out]; exact Nat.le_refl _), Hclp.out]
        have hO9 := hV.o
        rw [hcl] at hO9
        have hln : vs.length = cl.length := by rw [← hcl, List.length_map]
        rw [hln] at hO9 e2
        obtain ⟨lr, cr, fr⟩ := Bx.out ⟨_, hR⟩
        have r0 := cr 0
        have r1 := cr 1
        have r2 := cr 2
        clear cr
        have f1 := fr
        have e0' := e0
        go_wp2
        obtain ⟨c9', _⟩ := (heap_set3 (W := wr) (b := w.heap.size + 1) hR (.slice a n c) (.int .i64 st) (.slice ra' cl.length rc')) |> fun h => And.intro (Bx.out ⟨_, h⟩).2.1 trivial
        have q0 := c9' 0
        have q1 := c9' 1
        have q2 := c9' 2
        clear c9'
        refine bodyPost_ret (v := .agg #[.slice a n c, .int .i64 st, .slice ra' cl.length rc']) (by simp [results, Tryz.results98, go_sem, Result.andThen, q0, q1, q2]) rfl ?_
        exact ⟨ra', rc', rfl, ((hO9.far hR (by decide) (by decide) _ _).far (heap_set1 hR) (by decide) (by decide) _ _).far (heap_set2 hR) (by decide) (by decide) _ _, ((hX.setCell (by simp; omega) _).setCell (by simp; omega) _).setCell (by simp; omega) _, ((hK.set _ _ (by simp)).set _ _ (by simp)).set _ _ (by simp)⟩

end Go.Proofs.YtgjfjjhmgbemcaaGreatDoor

namespace Go.Proofs.YtgjfjjhmgbemcaaGreatDoor
open Go.RowKit

theorem below_then2 {B C : Nat} {a b c : World} (h : Below B a b) (k : Below C b c) (hBC : B ≤ C) : Below B a c :=
  ⟨k.os.trans h.os, k.tape.trans h.tape, k.output.trans h.output, Nat.le_trans h.size k.size, fun i hi => (k.block i (Nat.lt_of_lt_of_le hi hBC)).trans (h.block i hi)⟩
set_option maxRecDepth 100000 in
set_option maxHeartbeats 4000000 in
theorem changed_s (l' : List Fi) (ta a : Option Addr) (tn tc n c : Nat) (kk ticks r : Int) (p : List UInt8) (dl : List Di) (da : Option Addr) (dn dc Bt Bd : Nat) (w : World) (hT : FilesAt w Bt ta tn l') (hD : DirsAt w Bd da dn dl) (hdn : dn ≤ 1000000) (hk : rangeB kk 0 200 = true) (ht : rangeB ticks 0 200 = true) (hp : pkgB p = true) :
    Calls Tryz.prog 42 #[.agg #[.slice a n c, .int .i64 kk, .slice da dn dc], .agg #[.slice ta tn tc], .int .i64 r, .string ⟨(p).toArray⟩, .int .i64 ticks] w fun e w' => ∃ v, e = .returned (.tuple #[v, .bool (chB l' kk dl r p ticks)]) ∧
      (chB l' kk dl r p ticks = false → v = .agg #[.slice none 0 0, .int .i64 0, .slice none 0 0]) ∧
      (chB l' kk dl r p ticks = true → ∃ ra rc, v = .agg #[.slice ta tn tc, .int .i64 (kk + ticks), .slice ra (chD dl r p (kk + ticks)).length rc] ∧ DirsO w' w.heap.size ra (chD dl r p (kk + ticks)).length rc (chD dl r p (kk + ticks))) ∧ X w w' := by
  obtain ⟨hk0, hk1⟩ := rangeB_iff.1 hk
  obtain ⟨h0, ht1⟩ := rangeB_iff.1 ht
  obtain ⟨st, hst⟩ : ∃ st, st = kk + ticks := ⟨_, rfl⟩
  have hst2 : IntKind.i64.wrap (kk + ticks) = st := by rw [hst]; exact IntWalk.i64_in _ (by omega)
  obtain ⟨cl, hcl⟩ : ∃ cl, chD dl r p (kk + ticks) = cl := ⟨_, rfl⟩
  have hclp : stampsL dl r (pathsL p) st = cl := by rw [← hcl, chD, hst]
  obtain ⟨ok, hok⟩ : ∃ ok, chB l' kk dl r p ticks = ok := ⟨_, rfl⟩
  have hok2 : diskB l' st cl = ok := by
    rw [← hok, chB, hcl, hst, ht, Bool.true_and]
  rw [hcl, hok, ← hst]
  have okD := hD.okD
  have okC : OkD cl := by
    obtain ⟨hpl4, hpl12⟩ := paths_len (p := p)
    have hdl := hD.len.1
    rw [← hclp]
    exact (okD_stamps (r := r) (st := st) (pathsL p) dl 1000000 okD (by omega) (by omega) (fun q hq => Nat.le_trans (hpl12 q hq) (by omega))).1
  have Hst := Lib.hid hst
  have Hclp := Lib.hid hclp
  have Hok2 := Lib.hid hok2
  clear hst hcl hclp hok hok2 hk ht
  go_enter Tryz.func42, Tryz.ntmps42
  go_wp2
  refine wp_name (fun W0 hW0 => ?_)
  obtain ⟨hD0, hT0, hR0, hX0⟩ := bx3 hW0
  have hsz0 : w.heap.size + 3 = W0.heap.size := by rw [hW0]; simp
  clear hW0
  have hDl := hD.mono (hX0.fr _)
  refine wp_region_inv (fun L v W => X W0 W
      ∧ (L 10 = true → L 9 = true)
      ∧ (L 8 = true → L 7 = true)
      ∧ (L 10 = true → L 8 = true)
      ∧ (L 0 = true → v 0 = .agg #[.slice ta tn tc])
      ∧ (L 1 = true → v 1 = .pointer (some ⟨w.heap.size, 1, none⟩))
      ∧ (L 2 = true → v 2 = .int .i64 kk)
      ∧ (L 3 = true → v 3 = .int .i64 ticks)
      ∧ (L 4 = true → v 4 = .int .i64 st)
      ∧ (L 5 = true → v 5 = .pointer (some ⟨w.heap.size, 2, none⟩))
      ∧ (L 6 = true → v 6 = .slice da dn dc)
      ∧ (L 7 = true → ∃ ra rc, v 7 = .slice ra dn rc ∧ DirsO W W0.heap.size ra dn rc dl)
      ∧ (L 8 = true → ∃ ra rc, v 8 = .agg #[.slice ta tn tc, .int .i64 st, .slice ra dn rc] ∧ DirsO W W0.heap.size ra dn rc dl)
      ∧ (L 9 = true → ∃ g, v 9 = .pointer (some ⟨g, 0, none⟩) ∧ W0.heap.size ≤ g ∧ (L 10 = false → W.heap[g]? = some (.cells #[.slice none 0 0, .int .i64 0, .slice none 0 0] 38 (0, 0))))
      ∧ (L 10 = true → ∃ g ra rc, v 9 = .pointer (some ⟨g, 0, none⟩) ∧ W0.heap.size ≤ g ∧ W.heap[g]? = some (.cells #[.slice ta tn tc, .int .i64 st, .slice ra dn rc] 38 (0, 0)) ∧ DirsO W W0.heap.size ra dn rc dl)) (by kernel_rfl) (by kernel_rfl) ?_ ?_ (l := [(13, 0), (14, 1), (15, 2), (16, 3), (17, 4), (18, 5), (19, 6), (20, 7), (21, 8), (12, 9)]) (by kernel_rfl) (n := 11) rfl ?_
  · intro v
    exact ⟨(X.refl _).drew, fun h => Bool.noConfusion h, fun h => Bool.noConfusion h, fun h => Bool.noConfusion h, fun h => Bool.noConfusion h, fun h => Bool.noConfusion h, fun h => Bool.noConfusion h, fun h => Bool.noConfusion h, fun h => Bool.noConfusion h, fun h => Bool.noConfusion h, fun h => Bool.noConfusion h, fun h => Bool.noConfusion h, fun h => Bool.noConfusion h, fun h => Bool.noConfusion h, fun h => Bool.noConfusion h⟩
  · intro i hi
    have hi' : i = 0 ∨ i = 1 ∨ i = 2 ∨ i = 3 ∨ i = 4 ∨ i = 5 ∨ i = 6 ∨ i = 7 ∨ i = 8 ∨ i = 9 ∨ i = 10 := by
      have : i < 11 := hi
      omega
    clear hi
    rcases hi' with rfl | rfl | rfl | rfl | rfl | rfl | rfl | rfl | rfl | rfl | rfl
    all_goals
      intro o ho L v aa W hI hS hL hA K hK
      cases (show some _ = some o from ho)
      obtain ⟨xx, dp, d8, d10, v0, v1, v2, v3, v4, v5, v6, v7, v8, v9, fin⟩ := hI
    · have a5 := hS.old 6 (by kernel_rfl) rfl
      obtain ⟨lt, ct, _⟩ := (hT0.x xx).out
      have e := ct 0
      clear ct
      clear hS ho hA
      go_simp
      exact hK _ W ⟨xx, dp, d8, d10, fun _ => rfl, v1, v2, v3, v4, v5, v6, v7, v8, v9, fin⟩
    · have a0 := hS.old 5 (by kernel_rfl) rfl
      clear hS ho hA
      go_simp
      exact hK _ W ⟨xx, dp, d8, d10, v0, fun _ => rfl, v2, v3, v4, v5, v6, v7, v8, v9, fin⟩
    · have l1 : L 1 = true := hA ⟨1, .data⟩ (by simp) rfl
      have a1 := hS.get 1 14 rfl l1 (v1 l1)
      obtain ⟨lt, ct, _⟩ := (hD0.x xx).out
      have e := ct 1
      clear ct
      clear hS ho hA
      go_simp
      exact hK _ W ⟨xx, dp, d8, d10, v0, v1, fun _ => rfl, v3, v4, v5, v6, v7, v8, v9, fin⟩
    · have a0 := hS.old 4 (by kernel_rfl) rfl
      clear hS ho hA
      go_simp
      exact hK _ W ⟨xx, dp, d8, d10, v0, v1, v2, fun _ => rfl, v4, v5, v6, v7, v8, v9, fin⟩
    · have l2 : L 2 = true := hA ⟨2, .data⟩ (by simp) rfl
      have l3 : L 3 = true := hA ⟨3, .data⟩ (by simp) rfl
      have a2 := hS.get 2 15 rfl l2 (v2 l2)
      have a3 := hS.get 3 16 rfl l3 (v3 l3)
      clear hS ho hA
      go_simp
      exact hK _ W ⟨xx, dp, d8, d10, v0, v1, v2, v3, fun _ => rfl, v5, v6, v7, v8, v9, fin⟩
    · have a0 := hS.old 5 (by kernel_rfl) rfl
      clear hS ho hA
      go_simp
      exact hK _ W ⟨xx, dp, d8, d10, v0, v1, v2, v3, v4, fun _ => rfl, v6, v7, v8, v9, fin⟩
    · have l5 : L 5 = true := hA ⟨5, .data⟩ (by simp) rfl
      have a5 := hS.get 5 18 rfl l5 (v5 l5)
      obtain ⟨lt, ct, _⟩ := (hD0.x xx).out
      have e := ct 2
      clear ct
      clear hS ho hA
      go_simp
      exact hK _ W ⟨xx, dp, d8, d10, v0, v1, v2, v3, v4, v5, fun _ => rfl, v7, v8, v9, fin⟩
    · have l6 : L 6 = true := hA ⟨6, .data⟩ (by simp) rfl
      have a6 := hS.get 6 19 rfl l6 (v6 l6)
      have n10 : L 10 = false := by rcases h : L 10 with _ | _; (· rfl); (· have := d8 (d10 h); simp [hL] at this)
      clear hS ho hA
      go_simp
      refine (copyDirs_c dl da dn dc Bd W (hDl.mono (xx.fr _))).mono ?_
      rintro _ w' ⟨ra, rc, rfl, hO, hx⟩
      exact hK _ w' ⟨xx.trans hx, dp, fun _ => rfl, d10, v0, v1, v2, v3, v4, v5, v6, fun _ => ⟨ra, rc, rfl, hO.less xx.size⟩, fun h => let ⟨ra, rc, e, ho⟩ := v8 h; ⟨ra, rc, e, ho.fr (hx.fr _)⟩, fun h => let ⟨g, e, hg, hb⟩ := v9 h; ⟨g, e, hg, fun h => at_x2' (hb h) hx⟩, fun h => Bool.noConfusion (n10.symm.trans h)⟩
    · have l0 : L 0 = true := hA ⟨0, .data⟩ (by simp) rfl
      have l4 : L 4 = true := hA ⟨4, .data⟩ (by simp) rfl
      have l7 : L 7 = true := hA ⟨7, .data⟩ (by simp) rfl
      have a0 := hS.get 0 13 rfl l0 (v0 l0)
      have a4 := hS.get 4 17 rfl l4 (v4 l4)
      obtain ⟨ra, rc, e7, hq⟩ := v7 l7
      have a7 := hS.get 7 20 rfl l7 e7
      have n10 : L 10 = false := by rcases h : L 10 with _ | _; (· rfl); (· have := d10 h; simp [hL] at this)
      clear hS ho hA
      go_simp
      exact hK _ W ⟨xx, dp, fun _ => l7, fun h => Bool.noConfusion (n10.symm.trans h), v0, v1, v2, v3, v4, v5, v6, v7, fun _ => ⟨ra, rc, rfl, hq⟩, v9, fin⟩
    · have n10 : L 10 = false := by rcases h : L 10 with _ | _; (· rfl); (· have := dp h; simp [hL] at this)
      clear hS ho hA
      go_simp
      exact hK _ _ ⟨xx.alloc _, fun _ => rfl, d8, d10, v0, v1, v2, v3, v4, v5, v6, fun h => let ⟨ra, rc, e, ho⟩ := v7 h; ⟨ra, rc, e, ho.fr (((X.refl W).alloc _).fr _)⟩, fun h => let ⟨ra, rc, e, ho⟩ := v8 h; ⟨ra, rc, e, ho.fr (((X.refl W).alloc _).fr _)⟩, fun _ => ⟨_, rfl, xx.size, fun _ => heap_alloc_new _ _⟩, fun h => Bool.noConfusion (n10.symm.trans h)⟩
    · have l8 : L 8 = true := hA ⟨8, .data⟩ (by simp) rfl
      have l9 : L 9 = true := hA ⟨9, .data⟩ (by simp) rfl
      obtain ⟨ra, rc, e8, hq⟩ := v8 l8
      obtain ⟨g, e9, hg, hb0⟩ := v9 l9
      have hb := hb0 hL
      have a8 := hS.get 8 21 rfl l8 e8
      have a9 := hS.get 9 12 rfl l9 e9
      obtain ⟨lb, cb, fb0⟩ := Bx.out ⟨_, hb⟩
      have f0 := fb0 0
      have f1 := fb0 1
      have f2 := fb0 2
      have c0 := cb 0
      have c1 := cb 1
      have c2 := cb 2
      clear fb0 cb
      clear hS ho hA
      go_simp
      exact hK undef _ ⟨x_set3 xx hg _ _ _, fun _ => l9, d8, fun _ => l8, v0, v1, v2, v3, v4, v5, v6, fun h => let ⟨ra, rc, e, ho⟩ := v7 h; ⟨ra, rc, e, (((ho.far hb (by decide) (by decide) _ _).far (heap_set1 hb) (by decide) (by decide) _ _).far (heap_set2 hb) (by decide) (by decide) _ _)⟩, fun h => let ⟨ra, rc, e, ho⟩ := v8 h; ⟨ra, rc, e, (((ho.far hb (by decide) (by decide) _ _).far (heap_set1 hb) (by decide) (by decide) _ _).far (heap_set2 hb) (by decide) (by decide) _ _)⟩, fun _ => ⟨g, e9, hg, fun h => Bool.noConfusion h⟩, fun _ => ⟨g, ra, rc, e9, hg, heap_set3 hb _ _ _, (((hq.far hb (by decide) (by decide) _ _).far (heap_set1 hb) (by decide) (by decide) _ _).far (heap_set2 hb) (by decide) (by decide) _ _)⟩⟩
  · intro v W hI
    obtain ⟨xx, dp, d8, d10, v0, v1, v2, v3, v4, v5, v6, v7, v8, v9, fin⟩ := hI
    obtain ⟨g, ra, rc, e9, hg, hb, hO⟩ := fin rfl
    clear fin v0 v1 v2 v3 v4 v5 v6 v7 v8 v9 dp d8 d10
    simp only [putL, List.foldl, List.setIfInBounds_toArray, List.set_cons_zero, List.set_cons_succ, e9]
    clear e9
    have hXW := hX0.trans xx
    have hzW := xx.size
    obtain ⟨lg, cg, fg⟩ := Bx.out ⟨_, hb⟩
    have e0 := cg 0
    have e1 := cg 1
    have e2 := cg 2
    clear cg
    cases ok
    all_goals go_wp2_with (first
      | (go_at_call 98; refine (stamped_s ta tn tc st r p dl ra dn rc W0.heap.size W hO hzW okD hdn hp).mono ?_; rintro _ w5 ⟨ra', rc', rfl, hO5, hB5, hK5⟩; rw [Hclp.out] at hO5 ⊢; have hb5 := hK5 g _ lg hb; obtain ⟨l5, c5, f5⟩ := Bx.out ⟨_, hb5⟩; have x0 := c5 0; have x1 := c5 1; have x2 := c5 2; clear c5)
      | (go_at_call 39; refine calls_name (fun w6 hw6 => ?_); have hb6 : w6.heap[g]? = some (.cells #[.slice ta tn tc, .int .i64 st, .slice ra' cl.length rc'] 38 (0, 0)) := (by rw [hw6]; exact heap_set3 hb5 _ _ _);
         have hO6 : DirsO w6 W0.heap.size ra' cl.length rc' cl := (by rw [hw6]; exact ((hO5.far hb5 (by decide) (by decide) _ _).far (heap_set1 hb5) (by decide) (by decide) _ _).far (heap_set2 hb5) (by decide) (by decide) _ _);
         have hB6 : Below W0.heap.size W w6 := (by rw [hw6]; exact ((hB5.setCell hg _).setCell hg _).setCell hg _); clear hw6 hb5 x0 x1 x2 f5 l5 hO5 hB5 hK5;
         have hX6 : X w w6 := X.of_below (below_then2 hXW.below hB6 (by omega)); have hX06 : X W0 w6 := X.of_below (below_then2 xx.below hB6 (Nat.le_refl _)); have hDA6 := hO6.at okC; have hRr := hR0.x hX06;
         refine (validDisk_c l' ta tn tc st cl ra' cl.length rc' 0 w6 ((hT.mono (hX6.fr _)).less (Nat.zero_le _)) (hDA6.less (Nat.zero_le _))).mono ?_; rintro _ w7 ⟨rfl, hx7⟩; rw [Hok2.out]; have hb7 := at_x2' hb6 hx7; obtain ⟨l7, c7, f7⟩ := Bx.out ⟨_, hb7⟩; have z0 := c7 0; have z1 := c7 1; have z2 := c7 2; clear c7; obtain ⟨lr, cr, fr⟩ := (hRr.x hx7).out; have r0 := cr 0; have r1 := cr 1; have r2 := cr 2; clear cr; have hX7 : X w w7 := hX6.trans hx7))
    · obtain ⟨_, c9, _⟩ := (Bx.set (Bx.set (Bx.set (hRr.x hx7) 0 (.slice none 0 0)) 1 (.int .i64 0)) 2 (.slice none 0 0)).out
      have q0 := c9 0
      have q1 := c9 1
      have q2 := c9 2
      clear c9
      refine bodyPost_ret (v := .tuple #[.agg #[.slice none 0 0, .int .i64 0, .slice none 0 0], .bool false]) (by simp [results, Tryz.results42, go_sem, Result.andThen, q0, q1, q2]) rfl ?_
      exact ⟨_, rfl, rfl, x_set3 (b := w.heap.size + 2) hX7 (by omega) _ _ _⟩
    · obtain ⟨_, c9, _⟩ := (Bx.set (Bx.set (Bx.set (hRr.x hx7) 0 (.slice ta tn tc)) 1 (.int .i64 st)) 2 (.slice ra' cl.length rc')).out
      have q0 := c9 0
      have q1 := c9 1
      have q2 := c9 2
      clear c9
      refine bodyPost_ret (v := .tuple #[.agg #[.slice ta tn tc, .int .i64 st, .slice ra' cl.length rc'], .bool true]) (by simp [results, Tryz.results42, go_sem, Result.andThen, q0, q1, q2]) rfl ?_
      have hlb : w.heap.size + 2 < W0.heap.size := by omega
      refine ⟨_, rfl, ⟨ra', rc', rfl, ?_⟩, x_set3 (b := w.heap.size + 2) hX7 (by omega) _ _ _⟩
      exact ((hO6.fr (hx7.fr _)).fr (Fr.set (Fr.set (Fr.set (Fr.refl _ _) (.inr hlb) _) (.inr hlb) _) (.inr hlb) _)).less hX0.size

end Go.Proofs.YtgjfjjhmgbemcaaGreatDoor
