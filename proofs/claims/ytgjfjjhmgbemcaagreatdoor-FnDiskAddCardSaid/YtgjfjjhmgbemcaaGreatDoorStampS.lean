/- A disk after a change, the reference's: the walks. No condition but lengths. -/
import Derived.Test.YtgjfjjhmgbemcaaGreatDoorDkO
import Derived.Test.YtgjfjjhmgbemcaaGreatDoorAboveP
import Derived.Test.YtgjfjjhmgbemcaaGreatDoorInv
import Derived.Test.YtgjfjjhmgbemcaaGreatDoorDiskS
import Derived.Deep.CutRange
import Derived.Deep.AppendLies
import Derived.Deep.RegionHeldLaw
namespace Go.Proofs.YtgjfjjhmgbemcaaGreatDoor
open Go.RowKit

theorem pkg_cases {p : List UInt8} (h : pkgB p = true) : p = [] ∨ nameB p = true := by
  by_cases hp : p = []
  · exact .inl hp
  · exact .inr (pkgB_name h hp)
theorem below_toS {B B' : Nat} {w w' : World} (h : Below B' w w') (hB : B ≤ B') : Below B w w' := ⟨h.os, h.tape, h.output, h.size, fun k hk => h.block k (by omega)⟩
theorem unwantS {o : Oper} {y : Nat → Option Bool} {A E : Prop} (hg : Region.wanted o y = true) (h : if Region.wanted o y = true then A else E) : A := by rwa [if_pos hg] at h
theorem below_thenS {B : Nat} {a b c : World} (h : Below B a b) (hB : B ≤ a.heap.size) (k : Below b.heap.size b c) : Below B a c :=
  ⟨k.os.trans h.os, k.tape.trans h.tape, k.output.trans h.output, Nat.le_trans h.size k.size, fun i hi => (k.block i (Nat.lt_of_lt_of_le hi (Nat.le_trans hB h.size))).trans (h.block i hi)⟩
/-- The disks' boxes that were there are as they were. -/
def KD (w w' : World) : Prop := ∀ b cs, b < w.heap.size → w.heap[b]? = some (.cells cs 38 (0, 0)) → w'.heap[b]? = some (.cells cs 38 (0, 0))
theorem KD.x {w a b : World} (h : KD w a) (k : X a b) : KD w b := fun i cs hi e => at_x2' (h i cs hi e) k
theorem KD.of_x {w a : World} (k : X w a) : KD w a := fun _ _ _ e => at_x2' e k
theorem KD.grown {w a b : World} {B n : Nat} {v : Value} {xs : List Value} (h : KD w a) (hg : a.grownBy b v.ownBlock) (ho : a.ownsRow B 140 4 v n xs) : KD w b :=
  fun i cs hi e => at_grown (h i cs hi e) hg (own_ne_at ho (h i cs hi e) (by decide))
theorem KD.set {w a : World} (h : KD w a) (p : Addr) (u : Value) (hp : w.heap.size ≤ p.block) : KD w (a.setCell p u) :=
  fun i cs hi e => (heap_setCell_other a p i u (by omega)).trans (h i cs hi e)
theorem KD.setRow {w a : World} {B n c g k : Nat} {xs : List Value} (h : KD w a) (u : Value) (ho : a.ownsRow B 140 4 (.slice (some ⟨g, 0, none⟩) n c) n xs) : KD w (a.setCell ⟨g, k, none⟩ u) :=
  fun i cs hi e => (heap_setCell_other a ⟨g, k, none⟩ i u (fun e2 => own_ne_at ho (h i cs hi e) (by decide) (by rw [e2]; rfl))).trans (h i cs hi e)
theorem st_open {w W : World} {c1 c2 : Array Value} {t1 t2 : TypeId} {s : Value} (h : W = ((w.alloc (.cells c1 t1)).alloc (.cells c2 t2)).alloc (.cells #[s] 9)) :
    W.heap[w.heap.size]? = some (.cells c1 t1 (0, 0)) ∧ W.heap[w.heap.size + 1]? = some (.cells c2 t2 (0, 0)) ∧ W.ownsRow w.heap.size 9 1 (.slice (some ⟨w.heap.size + 1 + 1, 0, none⟩) 1 1) 1 [s] ∧ X w W ∧ w.heap.size + 3 = W.heap.size := by
  obtain ⟨h1, h2, _, hx⟩ := bx3 (w := w) (c1 := c1) (c2 := c2) (c3 := #[s]) (t1 := t1) (t2 := t2) (t3 := 9) rfl
  rw [h]
  refine ⟨?_, ?_, ?_, hx, by simp⟩
  · have := at_x2' (heap_alloc_new w (.cells c1 t1)) ((X.refl _).alloc (.cells c2 t2))
    exact at_x2' this ((X.refl _).alloc _)
  · have := heap_alloc_new (w.alloc (.cells c1 t1)) (.cells c2 t2)
    have := at_x2' this ((X.refl _).alloc (.cells #[s] 9))
    simpa using this
  · exact own_less (own_lit (w := (w.alloc (.cells c1 t1)).alloc (.cells c2 t2)) (cs := #[s]) (e := 9) (B := w.heap.size) (g := w.heap.size + 1 + 1) (size := 1) (n := 1) (by simp) (by simp; omega) rfl (by omega)) (Nat.le_refl _)
set_option maxRecDepth 100000 in
set_option maxHeartbeats 4000000 in
theorem stamped_s (a : Option Addr) (n c : Nat) (st r : Int) (p : List UInt8) (dl : List Di) (da : Option Addr) (dn dc B : Nat) (w : World) (hO : DirsO w B da dn dc dl) (hB : B ≤ w.heap.size) (okD : OkD dl) (hdn : dn ≤ 1000000) (hp : pkgB p = true) :
    Calls Tryz.prog 98 #[.agg #[.slice a n c, .int .i64 st, .slice da dn dc], .int .i64 r, .string ⟨(p).toArray⟩] w fun e w' => ∃ ra rc, e = .returned (.agg #[.slice a n c, .int .i64 st, .slice ra (stampsL dl r (pathsL p) st).length rc]) ∧
      DirsO w' B ra (stampsL dl r (pathsL p) st).length rc (stampsL dl r (pathsL p) st) ∧ Below B w w' ∧ KD w w' := by
  obtain ⟨ps, hps⟩ : ∃ ps, pathsL p = ps := ⟨_, rfl⟩
  obtain ⟨cl, hcl⟩ : ∃ cl, stampsL dl r (pathsL p) st = cl := ⟨_, rfl⟩
  have hclp : stampsL dl r ps st = cl := by rw [← hcl, hps]
  rw [hcl]
  obtain ⟨hpl4, hpl12⟩ := paths_len (p := p)
  rw [hps] at hpl4 hpl12
  have hdl : dn = dl.length := by obtain ⟨_, _, h, _⟩ := hO; exact h
  have hokj : ∀ j, OkD (stampsL dl r (ps.take j) st) ∧ (stampsL dl r (ps.take j) st).length ≤ 1000004 := fun j => by
    have h1 : (ps.take j).length ≤ 4 := by rw [List.length_take]; omega
    obtain ⟨h2, h3⟩ := okD_stamps (r := r) (st := st) (ps.take j) dl 1000000 okD (by omega) (by omega) (fun p hp => Nat.le_trans (hpl12 p (List.mem_of_mem_take hp)) (by omega))
    exact ⟨h2, by omega⟩
  have hnxj := fun j (hj : j < ps.length) => @stamps_next dl r st ps j hj
  have Hps := Lib.hid hps
  have Hclp := Lib.hid hclp
  have Hpl12 := Lib.hid hpl12
  have Hokj := Lib.hid hokj
  have Hnxj := Lib.hid hnxj
  clear hps hcl hclp hpl12 hokj hnxj hdl okD
  obtain ⟨vs0, hvl0, hvs0, hV0⟩ := hO.v
  rw [hvl0] at hdn
  have Hvs0 := Lib.hid hvs0
  clear hO hvs0
  subst hvl0
  rcases pkg_cases hp with rfl | hn
  case' inl =>
    have hML : ps.length = 1 := by rw [← Hps.out]; rfl
    obtain ⟨M, hM⟩ : ∃ M, M = 1 := ⟨_, rfl⟩
    have hps1 : ps = [[]] := by rw [← Hps.out]; rfl
    go_enter Tryz.func98, Tryz.ntmps98
    go_wp2
    refine wp_name (fun W6 hW6 => ?_)
    obtain ⟨hb0, hR0, hP6, hX6, hz6⟩ := st_open hW6
    clear hW6
    obtain ⟨pa', hpa⟩ : ∃ x, x = some (⟨w.heap.size + 1 + 1, 0, none⟩ : Addr) := ⟨_, rfl⟩
    obtain ⟨pc', hpc⟩ : ∃ x, x = 1 := ⟨_, rfl⟩
    have hv : Value.slice (some ⟨w.heap.size + 1 + 1, 0, none⟩) 1 1 = .slice pa' M pc' := by rw [hpa, hpc, hM]
    rw [hv] at hP6 ⊢
    have hP6 : W6.ownsRow w.heap.size 9 1 (.slice pa' M pc') M (strs ps) := by rw [hps1]; rw [hM] at hP6 ⊢; exact hP6
    rw [← hM] at hML
    have hM4 : M ≤ 4 := by omega
    clear hM hpa hpc hv hps1
  case' inr =>
    have hne : p.isEmpty = false := by
      cases p with
      | nil => exact absurd hn (by decide)
      | cons => rfl
    go_enter Tryz.func98, Tryz.ntmps98
    go_wp2_with (first
      | (go_at_call 151; refine calls_name (fun W1 hW1 => ?_); refine (above_s p W1 hn).mono ?_; rintro _ w5 ⟨pa, pc, rfl, hOa, hx5⟩; obtain ⟨hb1, hR1, hP1, hX1, hz1⟩ := st_open hW1; clear hW1; have hL5 := own_fr hP1 (hx5.fr _); have hal : (aboveP p).length ≤ 3 := by (have := hpl4; rw [← Hps.out, pathsL, List.length_cons] at this; omega))
      | (at_builtin; refine wpList_append_sl str_T rfl _ _ rfl hL5 rfl rfl (Sl.of_own hOa) (by rw [strs_lenD, Nat.mul_one]) (strs_oneD _) (by omega) (by unfold maxLen; omega) (by have := hx5.size; omega) ?_; intro pa' pc' W6 hP6 hg6))
    obtain ⟨M, hMd⟩ : ∃ M, M = 1 + (aboveP p).length := ⟨_, rfl⟩
    have hML : ps.length = M := by rw [← Hps.out, pathsL, List.length_cons, hMd]; omega
    have hM4 : M ≤ 4 := by omega
    have hX6 : X w W6 := X.of_below (((hX1.trans hx5).below).grown hg6 (hX1.trans hx5).size (fun k hk => by simp [Value.ownBlock] at hk; omega))
    have hP6 : W6.ownsRow w.heap.size 9 1 (.slice pa' M pc') M (strs ps) := by
      rw [hMd, ← Hps.out]
      exact hP6
    rw [← hMd]
    have hb0 := at_grown (at_x2' hb1 hx5) hg6 (by intro e; have e2 : some (w.heap.size + 1 + 1) = some _ := e; have := Option.some.inj e2; omega)
    have hR0 := at_grown (at_x2' hR1 hx5) hg6 (by intro e; have e2 : some (w.heap.size + 1 + 1) = some _ := e; have := Option.some.inj e2; omega)
    clear hMd hg6 hL5 hOa hx5 hX1 hb1 hR1 hP1 hz1 hal
  all_goals
    have HML := Lib.hid hML
    clear hML
    go_loopw [8, 9] (fun i _ wr => ∃ (j : Nat) (vs : List (Di × Value)) (ra' : Option Addr) (rc' : Nat), j ≤ M ∧ i = .int .i64 j ∧ vs.map (·.1) = stampsL dl r (ps.take j) st ∧ wr.heap[w.heap.size]? = some (.cells #[.slice a n c, .int .i64 st, .slice ra' vs.length rc'] 38 (0, 0)) ∧
        wr.heap[w.heap.size + 1]? = some (.cells #[.slice none 0 0, .int .i64 0, .slice none 0 0] 38 (0, 0)) ∧ DirsV wr B ra' rc' vs ∧ wr.ownsRow w.heap.size 9 1 (.slice pa' M pc') M (strs ps) ∧ Below B w wr ∧ KD w wr) (fun i _ _ => M - (intOf i).toNat)
    case atStart => exact ⟨0, vs0, da, dc, Nat.zero_le _, rfl, by rw [Hvs0.out]; rfl, hb0, hR0, hV0.fr (hX6.fr _), hP6, below_toS hX6.below hB, KD.of_x hX6⟩
    case round =>
      obtain ⟨j, vs, ra', rc', hj, rfl, hvs, hgb, hR, hV, hP, hX, hK⟩ := hrel
      clear hb0 hR0 hP6 hX6 hV0
      have hbj := Hokj.out j
      rw [← hvs] at hbj
      obtain ⟨okj, lnj⟩ := hbj
      rw [List.length_map] at lnj
      have hDA := hV.o.at okj
      have hzr := hX.size
      obtain ⟨lg, cg, fg⟩ := Bx.out ⟨_, hgb⟩
      have e0 := cg 0
      have e1 := cg 1
      have e2 := cg 2
      clear cg
      have Hvs := Lib.hid hvs
      clear hvs
      by_cases hlt : j < M
      · have hlt2 : (j : Int) < (M : Int) := by omega
        have hSP := strsAt_of hP HML.out (by omega) (fun s hs => Nat.le_trans (Hpl12.out s hs) (by omega))
        obtain ⟨pb, poff, rfl, _, hpb, hpc, _⟩ := hSP.at_ hlt
        have hnx := Hnxj.out j (by rw [HML.out]; exact hlt)
        rw [← Hvs.out] at hnx
        generalize nth ps j = q at *
        have Hnx := Lib.hid hnx
        clear hnx hSP
        have hdx : didx (vs.map (·.1)) r q vs.length = didxL (vs.map (·.1)) r q := by unfold didxL; rw [List.length_map]
        rcases didxL_cases (vs.map (·.1)) r q with ⟨hd, _⟩ | ⟨k, hkl, hd, _, _⟩
        · have hst2 := stD_none (st := st) hd
          have Hst2 := Lib.hid hst2
          rw [hd] at hdx
          have Hdx := Lib.hid hdx
          clear hst2 hd hdx
          have hrow := hV.1
          have hPne : some pb ≠ (Value.slice ra' vs.length rc').ownBlock := (row_ne hP hrow (by decide)).elim (fun h => absurd (show some pb = none from h) (by simp)) (fun h => h)
          go_wp2_with fail
          go_region_held_law (fun w' => w'.cell? ⟨w.heap.size, 2, none⟩ = some (.slice ra' vs.length rc') ∧ w'.cell? ⟨pb, poff + j, none⟩ = some (.string ⟨(q).toArray⟩))
            (first | exact ⟨e2, hpc⟩ | exact ⟨e72, hpc7⟩ | go_keep)
            ((go_at_call 150; refine (dirAt_s (vs.map (·.1)) ra' vs.length vs.length rc' _ r q _ (hDA.mono (X.fr (w := wr) (by (repeat (first | exact X.refl _ | assumption | refine X.ext ?_ _ | refine X.alloc ?_ _ | refine X.drew ?_))) _)) (Nat.le_refl _)).mono ?_; rintro _ w7 ⟨rfl, hx7⟩; have hx7 : X wr w7 := X.trans (by (repeat (first | exact X.refl _ | assumption | refine X.ext ?_ _ | refine X.alloc ?_ _ | refine X.drew ?_))) hx7; rw [Hdx.out]; have hgb7 := at_x2' hgb hx7; obtain ⟨lg7, cg7, fg7⟩ := Bx.out ⟨_, hgb7⟩; have e71 := cg7 1; have e72 := cg7 2; clear cg7; have hpc7 := (hx7.cell (p := ⟨pb, poff + j, none⟩) hpb).trans hpc))
          all_goals
            rename_i hHeld
            clear hHeld
            have hpb7 := Nat.lt_of_lt_of_le hpb hx7.size
            have hrow7 := own_fr hrow (hx7.fr _)
            have hBw7 : B ≤ w7.heap.size := Nat.le_trans hB (Nat.le_trans hX.size hx7.size)
            go_wp2_with fail
            refine wp_region_inv (fun L v W => (L 11 = false → X w7 W)
                ∧ (L 11 = true → L 13 = false → ∃ g8 c8, v 11 = .slice (some ⟨g8, 0, none⟩) (vs.length + 1) c8 ∧ W.ownsRow B 140 4 (.slice (some ⟨g8, 0, none⟩) (vs.length + 1) c8) (vs.length + 1) (vs.flatMap dcells ++ [.int .i64 r, .string ⟨(q).toArray⟩, .int .i64 st, .slice none 0 0]) ∧ w7.grownBy W (Value.slice ra' vs.length rc').ownBlock)
                ∧ (L 13 = true → L 11 = true)
                ∧ (L 11 = true → L 1 = true ∧ L 10 = true)
                ∧ (L 10 = true → L 9 = true)
                ∧ (L 9 = true → L 6 = true ∧ L 8 = true)
                ∧ (L 0 = true → v 0 = .pointer (some ⟨w.heap.size, 2, none⟩))
                ∧ (L 1 = true → v 1 = .slice ra' vs.length rc')
                ∧ (L 2 = true → v 2 = .int .i64 r)
                ∧ (L 3 = true → v 3 = .slice (some ⟨pb, poff, none⟩) M pc')
                ∧ (L 4 = true → v 4 = .int .i64 (j : Int))
                ∧ (L 5 = true → v 5 = .pointer (some ⟨pb, poff + j, none⟩))
                ∧ (L 6 = true → v 6 = .string ⟨(q).toArray⟩)
                ∧ (L 7 = true → v 7 = .pointer (some ⟨w.heap.size, 1, none⟩))
                ∧ (L 8 = true → v 8 = .int .i64 st)
                ∧ (L 9 = true → v 9 = .agg #[.int .i64 r, .string ⟨(q).toArray⟩, .int .i64 st, .slice none 0 0])
                ∧ (L 10 = true → ∃ g, v 10 = .slice (some ⟨g, 0, none⟩) 1 1 ∧ (L 11 = false → W.heap[g]? = some (.cells #[.int .i64 r, .string ⟨(q).toArray⟩, .int .i64 st, .slice none 0 0] 140 (0, 0))))
                ∧ (L 12 = true → v 12 = .pointer (some ⟨w.heap.size, 2, none⟩))
                ∧ (L 13 = true → ∃ w8 g8 c8, W = w8.setCell ⟨w.heap.size, 2, none⟩ (.slice (some ⟨g8, 0, none⟩) (vs.length + 1) c8) ∧ w8.ownsRow B 140 4 (.slice (some ⟨g8, 0, none⟩) (vs.length + 1) c8) (vs.length + 1) (vs.flatMap dcells ++ [.int .i64 r, .string ⟨(q).toArray⟩, .int .i64 st, .slice none 0 0]) ∧ w7.grownBy w8 (Value.slice ra' vs.length rc').ownBlock)) (by kernel_rfl) (by kernel_rfl) ?_ ?_ (l := [(33, 0), (34, 1), (35, 2), (36, 3), (37, 4), (38, 5), (39, 6), (40, 7), (41, 8), (42, 9), (43, 10), (44, 11), (45, 12)]) (by kernel_rfl) (n := 14) rfl ?_
            · intro v
              exact ⟨fun _ => (X.refl _).drew, fun h => Bool.noConfusion h, fun h => Bool.noConfusion h, fun h => Bool.noConfusion h, fun h => Bool.noConfusion h, fun h => Bool.noConfusion h, fun h => Bool.noConfusion h, fun h => Bool.noConfusion h, fun h => Bool.noConfusion h, fun h => Bool.noConfusion h, fun h => Bool.noConfusion h, fun h => Bool.noConfusion h, fun h => Bool.noConfusion h, fun h => Bool.noConfusion h, fun h => Bool.noConfusion h, fun h => Bool.noConfusion h, fun h => Bool.noConfusion h, fun h => Bool.noConfusion h, fun h => Bool.noConfusion h⟩
            · intro i hi
              have hi' : i = 0 ∨ i = 1 ∨ i = 2 ∨ i = 3 ∨ i = 4 ∨ i = 5 ∨ i = 6 ∨ i = 7 ∨ i = 8 ∨ i = 9 ∨ i = 10 ∨ i = 11 ∨ i = 12 ∨ i = 13 := by
                have : i < 14 := hi
                omega
              clear hi
              rcases hi' with rfl | rfl | rfl | rfl | rfl | rfl | rfl | rfl | rfl | rfl | rfl | rfl | rfl | rfl
              all_goals
                intro o ho L v aa W hI hS hL hA K hK
                cases (show some _ = some o from ho)
                obtain ⟨xx, ap, d13, d11, d10, d9, v0, v1, v2, v3, v4, v5, v6, v7, v8, v9, v10, v12, fin⟩ := hI
              · have a0 := hS.old 3 (by kernel_rfl) rfl
                clear hS ho hA
                go_simp
                exact hK _ W ⟨xx, ap, d13, d11, d10, d9, fun _ => rfl, v1, v2, v3, v4, v5, v6, v7, v8, v9, v10, v12, fin⟩
              · have l0 : L 0 = true := hA ⟨0, .data⟩ (by simp) rfl
                have a0 := hS.get 0 33 rfl l0 (v0 l0)
                have n11 : L 11 = false := by rcases h : L 11 with _ | _; (· rfl); (· have := (d11 h).1; simp [hL] at this)
                obtain ⟨lt, ct, _⟩ := Bx.out ⟨_, at_x2' hgb7 (xx n11)⟩
                have e1 := ct 1
                have e2 := ct 2
                clear ct
                clear hS ho hA
                go_simp
                exact hK _ W ⟨xx, ap, d13, fun h => ⟨rfl, (d11 h).2⟩, d10, d9, v0, fun _ => rfl, v2, v3, v4, v5, v6, v7, v8, v9, v10, v12, fin⟩
              · have a0 := hS.old 1 (by kernel_rfl) rfl
                clear hS ho hA
                go_simp
                exact hK _ W ⟨xx, ap, d13, d11, d10, d9, v0, v1, fun _ => rfl, v3, v4, v5, v6, v7, v8, v9, v10, v12, fin⟩
              · have a0 := hS.old 7 (by kernel_rfl) rfl
                clear hS ho hA
                go_simp
                exact hK _ W ⟨xx, ap, d13, d11, d10, d9, v0, v1, v2, fun _ => rfl, v4, v5, v6, v7, v8, v9, v10, v12, fin⟩
              · have a0 := hS.old 8 (by kernel_rfl) rfl
                clear hS ho hA
                go_simp
                exact hK _ W ⟨xx, ap, d13, d11, d10, d9, v0, v1, v2, v3, fun _ => rfl, v5, v6, v7, v8, v9, v10, v12, fin⟩
              · have l3 : L 3 = true := hA ⟨3, .data⟩ (by simp) rfl
                have a3 := hS.get 3 36 rfl l3 (v3 l3)
                have l4 : L 4 = true := hA ⟨4, .data⟩ (by simp) rfl
                have a4 := hS.get 4 37 rfl l4 (v4 l4)
                clear hS ho hA
                go_simp
                exact hK _ W ⟨xx, ap, d13, d11, d10, d9, v0, v1, v2, v3, v4, fun _ => rfl, v6, v7, v8, v9, v10, v12, fin⟩
              · have l5 : L 5 = true := hA ⟨5, .data⟩ (by simp) rfl
                have a5 := hS.get 5 38 rfl l5 (v5 l5)
                have n11 : L 11 = false := by rcases h : L 11 with _ | _; (· rfl); (· have := (d9 (d10 (d11 h).2)).1; simp [hL] at this)
                have cB := ((xx n11).cell (p := ⟨pb, poff + j, none⟩) hpb7).trans hpc7
                have gl := Nat.lt_of_lt_of_le hpb7 (xx n11).size
                clear hS ho hA
                go_simp
                exact hK _ W ⟨xx, ap, d13, d11, d10, fun h => ⟨rfl, (d9 h).2⟩, v0, v1, v2, v3, v4, v5, fun _ => rfl, v7, v8, v9, v10, v12, fin⟩
              · have a0 := hS.old 3 (by kernel_rfl) rfl
                clear hS ho hA
                go_simp
                exact hK _ W ⟨xx, ap, d13, d11, d10, d9, v0, v1, v2, v3, v4, v5, v6, fun _ => rfl, v8, v9, v10, v12, fin⟩
              · have l7 : L 7 = true := hA ⟨7, .data⟩ (by simp) rfl
                have a7 := hS.get 7 40 rfl l7 (v7 l7)
                have n11 : L 11 = false := by rcases h : L 11 with _ | _; (· rfl); (· have := (d9 (d10 (d11 h).2)).2; simp [hL] at this)
                obtain ⟨lt, ct, _⟩ := Bx.out ⟨_, at_x2' hgb7 (xx n11)⟩
                have e1 := ct 1
                have e2 := ct 2
                clear ct
                clear hS ho hA
                go_simp
                exact hK _ W ⟨xx, ap, d13, d11, d10, fun h => ⟨(d9 h).1, rfl⟩, v0, v1, v2, v3, v4, v5, v6, v7, fun _ => rfl, v9, v10, v12, fin⟩
              · have l2 : L 2 = true := hA ⟨2, .data⟩ (by simp) rfl
                have l6 : L 6 = true := hA ⟨6, .data⟩ (by simp) rfl
                have l8 : L 8 = true := hA ⟨8, .data⟩ (by simp) rfl
                have a2 := hS.get 2 35 rfl l2 (v2 l2)
                have a6 := hS.get 6 39 rfl l6 (v6 l6)
                have a8 := hS.get 8 41 rfl l8 (v8 l8)
                clear hS ho hA
                go_simp
                exact hK _ W ⟨xx, ap, d13, d11, fun _ => rfl, fun _ => ⟨l6, l8⟩, v0, v1, v2, v3, v4, v5, v6, v7, v8, fun _ => rfl, v10, v12, fin⟩
              · have l9 : L 9 = true := hA ⟨9, .data⟩ (by simp) rfl
                have a9 := hS.get 9 42 rfl l9 (v9 l9)
                have n11 : L 11 = false := by rcases h : L 11 with _ | _; (· rfl); (· have := (d11 h).2; simp [hL] at this)
                have n13 : L 13 = false := by rcases h : L 13 with _ | _; (· rfl); (· have := (d11 (d13 h)).2; simp [hL] at this)
                clear hS ho hA
                go_simp
                exact hK _ _ ⟨fun h => (xx h).alloc _, fun h => Bool.noConfusion (n11.symm.trans h), d13, fun h => ⟨(d11 h).1, rfl⟩, fun _ => l9, d9, v0, v1, v2, v3, v4, v5, v6, v7, v8, v9, fun _ => ⟨_, rfl, fun _ => heap_alloc_new _ _⟩, v12, fun h => Bool.noConfusion (n13.symm.trans h)⟩
              · have l1 : L 1 = true := hA ⟨1, .data⟩ (by simp) rfl
                have l10 : L 10 = true := hA ⟨10, .data⟩ (by simp) rfl
                have n13 : L 13 = false := by rcases h : L 13 with _ | _; (· rfl); (· have := d13 h; simp [hL] at this)
                obtain ⟨gl, e10, hgl⟩ := v10 l10
                refine unwantS (E := True) (by exact rfl) (step_append_t (ops := #[]) dir_T' rfl _ _ rfl (xx hL) hrow7 ((hS.eval_on 1 34 rfl l1).trans (v1 l1)) ((hS.eval_on 10 43 rfl l10).trans e10) (hgl hL) rfl (by simp [Value.oneCell']) (by omega) (by omega) hBw7 ?_)
                intro a8 c8 w8 hO8 hg8
                obtain ⟨g8, rfl, _, _⟩ := own_form hO8 (by omega)
                exact hK _ w8 ⟨fun h => Bool.noConfusion h, fun _ _ => ⟨g8, c8, rfl, hO8, hg8⟩, fun _ => rfl, fun _ => ⟨l1, l10⟩, d10, d9, v0, v1, v2, v3, v4, v5, v6, v7, v8, v9, fun h => let ⟨g, e, _⟩ := v10 h; ⟨g, e, fun h => Bool.noConfusion h⟩, v12, fun h => Bool.noConfusion (n13.symm.trans h)⟩
              · have a0 := hS.old 3 (by kernel_rfl) rfl
                clear hS ho hA
                go_simp
                exact hK _ W ⟨xx, ap, d13, d11, d10, d9, v0, v1, v2, v3, v4, v5, v6, v7, v8, v9, v10, fun _ => rfl, fin⟩
              · have l12 : L 12 = true := hA ⟨12, .data⟩ (by simp) rfl
                have l11 : L 11 = true := hA ⟨11, .data⟩ (by simp) rfl
                have a12 := hS.get 12 45 rfl l12 (v12 l12)
                obtain ⟨g8, c8, e11, hO8, hg8⟩ := ap l11 hL
                have a11 := hS.get 11 44 rfl l11 e11
                obtain ⟨lt, ct, ft⟩ := Bx.out ⟨_, at_grown hgb7 hg8 (own_ne_at hrow7 hgb7 (by decide))⟩
                have e2 := ct 2
                clear ct
                clear hS ho hA
                go_simp
                exact hK undef _ ⟨fun h => Bool.noConfusion (l11.symm.trans h), fun _ h => Bool.noConfusion h, fun _ => l11, d11, d10, d9, v0, v1, v2, v3, v4, v5, v6, v7, v8, v9, fun h => let ⟨g, e, _⟩ := v10 h; ⟨g, e, fun h => Bool.noConfusion (l11.symm.trans h)⟩, v12, fun _ => ⟨W, g8, c8, rfl, hO8, hg8⟩⟩
            · intro v W hI
              obtain ⟨xx, ap, d13, d11, d10, d9, v0, v1, v2, v3, v4, v5, v6, v7, v8, v9, v10, v12, fin⟩ := hI
              obtain ⟨w8, g8, c8, rfl, hO8, hg8⟩ := fin rfl
              clear fin xx ap d13 d11 d10 d9 v0 v1 v2 v3 v4 v5 v6 v7 v8 v9 v10 v12
              simp only [putL, List.foldl, List.setIfInBounds_toArray, List.set_cons_zero, List.set_cons_succ]
              have hgb8 := at_grown hgb7 hg8 (own_ne_at hrow7 hgb7 (by decide))
              have hR7 := at_x2' hR hx7
              have hR8 := at_grown hR7 hg8 (own_ne_at hrow7 hR7 (by decide))
              have hV8 := DirsV.snoc (d := ⟨r, q, st, []⟩) (ba := none) (bc := 0) (hV.fr (hx7.fr _)) hO8 hg8 ⟨rfl, .inl ⟨rfl, rfl⟩⟩ (fun _ _ => .inl rfl)
              have hV9 := hV8.far hgb8 (by decide) (by decide) 2 (.slice (some ⟨g8, 0, none⟩) (vs.length + 1) c8)
              have hP7 := own_fr hP (hx7.fr _)
              have hP8 := hP7.kept hg8 (row_ne hP7 hrow7 (by decide))
              have hP9 := own_set_far hP8 hgb8 (by decide) 2 (.slice (some ⟨g8, 0, none⟩) (vs.length + 1) c8)
              have hgb9 := heap_setCell_same w8 w.heap.size 2 _ _ (.slice (some ⟨g8, 0, none⟩) (vs.length + 1) c8) hgb8
              have hR9 := (heap_setCell_other w8 ⟨w.heap.size, 2, none⟩ (w.heap.size + 1) (.slice (some ⟨g8, 0, none⟩) (vs.length + 1) c8) (by simp)).trans hR8
              have hB9 : Below B w (w8.setCell ⟨w.heap.size, 2, none⟩ (.slice (some ⟨g8, 0, none⟩) (vs.length + 1) c8)) := ((below_thenS hX hB hx7.below).grown hg8 hBw7 (fun k hk => (hrow7.lt k hk).1)).setCell hB _
              have hK9 := ((hK.x hx7).grown hg8 hrow7).set ⟨w.heap.size, 2, none⟩ (.slice (some ⟨g8, 0, none⟩) (vs.length + 1) c8) (Nat.le_refl _)
              clear hK hgb8 hR7 hR8 hV8 hP7 hP8 hgb7 lg7 fg7 e71 e72 hpc7 hrow7 hBw7 hO8 hg8 hV hR hP hgb hDA e0 e1 e2 lg fg
              go_wp2
              go_roundw
              case rel =>
                refine ⟨j + 1, _, some ⟨g8, 0, none⟩, c8, by omega, by go_num, ?_, ?_, hR9, hV9, hP9, hB9, hK9⟩
                · rw [Hnx.out, Hst2.out, List.map_append]
                  rfl
                · rw [List.length_append, List.length_singleton]
                  simpa using hgb9
              case measure => simp [intOf]; omega
        · have hst2 := stD_some (st := st) hd
          have Hst2 := Lib.hid hst2
          rw [hd] at hdx
          have Hdx := Lib.hid hdx
          rw [List.length_map] at hkl
          clear hst2 hd hdx
          obtain ⟨g8, rfl, hg8B, hgl8⟩ := own_form hV.1 (by omega)
          have hne8 : g8 ≠ w.heap.size := fun e => own_ne_at hV.1 hgb (by decide) (by rw [e]; rfl)
          have hne9 : g8 ≠ w.heap.size + 1 := fun e => own_ne_at hV.1 hR (by decide) (by rw [e]; rfl)
          have hk0' : (0 : Int) ≤ (k : Int) := by omega
          have hk0'' : ¬ (k : Int) < 0 := by omega
          go_wp2_with fail
          go_region_held_law (fun w' => w'.cell? ⟨w.heap.size, 2, none⟩ = some (.slice (some ⟨g8, 0, none⟩) vs.length rc') ∧ w'.cell? ⟨pb, poff + j, none⟩ = some (.string ⟨(q).toArray⟩))
            (first | exact ⟨e2, hpc⟩ | exact ⟨e72, hpc7⟩ | go_keep)
            ((go_at_call 150; refine (dirAt_s (vs.map (·.1)) _ vs.length vs.length rc' _ r q _ (hDA.mono (X.fr (w := wr) (by (repeat (first | exact X.refl _ | assumption | refine X.ext ?_ _ | refine X.alloc ?_ _ | refine X.drew ?_))) _)) (Nat.le_refl _)).mono ?_; rintro _ w7 ⟨rfl, hx7⟩; have hx7 : X wr w7 := X.trans (by (repeat (first | exact X.refl _ | assumption | refine X.ext ?_ _ | refine X.alloc ?_ _ | refine X.drew ?_))) hx7; rw [Hdx.out]; have hgb7 := at_x2' hgb hx7; obtain ⟨lg7, cg7, fg7⟩ := Bx.out ⟨_, hgb7⟩; have e71 := cg7 1; have e72 := cg7 2; clear cg7; have hpc7 := (hx7.cell (p := ⟨pb, poff + j, none⟩) hpb).trans hpc))
          all_goals
            rename_i hHeld
            clear hHeld
            have hV9 := hV.fr (hx7.fr B)
            have hP9 := own_fr hP (hx7.fr _)
            have hR9 := at_x2' hR hx7
            have hX9 := below_thenS hX hB hx7.below
            have hK9 := hK.x hx7
            clear hK
            have h91 := hV9.1
            have hf9 := (h91).frozenAt (k * 4 + 2); obtain ⟨u9, hu9⟩ := own_here h91 (j := k * 4 + 2) (by omega)
            have gl9 := (h91.lt g8 rfl).2
            have hkx : (k : Int) < (vs.length : Int) := by omega
            have HV9 := Lib.hid hV9
            have Hkl := Lib.hid hkl
            clear hx7 hV hP hgb hDA e0 e1 e2 lg fg hV9 hR
            go_wp2
            go_roundw
            case rel =>
              have hst3 := HV9.out.stamp (k := k) Hkl.out st
              refine ⟨j + 1, _, some ⟨g8, 0, none⟩, rc', by omega, by go_num, ?_, ?_, ?_, hst3, own_set_far hP9 (own_block h91).choose_spec (by decide) _ _, hX9.setCell hg8B _, hK9.setRow _ h91⟩
              · rw [Hnx.out, Hst2.out, List.map_set, nth_map_fstD Hkl.out]
              · rw [Below.heap_setCell _ _ _ _ (by exact fun e => hne8 e.symm), List.length_set]; exact hgb7
              · rw [Below.heap_setCell _ _ _ _ (by exact fun e => hne9 e.symm)]; exact hR9
            case measure => simp [intOf]; omega
      · obtain rfl : j = M := by omega
        have hlt2 : ¬ (j : Int) < (j : Int) := by omega
        have hcl : vs.map (·.1) = cl := by rw [Hvs.out, List.take_of_length_le (by rw [HML.out]; exact Nat.le_refl _), Hclp.out]
        have hO9 := hV.o
        rw [hcl] at hO9
        have hln : vs.length = cl.length := by rw [← hcl, List.length_map]
        rw [hln] at hO9 e2
        obtain ⟨lr, cr, fr⟩ := Bx.out ⟨_, hR⟩
        have r0 := cr 0
        have r1 := cr 1
        have r2 := cr 2
        clear cr
        have f1 := fr
        have e0' := e0
        go_wp2
        obtain ⟨c9', _⟩ := (heap_set3 (W := wr) (b := w.heap.size + 1) hR (.slice a n c) (.int .i64 st) (.slice ra' cl.length rc')) |> fun h => And.intro (Bx.out ⟨_, h⟩).2.1 trivial
        have q0 := c9' 0
        have q1 := c9' 1
        have q2 := c9' 2
        clear c9'
        refine bodyPost_ret (v := .agg #[.slice a n c, .int .i64 st, .slice ra' cl.length rc']) (by simp [results, Tryz.results98, go_sem, Result.andThen, q0, q1, q2]) rfl ?_
        exact ⟨ra', rc', rfl, ((hO9.far hR (by decide) (by decide) _ _).far (heap_set1 hR) (by decide) (by decide) _ _).far (heap_set2 hR) (by decide) (by decide) _ _, ((hX.setCell (by simp; omega) _).setCell (by simp; omega) _).setCell (by simp; omega) _, ((hK.set _ _ (by simp)).set _ _ (by simp)).set _ _ (by simp)⟩

end Go.Proofs.YtgjfjjhmgbemcaaGreatDoor
