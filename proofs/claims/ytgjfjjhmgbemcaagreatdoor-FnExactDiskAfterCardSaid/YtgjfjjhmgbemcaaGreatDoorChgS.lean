/- A change of a disk by an act, the reference's: the walk. No condition but lengths, and a clock that is small. -/
import Derived.Test.YtgjfjjhmgbemcaaGreatDoorChgL
import Derived.Test.YtgjfjjhmgbemcaaGreatDoorEdit
import Derived.Test.YtgjfjjhmgbemcaaGreatDoorAct
import Derived.Test.YtgjfjjhmgbemcaaGreatDoorCloneD
import Derived.Test.YtgjfjjhmgbemcaaGreatDoorLd
import Derived.Deep.CutRange
namespace Go.Proofs.YtgjfjjhmgbemcaaGreatDoor
open Go.RowKit

theorem act_nameC {R : Act → World → Prop} {a : Act} {w : World} (h : ∀ W, W = w → R a W) : R a w := h w rfl
theorem fr_set3 {W : World} {B b : Nat} (hb : b < B) (v0 v1 v2 : Value) : Fr B W (((W.setCell ⟨b, 0, none⟩ v0).setCell ⟨b, 1, none⟩ v1).setCell ⟨b, 2, none⟩ v2) :=
  Fr.set (Fr.set (Fr.set (Fr.refl _ _) (.inr hb) _) (.inr hb) _) (.inr hb) _
theorem bx_set3 {W : World} {b : Nat} {c0 c1 c2 : Value} (h : Bx W b #[c0, c1, c2]) (v0 v1 v2 : Value) : Bx (((W.setCell ⟨b, 0, none⟩ v0).setCell ⟨b, 1, none⟩ v1).setCell ⟨b, 2, none⟩ v2) b #[v0, v1, v2] := Bx.set (Bx.set (Bx.set h 0 _) 1 _) 2 _
theorem DkO.less {w : World} {B B' : Nat} {v : Value} {l : List Fi} {kk : Int} {dl : List Di} (h : DkO w B v l kk dl) (hB : B' ≤ B) : DkO w B' v l kk dl := by
  obtain ⟨a, c, da, dc, E1, e, h1, h2, h3, h4⟩ := h
  exact ⟨a, c, da, dc, E1, e, Nat.le_trans hB h1, h2, h3.lessB hB, h4⟩
theorem dk_end {w W : World} {B b : Nat} {x0 x1 x2 : Value} {l : List Fi} {kk : Int} {dl : List Di} (hX : X w W) (hb : w.heap.size ≤ b) (hB : b < B) (h : DkO W B (.agg #[x0, x1, x2]) l kk dl) :
    DkO (((W.setCell ⟨b, 0, none⟩ x0).setCell ⟨b, 1, none⟩ x1).setCell ⟨b, 2, none⟩ x2) w.heap.size (.agg #[x0, x1, x2]) l kk dl ∧ X w (((W.setCell ⟨b, 0, none⟩ x0).setCell ⟨b, 1, none⟩ x1).setCell ⟨b, 2, none⟩ x2) :=
  ⟨(h.fr (fr_set3 hB _ _ _)).less (by omega), x_set3 hX hb _ _ _⟩
/-- What a change leaves. -/
def ChgP (w w' : World) (l : List Fi) (kk : Int) (dl : List Di) (x : Ac) (t : Int) (e : Ending) : Prop :=
  ∃ v, e = .returned (.tuple #[v, .bool (chgB ⟨l, kk, dl⟩ x t)]) ∧ DkO w' w.heap.size v (chgR ⟨l, kk, dl⟩ x t).l (chgR ⟨l, kk, dl⟩ x t).kk (chgR ⟨l, kk, dl⟩ x t).dl ∧ X w w'
set_option maxRecDepth 100000 in
set_option maxHeartbeats 8000000 in
theorem change_s (l : List Fi) (a : Option Addr) (n c : Nat) (kk : Int) (dl : List Di) (da : Option Addr) (dn dc B : Nat) (x : Ac) (ba : Option Addr) (bn bc Bx0 : Nat) (t : Int) (w : World) (hF : FilesAt w B a n l) (hD : DirsAt w B da dn dl) (hn1 : n + 1 ≤ 2097152) (hok : diskB l kk dl = true) (hk0 : 0 ≤ kk) (hk : kk ≤ 80) (ht0 : 0 ≤ t) (ht4 : t ≤ 4) (hx : Okf x.file) (hS : StmtsAt w Bx0 ba bn x.file.body) :
    Calls Tryz.prog 61 #[.agg #[.slice a n c, .int .i64 kk, .slice da dn dc], .agg #[.int .i64 (x).kind, .int .i64 (x).file.root, .string ⟨(x).file.pkg.toArray⟩, .string ⟨(x).file.name.toArray⟩, .bool (x).file.init, .int .i64 (x).file.stamp, .slice ba bn bc, .int .i64 (x).idx, .string ⟨(x).name.toArray⟩], .int .i64 t] w fun e w' => ChgP w w' l kk dl x t e := by
  have hw1 : IntKind.i64.wrap (kk + t) = kk + t := IntWalk.i64_in _ (by omega)
  have hmin : min 99 (kk + t) = kk + t := by omega
  go_enter Tryz.func61, Tryz.ntmps61
  go_upto_region 1 with fail
  refine wp_name (fun W0 hW0 => ?_)
  have hB0 : Bx W0 w.heap.size #[.slice a n c, .int .i64 kk, .slice da dn dc] ∧ Bx W0 (w.heap.size + 1) (#[.int .i64 (x).kind, .int .i64 (x).file.root, .string ⟨(x).file.pkg.toArray⟩, .string ⟨(x).file.name.toArray⟩, .bool (x).file.init, .int .i64 (x).file.stamp, .slice ba bn bc, .int .i64 (x).idx, .string ⟨(x).name.toArray⟩]) ∧ Bx W0 (w.heap.size + 2) #[.slice none 0 0, .int .i64 0, .slice none 0 0] ∧ X w W0 := bx3 hW0
  obtain ⟨hD0, hA0, hR0, hX0⟩ := hB0
  have hz0 : W0.heap.size = w.heap.size + 3 := by rw [hW0]; simp
  clear hW0
  have hF0 := hF.mono (hX0.fr _)
  have hDl := hD.mono (hX0.fr _)
  have hS0 := hS.mono (hX0.fr _)
  obtain ⟨ltd, cd, _⟩ := hD0.out
  have d0 := cd 0
  have d1 := cd 1
  have d2 := cd 2
  obtain ⟨lta, ca, _⟩ := hA0.out
  have a0 := ca 0
  have a1 := ca 1
  have a2 := ca 2
  have a3 := ca 3
  have a4 := ca 4
  have a5 := ca 5
  have a6 := ca 6
  have a7 := ca 7
  obtain ⟨ltr, cr, fr⟩ := hR0.out
  have r0 := cr 0
  have r1 := cr 1
  have r2 := cr 2
  have fr0 := fr 0
  have fr1 := fr 1
  have fr2 := fr 2
  clear ca cd cr fr
  by_cases h0 : x.kind = 0
  · obtain ⟨hc1, hc2, hc3, hc4⟩ := add_chg (t := t) hok h0
    have hst : (stF x.file (kk + t)).body = x.file.body := rfl
    clear r0 r1 r2 fr0 fr1 fr2
    go_wp2_with fail
    refine (copyFile_c x.file ba bn bc Bx0 W0 hS0).mono ?_
    rintro _ w1 ⟨ra, rc, rfl, hO1, hx1⟩
    have hz1 := hx1.size
    go_upto_region 4 with fail
    refine wp_name (fun W2 hW2 => ?_)
    have hB2 : Bx W2 w1.heap.size #[.int .i64 x.file.root, .string ⟨(x.file.pkg).toArray⟩, .string ⟨(x.file.name).toArray⟩, .bool x.file.init, .int .i64 x.file.stamp, .slice ra bn rc] := by rw [hW2]; exact Bx.new _ _ _
    have hB2t : W2.heap[w1.heap.size]? = some (.cells #[.int .i64 x.file.root, .string ⟨(x.file.pkg).toArray⟩, .string ⟨(x.file.name).toArray⟩, .bool x.file.init, .int .i64 x.file.stamp, .slice ra bn rc] 44 (0, 0)) := by rw [hW2]; exact heap_alloc_new _ _
    have hx2 : X w1 W2 := by rw [hW2]; (repeat (first | with_reducible exact X.refl _ | with_reducible assumption | with_reducible refine X.setCell ?_ (by first | (simp; done) | (simp; omega)) _ | with_reducible refine X.ext ?_ _ | with_reducible refine X.alloc ?_ _ | with_reducible refine X.drew ?_))
    clear hW2 d0 d1 d2 ltd a0 a1 a2 a3 a4 a5 a6 a7 lta
    have hX2 := (hX0.trans hx1).trans hx2
    obtain ⟨ltd, cd, _⟩ := ((hD0.x hx1).x hx2).out
    have d0 := cd 0
    have d1 := cd 1
    have d2 := cd 2
    obtain ⟨ltb, cb, fb⟩ := hB2.out
    have b4 := cb 4
    have fb4 := fb 4
    clear cd cb fb
    go_upto_region 5 with fail
    refine wp_name (fun W3 hW3 => ?_)
    have hB3 : Bx W3 w1.heap.size #[.int .i64 x.file.root, .string ⟨(x.file.pkg).toArray⟩, .string ⟨(x.file.name).toArray⟩, .bool x.file.init, .int .i64 (kk + t), .slice ra bn rc] := by rw [hW3]; exact Bx.set hB2 4 _
    have hX3 : X w W3 := by rw [hW3]; exact hX2.setCell (by show w.heap.size ≤ w1.heap.size; omega) _
    have hz3 : W3.heap.size = W2.heap.size := by rw [hW3]; simp
    have hz2 := hx2.size
    have hD3 : Bx W3 w.heap.size #[.slice a n c, .int .i64 kk, .slice da dn dc] := by rw [hW3]; exact Bx.far ((hD0.x hx1).x hx2) (by show w.heap.size ≠ w1.heap.size; omega) _
    have hR3 : Bx W3 (w.heap.size + 2) #[.slice none 0 0, .int .i64 0, .slice none 0 0] := by rw [hW3]; exact Bx.far ((hR0.x hx1).x hx2) (by show w.heap.size + 2 ≠ w1.heap.size; omega) _
    have hO3 : W3.ownsRow W0.heap.size 148 5 (.slice ra bn rc) bn (x.file.body.flatMap scells) := by
      rw [hW3]
      exact own_set_far (own_fr hO1 (hx2.fr _)) hB2t (by decide) _ _
    have hS3 : StmtsAt W3 W0.heap.size ra bn (stF x.file (kk + t)).body := ⟨hS.1, hS.2.1, hS.2.2.1, Sl.of_own hO3⟩
    clear hW3 d0 d1 d2 ltd b4 fb4 ltb
    obtain ⟨ltd, cd, _⟩ := hD3.out
    have d0 := cd 0
    have d1 := cd 1
    have d2 := cd 2
    obtain ⟨ltb, cb, _⟩ := hB3.out
    have b0 := cb 0
    have b1 := cb 1
    have b2 := cb 2
    have b3 := cb 3
    have b4 := cb 4
    have b5 := cb 5
    clear cd cb
    go_wp2_with fail
    refine (DiskAdd_s l a n c kk dl da dn dc B (stF x.file (kk + t)) ra bn rc W0.heap.size t W3 (hF.mono (hX3.fr _)) (hD.mono (hX3.fr _)) hn1 hx hS3).mono ?_
    rintro _ w4 ⟨_, rfl, hDk, hx4⟩
    obtain ⟨ra2, rc2, rd2, rdc2, E2, rfl, hE⟩ := id hDk
    have hR4 := hR3.x hx4
    obtain ⟨ltr, cr, fr⟩ := hR4.out
    have r0 := cr 0
    have r1 := cr 1
    have r2 := cr 2
    have fr0 := fr 0
    have fr1 := fr 1
    have fr2 := fr 2
    clear cr fr
    go_wp2
    obtain ⟨_, c9, _⟩ := (Bx.set (Bx.set (Bx.set hR4 0 (.slice ra2 (daL l kk dl (stF x.file (kk + t)) t).length rc2)) 1 (.int .i64 (daK l kk dl (stF x.file (kk + t)) t))) 2 (.slice rd2 (daD l kk dl (stF x.file (kk + t)) t).length rdc2)).out
    have q0 := c9 0
    have q1 := c9 1
    have q2 := c9 2
    clear c9
    refine bodyPost_ret (v := .tuple #[.agg #[(.slice ra2 (daL l kk dl (stF x.file (kk + t)) t).length rc2), (.int .i64 (daK l kk dl (stF x.file (kk + t)) t)), (.slice rd2 (daD l kk dl (stF x.file (kk + t)) t).length rdc2)], .bool (daB l kk dl (stF x.file (kk + t)) t)]) (by simp [results, Tryz.results61, go_sem, Result.andThen, q0, q1, q2]) rfl ?_
    obtain ⟨k1, k2⟩ := dk_end (b := w.heap.size + 2) (hX3.trans hx4) (by omega) (by omega) hDk
    unfold ChgP
    rw [hc1, hc2, hc3, hc4]
    exact ⟨_, rfl, k1, k2⟩
  by_cases h1 : x.kind = 1
  · obtain ⟨hc1, hc2, hc3, hc4⟩ := rem_chg (t := t) hok h1
    go_wp2_with fail
    refine (DiskRemove_s l a n c kk dl da dn dc B x.idx t W0 hF0 hDl).mono ?_
    rintro _ w4 ⟨_, rfl, hDk, hx4⟩
    obtain ⟨ra2, rc2, rd2, rdc2, E2, rfl, hE⟩ := id hDk
    clear r0 r1 r2 fr0 fr1 fr2 ltr
    have hR4 := hR0.x hx4
    obtain ⟨ltr, cr, fr⟩ := hR4.out
    have r0 := cr 0
    have r1 := cr 1
    have r2 := cr 2
    have fr0 := fr 0
    have fr1 := fr 1
    have fr2 := fr 2
    clear cr fr
    go_wp2
    obtain ⟨_, c9, _⟩ := (Bx.set (Bx.set (Bx.set hR4 0 (.slice ra2 (drL l kk dl x.idx t).length rc2)) 1 (.int .i64 (drK l kk dl x.idx t))) 2 (.slice rd2 (drD l kk dl x.idx t).length rdc2)).out
    have q0 := c9 0
    have q1 := c9 1
    have q2 := c9 2
    clear c9
    refine bodyPost_ret (v := .tuple #[.agg #[(.slice ra2 (drL l kk dl x.idx t).length rc2), (.int .i64 (drK l kk dl x.idx t)), (.slice rd2 (drD l kk dl x.idx t).length rdc2)], .bool (drB l kk dl x.idx t)]) (by simp [results, Tryz.results61, go_sem, Result.andThen, q0, q1, q2]) rfl ?_
    obtain ⟨k1, k2⟩ := dk_end (b := w.heap.size + 2) (hX0.trans hx4) (by omega) (by omega) hDk
    unfold ChgP
    rw [hc1, hc2, hc3, hc4]
    exact ⟨_, rfl, k1, k2⟩
  obtain ⟨hc1, hc2, hc3⟩ := ed_chg (t := t) hok h0 h1 ht0 (by omega)
  go_wp2_with fail
  try rw [hmin]
  refine (EditFile_s l a n c B x.idx (kk + t) x.file.body ba bn bc Bx0 W0 hF0 hS0).mono ?_
  rintro _ w1 ⟨ta, tc, rfl, hO1, hx1⟩
  have hz1 := hx1.size
  go_upto_region 9 with fail
  refine wp_name (fun WB hWB => ?_)
  have hT0 : Bx WB w1.heap.size #[.slice ta (edL l x.idx (kk + t) x.file.body).length tc] := by rw [hWB]; exact Bx.new _ _ _
  have hxB : X w1 WB := by rw [hWB]; (repeat (first | with_reducible exact X.refl _ | with_reducible assumption | with_reducible refine X.setCell ?_ (by first | (simp; done) | (simp; omega)) _ | with_reducible refine X.ext ?_ _ | with_reducible refine X.alloc ?_ _ | with_reducible refine X.drew ?_))
  clear hWB d0 d1 d2 ltd a0 a1 a2 a3 a4 a5 a6 a7 lta r0 r1 r2 fr0 fr1 fr2 ltr
  have hXB := (hX0.trans hx1).trans hxB
  have hRB := (hR0.x hx1).x hxB
  have hDB := (hD0.x hx1).x hxB
  have hFB := (hO1.e).fr (hxB.fr _)
  have hzB := hxB.size
  cases hE : edB l x.idx (kk + t) x.file.body
  · obtain ⟨ltr, cr, fr⟩ := hRB.out
    have r0 := cr 0
    have r1 := cr 1
    have r2 := cr 2
    have fr0 := fr 0
    have fr1 := fr 1
    have fr2 := fr 2
    clear cr fr
    go_wp2
    obtain ⟨_, c9, _⟩ := (Bx.set (Bx.set (Bx.set hRB 0 (.slice none 0 0)) 1 (.int .i64 0)) 2 (.slice none 0 0)).out
    have q0 := c9 0
    have q1 := c9 1
    have q2 := c9 2
    clear c9
    refine bodyPost_ret (v := .tuple #[.agg #[(.slice none 0 0), (.int .i64 0), (.slice none 0 0)], .bool false]) (by simp [results, Tryz.results61, go_sem, Result.andThen, q0, q1, q2]) rfl ?_
    unfold ChgP
    rw [hc3 hE, hc1, hE]
    exact ⟨_, rfl, DkO.zero _ _ (X.size (x_set3 (b := w.heap.size + 2) hXB (by omega) _ _ _)), x_set3 (b := w.heap.size + 2) hXB (by omega) _ _ _⟩
  · obtain ⟨hc2, hdk⟩ := hc2 hE
    have hDlB := hDl.mono (X.fr (hx1.trans hxB) _)
    go_wp2_with fail
    refine wp_region_inv (fun L v W => (L 9 = false → X WB W)
        ∧ (L 8 = true → L 7 = true)
        ∧ (L 9 = true → L 8 = true ∧ L 0 = true ∧ L 2 = true ∧ L 6 = true)
        ∧ (L 7 = true → ∃ ra2 rc2, v 7 = .slice ra2 dn rc2 ∧ (L 8 = true → v 8 = .agg #[.slice ta (edL l x.idx (kk + t) x.file.body).length tc, .int .i64 (kk + t), .slice ra2 dn rc2]) ∧ (L 9 = false → DirsO W WB.heap.size ra2 dn rc2 dl) ∧ (L 9 = true → ∃ w4, X WB w4 ∧ DirsO w4 WB.heap.size ra2 dn rc2 dl ∧ W = (((w4.setCell ⟨w.heap.size + 2, 0, none⟩ (.slice ta (edL l x.idx (kk + t) x.file.body).length tc)).setCell ⟨w.heap.size + 2, 1, none⟩ (.int .i64 (kk + t))).setCell ⟨w.heap.size + 2, 2, none⟩ (.slice ra2 dn rc2))))
        ∧ (L 0 = true → v 0 = .agg #[.slice ta (edL l x.idx (kk + t) x.file.body).length tc])
        ∧ (L 1 = true → v 1 = .pointer (some ⟨w.heap.size, 1, none⟩))
        ∧ (L 2 = true → v 2 = .int .i64 kk)
        ∧ (L 3 = true → v 3 = .int .i64 t)
        ∧ (L 4 = true → v 4 = .int .i64 (kk + t))
        ∧ (L 5 = true → v 5 = .pointer (some ⟨w.heap.size, 2, none⟩))
        ∧ (L 6 = true → v 6 = .slice da dn dc)
        ∧ (L 10 = true → v 10 = .bool true)) (by kernel_rfl) (by kernel_rfl) ?_ ?_ (l := [(58, 0), (59, 1), (60, 2), (61, 3), (62, 4), (63, 5), (64, 6), (65, 7), (66, 8), (7, 10)]) (by kernel_rfl) (n := 11) rfl ?_
    · intro v
      exact ⟨fun _ => (X.refl _).drew, fun h => Bool.noConfusion h, fun h => Bool.noConfusion h, fun h => Bool.noConfusion h, fun h => Bool.noConfusion h, fun h => Bool.noConfusion h, fun h => Bool.noConfusion h, fun h => Bool.noConfusion h, fun h => Bool.noConfusion h, fun h => Bool.noConfusion h, fun h => Bool.noConfusion h, fun h => Bool.noConfusion h⟩
    · intro i hi
      have hi' : i = 0 ∨ i = 1 ∨ i = 2 ∨ i = 3 ∨ i = 4 ∨ i = 5 ∨ i = 6 ∨ i = 7 ∨ i = 8 ∨ i = 9 ∨ i = 10 := by
        have : i < 11 := hi
        omega
      clear hi
      rcases hi' with rfl | rfl | rfl | rfl | rfl | rfl | rfl | rfl | rfl | rfl | rfl
      all_goals
        intro o ho L v aa W hI hS hL hA K hK
        cases (show some _ = some o from ho)
        obtain ⟨nn, d8, d9, rc, v0, v1, v2, v3, v4, v5, v6, v10⟩ := hI
      · have o9 := hS.old 9 (by kernel_rfl) rfl
        have n9 : L 9 = false := by rcases h : L 9 with _ | _; (· rfl); (· have := (d9 h).2.1; simp [hL] at this)
        obtain ⟨ltt, ct, _⟩ := (hT0.x (nn n9)).out
        have t0 := ct 0
        clear ct
        clear hS ho hA
        go_simp
        exact hK _ W ⟨nn, d8, fun h => ⟨(d9 h).1, rfl, (d9 h).2.2⟩, rc, fun _ => rfl, v1, v2, v3, v4, v5, v6, v10⟩
      · have o3 := hS.old 3 (by kernel_rfl) rfl
        clear hS ho hA
        go_simp
        exact hK _ W ⟨nn, d8, d9, rc, v0, fun _ => rfl, v2, v3, v4, v5, v6, v10⟩
      · have l1 : L 1 = true := hA ⟨1, .data⟩ (by simp) rfl
        have g1 := hS.get 1 59 rfl l1 (v1 l1)
        have n9 : L 9 = false := by rcases h : L 9 with _ | _; (· rfl); (· have := (d9 h).2.2.1; simp [hL] at this)
        obtain ⟨ltd, ct, _⟩ := (hDB.x (nn n9)).out
        have t1 := ct 1
        clear ct
        clear hS ho hA
        go_simp
        exact hK _ W ⟨nn, d8, fun h => ⟨(d9 h).1, (d9 h).2.1, rfl, (d9 h).2.2.2⟩, rc, v0, v1, fun _ => rfl, v3, v4, v5, v6, v10⟩
      · have o2 := hS.old 2 (by kernel_rfl) rfl
        clear hS ho hA
        go_simp
        exact hK _ W ⟨nn, d8, d9, rc, v0, v1, v2, fun _ => rfl, v4, v5, v6, v10⟩
      · have l2 : L 2 = true := hA ⟨2, .data⟩ (by simp) rfl
        have g2 := hS.get 2 60 rfl l2 (v2 l2)
        have l3 : L 3 = true := hA ⟨3, .data⟩ (by simp) rfl
        have g3 := hS.get 3 61 rfl l3 (v3 l3)
        clear hS ho hA
        go_simp
        exact hK _ W ⟨nn, d8, d9, rc, v0, v1, v2, v3, fun _ => rfl, v5, v6, v10⟩
      · have o3 := hS.old 3 (by kernel_rfl) rfl
        clear hS ho hA
        go_simp
        exact hK _ W ⟨nn, d8, d9, rc, v0, v1, v2, v3, v4, fun _ => rfl, v6, v10⟩
      · have l5 : L 5 = true := hA ⟨5, .data⟩ (by simp) rfl
        have g5 := hS.get 5 63 rfl l5 (v5 l5)
        have n9 : L 9 = false := by rcases h : L 9 with _ | _; (· rfl); (· have := (d9 h).2.2.2; simp [hL] at this)
        obtain ⟨ltd, ct, _⟩ := (hDB.x (nn n9)).out
        have t2 := ct 2
        clear ct
        clear hS ho hA
        go_simp
        exact hK _ W ⟨nn, d8, fun h => ⟨(d9 h).1, (d9 h).2.1, (d9 h).2.2.1, rfl⟩, rc, v0, v1, v2, v3, v4, v5, fun _ => rfl, v10⟩
      · have l6 : L 6 = true := hA ⟨6, .data⟩ (by simp) rfl
        have g6 := hS.get 6 64 rfl l6 (v6 l6)
        have n9 : L 9 = false := by rcases h : L 9 with _ | _; (· rfl); (· have := d8 (d9 h).1; simp [hL] at this)
        clear hS ho hA
        go_simp
        refine (copyDirs_c dl da dn dc B W (hDlB.mono ((nn n9).fr _))).mono ?_
        rintro _ w' ⟨ra2, rc2, rfl, hO, hx⟩
        exact hK _ w' ⟨fun h => (nn h).trans hx, fun _ => rfl, d9, fun _ => ⟨ra2, rc2, rfl, fun h => Bool.noConfusion (hL.symm.trans (d8 h)), fun _ => hO.less (nn n9).size, fun h => Bool.noConfusion (n9.symm.trans h)⟩, v0, v1, v2, v3, v4, v5, v6, v10⟩
      · have l0 : L 0 = true := hA ⟨0, .data⟩ (by simp) rfl
        have g0 := hS.get 0 58 rfl l0 (v0 l0)
        have l4 : L 4 = true := hA ⟨4, .data⟩ (by simp) rfl
        have g4 := hS.get 4 62 rfl l4 (v4 l4)
        have l7 : L 7 = true := hA ⟨7, .data⟩ (by simp) rfl
        obtain ⟨ra2, rc2, e7, e8, hO, hW⟩ := rc l7
        have g7 := hS.get 7 65 rfl l7 e7
        clear hS ho hA
        go_simp
        exact hK _ W ⟨nn, fun _ => l7, fun h => ⟨rfl, (d9 h).2⟩, fun _ => ⟨ra2, rc2, e7, fun _ => rfl, hO, hW⟩, v0, v1, v2, v3, v4, v5, v6, v10⟩
      · have o6 := hS.old 6 (by kernel_rfl) rfl
        have l8 : L 8 = true := hA ⟨8, .data⟩ (by simp) rfl
        have l0 : L 0 = true := hA ⟨0, .phase⟩ (by simp) rfl
        have l2 : L 2 = true := hA ⟨2, .phase⟩ (by simp) rfl
        have l6 : L 6 = true := hA ⟨6, .phase⟩ (by simp) rfl
        have l7 := d8 l8
        obtain ⟨ra2, rc2, e7, e8, hO, hW⟩ := rc l7
        have g8 := hS.get 8 66 rfl l8 (e8 l8)
        obtain ⟨ltr, ct, fq⟩ := (hRB.x (nn hL)).out
        have q0 := ct 0
        have q1 := ct 1
        have q2 := ct 2
        have fz0 := fq 0
        have fz1 := fq 1
        have fz2 := fq 2
        clear ct fq
        clear hS ho hA
        go_simp
        exact hK undef _ ⟨fun h => Bool.noConfusion h, d8, fun _ => ⟨l8, l0, l2, l6⟩, fun _ => ⟨ra2, rc2, e7, e8, fun h => Bool.noConfusion h, fun _ => ⟨W, nn hL, hO hL, rfl⟩⟩, v0, v1, v2, v3, v4, v5, v6, v10⟩
      · have l9 : L 9 = true := hA ⟨9, .chain⟩ (by simp) rfl
        clear hS ho hA
        go_simp
        exact hK _ W ⟨nn, d8, d9, rc, v0, v1, v2, v3, v4, v5, v6, fun _ => rfl⟩
    intro v W9 hI
    obtain ⟨nn, d8, d9, rc, v0, v1, v2, v3, v4, v5, v6, v10⟩ := hI
    have e0 := v0 rfl
    have e1 := v1 rfl
    have e2 := v2 rfl
    have e3 := v3 rfl
    have e4 := v4 rfl
    have e5 := v5 rfl
    have e6 := v6 rfl
    have e10 := v10 rfl
    clear v0 v1 v2 v3 v4 v5 v6 v10
    obtain ⟨ra2, rc2, e7, e8, _, hW⟩ := rc rfl
    replace e8 := e8 rfl
    obtain ⟨w4, hx4, hO, hWe⟩ := hW rfl
    clear rc nn d8 d9
    simp only [putL, List.foldl, List.setIfInBounds_toArray, List.set_cons_zero, List.set_cons_succ, e0, e1, e2, e3, e4, e5, e6, e10, e7, e8]
    clear e0 e1 e2 e3 e4 e5 e6 e10
    clear e7 e8
    go_wp2
    obtain ⟨_, c9, _⟩ := (Bx.set (Bx.set (Bx.set (hRB.x hx4) 0 (.slice ta (edL l x.idx (kk + t) x.file.body).length tc)) 1 (.int .i64 (kk + t))) 2 (.slice ra2 dn rc2)).out
    have q0 := c9 0
    have q1 := c9 1
    have q2 := c9 2
    clear c9
    refine bodyPost_ret (v := .tuple #[.agg #[.slice ta (edL l x.idx (kk + t) x.file.body).length tc, .int .i64 (kk + t), .slice ra2 dn rc2], .bool true]) (by simp [results, Tryz.results61, go_sem, Result.andThen, q0, q1, q2]) rfl ?_
    unfold ChgP
    rw [hc2, hc1, hE]
    have hz4 := hx4.size
    have hdl := hD.len.1
    have hDk : DkO w4 W0.heap.size (.agg #[.slice ta (edL l x.idx (kk + t) x.file.body).length tc, .int .i64 (kk + t), .slice ra2 dn rc2]) (edL l x.idx (kk + t) x.file.body) (kk + t) dl := by
      subst hdl
      exact ⟨ta, tc, ra2, rc2, w1.heap.size, rfl, by omega, by omega, hFB.fr (hx4.fr _), hO.less hzB⟩
    obtain ⟨k1, k2⟩ := dk_end (b := w.heap.size + 2) (hXB.trans hx4) (by omega) (by omega) hDk
    exact ⟨_, rfl, k1, k2⟩

end Go.Proofs.YtgjfjjhmgbemcaaGreatDoor
