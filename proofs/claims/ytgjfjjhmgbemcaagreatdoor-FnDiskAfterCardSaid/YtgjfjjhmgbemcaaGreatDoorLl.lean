/- Several texts in one: ChgL, ChgS, ChgI, ChgT, DaS, DaI. No condition but lengths. -/
import Derived.Test.YtgjfjjhmgbemcaaGreatDoorLj
import Derived.Test.YtgjfjjhmgbemcaaGreatDoorLh
import Derived.Test.YtgjfjjhmgbemcaaGreatDoorLk
import Derived.Test.YtgjfjjhmgbemcaaGreatDoorLf
import Derived.Test.YtgjfjjhmgbemcaaGreatDoorLe
import Derived.Deep.CutRange
namespace Go.Proofs.YtgjfjjhmgbemcaaGreatDoor
open Go.RowKit

def chgR (d : Dk) (a : Ac) (t : Int) : Dk := if chgB d a t = true then chgD d a t else dk0
theorem diskB_no {l : List Fi} {kk : Int} {dl : List Di} (h : treeB l = false) : diskB l kk dl = false := by
  unfold diskB
  rw [h]
  rfl
theorem add_same {d : Dk} {f : Fi} {t : Int} (hok : d.ok = true) : daB d.l d.kk d.dl f t = dAddB d f t := by
  unfold daB dAddB Dk.ok at *
  have ht := diskB_tree hok
  rw [hok]
  cases h : treeB (d.l ++ [f])
  · have h1 : addB d.l f = false := by unfold addB; rw [h, Bool.and_false]
    rw [h1, Bool.and_false, Bool.false_and]
    unfold chB
    rw [diskB_no h, Bool.and_false, Bool.and_false]
  · have h1 : addB d.l f = true := by unfold addB; rw [h, ht]; rfl
    rw [h1, addL, if_pos h1]
    unfold chB
    cases rangeB t 0 200 <;> simp
theorem rem_same {d : Dk} {i t : Int} (hok : d.ok = true) : drB d.l d.kk d.dl i t = dRemB d i t := by
  unfold drB dRemB Dk.ok at *
  have ht := diskB_tree hok
  rw [hok]
  cases h : rangeB i 0 ((d.l.length : Int) - 1)
  · have h1 : remB d.l i = false := by unfold remB; rw [h, Bool.and_false]
    rw [h1]
    simp
  · have h1 : remB d.l i = true := by unfold remB; rw [h, ht]; rfl
    rw [h1, remL, if_pos h1]
    unfold chB
    cases rangeB t 0 200 <;> simp
theorem add_chg {l : List Fi} {kk t : Int} {dl : List Di} {x : Ac} (hok : diskB l kk dl = true) (h0 : x.kind = 0) :
    chgB ⟨l, kk, dl⟩ x t = daB l kk dl (stF x.file (kk + t)) t ∧ (chgR ⟨l, kk, dl⟩ x t).l = daL l kk dl (stF x.file (kk + t)) t ∧ (chgR ⟨l, kk, dl⟩ x t).kk = daK l kk dl (stF x.file (kk + t)) t ∧ (chgR ⟨l, kk, dl⟩ x t).dl = daD l kk dl (stF x.file (kk + t)) t := by
  have h1 : chgB ⟨l, kk, dl⟩ x t = daB l kk dl (stF x.file (kk + t)) t := by
    unfold chgB
    rw [if_pos h0]
    exact (add_same (d := ⟨l, kk, dl⟩) hok).symm
  refine ⟨h1, ?_⟩
  unfold chgR daL daK daD
  rw [h1]
  cases h : daB l kk dl (stF x.file (kk + t)) t
  · exact ⟨rfl, rfl, rfl⟩
  · have h2 : addB l (stF x.file (kk + t)) = true := by
      unfold daB at h
      simp only [Bool.and_eq_true] at h
      exact h.1.2
    simp only [if_true]
    unfold chgD dAddD
    rw [if_pos h0, addL, if_pos h2]
    exact ⟨rfl, rfl, rfl⟩
theorem rem_chg {l : List Fi} {kk t : Int} {dl : List Di} {x : Ac} (hok : diskB l kk dl = true) (h1 : x.kind = 1) :
    chgB ⟨l, kk, dl⟩ x t = drB l kk dl x.idx t ∧ (chgR ⟨l, kk, dl⟩ x t).l = drL l kk dl x.idx t ∧ (chgR ⟨l, kk, dl⟩ x t).kk = drK l kk dl x.idx t ∧ (chgR ⟨l, kk, dl⟩ x t).dl = drD l kk dl x.idx t := by
  have h0 : ¬ x.kind = 0 := by omega
  have hb : chgB ⟨l, kk, dl⟩ x t = drB l kk dl x.idx t := by
    unfold chgB
    rw [if_neg h0, if_pos h1]
    exact (rem_same (d := ⟨l, kk, dl⟩) hok).symm
  refine ⟨hb, ?_⟩
  unfold chgR drL drK drD
  rw [hb]
  cases h : drB l kk dl x.idx t
  · exact ⟨rfl, rfl, rfl⟩
  · have h2 : remB l x.idx = true := by
      unfold drB at h
      simp only [Bool.and_eq_true] at h
      exact h.1.2
    simp only [if_true]
    unfold chgD dRemD
    rw [if_neg h0, if_pos h1, remL, if_pos h2]
    exact ⟨rfl, rfl, rfl⟩
theorem ed_chg {l : List Fi} {kk t : Int} {dl : List Di} {x : Ac} (hok : diskB l kk dl = true) (h0 : ¬ x.kind = 0) (h1 : ¬ x.kind = 1) (ht : 0 ≤ t) (hk : kk + t ≤ 200) :
    chgB ⟨l, kk, dl⟩ x t = edB l x.idx (kk + t) x.file.body ∧ (edB l x.idx (kk + t) x.file.body = true → chgR ⟨l, kk, dl⟩ x t = ⟨edL l x.idx (kk + t) x.file.body, kk + t, dl⟩ ∧ diskB (edL l x.idx (kk + t) x.file.body) (kk + t) dl = true) ∧ (edB l x.idx (kk + t) x.file.body = false → chgR ⟨l, kk, dl⟩ x t = dk0) := by
  have hb : chgB ⟨l, kk, dl⟩ x t = edB l x.idx (kk + t) x.file.body := by
    unfold chgB dEdB
    rw [if_neg h0, if_neg h1]
    cases h : edB l x.idx (kk + t) x.file.body
    · rfl
    · rw [Bool.true_and]
      exact edit_disk hok h ht hk
  refine ⟨hb, fun h => ⟨?_, edit_disk hok h ht hk⟩, fun h => ?_⟩
  · unfold chgR
    rw [hb, h]
    simp only [if_true]
    unfold chgD dEdD
    rw [if_neg h0, if_neg h1]
  · unfold chgR
    rw [hb, h]
    rfl

end Go.Proofs.YtgjfjjhmgbemcaaGreatDoor

namespace Go.Proofs.YtgjfjjhmgbemcaaGreatDoor
open Go.RowKit

theorem fr_set3 {W : World} {B b : Nat} (hb : b < B) (v0 v1 v2 : Value) : Fr B W (((W.setCell ⟨b, 0, none⟩ v0).setCell ⟨b, 1, none⟩ v1).setCell ⟨b, 2, none⟩ v2) :=
  Fr.set (Fr.set (Fr.set (Fr.refl _ _) (.inr hb) _) (.inr hb) _) (.inr hb) _
theorem bx_set3 {W : World} {b : Nat} {c0 c1 c2 : Value} (h : Bx W b #[c0, c1, c2]) (v0 v1 v2 : Value) : Bx (((W.setCell ⟨b, 0, none⟩ v0).setCell ⟨b, 1, none⟩ v1).setCell ⟨b, 2, none⟩ v2) b #[v0, v1, v2] := Bx.set (Bx.set (Bx.set h 0 _) 1 _) 2 _
theorem DkO.less {w : World} {B B' : Nat} {v : Value} {l : List Fi} {kk : Int} {dl : List Di} (h : DkO w B v l kk dl) (hB : B' ≤ B) : DkO w B' v l kk dl := by
  obtain ⟨a, c, da, dc, E1, e, h1, h2, h3, h4⟩ := h
  exact ⟨a, c, da, dc, E1, e, Nat.le_trans hB h1, h2, h3.lessB hB, h4⟩
theorem dk_end {w W : World} {B b : Nat} {x0 x1 x2 : Value} {l : List Fi} {kk : Int} {dl : List Di} (hX : X w W) (hb : w.heap.size ≤ b) (hB : b < B) (h : DkO W B (.agg #[x0, x1, x2]) l kk dl) :
    DkO (((W.setCell ⟨b, 0, none⟩ x0).setCell ⟨b, 1, none⟩ x1).setCell ⟨b, 2, none⟩ x2) w.heap.size (.agg #[x0, x1, x2]) l kk dl ∧ X w (((W.setCell ⟨b, 0, none⟩ x0).setCell ⟨b, 1, none⟩ x1).setCell ⟨b, 2, none⟩ x2) :=
  ⟨(h.fr (fr_set3 hB _ _ _)).less (by omega), x_set3 hX hb _ _ _⟩
/-- What a change leaves. -/
def ChgP (w w' : World) (l : List Fi) (kk : Int) (dl : List Di) (x : Ac) (t : Int) (e : Ending) : Prop :=
  ∃ v, e = .returned (.tuple #[v, .bool (chgB ⟨l, kk, dl⟩ x t)]) ∧ DkO w' w.heap.size v (chgR ⟨l, kk, dl⟩ x t).l (chgR ⟨l, kk, dl⟩ x t).kk (chgR ⟨l, kk, dl⟩ x t).dl ∧ X w w'
set_option maxRecDepth 100000 in
set_option maxHeartbeats 8000000 in
theorem change_s (l : List Fi) (a : Option Addr) (n c : Nat) (kk : Int) (dl : List Di) (da : Option Addr) (dn dc B : Nat) (x : Ac) (ba : Option Addr) (bn bc Bx0 : Nat) (t : Int) (w : World) (hF : FilesAt w B a n l) (hD : DirsAt w B da dn dl) (hn1 : n + 1 ≤ 2097152) (hok : diskB l kk dl = true) (hk0 : 0 ≤ kk) (hk : kk ≤ 80) (ht0 : 0 ≤ t) (ht4 : t ≤ 4) (hx : Okf x.file) (hS : StmtsAt w Bx0 ba bn x.file.body) :
    Calls Tryz.prog 61 #[.agg #[.slice a n c, .int .i64 kk, .slice da dn dc], .agg #[.int .i64 (x).kind, .int .i64 (x).file.root, .string ⟨(x).file.pkg.toArray⟩, .string ⟨(x).file.name.toArray⟩, .bool (x).file.init, .int .i64 (x).file.stamp, .slice ba bn bc, .int .i64 (x).idx, .string ⟨(x).name.toArray⟩], .int .i64 t] w fun e w' => ChgP w w' l kk dl x t e := by
  have hw1 : IntKind.i64.wrap (kk + t) = kk + t := IntWalk.i64_in _ (by omega)
  have hmin : min 99 (kk + t) = kk + t := by omega
  go_enter Tryz.func61, Tryz.ntmps61
  go_upto_region 1 with fail
  refine wp_name (fun W0 hW0 => ?_)
  have hB0 : Bx W0 w.heap.size #[.slice a n c, .int .i64 kk, .slice da dn dc] ∧ Bx W0 (w.heap.size + 1) (#[.int .i64 (x).kind, .int .i64 (x).file.root, .string ⟨(x).file.pkg.toArray⟩, .string ⟨(x).file.name.toArray⟩, .bool (x).file.init, .int .i64 (x).file.stamp, .slice ba bn bc, .int .i64 (x).idx, .string ⟨(x).name.toArray⟩]) ∧ Bx W0 (w.heap.size + 2) #[.slice none 0 0, .int .i64 0, .slice none 0 0] ∧ X w W0 := bx3 hW0
  obtain ⟨hD0, hA0, hR0, hX0⟩ := hB0
  have hz0 : W0.heap.size = w.heap.size + 3 := by rw [hW0]; simp
  clear hW0
  have hF0 := hF.mono (hX0.fr _)
  have hDl := hD.mono (hX0.fr _)
  have hS0 := hS.mono (hX0.fr _)
  obtain ⟨ltd, cd, _⟩ := hD0.out
  have d0 := cd 0
  have d1 := cd 1
  have d2 := cd 2
  obtain ⟨lta, ca, _⟩ := hA0.out
  have a0 := ca 0
  have a1 := ca 1
  have a2 := ca 2
  have a3 := ca 3
  have a4 := ca 4
  have a5 := ca 5
  have a6 := ca 6
  have a7 := ca 7
  obtain ⟨ltr, cr, fr⟩ := hR0.out
  have r0 := cr 0
  have r1 := cr 1
  have r2 := cr 2
  have fr0 := fr 0
  have fr1 := fr 1
  have fr2 := fr 2
  clear ca cd cr fr
  by_cases h0 : x.kind = 0
  · obtain ⟨hc1, hc2, hc3, hc4⟩ := add_chg (t := t) hok h0
    have hst : (stF x.file (kk + t)).body = x.file.body := rfl
    clear r0 r1 r2 fr0 fr1 fr2
    go_wp2_with fail
    refine (copyFile_c x.file ba bn bc Bx0 W0 hS0).mono ?_
    rintro _ w1 ⟨ra, rc, rfl, hO1, hx1⟩
    have hz1 := hx1.size
    go_upto_region 4 with fail
    refine wp_name (fun W2 hW2 => ?_)
    have hB2 : Bx W2 w1.heap.size #[.int .i64 x.file.root, .string ⟨(x.file.pkg).toArray⟩, .string ⟨(x.file.name).toArray⟩, .bool x.file.init, .int .i64 x.file.stamp, .slice ra bn rc] := by rw [hW2]; exact Bx.new _ _ _
    have hB2t : W2.heap[w1.heap.size]? = some (.cells #[.int .i64 x.file.root, .string ⟨(x.file.pkg).toArray⟩, .string ⟨(x.file.name).toArray⟩, .bool x.file.init, .int .i64 x.file.stamp, .slice ra bn rc] 44 (0, 0)) := by rw [hW2]; exact heap_alloc_new _ _
    have hx2 : X w1 W2 := by rw [hW2]; (repeat (first | with_reducible exact X.refl _ | with_reducible assumption | with_reducible refine X.setCell ?_ (by first | (simp; done) | (simp; omega)) _ | with_reducible refine X.ext ?_ _ | with_reducible refine X.alloc ?_ _ | with_reducible refine X.drew ?_))
    clear hW2 d0 d1 d2 ltd a0 a1 a2 a3 a4 a5 a6 a7 lta
    have hX2 := (hX0.trans hx1).trans hx2
    obtain ⟨ltd, cd, _⟩ := ((hD0.x hx1).x hx2).out
    have d0 := cd 0
    have d1 := cd 1
    have d2 := cd 2
    obtain ⟨ltb, cb, fb⟩ := hB2.out
    have b4 := cb 4
    have fb4 := fb 4
    clear cd cb fb
    go_upto_region 5 with fail
    refine wp_name (fun W3 hW3 => ?_)
    have hB3 : Bx W3 w1.heap.size #[.int .i64 x.file.root, .string ⟨(x.file.pkg).toArray⟩, .string ⟨(x.file.name).toArray⟩, .bool x.file.init, .int .i64 (kk + t), .slice ra bn rc] := by rw [hW3]; exact Bx.set hB2 4 _
    have hX3 : X w W3 := by rw [hW3]; exact hX2.setCell (by show w.heap.size ≤ w1.heap.size; omega) _
    have hz3 : W3.heap.size = W2.heap.size := by rw [hW3]; simp
    have hz2 := hx2.size
    have hD3 : Bx W3 w.heap.size #[.slice a n c, .int .i64 kk, .slice da dn dc] := by rw [hW3]; exact Bx.far ((hD0.x hx1).x hx2) (by show w.heap.size ≠ w1.heap.size; omega) _
    have hR3 : Bx W3 (w.heap.size + 2) #[.slice none 0 0, .int .i64 0, .slice none 0 0] := by rw [hW3]; exact Bx.far ((hR0.x hx1).x hx2) (by show w.heap.size + 2 ≠ w1.heap.size; omega) _
    have hO3 : W3.ownsRow W0.heap.size 148 5 (.slice ra bn rc) bn (x.file.body.flatMap scells) := by
      rw [hW3]
      exact own_set_far (own_fr hO1 (hx2.fr _)) hB2t (by decide) _ _
    have hS3 : StmtsAt W3 W0.heap.size ra bn (stF x.file (kk + t)).body := ⟨hS.1, hS.2.1, hS.2.2.1, Sl.of_own hO3⟩
    clear hW3 d0 d1 d2 ltd b4 fb4 ltb
    obtain ⟨ltd, cd, _⟩ := hD3.out
    have d0 := cd 0
    have d1 := cd 1
    have d2 := cd 2
    obtain ⟨ltb, cb, _⟩ := hB3.out
    have b0 := cb 0
    have b1 := cb 1
    have b2 := cb 2
    have b3 := cb 3
    have b4 := cb 4
    have b5 := cb 5
    clear cd cb
    go_wp2_with fail
    refine (DiskAdd_s l a n c kk dl da dn dc B (stF x.file (kk + t)) ra bn rc W0.heap.size t W3 (hF.mono (hX3.fr _)) (hD.mono (hX3.fr _)) hn1 hx hS3).mono ?_
    rintro _ w4 ⟨_, rfl, hDk, hx4⟩
    obtain ⟨ra2, rc2, rd2, rdc2, E2, rfl, hE⟩ := id hDk
    have hR4 := hR3.x hx4
    obtain ⟨ltr, cr, fr⟩ := hR4.out
    have r0 := cr 0
    have r1 := cr 1
    have r2 := cr 2
    have fr0 := fr 0
    have fr1 := fr 1
    have fr2 := fr 2
    clear cr fr
    go_wp2
    obtain ⟨_, c9, _⟩ := (Bx.set (Bx.set (Bx.set hR4 0 (.slice ra2 (daL l kk dl (stF x.file (kk + t)) t).length rc2)) 1 (.int .i64 (daK l kk dl (stF x.file (kk + t)) t))) 2 (.slice rd2 (daD l kk dl (stF x.file (kk + t)) t).length rdc2)).out
    have q0 := c9 0
    have q1 := c9 1
    have q2 := c9 2
    clear c9
    refine bodyPost_ret (v := .tuple #[.agg #[(.slice ra2 (daL l kk dl (stF x.file (kk + t)) t).length rc2), (.int .i64 (daK l kk dl (stF x.file (kk + t)) t)), (.slice rd2 (daD l kk dl (stF x.file (kk + t)) t).length rdc2)], .bool (daB l kk dl (stF x.file (kk + t)) t)]) (by simp [results, Tryz.results61, go_sem, Result.andThen, q0, q1, q2]) rfl ?_
    obtain ⟨k1, k2⟩ := dk_end (b := w.heap.size + 2) (hX3.trans hx4) (by omega) (by omega) hDk
    unfold ChgP
    rw [hc1, hc2, hc3, hc4]
    exact ⟨_, rfl, k1, k2⟩
  by_cases h1 : x.kind = 1
  · obtain ⟨hc1, hc2, hc3, hc4⟩ := rem_chg (t := t) hok h1
    go_wp2_with fail
    refine (DiskRemove_s l a n c kk dl da dn dc B x.idx t W0 hF0 hDl).mono ?_
    rintro _ w4 ⟨_, rfl, hDk, hx4⟩
    obtain ⟨ra2, rc2, rd2, rdc2, E2, rfl, hE⟩ := id hDk
    clear r0 r1 r2 fr0 fr1 fr2 ltr
    have hR4 := hR0.x hx4
    obtain ⟨ltr, cr, fr⟩ := hR4.out
    have r0 := cr 0
    have r1 := cr 1
    have r2 := cr 2
    have fr0 := fr 0
    have fr1 := fr 1
    have fr2 := fr 2
    clear cr fr
    go_wp2
    obtain ⟨_, c9, _⟩ := (Bx.set (Bx.set (Bx.set hR4 0 (.slice ra2 (drL l kk dl x.idx t).length rc2)) 1 (.int .i64 (drK l kk dl x.idx t))) 2 (.slice rd2 (drD l kk dl x.idx t).length rdc2)).out
    have q0 := c9 0
    have q1 := c9 1
    have q2 := c9 2
    clear c9
    refine bodyPost_ret (v := .tuple #[.agg #[(.slice ra2 (drL l kk dl x.idx t).length rc2), (.int .i64 (drK l kk dl x.idx t)), (.slice rd2 (drD l kk dl x.idx t).length rdc2)], .bool (drB l kk dl x.idx t)]) (by simp [results, Tryz.results61, go_sem, Result.andThen, q0, q1, q2]) rfl ?_
    obtain ⟨k1, k2⟩ := dk_end (b := w.heap.size + 2) (hX0.trans hx4) (by omega) (by omega) hDk
    unfold ChgP
    rw [hc1, hc2, hc3, hc4]
    exact ⟨_, rfl, k1, k2⟩
  obtain ⟨hc1, hc2, hc3⟩ := ed_chg (t := t) hok h0 h1 ht0 (by omega)
  go_wp2_with fail
  try rw [hmin]
  refine (EditFile_s l a n c B x.idx (kk + t) x.file.body ba bn bc Bx0 W0 hF0 hS0).mono ?_
  rintro _ w1 ⟨ta, tc, rfl, hO1, hx1⟩
  have hz1 := hx1.size
  go_upto_region 9 with fail
  refine wp_name (fun WB hWB => ?_)
  have hT0 : Bx WB w1.heap.size #[.slice ta (edL l x.idx (kk + t) x.file.body).length tc] := by rw [hWB]; exact Bx.new _ _ _
  have hxB : X w1 WB := by rw [hWB]; (repeat (first | with_reducible exact X.refl _ | with_reducible assumption | with_reducible refine X.setCell ?_ (by first | (simp; done) | (simp; omega)) _ | with_reducible refine X.ext ?_ _ | with_reducible refine X.alloc ?_ _ | with_reducible refine X.drew ?_))
  clear hWB d0 d1 d2 ltd a0 a1 a2 a3 a4 a5 a6 a7 lta r0 r1 r2 fr0 fr1 fr2 ltr
  have hXB := (hX0.trans hx1).trans hxB
  have hRB := (hR0.x hx1).x hxB
  have hDB := (hD0.x hx1).x hxB
  have hFB := (hO1.e).fr (hxB.fr _)
  have hzB := hxB.size
  cases hE : edB l x.idx (kk + t) x.file.body
  · obtain ⟨ltr, cr, fr⟩ := hRB.out
    have r0 := cr 0
    have r1 := cr 1
    have r2 := cr 2
    have fr0 := fr 0
    have fr1 := fr 1
    have fr2 := fr 2
    clear cr fr
    go_wp2
    obtain ⟨_, c9, _⟩ := (Bx.set (Bx.set (Bx.set hRB 0 (.slice none 0 0)) 1 (.int .i64 0)) 2 (.slice none 0 0)).out
    have q0 := c9 0
    have q1 := c9 1
    have q2 := c9 2
    clear c9
    refine bodyPost_ret (v := .tuple #[.agg #[(.slice none 0 0), (.int .i64 0), (.slice none 0 0)], .bool false]) (by simp [results, Tryz.results61, go_sem, Result.andThen, q0, q1, q2]) rfl ?_
    unfold ChgP
    rw [hc3 hE, hc1, hE]
    exact ⟨_, rfl, DkO.zero _ _ (X.size (x_set3 (b := w.heap.size + 2) hXB (by omega) _ _ _)), x_set3 (b := w.heap.size + 2) hXB (by omega) _ _ _⟩
  · obtain ⟨hc2, hdk⟩ := hc2 hE
    have hDlB := hDl.mono (X.fr (hx1.trans hxB) _)
    go_wp2_with fail
    refine wp_region_inv (fun L v W => (L 9 = false → X WB W)
        ∧ (L 8 = true → L 7 = true)
        ∧ (L 9 = true → L 8 = true ∧ L 0 = true ∧ L 2 = true ∧ L 6 = true)
        ∧ (L 7 = true → ∃ ra2 rc2, v 7 = .slice ra2 dn rc2 ∧ (L 8 = true → v 8 = .agg #[.slice ta (edL l x.idx (kk + t) x.file.body).length tc, .int .i64 (kk + t), .slice ra2 dn rc2]) ∧ (L 9 = false → DirsO W WB.heap.size ra2 dn rc2 dl) ∧ (L 9 = true → ∃ w4, X WB w4 ∧ DirsO w4 WB.heap.size ra2 dn rc2 dl ∧ W = (((w4.setCell ⟨w.heap.size + 2, 0, none⟩ (.slice ta (edL l x.idx (kk + t) x.file.body).length tc)).setCell ⟨w.heap.size + 2, 1, none⟩ (.int .i64 (kk + t))).setCell ⟨w.heap.size + 2, 2, none⟩ (.slice ra2 dn rc2))))
        ∧ (L 0 = true → v 0 = .agg #[.slice ta (edL l x.idx (kk + t) x.file.body).length tc])
        ∧ (L 1 = true → v 1 = .pointer (some ⟨w.heap.size, 1, none⟩))
        ∧ (L 2 = true → v 2 = .int .i64 kk)
        ∧ (L 3 = true → v 3 = .int .i64 t)
        ∧ (L 4 = true → v 4 = .int .i64 (kk + t))
        ∧ (L 5 = true → v 5 = .pointer (some ⟨w.heap.size, 2, none⟩))
        ∧ (L 6 = true → v 6 = .slice da dn dc)
        ∧ (L 10 = true → v 10 = .bool true)) (by kernel_rfl) (by kernel_rfl) ?_ ?_ (l := [(58, 0), (59, 1), (60, 2), (61, 3), (62, 4), (63, 5), (64, 6), (65, 7), (66, 8), (7, 10)]) (by kernel_rfl) (n := 11) rfl ?_
    · intro v
      exact ⟨fun _ => (X.refl _).drew, fun h => Bool.noConfusion h, fun h => Bool.noConfusion h, fun h => Bool.noConfusion h, fun h => Bool.noConfusion h, fun h => Bool.noConfusion h, fun h => Bool.noConfusion h, fun h => Bool.noConfusion h, fun h => Bool.noConfusion h, fun h => Bool.noConfusion h, fun h => Bool.noConfusion h, fun h => Bool.noConfusion h⟩
    · intro i hi
      have hi' : i = 0 ∨ i = 1 ∨ i = 2 ∨ i = 3 ∨ i = 4 ∨ i = 5 ∨ i = 6 ∨ i = 7 ∨ i = 8 ∨ i = 9 ∨ i = 10 := by
        have : i < 11 := hi
        omega
      clear hi
      rcases hi' with rfl | rfl | rfl | rfl | rfl | rfl | rfl | rfl | rfl | rfl | rfl
      all_goals
        intro o ho L v aa W hI hS hL hA K hK
        cases (show some _ = some o from ho)
        obtain ⟨nn, d8, d9, rc, v0, v1, v2, v3, v4, v5, v6, v10⟩ := hI
      · have o9 := hS.old 9 (by kernel_rfl) rfl
        have n9 : L 9 = false := by rcases h : L 9 with _ | _; (· rfl); (· have := (d9 h).2.1; simp [hL] at this)
        obtain ⟨ltt, ct, _⟩ := (hT0.x (nn n9)).out
        have t0 := ct 0
        clear ct
        clear hS ho hA
        go_simp
        exact hK _ W ⟨nn, d8, fun h => ⟨(d9 h).1, rfl, (d9 h).2.2⟩, rc, fun _ => rfl, v1, v2, v3, v4, v5, v6, v10⟩
      · have o3 := hS.old 3 (by kernel_rfl) rfl
        clear hS ho hA
        go_simp
        exact hK _ W ⟨nn, d8, d9, rc, v0, fun _ => rfl, v2, v3, v4, v5, v6, v10⟩
      · have l1 : L 1 = true := hA ⟨1, .data⟩ (by simp) rfl
        have g1 := hS.get 1 59 rfl l1 (v1 l1)
        have n9 : L 9 = false := by rcases h : L 9 with _ | _; (· rfl); (· have := (d9 h).2.2.1; simp [hL] at this)
        obtain ⟨ltd, ct, _⟩ := (hDB.x (nn n9)).out
        have t1 := ct 1
        clear ct
        clear hS ho hA
        go_simp
        exact hK _ W ⟨nn, d8, fun h => ⟨(d9 h).1, (d9 h).2.1, rfl, (d9 h).2.2.2⟩, rc, v0, v1, fun _ => rfl, v3, v4, v5, v6, v10⟩
      · have o2 := hS.old 2 (by kernel_rfl) rfl
        clear hS ho hA
        go_simp
        exact hK _ W ⟨nn, d8, d9, rc, v0, v1, v2, fun _ => rfl, v4, v5, v6, v10⟩
      · have l2 : L 2 = true := hA ⟨2, .data⟩ (by simp) rfl
        have g2 := hS.get 2 60 rfl l2 (v2 l2)
        have l3 : L 3 = true := hA ⟨3, .data⟩ (by simp) rfl
        have g3 := hS.get 3 61 rfl l3 (v3 l3)
        clear hS ho hA
        go_simp
        exact hK _ W ⟨nn, d8, d9, rc, v0, v1, v2, v3, fun _ => rfl, v5, v6, v10⟩
      · have o3 := hS.old 3 (by kernel_rfl) rfl
        clear hS ho hA
        go_simp
        exact hK _ W ⟨nn, d8, d9, rc, v0, v1, v2, v3, v4, fun _ => rfl, v6, v10⟩
      · have l5 : L 5 = true := hA ⟨5, .data⟩ (by simp) rfl
        have g5 := hS.get 5 63 rfl l5 (v5 l5)
        have n9 : L 9 = false := by rcases h : L 9 with _ | _; (· rfl); (· have := (d9 h).2.2.2; simp [hL] at this)
        obtain ⟨ltd, ct, _⟩ := (hDB.x (nn n9)).out
        have t2 := ct 2
        clear ct
        clear hS ho hA
        go_simp
        exact hK _ W ⟨nn, d8, fun h => ⟨(d9 h).1, (d9 h).2.1, (d9 h).2.2.1, rfl⟩, rc, v0, v1, v2, v3, v4, v5, fun _ => rfl, v10⟩
      · have l6 : L 6 = true := hA ⟨6, .data⟩ (by simp) rfl
        have g6 := hS.get 6 64 rfl l6 (v6 l6)
        have n9 : L 9 = false := by rcases h : L 9 with _ | _; (· rfl); (· have := d8 (d9 h).1; simp [hL] at this)
        clear hS ho hA
        go_simp
        refine (copyDirs_c dl da dn dc B W (hDlB.mono ((nn n9).fr _))).mono ?_
        rintro _ w' ⟨ra2, rc2, rfl, hO, hx⟩
        exact hK _ w' ⟨fun h => (nn h).trans hx, fun _ => rfl, d9, fun _ => ⟨ra2, rc2, rfl, fun h => Bool.noConfusion (hL.symm.trans (d8 h)), fun _ => hO.less (nn n9).size, fun h => Bool.noConfusion (n9.symm.trans h)⟩, v0, v1, v2, v3, v4, v5, v6, v10⟩
      · have l0 : L 0 = true := hA ⟨0, .data⟩ (by simp) rfl
        have g0 := hS.get 0 58 rfl l0 (v0 l0)
        have l4 : L 4 = true := hA ⟨4, .data⟩ (by simp) rfl
        have g4 := hS.get 4 62 rfl l4 (v4 l4)
        have l7 : L 7 = true := hA ⟨7, .data⟩ (by simp) rfl
        obtain ⟨ra2, rc2, e7, e8, hO, hW⟩ := rc l7
        have g7 := hS.get 7 65 rfl l7 e7
        clear hS ho hA
        go_simp
        exact hK _ W ⟨nn, fun _ => l7, fun h => ⟨rfl, (d9 h).2⟩, fun _ => ⟨ra2, rc2, e7, fun _ => rfl, hO, hW⟩, v0, v1, v2, v3, v4, v5, v6, v10⟩
      · have o6 := hS.old 6 (by kernel_rfl) rfl
        have l8 : L 8 = true := hA ⟨8, .data⟩ (by simp) rfl
        have l0 : L 0 = true := hA ⟨0, .phase⟩ (by simp) rfl
        have l2 : L 2 = true := hA ⟨2, .phase⟩ (by simp) rfl
        have l6 : L 6 = true := hA ⟨6, .phase⟩ (by simp) rfl
        have l7 := d8 l8
        obtain ⟨ra2, rc2, e7, e8, hO, hW⟩ := rc l7
        have g8 := hS.get 8 66 rfl l8 (e8 l8)
        obtain ⟨ltr, ct, fq⟩ := (hRB.x (nn hL)).out
        have q0 := ct 0
        have q1 := ct 1
        have q2 := ct 2
        have fz0 := fq 0
        have fz1 := fq 1
        have fz2 := fq 2
        clear ct fq
        clear hS ho hA
        go_simp
        exact hK undef _ ⟨fun h => Bool.noConfusion h, d8, fun _ => ⟨l8, l0, l2, l6⟩, fun _ => ⟨ra2, rc2, e7, e8, fun h => Bool.noConfusion h, fun _ => ⟨W, nn hL, hO hL, rfl⟩⟩, v0, v1, v2, v3, v4, v5, v6, v10⟩
      · have l9 : L 9 = true := hA ⟨9, .chain⟩ (by simp) rfl
        clear hS ho hA
        go_simp
        exact hK _ W ⟨nn, d8, d9, rc, v0, v1, v2, v3, v4, v5, v6, fun _ => rfl⟩
    intro v W9 hI
    obtain ⟨nn, d8, d9, rc, v0, v1, v2, v3, v4, v5, v6, v10⟩ := hI
    have e0 := v0 rfl
    have e1 := v1 rfl
    have e2 := v2 rfl
    have e3 := v3 rfl
    have e4 := v4 rfl
    have e5 := v5 rfl
    have e6 := v6 rfl
    have e10 := v10 rfl
    clear v0 v1 v2 v3 v4 v5 v6 v10
    obtain ⟨ra2, rc2, e7, e8, _, hW⟩ := rc rfl
    replace e8 := e8 rfl
    obtain ⟨w4, hx4, hO, hWe⟩ := hW rfl
    clear rc nn d8 d9
    simp only [putL, List.foldl, List.setIfInBounds_toArray, List.set_cons_zero, List.set_cons_succ, e0, e1, e2, e3, e4, e5, e6, e10, e7, e8]
    clear e0 e1 e2 e3 e4 e5 e6 e10
    clear e7 e8
    go_wp2
    obtain ⟨_, c9, _⟩ := (Bx.set (Bx.set (Bx.set (hRB.x hx4) 0 (.slice ta (edL l x.idx (kk + t) x.file.body).length tc)) 1 (.int .i64 (kk + t))) 2 (.slice ra2 dn rc2)).out
    have q0 := c9 0
    have q1 := c9 1
    have q2 := c9 2
    clear c9
    refine bodyPost_ret (v := .tuple #[.agg #[.slice ta (edL l x.idx (kk + t) x.file.body).length tc, .int .i64 (kk + t), .slice ra2 dn rc2], .bool true]) (by simp [results, Tryz.results61, go_sem, Result.andThen, q0, q1, q2]) rfl ?_
    unfold ChgP
    rw [hc2, hc1, hE]
    have hz4 := hx4.size
    have hdl := hD.len.1
    have hDk : DkO w4 W0.heap.size (.agg #[.slice ta (edL l x.idx (kk + t) x.file.body).length tc, .int .i64 (kk + t), .slice ra2 dn rc2]) (edL l x.idx (kk + t) x.file.body) (kk + t) dl := by
      subst hdl
      exact ⟨ta, tc, ra2, rc2, w1.heap.size, rfl, by omega, by omega, hFB.fr (hx4.fr _), hO.less hzB⟩
    obtain ⟨k1, k2⟩ := dk_end (b := w.heap.size + 2) (hXB.trans hx4) (by omega) (by omega) hDk
    exact ⟨_, rfl, k1, k2⟩

end Go.Proofs.YtgjfjjhmgbemcaaGreatDoor

namespace Go.Proofs.YtgjfjjhmgbemcaaGreatDoor
open Go.RowKit

theorem edB_indexC {l : List Fi} {i st : Int} {b : List St} (h : edB l i st b = true) : ∃ k : Nat, i = (k : Int) ∧ k < l.length := by
  unfold edB at h
  simp only [Bool.and_eq_true] at h
  obtain ⟨h0, h1⟩ := rangeB_iff.1 h.1.1.2
  exact ⟨i.toNat, by omega, by omega⟩
theorem okL_edC {l : List Fi} {i st : Int} {b : List St} (h : OkL l) (hb : b.length ≤ 2097152) (ho : ∀ s ∈ b, Oks s) : OkL (edL l i st b) := by
  unfold edL
  split
  · rename_i he
    obtain ⟨k, rfl, hk⟩ := edB_indexC he
    exact okL_edit h hk hb ho
  · exact ⟨by simp, by simp⟩
set_option maxRecDepth 100000 in
set_option maxHeartbeats 8000000 in
theorem change_i (l : List Fi) (a : Option Addr) (n c : Nat) (kk : Int) (dl : List Di) (da : Option Addr) (dn dc B : Nat) (x : Ac) (ba : Option Addr) (bn bc Bx0 : Nat) (t : Int) (w : World) (hF : FilesAt w B a n l) (hD : DirsAt w B da dn dl) (hn1 : n + 1 ≤ 2097152) (hok : diskB l kk dl = true) (hk0 : 0 ≤ kk) (hk : kk ≤ 80) (ht0 : 0 ≤ t) (ht4 : t ≤ 4) (hx : Okf x.file) (hS : StmtsAt w Bx0 ba bn x.file.body) (hnc : n ≤ c) (hdc : dn ≤ dc) (hG : Gm w) :
    Calls Tryz.prog 118 #[.agg #[.slice a n c, .int .i64 kk, .slice da dn dc], .agg #[.int .i64 (x).kind, .int .i64 (x).file.root, .string ⟨(x).file.pkg.toArray⟩, .string ⟨(x).file.name.toArray⟩, .bool (x).file.init, .int .i64 (x).file.stamp, .slice ba bn bc, .int .i64 (x).idx, .string ⟨(x).name.toArray⟩], .int .i64 t] w fun e w' => ChgP w w' l kk dl x t e := by
  have hw1 : IntKind.i64.wrap (kk + t) = kk + t := IntWalk.i64_in _ (by omega)
  go_enter Tryz.func118, Tryz.ntmps118
  go_upto_region 1 with fail
  refine wp_name (fun W0 hW0 => ?_)
  have hB0 : Bx W0 w.heap.size #[.slice a n c, .int .i64 kk, .slice da dn dc] ∧ Bx W0 (w.heap.size + 1) (#[.int .i64 (x).kind, .int .i64 (x).file.root, .string ⟨(x).file.pkg.toArray⟩, .string ⟨(x).file.name.toArray⟩, .bool (x).file.init, .int .i64 (x).file.stamp, .slice ba bn bc, .int .i64 (x).idx, .string ⟨(x).name.toArray⟩]) ∧ Bx W0 (w.heap.size + 2) #[.slice none 0 0, .int .i64 0, .slice none 0 0] ∧ X w W0 := bx3 hW0
  obtain ⟨hD0, hA0, hR0, hX0⟩ := hB0
  have hz0 : W0.heap.size = w.heap.size + 3 := by rw [hW0]; simp
  clear hW0
  have hF0 := hF.mono (hX0.fr _)
  have hDl := hD.mono (hX0.fr _)
  have hS0 := hS.mono (hX0.fr _)
  obtain ⟨ltd, cd, _⟩ := hD0.out
  have d0 := cd 0
  have d1 := cd 1
  have d2 := cd 2
  obtain ⟨lta, ca, _⟩ := hA0.out
  have a0 := ca 0
  have a1 := ca 1
  have a2 := ca 2
  have a3 := ca 3
  have a4 := ca 4
  have a5 := ca 5
  have a6 := ca 6
  have a7 := ca 7
  obtain ⟨ltr, cr, fr⟩ := hR0.out
  have r0 := cr 0
  have r1 := cr 1
  have r2 := cr 2
  have fr0 := fr 0
  have fr1 := fr 1
  have fr2 := fr 2
  clear ca cd cr fr
  by_cases h0 : x.kind = 0
  · obtain ⟨hc1, hc2, hc3, hc4⟩ := add_chg (t := t) hok h0
    have hst : (stF x.file (kk + t)).body = x.file.body := rfl
    clear r0 r1 r2 fr0 fr1 fr2
    replace hz0 := Lib.hid hz0
    go_upto_region 4 with fail
    refine wp_name (fun W2 hW2 => ?_)
    have hB2 : Bx W2 W0.heap.size #[.int .i64 x.file.root, .string ⟨(x.file.pkg).toArray⟩, .string ⟨(x.file.name).toArray⟩, .bool x.file.init, .int .i64 x.file.stamp, .slice ba bn bc] := by rw [hW2]; exact Bx.new _ _ _
    have hB2t : W2.heap[W0.heap.size]? = some (.cells #[.int .i64 x.file.root, .string ⟨(x.file.pkg).toArray⟩, .string ⟨(x.file.name).toArray⟩, .bool x.file.init, .int .i64 x.file.stamp, .slice ba bn bc] 44 (0, 0)) := by rw [hW2]; exact heap_alloc_new _ _
    have hx2 : X W0 W2 := by rw [hW2]; (repeat (first | with_reducible exact X.refl _ | with_reducible assumption | with_reducible refine X.setCell ?_ (by first | (simp; done) | (simp; omega)) _ | with_reducible refine X.ext ?_ _ | with_reducible refine X.alloc ?_ _ | with_reducible refine X.drew ?_))
    clear hW2 d0 d1 d2 ltd a0 a1 a2 a3 a4 a5 a6 a7 lta
    have hX2 := hX0.trans hx2
    obtain ⟨ltd, cd, _⟩ := (hD0.x hx2).out
    have d0 := cd 0
    have d1 := cd 1
    have d2 := cd 2
    obtain ⟨ltb, cb, fb⟩ := hB2.out
    have b4 := cb 4
    have fb4 := fb 4
    clear cd cb fb
    go_upto_region 5 with fail
    replace hz0 := hz0.out
    refine wp_name (fun W3 hW3 => ?_)
    have hB3 : Bx W3 W0.heap.size #[.int .i64 x.file.root, .string ⟨(x.file.pkg).toArray⟩, .string ⟨(x.file.name).toArray⟩, .bool x.file.init, .int .i64 (kk + t), .slice ba bn bc] := by rw [hW3]; exact Bx.set hB2 4 _
    have hX3 : X w W3 := by rw [hW3]; exact hX2.setCell (by show w.heap.size ≤ W0.heap.size; omega) _
    have hz3 : W3.heap.size = W2.heap.size := by rw [hW3]; simp
    have hz2 := hx2.size
    have hD3 : Bx W3 w.heap.size #[.slice a n c, .int .i64 kk, .slice da dn dc] := by rw [hW3]; exact Bx.far (hD0.x hx2) (by show w.heap.size ≠ W0.heap.size; omega) _
    have hR3 : Bx W3 (w.heap.size + 2) #[.slice none 0 0, .int .i64 0, .slice none 0 0] := by rw [hW3]; exact Bx.far (hR0.x hx2) (by show w.heap.size + 2 ≠ W0.heap.size; omega) _
    have hS3 : StmtsAt W3 Bx0 ba bn (stF x.file (kk + t)).body := hS.mono (hX3.fr _)
    clear hW3 d0 d1 d2 ltd b4 fb4 ltb
    obtain ⟨ltd, cd, _⟩ := hD3.out
    have d0 := cd 0
    have d1 := cd 1
    have d2 := cd 2
    obtain ⟨ltb, cb, _⟩ := hB3.out
    have b0 := cb 0
    have b1 := cb 1
    have b2 := cb 2
    have b3 := cb 3
    have b4 := cb 4
    have b5 := cb 5
    clear cd cb
    replace hz0 := Lib.hid hz0
    go_wp2_with fail
    refine (DiskAdd_i l a n c kk dl da dn dc B (stF x.file (kk + t)) ba bn bc Bx0 t W3 (hF.mono (hX3.fr _)) (hD.mono (hX3.fr _)) hn1 hx hS3 hnc hdc (hG.mono hX3)).mono ?_
    rintro _ w4 ⟨_, rfl, hDk, hx4⟩
    replace hz0 := hz0.out
    obtain ⟨ra2, rc2, rd2, rdc2, E2, rfl, hE⟩ := id hDk
    have hR4 := hR3.x hx4
    obtain ⟨ltr, cr, fr⟩ := hR4.out
    have r0 := cr 0
    have r1 := cr 1
    have r2 := cr 2
    have fr0 := fr 0
    have fr1 := fr 1
    have fr2 := fr 2
    clear cr fr
    go_wp2
    obtain ⟨_, c9, _⟩ := (Bx.set (Bx.set (Bx.set hR4 0 (.slice ra2 (daL l kk dl (stF x.file (kk + t)) t).length rc2)) 1 (.int .i64 (daK l kk dl (stF x.file (kk + t)) t))) 2 (.slice rd2 (daD l kk dl (stF x.file (kk + t)) t).length rdc2)).out
    have q0 := c9 0
    have q1 := c9 1
    have q2 := c9 2
    clear c9
    refine bodyPost_ret (v := .tuple #[.agg #[(.slice ra2 (daL l kk dl (stF x.file (kk + t)) t).length rc2), (.int .i64 (daK l kk dl (stF x.file (kk + t)) t)), (.slice rd2 (daD l kk dl (stF x.file (kk + t)) t).length rdc2)], .bool (daB l kk dl (stF x.file (kk + t)) t)]) (by simp [results, Tryz.results118, go_sem, Result.andThen, q0, q1, q2]) rfl ?_
    obtain ⟨k1, k2⟩ := dk_end (b := w.heap.size + 2) (hX3.trans hx4) (by omega) (by omega) hDk
    unfold ChgP
    rw [hc1, hc2, hc3, hc4]
    exact ⟨_, rfl, k1, k2⟩
  by_cases h1 : x.kind = 1
  · obtain ⟨hc1, hc2, hc3, hc4⟩ := rem_chg (t := t) hok h1
    go_wp2_with fail
    refine (DiskRemove_i l a n c kk dl da dn dc B x.idx t W0 hF0 hDl hnc hdc (hG.mono hX0)).mono ?_
    rintro _ w4 ⟨_, rfl, hDk, hx4⟩
    obtain ⟨ra2, rc2, rd2, rdc2, E2, rfl, hE⟩ := id hDk
    clear r0 r1 r2 fr0 fr1 fr2 ltr
    have hR4 := hR0.x hx4
    obtain ⟨ltr, cr, fr⟩ := hR4.out
    have r0 := cr 0
    have r1 := cr 1
    have r2 := cr 2
    have fr0 := fr 0
    have fr1 := fr 1
    have fr2 := fr 2
    clear cr fr
    go_wp2
    obtain ⟨_, c9, _⟩ := (Bx.set (Bx.set (Bx.set hR4 0 (.slice ra2 (drL l kk dl x.idx t).length rc2)) 1 (.int .i64 (drK l kk dl x.idx t))) 2 (.slice rd2 (drD l kk dl x.idx t).length rdc2)).out
    have q0 := c9 0
    have q1 := c9 1
    have q2 := c9 2
    clear c9
    refine bodyPost_ret (v := .tuple #[.agg #[(.slice ra2 (drL l kk dl x.idx t).length rc2), (.int .i64 (drK l kk dl x.idx t)), (.slice rd2 (drD l kk dl x.idx t).length rdc2)], .bool (drB l kk dl x.idx t)]) (by simp [results, Tryz.results118, go_sem, Result.andThen, q0, q1, q2]) rfl ?_
    obtain ⟨k1, k2⟩ := dk_end (b := w.heap.size + 2) (hX0.trans hx4) (by omega) (by omega) hDk
    unfold ChgP
    rw [hc1, hc2, hc3, hc4]
    exact ⟨_, rfl, k1, k2⟩
  obtain ⟨hc1, hc2, hc3⟩ := ed_chg (t := t) hok h0 h1 ht0 (by omega)
  go_wp2_with fail
  refine (EditFile_i l a n c B x.idx (kk + t) x.file.body ba bn bc Bx0 W0 hF0 hnc hS0 (hG.mono hX0)).mono ?_
  rintro _ w1 ⟨ta, tc, rfl, hO1, hx1⟩
  have hz1 := hx1.size
  go_upto_region 9 with fail
  refine wp_name (fun WB hWB => ?_)
  have hT0 : Bx WB w1.heap.size #[.slice ta (edL l x.idx (kk + t) x.file.body).length tc] := by rw [hWB]; exact Bx.new _ _ _
  have hxB : X w1 WB := by rw [hWB]; (repeat (first | with_reducible exact X.refl _ | with_reducible assumption | with_reducible refine X.setCell ?_ (by first | (simp; done) | (simp; omega)) _ | with_reducible refine X.ext ?_ _ | with_reducible refine X.alloc ?_ _ | with_reducible refine X.drew ?_))
  clear hWB d0 d1 d2 ltd a0 a1 a2 a3 a4 a5 a6 a7 lta r0 r1 r2 fr0 fr1 fr2 ltr
  have hXB := (hX0.trans hx1).trans hxB
  have hRB := (hR0.x hx1).x hxB
  have hDB := (hD0.x hx1).x hxB
  have hFB := (hO1.e).fr (hxB.fr _)
  have hzB := hxB.size
  have hDlB := hDl.mono (X.fr (hx1.trans hxB) _)
  go_wp2_with fail
  refine wp_region_inv (fun L v W => X WB W
      ∧ (L 10 = true → L 9 = true)
      ∧ (L 8 = true → L 7 = true)
      ∧ (L 10 = true → L 8 = true)
      ∧ (L 0 = true → v 0 = .agg #[.slice ta (edL l x.idx (kk + t) x.file.body).length tc])
      ∧ (L 1 = true → v 1 = .pointer (some ⟨w.heap.size, 1, none⟩))
      ∧ (L 2 = true → v 2 = .int .i64 kk)
      ∧ (L 3 = true → v 3 = .int .i64 t)
      ∧ (L 4 = true → v 4 = .int .i64 (kk + t))
      ∧ (L 5 = true → v 5 = .pointer (some ⟨w.heap.size, 2, none⟩))
      ∧ (L 6 = true → v 6 = .slice da dn dc)
      ∧ (L 7 = true → ∃ ra rc, v 7 = .slice ra dn rc ∧ DirsO W WB.heap.size ra dn rc dl)
      ∧ (L 8 = true → ∃ ra rc, v 8 = .agg #[.slice ta (edL l x.idx (kk + t) x.file.body).length tc, .int .i64 (kk + t), .slice ra dn rc] ∧ DirsO W WB.heap.size ra dn rc dl)
      ∧ (L 9 = true → ∃ g, v 9 = .pointer (some ⟨g, 0, none⟩) ∧ WB.heap.size ≤ g ∧ (L 10 = false → W.heap[g]? = some (.cells #[.slice none 0 0, .int .i64 0, .slice none 0 0] 38 (0, 0))))
      ∧ (L 10 = true → ∃ g ra rc, v 9 = .pointer (some ⟨g, 0, none⟩) ∧ WB.heap.size ≤ g ∧ W.heap[g]? = some (.cells #[.slice ta (edL l x.idx (kk + t) x.file.body).length tc, .int .i64 (kk + t), .slice ra dn rc] 38 (0, 0)) ∧ DirsO W WB.heap.size ra dn rc dl)) (by kernel_rfl) (by kernel_rfl) ?_ ?_ (l := [(53, 0), (54, 1), (55, 2), (56, 3), (57, 4), (58, 5), (59, 6), (60, 7), (61, 8), (11, 9)]) (by kernel_rfl) (n := 11) rfl ?_
  · intro v
    exact ⟨(X.refl _).drew, fun h => Bool.noConfusion h, fun h => Bool.noConfusion h, fun h => Bool.noConfusion h, fun h => Bool.noConfusion h, fun h => Bool.noConfusion h, fun h => Bool.noConfusion h, fun h => Bool.noConfusion h, fun h => Bool.noConfusion h, fun h => Bool.noConfusion h, fun h => Bool.noConfusion h, fun h => Bool.noConfusion h, fun h => Bool.noConfusion h, fun h => Bool.noConfusion h, fun h => Bool.noConfusion h⟩
  · intro i hi
    have hi' : i = 0 ∨ i = 1 ∨ i = 2 ∨ i = 3 ∨ i = 4 ∨ i = 5 ∨ i = 6 ∨ i = 7 ∨ i = 8 ∨ i = 9 ∨ i = 10 := by
      have : i < 11 := hi
      omega
    clear hi
    rcases hi' with rfl | rfl | rfl | rfl | rfl | rfl | rfl | rfl | rfl | rfl | rfl
    all_goals
      intro o ho L v aa W hI hS hL hA K hK
      cases (show some _ = some o from ho)
      obtain ⟨xx, dp, d8, d10, v0, v1, v2, v3, v4, v5, v6, v7, v8, v9, fin⟩ := hI
    · have a5 := hS.old 9 (by kernel_rfl) rfl
      obtain ⟨lt, ct, _⟩ := (hT0.x xx).out
      have e := ct 0
      clear ct
      clear hS ho hA
      go_simp
      exact hK _ W ⟨xx, dp, d8, d10, fun _ => rfl, v1, v2, v3, v4, v5, v6, v7, v8, v9, fin⟩
    · have a0 := hS.old 3 (by kernel_rfl) rfl
      clear hS ho hA
      go_simp
      exact hK _ W ⟨xx, dp, d8, d10, v0, fun _ => rfl, v2, v3, v4, v5, v6, v7, v8, v9, fin⟩
    · have l1 : L 1 = true := hA ⟨1, .data⟩ (by simp) rfl
      have a1 := hS.get 1 54 rfl l1 (v1 l1)
      obtain ⟨lt, ct, _⟩ := (hDB.x xx).out
      have e := ct 1
      clear ct
      clear hS ho hA
      go_simp
      exact hK _ W ⟨xx, dp, d8, d10, v0, v1, fun _ => rfl, v3, v4, v5, v6, v7, v8, v9, fin⟩
    · have a0 := hS.old 2 (by kernel_rfl) rfl
      clear hS ho hA
      go_simp
      exact hK _ W ⟨xx, dp, d8, d10, v0, v1, v2, fun _ => rfl, v4, v5, v6, v7, v8, v9, fin⟩
    · have l2 : L 2 = true := hA ⟨2, .data⟩ (by simp) rfl
      have l3 : L 3 = true := hA ⟨3, .data⟩ (by simp) rfl
      have a2 := hS.get 2 55 rfl l2 (v2 l2)
      have a3 := hS.get 3 56 rfl l3 (v3 l3)
      clear hS ho hA
      go_simp
      exact hK _ W ⟨xx, dp, d8, d10, v0, v1, v2, v3, fun _ => rfl, v5, v6, v7, v8, v9, fin⟩
    · have a0 := hS.old 3 (by kernel_rfl) rfl
      clear hS ho hA
      go_simp
      exact hK _ W ⟨xx, dp, d8, d10, v0, v1, v2, v3, v4, fun _ => rfl, v6, v7, v8, v9, fin⟩
    · have l5 : L 5 = true := hA ⟨5, .data⟩ (by simp) rfl
      have a5 := hS.get 5 58 rfl l5 (v5 l5)
      obtain ⟨lt, ct, _⟩ := (hDB.x xx).out
      have e := ct 2
      clear ct
      clear hS ho hA
      go_simp
      exact hK _ W ⟨xx, dp, d8, d10, v0, v1, v2, v3, v4, v5, fun _ => rfl, v7, v8, v9, fin⟩
    · have l6 : L 6 = true := hA ⟨6, .data⟩ (by simp) rfl
      have a6 := hS.get 6 59 rfl l6 (v6 l6)
      have n10 : L 10 = false := by rcases h : L 10 with _ | _; (· rfl); (· have := d8 (d10 h); simp [hL] at this)
      clear hS ho hA
      go_simp
      refine (cloneDirs_c dl da dn dc B W (hDlB.mono (xx.fr _))).mono ?_
      rintro _ w' ⟨ra, rc, rfl, hO, hx⟩
      exact hK _ w' ⟨xx.trans hx, dp, fun _ => rfl, d10, v0, v1, v2, v3, v4, v5, v6, fun _ => ⟨ra, rc, rfl, hO.less xx.size⟩, fun h => let ⟨ra, rc, e, ho⟩ := v8 h; ⟨ra, rc, e, ho.fr (hx.fr _)⟩, fun h => let ⟨g, e, hg, hb⟩ := v9 h; ⟨g, e, hg, fun h => at_x2' (hb h) hx⟩, fun h => Bool.noConfusion (n10.symm.trans h)⟩
    · have l0 : L 0 = true := hA ⟨0, .data⟩ (by simp) rfl
      have l4 : L 4 = true := hA ⟨4, .data⟩ (by simp) rfl
      have l7 : L 7 = true := hA ⟨7, .data⟩ (by simp) rfl
      have a0 := hS.get 0 53 rfl l0 (v0 l0)
      have a4 := hS.get 4 57 rfl l4 (v4 l4)
      obtain ⟨ra, rc, e7, hq⟩ := v7 l7
      have a7 := hS.get 7 60 rfl l7 e7
      have n10 : L 10 = false := by rcases h : L 10 with _ | _; (· rfl); (· have := d10 h; simp [hL] at this)
      clear hS ho hA
      go_simp
      exact hK _ W ⟨xx, dp, fun _ => l7, fun h => Bool.noConfusion (n10.symm.trans h), v0, v1, v2, v3, v4, v5, v6, v7, fun _ => ⟨ra, rc, rfl, hq⟩, v9, fin⟩
    · have n10 : L 10 = false := by rcases h : L 10 with _ | _; (· rfl); (· have := dp h; simp [hL] at this)
      clear hS ho hA
      go_simp
      exact hK _ _ ⟨xx.alloc _, fun _ => rfl, d8, d10, v0, v1, v2, v3, v4, v5, v6, fun h => let ⟨ra, rc, e, ho⟩ := v7 h; ⟨ra, rc, e, ho.fr (((X.refl W).alloc _).fr _)⟩, fun h => let ⟨ra, rc, e, ho⟩ := v8 h; ⟨ra, rc, e, ho.fr (((X.refl W).alloc _).fr _)⟩, fun _ => ⟨_, rfl, xx.size, fun _ => heap_alloc_new _ _⟩, fun h => Bool.noConfusion (n10.symm.trans h)⟩
    · have l8 : L 8 = true := hA ⟨8, .data⟩ (by simp) rfl
      have l9 : L 9 = true := hA ⟨9, .data⟩ (by simp) rfl
      obtain ⟨ra, rc, e8, hq⟩ := v8 l8
      obtain ⟨g, e9, hg, hb0⟩ := v9 l9
      have hb := hb0 hL
      have a8 := hS.get 8 61 rfl l8 e8
      have a9 := hS.get 9 11 rfl l9 e9
      obtain ⟨lb, cb, fb0⟩ := Bx.out ⟨_, hb⟩
      have f0 := fb0 0
      have f1 := fb0 1
      have f2 := fb0 2
      have c0 := cb 0
      have c1 := cb 1
      have c2 := cb 2
      clear fb0 cb
      clear hS ho hA
      go_simp
      exact hK undef _ ⟨x_set3 xx hg _ _ _, fun _ => l9, d8, fun _ => l8, v0, v1, v2, v3, v4, v5, v6, fun h => let ⟨ra, rc, e, ho⟩ := v7 h; ⟨ra, rc, e, (((ho.far hb (by decide) (by decide) _ _).far (heap_set1 hb) (by decide) (by decide) _ _).far (heap_set2 hb) (by decide) (by decide) _ _)⟩, fun h => let ⟨ra, rc, e, ho⟩ := v8 h; ⟨ra, rc, e, (((ho.far hb (by decide) (by decide) _ _).far (heap_set1 hb) (by decide) (by decide) _ _).far (heap_set2 hb) (by decide) (by decide) _ _)⟩, fun _ => ⟨g, e9, hg, fun h => Bool.noConfusion h⟩, fun _ => ⟨g, ra, rc, e9, hg, heap_set3 hb _ _ _, (((hq.far hb (by decide) (by decide) _ _).far (heap_set1 hb) (by decide) (by decide) _ _).far (heap_set2 hb) (by decide) (by decide) _ _)⟩⟩
  intro v W9 hI
  obtain ⟨xx, dp, d8, d10, v0, v1, v2, v3, v4, v5, v6, v7, v8, v9, fin⟩ := hI
  obtain ⟨g, ra, rc, e9, hg, hb, hO⟩ := fin rfl
  clear fin v0 v1 v2 v3 v4 v5 v6 v7 v8 v9 dp d8 d10
  simp only [putL, List.foldl, List.setIfInBounds_toArray, List.set_cons_zero, List.set_cons_succ, e9]
  clear e9
  have hRC := hRB.x xx
  have hXC := hXB.trans xx
  have hzC := xx.size
  cases hE : edB l x.idx (kk + t) x.file.body
  · obtain ⟨ltr, cr, fr⟩ := hRC.out
    have r0 := cr 0
    have r1 := cr 1
    have r2 := cr 2
    have fr0 := fr 0
    have fr1 := fr 1
    have fr2 := fr 2
    clear cr fr
    go_wp2
    obtain ⟨_, c9, _⟩ := (Bx.set (Bx.set (Bx.set hRC 0 (.slice none 0 0)) 1 (.int .i64 0)) 2 (.slice none 0 0)).out
    have q0 := c9 0
    have q1 := c9 1
    have q2 := c9 2
    clear c9
    refine bodyPost_ret (v := .tuple #[.agg #[(.slice none 0 0), (.int .i64 0), (.slice none 0 0)], .bool false]) (by simp [results, Tryz.results118, go_sem, Result.andThen, q0, q1, q2]) rfl ?_
    unfold ChgP
    rw [hc3 hE, hc1, hE]
    exact ⟨_, rfl, DkO.zero _ _ (X.size (x_set3 (b := w.heap.size + 2) hXC (by omega) _ _ _)), x_set3 (b := w.heap.size + 2) hXC (by omega) _ _ _⟩
  obtain ⟨hc2, hdk⟩ := hc2 hE
  have htc : (edL l x.idx (kk + t) x.file.body).length ≤ tc := by obtain ⟨_, _, _, hr, _⟩ := hO1; exact own_cap hr
  have hrc : dn ≤ rc := by obtain ⟨_, _, _, hr, _⟩ := hO; exact own_cap hr
  have hF9 := hFB.fr (xx.fr _)
  have hFa := hF9.o.at (okL_edC hF.okL (by have := hS.1; have := hS.2.1; omega) hS.2.2.1)
  have hDa := (hO.less (B' := W0.heap.size) (by omega)).at hD.okD
  obtain ⟨ltg, cg, _⟩ := Bx.out ⟨_, hb⟩
  have g0 := cg 0
  have g1 := cg 1
  have g2 := cg 2
  clear cg
  go_wp2_with fail
  refine (ValidDisk_i (edL l x.idx (kk + t) x.file.body) ta _ tc (kk + t) dl ra dn rc W0.heap.size W9 hFa htc hDa hrc (hG.mono hXC)).mono ?_
  rintro _ w4 ⟨rfl, hx4⟩
  rw [hdk]
  have hz4 := hx4.size
  clear g0 g1 g2 ltg
  obtain ⟨ltg, cg, _⟩ := (Bx.x ⟨_, hb⟩ hx4).out
  have g0 := cg 0
  have g1 := cg 1
  have g2 := cg 2
  have hR4 := hRC.x hx4
  obtain ⟨ltr, cr, fr⟩ := hR4.out
  have r0 := cr 0
  have r1 := cr 1
  have r2 := cr 2
  have fr0 := fr 0
  have fr1 := fr 1
  have fr2 := fr 2
  clear cg cr fr
  go_wp2
  obtain ⟨_, c9, _⟩ := (Bx.set (Bx.set (Bx.set hR4 0 (.slice ta (edL l x.idx (kk + t) x.file.body).length tc)) 1 (.int .i64 (kk + t))) 2 (.slice ra dn rc)).out
  have q0 := c9 0
  have q1 := c9 1
  have q2 := c9 2
  clear c9
  refine bodyPost_ret (v := .tuple #[.agg #[.slice ta (edL l x.idx (kk + t) x.file.body).length tc, .int .i64 (kk + t), .slice ra dn rc], .bool true]) (by simp [results, Tryz.results118, go_sem, Result.andThen, q0, q1, q2]) rfl ?_
  unfold ChgP
  rw [hc2, hc1, hE]
  have hDk : DkO w4 W0.heap.size (.agg #[.slice ta (edL l x.idx (kk + t) x.file.body).length tc, .int .i64 (kk + t), .slice ra dn rc]) (edL l x.idx (kk + t) x.file.body) (kk + t) dl := by
    have hdl := hD.len.1
    subst hdl
    exact ⟨ta, tc, ra, rc, w1.heap.size, rfl, by omega, by omega, hF9.fr (hx4.fr _), (hO.less hzB).fr (hx4.fr _)⟩
  obtain ⟨k1, k2⟩ := dk_end (b := w.heap.size + 2) (hXC.trans hx4) (by omega) (by omega) hDk
  exact ⟨_, rfl, k1, k2⟩

end Go.Proofs.YtgjfjjhmgbemcaaGreatDoor

namespace Go.Proofs.YtgjfjjhmgbemcaaGreatDoor
open Go.RowKit

def aftD (t : Int) (l : List Ac) (k : Nat) : Dk := (l.take k).foldl (stepD t) dk0
theorem aftD_next {t : Int} {l : List Ac} {k : Nat} (hk : k < l.length) : aftD t l (k + 1) = stepD t (aftD t l k) (nth l k) := by
  unfold aftD
  rw [take_succ_nth hk, List.foldl_append]
  rfl
theorem aftD_all (t : Int) (l : List Ac) : aftD t l l.length = afterD t l := by
  unfold aftD afterD
  rw [List.take_length]
structure DkI (d : Dk) (k : Nat) : Prop where
  ok : diskB d.l d.kk d.dl = true
  okl : OkL d.l
  ll : d.l.length ≤ k
  okd : OkD d.dl
  ld : d.dl.length ≤ 4 * k
  k0 : 0 ≤ d.kk
  kk : d.kk ≤ 4 * k
theorem DkI.zero : DkI dk0 0 := ⟨dk0_ok, ⟨by simp [dk0], fun f hf => by cases hf⟩, by simp [dk0], ⟨by simp [dk0], fun f hf => by cases hf⟩, by simp [dk0], by simp [dk0], by simp [dk0]⟩
theorem DkI.up {d : Dk} {k : Nat} (h : DkI d k) : DkI d (k + 1) := ⟨h.ok, h.okl, by have := h.ll; omega, h.okd, by have := h.ld; omega, h.k0, by have := h.kk; omega⟩
theorem chD_ok {dl : List Di} {r st : Int} {p : List UInt8} {k : Nat} (h : OkD dl) (hl : dl.length ≤ 4 * k) (hk : k ≤ 20) : OkD (chD dl r p st) ∧ (chD dl r p st).length ≤ 4 * (k + 1) := by
  obtain ⟨h4, h12⟩ := paths_len (p := p)
  obtain ⟨h1, h2⟩ := okD_stamps (r := r) (st := st) (pathsL p) dl (4 * k) h hl (by omega) (fun q hq => Nat.le_trans (h12 q hq) (by omega))
  exact ⟨h1, Nat.le_trans h2 (by omega)⟩
theorem edL_leC (l : List Fi) (i st : Int) (b : List St) : (edL l i st b).length ≤ l.length := by
  unfold edL
  split
  · rw [List.length_set]; exact Nat.le_refl _
  · simp
theorem DkI.chg {d : Dk} {k : Nat} {t : Int} {x : Ac} (h : DkI d k) (hx : Okf x.file) (hb : x.file.body.length ≤ 2097152) (hs : ∀ s ∈ x.file.body, Oks s) (hk : k ≤ 20) (h0 : 0 ≤ t) (h4 : t ≤ 4) (hc : chgB d x t = true) : DkI (chgD d x t) (k + 1) := by
  have hok := chg_ok hc
  have hkk := chg_kk d x t
  have i1 := h.ll
  have i2 := h.k0
  have i3 := h.kk
  have hL : OkL (chgD d x t).l ∧ (chgD d x t).l.length ≤ k + 1 ∧ OkD (chgD d x t).dl ∧ (chgD d x t).dl.length ≤ 4 * (k + 1) := by
    unfold chgD
    split
    · obtain ⟨c1, c2⟩ := chD_ok (r := (stF x.file (d.kk + t)).root) (st := d.kk + t) (p := (stF x.file (d.kk + t)).pkg) h.okd h.ld hk
      refine ⟨okL_snoc h.okl (by omega) hx hb hs, ?_, c1, c2⟩
      show (d.l ++ [stF x.file (d.kk + t)]).length ≤ k + 1
      rw [List.length_append]
      simp only [List.length_cons, List.length_nil]
      omega
    · split
      · obtain ⟨c1, c2⟩ := chD_ok (r := (nth d.l x.idx.toNat).root) (st := d.kk + t) (p := (nth d.l x.idx.toNat).pkg) h.okd h.ld hk
        refine ⟨h.okl.sublist (List.eraseIdx_sublist _ _), ?_, c1, c2⟩
        have := (List.eraseIdx_sublist d.l x.idx.toNat).length_le
        show (d.l.eraseIdx x.idx.toNat).length ≤ k + 1
        omega
      · refine ⟨okL_edC h.okl hb hs, ?_, h.okd, ?_⟩
        · have := edL_leC d.l x.idx (d.kk + t) x.file.body
          show (edL d.l x.idx (d.kk + t) x.file.body).length ≤ k + 1
          omega
        · have := h.ld
          show d.dl.length ≤ 4 * (k + 1)
          omega
  exact ⟨hok, hL.1, hL.2.1, hL.2.2.1, hL.2.2.2, by omega, by omega⟩
theorem step_3 {t : Int} {d : Dk} {x : Ac} (h : x.kind = 3) : stepD t d x = d := if_pos h
theorem step_c {t : Int} {d : Dk} {x : Ac} (h : ¬ x.kind = 3) (hc : chgB d x t = true) : stepD t d x = chgD d x t := by unfold stepD; rw [if_neg h, if_pos hc]
theorem step_n {t : Int} {d : Dk} {x : Ac} (h : ¬ x.kind = 3) (hc : chgB d x t = false) : stepD t d x = d := by unfold stepD; rw [if_neg h, hc]; rfl
theorem chgR_c {t : Int} {d : Dk} {x : Ac} (hc : chgB d x t = true) : chgR d x t = chgD d x t := if_pos hc
def aftB (t : Int) (l : List Ac) : Bool := actsB l && rangeB t 0 4
def aftR (t : Int) (l : List Ac) : Dk := if aftB t l = true then afterD t l else dk0
theorem acts_20 {l : List Ac} (h : actsB l = true) : l.length ≤ 20 := by
  unfold actsB at h
  have := of_decide_eq_true ((Bool.and_eq_true _ _ ▸ h).2)
  omega
theorem DkO.far {w : World} {B b : Nat} {v : Value} {l : List Fi} {kk : Int} {dl : List Di} {cs : Array Value} {t : TypeId} (h : DkO w B v l kk dl) (hb : w.heap[b]? = some (.cells cs t (0, 0))) (h1 : 44 ≠ t) (h2 : 148 ≠ t) (h3 : 140 ≠ t) (h4 : 9 ≠ t) (i : Nat) (u : Value) : DkO (w.setCell ⟨b, i, none⟩ u) B v l kk dl := by
  obtain ⟨a, c, da, dc, E1, e, k1, k2, k3, k4⟩ := h
  exact ⟨a, c, da, dc, E1, e, k1, by simpa using k2, k3.far hb h1 h2 i u, k4.far hb h3 h4 i u⟩
/-- The acts' cells, for every later world. -/
theorem ActsAt.ever {w : World} {B : Nat} {a : Option Addr} {n : Nat} {l : List Ac} (h : ActsAt w B a n l) {k : Nat} (hk : k < n) :
    ∃ b off ba bn bc, a = some ⟨b, off, none⟩ ∧ (Okf (nth l k).file ∧ (nth l k).name.length ≤ 1048576) ∧ bn ≤ bc ∧ StmtsAt w B ba bn (nth l k).file.body ∧ ∀ W, X w W →
      W.cell? ⟨b, off + k * 9, none⟩ = some (.int .i64 (nth l k).kind) ∧ W.cell? ⟨b, off + k * 9 + 1, none⟩ = some (.int .i64 (nth l k).file.root) ∧ W.cell? ⟨b, off + k * 9 + 2, none⟩ = some (.string ⟨((nth l k).file.pkg).toArray⟩) ∧ W.cell? ⟨b, off + k * 9 + 3, none⟩ = some (.string ⟨((nth l k).file.name).toArray⟩) ∧
      W.cell? ⟨b, off + k * 9 + 4, none⟩ = some (.bool (nth l k).file.init) ∧ W.cell? ⟨b, off + k * 9 + 5, none⟩ = some (.int .i64 (nth l k).file.stamp) ∧ W.cell? ⟨b, off + k * 9 + 6, none⟩ = some (.slice ba bn bc) ∧ W.cell? ⟨b, off + k * 9 + 7, none⟩ = some (.int .i64 (nth l k).idx) ∧ W.cell? ⟨b, off + k * 9 + 8, none⟩ = some (.string ⟨((nth l k).name).toArray⟩) := by
  obtain ⟨b, off, ba, bn, bc, e, _, hb, hok, hbc, hS, g0, g1, g2, g3, g4, g5, g6, g7, g8⟩ := h.at_ hk
  refine ⟨b, off, ba, bn, bc, e, hok, hbc, hS, fun W hX => ?_⟩
  exact ⟨(hX.cell hb).trans g0, (hX.cell hb).trans g1, (hX.cell hb).trans g2, (hX.cell hb).trans g3, (hX.cell hb).trans g4, (hX.cell hb).trans g5, (hX.cell hb).trans g6, (hX.cell hb).trans g7, (hX.cell hb).trans g8⟩

end Go.Proofs.YtgjfjjhmgbemcaaGreatDoor

namespace Go.Proofs.YtgjfjjhmgbemcaaGreatDoor
open Go.RowKit

theorem newDisk_c (w : World) : Calls Tryz.prog 60 #[] w fun e w' => e = .returned (.agg #[.slice none 0 0, .int .i64 0, .slice none 0 0]) ∧ X w w' := by
  go_enter Tryz.func60, Tryz.ntmps60
  go_wp2
  obtain ⟨_, c9, _⟩ := (Bx.new w #[.slice none 0 0, .int .i64 0, .slice none 0 0] 38).out
  have q0 := c9 0
  have q1 := c9 1
  have q2 := c9 2
  clear c9
  refine bodyPost_ret (v := .agg #[.slice none 0 0, .int .i64 0, .slice none 0 0]) (by simp [results, Tryz.results60, go_sem, Result.andThen, q0, q1, q2]) rfl ?_
  exact ⟨rfl, (X.refl w).alloc _⟩
/-- What is left of a disk after acts. -/
def DaP (w w' : World) (t : Int) (l : List Ac) (e : Ending) : Prop :=
  ∃ v, e = .returned v ∧ DkO w' w.heap.size v (aftR t l).l (aftR t l).kk (aftR t l).dl ∧ X w w'
theorem DaP.zero0 {w W : World} {t : Int} {l : List Ac} (h : aftB t l = false) (hX : X w W) : DaP w (((W.setCell ⟨w.heap.size, 0, none⟩ (.slice none 0 0)).setCell ⟨w.heap.size, 1, none⟩ (.int .i64 0)).setCell ⟨w.heap.size, 2, none⟩ (.slice none 0 0)) t l (.returned (.agg #[.slice none 0 0, .int .i64 0, .slice none 0 0])) := by
  have hx := x_set3 (b := w.heap.size) hX (Nat.le_refl _) (.slice none 0 0) (.int .i64 0) (.slice none 0 0)
  unfold DaP
  rw [show aftR t l = dk0 from if_neg (by rw [h]; simp)]
  exact ⟨_, rfl, DkO.zero _ _ hx.size, hx⟩
set_option maxRecDepth 100000 in
set_option maxHeartbeats 8000000 in
theorem DiskAfter_s (l : List Ac) (a : Option Addr) (n c B : Nat) (t : Int) (w : World) (hA : ActsAt w B a n l) :
    Calls Tryz.prog 22 #[.slice a n c, .int .i64 t] w fun e w' => DaP w w' t l e := by
  go_enter Tryz.func22, Tryz.ntmps22
  go_upto_region 1 with fail
  refine wp_name (fun W0 hW0 => ?_)
  have hR0 : Bx W0 w.heap.size #[.slice none 0 0, .int .i64 0, .slice none 0 0] := by rw [hW0]; exact Bx.new _ _ _
  have hX0 : X w W0 := by rw [hW0]; (repeat (first | with_reducible exact X.refl _ | with_reducible assumption | with_reducible refine X.setCell ?_ (by first | (simp; done) | (simp; omega)) _ | with_reducible refine X.ext ?_ _ | with_reducible refine X.alloc ?_ _ | with_reducible refine X.drew ?_))
  clear hW0
  go_wp2_with fail
  refine (validActs_s l a n c B W0 (hA.mono (hX0.fr _))).mono ?_
  rintro _ w1 ⟨rfl, hx1⟩
  have hR1 := hR0.x hx1
  have hX1 := hX0.trans hx1
  cases h1 : actsB l
  · obtain ⟨ltr, cr, fr⟩ := hR1.out
    have r0 := cr 0
    have r1 := cr 1
    have r2 := cr 2
    have fr0 := fr 0
    have fr1 := fr 1
    have fr2 := fr 2
    clear cr fr
    go_wp2
    obtain ⟨_, c9, _⟩ := (Bx.set (Bx.set (Bx.set hR1 0 (.slice none 0 0)) 1 (.int .i64 0)) 2 (.slice none 0 0)).out
    have q0 := c9 0
    have q1 := c9 1
    have q2 := c9 2
    clear c9
    refine bodyPost_ret (v := .agg #[.slice none 0 0, .int .i64 0, .slice none 0 0]) (by simp [results, Tryz.results22, go_sem, Result.andThen, q0, q1, q2]) rfl ?_
    exact DaP.zero0 (by rw [aftB, h1]; rfl) hX1
  cases h2 : rangeB t 0 4
  · obtain ⟨ltr, cr, fr⟩ := hR1.out
    have r0 := cr 0
    have r1 := cr 1
    have r2 := cr 2
    have fr0 := fr 0
    have fr1 := fr 1
    have fr2 := fr 2
    clear cr fr
    go_wp2_with (go_at_call 40; refine (inRange_c t 0 4 _).mono ?_; rintro _ _ ⟨rfl, rfl⟩; rw [h2])
    obtain ⟨_, c9, _⟩ := (Bx.set (Bx.set (Bx.set hR1 0 (.slice none 0 0)) 1 (.int .i64 0)) 2 (.slice none 0 0)).out
    have q0 := c9 0
    have q1 := c9 1
    have q2 := c9 2
    clear c9
    refine bodyPost_ret (v := .agg #[.slice none 0 0, .int .i64 0, .slice none 0 0]) (by simp [results, Tryz.results22, go_sem, Result.andThen, q0, q1, q2]) rfl ?_
    exact DaP.zero0 (by rw [aftB, h1, h2]; rfl) hX1
  obtain ⟨ht0, ht4⟩ := rangeB_iff.1 h2
  have Haf := Lib.hid (show aftB t l = true by rw [aftB, h1, h2]; rfl)
  have Hn20 := Lib.hid (acts_20 h1)
  have Hnl := Lib.hid hA.len.1
  go_upto_region 3 with (go_at_call 40; refine (inRange_c t 0 4 _).mono ?_; rintro _ _ ⟨rfl, rfl⟩; rw [h2])
  clear h1 h2
  go_wp2_with fail
  refine (newDisk_c w1).mono ?_
  rintro _ w3 ⟨rfl, hx3⟩
  go_upto_region 4 with fail
  refine wp_name (fun W5 hW5 => ?_)
  have hB5 : Bx W5 w3.heap.size #[.slice none 0 0, .int .i64 0, .slice none 0 0] := by rw [hW5]; exact Bx.new _ _ _
  have hX5 : X w3 W5 := by rw [hW5]; exact (X.refl w3).alloc _
  have hz5 : W5.heap.size = w3.heap.size + 1 := by rw [hW5]; simp
  clear hW5
  have hX3 := hX1.trans hx3
  have hR3 := hR1.x hx3
  have hs3 := hX3.size
  have hsr := hR0.out.1
  have hs13 := (hx1.trans hx3).size
  have hA3 := hA.mono (hX3.fr _)
  have Hz5 := Lib.hid hz5
  clear hz5
  go_wp2
  go_loopw [6, 7, 8] (fun i _ _ wr => ∃ k : Nat, k ≤ n ∧ i = .int .i64 k ∧ ∃ d fa fc da dc, d = aftD t l k ∧ Bx wr w3.heap.size #[.slice fa d.l.length fc, .int .i64 d.kk, .slice da d.dl.length dc] ∧ DkO wr (w3.heap.size + 1) (.agg #[.slice fa d.l.length fc, .int .i64 d.kk, .slice da d.dl.length dc]) d.l d.kk d.dl ∧ DkI d k ∧ X w3 wr) (fun i _ _ _ => n - (intOf i).toNat)
  case atStart => exact ⟨0, by omega, rfl, dk0, none, 0, none, 0, rfl, hB5, DkO.zero _ _ (by have := Hz5.out; omega), DkI.zero, hX5⟩
  case round =>
    obtain ⟨k, hk, rfl, d, fa, fc, da, dc, hd, hB5, hDk, hI, hX⟩ := hrel
    replace hd := Lib.hid hd
    by_cases hlt : k < n
    · obtain ⟨b, off, ba, bn, bc, rfl, hok, hbc, hS, hE⟩ := (hA3.mono (hX.fr _)).ever hlt
      have hk1 : (k : Int) < (n : Int) := by omega
      have hnx := Lib.hid (show aftD t l (k + 1) = stepD t d (nth l k) by rw [hd.out]; exact aftD_next (by have := Hnl.out; omega))
      have hk20 : k < 20 := by have := Hnl.out; have := Hn20.out; omega
      obtain ⟨k0, k1, k2, k3, k4, k5, k6, k7, k8⟩ := hE wr (X.refl _)
      by_cases h3 : (nth l k).kind = 3
      · go_wp2
        go_roundw
        case rel => exact ⟨k + 1, by omega, by go_num, d, fa, fc, da, dc, by rw [hnx.out, step_3 h3], hB5, hDk, hI.up, hX⟩
        case measure => simp [intOf]; omega
      obtain ⟨bb, hbb⟩ : ∃ bb, chgB d (nth l k) t = bb := ⟨_, rfl⟩
      obtain ⟨R, hR⟩ : ∃ R, chgR d (nth l k) t = R := ⟨_, rfl⟩
      have hchg : ∀ W, X wr W → Calls Tryz.prog 61 #[.agg #[.slice fa d.l.length fc, .int .i64 d.kk, .slice da d.dl.length dc], .agg #[.int .i64 ((nth l k)).kind, .int .i64 ((nth l k)).file.root, .string ⟨((nth l k)).file.pkg.toArray⟩, .string ⟨((nth l k)).file.name.toArray⟩, .bool ((nth l k)).file.init, .int .i64 ((nth l k)).file.stamp, .slice ba bn bc, .int .i64 ((nth l k)).idx, .string ⟨((nth l k)).name.toArray⟩], .int .i64 t] W fun e w' => ∃ ya yc yda ydc, e = .returned (.tuple #[.agg #[.slice ya R.l.length yc, .int .i64 R.kk, .slice yda R.dl.length ydc], .bool bb]) ∧ DkO w' W.heap.size (.agg #[.slice ya R.l.length yc, .int .i64 R.kk, .slice yda R.dl.length ydc]) R.l R.kk R.dl ∧ X W w' := by
        intro W hxW
        obtain ⟨fa', fc', da', dc', E1, e, e1, e2, hFE, hDO⟩ := hDk.fr (hxW.fr _)
        obtain ⟨⟨rfl, rfl⟩, rfl, rfl⟩ : (fa = fa' ∧ fc = fc') ∧ da = da' ∧ dc = dc' := by simpa using e
        have i1 := hI.ll
        have i2 := hI.kk
        refine (change_s d.l fa _ fc d.kk d.dl da _ dc (w3.heap.size + 1) (nth l k) ba bn bc B t W (hFE.o.at hI.okl) ((hDO.less e1).at hI.okd) (by omega) hI.ok hI.k0 (by omega) ht0 ht4 hok.1 (hS.mono (hxW.fr _))).mono ?_
        rintro _ w' ⟨_, rfl, hO, hx⟩
        obtain ⟨ya, yc, yda, ydc, E2, rfl, hO2⟩ := id hO
        have hbb2 : chgB ⟨d.l, d.kk, d.dl⟩ (nth l k) t = bb := hbb
        have hR2 : chgR ⟨d.l, d.kk, d.dl⟩ (nth l k) t = R := hR
        rw [hR2] at hO ⊢
        rw [hbb2]
        exact ⟨_, _, _, _, rfl, hO, hx⟩
      have Hbb := Lib.hid hbb
      have HR := Lib.hid hR
      clear hbb hR
      go_wp2_with fail
      clear k0 k1 k2 k3 k4 k5 k6 k7 k8
      refine wp_region_inv (fun L v W => X wr W
          ∧ (L 11 = true → L 10 = true)
          ∧ (L 11 = true → L 8 = true)
          ∧ (L 8 = true → L 7 = true)
          ∧ (L 7 = true → L 6 = true)
          ∧ (L 10 = true → ∃ g, v 10 = .pointer (some ⟨g, 0, none⟩) ∧ wr.heap.size ≤ g ∧ (L 11 = false → W.heap[g]? = some (.cells #[.slice none 0 0, .int .i64 0, .slice none 0 0] 38 (0, 0))))
          ∧ (L 6 = true → ∃ ya yc yda ydc, v 6 = .tuple #[.agg #[.slice ya R.l.length yc, .int .i64 R.kk, .slice yda R.dl.length ydc], .bool bb] ∧ (L 7 = true → v 7 = .tuple #[.agg #[.slice ya R.l.length yc, .int .i64 R.kk, .slice yda R.dl.length ydc], .bool bb]) ∧ (L 8 = true → v 8 = .agg #[.slice ya R.l.length yc, .int .i64 R.kk, .slice yda R.dl.length ydc]) ∧ DkO W wr.heap.size (.agg #[.slice ya R.l.length yc, .int .i64 R.kk, .slice yda R.dl.length ydc]) R.l R.kk R.dl ∧ (L 11 = true → ∃ g, v 10 = .pointer (some ⟨g, 0, none⟩) ∧ wr.heap.size ≤ g ∧ W.heap[g]? = some (.cells #[.slice ya R.l.length yc, .int .i64 R.kk, .slice yda R.dl.length ydc] 38 (0, 0))))
          ∧ (L 0 = true → v 0 = .agg #[.slice fa d.l.length fc, .int .i64 d.kk, .slice da d.dl.length dc])
          ∧ (L 1 = true → v 1 = .slice (some ⟨b, off, none⟩) n c)
          ∧ (L 2 = true → v 2 = .int .i64 k)
          ∧ (L 3 = true → v 3 = .pointer (some ⟨b, off + k * 9, none⟩))
          ∧ (L 4 = true → v 4 = .agg #[.int .i64 ((nth l k)).kind, .int .i64 ((nth l k)).file.root, .string ⟨((nth l k)).file.pkg.toArray⟩, .string ⟨((nth l k)).file.name.toArray⟩, .bool ((nth l k)).file.init, .int .i64 ((nth l k)).file.stamp, .slice ba bn bc, .int .i64 ((nth l k)).idx, .string ⟨((nth l k)).name.toArray⟩])
          ∧ (L 5 = true → v 5 = .int .i64 t)
          ∧ (L 9 = true → v 9 = .bool bb)
          ∧ (L 12 = true → v 12 = .bool bb)) (by kernel_rfl) (by kernel_rfl) ?_ ?_ (l := [(32, 0), (33, 1), (34, 2), (35, 3), (36, 4), (37, 5), (38, 6), (31, 7), (39, 8), (40, 9), (7, 10), (8, 12)]) (by kernel_rfl) (n := 13) rfl ?_
      · intro v
        exact ⟨(X.refl _).drew, fun h => Bool.noConfusion h, fun h => Bool.noConfusion h, fun h => Bool.noConfusion h, fun h => Bool.noConfusion h, fun h => Bool.noConfusion h, fun h => Bool.noConfusion h, fun h => Bool.noConfusion h, fun h => Bool.noConfusion h, fun h => Bool.noConfusion h, fun h => Bool.noConfusion h, fun h => Bool.noConfusion h, fun h => Bool.noConfusion h, fun h => Bool.noConfusion h, fun h => Bool.noConfusion h⟩
      · intro i hi
        have hi' : i = 0 ∨ i = 1 ∨ i = 2 ∨ i = 3 ∨ i = 4 ∨ i = 5 ∨ i = 6 ∨ i = 7 ∨ i = 8 ∨ i = 9 ∨ i = 10 ∨ i = 11 ∨ i = 12 := by
          have : i < 13 := hi
          omega
        clear hi
        rcases hi' with rfl | rfl | rfl | rfl | rfl | rfl | rfl | rfl | rfl | rfl | rfl | rfl | rfl
        all_goals
          intro o ho L v aa W hI hS hL hA K hK
          cases (show some _ = some o from ho)
          obtain ⟨xx, d10, d8, d7, d6, bx, rc, v0, v1, v2, v3, v4, v5, v9, v12⟩ := hI
        · have o5 := hS.old 5 (by kernel_rfl) rfl
          obtain ⟨lt5, ct5, _⟩ := (hB5.x xx).out
          have t0 := ct5 0
          have t1 := ct5 1
          have t2 := ct5 2
          clear ct5
          clear hS ho hA
          go_simp
          exact hK _ W ⟨xx, d10, d8, d7, d6, bx, rc, fun _ => rfl, v1, v2, v3, v4, v5, v9, v12⟩
        · have o0 := hS.old 0 (by kernel_rfl) rfl
          clear hS ho hA
          go_simp
          exact hK _ W ⟨xx, d10, d8, d7, d6, bx, rc, v0, fun _ => rfl, v2, v3, v4, v5, v9, v12⟩
        · have o6 := hS.old 6 (by kernel_rfl) rfl
          clear hS ho hA
          go_simp
          exact hK _ W ⟨xx, d10, d8, d7, d6, bx, rc, v0, v1, fun _ => rfl, v3, v4, v5, v9, v12⟩
        · have l1 : L 1 = true := hA ⟨1, .data⟩ (by simp) rfl
          have g1 := hS.get 1 33 rfl l1 (v1 l1)
          have l2 : L 2 = true := hA ⟨2, .data⟩ (by simp) rfl
          have g2 := hS.get 2 34 rfl l2 (v2 l2)
          clear hS ho hA
          go_simp
          exact hK _ W ⟨xx, d10, d8, d7, d6, bx, rc, v0, v1, v2, fun _ => rfl, v4, v5, v9, v12⟩
        · have l3 : L 3 = true := hA ⟨3, .data⟩ (by simp) rfl
          have g3 := hS.get 3 35 rfl l3 (v3 l3)
          obtain ⟨k0, k1, k2, k3, k4, k5, k6, k7, k8⟩ := hE W xx
          clear hS ho hA
          go_simp
          exact hK _ W ⟨xx, d10, d8, d7, d6, bx, rc, v0, v1, v2, v3, fun _ => rfl, v5, v9, v12⟩
        · have o1 := hS.old 1 (by kernel_rfl) rfl
          clear hS ho hA
          go_simp
          exact hK _ W ⟨xx, d10, d8, d7, d6, bx, rc, v0, v1, v2, v3, v4, fun _ => rfl, v9, v12⟩
        · have l0 : L 0 = true := hA ⟨0, .data⟩ (by simp) rfl
          have g0 := hS.get 0 32 rfl l0 (v0 l0)
          have l4 : L 4 = true := hA ⟨4, .data⟩ (by simp) rfl
          have g4 := hS.get 4 36 rfl l4 (v4 l4)
          have l5 : L 5 = true := hA ⟨5, .data⟩ (by simp) rfl
          have g5 := hS.get 5 37 rfl l5 (v5 l5)
          have n11 : L 11 = false := by rcases h : L 11 with _ | _; (· rfl); (· have := d6 (d7 (d8 h)); simp [hL] at this)
          clear hS ho hA
          go_simp
          refine (hchg W xx).mono ?_
          rintro _ w' ⟨ya, yc, yda, ydc, rfl, hO, hx⟩
          exact hK _ w' ⟨xx.trans hx, d10, d8, d7, fun _ => rfl, fun h => let ⟨g, e, hg, hb⟩ := bx h; ⟨g, e, hg, fun h => at_x2' (hb h) hx⟩, fun _ => ⟨ya, yc, yda, ydc, rfl, fun h => Bool.noConfusion (hL.symm.trans (d6 h)), fun h => Bool.noConfusion (hL.symm.trans (d6 (d7 h))), hO.less xx.size, fun h => Bool.noConfusion (n11.symm.trans h)⟩, v0, v1, v2, v3, v4, v5, v9, v12⟩
        · have l6 : L 6 = true := hA ⟨6, .data⟩ (by simp) rfl
          obtain ⟨ya, yc, yda, ydc, e6, e7, e8, hO, hf⟩ := rc l6
          have g6 := hS.get 6 38 rfl l6 e6
          clear hS ho hA
          go_simp
          exact hK _ W ⟨xx, d10, d8, fun _ => rfl, fun _ => l6, bx, fun _ => ⟨ya, yc, yda, ydc, e6, fun _ => rfl, e8, hO, hf⟩, v0, v1, v2, v3, v4, v5, v9, v12⟩
        · have l7 : L 7 = true := hA ⟨7, .data⟩ (by simp) rfl
          have l6 := d6 l7
          obtain ⟨ya, yc, yda, ydc, e6, e7, e8, hO, hf⟩ := rc l6
          have g7 := hS.get 7 31 rfl l7 (e7 l7)
          clear hS ho hA
          go_simp
          exact hK _ W ⟨xx, d10, fun _ => rfl, fun _ => l7, d6, bx, fun _ => ⟨ya, yc, yda, ydc, e6, e7, fun _ => rfl, hO, hf⟩, v0, v1, v2, v3, v4, v5, v9, v12⟩
        · have l7 : L 7 = true := hA ⟨7, .data⟩ (by simp) rfl
          obtain ⟨ya, yc, yda, ydc, e6, e7, e8, hO, hf⟩ := rc (d6 l7)
          have g7 := hS.get 7 31 rfl l7 (e7 l7)
          clear hS ho hA
          go_simp
          exact hK _ W ⟨xx, d10, d8, d7, d6, bx, rc, v0, v1, v2, v3, v4, v5, fun _ => rfl, v12⟩
        · have n11 : L 11 = false := by rcases h : L 11 with _ | _; (· rfl); (· have := d10 h; simp [hL] at this)
          clear hS ho hA
          go_simp
          exact hK _ _ ⟨xx.alloc _, fun _ => rfl, d8, d7, d6, fun _ => ⟨_, rfl, xx.size, fun _ => heap_alloc_new _ _⟩, fun h => let ⟨ya, yc, yda, ydc, e6, e7, e8, hO, hf⟩ := rc h; ⟨ya, yc, yda, ydc, e6, e7, e8, hO.fr (((X.refl W).alloc _).fr _), fun h => Bool.noConfusion (n11.symm.trans h)⟩, v0, v1, v2, v3, v4, v5, v9, v12⟩
        · have l8 : L 8 = true := hA ⟨8, .data⟩ (by simp) rfl
          have l10 : L 10 = true := hA ⟨10, .data⟩ (by simp) rfl
          have l6 := d6 (d7 l8)
          obtain ⟨ya, yc, yda, ydc, e6, e7, e8, hO, hf⟩ := rc l6
          obtain ⟨g, e10, hg, hb0⟩ := bx l10
          have hb := hb0 hL
          have g8 := hS.get 8 39 rfl l8 (e8 l8)
          have g10 := hS.get 10 7 rfl l10 e10
          obtain ⟨lb, cb, fb0⟩ := Bx.out ⟨_, hb⟩
          have f0 := fb0 0
          have f1 := fb0 1
          have f2 := fb0 2
          have c0 := cb 0
          have c1 := cb 1
          have c2 := cb 2
          clear fb0 cb
          clear hS ho hA
          go_simp
          exact hK undef _ ⟨x_set3 xx hg _ _ _, fun _ => l10, fun _ => l8, d7, d6, fun _ => ⟨g, e10, hg, fun h => Bool.noConfusion h⟩, fun _ => ⟨ya, yc, yda, ydc, e6, e7, e8, ((hO.far hb (by decide) (by decide) (by decide) (by decide) _ _).far (heap_set1 hb) (by decide) (by decide) (by decide) (by decide) _ _).far (heap_set2 hb) (by decide) (by decide) (by decide) (by decide) _ _, fun _ => ⟨g, e10, hg, heap_set3 hb _ _ _⟩⟩, v0, v1, v2, v3, v4, v5, v9, v12⟩
        · have l9 : L 9 = true := hA ⟨9, .data⟩ (by simp) rfl
          have g9 := hS.get 9 40 rfl l9 (v9 l9)
          clear hS ho hA
          go_simp
          exact hK _ W ⟨xx, d10, d8, d7, d6, bx, rc, v0, v1, v2, v3, v4, v5, v9, fun _ => rfl⟩
      intro v W9 hI
      obtain ⟨xx, d10, d8, d7, d6, bx, rc, v0, v1, v2, v3, v4, v5, v9, v12⟩ := hI
      have e0 := v0 rfl
      have e1 := v1 rfl
      have e2 := v2 rfl
      have e3 := v3 rfl
      have e4 := v4 rfl
      have e5 := v5 rfl
      have e9 := v9 rfl
      have e12 := v12 rfl
      clear v0 v1 v2 v3 v4 v5 v9 v12
      obtain ⟨ya, yc, yda, ydc, e6, e7, e8, hO, hf⟩ := rc rfl
      obtain ⟨g, e10, hg, hb⟩ := hf rfl
      replace e7 := e7 rfl
      replace e8 := e8 rfl
      clear rc hf bx d10 d8 d7 d6
      simp only [putL, List.foldl, List.setIfInBounds_toArray, List.set_cons_zero, List.set_cons_succ, e0, e1, e2, e3, e4, e5, e9, e12, e6, e7, e8, e10]
      clear e0 e1 e2 e3 e4 e5 e9 e12
      clear e6 e7 e8 e10
      have hXW := hX.trans xx
      cases hbv : bb
      · have hst := step_n h3 (Hbb.out.trans hbv)
        go_wp2
        go_roundw
        case rel => exact ⟨k + 1, by omega, by go_num, d, fa, fc, da, dc, by rw [hnx.out, hst], hB5.x xx, hDk.fr (xx.fr _), hI.up, hXW⟩
        case measure => simp [intOf]; omega
      · have hcc := Hbb.out.trans hbv
        have hst := step_c h3 hcc
        have hR2 := Lib.hid (show R = chgD d (nth l k) t from HR.out.symm.trans (chgR_c hcc))
        obtain ⟨ltg, cg, _⟩ := Bx.out ⟨_, hb⟩
        have g0 := cg 0
        have g1 := cg 1
        have g2 := cg 2
        obtain ⟨ltr, cr, fr⟩ := (hB5.x xx).out
        have r0 := cr 0
        have r1 := cr 1
        have r2 := cr 2
        have fr0 := fr 0
        have fr1 := fr 1
        have fr2 := fr 2
        clear cg cr fr
        go_wp2
        go_roundw
        case rel =>
          have hwr := hX.size
          have hlt5 := hB5.out.1
          exact ⟨k + 1, by omega, by go_num, R, ya, yc, yda, ydc, by rw [hnx.out, hst, hR2.out], bx_set3 (hB5.x xx) _ _ _, (hO.fr (fr_set3 hlt5 _ _ _)).less (by omega), by rw [hR2.out]; exact hI.chg hok.1 (by have := hS.1; have := hS.2.1; omega) hS.2.2.1 (by omega) ht0 ht4 hcc, x_set3 (b := w3.heap.size) hXW (Nat.le_refl _) _ _ _⟩
        case measure => simp [intOf]; omega
    · have hk1 : ¬ (k : Int) < (n : Int) := by omega
      obtain rfl : k = n := by omega
      obtain ⟨ltg, cg, _⟩ := hB5.out
      have g0 := cg 0
      have g1 := cg 1
      have g2 := cg 2
      have hRr := hR3.x hX
      obtain ⟨ltr, cr, fr⟩ := hRr.out
      have r0 := cr 0
      have r1 := cr 1
      have r2 := cr 2
      have fr0 := fr 0
      have fr1 := fr 1
      have fr2 := fr 2
      clear cg cr fr
      go_wp2
      obtain ⟨_, c9, _⟩ := (bx_set3 hRr (.slice fa d.l.length fc) (.int .i64 d.kk) (.slice da d.dl.length dc)).out
      have q0 := c9 0
      have q1 := c9 1
      have q2 := c9 2
      clear c9
      refine bodyPost_ret (v := .agg #[.slice fa d.l.length fc, .int .i64 d.kk, .slice da d.dl.length dc]) (by simp [results, Tryz.results22, go_sem, Result.andThen, q0, q1, q2]) rfl ?_
      obtain ⟨j1, j2⟩ := dk_end (b := w.heap.size) (hX3.trans hX) (Nat.le_refl _) (by omega) hDk
      have haf : aftR t l = d := by rw [aftR, if_pos Haf.out, ← aftD_all, hd.out, Hnl.out]
      unfold DaP
      rw [haf]
      exact ⟨_, rfl, j1, j2⟩

end Go.Proofs.YtgjfjjhmgbemcaaGreatDoor

namespace Go.Proofs.YtgjfjjhmgbemcaaGreatDoor
open Go.RowKit

theorem outs_T : AppT Tryz.prog 73 75 1 24 := AppT.of (z := .slice none 0 0) (by kernel_rfl) (by kernel_rfl) rfl (by omega)
theorem DkO.own {w w' : World} {B B2 e size m : Nat} {v u : Value} {xs : List Value} {l : List Fi} {kk : Int} {dl : List Di} (h : DkO w B v l kk dl) (hg : w.grownBy w' u.ownBlock) (ho : w.ownsRow B2 e size u m xs) (h1 : 44 ≠ e) (h2 : 148 ≠ e) (h3 : 140 ≠ e) (h4 : 9 ≠ e) : DkO w' B v l kk dl := by
  obtain ⟨a, c, da, dc, E1, e1, k1, k2, k3, k4⟩ := h
  refine ⟨a, c, da, dc, E1, e1, k1, Nat.le_trans k2 hg.size, ?_, ?_⟩
  · obtain ⟨vs, f0, f1, f2, fs, f3, f4, f5⟩ := k3
    exact ⟨vs, f0, f1, f2.kept hg (row_ne f2 ho h1), fs, fun x hx => (let ⟨ba, bc, f, hb⟩ := f3 x hx; ⟨ba, bc, f, hb.kept hg (row_ne hb ho h2)⟩), f4, f5⟩
  · obtain ⟨vs, f0, f1, f2, fs, f3⟩ := k4
    exact ⟨vs, f0, f1, f2.kept hg (row_ne f2 ho h3), fs, fun x hx => let ⟨ba, bc, f, hb⟩ := f3 x hx; ⟨ba, bc, f, hb.kept hg (row_ne hb ho h4)⟩⟩
/-- A typed box of a disk. -/
def Td (w : World) (b : Nat) (cs : Array Value) : Prop := w.heap[b]? = some (.cells cs 38 (0, 0))
theorem Td.bx {w : World} {b : Nat} {cs : Array Value} (h : Td w b cs) : Bx w b cs := ⟨_, h⟩
theorem Td.x {w w' : World} {b : Nat} {cs : Array Value} (h : Td w b cs) (hx : X w w') : Td w' b cs := at_x2' h hx
theorem Td.own {w w' : World} {b B e size n : Nat} {v : Value} {xs : List Value} {cs : Array Value} (h : Td w b cs) (hg : w.grownBy w' v.ownBlock) (ho : w.ownsRow B e size v n xs) (hne : e ≠ 38) : Td w' b cs := at_grown h hg (own_ne_at ho h hne)
theorem Td.new (w : World) (cs : Array Value) {b : Nat} (h : b = w.heap.size) : Td (w.alloc (.cells cs 38)) b cs := by
  subst h
  exact heap_alloc_new _ _
theorem Td.set3 {W : World} {b : Nat} {a0 a1 a2 : Value} (h : Td W b #[a0, a1, a2]) (v0 v1 v2 : Value) : Td (((W.setCell ⟨b, 0, none⟩ v0).setCell ⟨b, 1, none⟩ v1).setCell ⟨b, 2, none⟩ v2) b #[v0, v1, v2] := heap_set3 h _ _ _
theorem Td.far3 {w : World} {b g : Nat} {cs : Array Value} (h : Td w b cs) (hne : b ≠ g) (v0 v1 v2 : Value) : Td (((w.setCell ⟨g, 0, none⟩ v0).setCell ⟨g, 1, none⟩ v1).setCell ⟨g, 2, none⟩ v2) b cs := by
  unfold Td at *
  rw [heap_setCell_other _ ⟨g, 2, none⟩ b v2 hne, heap_setCell_other _ ⟨g, 1, none⟩ b v1 hne, heap_setCell_other _ ⟨g, 0, none⟩ b v0 hne]
  exact h
theorem own_far3 {w : World} {B e size n g : Nat} {v : Value} {xs : List Value} {cs : Array Value} {t : TypeId} (h : w.ownsRow B e size v n xs) (hb : w.heap[g]? = some (.cells cs t (0, 0))) (hne : e ≠ t) {a0 a1 a2 : Value} (hcs : cs = #[a0, a1, a2]) (v0 v1 v2 : Value) : (((w.setCell ⟨g, 0, none⟩ v0).setCell ⟨g, 1, none⟩ v1).setCell ⟨g, 2, none⟩ v2).ownsRow B e size v n xs := by
  subst hcs
  exact own_set_far (own_set_far (own_set_far h hb hne _ _) (heap_set1 hb) hne _ _) (heap_set2 hb) hne _ _
/-- The act that answers nothing. -/
theorem runNil_c (v : Value) (s : Value) (w : World) (ra rn rc : _) (kk : Int) (da dn dc : _) (nm : List UInt8) (hv : v = .agg #[.slice ra rn rc, .int .i64 kk, .slice da dn dc]) (hs : s = .string ⟨(nm).toArray⟩) :
    Calls Tryz.prog 65 #[v, s] w fun e w' => e = .returned (.slice none 0 0) ∧ X w w' := by
  subst hv hs
  go_enter Tryz.func65, Tryz.ntmps65
  go_wp2
  go_ret
  exact ⟨by simp, by (repeat (first | with_reducible exact X.refl _ | with_reducible assumption | with_reducible refine X.setCell ?_ (by first | (simp; done) | (simp; omega)) _ | with_reducible refine X.ext ?_ _ | with_reducible refine X.alloc ?_ _ | with_reducible refine X.drew ?_))⟩
def runNil : Value := .func (.func 65) #[] #[]
theorem dk_lit (W : World) (cs : Array Value) : DkO (((W.alloc (.cells #[] 44)).alloc (.cells #[] 140)).alloc (.cells cs 38)) W.heap.size (.agg #[.slice (some ⟨W.heap.size, 0, none⟩) 0 0, .int .i64 0, .slice (some ⟨W.heap.size + 1, 0, none⟩) 0 0]) [] 0 [] := by
  have h1 : (W.alloc (.cells #[] 44)).ownsRow W.heap.size 44 6 (.slice (some ⟨W.heap.size, 0, none⟩) 0 0) 0 [] := own_lit rfl (Nat.le_refl _) rfl (by omega)
  have h2 : ((W.alloc (.cells #[] 44)).alloc (.cells #[] 140)).ownsRow (W.heap.size + 1) 140 4 (.slice (some ⟨W.heap.size + 1, 0, none⟩) 0 0) 0 [] := own_lit (by simp) (by simp) rfl (by omega)
  refine ⟨_, _, _, _, W.heap.size + 1, rfl, by omega, by simp, ?_, ?_⟩
  · refine ⟨[], rfl, rfl, own_fr h1 (X.fr (((X.refl _).alloc _).alloc _) _), List.Pairwise.nil, (fun _ h => by cases h), (fun b hb => ?_), (fun _ h => by cases h)⟩
    have : W.heap.size = b := by simpa [Value.ownBlock] using hb
    omega
  · exact ⟨[], rfl, rfl, own_fr h2 (X.fr ((X.refl _).alloc _) _), List.Pairwise.nil, fun _ h => by cases h⟩
/-- What the walk leaves. -/
def WkP (w w' : World) (t : Int) (l : List Ac) (n : Nat) (e : Ending) : Prop :=
  ∃ v u, e = .returned (.tuple #[v, u]) ∧ DkO w' w.heap.size v (aftD t l n).l (aftD t l n).kk (aftD t l n).dl ∧ X w w'
set_option maxRecDepth 100000 in
set_option maxHeartbeats 8000000 in
theorem walk_c (l : List Ac) (a : Option Addr) (n c B : Nat) (t : Int) (w : World) (hA : ActsAt w B a n l) (hn : n ≤ 20) (ht0 : 0 ≤ t) (ht4 : t ≤ 4) (hG : Gm w) :
    Calls Tryz.prog 64 #[.slice a n c, .int .i64 t, runNil] w fun e w' => WkP w w' t l n e := by
  have Hnl := Lib.hid hA.len.1
  unfold runNil
  go_enter Tryz.func64, Tryz.ntmps64
  go_upto_region 1 with fail
  refine wp_name (fun W0 hW0 => ?_)
  have hR0 : Td W0 w.heap.size #[.slice none 0 0, .int .i64 0, .slice none 0 0] := by rw [hW0]; exact Td.new _ _ rfl
  have hX0 : X w W0 := by rw [hW0]; (repeat (first | with_reducible exact X.refl _ | with_reducible assumption | with_reducible refine X.setCell ?_ (by first | (simp; done) | (simp; omega)) _ | with_reducible refine X.ext ?_ _ | with_reducible refine X.alloc ?_ _ | with_reducible refine X.drew ?_))
  have hz0 : W0.heap.size = w.heap.size + 1 := by rw [hW0]; simp
  clear hW0
  have Hz0 := Lib.hid hz0
  clear hz0
  go_upto_region 2 with fail
  refine wp_name (fun W2 hW2 => ?_)
  have hB2 : Td W2 (W0.heap.size + 1 + 1) #[.slice (some ⟨W0.heap.size, 0, none⟩) 0 0, .int .i64 0, .slice (some ⟨W0.heap.size + 1, 0, none⟩) 0 0] := by rw [hW2]; exact Td.new _ _ (by simp)
  have hD2 : DkO W2 W0.heap.size (.agg #[.slice (some ⟨W0.heap.size, 0, none⟩) 0 0, .int .i64 0, .slice (some ⟨W0.heap.size + 1, 0, none⟩) 0 0]) [] 0 [] := by rw [hW2]; exact dk_lit _ _
  have hX2 : X W0 W2 := by rw [hW2]; (repeat (first | with_reducible exact X.refl _ | with_reducible assumption | with_reducible refine X.setCell ?_ (by first | (simp; done) | (simp; omega)) _ | with_reducible refine X.ext ?_ _ | with_reducible refine X.alloc ?_ _ | with_reducible refine X.drew ?_))
  have hs2 : W2.heap.size = W0.heap.size + 3 := by rw [hW2]; simp
  clear hW2
  have Hs2 := Lib.hid hs2
  clear hs2
  go_upto_region 3 with fail
  refine wp_name (fun W3 hW3 => ?_)
  have hO3 : W3.ownsRow W0.heap.size 75 1 (.slice (some ⟨W2.heap.size, 0, none⟩) 0 0) 0 [] := by rw [hW3]; exact own_lit rfl hX2.size rfl (by omega)
  have hX3 : X W2 W3 := by rw [hW3]; (repeat (first | with_reducible exact X.refl _ | with_reducible assumption | with_reducible refine X.setCell ?_ (by first | (simp; done) | (simp; omega)) _ | with_reducible refine X.ext ?_ _ | with_reducible refine X.alloc ?_ _ | with_reducible refine X.drew ?_))
  clear hW3
  have hX03 := hX0.trans (hX2.trans hX3)
  obtain ⟨b8, hb8⟩ : ∃ b8, b8 = W0.heap.size + 1 + 1 := ⟨_, rfl⟩
  rw [← hb8] at hB2 ⊢
  have Hb8 := Lib.hid hb8
  clear hb8
  go_wp2
  go_loopw [9, 11, 12, 13, 21] (fun o _ _ _ i wr => ∃ k : Nat, k ≤ n ∧ i = .int .i64 k ∧ ∃ d fa fc da dc, d = aftD t l k ∧ Td wr b8 #[.slice fa d.l.length fc, .int .i64 d.kk, .slice da d.dl.length dc] ∧ Td wr w.heap.size #[.slice none 0 0, .int .i64 0, .slice none 0 0] ∧ DkO wr W0.heap.size (.agg #[.slice fa d.l.length fc, .int .i64 d.kk, .slice da d.dl.length dc]) d.l d.kk d.dl ∧ DkI d k ∧ X w wr ∧ ∃ oa oc ys, o = .slice oa k oc ∧ wr.ownsRow W0.heap.size 75 1 (.slice oa k oc) k ys ∧ W0.heap.size ≤ wr.heap.size) (fun _ _ _ _ i _ => n - (intOf i).toNat)
  case atStart => exact ⟨0, by omega, rfl, dk0, _, _, _, _, rfl, hB2.x hX3, (hR0.x hX2).x hX3, hD2.fr (hX3.fr _), DkI.zero, hX03, _, _, _, rfl, hO3, (hX2.trans hX3).size⟩
  case round =>
    obtain ⟨k, hk, rfl, d, fa, fc, da, dc, hd, hB8, hR8, hDk, hI, hX, oa, oc, ys, rfl, hO, hzr⟩ := hrel
    replace hd := Lib.hid hd
    by_cases hlt : k < n
    · obtain ⟨b, off, ba, bn, bc, rfl, _, hb, hok, _, hS, g0, g1, g2, g3, g4, g5, g6, g7, g8⟩ := (hA.mono (hX.fr _)).at_ hlt
      have hk1 : (k : Int) < (n : Int) := by omega
      have hnx := Lib.hid (show aftD t l (k + 1) = stepD t d (nth l k) by rw [hd.out]; exact aftD_next (by have := Hnl.out; omega))
      have hk20 : k < 20 := by omega
      go_upto_region 6 with fail
      refine wp_name (fun W9 hW9 => ?_)
      have hA9 : Bx W9 wr.heap.size (#[.int .i64 ((nth l k)).kind, .int .i64 ((nth l k)).file.root, .string ⟨((nth l k)).file.pkg.toArray⟩, .string ⟨((nth l k)).file.name.toArray⟩, .bool ((nth l k)).file.init, .int .i64 ((nth l k)).file.stamp, .slice ba bn bc, .int .i64 ((nth l k)).idx, .string ⟨((nth l k)).name.toArray⟩]) := by rw [hW9]; exact Bx.new _ _ _
      have hx9 : X wr W9 := by rw [hW9]; (repeat (first | with_reducible exact X.refl _ | with_reducible assumption | with_reducible refine X.setCell ?_ (by first | (simp; done) | (simp; omega)) _ | with_reducible refine X.ext ?_ _ | with_reducible refine X.alloc ?_ _ | with_reducible refine X.drew ?_))
      clear hW9 g0 g1 g2 g3 g4 g5 g6 g7 g8
      have hX9 := hX.trans hx9
      have hS9 := hS.mono (hx9.fr _)
      have hB9 := hB8.x hx9
      have hD9 := hDk.fr (hx9.fr _)
      have hO9 := own_fr hO (hx9.fr _)
      have hs9 := hx9.size
      obtain ⟨lta, ca, _⟩ := hA9.out
      have c0 := ca 0
      have c1 := ca 1
      have c2 := ca 2
      have c3 := ca 3
      have c4 := ca 4
      have c5 := ca 5
      have c6 := ca 6
      have c7 := ca 7
      have c8 := ca 8
      obtain ⟨ltd, cd, _⟩ := hB9.bx.out
      have d0 := cd 0
      have d1 := cd 1
      have d2 := cd 2
      clear ca cd
      by_cases h3 : (nth l k).kind = 3
      · go_wp2_with fail
        refine (runNil_c _ _ W9 fa d.l.length fc d.kk da d.dl.length dc (nth l k).name rfl rfl).mono ?_
        rintro _ w10 ⟨rfl, hx10⟩
        have hO10 := own_fr hO9 (hx10.fr _)
        have hs10 := hx10.size
        clear d0 d1 d2 ltd c0 c1 c2 c3 c4 c5 c6 c7 c8 lta
        go_wp2_with (at_builtin; refine wpList_append_g outs_T rfl _ _ rfl hO10 rfl rfl (by simp) rfl (by simp [Value.oneCell']) (by omega) (by omega) (by first | omega | (simp; omega)) ?_; intro oa2 oc2 w13 hO13 hg13)
        go_roundw
        case rel =>
          have hX11 : X W9 (w10.alloc (.cells #[.slice none 0 0] 75)) := hx10.alloc _
          have hO11 := own_fr hO9 (hX11.fr _)
          exact ⟨k + 1, by omega, by go_num, d, fa, fc, da, dc, by rw [hnx.out, step_3 h3], (hB9.x hX11).own hg13 hO11 (by decide), ((hR8.x hx9).x hX11).own hg13 hO11 (by decide), (hD9.fr (hX11.fr _)).own hg13 hO11 (by decide) (by decide) (by decide) (by decide), hI.up, X.of_below ((hX9.trans hX11).below.grown hg13 (hX9.trans hX11).size (fun g hg => by have := (hO11.lt g hg).1; have := hX0.size; omega)), oa2, oc2, _, rfl, hO13, by have := hg13.size; have := hX11.size; omega⟩
        case measure => simp [intOf]; omega
      obtain ⟨bb, hbb⟩ : ∃ bb, chgB d (nth l k) t = bb := ⟨_, rfl⟩
      obtain ⟨R, hR⟩ : ∃ R, chgR d (nth l k) t = R := ⟨_, rfl⟩
      have hchg : Calls Tryz.prog 118 #[.agg #[.slice fa d.l.length fc, .int .i64 d.kk, .slice da d.dl.length dc], .agg #[.int .i64 ((nth l k)).kind, .int .i64 ((nth l k)).file.root, .string ⟨((nth l k)).file.pkg.toArray⟩, .string ⟨((nth l k)).file.name.toArray⟩, .bool ((nth l k)).file.init, .int .i64 ((nth l k)).file.stamp, .slice ba bn bc, .int .i64 ((nth l k)).idx, .string ⟨((nth l k)).name.toArray⟩], .int .i64 t] W9 fun e w' => ∃ ya yc yda ydc, e = .returned (.tuple #[.agg #[.slice ya R.l.length yc, .int .i64 R.kk, .slice yda R.dl.length ydc], .bool bb]) ∧ DkO w' W9.heap.size (.agg #[.slice ya R.l.length yc, .int .i64 R.kk, .slice yda R.dl.length ydc]) R.l R.kk R.dl ∧ X W9 w' := by
        obtain ⟨fa', fc', da', dc', E1, e, e1, e2, hFE, hDO⟩ := hD9
        obtain ⟨⟨rfl, rfl⟩, rfl, rfl⟩ : (fa = fa' ∧ fc = fc') ∧ da = da' ∧ dc = dc' := by simpa using e
        have i1 := hI.ll
        have i2 := hI.kk
        have hnc : d.l.length ≤ fc := by obtain ⟨_, _, _, hr, _⟩ := hFE; exact own_cap hr
        have hdc : d.dl.length ≤ dc := by obtain ⟨_, _, _, hr, _⟩ := hDO; exact own_cap hr
        refine (change_i d.l fa _ fc d.kk d.dl da _ dc W0.heap.size (nth l k) ba bn bc B t W9 (hFE.o.at hI.okl) ((hDO.less e1).at hI.okd) (by omega) hI.ok hI.k0 (by omega) ht0 ht4 hok.1 hS9 hnc hdc (hG.mono hX9)).mono ?_
        rintro _ w' ⟨_, rfl, hO, hx⟩
        obtain ⟨ya, yc, yda, ydc, E2, rfl, hO2⟩ := id hO
        have hbb2 : chgB ⟨d.l, d.kk, d.dl⟩ (nth l k) t = bb := hbb
        have hR2 : chgR ⟨d.l, d.kk, d.dl⟩ (nth l k) t = R := hR
        rw [hR2] at hO ⊢
        rw [hbb2]
        exact ⟨_, _, _, _, rfl, hO, hx⟩
      have Hbb := Lib.hid hbb
      have HR := Lib.hid hR
      clear hbb hR
      go_wp2_with fail
      refine hchg.mono ?_
      rintro _ w10 ⟨ya, yc, yda, ydc, rfl, hY, hx10⟩
      clear hchg d0 d1 d2 ltd c0 c1 c2 c3 c4 c5 c6 c7 c8 lta
      go_upto_region 9 with fail
      refine wp_name (fun W11 hW11 => ?_)
      have hB12 : Td W11 w10.heap.size #[.slice ya R.l.length yc, .int .i64 R.kk, .slice yda R.dl.length ydc] := by rw [hW11]; exact Td.new _ _ rfl
      have hx11 : X w10 W11 := by rw [hW11]; (repeat (first | with_reducible exact X.refl _ | with_reducible assumption | with_reducible refine X.setCell ?_ (by first | (simp; done) | (simp; omega)) _ | with_reducible refine X.ext ?_ _ | with_reducible refine X.alloc ?_ _ | with_reducible refine X.drew ?_))
      clear hW11
      have hx := hx10.trans hx11
      have hX11 := hX9.trans hx
      have hO11 := own_fr hO9 (hx.fr _)
      have hB11 := hB9.x hx
      have hR11 := (hR8.x hx9).x hx
      have hs10 := hx10.size
      have hs11 := hx11.size
      cases hbv : bb
      · have hst := step_n h3 (Hbb.out.trans hbv)
        go_wp2_with (at_builtin; refine wpList_append_g outs_T rfl _ _ rfl (own_fr hO11 (X.fr ((X.refl _).alloc _) _)) rfl rfl (by simp) rfl (by simp [Value.oneCell']) (by omega) (by omega) (by first | omega | (simp; omega)) ?_; intro oa2 oc2 w13 hO13 hg13)
        go_roundw
        case rel =>
          have hX12 : X W11 ((W11.alloc (.cells #[.int .i64 0] 3)).alloc (.cells #[.slice (some ⟨W11.heap.size, 0, none⟩) 1 1] 75)) := ((X.refl _).alloc _).alloc _
          have hO12 := own_fr hO11 (hX12.fr _)
          exact ⟨k + 1, by omega, by go_num, d, fa, fc, da, dc, by rw [hnx.out, hst], (hB11.x hX12).own hg13 hO12 (by decide), (hR11.x hX12).own hg13 hO12 (by decide), ((hD9.fr (hx.fr _)).fr (hX12.fr _)).own hg13 hO12 (by decide) (by decide) (by decide) (by decide), hI.up, X.of_below ((hX11.trans hX12).below.grown hg13 (hX11.trans hX12).size (fun g hg => by have := (hO12.lt g hg).1; have := hX0.size; omega)), oa2, oc2, _, rfl, hO13, by have := hg13.size; have := hX12.size; omega⟩
        case measure => simp [intOf]; omega
      · have hcc := Hbb.out.trans hbv
        have hst := step_c h3 hcc
        have hR2 := Lib.hid (show R = chgD d (nth l k) t from HR.out.symm.trans (chgR_c hcc))
        obtain ⟨ltg, cg, _⟩ := hB12.bx.out
        have g0 := cg 0
        have g1 := cg 1
        have g2 := cg 2
        obtain ⟨ltr, cr, fr⟩ := hB11.bx.out
        have r0 := cr 0
        have r1 := cr 1
        have r2 := cr 2
        have fr0 := fr 0
        have fr1 := fr 1
        have fr2 := fr 2
        have hl8 : b8 < W9.heap.size := hB9.bx.out.1
        have hg8 : w.heap.size ≤ b8 := by have := Hb8.out; have := hX0.size; omega
        have hn8 : w.heap.size ≠ b8 := by have := Hb8.out; have := Hz0.out; omega
        clear cg cr fr
        go_upto_region 11 with fail
        refine wp_name (fun W12 hW12 => ?_)
        have hB12 : Td W12 b8 #[.slice ya R.l.length yc, .int .i64 R.kk, .slice yda R.dl.length ydc] := by rw [hW12]; exact hB11.set3 _ _ _
        have hR12 : Td W12 w.heap.size #[.slice none 0 0, .int .i64 0, .slice none 0 0] := by rw [hW12]; exact hR11.far3 hn8 _ _ _
        have hO12 : W12.ownsRow W0.heap.size 75 1 (.slice oa k oc) k ys := by rw [hW12]; exact own_far3 hO11 hB11 (by decide) rfl _ _ _
        have hD12 : DkO W12 W9.heap.size (.agg #[.slice ya R.l.length yc, .int .i64 R.kk, .slice yda R.dl.length ydc]) R.l R.kk R.dl := by rw [hW12]; exact (hY.fr (hx11.fr _)).fr (fr_set3 hl8 _ _ _)
        have hX12 : X w W12 := by rw [hW12]; exact x_set3 (b := b8) hX11 hg8 _ _ _
        have hs12 : W12.heap.size = W11.heap.size := by rw [hW12]; simp
        clear hW12 g0 g1 g2 ltg r0 r1 r2 fr0 fr1 fr2 ltr
        have Hs12 := Lib.hid hs12
        clear hs12
        go_wp2_with (at_builtin; refine wpList_append_g outs_T rfl _ _ rfl (own_fr hO12 (X.fr ((X.refl _).alloc _) _)) rfl rfl (by simp) rfl (by simp [Value.oneCell']) (by omega) (by omega) (by have := Hs12.out; first | omega | (simp; omega)) ?_; intro oa2 oc2 w13 hO13 hg13)
        go_roundw
        case rel =>
          have hX13 : X W12 ((W12.alloc (.cells #[.int .i64 1] 3)).alloc (.cells #[.slice (some ⟨W12.heap.size, 0, none⟩) 1 1] 75)) := ((X.refl _).alloc _).alloc _
          have hO14 := own_fr hO12 (hX13.fr _)
          exact ⟨k + 1, by omega, by go_num, R, ya, yc, yda, ydc, by rw [hnx.out, hst, hR2.out], (hB12.x hX13).own hg13 hO14 (by decide), (hR12.x hX13).own hg13 hO14 (by decide), ((hD12.less (by omega)).fr (hX13.fr _)).own hg13 hO14 (by decide) (by decide) (by decide) (by decide), by rw [hR2.out]; exact hI.chg hok.1 (by have := hS.1; have := hS.2.1; omega) hS.2.2.1 (by omega) ht0 ht4 hcc, X.of_below ((hX12.trans hX13).below.grown hg13 (hX12.trans hX13).size (fun g hg => by have := (hO14.lt g hg).1; have := hX0.size; omega)), oa2, oc2, _, rfl, hO13, by have := hg13.size; have := hX13.size; have := Hs12.out; omega⟩
        case measure => simp [intOf]; omega
    · have hk1 : ¬ (k : Int) < (n : Int) := by omega
      obtain rfl : k = n := by omega
      obtain ⟨ltg, cg, _⟩ := hB8.bx.out
      have g0 := cg 0
      have g1 := cg 1
      have g2 := cg 2
      obtain ⟨ltr, cr, fr⟩ := hR8.bx.out
      have r0 := cr 0
      have r1 := cr 1
      have r2 := cr 2
      have fr0 := fr 0
      have fr1 := fr 1
      have fr2 := fr 2
      clear cg cr fr
      go_wp2
      obtain ⟨_, c9, _⟩ := (hR8.set3 (.slice fa d.l.length fc) (.int .i64 d.kk) (.slice da d.dl.length dc)).bx.out
      have q0 := c9 0
      have q1 := c9 1
      have q2 := c9 2
      clear c9
      refine bodyPost_ret (v := .tuple #[.agg #[.slice fa d.l.length fc, .int .i64 d.kk, .slice da d.dl.length dc], .slice oa k oc]) (by simp [results, Tryz.results64, go_sem, Result.andThen, q0, q1, q2]) rfl ?_
      obtain ⟨j1, j2⟩ := dk_end (b := w.heap.size) hX (Nat.le_refl _) (by have := Hz0.out; omega) hDk
      unfold WkP
      rw [← hd.out]
      exact ⟨_, _, rfl, j1, j2⟩
theorem actsOk_c (l : List Ac) (a : Option Addr) (n c B : Nat) (t : Int) (w : World) (hA : ActsAt w B a n l) (hG : Gm w) :
    Calls Tryz.prog 63 #[.slice a n c, .int .i64 t] w fun e w' => e = .returned (.bool (aftB t l)) ∧ X w w' := by
  go_enter Tryz.func63, Tryz.ntmps63
  go_wp2_with fail
  refine (ValidActs_i l a n c B w hA hG).mono ?_
  rintro _ w1 ⟨rfl, hx1⟩
  cases h1 : actsB l
  · go_wp2
    go_ret
    exact ⟨by simp [aftB, h1], hx1⟩
  · go_wp2_with (go_at_call 80; refine (within_c t 0 4 _).mono ?_; rintro _ _ ⟨rfl, rfl⟩)
    go_ret
    exact ⟨by simp [aftB, h1], hx1⟩
set_option maxRecDepth 100000 in
set_option maxHeartbeats 4000000 in
theorem DiskAfter_i (l : List Ac) (a : Option Addr) (n c B : Nat) (t : Int) (w : World) (hA : ActsAt w B a n l) (hG : Gm w) :
    Calls Tryz.prog 24 #[.slice a n c, .int .i64 t] w fun e w' => DaP w w' t l e := by
  go_enter Tryz.func24, Tryz.ntmps24
  go_upto_region 1 with fail
  refine wp_name (fun W0 hW0 => ?_)
  have hR0 : Bx W0 w.heap.size #[.slice none 0 0, .int .i64 0, .slice none 0 0] := by rw [hW0]; exact Bx.new _ _ _
  have hX0 : X w W0 := by rw [hW0]; (repeat (first | with_reducible exact X.refl _ | with_reducible assumption | with_reducible refine X.setCell ?_ (by first | (simp; done) | (simp; omega)) _ | with_reducible refine X.ext ?_ _ | with_reducible refine X.alloc ?_ _ | with_reducible refine X.drew ?_))
  have hz0 : W0.heap.size = w.heap.size + 1 := by rw [hW0]; simp
  clear hW0
  have Hz0 := Lib.hid hz0
  clear hz0
  go_wp2_with fail
  refine (actsOk_c l a n c B t W0 (hA.mono (hX0.fr _)) (hG.mono hX0)).mono ?_
  rintro _ w1 ⟨rfl, hx1⟩
  have hR1 := hR0.x hx1
  have hX1 := hX0.trans hx1
  cases h1 : aftB t l
  · obtain ⟨ltr, cr, fr⟩ := hR1.out
    have r0 := cr 0
    have r1 := cr 1
    have r2 := cr 2
    have fr0 := fr 0
    have fr1 := fr 1
    have fr2 := fr 2
    clear cr fr
    go_wp2
    obtain ⟨_, c9, _⟩ := (Bx.set (Bx.set (Bx.set hR1 0 (.slice none 0 0)) 1 (.int .i64 0)) 2 (.slice none 0 0)).out
    have q0 := c9 0
    have q1 := c9 1
    have q2 := c9 2
    clear c9
    refine bodyPost_ret (v := .agg #[.slice none 0 0, .int .i64 0, .slice none 0 0]) (by simp [results, Tryz.results24, go_sem, Result.andThen, q0, q1, q2]) rfl ?_
    exact DaP.zero0 h1 hX1
  have h1a := h1
  unfold aftB at h1a
  obtain ⟨ha, ht⟩ := Bool.and_eq_true _ _ ▸ h1a
  obtain ⟨ht0, ht4⟩ := rangeB_iff.1 ht
  have hn20 := acts_20 ha
  have hnl := hA.len.1
  have Hn := Lib.hid (And.intro hnl hn20)
  have Haf := Lib.hid h1
  clear hnl hn20 ha ht h1a h1
  go_wp2_with fail
  refine (walk_c l a n c B t w1 (hA.mono (hX1.fr _)) (by have := Hn.out; omega) ht0 ht4 (hG.mono hX1)).mono ?_
  rintro _ w2 ⟨_, u, rfl, hDk, hx2⟩
  have haf : aftR t l = aftD t l n := by rw [aftR, if_pos Haf.out, ← aftD_all, Hn.out.1]
  rw [← haf] at hDk
  clear haf
  obtain ⟨ya, yc, yda, ydc, E2, rfl, hO2⟩ := id hDk
  have hs1 := hX1.size
  have hsb := hR1.out.1
  go_upto_region 4 with fail
  refine wp_name (fun W3 hW3 => ?_)
  have hB3 : Bx W3 w2.heap.size #[.slice ya (aftR t l).l.length yc, .int .i64 (aftR t l).kk, .slice yda (aftR t l).dl.length ydc] := by rw [hW3]; exact Bx.new _ _ _
  have hx3 : X w2 W3 := by rw [hW3]; (repeat (first | with_reducible exact X.refl _ | with_reducible assumption | with_reducible refine X.setCell ?_ (by first | (simp; done) | (simp; omega)) _ | with_reducible refine X.ext ?_ _ | with_reducible refine X.alloc ?_ _ | with_reducible refine X.drew ?_))
  clear hW3
  have hR3 := (hR1.x hx2).x hx3
  obtain ⟨ltg, cg, _⟩ := hB3.out
  have g0 := cg 0
  have g1 := cg 1
  have g2 := cg 2
  obtain ⟨ltr, cr, fr⟩ := hR3.out
  have r0 := cr 0
  have r1 := cr 1
  have r2 := cr 2
  have fr0 := fr 0
  have fr1 := fr 1
  have fr2 := fr 2
  clear cg cr fr
  go_wp2
  obtain ⟨_, c9, _⟩ := (bx_set3 hR3 (.slice ya (aftR t l).l.length yc) (.int .i64 (aftR t l).kk) (.slice yda (aftR t l).dl.length ydc)).out
  have q0 := c9 0
  have q1 := c9 1
  have q2 := c9 2
  clear c9
  refine bodyPost_ret (v := .agg #[.slice ya (aftR t l).l.length yc, .int .i64 (aftR t l).kk, .slice yda (aftR t l).dl.length ydc]) (by simp [results, Tryz.results24, go_sem, Result.andThen, q0, q1, q2]) rfl ?_
  obtain ⟨j1, j2⟩ := dk_end (b := w.heap.size) ((hX1.trans hx2).trans hx3) (Nat.le_refl _) hsb (hDk.fr (hx3.fr _))
  exact ⟨_, rfl, j1, j2⟩

end Go.Proofs.YtgjfjjhmgbemcaaGreatDoor
