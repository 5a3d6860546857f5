/- Disks behind a session's acts: what stays true of them. Plain, no program in sight. No condition but lengths. -/
import Derived.Test.YtgjfjjhmgbemcaaGreatDoorChgI
import Derived.Test.YtgjfjjhmgbemcaaGreatDoorAcV
namespace Go.Proofs.YtgjfjjhmgbemcaaGreatDoor
open Go.RowKit

def aftD (t : Int) (l : List Ac) (k : Nat) : Dk := (l.take k).foldl (stepD t) dk0
theorem aftD_zero (t : Int) (l : List Ac) : aftD t l 0 = dk0 := rfl
theorem aftD_next {t : Int} {l : List Ac} {k : Nat} (hk : k < l.length) : aftD t l (k + 1) = stepD t (aftD t l k) (nth l k) := by
  unfold aftD
  rw [take_succ_nth hk, List.foldl_append]
  rfl
theorem aftD_all (t : Int) (l : List Ac) : aftD t l l.length = afterD t l := by
  unfold aftD afterD
  rw [List.take_length]
structure DkI (d : Dk) (k : Nat) : Prop where
  ok : diskB d.l d.kk d.dl = true
  okl : OkL d.l
  ll : d.l.length ≤ k
  okd : OkD d.dl
  ld : d.dl.length ≤ 4 * k
  k0 : 0 ≤ d.kk
  kk : d.kk ≤ 4 * k
theorem DkI.zero : DkI dk0 0 := ⟨dk0_ok, ⟨by simp [dk0], fun f hf => by cases hf⟩, by simp [dk0], ⟨by simp [dk0], fun f hf => by cases hf⟩, by simp [dk0], by simp [dk0], by simp [dk0]⟩
theorem DkI.up {d : Dk} {k : Nat} (h : DkI d k) : DkI d (k + 1) := ⟨h.ok, h.okl, by have := h.ll; omega, h.okd, by have := h.ld; omega, h.k0, by have := h.kk; omega⟩
theorem chD_ok {dl : List Di} {r st : Int} {p : List UInt8} {k : Nat} (h : OkD dl) (hl : dl.length ≤ 4 * k) (hk : k ≤ 20) : OkD (chD dl r p st) ∧ (chD dl r p st).length ≤ 4 * (k + 1) := by
  obtain ⟨h4, h12⟩ := paths_len (p := p)
  obtain ⟨h1, h2⟩ := okD_stamps (r := r) (st := st) (pathsL p) dl (4 * k) h hl (by omega) (fun q hq => Nat.le_trans (h12 q hq) (by omega))
  exact ⟨h1, Nat.le_trans h2 (by omega)⟩
theorem edL_leC (l : List Fi) (i st : Int) (b : List St) : (edL l i st b).length ≤ l.length := by
  unfold edL
  split
  · rw [List.length_set]; exact Nat.le_refl _
  · simp
theorem DkI.chg {d : Dk} {k : Nat} {t : Int} {x : Ac} (h : DkI d k) (hx : Okf x.file) (hb : x.file.body.length ≤ 2097152) (hs : ∀ s ∈ x.file.body, Oks s) (hk : k ≤ 20) (h0 : 0 ≤ t) (h4 : t ≤ 4) (hc : chgB d x t = true) : DkI (chgD d x t) (k + 1) := by
  have hok := chg_ok hc
  have hkk := chg_kk d x t
  have i1 := h.ll
  have i2 := h.k0
  have i3 := h.kk
  have hL : OkL (chgD d x t).l ∧ (chgD d x t).l.length ≤ k + 1 ∧ OkD (chgD d x t).dl ∧ (chgD d x t).dl.length ≤ 4 * (k + 1) := by
    unfold chgD
    split
    · obtain ⟨c1, c2⟩ := chD_ok (r := (stF x.file (d.kk + t)).root) (st := d.kk + t) (p := (stF x.file (d.kk + t)).pkg) h.okd h.ld hk
      refine ⟨okL_snoc h.okl (by omega) hx hb hs, ?_, c1, c2⟩
      show (d.l ++ [stF x.file (d.kk + t)]).length ≤ k + 1
      rw [List.length_append]
      simp only [List.length_cons, List.length_nil]
      omega
    · split
      · obtain ⟨c1, c2⟩ := chD_ok (r := (nth d.l x.idx.toNat).root) (st := d.kk + t) (p := (nth d.l x.idx.toNat).pkg) h.okd h.ld hk
        refine ⟨h.okl.sublist (List.eraseIdx_sublist _ _), ?_, c1, c2⟩
        have := (List.eraseIdx_sublist d.l x.idx.toNat).length_le
        show (d.l.eraseIdx x.idx.toNat).length ≤ k + 1
        omega
      · refine ⟨okL_edC h.okl hb hs, ?_, h.okd, ?_⟩
        · have := edL_leC d.l x.idx (d.kk + t) x.file.body
          show (edL d.l x.idx (d.kk + t) x.file.body).length ≤ k + 1
          omega
        · have := h.ld
          show d.dl.length ≤ 4 * (k + 1)
          omega
  exact ⟨hok, hL.1, hL.2.1, hL.2.2.1, hL.2.2.2, by omega, by omega⟩
theorem step_3 {t : Int} {d : Dk} {x : Ac} (h : x.kind = 3) : stepD t d x = d := if_pos h
theorem step_c {t : Int} {d : Dk} {x : Ac} (h : ¬ x.kind = 3) (hc : chgB d x t = true) : stepD t d x = chgD d x t := by unfold stepD; rw [if_neg h, if_pos hc]
theorem step_n {t : Int} {d : Dk} {x : Ac} (h : ¬ x.kind = 3) (hc : chgB d x t = false) : stepD t d x = d := by unfold stepD; rw [if_neg h, hc]; rfl
theorem chgR_c {t : Int} {d : Dk} {x : Ac} (hc : chgB d x t = true) : chgR d x t = chgD d x t := if_pos hc
def aftB (t : Int) (l : List Ac) : Bool := actsB l && rangeB t 0 4
def aftR (t : Int) (l : List Ac) : Dk := if aftB t l = true then afterD t l else dk0
theorem acts_20 {l : List Ac} (h : actsB l = true) : l.length ≤ 20 := by
  unfold actsB at h
  have := of_decide_eq_true ((Bool.and_eq_true _ _ ▸ h).2)
  omega
theorem DkO.far {w : World} {B b : Nat} {v : Value} {l : List Fi} {kk : Int} {dl : List Di} {cs : Array Value} {t : TypeId} (h : DkO w B v l kk dl) (hb : w.heap[b]? = some (.cells cs t (0, 0))) (h1 : 44 ≠ t) (h2 : 148 ≠ t) (h3 : 140 ≠ t) (h4 : 9 ≠ t) (i : Nat) (u : Value) : DkO (w.setCell ⟨b, i, none⟩ u) B v l kk dl := by
  obtain ⟨a, c, da, dc, E1, e, k1, k2, k3, k4⟩ := h
  exact ⟨a, c, da, dc, E1, e, k1, by simpa using k2, k3.far hb h1 h2 i u, k4.far hb h3 h4 i u⟩
/-- The acts' cells, for every later world. -/
theorem ActsAt.ever {w : World} {B : Nat} {a : Option Addr} {n : Nat} {l : List Ac} (h : ActsAt w B a n l) {k : Nat} (hk : k < n) :
    ∃ b off ba bn bc, a = some ⟨b, off, none⟩ ∧ (Okf (nth l k).file ∧ (nth l k).name.length ≤ 1048576) ∧ bn ≤ bc ∧ StmtsAt w B ba bn (nth l k).file.body ∧ ∀ W, X w W →
      W.cell? ⟨b, off + k * 9, none⟩ = some (.int .i64 (nth l k).kind) ∧ W.cell? ⟨b, off + k * 9 + 1, none⟩ = some (.int .i64 (nth l k).file.root) ∧ W.cell? ⟨b, off + k * 9 + 2, none⟩ = some (.string ⟨((nth l k).file.pkg).toArray⟩) ∧ W.cell? ⟨b, off + k * 9 + 3, none⟩ = some (.string ⟨((nth l k).file.name).toArray⟩) ∧
      W.cell? ⟨b, off + k * 9 + 4, none⟩ = some (.bool (nth l k).file.init) ∧ W.cell? ⟨b, off + k * 9 + 5, none⟩ = some (.int .i64 (nth l k).file.stamp) ∧ W.cell? ⟨b, off + k * 9 + 6, none⟩ = some (.slice ba bn bc) ∧ W.cell? ⟨b, off + k * 9 + 7, none⟩ = some (.int .i64 (nth l k).idx) ∧ W.cell? ⟨b, off + k * 9 + 8, none⟩ = some (.string ⟨((nth l k).name).toArray⟩) := by
  obtain ⟨b, off, ba, bn, bc, e, _, hb, hok, hbc, hS, g0, g1, g2, g3, g4, g5, g6, g7, g8⟩ := h.at_ hk
  refine ⟨b, off, ba, bn, bc, e, hok, hbc, hS, fun W hX => ?_⟩
  exact ⟨(hX.cell hb).trans g0, (hX.cell hb).trans g1, (hX.cell hb).trans g2, (hX.cell hb).trans g3, (hX.cell hb).trans g4, (hX.cell hb).trans g5, (hX.cell hb).trans g6, (hX.cell hb).trans g7, (hX.cell hb).trans g8⟩

end Go.Proofs.YtgjfjjhmgbemcaaGreatDoor
