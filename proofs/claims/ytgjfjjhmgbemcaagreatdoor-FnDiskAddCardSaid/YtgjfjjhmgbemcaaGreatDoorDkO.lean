/- Disks of the call's own; what stamps do to directories; boxes. No condition but lengths. -/
import Derived.Test.YtgjfjjhmgbemcaaGreatDoorCloneD
import Derived.Test.YtgjfjjhmgbemcaaGreatDoorDiskLaw
namespace Go.Proofs.YtgjfjjhmgbemcaaGreatDoor
open Go.RowKit

theorem x_set3 {A W : World} {b : Nat} (h : X A W) (hb : A.heap.size ≤ b) (v0 v1 v2 : Value) : X A (((W.setCell ⟨b, 0, none⟩ v0).setCell ⟨b, 1, none⟩ v1).setCell ⟨b, 2, none⟩ v2) :=
  ((h.setCell (p := ⟨b, 0, none⟩) hb v0).setCell (p := ⟨b, 1, none⟩) hb v1).setCell (p := ⟨b, 2, none⟩) hb v2
theorem heap_set1 {W : World} {b t : Nat} {a0 a1 a2 v0 : Value} (h : W.heap[b]? = some (.cells #[a0, a1, a2] t (0, 0))) : (W.setCell ⟨b, 0, none⟩ v0).heap[b]? = some (.cells #[v0, a1, a2] t (0, 0)) := by
  simpa using heap_setCell_same _ b 0 _ t v0 h
theorem heap_set2 {W : World} {b t : Nat} {a0 a1 a2 v0 v1 : Value} (h : W.heap[b]? = some (.cells #[a0, a1, a2] t (0, 0))) : ((W.setCell ⟨b, 0, none⟩ v0).setCell ⟨b, 1, none⟩ v1).heap[b]? = some (.cells #[v0, v1, a2] t (0, 0)) := by
  simpa using heap_setCell_same _ b 1 _ t v1 (heap_set1 (v0 := v0) h)
theorem heap_set3 {W : World} {b t : Nat} {a0 a1 a2 : Value} (h : W.heap[b]? = some (.cells #[a0, a1, a2] t (0, 0))) (v0 v1 v2 : Value) : (((W.setCell ⟨b, 0, none⟩ v0).setCell ⟨b, 1, none⟩ v1).setCell ⟨b, 2, none⟩ v2).heap[b]? = some (.cells #[v0, v1, v2] t (0, 0)) := by
  simpa using heap_setCell_same _ b 2 _ t v2 (heap_set2 (v0 := v0) (v1 := v1) h)
theorem bx4d {w W : World} {c1 c2 c3 c4 : Array Value} {t1 t2 t3 t4 : TypeId} (h : W = (((w.alloc (.cells c1 t1)).alloc (.cells c2 t2)).alloc (.cells c3 t3)).alloc (.cells c4 t4)) : Bx W w.heap.size c1 ∧ Bx W (w.heap.size + 1) c2 ∧ Bx W (w.heap.size + 2) c3 ∧ Bx W (w.heap.size + 3) c4 ∧ X w W := by
  obtain ⟨h1, h2, h3, hx⟩ := bx3 (w := w) (c1 := c1) (c2 := c2) (c3 := c3) (t1 := t1) (t2 := t2) (t3 := t3) rfl
  have hX : X (((w.alloc (.cells c1 t1)).alloc (.cells c2 t2)).alloc (.cells c3 t3)) W := by rw [h]; exact X.alloc (X.refl _) _
  refine ⟨h1.x hX, h2.x hX, h3.x hX, ?_, hx.trans hX⟩
  rw [h]
  have := Bx.new (((w.alloc (.cells c1 t1)).alloc (.cells c2 t2)).alloc (.cells c3 t3)) c4 t4
  simpa using this
theorem DirsO.far {w : World} {B n c b : Nat} {a : Option Addr} {l : List Di} {cs : Array Value} {t : TypeId} (h : DirsO w B a n c l) (hb : w.heap[b]? = some (.cells cs t (0, 0))) (h1 : 140 ≠ t) (h2 : 9 ≠ t) (i : Nat) (u : Value) : DirsO (w.setCell ⟨b, i, none⟩ u) B a n c l := by
  obtain ⟨vs, rfl, e, hv⟩ := h.v
  obtain ⟨k1, k2, k3⟩ := hv.far hb h1 h2 i u
  exact ⟨vs, e.symm, by rw [← e, List.length_map], k1, k2, k3⟩
theorem stamps_next {dl : List Di} {r st : Int} {ps : List (List UInt8)} {j : Nat} (hj : j < ps.length) : stampsL dl r (ps.take (j + 1)) st = stD (stampsL dl r (ps.take j) st) r (nth ps j) st := by
  unfold stampsL
  rw [take_succ_nth hj, List.foldl_append]
  rfl
theorem okD_st {dl : List Di} {r st : Int} {p : List UInt8} {m : Nat} (h : OkD dl) (hl : dl.length ≤ m) (hm : m + 1 ≤ 2097152) (hp : p.length ≤ 1048576) : OkD (stD dl r p st) ∧ (stD dl r p st).length ≤ m + 1 := by
  have hlen := stD_len dl r p st
  refine ⟨⟨by omega, fun f hf => ?_⟩, by omega⟩
  unfold stD at hf
  split at hf
  · rcases List.mem_append.1 hf with hf | hf
    · exact h.2 f hf
    · rw [List.mem_singleton.1 hf]
      exact ⟨hp, by simp, by simp⟩
  · rename_i hge
    rcases List.mem_or_eq_of_mem_set hf with hf | rfl
    · exact h.2 f hf
    · rcases didxL_cases dl r p with ⟨e, _⟩ | ⟨i, hi, e, _, _⟩
      · omega
      · rw [e, Int.toNat_natCast]
        have hm := h.2 _ (nth_mem hi)
        exact hm
theorem okD_stamps {r st : Int} : ∀ (ps : List (List UInt8)) (dl : List Di) (m : Nat), OkD dl → dl.length ≤ m → m + ps.length ≤ 2097152 → (∀ p ∈ ps, p.length ≤ 1048576) → OkD (stampsL dl r ps st) ∧ (stampsL dl r ps st).length ≤ m + ps.length
  | [], dl, m, h, hl, _, _ => ⟨h, by simpa [stampsL] using hl⟩
  | p :: ps, dl, m, h, hl, hm, hp => by
    have e : stampsL dl r (p :: ps) st = stampsL (stD dl r p st) r ps st := rfl
    rw [List.length_cons] at hm
    obtain ⟨h1, h2⟩ := okD_st (r := r) (st := st) h hl (by omega) (hp p List.mem_cons_self)
    obtain ⟨h3, h4⟩ := okD_stamps ps (stD dl r p st) (m + 1) h1 h2 (by omega) (fun q hq => hp q (List.mem_cons_of_mem _ hq))
    rw [e, List.length_cons]
    exact ⟨h3, by omega⟩
theorem paths_len {p : List UInt8} : (pathsL p).length ≤ 4 ∧ ∀ q ∈ pathsL p, q.length ≤ 12 := by
  unfold pathsL aboveP
  cases h : nameB p
  · simp
  · simp only [if_true]
    have h3 := (nameB_iff.1 h).2
    refine ⟨by rw [List.length_cons, aboveL_len]; omega, fun q hq => ?_⟩
    rcases List.mem_cons.1 hq with rfl | hq
    · simp
    · obtain ⟨i, hi, rfl⟩ := List.getElem_of_mem hq
      rw [aboveL_len] at hi
      have := aboveL_nth (s := p) hi
      rw [← nth_eq, this]
      have hl := pfx_len h (i + 1)
      omega
/-- One directory is stamped that is there; one that is not comes behind the others. -/
theorem stD_some {dl : List Di} {r st : Int} {p : List UInt8} {k : Nat} (h : didxL dl r p = (k : Int)) : stD dl r p st = dl.set k { nth dl k with stamp := st } := by
  unfold stD
  rw [h, if_neg (by omega), Int.toNat_natCast]
theorem stD_none {dl : List Di} {r st : Int} {p : List UInt8} (h : didxL dl r p = -1) : stD dl r p st = dl ++ [⟨r, p, st, []⟩] := by
  unfold stD
  rw [h, if_pos (by omega)]
/-- A disk of the call's own: its files lie before its directories. -/
def DkO (w : World) (B : Nat) (v : Value) (l : List Fi) (kk : Int) (dl : List Di) : Prop :=
  ∃ a c da dc E1, v = .agg #[.slice a l.length c, .int .i64 kk, .slice da dl.length dc] ∧ B ≤ E1 ∧ E1 ≤ w.heap.size ∧ FilesE w B E1 a l.length c l ∧ DirsO w E1 da dl.length dc dl
theorem DkO.fr {w w' : World} {B : Nat} {v : Value} {l : List Fi} {kk : Int} {dl : List Di} (h : DkO w B v l kk dl) (hx : Fr B w w') : DkO w' B v l kk dl := by
  obtain ⟨a, c, da, dc, E1, e, h1, h2, h3, h4⟩ := h
  exact ⟨a, c, da, dc, E1, e, h1, Nat.le_trans h2 hx.size, h3.fr hx, h4.fr (hx.mono h1)⟩
theorem DkO.zero (w : World) (B : Nat) (hB : B ≤ w.heap.size) : DkO w B (.agg #[.slice none 0 0, .int .i64 0, .slice none 0 0]) [] 0 [] :=
  ⟨none, 0, none, 0, w.heap.size, rfl, hB, Nat.le_refl _, (FilesO.nil w B).e, ⟨[], rfl, rfl, ⟨rfl, .inl ⟨rfl, rfl⟩⟩, List.Pairwise.nil, fun _ h => by cases h⟩⟩

end Go.Proofs.YtgjfjjhmgbemcaaGreatDoor
