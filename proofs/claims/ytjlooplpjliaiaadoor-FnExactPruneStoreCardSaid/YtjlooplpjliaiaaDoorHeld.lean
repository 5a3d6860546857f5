/- The laws' own reading of marks in bodies and files: the walks. No condition but sizes. -/
import Derived.Test.YtjlooplpjliaiaaDoorMkF
namespace Go.Proofs.YtjlooplpjliaiaaDoor
open Go.RowKit

theorem stsM_at {w : World} {B n k j : Nat} {a : Option Addr} (h : Sl w B a n ((stsM k n).flatMap scells)) (hj : j < n) :
    ∃ b off, a = some ⟨b, off, none⟩ ∧ b < w.heap.size ∧ w.cell? ⟨b, off + j * 5, none⟩ = some (.int .i64 ((k + 5 * j : Nat) : Int)) ∧ w.cell? ⟨b, off + j * 5 + 1, none⟩ = some (.string ⟨(mtxt (k + 5 * j + 1)).toArray⟩) ∧
      w.cell? ⟨b, off + j * 5 + 2, none⟩ = some (.int .i64 ((k + 5 * j + 2 : Nat) : Int)) ∧ w.cell? ⟨b, off + j * 5 + 3, none⟩ = some (.string ⟨(mtxt (k + 5 * j + 3)).toArray⟩) ∧ w.cell? ⟨b, off + j * 5 + 4, none⟩ = some (.int .i64 ((k + 5 * j + 4 : Nat) : Int)) := by
  obtain ⟨b, off, ha, _, hb, hc⟩ := h.elem (s := 5) (fun _ => rfl) stsM_len.symm hj
  rw [stsM_nth hj] at hc
  exact ⟨b, off, ha, hb, hc 0 (by omega), hc 1 (by omega), hc 2 (by omega), hc 3 (by omega), hc 4 (by omega)⟩

set_option maxRecDepth 100000 in
set_option maxHeartbeats 2000000 in
theorem heldStmtS_c (a : Option Addr) (n c B k : Nat) (w : World) (hS : Sl w B a n ((stsM k n).flatMap scells)) (hn : n ≤ 1073741824) (hk : k ≤ 1073741824) :
    Calls Tryd.prog 26 #[.slice a n c, .int .i64 (k : Int)] w fun e w' => e = .returned (.int .i64 ((k + 5 * n : Nat) : Int)) ∧ X w w' := by
  go_enter Tryd.func26, Tryd.ntmps26
  go_wp2
  go_loopw [1, 5] (fun v i wr => ∃ (j q : Nat) (x : Xt), j ≤ n ∧ i = .int .i64 j ∧ v = .int .i64 (q : Int) ∧ q = k + 5 * j ∧ wr = World.ext w x) (fun _ i _ => n - (intOf i).toNat)
  case atStart => exact ⟨0, k, _, Nat.zero_le _, rfl, rfl, rfl, (World.ext_refl w).symm⟩
  case round =>
    obtain ⟨j, q, x, hj, rfl, rfl, hq, rfl⟩ := hrel
    by_cases hlt : j < n
    · obtain ⟨b, off, rfl, hb, g0, g1, g2, g3, g4⟩ := stsM_at hS hlt
      rw [← hq] at g0 g1 g2 g3 g4
      have hqb : q ≤ 6442450944 := by omega
      have Hq := Lib.hid hq
      clear hq
      have e2 : ((q + 2 : Nat) : Int) = (q : Int) + 1 + 1 := by omega
      have e4 : ((q + 4 : Nat) : Int) = (q : Int) + 1 + 1 + 1 + 1 := by omega
      rw [e2] at g2
      rw [e4] at g4
      clear e2 e4
      go_wp2
      refine wp_region_grow (by kernel_rfl) (by kernel_rfl) ?_
      repeat (go_big_quiet_step (((go_at_call 45; refine grow_of (markText_v (q + 1) _ _ (by omega) (by omega))))))
      refine wpQuiet_nil ?_
      rintro _ ⟨y, rfl⟩
      go_wp2
      refine wp_region_grow (by kernel_rfl) (by kernel_rfl) ?_
      repeat (go_big_quiet_step (((go_at_call 45; refine grow_of (markText_v (q + 3) _ _ (by omega) (by omega))))))
      refine wpQuiet_nil ?_
      rintro _ ⟨y, rfl⟩
      go_wp2
      go_roundw
      case rel => exact ⟨j + 1, q + 5, _, by omega, by go_num, by go_num, by have := Hq.out; omega, rfl⟩
      case measure => simp [intOf]; omega
    · obtain rfl : j = n := by omega
      go_wp2
      go_ret
      exact ⟨ret_intW (by omega), by (repeat (first | exact X.refl _ | assumption | refine X.ext ?_ _ | refine X.alloc ?_ _ | refine X.drew ?_))⟩

theorem heldStmtS_v (a : Option Addr) (n c B k : Nat) (v : Int) (w : World) (hv : v = (k : Int)) (hS : Sl w B a n ((stsM k n).flatMap scells)) (hn : n ≤ 1073741824) (hk : k ≤ 1073741824) :
    Calls Tryd.prog 26 #[.slice a n c, .int .i64 v] w fun e w' => e = .returned (.int .i64 ((k + 5 * n : Nat) : Int)) ∧ X w w' := by
  subst hv
  exact heldStmtS_c a n c B k w hS hn hk
theorem marks_at {w : World} {B n c k j : Nat} {a : Option Addr} {l : List Fi} (h : FilesO w B a n c (marksF k l)) (hj : j < n) :
    ∃ b off ba bc, a = some ⟨b, off, none⟩ ∧ b < w.heap.size ∧ Sl w B ba (nth l j).body.length ((stsM (k + wtF (l.take j) + 5) (nth l j).body.length).flatMap scells) ∧
      w.cell? ⟨b, off + j * 6, none⟩ = some (.int .i64 ((k + wtF (l.take j) : Nat) : Int)) ∧ w.cell? ⟨b, off + j * 6 + 1, none⟩ = some (.string ⟨(mtxt (k + wtF (l.take j) + 1)).toArray⟩) ∧ w.cell? ⟨b, off + j * 6 + 2, none⟩ = some (.string ⟨(mtxt (k + wtF (l.take j) + 2)).toArray⟩) ∧
      w.cell? ⟨b, off + j * 6 + 3, none⟩ = some (.bool (decide ((k + wtF (l.take j) + 3) % 3 = 0))) ∧ w.cell? ⟨b, off + j * 6 + 4, none⟩ = some (.int .i64 ((k + wtF (l.take j) + 4 : Nat) : Int)) ∧ w.cell? ⟨b, off + j * 6 + 5, none⟩ = some (.slice ba (nth l j).body.length bc) := by
  obtain ⟨vs, e, h1, h2, _, h3⟩ := h
  have hvl : vs.length = n := by rw [h1, e, List.length_map]
  have hll : n = l.length := by rw [h1, marksF_len]
  obtain ⟨b, off, ha, _, hb, hc⟩ := (Sl.of_own h2).elem (s := 6) (fun _ => rfl) hvl.symm hj
  obtain ⟨ba, bc, e2, ho⟩ := h3 _ (nth_mem (l := vs) (k := j) (by omega))
  have hf : (nth vs j).1 = fiM (k + wtF (l.take j)) (nth l j) := by rw [← nth_map_fst (by omega), ← e, marksF_nth l k j (by omega)]
  have hbl : (nth vs j).1.body.length = (nth l j).body.length := by rw [hf]; exact stsM_len
  rw [hbl] at e2 ho
  have hbo : (nth vs j).1.body = stsM (k + wtF (l.take j) + 5) (nth l j).body.length := by rw [hf]; rfl
  rw [hbo] at ho
  have c0 := hc 0 (by omega)
  have c1 := hc 1 (by omega)
  have c2 := hc 2 (by omega)
  have c3 := hc 3 (by omega)
  have c4 := hc 4 (by omega)
  have c5 := hc 5 (by omega)
  simp only [fcells, hf, fiM, e2, List.getElem_cons_zero, List.getElem_cons_succ] at c0 c1 c2 c3 c4 c5
  exact ⟨b, off, ba, bc, ha, hb, Sl.of_own ho, c0, c1, c2, c3, c4, c5⟩


end Go.Proofs.YtjlooplpjliaiaaDoor
