/- The text of a tree, the reference's: the walks. No condition but that the tree is valid. -/
import Derived.Test.YtmhcmabiolaoaaaGreatDoorMc
import Derived.Test.YtmhcmabiolaoaaaGreatDoorMb
import Derived.Deep.RegionHeld3
namespace Go.Proofs.YtmhcmabiolaoaaaGreatDoor
open Go.RowKit

theorem dig_slice (k : Nat) (h : k < 10) (w : World) : Calls Tryz.prog 85 #[.int .i64 (k : Int)] w fun e w' => e = .returned (.string ⟨([UInt8.ofNat (48 + k)]).toArray⟩) ∧ w = w' := by
  have hk : k = 0 ∨ k = 1 ∨ k = 2 ∨ k = 3 ∨ k = 4 ∨ k = 5 ∨ k = 6 ∨ k = 7 ∨ k = 8 ∨ k = 9 := by omega
  rcases hk with rfl | rfl | rfl | rfl | rfl | rfl | rfl | rfl | rfl | rfl
  all_goals
    go_enter Tryz.func85, Tryz.ntmps85
    go_wp2
    go_ret
    exact ⟨rfl, rfl⟩
theorem number_nat (k : Nat) (h : k < 100) (w : World) : Calls Tryz.prog 85 #[.int .i64 (k : Int)] w fun e w' => e = .returned (.string ⟨(Lib.decDigits k).toArray⟩) ∧ w = w' := by
  by_cases h1 : k < 10
  · rw [dec_one h1]
    exact dig_slice k h1 w
  · rw [dec_two (by omega) h, show ∀ a b : UInt8, [a, b] = [a] ++ [b] from fun _ _ => rfl]
    have hd1 := fun w => dig_slice (k / 10) (by omega) w
    have hd2 := fun w => dig_slice (k % 10) (by omega) w
    obtain ⟨A, hA, hAl⟩ : ∃ A, A = [UInt8.ofNat (48 + k / 10)] ∧ A.length = 1 := ⟨_, rfl, rfl⟩
    obtain ⟨B, hB, hBl⟩ : ∃ B, B = [UInt8.ofNat (48 + k % 10)] ∧ B.length = 1 := ⟨_, rfl, rfl⟩
    rw [← hA] at hd1 ⊢
    rw [← hB] at hd2 ⊢
    clear hA hB
    have h2 : ¬ (k : Int) < 10 := by omega
    have e1 : (k : Int) / 10 = ((k / 10 : Nat) : Int) := by omega
    have e2 : (k : Int) % 10 = ((k % 10 : Nat) : Int) := by omega
    have H1 := Lib.hid e1
    have H2 := Lib.hid e2
    clear e1 e2
    go_enter Tryz.func85, Tryz.ntmps85
    go_wp2_with fail
    rw [H1.out]
    refine (hd1 w).mono ?_
    rintro _ _ ⟨rfl, rfl⟩
    go_wp2_with fail
    rw [H2.out]
    refine (hd2 w).mono ?_
    rintro _ _ ⟨rfl, rfl⟩
    go_wp2
    go_ret
    exact ⟨by simp, rfl⟩
theorem number_c (n : Int) (w : World) (h : rangeB n 0 99 = true) : Calls Tryz.prog 85 #[.int .i64 n] w fun e w' => e = .returned (.string ⟨(decF n).toArray⟩) ∧ X w w' := by
  obtain ⟨h0, h1⟩ := rangeB_iff.1 h
  obtain ⟨k, rfl⟩ : ∃ k : Nat, n = (k : Int) := ⟨n.toNat, by omega⟩
  exact (number_nat k (by omega) w).mono fun _ _ ⟨e, h⟩ => ⟨e, h ▸ X.refl _⟩
theorem orDash_s (s : List UInt8) (w : World) : Calls Tryz.prog 86 #[.string ⟨(s).toArray⟩] w fun e w' => e = .returned (.string ⟨(dashL s).toArray⟩) ∧ X w w' := by
  cases s with
  | nil =>
    go_enter Tryz.func86, Tryz.ntmps86
    go_wp2
    go_ret
    exact ⟨rfl, X.refl _⟩
  | cons x xs =>
    go_enter Tryz.func86, Tryz.ntmps86
    go_wp2
    go_ret
    exact ⟨rfl, X.refl _⟩
set_option maxRecDepth 100000 in
set_option maxHeartbeats 1000000 in
theorem showFile_c (f : Fi) (bv : Value) (w : World) (hf : fileB f = true) : Calls Tryz.prog 57 #[.agg #[.int .i64 (f).root, .string ⟨(f).pkg.toArray⟩, .string ⟨(f).name.toArray⟩, .bool (f).init, .int .i64 (f).stamp, bv]] w fun e w' => e = .returned (.string ⟨(spJ (wordsF f)).toArray⟩) ∧ X w w' := by
  obtain ⟨h1, h2, h3, h4, h5, h6⟩ := fi_parts hf
  have hr := range_02 h1
  have l1 := decF_len hr
  have l2 := dash_len h2
  have l3 := decF_len h3
  have l4 : f.name.length ≤ 12 := by
    cases hi : f.init
    · have := (partB_len (h6 hi)).2; omega
    · rw [h5 hi]; simp
  cases hi : f.init
  all_goals
    go_enter Tryz.func57, Tryz.ntmps57
    go_wp2
    refine wp_name (fun W hW => ?_)
    have c0 : W.cell? ⟨w.heap.size, 0, none⟩ = some (.int .i64 f.root) := by rw [hW]; exact (Bx.new _ _ _).out.2.1 0
    have c1 : W.cell? ⟨w.heap.size, 1, none⟩ = some (.string ⟨(f.pkg).toArray⟩) := by rw [hW]; exact (Bx.new _ _ _).out.2.1 1
    have c4 : W.cell? ⟨w.heap.size, 4, none⟩ = some (.int .i64 f.stamp) := by rw [hW]; exact (Bx.new _ _ _).out.2.1 4
    have lb : w.heap.size < W.heap.size := by rw [hW]; simp
    have hX : X w W := by rw [hW]; (repeat (first | with_reducible exact X.refl _ | with_reducible assumption | with_reducible refine X.setCell ?_ (by first | (simp; done) | (simp; omega)) _ | with_reducible refine X.ext ?_ _ | with_reducible refine X.alloc ?_ _ | with_reducible refine X.drew ?_))
    clear hW
    refine wp_region_grow0 (by kernel_rfl) (by kernel_rfl) ?_
    repeat (go_big_quiet_step ((first | (go_at_call_of 85 f.root; refine grow_of (number_c f.root _ hr)) | (go_at_call 85; refine grow_of (number_c f.stamp _ h3)) | (go_at_call 86; refine grow_of (orDash_s f.pkg _)))))
    refine wpQuiet_nil ?_
    rintro _ ⟨y, rfl⟩
    go_wp2
    go_ret
    exact ⟨by simp [spJ, wordsF, kFile, hi], hX.trans (by (repeat (first | with_reducible exact X.refl _ | with_reducible assumption | with_reducible refine X.setCell ?_ (by first | (simp; done) | (simp; omega)) _ | with_reducible refine X.ext ?_ _ | with_reducible refine X.alloc ?_ _ | with_reducible refine X.drew ?_)))⟩

set_option maxRecDepth 100000 in
set_option maxHeartbeats 1000000 in
theorem showStmt_c (s : St) (w : World) (h : stB s = true) : Calls Tryz.prog 58 #[.agg #[.int .i64 (s).kind, .string ⟨(s).mod.toArray⟩, .int .i64 (s).level, .string ⟨(s).name.toArray⟩, .int .i64 (s).val]] w fun e w' => e = .returned (.string ⟨(spJ (wordsS s)).toArray⟩) ∧ X w w' := by
  have hk := st_kinds h
  obtain ⟨k, md, lv, nm, vl⟩ := s
  simp only at hk
  rcases hk with ⟨rfl, h1, rfl, rfl, rfl⟩ | ⟨rfl, h1, h2, h3, rfl⟩ | ⟨rfl, h1, rfl, rfl, rfl⟩ | ⟨rfl, rfl, rfl, h1, h2⟩ | ⟨rfl, rfl, rfl, h1, rfl⟩ | ⟨rfl, rfl, rfl, rfl, rfl⟩
  · have := nameB_len h1
    go_enter Tryz.func58, Tryz.ntmps58
    go_wp2
    go_ret
    exact ⟨by simp [spJ, wordsS, kImport], by (repeat (first | with_reducible exact X.refl _ | with_reducible assumption | with_reducible refine X.setCell ?_ (by first | (simp; done) | (simp; omega)) _ | with_reducible refine X.ext ?_ _ | with_reducible refine X.alloc ?_ _ | with_reducible refine X.drew ?_))⟩
  · have l1 := decF_len (range_03 h2)
    have l2 := dash_len h1
    have l3 := (partB_len h3).2
    have hr := range_03 h2
    go_enter Tryz.func58, Tryz.ntmps58
    go_wp2
    refine wp_name (fun W hW => ?_)
    have c1 : W.cell? ⟨w.heap.size, 1, none⟩ = some (.string ⟨(md).toArray⟩) := by rw [hW]; exact (Bx.new _ _ _).out.2.1 1
    have c2 : W.cell? ⟨w.heap.size, 2, none⟩ = some (.int .i64 lv) := by rw [hW]; exact (Bx.new _ _ _).out.2.1 2
    have c3 : W.cell? ⟨w.heap.size, 3, none⟩ = some (.string ⟨(nm).toArray⟩) := by rw [hW]; exact (Bx.new _ _ _).out.2.1 3
    have lb : w.heap.size < W.heap.size := by rw [hW]; simp
    have hX : X w W := by rw [hW]; (repeat (first | with_reducible exact X.refl _ | with_reducible assumption | with_reducible refine X.setCell ?_ (by first | (simp; done) | (simp; omega)) _ | with_reducible refine X.ext ?_ _ | with_reducible refine X.alloc ?_ _ | with_reducible refine X.drew ?_))
    clear hW
    refine wp_region_grow0 (by kernel_rfl) (by kernel_rfl) ?_
    repeat (go_big_quiet_step ((first | (go_at_call 85; refine grow_of (number_c lv _ hr)) | (go_at_call 86; refine grow_of (orDash_s md _)))))
    refine wpQuiet_nil ?_
    rintro _ ⟨y, rfl⟩
    go_wp2
    go_ret
    exact ⟨by simp [spJ, wordsS, kFrom], hX.trans (by (repeat (first | with_reducible exact X.refl _ | with_reducible assumption | with_reducible refine X.setCell ?_ (by first | (simp; done) | (simp; omega)) _ | with_reducible refine X.ext ?_ _ | with_reducible refine X.alloc ?_ _ | with_reducible refine X.drew ?_)))⟩
  · have := nameB_len h1
    go_enter Tryz.func58, Tryz.ntmps58
    go_wp2
    go_ret
    exact ⟨by simp [spJ, wordsS, kStar], by (repeat (first | with_reducible exact X.refl _ | with_reducible assumption | with_reducible refine X.setCell ?_ (by first | (simp; done) | (simp; omega)) _ | with_reducible refine X.ext ?_ _ | with_reducible refine X.alloc ?_ _ | with_reducible refine X.drew ?_))⟩
  · have l1 := decF_len h2
    have l3 := (partB_len h1).2
    go_enter Tryz.func58, Tryz.ntmps58
    go_wp2
    refine wp_name (fun W hW => ?_)
    have c3 : W.cell? ⟨w.heap.size, 3, none⟩ = some (.string ⟨(nm).toArray⟩) := by rw [hW]; exact (Bx.new _ _ _).out.2.1 3
    have c4 : W.cell? ⟨w.heap.size, 4, none⟩ = some (.int .i64 vl) := by rw [hW]; exact (Bx.new _ _ _).out.2.1 4
    have lb : w.heap.size < W.heap.size := by rw [hW]; simp
    have hX : X w W := by rw [hW]; (repeat (first | with_reducible exact X.refl _ | with_reducible assumption | with_reducible refine X.setCell ?_ (by first | (simp; done) | (simp; omega)) _ | with_reducible refine X.ext ?_ _ | with_reducible refine X.alloc ?_ _ | with_reducible refine X.drew ?_))
    clear hW
    refine wp_region_grow0 (by kernel_rfl) (by kernel_rfl) ?_
    repeat (go_big_quiet_step (((go_at_call 85; refine grow_of (number_c vl _ h2)))))
    refine wpQuiet_nil ?_
    rintro _ ⟨y, rfl⟩
    go_wp2
    go_ret
    exact ⟨by simp [spJ, wordsS, kSet], hX.trans (by (repeat (first | with_reducible exact X.refl _ | with_reducible assumption | with_reducible refine X.setCell ?_ (by first | (simp; done) | (simp; omega)) _ | with_reducible refine X.ext ?_ _ | with_reducible refine X.alloc ?_ _ | with_reducible refine X.drew ?_)))⟩
  · have := (partB_len h1).2
    go_enter Tryz.func58, Tryz.ntmps58
    go_wp2
    go_ret
    exact ⟨by simp [spJ, wordsS, kPrint], by (repeat (first | with_reducible exact X.refl _ | with_reducible assumption | with_reducible refine X.setCell ?_ (by first | (simp; done) | (simp; omega)) _ | with_reducible refine X.ext ?_ _ | with_reducible refine X.alloc ?_ _ | with_reducible refine X.drew ?_))⟩
  · go_enter Tryz.func58, Tryz.ntmps58
    go_wp2
    go_ret
    exact ⟨by simp [spJ, wordsS, kFail], by (repeat (first | with_reducible exact X.refl _ | with_reducible assumption | with_reducible refine X.setCell ?_ (by first | (simp; done) | (simp; omega)) _ | with_reducible refine X.ext ?_ _ | with_reducible refine X.alloc ?_ _ | with_reducible refine X.drew ?_))⟩
set_option maxRecDepth 100000 in
set_option maxHeartbeats 2000000 in
theorem format_c (l : List Fi) (a : Option Addr) (n c B : Nat) (w : World) (hF : FilesAt w B a n l) (ht : treeB l = true) : Calls Tryz.prog 31 #[.agg #[.slice a n c]] w fun e w' => e = .returned (.string ⟨(fmtT l).toArray⟩) ∧ X w w' := by
  have hfb := treeB_all ht
  have hl12 : l.length ≤ 12 := by
    unfold treeB at ht
    rw [Bool.and_eq_true] at ht
    simpa using ht.2
  have Hl := Lib.hid hF.len.1
  have hn := hF.len.2
  have hn12 : n ≤ 12 := by rw [Hl.out]; exact hl12
  have hB := Bx.new w #[.slice a n c] 24
  have t0 : (w.alloc (.cells #[.slice a n c] 24)).cell? ⟨w.heap.size, 0, none⟩ = some (.slice a n c) := hB.out.2.1 0
  have lt0 := hB.lt
  clear hl12
  go_enter Tryz.func31, Tryz.ntmps31
  go_wp2
  refine wp_name (fun W0 hW0 => ?_)
  rw [← hW0] at hB
  have hX0 : X w W0 := by rw [hW0]; (repeat (first | with_reducible exact X.refl _ | with_reducible assumption | with_reducible refine X.setCell ?_ (by first | (simp; done) | (simp; omega)) _ | with_reducible refine X.ext ?_ _ | with_reducible refine X.alloc ?_ _ | with_reducible refine X.drew ?_))
  clear hW0 t0 lt0
  go_loopw [3, 4] (fun v i wr => ∃ k : Nat, k ≤ n ∧ i = .int .i64 k ∧ v = .string ⟨(fmtT (l.take k)).toArray⟩ ∧ X W0 wr) (fun _ i _ => n - (intOf i).toNat)
  case atStart => exact ⟨0, Nat.zero_le _, rfl, rfl, X.refl _⟩
  case round =>
    obtain ⟨k, hk, rfl, rfl, hX⟩ := hrel
    have t0 : wr.cell? ⟨w.heap.size, 0, none⟩ = some (.slice a n c) := (hB.x hX).out.2.1 0
    have lt0 := (hB.x hX).lt
    by_cases hlt : k < n
    · obtain ⟨b, off, ba, bn, bc, rfl, _, hb, hok, hbc, hS, g0, g1, g2, g3, g4, g5⟩ := (hF.mono ((hX0.trans hX).fr _)).at_ hlt
      have hfk := hfb _ (nth_mem (l := l) (k := k) (by rw [← Hl.out]; exact hlt))
      have hlen1 : (fmtT (l.take k)).length ≤ 6000 := by
        have := fmtT_len (t := l.take k) (fun f hf => hfb f (List.mem_of_mem_take hf))
        rw [List.length_take] at this
        omega
      have hnext := Lib.hid (fmtT_next (t := l) (k := k) (by rw [← Hl.out]; exact hlt))
      obtain ⟨A, hA⟩ : ∃ A, fmtT (l.take k) = A := ⟨_, rfl⟩
      rw [hA] at hlen1 hnext ⊢
      clear hA
      have r1 : (0 : Int) ≤ (k : Int) := by omega
      have r2 : (k : Int) < (n : Int) := by omega
      have hll := lineF_len hfk
      unfold lineL at hll
      rw [List.length_append, List.length_singleton] at hll
      have hfl := fileT_len hfk
      go_wp2_with fail
      refine (showFile_c (nth l k) _ wr hfk).mono ?_
      rintro _ w1 ⟨rfl, hx1⟩
      have hbb := bodyB_l8 (fi_parts hfk).2.2.2.1
      have Hbn := Lib.hid hS.1
      have hbn8 : bn ≤ 8 := by rw [Hbn.out]; exact hbb.1
      have hstb := hbb.2
      obtain ⟨S1, hS1⟩ : ∃ S1, spJ (wordsF (nth l k)) = S1 := ⟨_, rfl⟩
      rw [hS1] at hll ⊢
      have hz := Lib.hid (show fileT (nth l k) 0 = S1 ++ [10] by rw [fileT_zero, lineL, hS1])
      have hX1 := hX.trans hx1
      have hX01 := hX0.trans hX1
      have hS' := hS.mono (hx1.fr _)
      have hBo := hB.x hX1
      have q0 : w1.cell? ⟨b, off + k * 6 + 5, none⟩ = some (.slice ba bn bc) := (hx1.cell (p := ⟨b, _, none⟩) hb).trans g5
      have hb1 : b < w1.heap.size := Nat.lt_of_lt_of_le hb hx1.size
      clear hS1 hS g0 g1 g2 g3 g4 g5 hbb hx1 hX hb t0 lt0
      generalize nth l k = f at *
      go_wp2_with fail
      obtain ⟨wo, hwo⟩ : ∃ wo, wo = wr := ⟨_, rfl⟩
      clear hwo
      go_loopw [3, 5] (fun v i wr => ∃ j : Nat, j ≤ bn ∧ i = .int .i64 j ∧ v = .string ⟨(A ++ fileT f j).toArray⟩ ∧ X w1 wr) (fun _ i _ => bn - (intOf i).toNat)
      case atStart => exact ⟨0, Nat.zero_le _, rfl, by rw [hz.out], X.refl _⟩
      case round =>
        obtain ⟨j, hj, rfl, rfl, hX⟩ := hrel
        have hfl := hfl j
        have t0 : wr.cell? ⟨w.heap.size, 0, none⟩ = some (.slice (some ⟨b, off, none⟩) n c) := (hBo.x hX).out.2.1 0
        have lt0 := (hBo.x hX).lt
        have q5 : wr.cell? ⟨b, off + k * 6 + 5, none⟩ = some (.slice ba bn bc) := (hX.cell (p := ⟨b, _, none⟩) hb1).trans q0
        have hb2 : b < wr.heap.size := Nat.lt_of_lt_of_le hb1 hX.size
        by_cases hjt : j < bn
        · obtain ⟨b2, off2, rfl, _, hb3, hos, s0, s1, s2, s3, s4⟩ := (hS'.mono (hX.fr _)).at_ hjt
          have hst := hstb _ (nth_mem (l := f.body) (k := j) (by rw [← Hbn.out]; exact hjt))
          have hnx := Lib.hid (fileT_next (f := f) (m := j) (by rw [← Hbn.out]; exact hjt))
          have hsl := lineS_len hst
          unfold lineL at hsl
          rw [List.length_append, List.length_singleton] at hsl
          generalize nth f.body j = t at *
          have r3 : (0 : Int) ≤ (j : Int) := by omega
          have r4 : (j : Int) < (bn : Int) := by omega
          go_wp2_with fail
          refine (showStmt_c t wr hst).mono ?_
          rintro _ w2 ⟨rfl, hx2⟩
          obtain ⟨S2, hS2⟩ : ∃ S2, spJ (wordsS t) = S2 := ⟨_, rfl⟩
          rw [hS2] at hsl ⊢
          have hn2 := hnx.out
          rw [lineL, hS2] at hn2
          have hnx2 := Lib.hid hn2
          clear hS2 hn2 hnx
          generalize fileT f j = F at *
          go_wp2
          go_roundw
          case rel => exact ⟨j + 1, by omega, by go_num, by rw [hnx2.out], hX.trans hx2⟩
          case measure => simp [intOf]; omega
        · obtain rfl : j = bn := by omega
          have hnx2 := hnext.out
          rw [← Hbn.out] at hnx2
          have hnx := Lib.hid hnx2
          clear hnx2 hnext
          go_wp2
          go_roundw
          case rel => exact ⟨k + 1, by omega, by go_num, by rw [hnx.out], hX1.trans hX⟩
          case measure => simp [intOf]; omega
    · obtain rfl : k = n := by omega
      rw [List.take_of_length_le (by rw [← Hl.out]; exact Nat.le_refl _)]
      go_wp2
      go_ret
      exact ⟨rfl, hX0.trans hX⟩

/-- What both write of a tree. -/
def fmtV (l : List Fi) : List UInt8 := if treeB l then fmtT l else []
set_option maxRecDepth 100000 in
set_option maxHeartbeats 1000000 in
theorem FormatTree_s (l : List Fi) (a : Option Addr) (n c B : Nat) (w : World) (hF : FilesAt w B a n l) : Calls Tryz.prog 13 #[.agg #[.slice a n c]] w fun e w' => e = .returned (.string ⟨(fmtV l).toArray⟩) ∧ X w w' := by
  cases ht : treeB l
  all_goals
    rw [show fmtV l = _ by rw [fmtV, ht]]
    go_enter Tryz.func13, Tryz.ntmps13
    go_wp2_with fail
    refine calls_name (fun W hW => ?_)
    have hB : Bx W w.heap.size #[.slice a n c] := by rw [hW]; exact Bx.new _ _ _
    have hX0 : X w W := by rw [hW]; (repeat (first | with_reducible exact X.refl _ | with_reducible assumption | with_reducible refine X.setCell ?_ (by first | (simp; done) | (simp; omega)) _ | with_reducible refine X.ext ?_ _ | with_reducible refine X.alloc ?_ _ | with_reducible refine X.drew ?_))
    clear hW
    refine (validTree_c l a n c B W (hF.mono (hX0.fr _))).mono ?_
    rintro _ w1 ⟨rfl, hx1⟩
    rw [ht]
    have t0 : w1.cell? ⟨w.heap.size, 0, none⟩ = some (.slice a n c) := (hB.x hx1).out.2.1 0
    have lt0 := (hB.x hx1).lt
    have hX1 := hX0.trans hx1
  · go_wp2
    go_ret
    exact ⟨rfl, hX1⟩
  · go_wp2_with fail
    refine (format_c l a n c B w1 (hF.mono (hX1.fr _)) ht).mono ?_
    rintro _ w2 ⟨rfl, hx2⟩
    go_wp2
    go_ret
    exact ⟨rfl, hX1.trans hx2⟩

end Go.Proofs.YtmhcmabiolaoaaaGreatDoor
