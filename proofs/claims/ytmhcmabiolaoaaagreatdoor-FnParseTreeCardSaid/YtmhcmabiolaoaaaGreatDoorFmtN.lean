/- The text of a tree that was drawn, the reference's: the walks. No condition but that its numbers have two digits and its texts are short. -/
import Derived.Test.YtmhcmabiolaoaaaGreatDoorFmtS
import Derived.Test.YtmhcmabiolaoaaaGreatDoorDrawNum
namespace Go.Proofs.YtmhcmabiolaoaaaGreatDoor
open Go.RowKit

def SmN (f : Fi) : Prop := (f.pkg.length ≤ 20 ∧ f.name.length ≤ 20 ∧ f.body.length ≤ 8) ∧ NmF f
theorem range_of {n : Int} (h : 0 ≤ n ∧ n ≤ 99) : rangeB n 0 99 = true := rangeB_iff.2 h
theorem dash_lenN {s : List UInt8} (h : s.length ≤ 20) : (dashL s).length ≤ 20 := by
  unfold dashL
  split
  · simp
  · exact h
theorem wordsF_lenN {f : Fi} (h : SmN f) : ∀ w ∈ wordsF f, w.length ≤ 20 := by
  obtain ⟨⟨h1, h2, h3⟩, h4, h5, h6⟩ := h
  intro w hw
  unfold wordsF at hw
  simp only [List.mem_cons, List.not_mem_nil, or_false] at hw
  rcases hw with rfl | rfl | rfl | rfl | rfl
  · decide
  · have := decF_len (range_of h4); omega
  · exact dash_lenN h1
  · split
    · simp
    · exact h2
  · have := decF_len (range_of h5); omega
theorem wordsS_lenN {s : St} (h : NmS s) : (∀ w ∈ wordsS s, w.length ≤ 20) ∧ (wordsS s).length ≤ 4 := by
  obtain ⟨⟨h1, h2⟩, h3, h4⟩ := h
  have a1 := decF_len (range_of h3)
  have a2 := decF_len (range_of h4)
  have a3 := dash_lenN h1
  have a4 : kImport.length ≤ 20 ∧ kFrom.length ≤ 20 ∧ kStar.length ≤ 20 ∧ kSet.length ≤ 20 ∧ kPrint.length ≤ 20 ∧ kFail.length ≤ 20 := by decide
  unfold wordsS
  repeat' split
  all_goals
    simp
    try omega
theorem lineF_lenN {f : Fi} (h : SmN f) : (lineL (wordsF f)).length ≤ 106 := by
  have := spJ_len (wordsF_lenN h)
  unfold lineL
  rw [List.length_append, List.length_singleton]
  have : (wordsF f).length = 5 := rfl
  omega
theorem lineS_lenN {s : St} (h : NmS s) : (lineL (wordsS s)).length ≤ 85 := by
  obtain ⟨h1, h2⟩ := wordsS_lenN h
  have := spJ_len h1
  unfold lineL
  rw [List.length_append, List.length_singleton]
  have : (wordsS s).length * (20 + 1) ≤ 4 * 21 := Nat.mul_le_mul_right 21 h2
  omega
theorem fileT_lenN {f : Fi} (h : SmN f) (m : Nat) : (fileT f m).length ≤ 800 := by
  have h1 := lineF_lenN h
  have h2 := h.1.2.2
  have key : ∀ b : List St, (∀ s ∈ b, NmS s) → (b.flatMap fun s => lineL (wordsS s)).length ≤ 85 * b.length := by
    intro b
    induction b with
    | nil => intro _; simp
    | cons s b ih =>
      intro hb
      have e1 := ih (fun s hs => hb s (List.mem_cons_of_mem _ hs))
      have e2 := lineS_lenN (hb s List.mem_cons_self)
      rw [List.flatMap_cons, List.length_append, List.length_cons]
      omega
  have h4 := key (f.body.take m) (fun s hs => h.2.2.2 s (List.mem_of_mem_take hs))
  have h5 : (f.body.take m).length ≤ 8 := by rw [List.length_take]; omega
  unfold fileT
  rw [List.length_append]
  omega
theorem fmtT_lenN : ∀ {t : List Fi}, (∀ f ∈ t, SmN f) → (fmtT t).length ≤ 800 * t.length := by
  intro t
  induction t with
  | nil => intro _; simp [fmtT_nil]
  | cons f t ih =>
    intro h
    have e1 := ih (fun g hg => h g (List.mem_cons_of_mem _ hg))
    have e2 := fileT_lenN (h f List.mem_cons_self) f.body.length
    have e3 : fmtT (f :: t) = fileT f f.body.length ++ fmtT t := by
      unfold fmtT linesT fileT
      rw [List.flatMap_cons, List.flatMap_append, List.flatMap_cons, List.take_length, List.flatMap_map]
    rw [e3, List.length_append, List.length_cons]
    omega
set_option maxRecDepth 100000 in
set_option maxHeartbeats 1000000 in
theorem showFile_n (f : Fi) (bv : Value) (w : World) (hf : SmN f) : Calls Tryz.prog 57 #[.agg #[.int .i64 (f).root, .string ⟨(f).pkg.toArray⟩, .string ⟨(f).name.toArray⟩, .bool (f).init, .int .i64 (f).stamp, bv]] w fun e w' => e = .returned (.string ⟨(spJ (wordsF f)).toArray⟩) ∧ X w w' := by
  obtain ⟨⟨h2, l4, _⟩, h1, h3, _⟩ := hf
  have hr := range_of h1
  replace h3 := range_of h3
  have l1 := decF_len hr
  have l2 := dash_lenN h2
  have l3 := decF_len h3
  cases hi : f.init
  all_goals
    go_enter Tryz.func57, Tryz.ntmps57
    go_wp2
    refine wp_name (fun W hW => ?_)
    have c0 : W.cell? ⟨w.heap.size, 0, none⟩ = some (.int .i64 f.root) := by rw [hW]; exact (Bx.new _ _ _).out.2.1 0
    have c1 : W.cell? ⟨w.heap.size, 1, none⟩ = some (.string ⟨(f.pkg).toArray⟩) := by rw [hW]; exact (Bx.new _ _ _).out.2.1 1
    have c4 : W.cell? ⟨w.heap.size, 4, none⟩ = some (.int .i64 f.stamp) := by rw [hW]; exact (Bx.new _ _ _).out.2.1 4
    have lb : w.heap.size < W.heap.size := by rw [hW]; simp
    have hX : X w W := by rw [hW]; (repeat (first | with_reducible exact X.refl _ | with_reducible assumption | with_reducible refine X.setCell ?_ (by first | (simp; done) | (simp; omega)) _ | with_reducible refine X.ext ?_ _ | with_reducible refine X.alloc ?_ _ | with_reducible refine X.drew ?_))
    clear hW
    refine wp_region_grow0 (by kernel_rfl) (by kernel_rfl) ?_
    repeat (go_big_quiet_step ((first | (go_at_call_of 85 f.root; refine grow_of (number_c f.root _ hr)) | (go_at_call 85; refine grow_of (number_c f.stamp _ h3)) | (go_at_call 86; refine grow_of (orDash_s f.pkg _)))))
    refine wpQuiet_nil ?_
    rintro _ ⟨y, rfl⟩
    go_wp2
    go_ret
    exact ⟨by simp [spJ, wordsF, kFile, hi], hX.trans (by (repeat (first | with_reducible exact X.refl _ | with_reducible assumption | with_reducible refine X.setCell ?_ (by first | (simp; done) | (simp; omega)) _ | with_reducible refine X.ext ?_ _ | with_reducible refine X.alloc ?_ _ | with_reducible refine X.drew ?_)))⟩
set_option maxRecDepth 100000 in
set_option maxHeartbeats 1000000 in
theorem showStmt_n (s : St) (w : World) (h : NmS s) : Calls Tryz.prog 58 #[.agg #[.int .i64 (s).kind, .string ⟨(s).mod.toArray⟩, .int .i64 (s).level, .string ⟨(s).name.toArray⟩, .int .i64 (s).val]] w fun e w' => e = .returned (.string ⟨(spJ (wordsS s)).toArray⟩) ∧ X w w' := by
  obtain ⟨⟨h1, h3⟩, h2, h4⟩ := h
  obtain ⟨k, md, lv, nm, vl⟩ := s
  dsimp only at h1 h2 h3 h4
  by_cases k0 : k = 0
  · subst k0
    go_enter Tryz.func58, Tryz.ntmps58
    go_wp2
    go_ret
    exact ⟨by simp [spJ, wordsS, kImport], by (repeat (first | with_reducible exact X.refl _ | with_reducible assumption | with_reducible refine X.setCell ?_ (by first | (simp; done) | (simp; omega)) _ | with_reducible refine X.ext ?_ _ | with_reducible refine X.alloc ?_ _ | with_reducible refine X.drew ?_))⟩
  by_cases k1 : k = 1
  · subst k1
    have hr := range_of h2
    have l1 := decF_len hr
    have l2 := dash_lenN h1
    go_enter Tryz.func58, Tryz.ntmps58
    go_wp2
    refine wp_name (fun W hW => ?_)
    have c1 : W.cell? ⟨w.heap.size, 1, none⟩ = some (.string ⟨(md).toArray⟩) := by rw [hW]; exact (Bx.new _ _ _).out.2.1 1
    have c2 : W.cell? ⟨w.heap.size, 2, none⟩ = some (.int .i64 lv) := by rw [hW]; exact (Bx.new _ _ _).out.2.1 2
    have c3 : W.cell? ⟨w.heap.size, 3, none⟩ = some (.string ⟨(nm).toArray⟩) := by rw [hW]; exact (Bx.new _ _ _).out.2.1 3
    have lb : w.heap.size < W.heap.size := by rw [hW]; simp
    have hX : X w W := by rw [hW]; (repeat (first | with_reducible exact X.refl _ | with_reducible assumption | with_reducible refine X.setCell ?_ (by first | (simp; done) | (simp; omega)) _ | with_reducible refine X.ext ?_ _ | with_reducible refine X.alloc ?_ _ | with_reducible refine X.drew ?_))
    clear hW
    refine wp_region_grow0 (by kernel_rfl) (by kernel_rfl) ?_
    repeat (go_big_quiet_step ((first | (go_at_call 85; refine grow_of (number_c lv _ hr)) | (go_at_call 86; refine grow_of (orDash_s md _)))))
    refine wpQuiet_nil ?_
    rintro _ ⟨y, rfl⟩
    go_wp2
    go_ret
    exact ⟨by simp [spJ, wordsS, kFrom], hX.trans (by (repeat (first | with_reducible exact X.refl _ | with_reducible assumption | with_reducible refine X.setCell ?_ (by first | (simp; done) | (simp; omega)) _ | with_reducible refine X.ext ?_ _ | with_reducible refine X.alloc ?_ _ | with_reducible refine X.drew ?_)))⟩
  by_cases k2 : k = 2
  · subst k2
    go_enter Tryz.func58, Tryz.ntmps58
    go_wp2
    go_ret
    exact ⟨by simp [spJ, wordsS, kStar], by (repeat (first | with_reducible exact X.refl _ | with_reducible assumption | with_reducible refine X.setCell ?_ (by first | (simp; done) | (simp; omega)) _ | with_reducible refine X.ext ?_ _ | with_reducible refine X.alloc ?_ _ | with_reducible refine X.drew ?_))⟩
  by_cases k3 : k = 3
  · subst k3
    have h4 := range_of h4
    have l1 := decF_len h4
    go_enter Tryz.func58, Tryz.ntmps58
    go_wp2
    refine wp_name (fun W hW => ?_)
    have c3 : W.cell? ⟨w.heap.size, 3, none⟩ = some (.string ⟨(nm).toArray⟩) := by rw [hW]; exact (Bx.new _ _ _).out.2.1 3
    have c4 : W.cell? ⟨w.heap.size, 4, none⟩ = some (.int .i64 vl) := by rw [hW]; exact (Bx.new _ _ _).out.2.1 4
    have lb : w.heap.size < W.heap.size := by rw [hW]; simp
    have hX : X w W := by rw [hW]; (repeat (first | with_reducible exact X.refl _ | with_reducible assumption | with_reducible refine X.setCell ?_ (by first | (simp; done) | (simp; omega)) _ | with_reducible refine X.ext ?_ _ | with_reducible refine X.alloc ?_ _ | with_reducible refine X.drew ?_))
    clear hW
    refine wp_region_grow0 (by kernel_rfl) (by kernel_rfl) ?_
    repeat (go_big_quiet_step (((go_at_call 85; refine grow_of (number_c vl _ h4)))))
    refine wpQuiet_nil ?_
    rintro _ ⟨y, rfl⟩
    go_wp2
    go_ret
    exact ⟨by simp [spJ, wordsS, kSet], hX.trans (by (repeat (first | with_reducible exact X.refl _ | with_reducible assumption | with_reducible refine X.setCell ?_ (by first | (simp; done) | (simp; omega)) _ | with_reducible refine X.ext ?_ _ | with_reducible refine X.alloc ?_ _ | with_reducible refine X.drew ?_)))⟩
  by_cases k4 : k = 4
  · subst k4
    go_enter Tryz.func58, Tryz.ntmps58
    go_wp2
    go_ret
    exact ⟨by simp [spJ, wordsS, kPrint], by (repeat (first | with_reducible exact X.refl _ | with_reducible assumption | with_reducible refine X.setCell ?_ (by first | (simp; done) | (simp; omega)) _ | with_reducible refine X.ext ?_ _ | with_reducible refine X.alloc ?_ _ | with_reducible refine X.drew ?_))⟩
  · have b0 : (k == 0) = false := by simpa using k0
    have b1 : (k == 1) = false := by simpa using k1
    have b2 : (k == 2) = false := by simpa using k2
    have b3 : (k == 3) = false := by simpa using k3
    have b4 : (k == 4) = false := by simpa using k4
    have hw : wordsS ⟨k, md, lv, nm, vl⟩ = [kFail] := by simp [wordsS, k0, k1, k2, k3, k4]
    rw [hw]
    clear k0 k1 k2 k3 k4 hw
    go_enter Tryz.func58, Tryz.ntmps58
    go_wp2
    go_ret
    exact ⟨by simp [spJ, kFail], by (repeat (first | with_reducible exact X.refl _ | with_reducible assumption | with_reducible refine X.setCell ?_ (by first | (simp; done) | (simp; omega)) _ | with_reducible refine X.ext ?_ _ | with_reducible refine X.alloc ?_ _ | with_reducible refine X.drew ?_))⟩
set_option maxRecDepth 100000 in
set_option maxHeartbeats 2000000 in
theorem format_n (l : List Fi) (a : Option Addr) (n c B : Nat) (w : World) (hF : FilesAt w B a n l) (hfb : ∀ f ∈ l, SmN f) (hl12 : l.length ≤ 12) : Calls Tryz.prog 31 #[.agg #[.slice a n c]] w fun e w' => e = .returned (.string ⟨(fmtT l).toArray⟩) ∧ X w w' := by
  have Hl := Lib.hid hF.len.1
  have hn := hF.len.2
  have hn12 : n ≤ 12 := by rw [Hl.out]; exact hl12
  have hB := Bx.new w #[.slice a n c] 24
  have t0 : (w.alloc (.cells #[.slice a n c] 24)).cell? ⟨w.heap.size, 0, none⟩ = some (.slice a n c) := hB.out.2.1 0
  have lt0 := hB.lt
  clear hl12
  go_enter Tryz.func31, Tryz.ntmps31
  go_wp2
  refine wp_name (fun W0 hW0 => ?_)
  rw [← hW0] at hB
  have hX0 : X w W0 := by rw [hW0]; (repeat (first | with_reducible exact X.refl _ | with_reducible assumption | with_reducible refine X.setCell ?_ (by first | (simp; done) | (simp; omega)) _ | with_reducible refine X.ext ?_ _ | with_reducible refine X.alloc ?_ _ | with_reducible refine X.drew ?_))
  clear hW0 t0 lt0
  go_loopw [3, 4] (fun v i wr => ∃ k : Nat, k ≤ n ∧ i = .int .i64 k ∧ v = .string ⟨(fmtT (l.take k)).toArray⟩ ∧ X W0 wr) (fun _ i _ => n - (intOf i).toNat)
  case atStart => exact ⟨0, Nat.zero_le _, rfl, rfl, X.refl _⟩
  case round =>
    obtain ⟨k, hk, rfl, rfl, hX⟩ := hrel
    have t0 : wr.cell? ⟨w.heap.size, 0, none⟩ = some (.slice a n c) := (hB.x hX).out.2.1 0
    have lt0 := (hB.x hX).lt
    by_cases hlt : k < n
    · obtain ⟨b, off, ba, bn, bc, rfl, _, hb, hok, hbc, hS, g0, g1, g2, g3, g4, g5⟩ := (hF.mono ((hX0.trans hX).fr _)).at_ hlt
      have hfk := hfb _ (nth_mem (l := l) (k := k) (by rw [← Hl.out]; exact hlt))
      have hlen1 : (fmtT (l.take k)).length ≤ 9600 := by
        have := fmtT_lenN (t := l.take k) (fun f hf => hfb f (List.mem_of_mem_take hf))
        rw [List.length_take] at this
        omega
      have hnext := Lib.hid (fmtT_next (t := l) (k := k) (by rw [← Hl.out]; exact hlt))
      obtain ⟨A, hA⟩ : ∃ A, fmtT (l.take k) = A := ⟨_, rfl⟩
      rw [hA] at hlen1 hnext ⊢
      clear hA
      have r1 : (0 : Int) ≤ (k : Int) := by omega
      have r2 : (k : Int) < (n : Int) := by omega
      have hll := lineF_lenN hfk
      unfold lineL at hll
      rw [List.length_append, List.length_singleton] at hll
      have hfl := fileT_lenN hfk
      go_wp2_with fail
      refine (showFile_n (nth l k) _ wr hfk).mono ?_
      rintro _ w1 ⟨rfl, hx1⟩
      have hbb := And.intro hfk.1.2.2 hfk.2.2.2
      have Hbn := Lib.hid hS.1
      have hbn8 : bn ≤ 8 := by rw [Hbn.out]; exact hbb.1
      have hstb := hbb.2
      obtain ⟨S1, hS1⟩ : ∃ S1, spJ (wordsF (nth l k)) = S1 := ⟨_, rfl⟩
      rw [hS1] at hll ⊢
      have hz := Lib.hid (show fileT (nth l k) 0 = S1 ++ [10] by rw [fileT_zero, lineL, hS1])
      have hX1 := hX.trans hx1
      have hX01 := hX0.trans hX1
      have hS' := hS.mono (hx1.fr _)
      have hBo := hB.x hX1
      have q0 : w1.cell? ⟨b, off + k * 6 + 5, none⟩ = some (.slice ba bn bc) := (hx1.cell (p := ⟨b, _, none⟩) hb).trans g5
      have hb1 : b < w1.heap.size := Nat.lt_of_lt_of_le hb hx1.size
      clear hS1 hS g0 g1 g2 g3 g4 g5 hbb hx1 hX hb t0 lt0
      generalize nth l k = f at *
      go_wp2_with fail
      obtain ⟨wo, hwo⟩ : ∃ wo, wo = wr := ⟨_, rfl⟩
      clear hwo
      go_loopw [3, 5] (fun v i wr => ∃ j : Nat, j ≤ bn ∧ i = .int .i64 j ∧ v = .string ⟨(A ++ fileT f j).toArray⟩ ∧ X w1 wr) (fun _ i _ => bn - (intOf i).toNat)
      case atStart => exact ⟨0, Nat.zero_le _, rfl, by rw [hz.out], X.refl _⟩
      case round =>
        obtain ⟨j, hj, rfl, rfl, hX⟩ := hrel
        have hfl := hfl j
        have t0 : wr.cell? ⟨w.heap.size, 0, none⟩ = some (.slice (some ⟨b, off, none⟩) n c) := (hBo.x hX).out.2.1 0
        have lt0 := (hBo.x hX).lt
        have q5 : wr.cell? ⟨b, off + k * 6 + 5, none⟩ = some (.slice ba bn bc) := (hX.cell (p := ⟨b, _, none⟩) hb1).trans q0
        have hb2 : b < wr.heap.size := Nat.lt_of_lt_of_le hb1 hX.size
        by_cases hjt : j < bn
        · obtain ⟨b2, off2, rfl, _, hb3, hos, s0, s1, s2, s3, s4⟩ := (hS'.mono (hX.fr _)).at_ hjt
          have hst := hstb _ (nth_mem (l := f.body) (k := j) (by rw [← Hbn.out]; exact hjt))
          have hnx := Lib.hid (fileT_next (f := f) (m := j) (by rw [← Hbn.out]; exact hjt))
          have hsl := lineS_lenN hst
          unfold lineL at hsl
          rw [List.length_append, List.length_singleton] at hsl
          generalize nth f.body j = t at *
          have r3 : (0 : Int) ≤ (j : Int) := by omega
          have r4 : (j : Int) < (bn : Int) := by omega
          go_wp2_with fail
          refine (showStmt_n t wr hst).mono ?_
          rintro _ w2 ⟨rfl, hx2⟩
          obtain ⟨S2, hS2⟩ : ∃ S2, spJ (wordsS t) = S2 := ⟨_, rfl⟩
          rw [hS2] at hsl ⊢
          have hn2 := hnx.out
          rw [lineL, hS2] at hn2
          have hnx2 := Lib.hid hn2
          clear hS2 hn2 hnx
          generalize fileT f j = F at *
          go_wp2
          go_roundw
          case rel => exact ⟨j + 1, by omega, by go_num, by rw [hnx2.out], hX.trans hx2⟩
          case measure => simp [intOf]; omega
        · obtain rfl : j = bn := by omega
          have hnx2 := hnext.out
          rw [← Hbn.out] at hnx2
          have hnx := Lib.hid hnx2
          clear hnx2 hnext
          go_wp2
          go_roundw
          case rel => exact ⟨k + 1, by omega, by go_num, by rw [hnx.out], hX1.trans hX⟩
          case measure => simp [intOf]; omega
    · obtain rfl : k = n := by omega
      rw [List.take_of_length_le (by rw [← Hl.out]; exact Nat.le_refl _)]
      go_wp2
      go_ret
      exact ⟨rfl, hX0.trans hX⟩

end Go.Proofs.YtmhcmabiolaoaaaGreatDoor
