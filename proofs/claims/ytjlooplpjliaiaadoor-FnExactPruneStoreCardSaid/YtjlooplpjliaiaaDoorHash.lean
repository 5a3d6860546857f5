/- Sizes and hashes of bodies, both sides. No condition but lengths. -/
import Derived.Test.YtjlooplpjliaiaaDoorTree
import Derived.Test.YtjlooplpjliaiaaDoorRw
namespace Go.Proofs.YtjlooplpjliaiaaDoor
open Go.RowKit

theorem ret_intH {a b : Int} (h : a = b) : Ending.returned (.int .i64 a) = .returned (.int .i64 b) := by rw [h]
/-! ### Plain -/
def szN : List St → Nat
  | [] => 0
  | s :: l => 3 + s.mod.length + s.name.length + szN l
theorem szN_append (l m : List St) : szN (l ++ m) = szN l + szN m := by
  induction l with
  | nil => simp [szN]
  | cons f l ih => simp only [List.cons_append, szN, ih]; omega
theorem szN_next {l : List St} {k : Nat} (hk : k < l.length) : szN (l.take (k + 1)) = szN (l.take k) + (3 + (nth l k).mod.length + (nth l k).name.length) := by
  rw [take_succ_nth hk, szN_append]; simp [szN]
theorem szN_le : ∀ {l : List St}, (∀ s ∈ l, Oks s) → szN l ≤ 2097155 * l.length
  | [], _ => by simp [szN]
  | s :: l, h => by
    have h1 := szN_le (l := l) (fun x hx => h x (List.mem_cons_of_mem _ hx))
    have h2 := h s List.mem_cons_self
    have h3 := h2.1
    have h4 := h2.2
    simp only [szN, List.length_cons]
    omega
theorem szN_take {l : List St} (h : ∀ s ∈ l, Oks s) (k : Nat) : szN (l.take k) ≤ 2097155 * l.length := by
  have h1 := szN_append (l.take k) (l.drop k)
  rw [List.take_append_drop] at h1
  have := szN_le h
  omega
def mixZ (n k : Int) : Int := (131 * n + k + 1) % 1000003
theorem mixZ_rng (n k : Int) : 0 ≤ mixZ n k ∧ mixZ n k < 1000003 := ⟨Int.emod_nonneg _ (by decide), Int.emod_lt_of_pos _ (by decide)⟩
def bytesZ (n : Int) (s : List UInt8) : Int := s.foldl (fun n b => mixZ n (b.toNat : Int)) n
def textZ (n : Int) (s : List UInt8) : Int := mixZ (bytesZ n s) 0
def stZ (n : Int) (s : St) : Int := textZ (textZ (mixZ (mixZ (mixZ n s.kind) s.level) s.val) s.mod) s.name
def hashZ (l : List St) : Int := l.foldl stZ 1
theorem bytesZ_next {n : Int} {s : List UInt8} {k : Nat} (hk : k < s.length) : bytesZ n (s.take (k + 1)) = mixZ (bytesZ n (s.take k)) ((nth s k).toNat : Int) := by
  rw [take_succ_nth hk, bytesZ, List.foldl_append]; rfl
theorem hashZ_next {l : List St} {k : Nat} (hk : k < l.length) : hashZ (l.take (k + 1)) = stZ (hashZ (l.take k)) (nth l k) := by
  rw [take_succ_nth hk, hashZ, List.foldl_append]; rfl
theorem stB_rng {s : St} (h : stB s = true) : (0 ≤ s.kind ∧ s.kind ≤ 255) ∧ (0 ≤ s.level ∧ s.level ≤ 255) ∧ (0 ≤ s.val ∧ s.val ≤ 255) := by
  unfold stB at h
  split at h
  · simp only [Bool.and_eq_true, beq_iff_eq] at h; omega
  split at h
  · simp only [Bool.and_eq_true, beq_iff_eq] at h
    have := rangeB_iff.1 h.1.1.1.2
    omega
  split at h
  · simp only [Bool.and_eq_true, beq_iff_eq] at h
    have := rangeB_iff.1 h.2
    omega
  split at h
  · simp only [Bool.and_eq_true, beq_iff_eq] at h; omega
  split at h
  · simp only [Bool.and_eq_true, beq_iff_eq] at h; omega
  · cases h
theorem bodyB_at {l : List St} (h : bodyB l = true) {k : Nat} (hk : k < l.length) : stB (nth l k) = true := by
  unfold bodyB at h
  simp only [Bool.and_eq_true] at h
  exact allN_iff.1 h.1 k hk

/-! ### Sizes -/
set_option maxRecDepth 100000 in
set_option maxHeartbeats 1000000 in
theorem sizeOf_c (l : List St) (a : Option Addr) (n c B : Nat) (w : World) (hS : StmtsAt w B a n l) :
    Calls Tryd.prog 70 #[.slice a n c] w fun e w' => e = .returned (.int .i64 (szN l : Nat)) ∧ X w w' := by
  have hn := hS.2.1
  have hl := hS.1
  have Hn := Lib.hid (fun k h => @szN_next l k h)
  have Ht := Lib.hid (szN_take hS.2.2.1)
  have Hl := Lib.hid hl
  clear hl
  go_enter Tryd.func70, Tryd.ntmps70
  go_wp2
  go_loopw [3, 4] (fun v i wr => ∃ (k m : Nat), k ≤ n ∧ i = .int .i64 k ∧ v = .int .i64 m ∧ m = szN (l.take k) ∧ X w wr) (fun _ i _ => n - (intOf i).toNat)
  case atStart => exact ⟨0, 0, by omega, rfl, rfl, by simp [szN], X.refl _⟩
  case round =>
    obtain ⟨k, m, hk, rfl, rfl, hm, hX⟩ := hrel
    by_cases hlt : k < n
    · obtain ⟨b, off, rfl, _, hb, hok, g0, g1, g2, g3, g4⟩ := (hS.mono (hX.fr _)).at_ hlt
      have hmb : m ≤ 4398052802560 := by have := Ht.out k; have := Hl.out; omega
      have Hm := Lib.hid hm
      clear hm
      obtain ⟨k1, k3⟩ : (nth l k).mod.length ≤ 1048576 ∧ (nth l k).name.length ≤ 1048576 := hok
      go_wp2
      refine wp_region_grow0 (by kernel_rfl) (by kernel_rfl) ?_
      repeat (go_big_quiet_step ((fail)))
      refine wpQuiet_nil ?_
      rintro _ ⟨y, rfl⟩
      go_wp2
      go_roundw
      case rel => exact ⟨k + 1, m + (3 + (nth l k).mod.length + (nth l k).name.length), by omega, by go_num, by go_num, by rw [Hm.out, Hn.out k (by rw [← Hl.out]; exact hlt)], by exact hX.trans (by (repeat (first | exact X.refl _ | assumption | refine X.ext ?_ _ | refine X.alloc ?_ _ | refine X.drew ?_)))⟩
      case measure => simp [intOf]; omega
    · obtain rfl : k = n := by omega
      have hme : m = szN l := by rw [hm, List.take_of_length_le (by rw [← Hl.out]; omega)]
      have Hme := Lib.hid hme
      clear hme hm
      go_wp2
      go_ret
      exact ⟨ret_intH (a := (m : Int)) (by rw [Hme.out]), hX⟩
set_option maxRecDepth 100000 in
set_option maxHeartbeats 1000000 in
theorem SizeOf_c (l : List St) (a : Option Addr) (n c B : Nat) (w : World) (hS : StmtsAt w B a n l) (hv : bodyB l = true) (hG : Gm w) :
    Calls Tryd.prog 74 #[.slice a n c] w fun e w' => e = .returned (.int .i64 (szN l : Nat)) ∧ X w w' := by
  have hn := hS.2.1
  have hl := hS.1
  have Hn := Lib.hid (fun k h => @szN_next l k h)
  have Ht := Lib.hid (szN_take hS.2.2.1)
  have Hl := Lib.hid hl
  clear hl
  go_enter Tryd.func74, Tryd.ntmps74
  go_wp2_with fail
  refine calls_name (fun W0 hW0 => ?_)
  have hX0 : X w W0 := by rw [hW0]; (repeat (first | with_reducible exact X.refl _ | with_reducible assumption | with_reducible refine X.setCell ?_ (by first | (simp; done) | (simp; omega)) _ | with_reducible refine X.ext ?_ _ | with_reducible refine X.alloc ?_ _ | with_reducible refine X.drew ?_))
  clear hW0
  refine (ValidBody_c l a n c B W0 (hS.mono (hX0.fr _)) (hG.mono hX0)).mono ?_
  rintro _ w1 ⟨rfl, hx1⟩
  rw [hv]
  have hX1 := hX0.trans hx1
  go_wp2
  go_loopw [3, 11] (fun v i wr => ∃ (k m : Nat), k ≤ n ∧ i = .int .i64 k ∧ v = .int .i64 m ∧ m = szN (l.take k) ∧ X w wr) (fun _ i _ => n - (intOf i).toNat)
  case atStart => exact ⟨0, 0, by omega, rfl, rfl, by simp [szN], hX1⟩
  case round =>
    obtain ⟨k, m, hk, rfl, rfl, hm, hX⟩ := hrel
    clear hX0 hx1 hX1
    by_cases hlt : k < n
    · obtain ⟨b, off, rfl, _, hb, hok, g0, g1, g2, g3, g4⟩ := (hS.mono (hX.fr _)).at_ hlt
      have hmb : m ≤ 4398052802560 := by have := Ht.out k; have := Hl.out; omega
      have Hm := Lib.hid hm
      clear hm
      obtain ⟨k1, k3⟩ : (nth l k).mod.length ≤ 1048576 ∧ (nth l k).name.length ≤ 1048576 := hok
      go_wp2
      go_roundw
      case rel => exact ⟨k + 1, m + (3 + (nth l k).mod.length + (nth l k).name.length), by omega, by go_num, by go_num, by rw [Hm.out, Hn.out k (by rw [← Hl.out]; exact hlt)], by (repeat (first | with_reducible exact X.refl _ | with_reducible assumption | with_reducible refine X.setCell ?_ (by first | (simp; done) | (simp; omega)) _ | with_reducible refine X.ext ?_ _ | with_reducible refine X.alloc ?_ _ | with_reducible refine X.drew ?_))⟩
      case measure => simp [intOf]; omega
    · obtain rfl : k = n := by omega
      have hme : m = szN l := by rw [hm, List.take_of_length_le (by rw [← Hl.out]; omega)]
      have Hme := Lib.hid hme
      clear hme hm
      go_wp2
      go_ret
      exact ⟨ret_intH (a := (m : Int)) (by rw [Hme.out]), hX⟩

/-! ### Hashes -/
set_option maxHeartbeats 400000 in
theorem mixed_c (n k : Int) (w : World) (h0 : 0 ≤ n) (h1 : n < 1000003) (k0 : 0 ≤ k) (k1 : k ≤ 255) :
    Calls Tryd.prog 92 #[.int .i64 n, .int .i64 k] w fun e w' => e = .returned (.int .i64 (mixZ n k)) ∧ w = w' := by
  have hp : 0 ≤ n * 131 + k + 1 := by omega
  go_enter Tryd.func92, Tryd.ntmps92
  go_wp2
  go_ret
  exact ⟨ret_intH (by unfold mixZ; first | rfl | (rw [Int.mul_comm]; done) | (rw [Int.mul_comm 131 n])), rfl⟩
set_option maxRecDepth 100000 in
set_option maxHeartbeats 1000000 in
theorem mixedText_c (n : Int) (s : List UInt8) (w : World) (h0 : 0 ≤ n) (h1 : n < 1000003) (hs : s.length ≤ 4194304) :
    Calls Tryd.prog 93 #[.int .i64 n, .string ⟨(s).toArray⟩] w fun e w' => e = .returned (.int .i64 (textZ n s)) ∧ w = w' := by
  have Hn := Lib.hid (fun k h => @bytesZ_next n s k h)
  go_enter Tryd.func93, Tryd.ntmps93
  go_wp2
  go_loopw [0, 5] (fun v i wr => ∃ (k : Nat) (m : Int), k ≤ s.length ∧ i = .int .i64 k ∧ v = .int .i64 m ∧ m = bytesZ n (s.take k) ∧ 0 ≤ m ∧ m < 1000003 ∧ wr = w) (fun _ i _ => s.length - (intOf i).toNat)
  case atStart => exact ⟨0, n, by omega, rfl, rfl, rfl, h0, h1, rfl⟩
  case round =>
    obtain ⟨k, m, hk, rfl, rfl, hm, m0, m1, rfl⟩ := hrel
    have Hm := Lib.hid hm
    clear hm
    by_cases hlt : k < s.length
    · have hb : (nth s k).toNat < 256 := (nth s k).toNat_lt
      go_wp2_with (go_at_call 92; refine (mixed_c m ((nth s k).toNat : Int) _ m0 m1 (by omega) (by omega)).mono ?_; rintro _ _ ⟨rfl, rfl⟩)
      go_roundw
      case rel => exact ⟨k + 1, mixZ m ((nth s k).toNat : Int), by omega, by go_num, rfl, by rw [Hn.out k hlt, Hm.out], (mixZ_rng _ _).1, (mixZ_rng _ _).2, trivial⟩
      case measure => simp [intOf]; omega
    · obtain rfl : k = s.length := by omega
      go_wp2_with (go_at_call 92; refine (mixed_c m 0 _ m0 m1 (by omega) (by omega)).mono ?_; rintro _ _ ⟨rfl, rfl⟩)
      go_ret
      exact ⟨ret_intH (by rw [textZ, Hm.out, List.take_length]), rfl⟩
theorem textZ_rng (n : Int) (s : List UInt8) : 0 ≤ textZ n s ∧ textZ n s < 1000003 := mixZ_rng _ _
set_option maxRecDepth 100000 in
set_option maxHeartbeats 1000000 in
theorem hashOf_c (l : List St) (a : Option Addr) (n c B : Nat) (w : World) (hS : StmtsAt w B a n l) (hv : bodyB l = true) :
    Calls Tryd.prog 71 #[.slice a n c] w fun e w' => e = .returned (.int .i64 (hashZ l)) ∧ X w w' := by
  have hn := hS.2.1
  have hl := hS.1
  have Hn := Lib.hid (fun k h => @hashZ_next l k h)
  have Hl := Lib.hid hl
  clear hl
  go_enter Tryd.func71, Tryd.ntmps71
  go_wp2
  go_loopw [3, 4] (fun v i wr => ∃ (k : Nat) (m : Int), k ≤ n ∧ i = .int .i64 k ∧ v = .int .i64 m ∧ m = hashZ (l.take k) ∧ 0 ≤ m ∧ m < 1000003 ∧ X w wr) (fun _ i _ => n - (intOf i).toNat)
  case atStart => exact ⟨0, 1, by omega, rfl, rfl, rfl, by omega, by omega, X.refl _⟩
  case round =>
    obtain ⟨k, m, hk, rfl, rfl, hm, m0, m1, hX⟩ := hrel
    by_cases hlt : k < n
    · obtain ⟨b, off, rfl, _, hb, hok, g0, g1, g2, g3, g4⟩ := (hS.mono (hX.fr _)).at_ hlt
      have Hm := Lib.hid hm
      clear hm
      obtain ⟨k1, k3⟩ : (nth l k).mod.length ≤ 1048576 ∧ (nth l k).name.length ≤ 1048576 := hok
      obtain ⟨⟨r0, r1⟩, ⟨r2, r3⟩, ⟨r4, r5⟩⟩ := stB_rng (bodyB_at hv (by rw [← Hl.out]; exact hlt))
      go_wp2
      refine wp_region_grow0 (by kernel_rfl) (by kernel_rfl) ?_
      repeat (go_big_quiet_step (((go_at_call 92; refine grow_same (mixed_c _ _ _ (by first | omega | exact (mixZ_rng _ _).1) (by first | omega | exact (mixZ_rng _ _).2) (by omega) (by omega))))))
      refine wpQuiet_nil ?_
      rintro _ ⟨y, rfl⟩
      go_wp2
      refine wp_region_grow (by kernel_rfl) (by kernel_rfl) ?_
      repeat (go_big_quiet_step (((go_at_call 93; refine grow_same (mixedText_c _ _ _ (by first | exact (mixZ_rng _ _).1 | exact (textZ_rng _ _).1) (by first | exact (mixZ_rng _ _).2 | exact (textZ_rng _ _).2) (by omega))))))
      refine wpQuiet_nil ?_
      rintro _ ⟨y, rfl⟩
      go_wp2
      go_roundw
      case rel => exact ⟨k + 1, stZ m (nth l k), by omega, by go_num, rfl, by rw [Hn.out k (by rw [← Hl.out]; exact hlt), Hm.out], (textZ_rng _ _).1, (textZ_rng _ _).2, hX.trans (by (repeat (first | exact X.refl _ | assumption | refine X.ext ?_ _ | refine X.alloc ?_ _ | refine X.drew ?_)))⟩
      case measure => simp [intOf]; omega
    · obtain rfl : k = n := by omega
      have hme : m = hashZ l := by rw [hm, List.take_of_length_le (by rw [← Hl.out]; omega)]
      have Hme := Lib.hid hme
      clear hme hm
      go_wp2
      go_ret
      exact ⟨ret_intH (by rw [Hme.out]), hX⟩

theorem Bx.set0 {w : World} {b : Nat} {u : Value} (h : Bx w b #[u]) (v : Value) : Bx (w.setCell ⟨b, 0, none⟩ v) b #[v] := by simpa using h.set 0 v
set_option maxHeartbeats 400000 in
theorem mix_i (n k : Int) (nb : Nat) (w : World) (hB : Bx w nb #[.int .i64 n]) (h0 : 0 ≤ n) (h1 : n < 1000003) (k0 : 0 ≤ k) (k1 : k ≤ 255) :
    Calls Tryd.prog 94 #[.int .i64 k, .pointer (some ⟨nb, 0, none⟩)] w fun e w' => e = .returned (.tuple #[]) ∧ w.grownBy w' (some nb) ∧ Bx w' nb #[.int .i64 (mixZ n k)] := by
  obtain ⟨hl, hc, hf⟩ := hB.out
  have c0 := hc 0
  have f0 := hf 0
  have hp : 0 ≤ 131 * n + k + 1 := by omega
  clear hc hf
  go_enter Tryd.func94, Tryd.ntmps94
  go_wp2
  refine bodyPost_end (results_none Tryd.results94 _ _ _) rfl ?_
  exact ⟨rfl, grown_set _ _ _, hB.set0 _⟩
def mixFn (nb : Nat) : Value := .func (.func 94) #[] #[.pointer (some ⟨nb, 0, none⟩)]
set_option maxRecDepth 100000 in
set_option maxHeartbeats 1000000 in
theorem text_i (n : Int) (s : List UInt8) (nb fb : Nat) (w : World) (hB : Bx w nb #[.int .i64 n]) (hF : Bx w fb #[mixFn nb]) (hne : fb ≠ nb) (h0 : 0 ≤ n) (h1 : n < 1000003) (hs : s.length ≤ 4194304) :
    Calls Tryd.prog 95 #[.string ⟨(s).toArray⟩, .pointer (some ⟨fb, 0, none⟩)] w fun e w' => e = .returned (.tuple #[]) ∧ w.grownBy w' (some nb) ∧ Bx w' nb #[.int .i64 (textZ n s)] := by
  have Hn := Lib.hid (fun k h => @bytesZ_next n s k h)
  go_enter Tryd.func95, Tryd.ntmps95
  go_wp2
  go_loopw [6] (fun i wr => ∃ (k : Nat) (m : Int), k ≤ s.length ∧ i = .int .i64 k ∧ m = bytesZ n (s.take k) ∧ 0 ≤ m ∧ m < 1000003 ∧ w.grownBy wr (some nb) ∧ Bx wr nb #[.int .i64 m]) (fun i _ => s.length - (intOf i).toNat)
  case atStart => exact ⟨0, n, by omega, rfl, rfl, h0, h1, World.grownBy.refl _ _, hB⟩
  case round =>
    obtain ⟨k, m, hk, rfl, hm, m0, m1, hg, hBr⟩ := hrel
    have Hm := Lib.hid hm
    clear hm
    have hFr := hF.grown hg (fun j hj => by injection hj with hj; omega)
    obtain ⟨hfl, hfc, _⟩ := hFr.out
    have f0 := hfc 0
    unfold mixFn at f0
    clear hfc
    by_cases hlt : k < s.length
    · have hb : (nth s k).toNat < 256 := (nth s k).toNat_lt
      have hwr : IntKind.i64.wrap ((nth s k).toNat : Int) = ((nth s k).toNat : Int) := by
        unfold IntKind.wrap
        simp [IntKind.bits, IntKind.signed]
        omega
      go_wp2
      go_region_law (go_simp; go_at_call 94; (try rw [hwr]); refine (mix_i m ((nth s k).toNat : Int) nb _ (hBr.x (by (repeat (first | exact X.refl _ | assumption | refine X.ext ?_ _ | refine X.alloc ?_ _ | refine X.drew ?_)))) m0 m1 (by omega) (by omega)).mono ?_; rintro _ w3 ⟨rfl, hg3, hB3⟩)
      all_goals
        go_wp2
        go_roundw
        case rel => exact ⟨k + 1, mixZ m ((nth s k).toNat : Int), by omega, by go_num, by rw [Hn.out k hlt, Hm.out], (mixZ_rng _ _).1, (mixZ_rng _ _).2, hg.trans (X.grown (by (repeat (first | exact X.refl _ | assumption | refine X.ext ?_ _ | refine X.alloc ?_ _ | refine X.drew ?_))) hg3), hB3⟩
        case measure => simp [intOf]; omega
    · obtain rfl : k = s.length := by omega
      go_wp2_with (go_at_call 94; refine (mix_i m 0 nb _ hBr m0 m1 (by omega) (by omega)).mono ?_; rintro _ w3 ⟨rfl, hg3, hB3⟩)
      refine bodyPost_end (results_none Tryd.results95 _ _ _) rfl ?_
      refine ⟨rfl, hg.trans hg3, ?_⟩
      rw [textZ, ← List.take_length (l := s), ← Hm.out]
      exact hB3

end Go.Proofs.YtjlooplpjliaiaaDoor
