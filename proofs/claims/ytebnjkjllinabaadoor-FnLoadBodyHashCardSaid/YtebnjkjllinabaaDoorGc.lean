/- Several texts in one: Hash, HashI, Clone, Co, CoAt, CoR, CoW, CoT. No condition but lengths. -/
import Derived.Test.YtebnjkjllinabaaDoorGb
import Derived.Test.YtebnjkjllinabaaDoorGa
import Derived.Deep.AppendLies
import Derived.Deep.RegionLaw
namespace Go.Proofs.YtebnjkjllinabaaDoor
open Go.RowKit

theorem ret_intH {a b : Int} (h : a = b) : Ending.returned (.int .i64 a) = .returned (.int .i64 b) := by rw [h]
/-! ### Plain -/
def szN : List St → Nat
  | [] => 0
  | s :: l => 3 + s.mod.length + s.name.length + szN l
theorem szN_append (l m : List St) : szN (l ++ m) = szN l + szN m := by
  induction l with
  | nil => simp [szN]
  | cons f l ih => simp only [List.cons_append, szN, ih]; omega
theorem szN_next {l : List St} {k : Nat} (hk : k < l.length) : szN (l.take (k + 1)) = szN (l.take k) + (3 + (nth l k).mod.length + (nth l k).name.length) := by
  rw [take_succ_nth hk, szN_append]; simp [szN]
theorem szN_le : ∀ {l : List St}, (∀ s ∈ l, Oks s) → szN l ≤ 2097155 * l.length
  | [], _ => by simp [szN]
  | s :: l, h => by
    have h1 := szN_le (l := l) (fun x hx => h x (List.mem_cons_of_mem _ hx))
    have h2 := h s List.mem_cons_self
    have h3 := h2.1
    have h4 := h2.2
    simp only [szN, List.length_cons]
    omega
theorem szN_take {l : List St} (h : ∀ s ∈ l, Oks s) (k : Nat) : szN (l.take k) ≤ 2097155 * l.length := by
  have h1 := szN_append (l.take k) (l.drop k)
  rw [List.take_append_drop] at h1
  have := szN_le h
  omega
def mixZ (n k : Int) : Int := (131 * n + k + 1) % 1000003
theorem mixZ_rng (n k : Int) : 0 ≤ mixZ n k ∧ mixZ n k < 1000003 := ⟨Int.emod_nonneg _ (by decide), Int.emod_lt_of_pos _ (by decide)⟩
def bytesZ (n : Int) (s : List UInt8) : Int := s.foldl (fun n b => mixZ n (b.toNat : Int)) n
def textZ (n : Int) (s : List UInt8) : Int := mixZ (bytesZ n s) 0
def stZ (n : Int) (s : St) : Int := textZ (textZ (mixZ (mixZ (mixZ n s.kind) s.level) s.val) s.mod) s.name
def hashZ (l : List St) : Int := l.foldl stZ 1
theorem bytesZ_next {n : Int} {s : List UInt8} {k : Nat} (hk : k < s.length) : bytesZ n (s.take (k + 1)) = mixZ (bytesZ n (s.take k)) ((nth s k).toNat : Int) := by
  rw [take_succ_nth hk, bytesZ, List.foldl_append]; rfl
theorem hashZ_next {l : List St} {k : Nat} (hk : k < l.length) : hashZ (l.take (k + 1)) = stZ (hashZ (l.take k)) (nth l k) := by
  rw [take_succ_nth hk, hashZ, List.foldl_append]; rfl
theorem stB_rng {s : St} (h : stB s = true) : (0 ≤ s.kind ∧ s.kind ≤ 255) ∧ (0 ≤ s.level ∧ s.level ≤ 255) ∧ (0 ≤ s.val ∧ s.val ≤ 255) := by
  unfold stB at h
  split at h
  · simp only [Bool.and_eq_true, beq_iff_eq] at h; omega
  split at h
  · simp only [Bool.and_eq_true, beq_iff_eq] at h
    have := rangeB_iff.1 h.1.1.1.2
    omega
  split at h
  · simp only [Bool.and_eq_true, beq_iff_eq] at h
    have := rangeB_iff.1 h.2
    omega
  split at h
  · simp only [Bool.and_eq_true, beq_iff_eq] at h; omega
  split at h
  · simp only [Bool.and_eq_true, beq_iff_eq] at h; omega
  · cases h
theorem bodyB_at {l : List St} (h : bodyB l = true) {k : Nat} (hk : k < l.length) : stB (nth l k) = true := by
  unfold bodyB at h
  simp only [Bool.and_eq_true] at h
  exact allN_iff.1 h.1 k hk

/-! ### Sizes -/
set_option maxRecDepth 100000 in
set_option maxHeartbeats 1000000 in
theorem sizeOf_c (l : List St) (a : Option Addr) (n c B : Nat) (w : World) (hS : StmtsAt w B a n l) :
    Calls Tryd.prog 68 #[.slice a n c] w fun e w' => e = .returned (.int .i64 (szN l : Nat)) ∧ X w w' := by
  have hn := hS.2.1
  have hl := hS.1
  have Hn := Lib.hid (fun k h => @szN_next l k h)
  have Ht := Lib.hid (szN_take hS.2.2.1)
  have Hl := Lib.hid hl
  clear hl
  go_enter Tryd.func68, Tryd.ntmps68
  go_wp2
  go_loopw [3, 4] (fun v i wr => ∃ (k m : Nat), k ≤ n ∧ i = .int .i64 k ∧ v = .int .i64 m ∧ m = szN (l.take k) ∧ X w wr) (fun _ i _ => n - (intOf i).toNat)
  case atStart => exact ⟨0, 0, by omega, rfl, rfl, by simp [szN], X.refl _⟩
  case round =>
    obtain ⟨k, m, hk, rfl, rfl, hm, hX⟩ := hrel
    by_cases hlt : k < n
    · obtain ⟨b, off, rfl, _, hb, hok, g0, g1, g2, g3, g4⟩ := (hS.mono (hX.fr _)).at_ hlt
      have hmb : m ≤ 4398052802560 := by have := Ht.out k; have := Hl.out; omega
      have Hm := Lib.hid hm
      clear hm
      obtain ⟨k1, k3⟩ : (nth l k).mod.length ≤ 1048576 ∧ (nth l k).name.length ≤ 1048576 := hok
      go_wp2
      refine wp_region_grow0 (by kernel_rfl) (by kernel_rfl) ?_
      repeat (go_big_quiet_step ((fail)))
      refine wpQuiet_nil ?_
      rintro _ ⟨y, rfl⟩
      go_wp2
      go_roundw
      case rel => exact ⟨k + 1, m + (3 + (nth l k).mod.length + (nth l k).name.length), by omega, by go_num, by go_num, by rw [Hm.out, Hn.out k (by rw [← Hl.out]; exact hlt)], by exact hX.trans (by (repeat (first | exact X.refl _ | assumption | refine X.ext ?_ _ | refine X.alloc ?_ _ | refine X.drew ?_)))⟩
      case measure => simp [intOf]; omega
    · obtain rfl : k = n := by omega
      have hme : m = szN l := by rw [hm, List.take_of_length_le (by rw [← Hl.out]; omega)]
      have Hme := Lib.hid hme
      clear hme hm
      go_wp2
      go_ret
      exact ⟨ret_intH (a := (m : Int)) (by rw [Hme.out]), hX⟩
set_option maxRecDepth 100000 in
set_option maxHeartbeats 1000000 in
theorem SizeOf_c (l : List St) (a : Option Addr) (n c B : Nat) (w : World) (hS : StmtsAt w B a n l) (hv : bodyB l = true) (hG : Gm w) :
    Calls Tryd.prog 24 #[.slice a n c] w fun e w' => e = .returned (.int .i64 (szN l : Nat)) ∧ X w w' := by
  have hn := hS.2.1
  have hl := hS.1
  have Hn := Lib.hid (fun k h => @szN_next l k h)
  have Ht := Lib.hid (szN_take hS.2.2.1)
  have Hl := Lib.hid hl
  clear hl
  go_enter Tryd.func24, Tryd.ntmps24
  go_wp2_with fail
  refine calls_name (fun W0 hW0 => ?_)
  have hX0 : X w W0 := by rw [hW0]; (repeat (first | with_reducible exact X.refl _ | with_reducible assumption | with_reducible refine X.setCell ?_ (by first | (simp; done) | (simp; omega)) _ | with_reducible refine X.ext ?_ _ | with_reducible refine X.alloc ?_ _ | with_reducible refine X.drew ?_))
  clear hW0
  refine (ValidBody_c l a n c B W0 (hS.mono (hX0.fr _)) (hG.mono hX0)).mono ?_
  rintro _ w1 ⟨rfl, hx1⟩
  rw [hv]
  have hX1 := hX0.trans hx1
  go_wp2
  go_loopw [3, 11] (fun v i wr => ∃ (k m : Nat), k ≤ n ∧ i = .int .i64 k ∧ v = .int .i64 m ∧ m = szN (l.take k) ∧ X w wr) (fun _ i _ => n - (intOf i).toNat)
  case atStart => exact ⟨0, 0, by omega, rfl, rfl, by simp [szN], hX1⟩
  case round =>
    obtain ⟨k, m, hk, rfl, rfl, hm, hX⟩ := hrel
    clear hX0 hx1 hX1
    by_cases hlt : k < n
    · obtain ⟨b, off, rfl, _, hb, hok, g0, g1, g2, g3, g4⟩ := (hS.mono (hX.fr _)).at_ hlt
      have hmb : m ≤ 4398052802560 := by have := Ht.out k; have := Hl.out; omega
      have Hm := Lib.hid hm
      clear hm
      obtain ⟨k1, k3⟩ : (nth l k).mod.length ≤ 1048576 ∧ (nth l k).name.length ≤ 1048576 := hok
      go_wp2
      go_roundw
      case rel => exact ⟨k + 1, m + (3 + (nth l k).mod.length + (nth l k).name.length), by omega, by go_num, by go_num, by rw [Hm.out, Hn.out k (by rw [← Hl.out]; exact hlt)], by (repeat (first | with_reducible exact X.refl _ | with_reducible assumption | with_reducible refine X.setCell ?_ (by first | (simp; done) | (simp; omega)) _ | with_reducible refine X.ext ?_ _ | with_reducible refine X.alloc ?_ _ | with_reducible refine X.drew ?_))⟩
      case measure => simp [intOf]; omega
    · obtain rfl : k = n := by omega
      have hme : m = szN l := by rw [hm, List.take_of_length_le (by rw [← Hl.out]; omega)]
      have Hme := Lib.hid hme
      clear hme hm
      go_wp2
      go_ret
      exact ⟨ret_intH (a := (m : Int)) (by rw [Hme.out]), hX⟩

/-! ### Hashes -/
set_option maxHeartbeats 400000 in
theorem mixed_c (n k : Int) (w : World) (h0 : 0 ≤ n) (h1 : n < 1000003) (k0 : 0 ≤ k) (k1 : k ≤ 255) :
    Calls Tryd.prog 87 #[.int .i64 n, .int .i64 k] w fun e w' => e = .returned (.int .i64 (mixZ n k)) ∧ w = w' := by
  have hp : 0 ≤ n * 131 + k + 1 := by omega
  go_enter Tryd.func87, Tryd.ntmps87
  go_wp2
  go_ret
  exact ⟨ret_intH (by unfold mixZ; first | rfl | (rw [Int.mul_comm]; done) | (rw [Int.mul_comm 131 n])), rfl⟩
set_option maxRecDepth 100000 in
set_option maxHeartbeats 1000000 in
theorem mixedText_c (n : Int) (s : List UInt8) (w : World) (h0 : 0 ≤ n) (h1 : n < 1000003) (hs : s.length ≤ 4194304) :
    Calls Tryd.prog 88 #[.int .i64 n, .string ⟨(s).toArray⟩] w fun e w' => e = .returned (.int .i64 (textZ n s)) ∧ w = w' := by
  have Hn := Lib.hid (fun k h => @bytesZ_next n s k h)
  go_enter Tryd.func88, Tryd.ntmps88
  go_wp2
  go_loopw [0, 5] (fun v i wr => ∃ (k : Nat) (m : Int), k ≤ s.length ∧ i = .int .i64 k ∧ v = .int .i64 m ∧ m = bytesZ n (s.take k) ∧ 0 ≤ m ∧ m < 1000003 ∧ wr = w) (fun _ i _ => s.length - (intOf i).toNat)
  case atStart => exact ⟨0, n, by omega, rfl, rfl, rfl, h0, h1, rfl⟩
  case round =>
    obtain ⟨k, m, hk, rfl, rfl, hm, m0, m1, rfl⟩ := hrel
    have Hm := Lib.hid hm
    clear hm
    by_cases hlt : k < s.length
    · have hb : (nth s k).toNat < 256 := (nth s k).toNat_lt
      go_wp2_with (go_at_call 87; refine (mixed_c m ((nth s k).toNat : Int) _ m0 m1 (by omega) (by omega)).mono ?_; rintro _ _ ⟨rfl, rfl⟩)
      go_roundw
      case rel => exact ⟨k + 1, mixZ m ((nth s k).toNat : Int), by omega, by go_num, rfl, by rw [Hn.out k hlt, Hm.out], (mixZ_rng _ _).1, (mixZ_rng _ _).2, trivial⟩
      case measure => simp [intOf]; omega
    · obtain rfl : k = s.length := by omega
      go_wp2_with (go_at_call 87; refine (mixed_c m 0 _ m0 m1 (by omega) (by omega)).mono ?_; rintro _ _ ⟨rfl, rfl⟩)
      go_ret
      exact ⟨ret_intH (by rw [textZ, Hm.out, List.take_length]), rfl⟩
theorem textZ_rng (n : Int) (s : List UInt8) : 0 ≤ textZ n s ∧ textZ n s < 1000003 := mixZ_rng _ _
set_option maxRecDepth 100000 in
set_option maxHeartbeats 1000000 in
theorem hashOf_c (l : List St) (a : Option Addr) (n c B : Nat) (w : World) (hS : StmtsAt w B a n l) (hv : bodyB l = true) :
    Calls Tryd.prog 69 #[.slice a n c] w fun e w' => e = .returned (.int .i64 (hashZ l)) ∧ X w w' := by
  have hn := hS.2.1
  have hl := hS.1
  have Hn := Lib.hid (fun k h => @hashZ_next l k h)
  have Hl := Lib.hid hl
  clear hl
  go_enter Tryd.func69, Tryd.ntmps69
  go_wp2
  go_loopw [3, 4] (fun v i wr => ∃ (k : Nat) (m : Int), k ≤ n ∧ i = .int .i64 k ∧ v = .int .i64 m ∧ m = hashZ (l.take k) ∧ 0 ≤ m ∧ m < 1000003 ∧ X w wr) (fun _ i _ => n - (intOf i).toNat)
  case atStart => exact ⟨0, 1, by omega, rfl, rfl, rfl, by omega, by omega, X.refl _⟩
  case round =>
    obtain ⟨k, m, hk, rfl, rfl, hm, m0, m1, hX⟩ := hrel
    by_cases hlt : k < n
    · obtain ⟨b, off, rfl, _, hb, hok, g0, g1, g2, g3, g4⟩ := (hS.mono (hX.fr _)).at_ hlt
      have Hm := Lib.hid hm
      clear hm
      obtain ⟨k1, k3⟩ : (nth l k).mod.length ≤ 1048576 ∧ (nth l k).name.length ≤ 1048576 := hok
      obtain ⟨⟨r0, r1⟩, ⟨r2, r3⟩, ⟨r4, r5⟩⟩ := stB_rng (bodyB_at hv (by rw [← Hl.out]; exact hlt))
      go_wp2
      refine wp_region_grow0 (by kernel_rfl) (by kernel_rfl) ?_
      repeat (go_big_quiet_step (((go_at_call 87; refine grow_same (mixed_c _ _ _ (by first | omega | exact (mixZ_rng _ _).1) (by first | omega | exact (mixZ_rng _ _).2) (by omega) (by omega))))))
      refine wpQuiet_nil ?_
      rintro _ ⟨y, rfl⟩
      go_wp2
      refine wp_region_grow (by kernel_rfl) (by kernel_rfl) ?_
      repeat (go_big_quiet_step (((go_at_call 88; refine grow_same (mixedText_c _ _ _ (by first | exact (mixZ_rng _ _).1 | exact (textZ_rng _ _).1) (by first | exact (mixZ_rng _ _).2 | exact (textZ_rng _ _).2) (by omega))))))
      refine wpQuiet_nil ?_
      rintro _ ⟨y, rfl⟩
      go_wp2
      go_roundw
      case rel => exact ⟨k + 1, stZ m (nth l k), by omega, by go_num, rfl, by rw [Hn.out k (by rw [← Hl.out]; exact hlt), Hm.out], (textZ_rng _ _).1, (textZ_rng _ _).2, hX.trans (by (repeat (first | exact X.refl _ | assumption | refine X.ext ?_ _ | refine X.alloc ?_ _ | refine X.drew ?_)))⟩
      case measure => simp [intOf]; omega
    · obtain rfl : k = n := by omega
      have hme : m = hashZ l := by rw [hm, List.take_of_length_le (by rw [← Hl.out]; omega)]
      have Hme := Lib.hid hme
      clear hme hm
      go_wp2
      go_ret
      exact ⟨ret_intH (by rw [Hme.out]), hX⟩

theorem Bx.set0 {w : World} {b : Nat} {u : Value} (h : Bx w b #[u]) (v : Value) : Bx (w.setCell ⟨b, 0, none⟩ v) b #[v] := by simpa using h.set 0 v
set_option maxHeartbeats 400000 in
theorem mix_i (n k : Int) (nb : Nat) (w : World) (hB : Bx w nb #[.int .i64 n]) (h0 : 0 ≤ n) (h1 : n < 1000003) (k0 : 0 ≤ k) (k1 : k ≤ 255) :
    Calls Tryd.prog 61 #[.int .i64 k, .pointer (some ⟨nb, 0, none⟩)] w fun e w' => e = .returned (.tuple #[]) ∧ w.grownBy w' (some nb) ∧ Bx w' nb #[.int .i64 (mixZ n k)] := by
  obtain ⟨hl, hc, hf⟩ := hB.out
  have c0 := hc 0
  have f0 := hf 0
  have hp : 0 ≤ 131 * n + k + 1 := by omega
  clear hc hf
  go_enter Tryd.func61, Tryd.ntmps61
  go_wp2
  refine bodyPost_end (results_none Tryd.results61 _ _ _) rfl ?_
  exact ⟨rfl, grown_set _ _ _, hB.set0 _⟩
def mixFn (nb : Nat) : Value := .func (.func 61) #[] #[.pointer (some ⟨nb, 0, none⟩)]
set_option maxRecDepth 100000 in
set_option maxHeartbeats 1000000 in
theorem text_i (n : Int) (s : List UInt8) (nb fb : Nat) (w : World) (hB : Bx w nb #[.int .i64 n]) (hF : Bx w fb #[mixFn nb]) (hne : fb ≠ nb) (h0 : 0 ≤ n) (h1 : n < 1000003) (hs : s.length ≤ 4194304) :
    Calls Tryd.prog 62 #[.string ⟨(s).toArray⟩, .pointer (some ⟨fb, 0, none⟩)] w fun e w' => e = .returned (.tuple #[]) ∧ w.grownBy w' (some nb) ∧ Bx w' nb #[.int .i64 (textZ n s)] := by
  have Hn := Lib.hid (fun k h => @bytesZ_next n s k h)
  go_enter Tryd.func62, Tryd.ntmps62
  go_wp2
  go_loopw [6] (fun i wr => ∃ (k : Nat) (m : Int), k ≤ s.length ∧ i = .int .i64 k ∧ m = bytesZ n (s.take k) ∧ 0 ≤ m ∧ m < 1000003 ∧ w.grownBy wr (some nb) ∧ Bx wr nb #[.int .i64 m]) (fun i _ => s.length - (intOf i).toNat)
  case atStart => exact ⟨0, n, by omega, rfl, rfl, h0, h1, World.grownBy.refl _ _, hB⟩
  case round =>
    obtain ⟨k, m, hk, rfl, hm, m0, m1, hg, hBr⟩ := hrel
    have Hm := Lib.hid hm
    clear hm
    have hFr := hF.grown hg (fun j hj => by injection hj with hj; omega)
    obtain ⟨hfl, hfc, _⟩ := hFr.out
    have f0 := hfc 0
    unfold mixFn at f0
    clear hfc
    by_cases hlt : k < s.length
    · have hb : (nth s k).toNat < 256 := (nth s k).toNat_lt
      have hwr : IntKind.i64.wrap ((nth s k).toNat : Int) = ((nth s k).toNat : Int) := by
        unfold IntKind.wrap
        simp [IntKind.bits, IntKind.signed]
        omega
      go_wp2
      go_region_law (go_simp; go_at_call 61; (try rw [hwr]); refine (mix_i m ((nth s k).toNat : Int) nb _ (hBr.x (by (repeat (first | exact X.refl _ | assumption | refine X.ext ?_ _ | refine X.alloc ?_ _ | refine X.drew ?_)))) m0 m1 (by omega) (by omega)).mono ?_; rintro _ w3 ⟨rfl, hg3, hB3⟩)
      all_goals
        go_wp2
        go_roundw
        case rel => exact ⟨k + 1, mixZ m ((nth s k).toNat : Int), by omega, by go_num, by rw [Hn.out k hlt, Hm.out], (mixZ_rng _ _).1, (mixZ_rng _ _).2, hg.trans (X.grown (by (repeat (first | exact X.refl _ | assumption | refine X.ext ?_ _ | refine X.alloc ?_ _ | refine X.drew ?_))) hg3), hB3⟩
        case measure => simp [intOf]; omega
    · obtain rfl : k = s.length := by omega
      go_wp2_with (go_at_call 61; refine (mix_i m 0 nb _ hBr m0 m1 (by omega) (by omega)).mono ?_; rintro _ w3 ⟨rfl, hg3, hB3⟩)
      refine bodyPost_end (results_none Tryd.results62 _ _ _) rfl ?_
      refine ⟨rfl, hg.trans hg3, ?_⟩
      rw [textZ, ← List.take_length (l := s), ← Hm.out]
      exact hB3

end Go.Proofs.YtebnjkjllinabaaDoor

namespace Go.Proofs.YtebnjkjllinabaaDoor
open Go.RowKit

section
variable {P : Program} {w : World} {a : Addr} {m : Mode}
@[go_sem] theorem run_store_func (f : Fn) (x y : Array Value) : (store a (.func f x y) m).run P w = stored P w a (.func f x y) m := run_store P w a _ m rfl
end

set_option maxRecDepth 100000 in
set_option maxHeartbeats 1000000 in
theorem HashOf_c (l : List St) (a : Option Addr) (n c B : Nat) (w : World) (hS : StmtsAt w B a n l) (hv : bodyB l = true) (hG : Gm w) :
    Calls Tryd.prog 25 #[.slice a n c] w fun e w' => e = .returned (.int .i64 (hashZ l)) ∧ X w w' := by
  have hn := hS.2.1
  have hl := hS.1
  have Hn := Lib.hid (fun k h => @hashZ_next l k h)
  have Hl := Lib.hid hl
  clear hl
  go_enter Tryd.func25, Tryd.ntmps25
  go_wp2_with fail
  refine calls_name (fun W0 hW0 => ?_)
  have hX0 : X w W0 := by rw [hW0]; (repeat (first | with_reducible exact X.refl _ | with_reducible assumption | with_reducible refine X.setCell ?_ (by first | (simp; done) | (simp; omega)) _ | with_reducible refine X.ext ?_ _ | with_reducible refine X.alloc ?_ _ | with_reducible refine X.drew ?_))
  clear hW0
  refine (ValidBody_c l a n c B W0 (hS.mono (hX0.fr _)) (hG.mono hX0)).mono ?_
  rintro _ w1 ⟨rfl, hx1⟩
  rw [hv]
  have hX1 := hX0.trans hx1
  clear hX0 hx1
  go_wp2
  refine wp_name (fun W2 hW2 => ?_)
  obtain ⟨hN0, hF0, hX2⟩ := bx2 hW2
  have hs2 : W2.heap.size = w1.heap.size + 2 := by rw [hW2]; simp
  clear hW2
  have hF1 : Bx W2 (w1.heap.size + 1) #[mixFn w1.heap.size] := hF0
  clear hF0
  have hXs := hX1.size
  generalize w1.heap.size = nb at *
  go_loopw [15] (fun i wr => ∃ (k : Nat) (m : Int), k ≤ n ∧ i = .int .i64 k ∧ m = hashZ (l.take k) ∧ 0 ≤ m ∧ m < 1000003 ∧ X w wr ∧ nb + 2 ≤ wr.heap.size ∧ Bx wr nb #[.int .i64 m] ∧ Bx wr (nb + 1) #[mixFn nb]) (fun i _ => n - (intOf i).toNat)
  case atStart => exact ⟨0, 1, by omega, rfl, rfl, by omega, by omega, hX1.trans hX2, by omega, hN0, hF1⟩
  case round =>
    obtain ⟨k, m, hk, rfl, hm, m0, m1, hX, hsz, hN, hF⟩ := hrel
    clear hX1 hX2 hs2 hN0 hF1
    by_cases hlt : k < n
    · obtain ⟨b, off, rfl, _, hb, hok, g0, g1, g2, g3, g4⟩ := (hS.mono (hX.fr _)).at_ hlt
      have Hm := Lib.hid hm
      clear hm
      obtain ⟨k1, k3⟩ : (nth l k).mod.length ≤ 1048576 ∧ (nth l k).name.length ≤ 1048576 := hok
      obtain ⟨⟨r0, r1⟩, ⟨r2, r3⟩, ⟨r4, r5⟩⟩ := stB_rng (bodyB_at hv (by rw [← Hl.out]; exact hlt))
      obtain ⟨lf, cf, _⟩ := hF.out
      have f0 := cf 0
      unfold mixFn at f0
      clear cf
      go_wp2_with fail
      refine calls_name (fun W3 hW3 => ?_)
      have hB3 : Bx W3 wr.heap.size #[.int .i64 (nth l k).kind, .string ⟨((nth l k).mod).toArray⟩, .int .i64 (nth l k).level, .string ⟨((nth l k).name).toArray⟩, .int .i64 (nth l k).val] := by rw [hW3]; first | exact Bx.new _ _ _ | exact Bx.set (Bx.set (Bx.set (Bx.set (Bx.set (Bx.new _ _ _) 0 _) 1 _) 2 _) 3 _) 4 _
      have hp3 : X wr W3 := by rw [hW3]; (repeat (first | with_reducible exact X.refl _ | with_reducible assumption | with_reducible refine X.setCell ?_ (by first | (simp; done) | (simp; omega)) _ | with_reducible refine X.ext ?_ _ | with_reducible refine X.alloc ?_ _ | with_reducible refine X.drew ?_))
      clear hW3 f0 lf
      refine (mix_i m (nth l k).kind nb W3 (hN.x hp3) m0 m1 r0 r1).mono ?_
      rintro _ w4 ⟨rfl, hg4, hN4⟩
      have hF4 := (hF.x hp3).grown hg4 (fun j hj => by injection hj with hj; omega)
      have hB4 := hB3.grown hg4 (fun j hj => by injection hj with hj; omega)
      obtain ⟨lf4, cf4, _⟩ := hF4.out
      have f04 := cf4 0
      unfold mixFn at f04
      obtain ⟨lb4, cb4, _⟩ := hB4.out
      have e04 := cb4 0
      have e14 := cb4 1
      have e24 := cb4 2
      have e34 := cb4 3
      have e44 := cb4 4
      clear cf4 cb4
      go_wp2_with fail
      refine (mix_i (mixZ m (nth l k).kind) (nth l k).level nb w4 hN4 (mixZ_rng _ _).1 (mixZ_rng _ _).2 r2 r3).mono ?_
      rintro _ w5 ⟨rfl, hg5, hN5⟩
      clear f04 lf4 e04 e14 e24 e34 e44 lb4
      have hF5 := hF4.grown hg5 (fun j hj => by injection hj with hj; omega)
      have hB5 := hB4.grown hg5 (fun j hj => by injection hj with hj; omega)
      obtain ⟨lf5, cf5, _⟩ := hF5.out
      have f05 := cf5 0
      unfold mixFn at f05
      obtain ⟨lb5, cb5, _⟩ := hB5.out
      have e05 := cb5 0
      have e15 := cb5 1
      have e25 := cb5 2
      have e35 := cb5 3
      have e45 := cb5 4
      clear cf5 cb5
      go_wp2_with fail
      refine (mix_i (mixZ (mixZ m (nth l k).kind) (nth l k).level) (nth l k).val nb w5 hN5 (mixZ_rng _ _).1 (mixZ_rng _ _).2 r4 r5).mono ?_
      rintro _ w6 ⟨rfl, hg6, hN6⟩
      clear f05 lf5 e05 e15 e25 e35 e45 lb5
      have hF6 := hF5.grown hg6 (fun j hj => by injection hj with hj; omega)
      have hB6 := hB5.grown hg6 (fun j hj => by injection hj with hj; omega)
      obtain ⟨lf6, cf6, _⟩ := hF6.out
      have f06 := cf6 0
      unfold mixFn at f06
      obtain ⟨lb6, cb6, _⟩ := hB6.out
      have e06 := cb6 0
      have e16 := cb6 1
      have e26 := cb6 2
      have e36 := cb6 3
      have e46 := cb6 4
      clear cf6 cb6
      go_wp2_with fail
      refine (text_i (mixZ (mixZ (mixZ m (nth l k).kind) (nth l k).level) (nth l k).val) (nth l k).mod nb (nb + 1) w6 hN6 hF6 (by omega) (mixZ_rng _ _).1 (mixZ_rng _ _).2 (by omega)).mono ?_
      rintro _ w7 ⟨rfl, hg7, hN7⟩
      clear f06 lf6 e06 e16 e26 e36 e46 lb6
      have hF7 := hF6.grown hg7 (fun j hj => by injection hj with hj; omega)
      have hB7 := hB6.grown hg7 (fun j hj => by injection hj with hj; omega)
      obtain ⟨lf7, cf7, _⟩ := hF7.out
      have f07 := cf7 0
      unfold mixFn at f07
      obtain ⟨lb7, cb7, _⟩ := hB7.out
      have e07 := cb7 0
      have e17 := cb7 1
      have e27 := cb7 2
      have e37 := cb7 3
      have e47 := cb7 4
      clear cf7 cb7
      go_wp2_with fail
      refine (text_i (textZ (mixZ (mixZ (mixZ m (nth l k).kind) (nth l k).level) (nth l k).val) (nth l k).mod) (nth l k).name nb (nb + 1) w7 hN7 hF7 (by omega) (textZ_rng _ _).1 (textZ_rng _ _).2 (by omega)).mono ?_
      rintro _ w8 ⟨rfl, hg8, hN8⟩
      clear f07 lf7 e07 e17 e27 e37 e47 lb7
      have hF8 := hF7.grown hg8 (fun j hj => by injection hj with hj; omega)
      have hg : W3.grownBy w8 (some nb) := (((hg4.trans hg5).trans hg6).trans hg7).trans hg8
      have hX8 : X w w8 := X.of_below (((hX.trans hp3).below).grown hg (hX.trans hp3).size (fun g hg => by injection hg with hg; omega))
      have hsz8 : nb + 2 ≤ w8.heap.size := Nat.le_trans hsz (Nat.le_trans hp3.size hg.size)
      go_wp2
      go_roundw
      case rel => exact ⟨k + 1, stZ m (nth l k), by omega, by go_num, by rw [Hn.out k (by rw [← Hl.out]; exact hlt), Hm.out], (textZ_rng _ _).1, (textZ_rng _ _).2, hX8, hsz8, hN8, hF8⟩
      case measure => simp [intOf]; omega
    · obtain rfl : k = n := by omega
      have hme : m = hashZ l := by rw [hm, List.take_of_length_le (by rw [← Hl.out]; omega)]
      have Hme := Lib.hid hme
      clear hme hm
      obtain ⟨ln, cn, _⟩ := hN.out
      have n0 := cn 0
      clear cn
      go_wp2
      go_ret
      exact ⟨ret_intH (by rw [Hme.out]), hX⟩
end Go.Proofs.YtebnjkjllinabaaDoor

namespace Go.Proofs.YtebnjkjllinabaaDoor
open Go.RowKit

theorem run_append_none_c {P : Program} {w : World} (base : Nat) (t ty e : TypeId) (i : TypeInfo) (size : Nat) (ht : P.underlying t = some (.slice e)) (hi : P.info? e = some i)
    (v : Value) (n c : Nat) (xs : List Value) (hown : w.ownsRow base e size v n xs) :
    (Builtin.append_ #[t, t] ty #[v, .slice none 0 c]).run P w = .ok v w := by
  rcases hown.2 with ⟨rfl, rfl⟩ | ⟨g, cap, cur, rfl, _, _, hnc, _⟩
  · simp [Builtin.append_, run_underlying ht, sizeOf, typeInfo, hi, Builtin.lenOf, Builtin.firstCells]
  · simp [Builtin.append_, run_underlying ht, sizeOf, typeInfo, hi, Builtin.lenOf, Builtin.firstCells, hnc, storeCells]
theorem wpList_append_none_c {P : Program} {w : World} {ops : Array Oper} {rest : List Oper} {o : Oper} {a : Act} {Q : Exit → Act → World → Prop} (hgd : o.guard = none) (s x : Operand) (t : TypeId)
    (ho : o.op = .call { callee := .builtin .append, args := #[s, x], argTypes := #[t, t] })
    (base : Nat) (e : TypeId) (i : TypeInfo) (size : Nat) (ht : P.underlying t = some (.slice e)) (hi : P.info? e = some i)
    (v : Value) (n c : Nat) (xs : List Value) (hs : a.eval s = v) (hown : w.ownsRow base e size v n xs) (hx : a.eval x = .slice none 0 c)
    (h : wpList P ops Q rest (a.put o.dst v) w) : wpList P ops Q (o :: rest) a w := by
  refine wpList_plain hgd fun K hK => ?_
  have hrun := run_append_none_c (P := P) (w := w) base t o.type e i size ht hi v n c xs hown
  unfold Oper.wp
  simp [execOp, ho, resolve, invoke, builtin, hs, hx, hrun, Result.andThen]
  exact hK _ _ h
/-- append of a whole slice, wherever it lies. -/
theorem wpList_append_sl {P : Program} {ops : Array Oper} {rest : List Oper} {o : Oper} {a : Act} {Q : Exit → Act → World → Prop} {t e size bytes : Nat} (hT : AppT P t e size bytes) (hgd : o.guard = none) (s x : Operand)
    (ho : o.op = .call { callee := .builtin .append, args := #[s, x], argTypes := #[t, t] }) {w : World} {B B' : Nat} {v : Value} {n : Nat} {xs : List Value}
    (hown : w.ownsRow B e size v n xs) (hs : a.eval s = v) {sa : Option Addr} {m c : Nat} {news : List Value} (hx : a.eval x = .slice sa m c) (hsl : Sl w B' sa m news) (hl : news.length = m * size) (h1 : ∀ u ∈ news, u.oneCell' = true)
    (hb : (n + m) * bytes ≤ 140737488355328) (hn : n + m ≤ maxLen) (hBw : B ≤ w.heap.size)
    (h : ∀ a' c' w', w'.ownsRow B e size (.slice a' (n + m) c') (n + m) (xs ++ news) → w.grownBy w' v.ownBlock → wpList P ops Q rest (a.put o.dst (.slice a' (n + m) c')) w') :
    wpList P ops Q (o :: rest) a w := by
  obtain ⟨i, z, hi, hz, hsize, hby, hzs⟩ := hT.hi
  cases sa with
  | none =>
    have hm : m = 0 := by
      rcases Nat.eq_zero_or_pos m with h0 | h0
      · exact h0
      · obtain ⟨b, off, ha, _⟩ := hsl h0; cases ha
    subst hm
    have hnil : news = [] := by rw [Nat.zero_mul] at hl; exact List.length_eq_zero_iff.1 hl
    subst hnil
    obtain ⟨a', c', rfl⟩ := own_slice hown
    exact wpList_append_none_c hgd s x t ho B e i size hT.ht hi _ n c xs hs hown hx (h a' c' w (by simpa using hown) (World.grownBy.refl _ _))
  | some ad =>
    refine wpList_append_own _ hgd s x t ho B e i z size bytes hT.ht hi hz hsize hby hzs hT.hsz v n xs hs hown ad m c news hx hl (fun j u hu => ?_) h1 hn hb hBw ?_
    · have hj : j < news.length := (List.getElem?_eq_some_iff.1 hu).1
      have hm : 0 < m := by
        rcases Nat.eq_zero_or_pos m with h0 | h0
        · subst h0; omega
        · exact h0
      obtain ⟨b, off, ha, _, hb, hc⟩ := hsl hm
      injection ha with ha
      subst ha
      have hadd : (⟨b, off, none⟩ : Addr).add j = ⟨b, off + j, none⟩ := by unfold Addr.add; split <;> simp_all
      rw [hadd, hc j hj, ← hu, List.getElem?_eq_getElem hj]
    · intro v' w' hown' hgr _
      obtain ⟨a', c', rfl⟩ := own_slice hown'
      exact h a' c' w' hown' hgr
theorem X.of_lit {w w1 : World} {o : Obj} (hg : (w.alloc o).grownBy w1 (some w.heap.size)) : X w w1 :=
  X.of_below ((X.below ((X.refl w).alloc o)).grown hg (by simp) (fun k hk => by injection hk with hk; omega))
theorem X.of_litR {w w1 : World} {o : Obj} {row : Option Nat} (hg : (w.alloc o).grownBy w1 row) (hr : row = some w.heap.size) : X w w1 := by
  subst hr; exact X.of_lit hg
theorem bx2_of {w W : World} {c1 c2 : Array Value} {t1 t2 : TypeId} (h : X ((w.alloc (.cells c1 t1)).alloc (.cells c2 t2)) W) : Bx W w.heap.size c1 ∧ Bx W (w.heap.size + 1) c2 ∧ X w W := by
  obtain ⟨h1, h2, h3⟩ := bx2 (W := (w.alloc (.cells c1 t1)).alloc (.cells c2 t2)) rfl
  exact ⟨h1.x h, h2.x h, h3.trans h⟩
theorem scells_one (l : List St) : ∀ u ∈ l.flatMap scells, u.oneCell' = true := by
  intro u hu
  obtain ⟨s, _, hs⟩ := List.mem_flatMap.1 hu
  simp only [scells, List.mem_cons, List.not_mem_nil, or_false] at hs
  rcases hs with rfl | rfl | rfl | rfl | rfl <;> rfl
theorem scells_len (l : List St) : (l.flatMap scells).length = l.length * 5 := flat_length 5 scells (fun _ => rfl) l
theorem stmt_T' : AppT Tryd.prog 39 66 5 56 := AppT.of (z := .agg #[.int .i64 0, .string ⟨#[]⟩, .int .i64 0, .string ⟨#[]⟩, .int .i64 0]) (by kernel_rfl) (by kernel_rfl) rfl (by omega)

set_option maxRecDepth 100000 in
set_option maxHeartbeats 1000000 in
theorem cloneBody_c (l : List St) (a : Option Addr) (n c B : Nat) (w : World) (hS : StmtsAt w B a n l) :
    Calls Tryd.prog 56 #[.slice a n c] w fun e w' => ∃ ra rc, e = .returned (.slice ra n rc) ∧ w'.ownsRow w.heap.size 66 5 (.slice ra n rc) n (l.flatMap scells) ∧ X w w' := by
  have hn := hS.2.1
  have hl : (l.flatMap scells).length = n * 5 := by rw [scells_len, hS.1]
  have Hl := Lib.hid hl
  clear hl
  go_enter Tryd.func56, Tryd.ntmps56
  go_wp2_with (at_builtin; refine wpList_append_sl stmt_T' rfl _ _ rfl (own_lit (n := 0) (size := 5) rfl (Nat.le_refl _) rfl (by omega)) rfl rfl (hS.mono (X.fr (by (repeat (first | with_reducible exact X.refl _ | with_reducible assumption | with_reducible refine X.setCell ?_ (by first | (simp; done) | (simp; omega)) _ | with_reducible refine X.ext ?_ _ | with_reducible refine X.alloc ?_ _ | with_reducible refine X.drew ?_))) B)).2.2.2 Hl.out (scells_one l) (by omega) (by unfold maxLen; omega) (by simp) ?_; intro a' c' w1 hO1 hg1)
  go_ret
  refine ⟨a', c', rfl, by simpa using hO1, ?_⟩
  exact X.of_lit hg1

theorem file_S2 : StrT Tryd.prog 43 6 := ⟨⟨_, Tryd.underlying43⟩, by kernel_rfl⟩
theorem at_x2' {w w' : World} {b : Nat} {o : Obj} (h : w.heap[b]? = some o) (hx : X w w') : w'.heap[b]? = some o := (hx.below.block b (Array.getElem?_eq_some_iff.1 h).1).trans h
theorem file_T' : AppT Tryd.prog 23 43 6 80 := AppT.of (z := .agg #[.int .i64 0, .string ⟨#[]⟩, .string ⟨#[]⟩, .bool false, .int .i64 0, .slice none 0 0]) (by kernel_rfl) (by kernel_rfl) rfl (by omega)
end Go.Proofs.YtebnjkjllinabaaDoor

namespace Go.Proofs.YtebnjkjllinabaaDoor
open Go.RowKit

structure Co where
  root : Int
  mod : List UInt8
  init : Bool
  mode : Int
  stamp : Int
  size : Int
  hash : Int
  body : List St
deriving DecidableEq, Inhabited
def ccells (x : Co × Value) : List Value := [.int .i64 x.1.root, .string ⟨(x.1.mod).toArray⟩, .bool x.1.init, .int .i64 x.1.mode, .int .i64 x.1.stamp, .int .i64 x.1.size, .int .i64 x.1.hash, x.2]
instance : Inhabited (Co × Value) := ⟨(default, undef)⟩
theorem ccells8 (x : Co × Value) : (ccells x).length = 8 := rfl
def CosAt (w : World) (B : Nat) (a : Option Addr) (n : Nat) (l : List Co) : Prop :=
  ∃ vs : List (Co × Value), l = vs.map (·.1) ∧ n = l.length ∧ n ≤ 2097152 ∧ (∀ c ∈ l, c.mod.length ≤ 4194304) ∧ Sl w B a n (vs.flatMap ccells) ∧
    ∀ x ∈ vs, ∃ ba bn bc, x.2 = .slice ba bn bc ∧ bn ≤ bc ∧ StmtsAt w B ba bn x.1.body
theorem CosAt.len {w : World} {B : Nat} {a : Option Addr} {n : Nat} {l : List Co} (h : CosAt w B a n l) : n = l.length ∧ n ≤ 2097152 := by
  obtain ⟨vs, _, h1, h2, _⟩ := h; exact ⟨h1, h2⟩
theorem CosAt.mono {w w' : World} {B : Nat} {a : Option Addr} {n : Nat} {l : List Co} (h : CosAt w B a n l) (hx : Fr B w w') : CosAt w' B a n l := by
  obtain ⟨vs, h0, h1, h2, h3, h4, h5⟩ := h
  exact ⟨vs, h0, h1, h2, h3, h4.mono hx, fun x hm => let ⟨ba, bn, bc, e, hc, hs⟩ := h5 x hm; ⟨ba, bn, bc, e, hc, hs.mono hx⟩⟩
theorem CosAt.less {w : World} {B B' : Nat} {a : Option Addr} {n : Nat} {l : List Co} (h : CosAt w B a n l) (hB : B' ≤ B) : CosAt w B' a n l := by
  obtain ⟨vs, h0, h1, h2, h3, h4, h5⟩ := h
  exact ⟨vs, h0, h1, h2, h3, h4.less hB, fun x hm => let ⟨ba, bn, bc, e, hc, hs⟩ := h5 x hm; ⟨ba, bn, bc, e, hc, hs.less hB⟩⟩
theorem nth_map_fstC {vs : List (Co × Value)} {k : Nat} (hk : k < vs.length) : nth (vs.map (·.1)) k = (nth vs k).1 := by
  rw [nth_eq (by simpa using hk), nth_eq hk, List.getElem_map]
theorem CosAt.at_ {w : World} {B : Nat} {a : Option Addr} {n : Nat} {l : List Co} (h : CosAt w B a n l) {k : Nat} (hk : k < n) :
    ∃ b off ba bn bc, a = some ⟨b, off, none⟩ ∧ B ≤ b ∧ b < w.heap.size ∧ (nth l k).mod.length ≤ 4194304 ∧ bn ≤ bc ∧ StmtsAt w B ba bn (nth l k).body ∧
      w.cell? ⟨b, off + k * 8, none⟩ = some (.int .i64 (nth l k).root) ∧ w.cell? ⟨b, off + k * 8 + 1, none⟩ = some (.string ⟨((nth l k).mod).toArray⟩) ∧ w.cell? ⟨b, off + k * 8 + 2, none⟩ = some (.bool (nth l k).init) ∧
      w.cell? ⟨b, off + k * 8 + 3, none⟩ = some (.int .i64 (nth l k).mode) ∧ w.cell? ⟨b, off + k * 8 + 4, none⟩ = some (.int .i64 (nth l k).stamp) ∧ w.cell? ⟨b, off + k * 8 + 5, none⟩ = some (.int .i64 (nth l k).size) ∧
      w.cell? ⟨b, off + k * 8 + 6, none⟩ = some (.int .i64 (nth l k).hash) ∧ w.cell? ⟨b, off + k * 8 + 7, none⟩ = some (.slice ba bn bc) := by
  obtain ⟨vs, rfl, h1, h2, h3, h4, h5⟩ := h
  have hl : k < vs.length := by simpa [h1] using hk
  obtain ⟨b, off, ha, hB, hb, hc⟩ := h4.elem (s := 8) (fun _ => rfl) (by simpa using h1) hk
  obtain ⟨ba, bn, bc, e, hbc, hs⟩ := h5 _ (nth_mem hl)
  rw [nth_map_fstC hl]
  refine ⟨b, off, ba, bn, bc, ha, hB, hb, ?_, hbc, hs, hc 0 (by omega), hc 1 (by omega), hc 2 (by omega), hc 3 (by omega), hc 4 (by omega), hc 5 (by omega), hc 6 (by omega), ?_⟩
  · exact h3 _ (List.mem_map_of_mem (nth_mem hl))
  · rw [← e]; exact hc 7 (by omega)

/-! ### The call's own -/
def SepC (vs : List (Co × Value)) : Prop := vs.Pairwise fun x y => x.2.ownBlock = none ∨ y.2.ownBlock = none ∨ y.2.ownBlock ≠ x.2.ownBlock
def BodyC (w : World) (B : Nat) (x : Co × Value) : Prop := ∃ ba bc, x.2 = .slice ba x.1.body.length bc ∧ w.ownsRow B 66 5 (.slice ba x.1.body.length bc) x.1.body.length (x.1.body.flatMap scells)
theorem BodyC.grown {w w' : World} {B g : Nat} {x : Co × Value} {cs : Array Value} (h : BodyC w B x) (hg : w.grownBy w' (some g)) (hb : w.heap[g]? = some (.cells cs 49 (0, 0))) : BodyC w' B x := by
  obtain ⟨ba, bc, e, ho⟩ := h
  exact ⟨ba, bc, e, ho.kept hg (.inr (own_ne_at ho hb (by decide)))⟩
theorem BodyC.kept {w w' : World} {B : Nat} {x : Co × Value} {row : Option Nat} (h : BodyC w B x) (hg : w.grownBy w' row) (hr : x.2.ownBlock = none ∨ x.2.ownBlock ≠ row) : BodyC w' B x := by
  obtain ⟨ba, bc, e, ho⟩ := h
  rw [e] at hr
  exact ⟨ba, bc, e, ho.kept hg hr⟩
theorem BodyC.fr {w w' : World} {B : Nat} {x : Co × Value} (h : BodyC w B x) (hx : Fr B w w') : BodyC w' B x := by
  obtain ⟨ba, bc, e, ho⟩ := h
  exact ⟨ba, bc, e, own_fr ho hx⟩
theorem BodyC.less {w : World} {B B' : Nat} {x : Co × Value} (h : BodyC w B x) (hB : B' ≤ B) : BodyC w B' x := by
  obtain ⟨ba, bc, e, ho⟩ := h
  exact ⟨ba, bc, e, own_less ho hB⟩
/-- A store of the call's own: the table and each body is a row of its own. -/
def CosO (w : World) (B : Nat) (a : Option Addr) (n c : Nat) (l : List Co) : Prop :=
  ∃ vs : List (Co × Value), l = vs.map (·.1) ∧ n = l.length ∧ w.ownsRow B 49 8 (.slice a n c) n (vs.flatMap ccells) ∧ SepC vs ∧ ∀ x ∈ vs, BodyC w B x
theorem CosO.fr {w w' : World} {B n c : Nat} {a : Option Addr} {l : List Co} (h : CosO w B a n c l) (hx : Fr B w w') : CosO w' B a n c l := by
  obtain ⟨vs, e, h1, h2, hs, h3⟩ := h
  exact ⟨vs, e, h1, own_fr h2 hx, hs, fun x hm => (h3 x hm).fr hx⟩
theorem CosO.less {w : World} {B B' n c : Nat} {a : Option Addr} {l : List Co} (h : CosO w B a n c l) (hB : B' ≤ B) : CosO w B' a n c l := by
  obtain ⟨vs, e, h1, h2, hs, h3⟩ := h
  exact ⟨vs, e, h1, own_less h2 hB, hs, fun x hm => (h3 x hm).less hB⟩
def OkC (l : List Co) : Prop := l.length ≤ 2097152 ∧ ∀ c ∈ l, c.mod.length ≤ 4194304 ∧ c.body.length ≤ 2097152 ∧ ∀ s ∈ c.body, Oks s
theorem CosAt.okC {w : World} {B n : Nat} {a : Option Addr} {l : List Co} (h : CosAt w B a n l) : OkC l := by
  obtain ⟨vs, e, h1, h2, h3, _, h5⟩ := h
  refine ⟨by omega, fun f hf => ⟨h3 f hf, ?_⟩⟩
  rw [e] at hf
  obtain ⟨x, hx, rfl⟩ := List.mem_map.1 hf
  obtain ⟨ba, bn, bc, _, _, hS⟩ := h5 x hx
  exact ⟨by have := hS.1; have := hS.2.1; omega, hS.2.2.1⟩
theorem CosO.at {w : World} {B n c : Nat} {a : Option Addr} {l : List Co} (h : CosO w B a n c l) (hk : OkC l) : CosAt w B a n l := by
  obtain ⟨vs, e, h1, h2, _, h3⟩ := h
  refine ⟨vs, e, h1, by have := hk.1; omega, fun f hf => (hk.2 f hf).1, Sl.of_own h2, fun x hx => ?_⟩
  obtain ⟨ba, bc, e2, ho⟩ := h3 x hx
  have hm : x.1 ∈ l := by rw [e]; exact List.mem_map.2 ⟨x, hx, rfl⟩
  exact ⟨ba, _, bc, e2, own_cap ho, rfl, (hk.2 _ hm).2.1, (hk.2 _ hm).2.2, Sl.of_own ho⟩
/-- A store of the call's own, in blocks before E. -/
def CosE (w : World) (B E : Nat) (a : Option Addr) (n c : Nat) (l : List Co) : Prop :=
  ∃ vs : List (Co × Value), l = vs.map (·.1) ∧ n = l.length ∧ w.ownsRow B 49 8 (.slice a n c) n (vs.flatMap ccells) ∧ SepC vs ∧ (∀ x ∈ vs, BodyC w B x) ∧
    (∀ b, (Value.slice a n c).ownBlock = some b → b < E) ∧ ∀ x ∈ vs, ∀ b, x.2.ownBlock = some b → b < E
theorem CosO.e {w : World} {B n c : Nat} {a : Option Addr} {l : List Co} (h : CosO w B a n c l) : CosE w B w.heap.size a n c l := by
  obtain ⟨vs, e, h1, h2, hs, h3⟩ := h
  exact ⟨vs, e, h1, h2, hs, h3, fun b hb => (h2.lt b hb).2, fun x hx b hb => by obtain ⟨ba, bc, e, ho⟩ := h3 x hx; rw [e] at hb; exact (ho.lt b hb).2⟩
theorem CosE.fr {w w' : World} {B E n c : Nat} {a : Option Addr} {l : List Co} (h : CosE w B E a n c l) (hx : Fr B w w') : CosE w' B E a n c l := by
  obtain ⟨vs, e, h1, h2, hs, h3, h4, h5⟩ := h
  exact ⟨vs, e, h1, own_fr h2 hx, hs, fun x hm => (h3 x hm).fr hx, h4, h5⟩
theorem CosE.o {w : World} {B E n c : Nat} {a : Option Addr} {l : List Co} (h : CosE w B E a n c l) : CosO w B a n c l := by
  obtain ⟨vs, e, h1, h2, hs, h3, _⟩ := h
  exact ⟨vs, e, h1, h2, hs, h3⟩
theorem sepC_at {vs : List (Co × Value)} (h : SepC vs) {i j : Nat} (hi : i < vs.length) (hj : j < vs.length) (hne : i ≠ j) : (nth vs i).2.ownBlock = none ∨ (nth vs j).2.ownBlock = none ∨ (nth vs i).2.ownBlock ≠ (nth vs j).2.ownBlock := by
  unfold SepC at h
  rw [List.pairwise_iff_getElem] at h
  rw [nth_eq hi, nth_eq hj]
  rcases Nat.lt_or_ge i j with h1 | h1
  · rcases h i j hi hj h1 with h | h | h
    · exact .inl h
    · exact .inr (.inl h)
    · exact .inr (.inr (Ne.symm h))
  · rcases h j i hj hi (by omega) with h | h | h
    · exact .inr (.inl h)
    · exact .inl h
    · exact .inr (.inr h)
theorem ccells_last {zs : List (Co × Value)} {j : Nat} (hj : j < zs.length) : (zs.flatMap ccells)[j * 8 + 7]? = some (nth zs j).2 := by
  have hl : j * 8 + 7 < (zs.flatMap ccells).length := by rw [flat_length 8 ccells ccells8]; omega
  rw [List.getElem?_eq_getElem hl, flat_get 8 ccells ccells8 zs j 7 hj (by omega) hl, nth_eq hj]
  rfl
theorem map_snd_setC {zs : List (Co × Value)} {j : Nat} (hj : j < zs.length) {f' : Co} {v : Value} (hv : (nth zs j).2 = v) : (zs.set j (f', v)).map (·.2) = zs.map (·.2) := by
  rw [List.map_set]
  refine List.ext_getElem (by simp) fun i h1 h2 => ?_
  rw [List.getElem_set]
  split
  · rename_i h
    subst h
    rw [List.getElem_map, ← nth_eq hj, hv]
  · rfl
theorem sepC_of {vs zs : List (Co × Value)} (h : SepC vs) (hz : zs.map (·.2) = vs.map (·.2)) : SepC zs := by
  have h1 : (vs.map (·.2)).Pairwise (fun x y : Value => x.ownBlock = none ∨ y.ownBlock = none ∨ y.ownBlock ≠ x.ownBlock) := List.pairwise_map.2 h
  rw [← hz] at h1
  exact List.pairwise_map.1 h1
theorem sndC_nth {vs zs : List (Co × Value)} {n i : Nat} (hz : zs.map (·.2) = vs.map (·.2)) (hv : vs.length = n) (hl : zs.length = n) (hi : i < n) : (nth zs i).2 = (nth vs i).2 := by
  have h1 : (zs.map (·.2))[i]? = (vs.map (·.2))[i]? := by rw [hz]
  rw [List.getElem?_map, List.getElem?_map, List.getElem?_eq_getElem (by omega), List.getElem?_eq_getElem (by omega)] at h1
  rw [nth_eq (by omega), nth_eq (by omega)]
  simpa using h1

/-! ### Marks -/
def wtC : List Co → Nat
  | [] => 0
  | f :: l => 7 + 5 * f.body.length + wtC l
theorem wtC_append (l m : List Co) : wtC (l ++ m) = wtC l + wtC m := by
  induction l with
  | nil => simp [wtC]
  | cons f l ih => simp only [List.cons_append, wtC, ih]; omega
theorem wtC_next {l : List Co} {k : Nat} (hk : k < l.length) : wtC (l.take (k + 1)) = wtC (l.take k) + (7 + 5 * (nth l k).body.length) := by
  rw [take_succ_nth hk, wtC_append]; simp [wtC]
theorem wtC_take (l : List Co) (k : Nat) : wtC (l.take k) ≤ wtC l := by
  have h := wtC_append (l.take k) (l.drop k)
  rw [List.take_append_drop] at h
  omega
def coM (k : Nat) (f : Co) : Co := ⟨(k : Int), mtxt (k + 1), decide ((k + 2) % 3 = 0), ((k + 3 : Nat) : Int), ((k + 4 : Nat) : Int), ((k + 5 : Nat) : Int), ((k + 6 : Nat) : Int), stsM (k + 7) f.body.length⟩
def marksC (k : Nat) : List Co → List Co
  | [] => []
  | f :: l => coM k f :: marksC (k + (7 + 5 * f.body.length)) l
theorem marksC_len : ∀ (l : List Co) (k : Nat), (marksC k l).length = l.length
  | [], _ => rfl
  | f :: l, k => by rw [marksC, List.length_cons, marksC_len l, List.length_cons]
theorem marksC_nth : ∀ (l : List Co) (k j : Nat), j < l.length → nth (marksC k l) j = coM (k + wtC (l.take j)) (nth l j)
  | [], _, _, h => absurd h (by simp)
  | f :: l, k, 0, _ => by simp [marksC, nth, wtC]
  | f :: l, k, j + 1, h => by
    have := marksC_nth l (k + (7 + 5 * f.body.length)) j (by simpa using h)
    rw [marksC, List.take_succ_cons, wtC, show ∀ (x : Co) (m : List Co), nth (x :: m) (j + 1) = nth m j from fun _ _ => rfl, show nth (f :: l) (j + 1) = nth l j from rfl, this, Nat.add_assoc, Nat.add_assoc]
theorem ccells_set {zs : List (Co × Value)} {j : Nat} (hj : j < zs.length) {x : Co × Value} (hx : nth zs j = x) (f' : Co) (v0 v1 v2 v3 v4 v5 v6 : Value) (hv : ccells (f', x.2) = [v0, v1, v2, v3, v4, v5, v6, x.2]) :
    ((((((((zs.flatMap ccells).set (j * 8) v0).set (j * 8 + 1) v1).set (j * 8 + 2) v2).set (j * 8 + 3) v3).set (j * 8 + 4) v4).set (j * 8 + 5) v5).set (j * 8 + 6) v6) = (zs.set j (f', x.2)).flatMap ccells := by
  have hA : ((zs.take j).flatMap ccells).length = j * 8 := by rw [flat_length 8 ccells ccells8, List.length_take, Nat.min_eq_left (by omega)]
  have hz : zs.flatMap ccells = (zs.take j).flatMap ccells ++ (ccells x ++ (zs.drop (j + 1)).flatMap ccells) := by
    rw [← hx, ← List.flatMap_cons, ← drop_nth hj, ← List.flatMap_append, List.take_append_drop]
  have hs : zs.set j (f', x.2) = zs.take j ++ (f', x.2) :: zs.drop (j + 1) := by
    rw [List.set_eq_take_append_cons_drop, if_pos hj]
  rw [hs, List.flatMap_append, List.flatMap_cons, hv, hz]
  generalize (zs.take j).flatMap ccells = A at *
  generalize (zs.drop (j + 1)).flatMap ccells = R at *
  have h0 := set_off (A := A) (Z := ccells x ++ R) 0 v0
  rw [Nat.add_zero] at h0
  rw [← hA, h0, set_off, set_off, set_off, set_off, set_off, set_off]
  rfl

/-! ### Comparing -/
end Go.Proofs.YtebnjkjllinabaaDoor

namespace Go.Proofs.YtebnjkjllinabaaDoor
open Go.RowKit

def sameC (c : Co) (r : Int) (s : List UInt8) (it : Bool) : Bool := c.root == r && c.mod == s && c.init == it
/-- The first of the first m of a store that is of the module. -/
def cidx (l : List Co) (r : Int) (s : List UInt8) (it : Bool) (m : Nat) : Int := firstN (fun k => sameC (nth l k) r s it) m

theorem ret_intC {a b : Int} (h : a = b) : Ending.returned (.int .i64 a) = .returned (.int .i64 b) := by rw [h]
set_option maxRecDepth 100000 in
set_option maxHeartbeats 1000000 in
theorem compiledAt_s (l : List Co) (a : Option Addr) (n c B : Nat) (r : Int) (s : List UInt8) (it : Bool) (w : World) (hD : CosAt w B a n l) :
    Calls Tryd.prog 63 #[.slice a n c, .int .i64 r, .string ⟨(s).toArray⟩, .bool it] w fun e w' => e = .returned (.int .i64 (cidx l r s it n)) ∧ X w w' := by
  have hn := hD.len.2
  go_enter Tryd.func63, Tryd.ntmps63
  go_wp2
  go_loopw [9] (fun i wr => ∃ k : Nat, k ≤ n ∧ i = .int .i64 k ∧ anyN (fun k => sameC (nth l k) r s it) k = false ∧ wr = w) (fun i _ => n - (intOf i).toNat)
  case atStart => exact ⟨0, by omega, rfl, rfl, rfl⟩
  case round =>
    obtain ⟨k, hk, rfl, hno, rfl⟩ := hrel
    by_cases hlt : k < n
    · obtain ⟨b, off, ba, bn, bc, rfl, _, hb, _, _, _, g0, g1, g2, g3, g4, g5, g6, g7⟩ := hD.at_ (k := k) (by omega)
      cases h1 : (nth l k).root == r <;> cases h2 : (nth l k).mod == s <;> cases h3 : (nth l k).init == it
      all_goals go_wp2
      all_goals first
        | (go_roundw
           case rel => exact ⟨k + 1, by omega, by go_num, anyN_next hno (by simp [sameC, h1, h2, h3]), trivial⟩
           case measure => simp [intOf]; omega)
        | (go_ret
           exact ⟨ret_intC (firstN_some (p := fun k => sameC (nth l k) r s it) hno (by simp [sameC, h1, h2, h3]) hlt).symm, by (repeat (first | with_reducible exact X.refl _ | with_reducible assumption | with_reducible refine X.setCell ?_ (by first | (simp; done) | (simp; omega)) _ | with_reducible refine X.ext ?_ _ | with_reducible refine X.alloc ?_ _ | with_reducible refine X.drew ?_))⟩)
    · obtain rfl : k = n := by omega
      go_wp2
      go_ret
      exact ⟨ret_intC (firstN_none (p := fun k => sameC (nth l k) r s it) hno).symm, by (repeat (first | with_reducible exact X.refl _ | with_reducible assumption | with_reducible refine X.setCell ?_ (by first | (simp; done) | (simp; omega)) _ | with_reducible refine X.ext ?_ _ | with_reducible refine X.alloc ?_ _ | with_reducible refine X.drew ?_))⟩

set_option maxRecDepth 100000 in
set_option maxHeartbeats 1000000 in
theorem sameCo_c (d : Co) (bv : Value) (r : Int) (s : List UInt8) (it : Bool) (rb pb ib : Nat) (w : World) (h1 : w.cell? ⟨rb, 0, none⟩ = some (.int .i64 r)) (h2 : w.cell? ⟨pb, 0, none⟩ = some (.string ⟨(s).toArray⟩)) (h3 : w.cell? ⟨ib, 0, none⟩ = some (.bool it)) (l1 : rb < w.heap.size) (l2 : pb < w.heap.size) (l3 : ib < w.heap.size) :
    Calls Tryd.prog 74 #[.agg #[.int .i64 (d).root, .string ⟨(d).mod.toArray⟩, .bool (d).init, .int .i64 (d).mode, .int .i64 (d).stamp, .int .i64 (d).size, .int .i64 (d).hash, bv], .pointer (some ⟨rb, 0, none⟩), .pointer (some ⟨pb, 0, none⟩), .pointer (some ⟨ib, 0, none⟩)] w fun e w' => e = .returned (.bool (sameC d r s it)) ∧ X w w' := by
  cases c1 : d.root == r <;> cases c2 : d.mod == s <;> cases c3 : d.init == it
  all_goals
    go_enter Tryd.func74, Tryd.ntmps74
    go_wp2
    go_ret
    exact ⟨by simp [sameC, c1, c2, c3], by (repeat (first | with_reducible exact X.refl _ | with_reducible assumption | with_reducible refine X.setCell ?_ (by first | (simp; done) | (simp; omega)) _ | with_reducible refine X.ext ?_ _ | with_reducible refine X.alloc ?_ _ | with_reducible refine X.drew ?_))⟩

set_option maxRecDepth 100000 in
set_option maxHeartbeats 1000000 in
theorem IndexFuncC_c (l : List Co) (a : Option Addr) (n c B : Nat) (r : Int) (s : List UInt8) (it : Bool) (rb pb ib : Nat) (w : World) (hD : CosAt w B a n l) (h1 : Bx w rb #[.int .i64 r]) (h2 : Bx w pb #[.string ⟨(s).toArray⟩]) (h3 : Bx w ib #[.bool it]) :
    Calls Tryd.prog 73 #[.slice a n c, .func (.func 74) #[] #[.pointer (some ⟨rb, 0, none⟩), .pointer (some ⟨pb, 0, none⟩), .pointer (some ⟨ib, 0, none⟩)]] w fun e w' => e = .returned (.int .i64 (cidx l r s it n)) ∧ X w w' := by
  have hn := hD.len.2
  go_enter Tryd.func73, Tryd.ntmps73
  go_wp2
  go_loopw [8] (fun i wr => ∃ k : Nat, k ≤ n ∧ i = .int .i64 k ∧ anyN (fun k => sameC (nth l k) r s it) k = false ∧ X w wr) (fun i _ => n - (intOf i).toNat)
  case atStart => exact ⟨0, by omega, rfl, rfl, X.refl _⟩
  case round =>
    obtain ⟨k, hk, rfl, hno, hX⟩ := hrel
    by_cases hlt : k < n
    · obtain ⟨b, off, ba, bn, bc, rfl, _, hb, _, _, _, g0, g1, g2, g3, g4, g5, g6, g7⟩ := (hD.mono (hX.fr _)).at_ (k := k) (by omega)
      obtain ⟨l1, c1, _⟩ := (h1.x hX).out
      obtain ⟨l2, c2, _⟩ := (h2.x hX).out
      obtain ⟨l3, c3, _⟩ := (h3.x hX).out
      have e1 := c1 0
      have e2 := c2 0
      have e3 := c3 0
      cases hs : sameC (nth l k) r s it
      all_goals
        go_wp2_with (go_at_call 74; refine (sameCo_c (nth l k) (.slice ba bn bc) r s it rb pb ib _ e1 e2 e3 l1 l2 l3).mono ?_; rintro _ w3 ⟨rfl, hx3⟩; rw [hs])
      · go_roundw
        case rel => exact ⟨k + 1, by omega, by go_num, anyN_next hno hs, hX.trans hx3⟩
        case measure => simp [intOf]; omega
      · go_ret
        exact ⟨ret_intC (firstN_some (p := fun k => sameC (nth l k) r s it) hno hs hlt).symm, hX.trans hx3⟩
    · obtain rfl : k = n := by omega
      go_wp2
      go_ret
      exact ⟨ret_intC (firstN_none (p := fun k => sameC (nth l k) r s it) hno).symm, hX⟩
set_option maxRecDepth 100000 in
set_option maxHeartbeats 1000000 in
theorem compiledAt_i (l : List Co) (a : Option Addr) (n c B : Nat) (r : Int) (s : List UInt8) (it : Bool) (w : World) (hD : CosAt w B a n l) :
    Calls Tryd.prog 43 #[.slice a n c, .int .i64 r, .string ⟨(s).toArray⟩, .bool it] w fun e w' => e = .returned (.int .i64 (cidx l r s it n)) ∧ X w w' := by
  go_enter Tryd.func43, Tryd.ntmps43
  go_wp2_with fail
  refine calls_name (fun W hW => ?_)
  obtain ⟨h1, h2, h3, hX0⟩ := bx3 hW
  clear hW
  refine (IndexFuncC_c l a n c B r s it _ _ _ W (hD.mono (hX0.fr _)) h1 h2 h3).mono ?_
  rintro _ w2 ⟨rfl, hx2⟩
  go_wp2
  go_ret
  exact ⟨rfl, hX0.trans hx2⟩

end Go.Proofs.YtebnjkjllinabaaDoor

namespace Go.Proofs.YtebnjkjllinabaaDoor
open Go.ChangeShapes Go.WideShapes Go.ChangeAt Go.RowKit Go.Deep

def CosR (w : World) (a : Option Addr) (n : Nat) (l : List Co) : Prop :=
  ∃ vs : List (Co × Value), l = vs.map (·.1) ∧ n = l.length ∧ n ≤ maxLen ∧ (∀ c ∈ l, c.mod.length ≤ maxLen) ∧ Sl w 0 a n (vs.flatMap ccells) ∧
    ∀ x ∈ vs, ∃ ba bn bc, x.2 = .slice ba bn bc ∧ bn ≤ bc ∧ StmtsR w ba bn x.1.body
theorem CosR.mono {w w' : World} {a : Option Addr} {n : Nat} {l : List Co} (h : CosR w a n l) (hx : X w w') : CosR w' a n l := by
  obtain ⟨vs, e, h1, h2, h3, h4, h5⟩ := h
  exact ⟨vs, e, h1, h2, h3, h4.mono (hx.fr _), fun x hm => let ⟨ba, bn, bc, e, hc, hs⟩ := h5 x hm; ⟨ba, bn, bc, e, hc, hs.mono hx⟩⟩
theorem CosR.at_ {w : World} {a : Option Addr} {n : Nat} {l : List Co} (h : CosR w a n l) {k : Nat} (hk : k < n) :
    ∃ b off ba bn bc, a = some ⟨b, off, none⟩ ∧ b < w.heap.size ∧ (nth l k).mod.length ≤ maxLen ∧ bn ≤ bc ∧ StmtsR w ba bn (nth l k).body ∧
      w.cell? ⟨b, off + k * 8, none⟩ = some (.int .i64 (nth l k).root) ∧ w.cell? ⟨b, off + k * 8 + 1, none⟩ = some (.string ⟨((nth l k).mod).toArray⟩) ∧ w.cell? ⟨b, off + k * 8 + 2, none⟩ = some (.bool (nth l k).init) ∧
      w.cell? ⟨b, off + k * 8 + 3, none⟩ = some (.int .i64 (nth l k).mode) ∧ w.cell? ⟨b, off + k * 8 + 4, none⟩ = some (.int .i64 (nth l k).stamp) ∧ w.cell? ⟨b, off + k * 8 + 5, none⟩ = some (.int .i64 (nth l k).size) ∧
      w.cell? ⟨b, off + k * 8 + 6, none⟩ = some (.int .i64 (nth l k).hash) ∧ w.cell? ⟨b, off + k * 8 + 7, none⟩ = some (.slice ba bn bc) := by
  obtain ⟨vs, rfl, h1, h2, h3, h4, h5⟩ := h
  have hl : k < vs.length := by simpa [h1] using hk
  obtain ⟨b, off, ha, _, hb, hc⟩ := h4.elem (s := 8) (fun _ => rfl) (by simpa using h1) hk
  obtain ⟨ba, bn, bc, e, hbc, hs⟩ := h5 _ (nth_mem hl)
  rw [nth_map_fstC hl]
  refine ⟨b, off, ba, bn, bc, ha, hb, ?_, hbc, hs, hc 0 (by omega), hc 1 (by omega), hc 2 (by omega), hc 3 (by omega), hc 4 (by omega), hc 5 (by omega), hc 6 (by omega), ?_⟩
  · exact h3 _ (List.mem_map_of_mem (nth_mem hl))
  · rw [← e]; exact hc 7 (by omega)

/-! ### Sizes -/
def szCo (c : Co) (n : Int) : Int := if n - (c.mod.length : Int) < 0 then -1 else szSts c.body (n - (c.mod.length : Int))
def szCos (l : List Co) (n : Int) : Int := if n - (l.length : Int) < 0 then -1 else szL szCo l (n - (l.length : Int))
theorem szCo_le (c : Co) (n : Int) (h : 0 ≤ szCo c n) : szCo c n ≤ n := by
  unfold szCo at h ⊢
  split at h <;> rename_i h1
  · omega
  · rw [if_neg h1]
    have := szSts_le _ _ h
    omega
theorem szCos_le (l : List Co) (n : Int) (h : 0 ≤ szCos l n) : szCos l n ≤ n := by
  unfold szCos at h ⊢
  split at h <;> rename_i h1
  · omega
  · rw [if_neg h1]
    have := (szL_le szCo_le h).1
    omega
theorem szCos_ok {l : List Co} {n : Int} (h : 0 ≤ szCos l n) : (l.length : Int) ≤ n ∧ ∀ c ∈ l, (c.mod.length : Int) ≤ n ∧ (c.body.length : Int) ≤ n ∧ ∀ s ∈ c.body, (s.mod.length : Int) ≤ n ∧ (s.name.length : Int) ≤ n := by
  unfold szCos at h
  split at h <;> rename_i h1
  · omega
  · refine ⟨by omega, fun c hc => ?_⟩
    obtain ⟨m, hm, h2⟩ := (szL_le szCo_le h).2 c hc
    unfold szCo at h2
    split at h2 <;> rename_i h3
    · omega
    · obtain ⟨h4, h5⟩ := szSts_ok h2
      exact ⟨by omega, by omega, fun s hs => by have := h5 s hs; omega⟩
theorem szCos_neg {l : List Co} {n : Int} (h : szCos l n < 0) : szCos l n = -1 := by
  unfold szCos at h ⊢
  by_cases h0 : n - (l.length : Int) < 0
  · rw [if_pos h0]
  · rw [if_neg h0] at h ⊢
    exact szL_neg (by omega) h
theorem CosR.at {w : World} {a : Option Addr} {n : Nat} {l : List Co} (h : CosR w a n l) {m : Int} (hm : m ≤ 1048576) (hz : 0 ≤ szCos l m) : CosAt w 0 a n l := by
  obtain ⟨z1, z2⟩ := szCos_ok hz
  obtain ⟨vs, e, h1, _, _, h4, h5⟩ := h
  refine ⟨vs, e, h1, by omega, fun c hc => by have := (z2 c hc).1; omega, h4, fun x hx => ?_⟩
  obtain ⟨ba, bn, bc, e2, hbc, hS⟩ := h5 x hx
  obtain ⟨_, b3, b4⟩ := z2 x.1 (by rw [e]; exact List.mem_map.2 ⟨x, hx, rfl⟩)
  exact ⟨ba, bn, bc, e2, hbc, hS.at (by omega) (fun s hs => by have := b4 s hs; omega)⟩
theorem szCo_wt {c : Co} {n : Int} (h : 0 ≤ szCo c n) : szCo c n ≤ n - c.body.length := by
  unfold szCo at h ⊢
  split at h <;> rename_i h1
  · omega
  · rw [if_neg h1]
    have := szSts_wt h
    omega
theorem szLC_wt : ∀ {l : List Co} {n : Int}, 0 ≤ szL szCo l n → (wtC l : Int) ≤ 5 * (n - szL szCo l n) + 7 * l.length
  | [], n, _ => by simp [wtC, szL]
  | f :: l, n, h => by
    unfold szL at h ⊢
    by_cases h0 : szCo f n < 0
    · rw [if_pos h0] at h; omega
    · rw [if_neg h0] at h ⊢
      have h1 := szLC_wt h
      have h2 := szCo_wt (c := f) (n := n) (by omega)
      simp only [wtC, List.length_cons]
      omega
/-- The marks of a store that is not too large stay small. -/
theorem szCos_wt {l : List Co} {m : Int} (hm : m ≤ 1048576) (h : 0 ≤ szCos l m) : wtC l ≤ 12582912 := by
  unfold szCos at h
  split at h <;> rename_i h1
  · omega
  · have := szLC_wt h
    omega

/-! ### Arguments -/
section
variable {H : Type} {enc : TypeId × Value → H} {P : Program} {w : World} {held : Bool}
def CoTy (P : Program) (e : TypeId) : Prop := P.cellsOf e = 8 ∧ ∃ (f0 f1 f2 f3 f4 f5 f6 f7 : Field) (u : TypeId), P.underlying e = some (.struct #[f0, f1, f2, f3, f4, f5, f6, f7]) ∧ FieldAt P f0 0 (.int .i64) ∧ FieldAt P f1 1 .string ∧ FieldAt P f2 2 .bool ∧ FieldAt P f3 3 (.int .i64) ∧ FieldAt P f4 4 (.int .i64) ∧
  FieldAt P f5 5 (.int .i64) ∧ FieldAt P f6 6 (.int .i64) ∧ FieldAt P f7 7 (.slice u) ∧ StsTy P f7.type
def CosTy (P : Program) (t : TypeId) : Prop := ∃ e, P.underlying t = some (.slice e) ∧ CoTy P e
theorem elem_co {e : TypeId} (he : CoTy P e) {fuel : Nat} {cs : List Value} {y : DataW H × List MemPlace} (h : DataW.trod enc P w 0 (fun _ => true) held fuel e cs = some y) :
    ∃ x : Co × Value, cs = ccells x ∧ x.1.mod.length ≤ maxLen ∧ ∃ ba bn bc, x.2 = .slice ba bn bc ∧ bn ≤ bc ∧ StmtsR w ba bn x.1.body := by
  obtain ⟨hC, f0, f1, f2, f3, f4, f5, f6, f7, u, hu, h0, h1, h2, h3, h4, h5, h6, h7, hb⟩ := he
  obtain ⟨xs, n, _, _, hlen, hxl, hf⟩ := DataW.trod_struct hu h
  rw [hC] at hlen
  have hx8 : xs.length = 8 := hxl
  match cs, hlen with
  | [c0, c1, c2, c3, c4, c5, c6, c7], _ =>
    obtain ⟨r, e0, _, _⟩ := DataW.trod_int h0.2.1 (field_of h0 (i := 0) (by omega) (by simp) (hf 0 f0 rfl))
    obtain ⟨pk, e1, _, b1⟩ := DataW.trod_string h1.2.1 (field_of h1 (i := 1) (by omega) (by simp) (hf 1 f1 rfl))
    obtain ⟨it, e2, _⟩ := DataW.trod_bool h2.2.1 (field_of h2 (i := 2) (by omega) (by simp) (hf 2 f2 rfl))
    obtain ⟨mo, e3, _, _⟩ := DataW.trod_int h3.2.1 (field_of h3 (i := 3) (by omega) (by simp) (hf 3 f3 rfl))
    obtain ⟨st, e4, _, _⟩ := DataW.trod_int h4.2.1 (field_of h4 (i := 4) (by omega) (by simp) (hf 4 f4 rfl))
    obtain ⟨sz, e5, _, _⟩ := DataW.trod_int h5.2.1 (field_of h5 (i := 5) (by omega) (by simp) (hf 5 f5 rfl))
    obtain ⟨hs, e6, _, _⟩ := DataW.trod_int h6.2.1 (field_of h6 (i := 6) (by omega) (by simp) (hf 6 f6 rfl))
    obtain ⟨ba, bn, bc, l, e7, hbc, hS⟩ := open_stmts hb (field_of h7 (i := 7) (by omega) (by simp) (hf 7 f7 rfl))
    simp only [List.getElem_cons_zero, List.getElem_cons_succ, List.cons.injEq, and_true] at e0 e1 e2 e3 e4 e5 e6 e7
    subst e0 e1 e2 e3 e4 e5 e6 e7
    exact ⟨(⟨r, pk.data.toList, it, mo, st, sz, hs, l⟩, .slice ba bn bc), rfl, b1, ba, bn, bc, rfl, hbc, hS⟩
theorem open_cos {t : TypeId} (ht : CosTy P t) {fuel : Nat} {cs : List Value} {y : DataW H × List MemPlace} (h : DataW.trod enc P w 0 (fun _ => true) held fuel t cs = some y) :
    ∃ a n c l, cs = [.slice a n c] ∧ n ≤ c ∧ CosR w a n l := by
  obtain ⟨e, hu, he⟩ := ht
  rcases open_slice hu h with ⟨rfl, _⟩ | ⟨a, len, cap, m, n, D, Pl, rfl, _, hl, hm, hmm, _, hi⟩
  · exact ⟨none, 0, 0, [], rfl, Nat.le_refl _, [], rfl, rfl, Nat.zero_le _, fun _ h => (by cases h), fun h => absurd h (by omega), fun _ h => (by cases h)⟩
  · simp only [if_true] at hmm
    obtain ⟨l, hll, hp⟩ := list_of (n := len) (p := fun i (x : Co × Value) => (∀ j (hj : j < 8), w.cell? (a.add (i * 8 + j)) = some ((ccells x)[j]'hj)) ∧ x.1.mod.length ≤ maxLen ∧ ∃ ba bn bc, x.2 = .slice ba bn bc ∧ bn ≤ bc ∧ StmtsR w ba bn x.1.body) (fun i hil => by
      obtain ⟨cs', hc, ht'⟩ := hi i (by omega)
      rw [he.1] at hc
      obtain ⟨x, rfl, hb⟩ := elem_co he ht'
      obtain ⟨_, hcl, hat⟩ := World.cells?_some hc
      refine ⟨x, fun j hj => ?_, hb⟩
      rw [← Go.Deep.add_add]
      have := hat j hj
      rw [this]
      exact List.getElem?_eq_getElem _)
    refine ⟨some a, len, cap, l.map (·.1), rfl, hl, l, rfl, by rw [List.length_map]; exact hll.symm, by omega, fun f hf => ?_, sl_of hll.symm (s := 8) (fun _ => rfl) (by omega) (fun i hil j hj => (hp i hil).1 j hj), fun x hx => ?_⟩
    · obtain ⟨x, hx, rfl⟩ := List.mem_map.1 hf
      obtain ⟨k, hk, rfl⟩ := List.getElem_of_mem hx
      have := (hp k (by omega)).2.1
      rwa [nth_eq hk] at this
    · obtain ⟨k, hk, rfl⟩ := List.getElem_of_mem hx
      have := (hp k (by omega)).2.2
      rwa [nth_eq hk] at this
/-- A store as an argument. -/
theorem arg_cos {t : TypeId} (ht : CosTy P t) {r : Reach} {b0 : Nat} {v : Value} {d : DataW H} {p : List MemPlace} (hv : Value.okWide P w r b0 t v) (h : DataW.Trod enc P w 0 (fun _ => true) held t v d p) :
    ∃ a n c l, v = .slice a n c ∧ n ≤ c ∧ CosR w a n l := by
  have ht' := ht
  obtain ⟨e, hu, _⟩ := ht'
  obtain ⟨a0, len, cap, rfl⟩ := okWide_slice hu hv
  obtain ⟨fuel, hf⟩ := h
  obtain ⟨a, n, c, l, e, hnc, hR⟩ := open_cos ht hf
  simp [Value.cells] at e
  obtain ⟨rfl, rfl, rfl⟩ := e
  exact ⟨_, _, _, l, rfl, hnc, hR⟩
end

end Go.Proofs.YtebnjkjllinabaaDoor

namespace Go.Proofs.YtebnjkjllinabaaDoor
open Go.RowKit

theorem co8_set {w : World} {b : Nat} {u0 u1 u2 u3 u4 u5 u6 u7 : Value} (h : Bx w b #[u0, u1, u2, u3, u4, u5, u6, u7]) (v0 v1 v2 v3 v4 v5 v6 v7 : Value) :
    Bx ((((((((w.setCell ⟨b, 0, none⟩ v0).setCell ⟨b, 1, none⟩ v1).setCell ⟨b, 2, none⟩ v2).setCell ⟨b, 3, none⟩ v3).setCell ⟨b, 4, none⟩ v4).setCell ⟨b, 5, none⟩ v5).setCell ⟨b, 6, none⟩ v6).setCell ⟨b, 7, none⟩ v7) b #[v0, v1, v2, v3, v4, v5, v6, v7] := by
  simpa using (((((((h.set 0 v0).set 1 v1).set 2 v2).set 3 v3).set 4 v4).set 5 v5).set 6 v6).set 7 v7
theorem fill8 {A Z : List Value} {o : Nat} (ho : o = A.length) (hz : 8 ≤ Z.length) (v0 v1 v2 v3 v4 v5 v6 v7 : Value) :
    ((((((((A ++ Z).set o v0).set (o + 1) v1).set (o + 2) v2).set (o + 3) v3).set (o + 4) v4).set (o + 5) v5).set (o + 6) v6).set (o + 7) v7 = A ++ ([v0, v1, v2, v3, v4, v5, v6, v7] ++ Z.drop 8) := by
  subst ho
  match Z, hz with
  | a :: b :: c :: d :: e :: f :: g :: h :: Z, _ =>
    have h0 := set_off (A := A) (Z := a :: b :: c :: d :: e :: f :: g :: h :: Z) 0 v0
    rw [Nat.add_zero] at h0
    rw [h0, set_off, set_off, set_off, set_off, set_off, set_off, set_off]
    rfl
theorem own_set8 {w : World} {B e size n c g : Nat} {xs : List Value} (h : w.ownsRow B e size (.slice (some ⟨g, 0, none⟩) n c) n xs) (o : Nat) (v0 v1 v2 v3 v4 v5 v6 v7 : Value) :
    ((((((((w.setCell ⟨g, o, none⟩ v0).setCell ⟨g, o + 1, none⟩ v1).setCell ⟨g, o + 2, none⟩ v2).setCell ⟨g, o + 3, none⟩ v3).setCell ⟨g, o + 4, none⟩ v4).setCell ⟨g, o + 5, none⟩ v5).setCell ⟨g, o + 6, none⟩ v6).setCell ⟨g, o + 7, none⟩ v7).ownsRow B e size (.slice (some ⟨g, 0, none⟩) n c) n
      ((((((((xs.set o v0).set (o + 1) v1).set (o + 2) v2).set (o + 3) v3).set (o + 4) v4).set (o + 5) v5).set (o + 6) v6).set (o + 7) v7) := own_set (own_set (own_set6 h o v0 v1 v2 v3 v4 v5) v6) v7
theorem co_S' : StrT Tryd.prog 49 8 := ⟨⟨_, Tryd.underlying49⟩, by kernel_rfl⟩
theorem info_co : (Tryd.prog.info? 49).map (fun i => (i.zero, i.size, i.bytes)) = some (some (.agg #[.int .i64 0, .string ⟨#[]⟩, .bool false, .int .i64 0, .int .i64 0, .int .i64 0, .int .i64 0, .slice none 0 0]), 8, 88) := by kernel_rfl

end Go.Proofs.YtebnjkjllinabaaDoor

namespace Go.Proofs.YtebnjkjllinabaaDoor
open Go.RowKit

theorem grown_set8 (w : World) (g o : Nat) (v0 v1 v2 v3 v4 v5 v6 v7 : Value) : w.grownBy ((((((((w.setCell ⟨g, o, none⟩ v0).setCell ⟨g, o + 1, none⟩ v1).setCell ⟨g, o + 2, none⟩ v2).setCell ⟨g, o + 3, none⟩ v3).setCell ⟨g, o + 4, none⟩ v4).setCell ⟨g, o + 5, none⟩ v5).setCell ⟨g, o + 6, none⟩ v6).setCell ⟨g, o + 7, none⟩ v7) (some g) :=
  grown_next (grown_next (grown_next (grown_next (grown_next (grown_next (grown_next (grown_set _ _ _) _ _) _ _) _ _) _ _) _ _) _ _) _ _

end Go.Proofs.YtebnjkjllinabaaDoor
