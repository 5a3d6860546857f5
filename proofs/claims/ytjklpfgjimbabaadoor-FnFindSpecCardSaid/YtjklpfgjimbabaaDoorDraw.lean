/- The generators: what they draw out of a code. No condition but that the reader has not read too far. -/
import Derived.Test.YtjklpfgjimbabaaDoorFind
import Derived.Laws.BitsAllLaws
import Derived.Laws.BitsLemmas
namespace Go.Proofs.YtjklpfgjimbabaaDoor
open Go.RowKit

/-- A reader at block rb, not beyond m picks. -/
def Rdr (w : World) (rb m : Nat) : Prop :=
  ∃ (ca : Option Addr) (cn cc p : Nat), w.heap[rb]? = some (.cells #[.slice ca cn cc, .int .i64 (p : Int)] 81 (0, 0)) ∧ p ≤ m ∧ m ≤ 1000000000 ∧ cn ≤ 2000 ∧
    (0 < cn → ∃ b off, ca = some ⟨b, off, none⟩ ∧ b < rb ∧ ∀ i, i < cn → ∃ v : Nat, v < 256 ∧ w.cell? ⟨b, off + i, none⟩ = some (.int .u8 (v : Int)))
theorem Rdr.lt {w : World} {rb m : Nat} (h : Rdr w rb m) : rb < w.heap.size := by
  obtain ⟨ca, cn, cc, p, h1, _⟩ := h
  exact (Array.getElem?_eq_some_iff.1 h1).1
theorem Rdr.below {w w' : World} {rb m : Nat} (h : Rdr w rb m) (hx : Below (rb + 1) w w') : Rdr w' rb m := by
  obtain ⟨ca, cn, cc, p, h1, h2, h3, h4, h5⟩ := h
  refine ⟨ca, cn, cc, p, (hx.block rb (by omega)).trans h1, h2, h3, h4, fun hn => ?_⟩
  obtain ⟨b, off, ha, hb, hc⟩ := h5 hn
  refine ⟨b, off, ha, hb, fun i hi => ?_⟩
  obtain ⟨v, hv, hcv⟩ := hc i hi
  exact ⟨v, hv, (hx.cell (p := ⟨b, off + i, none⟩) (Nat.lt_succ_of_lt hb)).trans hcv⟩
theorem Rdr.x {w w' : World} {rb m : Nat} (h : Rdr w rb m) (hx : X w w') : Rdr w' rb m := h.below (hx.below.mono h.lt)
theorem Rdr.weak {w : World} {rb m m' : Nat} (h : Rdr w rb m) (hm : m ≤ m') (h2 : m' ≤ 1000000000) : Rdr w rb m' := by
  obtain ⟨ca, cn, cc, p, h1, h2, h3, h4⟩ := h
  exact ⟨ca, cn, cc, p, h1, by omega, by omega, h4⟩
/-- Only the reader's block, and what is new, has changed. -/
def Y (rb : Nat) (w w' : World) : Prop := w.grownBy w' (some rb)
theorem Y.refl (rb : Nat) (w : World) : Y rb w w := ⟨rfl, rfl, rfl, Nat.le_refl _, fun _ _ _ => rfl⟩
theorem Y.trans {rb : Nat} {a b c : World} (h : Y rb a b) (k : Y rb b c) : Y rb a c :=
  ⟨k.os.trans h.os, k.tape.trans h.tape, k.output.trans h.output, Nat.le_trans h.size k.size, fun i hi hn => (k.block i (Nat.lt_of_lt_of_le hi h.size) hn).trans (h.block i hi hn)⟩
theorem Y.of_x {rb : Nat} {w w' : World} (h : X w w') : Y rb w w' := ⟨h.below.os, h.below.tape, h.below.output, h.size, fun k hk _ => h.below.block k hk⟩
theorem Y.fr {rb : Nat} {w w' : World} (h : Y rb w w') : Fr (rb + 1) w w' := ⟨h.size, fun k hk hl => h.block k hl (by simp; omega)⟩
theorem Y.cell {rb : Nat} {w w' : World} (h : Y rb w w') {b o : Nat} (hb : b < w.heap.size) (hne : b ≠ rb) : w'.cell? ⟨b, o, none⟩ = w.cell? ⟨b, o, none⟩ :=
  World.cell?_of_block (w := w) (h.block b hb (by simpa using hne))
theorem Y.setCell {rb o : Nat} {w w' : World} (h : Y rb w w') (v : Value) : Y rb w (w'.setCell ⟨rb, o, none⟩ v) :=
  ⟨h.os, h.tape, h.output, by simpa [World.setCell] using h.size, fun i hi hne => (Below.heap_setCell w' _ v i (by simpa using hne)).trans (h.block i hi hne)⟩
theorem Y.drew {rb : Nat} {w w' : World} (h : Y rb w w') : Y rb w w'.drew := ⟨h.os, h.tape, h.output, h.size, h.block⟩
theorem Y.drewN {rb n : Nat} {w w' : World} (h : Y rb w w') : Y rb w (w'.drewN n) := ⟨h.os, h.tape, h.output, h.size, h.block⟩
theorem Rdr.set {w : World} {rb m : Nat} {ca : Option Addr} {cn cc p : Nat} (h1 : w.heap[rb]? = some (.cells #[.slice ca cn cc, .int .i64 (p : Int)] 81 (0, 0))) (h2 : p ≤ m) (h3 : m + 1 ≤ 1000000000) (h4 : cn ≤ 2000)
    (h5 : 0 < cn → ∃ b off, ca = some ⟨b, off, none⟩ ∧ b < rb ∧ ∀ i, i < cn → ∃ v : Nat, v < 256 ∧ w.cell? ⟨b, off + i, none⟩ = some (.int .u8 (v : Int))) :
    Rdr (w.setCell ⟨rb, 1, none⟩ (.int .i64 ((p : Int) + 1))) rb (m + 1) := by
  refine ⟨ca, cn, cc, p + 1, ?_, by omega, h3, h4, fun hn => ?_⟩
  · simp [World.setCell, Array.getElem?_modify, h1]
  · obtain ⟨b, off, ha, hb, hc⟩ := h5 hn
    refine ⟨b, off, ha, hb, fun i hi => ?_⟩
    obtain ⟨v, hv, hcv⟩ := hc i hi
    refine ⟨v, hv, ?_⟩
    rw [World.cell?_setCell_other _ _ _ _ (fun e => absurd hb (by injection e with e; omega))]
    exact hcv
theorem ofInt_i64 (a : Nat) (ha : a < 9223372036854775808) : (BitVec.ofInt 64 (a : Int)).toNat = a := by
  rw [BitVec.ofInt_natCast, BitVec.toNat_ofNat]; exact Nat.mod_eq_of_lt (by omega)
theorem i64_xor_nat (a b : Nat) (ha : a < 9223372036854775808) (hb : b < 9223372036854775808) : bits .xor .i64 (a : Int) (b : Int) = ((a ^^^ b : Nat) : Int) := by
  have hx : a ^^^ b < 2 ^ 63 := Nat.xor_lt_two_pow (by omega) (by omega)
  show IntKind.i64.wrap ((BitVec.ofInt 64 (a : Int) ^^^ BitVec.ofInt 64 (b : Int)).toNat : Int) = _
  rw [BitVec.toNat_xor, ofInt_i64 a ha, ofInt_i64 b hb, IntKind.wrap_i64]
  omega
set_option maxRecDepth 100000 in
set_option maxHeartbeats 1000000 in
theorem pick_c (rb m : Nat) (n : Int) (w : World) (hr : Rdr w rb m) (hm : m + 1 ≤ 1000000000) (hn : n ≤ 4000000000) :
    Calls Tryd.prog 72 #[.pointer (some ⟨rb, 0, none⟩), .int .i64 n] w fun e w' => ∃ k : Nat, e = .returned (.int .i64 (k : Int)) ∧ ((k : Int) < n ∨ k = 0) ∧ Rdr w' rb (m + 1) ∧ Y rb w w' := by
  obtain ⟨ca, cn, cc, p, h1, h2, h3, h4, h5⟩ := hr
  have hset := Rdr.set h1 h2 hm h4 h5
  have hc : ∀ i, w.cell? ⟨rb, i, none⟩ = #[.slice ca cn cc, .int .i64 (p : Int)][i]? := fun i => cell_of_row w rb i _ _ (0, 0) h1
  have hf : ∀ i, w.frozen? ⟨rb, i, none⟩ = false := fun i => by simp [World.frozen?, h1]
  have H1 := Lib.hid h1
  clear h1
  by_cases hn1 : n < 1
  · go_enter Tryd.func72, Tryd.ntmps72
    go_wp2
    go_ret
    exact ⟨0, rfl, .inr rfl, hset, (Y.refl _ _).setCell _⟩
  by_cases hcn : cn = 0
  · subst hcn
    go_enter Tryd.func72, Tryd.ntmps72
    go_wp2
    go_ret
    exact ⟨0, rfl, .inr rfl, hset, (Y.refl _ _).setCell _⟩
  have hcn' : 0 < cn := Nat.pos_of_ne_zero hcn
  obtain ⟨b, off, rfl, hbr, hcell⟩ := h5 hcn'
  have hne : b ≠ rb := by omega
  have hb : b < w.heap.size := Nat.lt_trans hbr (Array.getElem?_eq_some_iff.1 H1.out).1
  clear h5
  have hcz : ((cn : Int) == 0) = false := by rw [beq_eq_false_iff_ne]; omega
  have hbl : (b == rb) = false := by simpa using hne
  by_cases hp : p < cn
  · obtain ⟨v, hv, hcv⟩ := hcell p hp
    go_enter Tryd.func72, Tryd.ntmps72
    go_wp2
    go_ret
    have hm1 := Int.emod_nonneg (v : Int) (show n ≠ 0 by omega)
    have hm2 := Int.emod_lt_of_pos (v : Int) (show 0 < n by omega)
    refine ⟨((v : Int) % n).toNat, ?_, .inl (by omega), hset, (Y.refl _ _).setCell _⟩
    rw [Int.toNat_of_nonneg hm1]
    simp
  · obtain ⟨q, e1, hq⟩ : ∃ q : Nat, ((p : Int) % (cn : Int)) = (q : Int) ∧ q < cn := ⟨p % cn, by simp, Nat.mod_lt _ hcn'⟩
    obtain ⟨r, e2, hr⟩ : ∃ r : Nat, (((p : Int) * 7 + 3) % (cn : Int)) = (r : Int) ∧ r < cn := ⟨(p * 7 + 3) % cn, by simp, Nat.mod_lt _ hcn'⟩
    obtain ⟨t, e3, ht⟩ : ∃ t : Nat, ((p : Int) / (cn : Int)) = (t : Int) ∧ t ≤ p := ⟨p / cn, by simp, Nat.div_le_self _ _⟩
    obtain ⟨v, hv, hcv⟩ := hcell q hq
    obtain ⟨u, hu, hcu⟩ := hcell r hr
    go_enter Tryd.func72, Tryd.ntmps72
    go_wp2
    go_quiet (fail)
    go_wp2
    go_ret
    obtain ⟨a, ha⟩ : ∃ a : Nat, a = v * 131 + u * 1117 + p * 29 + t * 53 := ⟨_, rfl⟩
    have ha1 : ((v : Int) * 131 + (u : Int) * 1117 + (p : Int) * 29 + (t : Int) * 53) = (a : Int) := by omega
    have ha2 : a < 9223372036854775808 := by omega
    have ha3 : (a : Int) / 64 = ((a / 64 : Nat) : Int) := by omega
    have hxor := i64_xor_nat a (a / 64) ha2 (by omega)
    generalize a ^^^ (a / 64) = z at hxor
    have hm1 := Int.tmod_nonneg n (show (0 : Int) ≤ (z : Int) by omega)
    have hm2 := Int.tmod_lt_of_pos (z : Int) (show 0 < n by omega)
    rw [ha1, ha3, hxor]
    refine ⟨((z : Int).tmod n).toNat, ?_, .inl (by omega), hset, ((Y.refl _ _).setCell _).drewN⟩
    rw [Int.toNat_of_nonneg hm1]
    simp
theorem own_cells {w : World} {B e size n c g : Nat} {xs : List Value} (h : w.ownsRow B e size (.slice (some ⟨g, 0, none⟩) n c) n xs) : ∀ j u, xs[j]? = some u → w.cell? ⟨g, j, none⟩ = some u := row_cell h


set_option maxHeartbeats 400000 in
theorem newReader_c (ca : Option Addr) (cn cc : Nat) (w : World) (hcc : cn ≤ cc) (h5 : 0 < cn → ∃ b off, ca = some ⟨b, off, none⟩ ∧ b < w.heap.size ∧ ∀ i, i < cn → ∃ v : Nat, v < 256 ∧ w.cell? ⟨b, off + i, none⟩ = some (.int .u8 (v : Int))) (hn : cn ≤ 1048576) :
    Calls Tryd.prog 43 #[.slice ca cn cc] w fun e w' => e = .returned (.pointer (some ⟨w.heap.size, 0, none⟩)) ∧ Rdr w' w.heap.size 0 ∧ X w w' := by
  by_cases hlt : 2000 < cn
  · obtain ⟨b, off, rfl, hb, hc⟩ := h5 (by omega)
    go_enter Tryd.func43, Tryd.ntmps43
    go_wp2
    go_ret
    refine ⟨by simp, ⟨_, 2000, _, 0, heap_alloc_new w _, by omega, by omega, by omega, fun _ => ⟨b, off, rfl, hb, fun i hi => ?_⟩⟩, by (repeat (first | exact X.refl _ | assumption | refine X.ext ?_ _ | refine X.alloc ?_ _ | refine X.drew ?_))⟩
    obtain ⟨v, hv, hcv⟩ := hc i (by omega)
    exact ⟨v, hv, by rw [World.cell?_alloc_lt _ _ _ hb]; exact hcv⟩
  · go_enter Tryd.func43, Tryd.ntmps43
    go_wp2
    go_ret
    refine ⟨by simp, ⟨_, cn, _, 0, heap_alloc_new w _, by omega, by omega, by omega, fun h0 => ?_⟩, by (repeat (first | exact X.refl _ | assumption | refine X.ext ?_ _ | refine X.alloc ?_ _ | refine X.drew ?_))⟩
    obtain ⟨b, off, rfl, hb, hc⟩ := h5 h0
    refine ⟨b, off, rfl, hb, fun i hi => ?_⟩
    obtain ⟨v, hv, hcv⟩ := hc i hi
    exact ⟨v, hv, by rw [World.cell?_alloc_lt _ _ _ hb]; exact hcv⟩
set_option maxHeartbeats 400000 in
theorem one_c (rb m : Nat) (l : List Int) (a : Option Addr) (n c B : Nat) (w : World) (hr : Rdr w rb m) (hm : m + 1 ≤ 1000000000) (hI : IntsAt w B a n l) (hB : rb < B) (h0 : 0 < n) :
    Calls Tryd.prog 71 #[.pointer (some ⟨rb, 0, none⟩), .slice a n c] w fun e w' => ∃ x, e = .returned (.int .i64 x) ∧ x ∈ l ∧ Rdr w' rb (m + 1) ∧ Y rb w w' := by
  have hn := hI.2.1
  go_enter Tryd.func71, Tryd.ntmps71
  go_wp2_with fail
  refine (pick_c rb m _ _ hr hm (by omega)).mono ?_
  rintro _ w1 ⟨k, rfl, hk, hr1, hy⟩
  have hkn : k < n := by omega
  obtain ⟨b, off, rfl, hb1, hb2, hc⟩ := (hI.mono (hy.fr.mono hB)).at_ hkn
  go_wp2
  go_ret
  exact ⟨_, rfl, nth_mem (by have := hI.1; omega), hr1, hy⟩
set_option maxHeartbeats 400000 in
theorem of_c (rb m : Nat) (l : List (List UInt8)) (a : Option Addr) (n c B : Nat) (w : World) (hr : Rdr w rb m) (hm : m + 1 ≤ 1000000000) (hI : StrsAt w B a n l) (hB : rb < B) (h0 : 0 < n) :
    Calls Tryd.prog 84 #[.pointer (some ⟨rb, 0, none⟩), .slice a n c] w fun e w' => ∃ x, e = .returned (.string ⟨(x).toArray⟩) ∧ x ∈ l ∧ Rdr w' rb (m + 1) ∧ Y rb w w' := by
  have hn := hI.2.1
  go_enter Tryd.func84, Tryd.ntmps84
  go_wp2_with fail
  refine (pick_c rb m _ _ hr hm (by omega)).mono ?_
  rintro _ w1 ⟨k, rfl, hk, hr1, hy⟩
  have hkn : k < n := by omega
  obtain ⟨b, off, rfl, hb1, hb2, hc, _⟩ := (hI.mono (hy.fr.mono hB)).at_ hkn
  go_wp2
  go_ret
  exact ⟨_, rfl, nth_mem (by have := hI.1; omega), hr1, hy⟩

theorem strs_lit {w : World} {B g n : Nat} {l : List (List UInt8)} {cs : Array Value} (hg : g = w.heap.size) (hB : B ≤ g) (hn : n = l.length) (hcs : cs.toList = strs l) (hl : l.length ≤ 8388608) (hs : ∀ s ∈ l, s.length ≤ 4194304) :
    StrsAt (w.alloc (.cells cs 9)) B (some ⟨g, 0, none⟩) n l := by
  subst hg hn
  refine StrsAt.of_own (c := l.length) (e := 9) ?_ hl hs
  rw [← hcs]
  refine own_lit rfl hB ?_ (by omega)
  rw [← Array.length_toList, hcs, flat_length 1 _ (fun _ => rfl)]
theorem ints_lit {w : World} {B g n : Nat} {l : List Int} {cs : Array Value} (hg : g = w.heap.size) (hB : B ≤ g) (hn : n = l.length) (hcs : cs.toList = ints l) (hl : l.length ≤ 2097152) :
    IntsAt (w.alloc (.cells cs 3)) B (some ⟨g, 0, none⟩) n l := by
  subst hg hn
  refine ⟨rfl, hl, ?_⟩
  show Sl _ B _ _ (ints l)
  rw [← hcs]
  refine Sl.of_own (e := 3) (c := l.length) (size := 1) (own_lit rfl hB ?_ (by omega))
  rw [← Array.length_toList, hcs, flat_length 1 _ (fun _ => rfl)]
set_option maxHeartbeats 400000 in
theorem aPart_c (rb m : Nat) (w : World) (hr : Rdr w rb m) (hm : m + 1 ≤ 1000000000) :
    Calls Tryd.prog 85 #[.pointer (some ⟨rb, 0, none⟩)] w fun e w' => ∃ x : List UInt8, e = .returned (.string ⟨(x).toArray⟩) ∧ x.length ≤ 1 ∧ Rdr w' rb (m + 1) ∧ Y rb w w' := by
  have hlt := hr.lt
  go_enter Tryd.func85, Tryd.ntmps85
  go_wp2_with fail
  refine (of_c rb m [[97], [98], [99], [97], [98]] _ _ _ (rb + 1) _ (hr.x (by (repeat (first | exact X.refl _ | assumption | refine X.ext ?_ _ | refine X.alloc ?_ _ | refine X.drew ?_)))) hm (strs_lit rfl (by omega) rfl rfl (by decide) (by decide)) (by omega) (by decide)).mono ?_
  rintro _ w1 ⟨x, rfl, hx, hr1, hy⟩
  go_wp2
  go_ret
  refine ⟨x, rfl, ?_, hr1, (Y.of_x (by (repeat (first | exact X.refl _ | assumption | refine X.ext ?_ _ | refine X.alloc ?_ _ | refine X.drew ?_)))).trans hy⟩
  revert hx
  simp only [List.mem_cons, List.mem_nil_iff, or_false]
  rintro (rfl | rfl | rfl | rfl | rfl) <;> decide

set_option maxHeartbeats 400000 in
theorem aName_c (rb m : Nat) (w : World) (hr : Rdr w rb m) (hm : m + 4 ≤ 1000000000) :
    Calls Tryd.prog 102 #[.pointer (some ⟨rb, 0, none⟩)] w fun e w' => ∃ x : List UInt8, e = .returned (.string ⟨(x).toArray⟩) ∧ x.length ≤ 5 ∧ Rdr w' rb (m + 4) ∧ Y rb w w' := by
  go_enter Tryd.func102, Tryd.ntmps102
  go_wp2_with fail
  refine (aPart_c rb m _ hr (by omega)).mono ?_
  rintro _ w1 ⟨x, rfl, hx, hr1, hy1⟩
  have hlt := hr1.lt
  go_wp2_with fail
  refine (one_c rb (m + 1) [0, 1, 0, 1, 2] _ _ _ (rb + 1) _ (hr1.x (by (repeat (first | exact X.refl _ | assumption | refine X.ext ?_ _ | refine X.alloc ?_ _ | refine X.drew ?_)))) (by omega) (ints_lit rfl (by omega) rfl rfl (by decide)) (by omega) (by decide)).mono ?_
  rintro _ w2 ⟨n, rfl, hn, hr2, hy2⟩
  have hy3 : Y rb w w2 := hy1.trans ((Y.of_x (by (repeat (first | exact X.refl _ | assumption | refine X.ext ?_ _ | refine X.alloc ?_ _ | refine X.drew ?_)))).trans hy2)
  clear hy2 hy1
  have hn2 : 0 ≤ n ∧ n ≤ 2 := by
    revert hn
    simp only [List.mem_cons, List.mem_nil_iff, or_false]
    omega
  obtain ⟨N, rfl⟩ : ∃ N : Nat, n = N := ⟨n.toNat, by omega⟩
  clear hn
  go_wp2
  go_loopw [3, 4] (fun v i wr => ∃ (k : Nat) (x : List UInt8), k ≤ N ∧ i = .int .i64 k ∧ v = .string ⟨(x).toArray⟩ ∧ x.length ≤ 1 + 2 * (N - k) ∧ Rdr wr rb (m + 2 + (N - k)) ∧ Y rb w wr) (fun _ i _ => (intOf i).toNat)
  case atStart => exact ⟨N, x, by omega, rfl, rfl, by omega, hr2.weak (by omega) (by omega), hy3⟩
  case round =>
    obtain ⟨k, x, hk, rfl, rfl, hx, hr, hy⟩ := hrel
    by_cases h0 : 0 < k
    · go_wp2_with fail
      refine (aPart_c rb _ _ hr (by omega)).mono ?_
      rintro _ w1 ⟨x', rfl, hx', hr1, hy1⟩
      go_wp2
      go_roundw
      case rel => exact ⟨k - 1, x ++ [46] ++ x', by omega, by go_num, by simp, by simp; omega, hr1.weak (by omega) (by omega), hy.trans hy1⟩
      case measure => simp [intOf]; omega
    · go_wp2
      go_ret
      exact ⟨x, rfl, by omega, hr.weak (by omega) (by omega), hy⟩


theorem of_len {x : List UInt8} {l : List (List UInt8)} {n : Nat} (h : x ∈ l) (hl : l.all (fun y => decide (y.length ≤ n)) = true) : x.length ≤ n := by
  have := List.all_eq_true.1 hl x h
  simpa using this
set_option maxHeartbeats 400000 in
theorem anyPart_c (rb m : Nat) (w : World) (hr : Rdr w rb m) (hm : m + 2 ≤ 1000000000) :
    Calls Tryd.prog 47 #[.pointer (some ⟨rb, 0, none⟩)] w fun e w' => ∃ x : List UInt8, e = .returned (.string ⟨(x).toArray⟩) ∧ x.length ≤ 20 ∧ Rdr w' rb (m + 2) ∧ Y rb w w' := by
  have hy := Y.refl rb w
  go_enter Tryd.func47, Tryd.ntmps47
  go_wp2_with (first | (go_at_call 72; refine (pick_c rb _ _ _ (hr.x (by (repeat (first | exact X.refl _ | assumption | refine X.ext ?_ _ | refine X.alloc ?_ _ | refine X.drew ?_)))) (by omega) (by omega)).mono ?_; rintro _ w' ⟨k, rfl, hk, hr', hy'⟩; replace hy := hy.trans ((Y.of_x (by (repeat (first | exact X.refl _ | assumption | refine X.ext ?_ _ | refine X.alloc ?_ _ | refine X.drew ?_)))).trans hy'); replace hr := hr'; clear hr' hy') | (go_at_call 85; refine (aPart_c rb _ _ (hr.x (by (repeat (first | exact X.refl _ | assumption | refine X.ext ?_ _ | refine X.alloc ?_ _ | refine X.drew ?_)))) (by omega)).mono ?_; rintro _ w' ⟨xs, rfl, hxs, hr', hy'⟩; replace hy := hy.trans ((Y.of_x (by (repeat (first | exact X.refl _ | assumption | refine X.ext ?_ _ | refine X.alloc ?_ _ | refine X.drew ?_)))).trans hy'); replace hr := hr'; clear hr' hy') | (go_at_call 84; refine (of_c rb _ [[], [65], [97, 98, 99, 100], [97, 46, 98], [122], [122, 122]] _ _ _ (rb + 1) _ (hr.x (by (repeat (first | exact X.refl _ | assumption | refine X.ext ?_ _ | refine X.alloc ?_ _ | refine X.drew ?_)))) (by omega) (strs_lit rfl (by have := hr.lt; first | omega | (simp; omega)) rfl rfl (by decide) (by decide)) (by omega) (by decide)).mono ?_; rintro _ w' ⟨xs, rfl, hxs, hr', hy'⟩; replace hxs := of_len (n := 10) hxs (by decide); replace hy := hy.trans ((Y.of_x (by (repeat (first | exact X.refl _ | assumption | refine X.ext ?_ _ | refine X.alloc ?_ _ | refine X.drew ?_)))).trans hy'); replace hr := hr'; clear hr' hy'))
  all_goals go_ret
  all_goals exact ⟨_, rfl, by omega, hr.weak (by omega) (by omega), hy⟩

set_option maxHeartbeats 400000 in
theorem anyName_c (rb m : Nat) (w : World) (hr : Rdr w rb m) (hm : m + 6 ≤ 1000000000) :
    Calls Tryd.prog 83 #[.pointer (some ⟨rb, 0, none⟩)] w fun e w' => ∃ x : List UInt8, e = .returned (.string ⟨(x).toArray⟩) ∧ x.length ≤ 20 ∧ Rdr w' rb (m + 6) ∧ Y rb w w' := by
  have hy := Y.refl rb w
  go_enter Tryd.func83, Tryd.ntmps83
  go_wp2_with (first | (go_at_call 72; refine (pick_c rb _ _ _ (hr.x (by (repeat (first | exact X.refl _ | assumption | refine X.ext ?_ _ | refine X.alloc ?_ _ | refine X.drew ?_)))) (by omega) (by omega)).mono ?_; rintro _ w' ⟨k, rfl, hk, hr', hy'⟩; replace hy := hy.trans ((Y.of_x (by (repeat (first | exact X.refl _ | assumption | refine X.ext ?_ _ | refine X.alloc ?_ _ | refine X.drew ?_)))).trans hy'); replace hr := hr'; clear hr' hy') | (go_at_call 102; refine (aName_c rb _ _ (hr.x (by (repeat (first | exact X.refl _ | assumption | refine X.ext ?_ _ | refine X.alloc ?_ _ | refine X.drew ?_)))) (by omega)).mono ?_; rintro _ w' ⟨xs, rfl, hxs, hr', hy'⟩; replace hy := hy.trans ((Y.of_x (by (repeat (first | exact X.refl _ | assumption | refine X.ext ?_ _ | refine X.alloc ?_ _ | refine X.drew ?_)))).trans hy'); replace hr := hr'; clear hr' hy') | (go_at_call 84; refine (of_c rb _ [[], [97, 46, 46, 98], [97, 46, 98, 46, 99, 46, 100], [65], [97, 98, 99, 100]] _ _ _ (rb + 1) _ (hr.x (by (repeat (first | exact X.refl _ | assumption | refine X.ext ?_ _ | refine X.alloc ?_ _ | refine X.drew ?_)))) (by omega) (strs_lit rfl (by have := hr.lt; first | omega | (simp; omega)) rfl rfl (by decide) (by decide)) (by omega) (by decide)).mono ?_; rintro _ w' ⟨xs, rfl, hxs, hr', hy'⟩; replace hxs := of_len (n := 10) hxs (by decide); replace hy := hy.trans ((Y.of_x (by (repeat (first | exact X.refl _ | assumption | refine X.ext ?_ _ | refine X.alloc ?_ _ | refine X.drew ?_)))).trans hy'); replace hr := hr'; clear hr' hy'))
  all_goals go_ret
  all_goals first
    | exact ⟨_, rfl, by omega, hr.weak (by omega) (by omega), hy⟩
    | exact ⟨_, rfl, by simp; omega, hr.weak (by omega) (by omega), hy⟩
set_option maxHeartbeats 400000 in
theorem anyPackage_c (rb m : Nat) (w : World) (hr : Rdr w rb m) (hm : m + 7 ≤ 1000000000) :
    Calls Tryd.prog 46 #[.pointer (some ⟨rb, 0, none⟩)] w fun e w' => ∃ x : List UInt8, e = .returned (.string ⟨(x).toArray⟩) ∧ x.length ≤ 20 ∧ Rdr w' rb (m + 7) ∧ Y rb w w' := by
  have hy := Y.refl rb w
  go_enter Tryd.func46, Tryd.ntmps46
  go_wp2_with (first | (go_at_call 72; refine (pick_c rb _ _ _ (hr.x (by (repeat (first | exact X.refl _ | assumption | refine X.ext ?_ _ | refine X.alloc ?_ _ | refine X.drew ?_)))) (by omega) (by omega)).mono ?_; rintro _ w' ⟨k, rfl, hk, hr', hy'⟩; replace hy := hy.trans ((Y.of_x (by (repeat (first | exact X.refl _ | assumption | refine X.ext ?_ _ | refine X.alloc ?_ _ | refine X.drew ?_)))).trans hy'); replace hr := hr'; clear hr' hy') | (go_at_call 83; refine (anyName_c rb _ _ (hr.x (by (repeat (first | exact X.refl _ | assumption | refine X.ext ?_ _ | refine X.alloc ?_ _ | refine X.drew ?_)))) (by omega)).mono ?_; rintro _ w' ⟨xs, rfl, hxs, hr', hy'⟩; replace hy := hy.trans ((Y.of_x (by (repeat (first | exact X.refl _ | assumption | refine X.ext ?_ _ | refine X.alloc ?_ _ | refine X.drew ?_)))).trans hy'); replace hr := hr'; clear hr' hy'))
  all_goals go_ret
  all_goals first
    | exact ⟨[], rfl, by simp, hr.weak (by omega) (by omega), hy⟩
    | exact ⟨_, rfl, by omega, hr.weak (by omega) (by omega), hy⟩

/-- Block b holds the cells cs, and may be written. -/
def Bx (w : World) (b : Nat) (cs : Array Value) : Prop := ∃ t, w.heap[b]? = some (.cells cs t (0, 0))
theorem Bx.lt {w : World} {b : Nat} {cs : Array Value} (h : Bx w b cs) : b < w.heap.size := by
  obtain ⟨t, h⟩ := h
  exact (Array.getElem?_eq_some_iff.1 h).1
theorem Bx.out {w : World} {b : Nat} {cs : Array Value} (h : Bx w b cs) : b < w.heap.size ∧ (∀ i, w.cell? ⟨b, i, none⟩ = cs[i]?) ∧ ∀ i, w.frozen? ⟨b, i, none⟩ = false := by
  have hl := h.lt
  obtain ⟨t, h⟩ := h
  exact ⟨hl, fun i => cell_of_row w b i _ _ (0, 0) h, fun i => by simp [World.frozen?, h]⟩
theorem Bx.new (w : World) (cs : Array Value) (t : TypeId) : Bx (w.alloc (.cells cs t)) w.heap.size cs := ⟨t, heap_alloc_new w _⟩
theorem Bx.x {w w' : World} {b : Nat} {cs : Array Value} (h : Bx w b cs) (hx : X w w') : Bx w' b cs := by
  have hl := h.lt
  obtain ⟨t, h⟩ := h
  exact ⟨t, (hx.below.block b hl).trans h⟩
theorem Bx.y {rb : Nat} {w w' : World} {b : Nat} {cs : Array Value} (h : Bx w b cs) (hy : Y rb w w') (hne : b ≠ rb) : Bx w' b cs := by
  have hl := h.lt
  obtain ⟨t, h⟩ := h
  exact ⟨t, (hy.block b hl (by simpa using hne)).trans h⟩
theorem Bx.set {w : World} {b : Nat} {cs : Array Value} (h : Bx w b cs) (i : Nat) (v : Value) : Bx (w.setCell ⟨b, i, none⟩ v) b (cs.setIfInBounds i v) := by
  obtain ⟨t, h⟩ := h
  exact ⟨t, heap_setCell_same w b i cs t v h⟩
/-- ty is a struct of n cells. -/
structure StrT (P : Program) (ty n : Nat) : Prop where
  hu : ∃ fs, P.underlying ty = some (.struct fs)
  hi : (P.info? ty).map (·.size) = some n
theorem bodyPost_row {P : Program} {fn : Func} {R : Ending → World → Prop} {a : Act} {w : World} {p : Tmp} {ty n g : Nat} {cs : Array Value} (h : fn.results = #[.cell p ty]) (hp : a.tmps.getD p undef = .pointer (some ⟨g, 0, none⟩)) (hB : Bx w g cs) (hS : StrT P ty n) (hn : cs.size = n)
    (hd : a.defers = []) (hR : R (.returned (.agg cs)) w) : bodyPost P fn R .ret a w := by
  obtain ⟨t, hg⟩ := hB
  obtain ⟨d, hu⟩ := hS.hu
  exact bodyPost_ret (results_cell_row h a.tmps w g t cs (0, 0) _ hp hg hu rfl (by rw [hn]; exact hS.hi)) hd hR
theorem stmt_S : StrT Tryd.prog 83 5 := ⟨⟨_, Tryd.underlying83⟩, by kernel_rfl⟩
theorem Y.set2 {rb : Nat} {w w' : World} (h : Y rb w w') {p : Addr} (hp : w.heap.size ≤ p.block) (v : Value) : Y rb w (w'.setCell p v) :=
  ⟨h.os, h.tape, h.output, by simpa [World.setCell] using h.size, fun i hi hne => (Below.heap_setCell w' _ v i (by omega)).trans (h.block i hi hne)⟩
theorem Rdr.set2 {w : World} {rb m : Nat} (h : Rdr w rb m) {p : Addr} (hp : rb < p.block) (v : Value) : Rdr (w.setCell p v) rb m :=
  h.below ((Below.refl _ _).setCell (by omega) v)

set_option maxRecDepth 100000 in
set_option maxHeartbeats 400000 in
theorem someStmt_c (rb m : Nat) (w : World) (hr : Rdr w rb m) (hm : m + 12 ≤ 1000000000) :
    Calls Tryd.prog 123 #[.pointer (some ⟨rb, 0, none⟩)] w fun e w' => ∃ s : St, e = .returned (.agg #[.int .i64 (s).kind, .string ⟨(s).mod.toArray⟩, .int .i64 (s).level, .string ⟨(s).name.toArray⟩, .int .i64 (s).val]) ∧ (s.mod.length ≤ 20 ∧ s.name.length ≤ 20) ∧ Rdr w' rb (m + 12) ∧ Y rb w w' := by
  have hlt := hr.lt
  have hy : Y rb w (w.alloc (.cells #[.int .i64 0, .string ⟨#[]⟩, .int .i64 0, .string ⟨#[]⟩, .int .i64 0] 83)) := Y.of_x (by (repeat (first | exact X.refl _ | assumption | refine X.ext ?_ _ | refine X.alloc ?_ _ | refine X.drew ?_)))
  have hB := Bx.new w #[.int .i64 0, .string ⟨#[]⟩, .int .i64 0, .string ⟨#[]⟩, .int .i64 0] 83
  obtain ⟨hb, hc, hf⟩ := hB.out
  have hne : w.heap.size ≠ rb := by omega
  replace hr := hr.x (w' := (w.alloc (.cells #[.int .i64 0, .string ⟨#[]⟩, .int .i64 0, .string ⟨#[]⟩, .int .i64 0] 83))) (by (repeat (first | exact X.refl _ | assumption | refine X.ext ?_ _ | refine X.alloc ?_ _ | refine X.drew ?_)))
  go_enter Tryd.func123, Tryd.ntmps123
  go_wp2_with fail
  refine (pick_c rb _ _ _ hr (by omega) (by omega)).mono ?_
  rintro _ w' ⟨k, rfl, hk, hr', hy'⟩
  replace hB := (hB.x (by (repeat (first | exact X.refl _ | assumption | refine X.ext ?_ _ | refine X.alloc ?_ _ | refine X.drew ?_)))).y hy' hne; replace hy := hy.trans ((Y.of_x (by (repeat (first | exact X.refl _ | assumption | refine X.ext ?_ _ | refine X.alloc ?_ _ | refine X.drew ?_)))).trans hy'); replace hr := hr'; clear hr' hy' hb hc hf; obtain ⟨hb, hc, hf⟩ := hB.out
  go_wp2_with fail
  · go_wp2_with ((go_at_call 102; refine (aName_c rb _ _ (hr.x (by (repeat (first | exact X.refl _ | assumption | refine X.ext ?_ _ | refine X.alloc ?_ _ | refine X.drew ?_)))) (by omega)).mono ?_; rintro _ w' ⟨xs, rfl, hxs, hr', hy'⟩; replace hB := (hB.x (by (repeat (first | exact X.refl _ | assumption | refine X.ext ?_ _ | refine X.alloc ?_ _ | refine X.drew ?_)))).y hy' hne; replace hy := hy.trans ((Y.of_x (by (repeat (first | exact X.refl _ | assumption | refine X.ext ?_ _ | refine X.alloc ?_ _ | refine X.drew ?_)))).trans hy'); replace hr := hr'; clear hr' hy' hb hc hf; obtain ⟨hb, hc, hf⟩ := hB.out))
    refine bodyPost_row Tryd.results123 rfl (Bx.set (Bx.set (Bx.set (Bx.set (Bx.set hB 0 _) 1 _) 2 _) 3 _) 4 _) stmt_S rfl rfl ?_
    exact ⟨⟨0, xs, 0, [], 0⟩, rfl, ⟨by first | omega | (simp; done) | (simp; omega), by first | omega | (simp; done) | (simp; omega)⟩, by (repeat (first | refine Rdr.set2 ?_ (by first | exact hlt | exact (Nat.lt_of_lt_of_le hlt hw4) | omega) _ | (refine Rdr.weak hr (by omega) (by omega)))), by (repeat (first | refine Y.set2 ?_ (by first | exact Nat.le_refl _ | exact hw4 | omega) _ | exact hy))⟩
  · go_wp2_with ((go_at_call 102; refine (aName_c rb _ _ (hr.x (by (repeat (first | exact X.refl _ | assumption | refine X.ext ?_ _ | refine X.alloc ?_ _ | refine X.drew ?_)))) (by omega)).mono ?_; rintro _ w' ⟨xs, rfl, hxs, hr', hy'⟩; replace hB := (hB.x (by (repeat (first | exact X.refl _ | assumption | refine X.ext ?_ _ | refine X.alloc ?_ _ | refine X.drew ?_)))).y hy' hne; replace hy := hy.trans ((Y.of_x (by (repeat (first | exact X.refl _ | assumption | refine X.ext ?_ _ | refine X.alloc ?_ _ | refine X.drew ?_)))).trans hy'); replace hr := hr'; clear hr' hy' hb hc hf; obtain ⟨hb, hc, hf⟩ := hB.out))
    refine bodyPost_row Tryd.results123 rfl (Bx.set (Bx.set (Bx.set (Bx.set (Bx.set hB 0 _) 1 _) 2 _) 3 _) 4 _) stmt_S rfl rfl ?_
    exact ⟨⟨0, xs, 0, [], 0⟩, rfl, ⟨by first | omega | (simp; done) | (simp; omega), by first | omega | (simp; done) | (simp; omega)⟩, by (repeat (first | refine Rdr.set2 ?_ (by first | exact hlt | exact (Nat.lt_of_lt_of_le hlt hw4) | omega) _ | (refine Rdr.weak hr (by omega) (by omega)))), by (repeat (first | refine Y.set2 ?_ (by first | exact Nat.le_refl _ | exact hw4 | omega) _ | exact hy))⟩
  · go_wp2_with (go_at_call 71; refine (one_c rb _ [0, 1, 2, 1] _ _ _ (rb + 1) _ (hr.x (by (repeat (first | exact X.refl _ | assumption | refine X.ext ?_ _ | refine X.alloc ?_ _ | refine X.drew ?_)))) (by omega) (ints_lit rfl (by have := hr.lt; first | omega | (simp; omega)) rfl rfl (by decide)) (by omega) (by decide)).mono ?_; rintro _ w' ⟨n, rfl, hn, hr', hy'⟩; replace hB := (hB.x (by (repeat (first | exact X.refl _ | assumption | refine X.ext ?_ _ | refine X.alloc ?_ _ | refine X.drew ?_)))).y hy' hne; replace hy := hy.trans ((Y.of_x (by (repeat (first | exact X.refl _ | assumption | refine X.ext ?_ _ | refine X.alloc ?_ _ | refine X.drew ?_)))).trans hy'); replace hr := hr'; clear hr' hy' hb hc hf; obtain ⟨hb, hc, hf⟩ := hB.out)
    go_wp2_with (first | (go_at_call 72; refine (pick_c rb _ _ _ (hr.x (by (repeat (first | exact X.refl _ | assumption | refine X.ext ?_ _ | refine X.alloc ?_ _ | refine X.drew ?_)))) (by omega) (by omega)).mono ?_; rintro _ w' ⟨k, rfl, hk, hr', hy'⟩; replace hB := (hB.x (by (repeat (first | exact X.refl _ | assumption | refine X.ext ?_ _ | refine X.alloc ?_ _ | refine X.drew ?_)))).y hy' hne; replace hy := hy.trans ((Y.of_x (by (repeat (first | exact X.refl _ | assumption | refine X.ext ?_ _ | refine X.alloc ?_ _ | refine X.drew ?_)))).trans hy'); replace hr := hr'; clear hr' hy' hb hc hf; obtain ⟨hb, hc, hf⟩ := hB.out) | (go_at_call 85; refine (aPart_c rb _ _ (hr.x (by (repeat (first | exact X.refl _ | assumption | refine X.ext ?_ _ | refine X.alloc ?_ _ | refine X.drew ?_)))) (by omega)).mono ?_; rintro _ w' ⟨xs, rfl, hxs, hr', hy'⟩; replace hB := (hB.x (by (repeat (first | exact X.refl _ | assumption | refine X.ext ?_ _ | refine X.alloc ?_ _ | refine X.drew ?_)))).y hy' hne; replace hy := hy.trans ((Y.of_x (by (repeat (first | exact X.refl _ | assumption | refine X.ext ?_ _ | refine X.alloc ?_ _ | refine X.drew ?_)))).trans hy'); replace hr := hr'; clear hr' hy' hb hc hf; obtain ⟨hb, hc, hf⟩ := hB.out) | (go_at_call 102; refine (aName_c rb _ _ (hr.x (by (repeat (first | exact X.refl _ | assumption | refine X.ext ?_ _ | refine X.alloc ?_ _ | refine X.drew ?_)))) (by omega)).mono ?_; rintro _ w' ⟨ms, rfl, hms, hr', hy'⟩; replace hB := (hB.x (by (repeat (first | exact X.refl _ | assumption | refine X.ext ?_ _ | refine X.alloc ?_ _ | refine X.drew ?_)))).y hy' hne; replace hy := hy.trans ((Y.of_x (by (repeat (first | exact X.refl _ | assumption | refine X.ext ?_ _ | refine X.alloc ?_ _ | refine X.drew ?_)))).trans hy'); replace hr := hr'; clear hr' hy' hb hc hf; obtain ⟨hb, hc, hf⟩ := hB.out))
    all_goals refine bodyPost_row Tryd.results123 rfl (Bx.set (Bx.set (Bx.set (Bx.set (Bx.set hB 0 _) 1 _) 2 _) 3 _) 4 _) stmt_S rfl rfl ?_
    · exact ⟨⟨1, [], n, xs, 0⟩, rfl, ⟨by simp, by simp; omega⟩, by (repeat (first | refine Rdr.set2 ?_ (by first | exact hlt | exact (Nat.lt_of_lt_of_le hlt hw4) | omega) _ | (refine Rdr.weak hr (by omega) (by omega)))), by (repeat (first | refine Y.set2 ?_ (by first | exact Nat.le_refl _ | exact hw4 | omega) _ | exact hy))⟩
    · exact ⟨⟨1, ms, n, xs, 0⟩, rfl, ⟨by simp; omega, by simp; omega⟩, by (repeat (first | refine Rdr.set2 ?_ (by first | exact hlt | exact (Nat.lt_of_lt_of_le hlt hw4) | omega) _ | (refine Rdr.weak hr (by omega) (by omega)))), by (repeat (first | refine Y.set2 ?_ (by first | exact Nat.le_refl _ | exact hw4 | omega) _ | exact hy))⟩
    · exact ⟨⟨1, ms, n, xs, 0⟩, rfl, ⟨by simp; omega, by simp; omega⟩, by (repeat (first | refine Rdr.set2 ?_ (by first | exact hlt | exact (Nat.lt_of_lt_of_le hlt hw4) | omega) _ | (refine Rdr.weak hr (by omega) (by omega)))), by (repeat (first | refine Y.set2 ?_ (by first | exact Nat.le_refl _ | exact hw4 | omega) _ | exact hy))⟩
  · go_wp2_with ((go_at_call 102; refine (aName_c rb _ _ (hr.x (by (repeat (first | exact X.refl _ | assumption | refine X.ext ?_ _ | refine X.alloc ?_ _ | refine X.drew ?_)))) (by omega)).mono ?_; rintro _ w' ⟨xs, rfl, hxs, hr', hy'⟩; replace hB := (hB.x (by (repeat (first | exact X.refl _ | assumption | refine X.ext ?_ _ | refine X.alloc ?_ _ | refine X.drew ?_)))).y hy' hne; replace hy := hy.trans ((Y.of_x (by (repeat (first | exact X.refl _ | assumption | refine X.ext ?_ _ | refine X.alloc ?_ _ | refine X.drew ?_)))).trans hy'); replace hr := hr'; clear hr' hy' hb hc hf; obtain ⟨hb, hc, hf⟩ := hB.out))
    refine bodyPost_row Tryd.results123 rfl (Bx.set (Bx.set (Bx.set (Bx.set (Bx.set hB 0 _) 1 _) 2 _) 3 _) 4 _) stmt_S rfl rfl ?_
    exact ⟨⟨2, xs, 0, [], 0⟩, rfl, ⟨by first | omega | (simp; done) | (simp; omega), by first | omega | (simp; done) | (simp; omega)⟩, by (repeat (first | refine Rdr.set2 ?_ (by first | exact hlt | exact (Nat.lt_of_lt_of_le hlt hw4) | omega) _ | (refine Rdr.weak hr (by omega) (by omega)))), by (repeat (first | refine Y.set2 ?_ (by first | exact Nat.le_refl _ | exact hw4 | omega) _ | exact hy))⟩
  · go_wp2_with (first | (go_at_call 72; refine (pick_c rb _ _ _ (hr.x (by (repeat (first | exact X.refl _ | assumption | refine X.ext ?_ _ | refine X.alloc ?_ _ | refine X.drew ?_)))) (by omega) (by omega)).mono ?_; rintro _ w' ⟨k, rfl, hk, hr', hy'⟩; replace hB := (hB.x (by (repeat (first | exact X.refl _ | assumption | refine X.ext ?_ _ | refine X.alloc ?_ _ | refine X.drew ?_)))).y hy' hne; replace hy := hy.trans ((Y.of_x (by (repeat (first | exact X.refl _ | assumption | refine X.ext ?_ _ | refine X.alloc ?_ _ | refine X.drew ?_)))).trans hy'); replace hr := hr'; clear hr' hy' hb hc hf; obtain ⟨hb, hc, hf⟩ := hB.out) | (go_at_call 84; refine (of_c rb _ [[120], [121], [122], [97]] _ _ _ (rb + 1) _ (hr.x (by (repeat (first | exact X.refl _ | assumption | refine X.ext ?_ _ | refine X.alloc ?_ _ | refine X.drew ?_)))) (by omega) (strs_lit rfl (by have := hr.lt; first | omega | (simp; omega)) rfl rfl (by decide) (by decide)) (by omega) (by decide)).mono ?_; rintro _ w' ⟨xs, rfl, hxs, hr', hy'⟩; replace hxs := of_len (n := 10) hxs (by decide); replace hB := (hB.x (by (repeat (first | exact X.refl _ | assumption | refine X.ext ?_ _ | refine X.alloc ?_ _ | refine X.drew ?_)))).y hy' hne; replace hy := hy.trans ((Y.of_x (by (repeat (first | exact X.refl _ | assumption | refine X.ext ?_ _ | refine X.alloc ?_ _ | refine X.drew ?_)))).trans hy'); replace hr := hr'; clear hr' hy' hb hc hf; obtain ⟨hb, hc, hf⟩ := hB.out))
    refine bodyPost_row Tryd.results123 rfl (Bx.set (Bx.set (Bx.set (Bx.set (Bx.set hB 0 _) 1 _) 2 _) 3 _) 4 _) stmt_S rfl rfl ?_
    exact ⟨⟨3, [], 0, xs, _⟩, rfl, ⟨by first | omega | (simp; done) | (simp; omega), by first | omega | (simp; done) | (simp; omega)⟩, by (repeat (first | refine Rdr.set2 ?_ (by first | exact hlt | exact (Nat.lt_of_lt_of_le hlt hw4) | omega) _ | (refine Rdr.weak hr (by omega) (by omega)))), by (repeat (first | refine Y.set2 ?_ (by first | exact Nat.le_refl _ | exact hw4 | omega) _ | exact hy))⟩
  · go_wp2_with (first | (go_at_call 72; refine (pick_c rb _ _ _ (hr.x (by (repeat (first | exact X.refl _ | assumption | refine X.ext ?_ _ | refine X.alloc ?_ _ | refine X.drew ?_)))) (by omega) (by omega)).mono ?_; rintro _ w' ⟨k, rfl, hk, hr', hy'⟩; replace hB := (hB.x (by (repeat (first | exact X.refl _ | assumption | refine X.ext ?_ _ | refine X.alloc ?_ _ | refine X.drew ?_)))).y hy' hne; replace hy := hy.trans ((Y.of_x (by (repeat (first | exact X.refl _ | assumption | refine X.ext ?_ _ | refine X.alloc ?_ _ | refine X.drew ?_)))).trans hy'); replace hr := hr'; clear hr' hy' hb hc hf; obtain ⟨hb, hc, hf⟩ := hB.out) | (go_at_call 84; refine (of_c rb _ [[120], [121], [122], [97]] _ _ _ (rb + 1) _ (hr.x (by (repeat (first | exact X.refl _ | assumption | refine X.ext ?_ _ | refine X.alloc ?_ _ | refine X.drew ?_)))) (by omega) (strs_lit rfl (by have := hr.lt; first | omega | (simp; omega)) rfl rfl (by decide) (by decide)) (by omega) (by decide)).mono ?_; rintro _ w' ⟨xs, rfl, hxs, hr', hy'⟩; replace hxs := of_len (n := 10) hxs (by decide); replace hB := (hB.x (by (repeat (first | exact X.refl _ | assumption | refine X.ext ?_ _ | refine X.alloc ?_ _ | refine X.drew ?_)))).y hy' hne; replace hy := hy.trans ((Y.of_x (by (repeat (first | exact X.refl _ | assumption | refine X.ext ?_ _ | refine X.alloc ?_ _ | refine X.drew ?_)))).trans hy'); replace hr := hr'; clear hr' hy' hb hc hf; obtain ⟨hb, hc, hf⟩ := hB.out))
    refine bodyPost_row Tryd.results123 rfl (Bx.set (Bx.set (Bx.set (Bx.set (Bx.set hB 0 _) 1 _) 2 _) 3 _) 4 _) stmt_S rfl rfl ?_
    exact ⟨⟨3, [], 0, xs, _⟩, rfl, ⟨by first | omega | (simp; done) | (simp; omega), by first | omega | (simp; done) | (simp; omega)⟩, by (repeat (first | refine Rdr.set2 ?_ (by first | exact hlt | exact (Nat.lt_of_lt_of_le hlt hw4) | omega) _ | (refine Rdr.weak hr (by omega) (by omega)))), by (repeat (first | refine Y.set2 ?_ (by first | exact Nat.le_refl _ | exact hw4 | omega) _ | exact hy))⟩
  · go_wp2_with (first | (go_at_call 72; refine (pick_c rb _ _ _ (hr.x (by (repeat (first | exact X.refl _ | assumption | refine X.ext ?_ _ | refine X.alloc ?_ _ | refine X.drew ?_)))) (by omega) (by omega)).mono ?_; rintro _ w' ⟨k, rfl, hk, hr', hy'⟩; replace hB := (hB.x (by (repeat (first | exact X.refl _ | assumption | refine X.ext ?_ _ | refine X.alloc ?_ _ | refine X.drew ?_)))).y hy' hne; replace hy := hy.trans ((Y.of_x (by (repeat (first | exact X.refl _ | assumption | refine X.ext ?_ _ | refine X.alloc ?_ _ | refine X.drew ?_)))).trans hy'); replace hr := hr'; clear hr' hy' hb hc hf; obtain ⟨hb, hc, hf⟩ := hB.out) | (go_at_call 84; refine (of_c rb _ [[120], [121], [122], [97]] _ _ _ (rb + 1) _ (hr.x (by (repeat (first | exact X.refl _ | assumption | refine X.ext ?_ _ | refine X.alloc ?_ _ | refine X.drew ?_)))) (by omega) (strs_lit rfl (by have := hr.lt; first | omega | (simp; omega)) rfl rfl (by decide) (by decide)) (by omega) (by decide)).mono ?_; rintro _ w' ⟨xs, rfl, hxs, hr', hy'⟩; replace hxs := of_len (n := 10) hxs (by decide); replace hB := (hB.x (by (repeat (first | exact X.refl _ | assumption | refine X.ext ?_ _ | refine X.alloc ?_ _ | refine X.drew ?_)))).y hy' hne; replace hy := hy.trans ((Y.of_x (by (repeat (first | exact X.refl _ | assumption | refine X.ext ?_ _ | refine X.alloc ?_ _ | refine X.drew ?_)))).trans hy'); replace hr := hr'; clear hr' hy' hb hc hf; obtain ⟨hb, hc, hf⟩ := hB.out))
    refine bodyPost_row Tryd.results123 rfl (Bx.set (Bx.set (Bx.set (Bx.set (Bx.set hB 0 _) 1 _) 2 _) 3 _) 4 _) stmt_S rfl rfl ?_
    exact ⟨⟨3, [], 0, xs, _⟩, rfl, ⟨by first | omega | (simp; done) | (simp; omega), by first | omega | (simp; done) | (simp; omega)⟩, by (repeat (first | refine Rdr.set2 ?_ (by first | exact hlt | exact (Nat.lt_of_lt_of_le hlt hw4) | omega) _ | (refine Rdr.weak hr (by omega) (by omega)))), by (repeat (first | refine Y.set2 ?_ (by first | exact Nat.le_refl _ | exact hw4 | omega) _ | exact hy))⟩
  · go_wp2_with (go_at_call 84; refine (of_c rb _ [[120], [121], [97], [98], [120]] _ _ _ (rb + 1) _ (hr.x (by (repeat (first | exact X.refl _ | assumption | refine X.ext ?_ _ | refine X.alloc ?_ _ | refine X.drew ?_)))) (by omega) (strs_lit rfl (by have := hr.lt; first | omega | (simp; omega)) rfl rfl (by decide) (by decide)) (by omega) (by decide)).mono ?_; rintro _ w' ⟨xs, rfl, hxs, hr', hy'⟩; replace hxs := of_len (n := 10) hxs (by decide); replace hB := (hB.x (by (repeat (first | exact X.refl _ | assumption | refine X.ext ?_ _ | refine X.alloc ?_ _ | refine X.drew ?_)))).y hy' hne; replace hy := hy.trans ((Y.of_x (by (repeat (first | exact X.refl _ | assumption | refine X.ext ?_ _ | refine X.alloc ?_ _ | refine X.drew ?_)))).trans hy'); replace hr := hr'; clear hr' hy' hb hc hf; obtain ⟨hb, hc, hf⟩ := hB.out)
    refine bodyPost_row Tryd.results123 rfl (Bx.set (Bx.set (Bx.set (Bx.set (Bx.set hB 0 _) 1 _) 2 _) 3 _) 4 _) stmt_S rfl rfl ?_
    exact ⟨⟨4, [], 0, xs, 0⟩, rfl, ⟨by first | omega | (simp; done) | (simp; omega), by first | omega | (simp; done) | (simp; omega)⟩, by (repeat (first | refine Rdr.set2 ?_ (by first | exact hlt | exact (Nat.lt_of_lt_of_le hlt hw4) | omega) _ | (refine Rdr.weak hr (by omega) (by omega)))), by (repeat (first | refine Y.set2 ?_ (by first | exact Nat.le_refl _ | exact hw4 | omega) _ | exact hy))⟩
  · go_wp2_with ((go_at_call 72; refine (pick_c rb _ _ _ (hr.x (by (repeat (first | exact X.refl _ | assumption | refine X.ext ?_ _ | refine X.alloc ?_ _ | refine X.drew ?_)))) (by omega) (by omega)).mono ?_; rintro _ w' ⟨k, rfl, hk, hr', hy'⟩; replace hB := (hB.x (by (repeat (first | exact X.refl _ | assumption | refine X.ext ?_ _ | refine X.alloc ?_ _ | refine X.drew ?_)))).y hy' hne; replace hy := hy.trans ((Y.of_x (by (repeat (first | exact X.refl _ | assumption | refine X.ext ?_ _ | refine X.alloc ?_ _ | refine X.drew ?_)))).trans hy'); replace hr := hr'; clear hr' hy' hb hc hf; obtain ⟨hb, hc, hf⟩ := hB.out))
    · refine bodyPost_row Tryd.results123 rfl (Bx.set (Bx.set (Bx.set (Bx.set (Bx.set hB 0 _) 1 _) 2 _) 3 _) 4 _) stmt_S rfl rfl ?_
      exact ⟨⟨5, [], 0, [], 0⟩, rfl, ⟨by first | omega | (simp; done) | (simp; omega), by first | omega | (simp; done) | (simp; omega)⟩, by (repeat (first | refine Rdr.set2 ?_ (by first | exact hlt | exact (Nat.lt_of_lt_of_le hlt hw4) | omega) _ | (refine Rdr.weak hr (by omega) (by omega)))), by (repeat (first | refine Y.set2 ?_ (by first | exact Nat.le_refl _ | exact hw4 | omega) _ | exact hy))⟩
    · refine bodyPost_row Tryd.results123 rfl (Bx.set (Bx.set (Bx.set (Bx.set (Bx.set hB 0 _) 1 _) 2 _) 3 _) 4 _) stmt_S rfl rfl ?_
      exact ⟨⟨3, [], 0, [120], _⟩, rfl, ⟨by first | omega | (simp; done) | (simp; omega), by first | omega | (simp; done) | (simp; omega)⟩, by (repeat (first | refine Rdr.set2 ?_ (by first | exact hlt | exact (Nat.lt_of_lt_of_le hlt hw4) | omega) _ | (refine Rdr.weak hr (by omega) (by omega)))), by (repeat (first | refine Y.set2 ?_ (by first | exact Nat.le_refl _ | exact hw4 | omega) _ | exact hy))⟩


theorem stmt_T : AppT Tryd.prog 37 83 5 56 := AppT.of (z := .agg #[.int .i64 0, .string ⟨#[]⟩, .int .i64 0, .string ⟨#[]⟩, .int .i64 0]) (by kernel_rfl) (by kernel_rfl) rfl (by omega)
theorem Rdr.weak2 {w w' : World} {rb m m' : Nat} (h : Rdr w rb m) (hx : X w w') (hm : m ≤ m') (h2 : m' ≤ 1000000000) : Rdr w' rb m' := (h.x hx).weak hm h2
theorem Rdr.grown {w w' : World} {rb m : Nat} {row : Option Nat} (h : Rdr w rb m) (hg : w.grownBy w' row) (hr : ∀ k, row = some k → rb < k) : Rdr w' rb m := by
  have hl := h.lt
  exact h.below ⟨hg.os, hg.tape, hg.output, hg.size, fun k hk => hg.block k (by omega) (fun e => by have := hr k e.symm; omega)⟩
theorem Y.grown {rb : Nat} {w0 w w' : World} {row : Option Nat} (h : Y rb w0 w) (hg : w.grownBy w' row) (hr : ∀ k, row = some k → w0.heap.size ≤ k) : Y rb w0 w' :=
  ⟨hg.os.trans h.os, hg.tape.trans h.tape, hg.output.trans h.output, Nat.le_trans h.size hg.size, fun i hi hn => (hg.block i (Nat.lt_of_lt_of_le hi h.size) (fun e => by have := hr i e.symm; omega)).trans (h.block i hi hn)⟩
/-- append of a literal onto a slice of the call's own, with a reader at hand. -/
theorem wpList_append_y {P : Program} {ops : Array Oper} {rest : List Oper} {o : Oper} {a : Act} {Q : Exit → Act → World → Prop} {t e size bytes : Nat} (hT : AppT P t e size bytes) (hgd : o.guard = none) (s x : Operand)
    (ho : o.op = .call { callee := .builtin .append, args := #[s, x], argTypes := #[t, t] }) {w0 w : World} {rb m B : Nat} {v : Value} {n : Nat} {xs : List Value} {cs : Array Value}
    (hown : w.ownsRow B e size v n xs) (hs : a.eval s = v) {g : Nat} (hx : a.eval x = .slice (some ⟨g, 0, none⟩) 1 1) (hg : g = w.heap.size) (hcs : cs.size = size) (h1 : ∀ u ∈ cs.toList, u.oneCell' = true)
    (hb : (n + 1) * bytes ≤ 140737488355328) (hn : n + 1 ≤ 9223372036854775807) (hr : Rdr w rb m) (hy : Y rb w0 w) (h0B : w0.heap.size ≤ B) (hrB : rb < B) (hBw : B ≤ w.heap.size)
    (h : ∀ a' c' w', w'.ownsRow B e size (.slice a' (n + 1) c') (n + 1) (xs ++ cs.toList) → Rdr w' rb m → Y rb w0 w' → w.heap.size ≤ w'.heap.size → wpList P ops Q rest (a.put o.dst (.slice a' (n + 1) c')) w') :
    wpList P ops Q (o :: rest) a (w.alloc (.cells cs e)) := by
  subst hg
  obtain ⟨i, z, hi, hz, hsize, hby, hzs⟩ := hT.hi
  refine wpList_append_own _ hgd s x t ho B e i z size bytes hT.ht hi hz hsize hby hzs hT.hsz v n xs hs (hown.alloc _) ⟨w.heap.size, 0, none⟩ 1 1 cs.toList hx (by simp [hcs])
    (fun j u hu => ?_) h1 (by unfold maxLen; omega) hb (by simp; omega) ?_
  · have hadd : (⟨w.heap.size, 0, none⟩ : Addr).add j = ⟨w.heap.size, j, none⟩ := by unfold Addr.add; split <;> simp_all
    rw [hadd, World.cell?_alloc_new]
    simpa using hu
  · intro v' w' hown' hgr _
    obtain ⟨a', c', rfl⟩ := own_slice hown'
    have hlt := hown.lt
    refine h a' c' w' hown' ((hr.x (by (repeat (first | exact X.refl _ | assumption | refine X.ext ?_ _ | refine X.alloc ?_ _ | refine X.drew ?_)))).grown hgr (fun k hk => ?_)) ((hy.trans (Y.of_x (by (repeat (first | exact X.refl _ | assumption | refine X.ext ?_ _ | refine X.alloc ?_ _ | refine X.drew ?_))))).grown hgr (fun k hk => ?_)) ?_
    · have := (hlt k hk).1; omega
    · have := (hlt k hk).1; omega
    · have := hgr.size; simp at this; omega

end Go.Proofs.YtjklpfgjimbabaaDoor
