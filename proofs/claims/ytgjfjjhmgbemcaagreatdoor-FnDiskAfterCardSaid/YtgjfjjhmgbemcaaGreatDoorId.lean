/- Several texts in one: Draw, Body, File, Rowk, Trees, AnyTree, Path, DrawFind. No condition but lengths. -/
import Derived.Test.YtgjfjjhmgbemcaaGreatDoorIb
import Derived.Test.YtgjfjjhmgbemcaaGreatDoorIa
import Derived.Laws.BitsAllLaws
import Derived.Laws.BitsLemmas
import Derived.Deep.RegionLaw
import Derived.Deep.RegionHeld3
namespace Go.Proofs.YtgjfjjhmgbemcaaGreatDoor
open Go.RowKit

/-- A reader at block rb, not beyond m picks. -/
def Rdr (w : World) (rb m : Nat) : Prop :=
  ∃ (ca : Option Addr) (cn cc p : Nat), w.heap[rb]? = some (.cells #[.slice ca cn cc, .int .i64 (p : Int)] 159 (0, 0)) ∧ p ≤ m ∧ m ≤ 1000000000 ∧ cn ≤ 2000 ∧
    (0 < cn → ∃ b off, ca = some ⟨b, off, none⟩ ∧ b < rb ∧ ∀ i, i < cn → ∃ v : Nat, v < 256 ∧ w.cell? ⟨b, off + i, none⟩ = some (.int .u8 (v : Int)))
theorem Rdr.lt {w : World} {rb m : Nat} (h : Rdr w rb m) : rb < w.heap.size := by
  obtain ⟨ca, cn, cc, p, h1, _⟩ := h
  exact (Array.getElem?_eq_some_iff.1 h1).1
theorem Rdr.below {w w' : World} {rb m : Nat} (h : Rdr w rb m) (hx : Below (rb + 1) w w') : Rdr w' rb m := by
  obtain ⟨ca, cn, cc, p, h1, h2, h3, h4, h5⟩ := h
  refine ⟨ca, cn, cc, p, (hx.block rb (by omega)).trans h1, h2, h3, h4, fun hn => ?_⟩
  obtain ⟨b, off, ha, hb, hc⟩ := h5 hn
  refine ⟨b, off, ha, hb, fun i hi => ?_⟩
  obtain ⟨v, hv, hcv⟩ := hc i hi
  exact ⟨v, hv, (hx.cell (p := ⟨b, off + i, none⟩) (Nat.lt_succ_of_lt hb)).trans hcv⟩
theorem Rdr.x {w w' : World} {rb m : Nat} (h : Rdr w rb m) (hx : X w w') : Rdr w' rb m := h.below (hx.below.mono h.lt)
theorem Rdr.weak {w : World} {rb m m' : Nat} (h : Rdr w rb m) (hm : m ≤ m') (h2 : m' ≤ 1000000000) : Rdr w rb m' := by
  obtain ⟨ca, cn, cc, p, h1, h2, h3, h4⟩ := h
  exact ⟨ca, cn, cc, p, h1, by omega, by omega, h4⟩
/-- Only the reader's block, and what is new, has changed. -/
def Y (rb : Nat) (w w' : World) : Prop := w.grownBy w' (some rb)
theorem Y.refl (rb : Nat) (w : World) : Y rb w w := ⟨rfl, rfl, rfl, Nat.le_refl _, fun _ _ _ => rfl⟩
theorem Y.trans {rb : Nat} {a b c : World} (h : Y rb a b) (k : Y rb b c) : Y rb a c :=
  ⟨k.os.trans h.os, k.tape.trans h.tape, k.output.trans h.output, Nat.le_trans h.size k.size, fun i hi hn => (k.block i (Nat.lt_of_lt_of_le hi h.size) hn).trans (h.block i hi hn)⟩
theorem Y.of_x {rb : Nat} {w w' : World} (h : X w w') : Y rb w w' := ⟨h.below.os, h.below.tape, h.below.output, h.size, fun k hk _ => h.below.block k hk⟩
theorem Y.fr {rb : Nat} {w w' : World} (h : Y rb w w') : Fr (rb + 1) w w' := ⟨h.size, fun k hk hl => h.block k hl (by simp; omega)⟩
theorem Y.cell {rb : Nat} {w w' : World} (h : Y rb w w') {b o : Nat} (hb : b < w.heap.size) (hne : b ≠ rb) : w'.cell? ⟨b, o, none⟩ = w.cell? ⟨b, o, none⟩ :=
  World.cell?_of_block (w := w) (h.block b hb (by simpa using hne))
theorem Y.setCell {rb o : Nat} {w w' : World} (h : Y rb w w') (v : Value) : Y rb w (w'.setCell ⟨rb, o, none⟩ v) :=
  ⟨h.os, h.tape, h.output, by simpa [World.setCell] using h.size, fun i hi hne => (Below.heap_setCell w' _ v i (by simpa using hne)).trans (h.block i hi hne)⟩
theorem Y.drew {rb : Nat} {w w' : World} (h : Y rb w w') : Y rb w w'.drew := ⟨h.os, h.tape, h.output, h.size, h.block⟩
theorem Y.drewN {rb n : Nat} {w w' : World} (h : Y rb w w') : Y rb w (w'.drewN n) := ⟨h.os, h.tape, h.output, h.size, h.block⟩
theorem Rdr.set {w : World} {rb m : Nat} {ca : Option Addr} {cn cc p : Nat} (h1 : w.heap[rb]? = some (.cells #[.slice ca cn cc, .int .i64 (p : Int)] 159 (0, 0))) (h2 : p ≤ m) (h3 : m + 1 ≤ 1000000000) (h4 : cn ≤ 2000)
    (h5 : 0 < cn → ∃ b off, ca = some ⟨b, off, none⟩ ∧ b < rb ∧ ∀ i, i < cn → ∃ v : Nat, v < 256 ∧ w.cell? ⟨b, off + i, none⟩ = some (.int .u8 (v : Int))) :
    Rdr (w.setCell ⟨rb, 1, none⟩ (.int .i64 ((p : Int) + 1))) rb (m + 1) := by
  refine ⟨ca, cn, cc, p + 1, ?_, by omega, h3, h4, fun hn => ?_⟩
  · simp [World.setCell, Array.getElem?_modify, h1]
  · obtain ⟨b, off, ha, hb, hc⟩ := h5 hn
    refine ⟨b, off, ha, hb, fun i hi => ?_⟩
    obtain ⟨v, hv, hcv⟩ := hc i hi
    refine ⟨v, hv, ?_⟩
    rw [World.cell?_setCell_other _ _ _ _ (fun e => absurd hb (by injection e with e; omega))]
    exact hcv
theorem ofInt_i64 (a : Nat) (ha : a < 9223372036854775808) : (BitVec.ofInt 64 (a : Int)).toNat = a := by
  rw [BitVec.ofInt_natCast, BitVec.toNat_ofNat]; exact Nat.mod_eq_of_lt (by omega)
theorem i64_xor_nat (a b : Nat) (ha : a < 9223372036854775808) (hb : b < 9223372036854775808) : bits .xor .i64 (a : Int) (b : Int) = ((a ^^^ b : Nat) : Int) := by
  have hx : a ^^^ b < 2 ^ 63 := Nat.xor_lt_two_pow (by omega) (by omega)
  show IntKind.i64.wrap ((BitVec.ofInt 64 (a : Int) ^^^ BitVec.ofInt 64 (b : Int)).toNat : Int) = _
  rw [BitVec.toNat_xor, ofInt_i64 a ha, ofInt_i64 b hb, IntKind.wrap_i64]
  omega
set_option maxRecDepth 100000 in
set_option maxHeartbeats 1000000 in
theorem pick_c (rb m : Nat) (n : Int) (w : World) (hr : Rdr w rb m) (hm : m + 1 ≤ 1000000000) (hn : n ≤ 4000000000) :
    Calls Tryz.prog 120 #[.pointer (some ⟨rb, 0, none⟩), .int .i64 n] w fun e w' => ∃ k : Nat, e = .returned (.int .i64 (k : Int)) ∧ ((k : Int) < n ∨ k = 0) ∧ Rdr w' rb (m + 1) ∧ Y rb w w' := by
  obtain ⟨ca, cn, cc, p, h1, h2, h3, h4, h5⟩ := hr
  have hset := Rdr.set h1 h2 hm h4 h5
  have hc : ∀ i, w.cell? ⟨rb, i, none⟩ = #[.slice ca cn cc, .int .i64 (p : Int)][i]? := fun i => cell_of_row w rb i _ _ (0, 0) h1
  have hf : ∀ i, w.frozen? ⟨rb, i, none⟩ = false := fun i => by simp [World.frozen?, h1]
  have H1 := Lib.hid h1
  clear h1
  by_cases hn1 : n < 1
  · go_enter Tryz.func120, Tryz.ntmps120
    go_wp2
    go_ret
    exact ⟨0, rfl, .inr rfl, hset, (Y.refl _ _).setCell _⟩
  by_cases hcn : cn = 0
  · subst hcn
    go_enter Tryz.func120, Tryz.ntmps120
    go_wp2
    go_ret
    exact ⟨0, rfl, .inr rfl, hset, (Y.refl _ _).setCell _⟩
  have hcn' : 0 < cn := Nat.pos_of_ne_zero hcn
  obtain ⟨b, off, rfl, hbr, hcell⟩ := h5 hcn'
  have hne : b ≠ rb := by omega
  have hb : b < w.heap.size := Nat.lt_trans hbr (Array.getElem?_eq_some_iff.1 H1.out).1
  clear h5
  have hcz : ((cn : Int) == 0) = false := by rw [beq_eq_false_iff_ne]; omega
  have hbl : (b == rb) = false := by simpa using hne
  by_cases hp : p < cn
  · obtain ⟨v, hv, hcv⟩ := hcell p hp
    go_enter Tryz.func120, Tryz.ntmps120
    go_wp2
    go_ret
    have hm1 := Int.emod_nonneg (v : Int) (show n ≠ 0 by omega)
    have hm2 := Int.emod_lt_of_pos (v : Int) (show 0 < n by omega)
    refine ⟨((v : Int) % n).toNat, ?_, .inl (by omega), hset, (Y.refl _ _).setCell _⟩
    rw [Int.toNat_of_nonneg hm1]
    simp
  · obtain ⟨q, e1, hq⟩ : ∃ q : Nat, ((p : Int) % (cn : Int)) = (q : Int) ∧ q < cn := ⟨p % cn, by simp, Nat.mod_lt _ hcn'⟩
    obtain ⟨r, e2, hr⟩ : ∃ r : Nat, (((p : Int) * 7 + 3) % (cn : Int)) = (r : Int) ∧ r < cn := ⟨(p * 7 + 3) % cn, by simp, Nat.mod_lt _ hcn'⟩
    obtain ⟨t, e3, ht⟩ : ∃ t : Nat, ((p : Int) / (cn : Int)) = (t : Int) ∧ t ≤ p := ⟨p / cn, by simp, Nat.div_le_self _ _⟩
    obtain ⟨v, hv, hcv⟩ := hcell q hq
    obtain ⟨u, hu, hcu⟩ := hcell r hr
    go_enter Tryz.func120, Tryz.ntmps120
    go_wp2
    go_quiet (fail)
    go_wp2
    go_ret
    obtain ⟨a, ha⟩ : ∃ a : Nat, a = v * 131 + u * 1117 + p * 29 + t * 53 := ⟨_, rfl⟩
    have ha1 : ((v : Int) * 131 + (u : Int) * 1117 + (p : Int) * 29 + (t : Int) * 53) = (a : Int) := by omega
    have ha2 : a < 9223372036854775808 := by omega
    have ha3 : (a : Int) / 64 = ((a / 64 : Nat) : Int) := by omega
    have hxor := i64_xor_nat a (a / 64) ha2 (by omega)
    generalize a ^^^ (a / 64) = z at hxor
    have hm1 := Int.tmod_nonneg n (show (0 : Int) ≤ (z : Int) by omega)
    have hm2 := Int.tmod_lt_of_pos (z : Int) (show 0 < n by omega)
    rw [ha1, ha3, hxor]
    refine ⟨((z : Int).tmod n).toNat, ?_, .inl (by omega), hset, ((Y.refl _ _).setCell _).drewN⟩
    rw [Int.toNat_of_nonneg hm1]
    simp
set_option maxHeartbeats 400000 in
theorem newReader_c (ca : Option Addr) (cn cc : Nat) (w : World) (hcc : cn ≤ cc) (h5 : 0 < cn → ∃ b off, ca = some ⟨b, off, none⟩ ∧ b < w.heap.size ∧ ∀ i, i < cn → ∃ v : Nat, v < 256 ∧ w.cell? ⟨b, off + i, none⟩ = some (.int .u8 (v : Int))) (hn : cn ≤ 1048576) :
    Calls Tryz.prog 68 #[.slice ca cn cc] w fun e w' => e = .returned (.pointer (some ⟨w.heap.size, 0, none⟩)) ∧ Rdr w' w.heap.size 0 ∧ X w w' := by
  by_cases hlt : 2000 < cn
  · obtain ⟨b, off, rfl, hb, hc⟩ := h5 (by omega)
    go_enter Tryz.func68, Tryz.ntmps68
    go_wp2
    go_ret
    refine ⟨by simp, ⟨_, 2000, _, 0, heap_alloc_new w _, by omega, by omega, by omega, fun _ => ⟨b, off, rfl, hb, fun i hi => ?_⟩⟩, by (repeat (first | exact X.refl _ | assumption | refine X.ext ?_ _ | refine X.alloc ?_ _ | refine X.drew ?_))⟩
    obtain ⟨v, hv, hcv⟩ := hc i (by omega)
    exact ⟨v, hv, by rw [World.cell?_alloc_lt _ _ _ hb]; exact hcv⟩
  · go_enter Tryz.func68, Tryz.ntmps68
    go_wp2
    go_ret
    refine ⟨by simp, ⟨_, cn, _, 0, heap_alloc_new w _, by omega, by omega, by omega, fun h0 => ?_⟩, by (repeat (first | exact X.refl _ | assumption | refine X.ext ?_ _ | refine X.alloc ?_ _ | refine X.drew ?_))⟩
    obtain ⟨b, off, rfl, hb, hc⟩ := h5 h0
    refine ⟨b, off, rfl, hb, fun i hi => ?_⟩
    obtain ⟨v, hv, hcv⟩ := hc i hi
    exact ⟨v, hv, by rw [World.cell?_alloc_lt _ _ _ hb]; exact hcv⟩
set_option maxHeartbeats 400000 in
theorem one_c (rb m : Nat) (l : List Int) (a : Option Addr) (n c B : Nat) (w : World) (hr : Rdr w rb m) (hm : m + 1 ≤ 1000000000) (hI : IntsAt w B a n l) (hB : rb < B) (h0 : 0 < n) :
    Calls Tryz.prog 71 #[.pointer (some ⟨rb, 0, none⟩), .slice a n c] w fun e w' => ∃ x, e = .returned (.int .i64 x) ∧ x ∈ l ∧ Rdr w' rb (m + 1) ∧ Y rb w w' := by
  have hn := hI.2.1
  go_enter Tryz.func71, Tryz.ntmps71
  go_wp2_with fail
  refine (pick_c rb m _ _ hr hm (by omega)).mono ?_
  rintro _ w1 ⟨k, rfl, hk, hr1, hy⟩
  have hkn : k < n := by omega
  obtain ⟨b, off, rfl, hb1, hb2, hc⟩ := (hI.mono (hy.fr.mono hB)).at_ hkn
  go_wp2
  go_ret
  exact ⟨_, rfl, nth_mem (by have := hI.1; omega), hr1, hy⟩
set_option maxHeartbeats 400000 in
theorem of_c (rb m : Nat) (l : List (List UInt8)) (a : Option Addr) (n c B : Nat) (w : World) (hr : Rdr w rb m) (hm : m + 1 ≤ 1000000000) (hI : StrsAt w B a n l) (hB : rb < B) (h0 : 0 < n) :
    Calls Tryz.prog 165 #[.pointer (some ⟨rb, 0, none⟩), .slice a n c] w fun e w' => ∃ x, e = .returned (.string ⟨(x).toArray⟩) ∧ x ∈ l ∧ Rdr w' rb (m + 1) ∧ Y rb w w' := by
  have hn := hI.2.1
  go_enter Tryz.func165, Tryz.ntmps165
  go_wp2_with fail
  refine (pick_c rb m _ _ hr hm (by omega)).mono ?_
  rintro _ w1 ⟨k, rfl, hk, hr1, hy⟩
  have hkn : k < n := by omega
  obtain ⟨b, off, rfl, hb1, hb2, hc, _⟩ := (hI.mono (hy.fr.mono hB)).at_ hkn
  go_wp2
  go_ret
  exact ⟨_, rfl, nth_mem (by have := hI.1; omega), hr1, hy⟩

theorem strs_lit {w : World} {B g n : Nat} {l : List (List UInt8)} {cs : Array Value} (hg : g = w.heap.size) (hB : B ≤ g) (hn : n = l.length) (hcs : cs.toList = strs l) (hl : l.length ≤ 8388608) (hs : ∀ s ∈ l, s.length ≤ 4194304) :
    StrsAt (w.alloc (.cells cs 9)) B (some ⟨g, 0, none⟩) n l := by
  subst hg hn
  refine StrsAt.of_own (c := l.length) (e := 9) ?_ hl hs
  rw [← hcs]
  refine own_lit rfl hB ?_ (by omega)
  rw [← Array.length_toList, hcs, flat_length 1 _ (fun _ => rfl)]
theorem ints_lit {w : World} {B g n : Nat} {l : List Int} {cs : Array Value} (hg : g = w.heap.size) (hB : B ≤ g) (hn : n = l.length) (hcs : cs.toList = ints l) (hl : l.length ≤ 2097152) :
    IntsAt (w.alloc (.cells cs 3)) B (some ⟨g, 0, none⟩) n l := by
  subst hg hn
  refine ⟨rfl, hl, ?_⟩
  show Sl _ B _ _ (ints l)
  rw [← hcs]
  refine Sl.of_own (e := 3) (c := l.length) (size := 1) (own_lit rfl hB ?_ (by omega))
  rw [← Array.length_toList, hcs, flat_length 1 _ (fun _ => rfl)]
set_option maxHeartbeats 400000 in
theorem aPart_c (rb m : Nat) (w : World) (hr : Rdr w rb m) (hm : m + 1 ≤ 1000000000) :
    Calls Tryz.prog 163 #[.pointer (some ⟨rb, 0, none⟩)] w fun e w' => ∃ x : List UInt8, e = .returned (.string ⟨(x).toArray⟩) ∧ x.length ≤ 1 ∧ Rdr w' rb (m + 1) ∧ Y rb w w' := by
  have hlt := hr.lt
  go_enter Tryz.func163, Tryz.ntmps163
  go_wp2_with fail
  refine (of_c rb m [[97], [98], [99], [97], [98]] _ _ _ (rb + 1) _ (hr.x (by (repeat (first | exact X.refl _ | assumption | refine X.ext ?_ _ | refine X.alloc ?_ _ | refine X.drew ?_)))) hm (strs_lit rfl (by omega) rfl rfl (by decide) (by decide)) (by omega) (by decide)).mono ?_
  rintro _ w1 ⟨x, rfl, hx, hr1, hy⟩
  go_wp2
  go_ret
  refine ⟨x, rfl, ?_, hr1, (Y.of_x (by (repeat (first | exact X.refl _ | assumption | refine X.ext ?_ _ | refine X.alloc ?_ _ | refine X.drew ?_)))).trans hy⟩
  revert hx
  simp only [List.mem_cons, List.mem_nil_iff, or_false]
  rintro (rfl | rfl | rfl | rfl | rfl) <;> decide

set_option maxHeartbeats 400000 in
theorem aName_c (rb m : Nat) (w : World) (hr : Rdr w rb m) (hm : m + 4 ≤ 1000000000) :
    Calls Tryz.prog 135 #[.pointer (some ⟨rb, 0, none⟩)] w fun e w' => ∃ x : List UInt8, e = .returned (.string ⟨(x).toArray⟩) ∧ x.length ≤ 5 ∧ Rdr w' rb (m + 4) ∧ Y rb w w' := by
  go_enter Tryz.func135, Tryz.ntmps135
  go_wp2_with fail
  refine (aPart_c rb m _ hr (by omega)).mono ?_
  rintro _ w1 ⟨x, rfl, hx, hr1, hy1⟩
  have hlt := hr1.lt
  go_wp2_with fail
  refine (one_c rb (m + 1) [0, 1, 0, 1, 2] _ _ _ (rb + 1) _ (hr1.x (by (repeat (first | exact X.refl _ | assumption | refine X.ext ?_ _ | refine X.alloc ?_ _ | refine X.drew ?_)))) (by omega) (ints_lit rfl (by omega) rfl rfl (by decide)) (by omega) (by decide)).mono ?_
  rintro _ w2 ⟨n, rfl, hn, hr2, hy2⟩
  have hy3 : Y rb w w2 := hy1.trans ((Y.of_x (by (repeat (first | exact X.refl _ | assumption | refine X.ext ?_ _ | refine X.alloc ?_ _ | refine X.drew ?_)))).trans hy2)
  clear hy2 hy1
  have hn2 : 0 ≤ n ∧ n ≤ 2 := by
    revert hn
    simp only [List.mem_cons, List.mem_nil_iff, or_false]
    omega
  obtain ⟨N, rfl⟩ : ∃ N : Nat, n = N := ⟨n.toNat, by omega⟩
  clear hn
  go_wp2
  go_loopw [3, 4] (fun v i wr => ∃ (k : Nat) (x : List UInt8), k ≤ N ∧ i = .int .i64 k ∧ v = .string ⟨(x).toArray⟩ ∧ x.length ≤ 1 + 2 * (N - k) ∧ Rdr wr rb (m + 2 + (N - k)) ∧ Y rb w wr) (fun _ i _ => (intOf i).toNat)
  case atStart => exact ⟨N, x, by omega, rfl, rfl, by omega, hr2.weak (by omega) (by omega), hy3⟩
  case round =>
    obtain ⟨k, x, hk, rfl, rfl, hx, hr, hy⟩ := hrel
    by_cases h0 : 0 < k
    · go_wp2_with fail
      refine (aPart_c rb _ _ hr (by omega)).mono ?_
      rintro _ w1 ⟨x', rfl, hx', hr1, hy1⟩
      go_wp2
      go_roundw
      case rel => exact ⟨k - 1, x ++ [46] ++ x', by omega, by go_num, by simp, by simp; omega, hr1.weak (by omega) (by omega), hy.trans hy1⟩
      case measure => simp [intOf]; omega
    · go_wp2
      go_ret
      exact ⟨x, rfl, by omega, hr.weak (by omega) (by omega), hy⟩


theorem of_len {x : List UInt8} {l : List (List UInt8)} {n : Nat} (h : x ∈ l) (hl : l.all (fun y => decide (y.length ≤ n)) = true) : x.length ≤ n := by
  have := List.all_eq_true.1 hl x h
  simpa using this
theorem Bx.y {rb : Nat} {w w' : World} {b : Nat} {cs : Array Value} (h : Bx w b cs) (hy : Y rb w w') (hne : b ≠ rb) : Bx w' b cs := by
  have hl := h.lt
  obtain ⟨t, h⟩ := h
  exact ⟨t, (hy.block b hl (by simpa using hne)).trans h⟩
theorem stmt_S : StrT Tryz.prog 148 5 := ⟨⟨_, Tryz.underlying148⟩, by kernel_rfl⟩
theorem Y.set2 {rb : Nat} {w w' : World} (h : Y rb w w') {p : Addr} (hp : w.heap.size ≤ p.block) (v : Value) : Y rb w (w'.setCell p v) :=
  ⟨h.os, h.tape, h.output, by simpa [World.setCell] using h.size, fun i hi hne => (Below.heap_setCell w' _ v i (by omega)).trans (h.block i hi hne)⟩
theorem Rdr.set2 {w : World} {rb m : Nat} (h : Rdr w rb m) {p : Addr} (hp : rb < p.block) (v : Value) : Rdr (w.setCell p v) rb m :=
  h.below ((Below.refl _ _).setCell (by omega) v)

set_option maxRecDepth 100000 in
set_option maxHeartbeats 400000 in
theorem someStmt_c (rb m : Nat) (w : World) (hr : Rdr w rb m) (hm : m + 12 ≤ 1000000000) :
    Calls Tryz.prog 173 #[.pointer (some ⟨rb, 0, none⟩)] w fun e w' => ∃ s : St, e = .returned (.agg #[.int .i64 (s).kind, .string ⟨(s).mod.toArray⟩, .int .i64 (s).level, .string ⟨(s).name.toArray⟩, .int .i64 (s).val]) ∧ (s.mod.length ≤ 20 ∧ s.name.length ≤ 20) ∧ Rdr w' rb (m + 12) ∧ Y rb w w' := by
  have hlt := hr.lt
  have hy : Y rb w (w.alloc (.cells #[.int .i64 0, .string ⟨#[]⟩, .int .i64 0, .string ⟨#[]⟩, .int .i64 0] 148)) := Y.of_x (by (repeat (first | exact X.refl _ | assumption | refine X.ext ?_ _ | refine X.alloc ?_ _ | refine X.drew ?_)))
  have hB := Bx.new w #[.int .i64 0, .string ⟨#[]⟩, .int .i64 0, .string ⟨#[]⟩, .int .i64 0] 148
  obtain ⟨hb, hc, hf⟩ := hB.out
  have hne : w.heap.size ≠ rb := by omega
  replace hr := hr.x (w' := (w.alloc (.cells #[.int .i64 0, .string ⟨#[]⟩, .int .i64 0, .string ⟨#[]⟩, .int .i64 0] 148))) (by (repeat (first | exact X.refl _ | assumption | refine X.ext ?_ _ | refine X.alloc ?_ _ | refine X.drew ?_)))
  go_enter Tryz.func173, Tryz.ntmps173
  go_wp2_with fail
  refine (pick_c rb _ _ _ hr (by omega) (by omega)).mono ?_
  rintro _ w' ⟨k, rfl, hk, hr', hy'⟩
  replace hB := (hB.x (by (repeat (first | exact X.refl _ | assumption | refine X.ext ?_ _ | refine X.alloc ?_ _ | refine X.drew ?_)))).y hy' hne; replace hy := hy.trans ((Y.of_x (by (repeat (first | exact X.refl _ | assumption | refine X.ext ?_ _ | refine X.alloc ?_ _ | refine X.drew ?_)))).trans hy'); replace hr := hr'; clear hr' hy' hb hc hf; obtain ⟨hb, hc, hf⟩ := hB.out
  go_wp2_with fail
  · go_wp2_with ((go_at_call 135; refine (aName_c rb _ _ (hr.x (by (repeat (first | exact X.refl _ | assumption | refine X.ext ?_ _ | refine X.alloc ?_ _ | refine X.drew ?_)))) (by omega)).mono ?_; rintro _ w' ⟨xs, rfl, hxs, hr', hy'⟩; replace hB := (hB.x (by (repeat (first | exact X.refl _ | assumption | refine X.ext ?_ _ | refine X.alloc ?_ _ | refine X.drew ?_)))).y hy' hne; replace hy := hy.trans ((Y.of_x (by (repeat (first | exact X.refl _ | assumption | refine X.ext ?_ _ | refine X.alloc ?_ _ | refine X.drew ?_)))).trans hy'); replace hr := hr'; clear hr' hy' hb hc hf; obtain ⟨hb, hc, hf⟩ := hB.out))
    refine bodyPost_row Tryz.results173 rfl (Bx.set (Bx.set (Bx.set (Bx.set (Bx.set hB 0 _) 1 _) 2 _) 3 _) 4 _) stmt_S rfl rfl ?_
    exact ⟨⟨0, xs, 0, [], 0⟩, rfl, ⟨by first | omega | (simp; done) | (simp; omega), by first | omega | (simp; done) | (simp; omega)⟩, by (repeat (first | refine Rdr.set2 ?_ (by first | exact hlt | exact (Nat.lt_of_lt_of_le hlt hw4) | omega) _ | (refine Rdr.weak hr (by omega) (by omega)))), by (repeat (first | refine Y.set2 ?_ (by first | exact Nat.le_refl _ | exact hw4 | omega) _ | exact hy))⟩
  · go_wp2_with ((go_at_call 135; refine (aName_c rb _ _ (hr.x (by (repeat (first | exact X.refl _ | assumption | refine X.ext ?_ _ | refine X.alloc ?_ _ | refine X.drew ?_)))) (by omega)).mono ?_; rintro _ w' ⟨xs, rfl, hxs, hr', hy'⟩; replace hB := (hB.x (by (repeat (first | exact X.refl _ | assumption | refine X.ext ?_ _ | refine X.alloc ?_ _ | refine X.drew ?_)))).y hy' hne; replace hy := hy.trans ((Y.of_x (by (repeat (first | exact X.refl _ | assumption | refine X.ext ?_ _ | refine X.alloc ?_ _ | refine X.drew ?_)))).trans hy'); replace hr := hr'; clear hr' hy' hb hc hf; obtain ⟨hb, hc, hf⟩ := hB.out))
    refine bodyPost_row Tryz.results173 rfl (Bx.set (Bx.set (Bx.set (Bx.set (Bx.set hB 0 _) 1 _) 2 _) 3 _) 4 _) stmt_S rfl rfl ?_
    exact ⟨⟨0, xs, 0, [], 0⟩, rfl, ⟨by first | omega | (simp; done) | (simp; omega), by first | omega | (simp; done) | (simp; omega)⟩, by (repeat (first | refine Rdr.set2 ?_ (by first | exact hlt | exact (Nat.lt_of_lt_of_le hlt hw4) | omega) _ | (refine Rdr.weak hr (by omega) (by omega)))), by (repeat (first | refine Y.set2 ?_ (by first | exact Nat.le_refl _ | exact hw4 | omega) _ | exact hy))⟩
  · go_wp2_with (go_at_call 71; refine (one_c rb _ [0, 1, 2, 1] _ _ _ (rb + 1) _ (hr.x (by (repeat (first | exact X.refl _ | assumption | refine X.ext ?_ _ | refine X.alloc ?_ _ | refine X.drew ?_)))) (by omega) (ints_lit rfl (by have := hr.lt; first | omega | (simp; omega)) rfl rfl (by decide)) (by omega) (by decide)).mono ?_; rintro _ w' ⟨n, rfl, hn, hr', hy'⟩; replace hB := (hB.x (by (repeat (first | exact X.refl _ | assumption | refine X.ext ?_ _ | refine X.alloc ?_ _ | refine X.drew ?_)))).y hy' hne; replace hy := hy.trans ((Y.of_x (by (repeat (first | exact X.refl _ | assumption | refine X.ext ?_ _ | refine X.alloc ?_ _ | refine X.drew ?_)))).trans hy'); replace hr := hr'; clear hr' hy' hb hc hf; obtain ⟨hb, hc, hf⟩ := hB.out)
    go_wp2_with (first | (go_at_call 120; refine (pick_c rb _ _ _ (hr.x (by (repeat (first | exact X.refl _ | assumption | refine X.ext ?_ _ | refine X.alloc ?_ _ | refine X.drew ?_)))) (by omega) (by omega)).mono ?_; rintro _ w' ⟨k, rfl, hk, hr', hy'⟩; replace hB := (hB.x (by (repeat (first | exact X.refl _ | assumption | refine X.ext ?_ _ | refine X.alloc ?_ _ | refine X.drew ?_)))).y hy' hne; replace hy := hy.trans ((Y.of_x (by (repeat (first | exact X.refl _ | assumption | refine X.ext ?_ _ | refine X.alloc ?_ _ | refine X.drew ?_)))).trans hy'); replace hr := hr'; clear hr' hy' hb hc hf; obtain ⟨hb, hc, hf⟩ := hB.out) | (go_at_call 163; refine (aPart_c rb _ _ (hr.x (by (repeat (first | exact X.refl _ | assumption | refine X.ext ?_ _ | refine X.alloc ?_ _ | refine X.drew ?_)))) (by omega)).mono ?_; rintro _ w' ⟨xs, rfl, hxs, hr', hy'⟩; replace hB := (hB.x (by (repeat (first | exact X.refl _ | assumption | refine X.ext ?_ _ | refine X.alloc ?_ _ | refine X.drew ?_)))).y hy' hne; replace hy := hy.trans ((Y.of_x (by (repeat (first | exact X.refl _ | assumption | refine X.ext ?_ _ | refine X.alloc ?_ _ | refine X.drew ?_)))).trans hy'); replace hr := hr'; clear hr' hy' hb hc hf; obtain ⟨hb, hc, hf⟩ := hB.out) | (go_at_call 135; refine (aName_c rb _ _ (hr.x (by (repeat (first | exact X.refl _ | assumption | refine X.ext ?_ _ | refine X.alloc ?_ _ | refine X.drew ?_)))) (by omega)).mono ?_; rintro _ w' ⟨ms, rfl, hms, hr', hy'⟩; replace hB := (hB.x (by (repeat (first | exact X.refl _ | assumption | refine X.ext ?_ _ | refine X.alloc ?_ _ | refine X.drew ?_)))).y hy' hne; replace hy := hy.trans ((Y.of_x (by (repeat (first | exact X.refl _ | assumption | refine X.ext ?_ _ | refine X.alloc ?_ _ | refine X.drew ?_)))).trans hy'); replace hr := hr'; clear hr' hy' hb hc hf; obtain ⟨hb, hc, hf⟩ := hB.out))
    all_goals refine bodyPost_row Tryz.results173 rfl (Bx.set (Bx.set (Bx.set (Bx.set (Bx.set hB 0 _) 1 _) 2 _) 3 _) 4 _) stmt_S rfl rfl ?_
    · exact ⟨⟨1, [], n, xs, 0⟩, rfl, ⟨by simp, by simp; omega⟩, by (repeat (first | refine Rdr.set2 ?_ (by first | exact hlt | exact (Nat.lt_of_lt_of_le hlt hw4) | omega) _ | (refine Rdr.weak hr (by omega) (by omega)))), by (repeat (first | refine Y.set2 ?_ (by first | exact Nat.le_refl _ | exact hw4 | omega) _ | exact hy))⟩
    · exact ⟨⟨1, ms, n, xs, 0⟩, rfl, ⟨by simp; omega, by simp; omega⟩, by (repeat (first | refine Rdr.set2 ?_ (by first | exact hlt | exact (Nat.lt_of_lt_of_le hlt hw4) | omega) _ | (refine Rdr.weak hr (by omega) (by omega)))), by (repeat (first | refine Y.set2 ?_ (by first | exact Nat.le_refl _ | exact hw4 | omega) _ | exact hy))⟩
    · exact ⟨⟨1, ms, n, xs, 0⟩, rfl, ⟨by simp; omega, by simp; omega⟩, by (repeat (first | refine Rdr.set2 ?_ (by first | exact hlt | exact (Nat.lt_of_lt_of_le hlt hw4) | omega) _ | (refine Rdr.weak hr (by omega) (by omega)))), by (repeat (first | refine Y.set2 ?_ (by first | exact Nat.le_refl _ | exact hw4 | omega) _ | exact hy))⟩
  · go_wp2_with ((go_at_call 135; refine (aName_c rb _ _ (hr.x (by (repeat (first | exact X.refl _ | assumption | refine X.ext ?_ _ | refine X.alloc ?_ _ | refine X.drew ?_)))) (by omega)).mono ?_; rintro _ w' ⟨xs, rfl, hxs, hr', hy'⟩; replace hB := (hB.x (by (repeat (first | exact X.refl _ | assumption | refine X.ext ?_ _ | refine X.alloc ?_ _ | refine X.drew ?_)))).y hy' hne; replace hy := hy.trans ((Y.of_x (by (repeat (first | exact X.refl _ | assumption | refine X.ext ?_ _ | refine X.alloc ?_ _ | refine X.drew ?_)))).trans hy'); replace hr := hr'; clear hr' hy' hb hc hf; obtain ⟨hb, hc, hf⟩ := hB.out))
    refine bodyPost_row Tryz.results173 rfl (Bx.set (Bx.set (Bx.set (Bx.set (Bx.set hB 0 _) 1 _) 2 _) 3 _) 4 _) stmt_S rfl rfl ?_
    exact ⟨⟨2, xs, 0, [], 0⟩, rfl, ⟨by first | omega | (simp; done) | (simp; omega), by first | omega | (simp; done) | (simp; omega)⟩, by (repeat (first | refine Rdr.set2 ?_ (by first | exact hlt | exact (Nat.lt_of_lt_of_le hlt hw4) | omega) _ | (refine Rdr.weak hr (by omega) (by omega)))), by (repeat (first | refine Y.set2 ?_ (by first | exact Nat.le_refl _ | exact hw4 | omega) _ | exact hy))⟩
  · go_wp2_with (first | (go_at_call 120; refine (pick_c rb _ _ _ (hr.x (by (repeat (first | exact X.refl _ | assumption | refine X.ext ?_ _ | refine X.alloc ?_ _ | refine X.drew ?_)))) (by omega) (by omega)).mono ?_; rintro _ w' ⟨k, rfl, hk, hr', hy'⟩; replace hB := (hB.x (by (repeat (first | exact X.refl _ | assumption | refine X.ext ?_ _ | refine X.alloc ?_ _ | refine X.drew ?_)))).y hy' hne; replace hy := hy.trans ((Y.of_x (by (repeat (first | exact X.refl _ | assumption | refine X.ext ?_ _ | refine X.alloc ?_ _ | refine X.drew ?_)))).trans hy'); replace hr := hr'; clear hr' hy' hb hc hf; obtain ⟨hb, hc, hf⟩ := hB.out) | (go_at_call 165; refine (of_c rb _ [[120], [121], [122], [97]] _ _ _ (rb + 1) _ (hr.x (by (repeat (first | exact X.refl _ | assumption | refine X.ext ?_ _ | refine X.alloc ?_ _ | refine X.drew ?_)))) (by omega) (strs_lit rfl (by have := hr.lt; first | omega | (simp; omega)) rfl rfl (by decide) (by decide)) (by omega) (by decide)).mono ?_; rintro _ w' ⟨xs, rfl, hxs, hr', hy'⟩; replace hxs := of_len (n := 10) hxs (by decide); replace hB := (hB.x (by (repeat (first | exact X.refl _ | assumption | refine X.ext ?_ _ | refine X.alloc ?_ _ | refine X.drew ?_)))).y hy' hne; replace hy := hy.trans ((Y.of_x (by (repeat (first | exact X.refl _ | assumption | refine X.ext ?_ _ | refine X.alloc ?_ _ | refine X.drew ?_)))).trans hy'); replace hr := hr'; clear hr' hy' hb hc hf; obtain ⟨hb, hc, hf⟩ := hB.out))
    refine bodyPost_row Tryz.results173 rfl (Bx.set (Bx.set (Bx.set (Bx.set (Bx.set hB 0 _) 1 _) 2 _) 3 _) 4 _) stmt_S rfl rfl ?_
    exact ⟨⟨3, [], 0, xs, _⟩, rfl, ⟨by first | omega | (simp; done) | (simp; omega), by first | omega | (simp; done) | (simp; omega)⟩, by (repeat (first | refine Rdr.set2 ?_ (by first | exact hlt | exact (Nat.lt_of_lt_of_le hlt hw4) | omega) _ | (refine Rdr.weak hr (by omega) (by omega)))), by (repeat (first | refine Y.set2 ?_ (by first | exact Nat.le_refl _ | exact hw4 | omega) _ | exact hy))⟩
  · go_wp2_with (first | (go_at_call 120; refine (pick_c rb _ _ _ (hr.x (by (repeat (first | exact X.refl _ | assumption | refine X.ext ?_ _ | refine X.alloc ?_ _ | refine X.drew ?_)))) (by omega) (by omega)).mono ?_; rintro _ w' ⟨k, rfl, hk, hr', hy'⟩; replace hB := (hB.x (by (repeat (first | exact X.refl _ | assumption | refine X.ext ?_ _ | refine X.alloc ?_ _ | refine X.drew ?_)))).y hy' hne; replace hy := hy.trans ((Y.of_x (by (repeat (first | exact X.refl _ | assumption | refine X.ext ?_ _ | refine X.alloc ?_ _ | refine X.drew ?_)))).trans hy'); replace hr := hr'; clear hr' hy' hb hc hf; obtain ⟨hb, hc, hf⟩ := hB.out) | (go_at_call 165; refine (of_c rb _ [[120], [121], [122], [97]] _ _ _ (rb + 1) _ (hr.x (by (repeat (first | exact X.refl _ | assumption | refine X.ext ?_ _ | refine X.alloc ?_ _ | refine X.drew ?_)))) (by omega) (strs_lit rfl (by have := hr.lt; first | omega | (simp; omega)) rfl rfl (by decide) (by decide)) (by omega) (by decide)).mono ?_; rintro _ w' ⟨xs, rfl, hxs, hr', hy'⟩; replace hxs := of_len (n := 10) hxs (by decide); replace hB := (hB.x (by (repeat (first | exact X.refl _ | assumption | refine X.ext ?_ _ | refine X.alloc ?_ _ | refine X.drew ?_)))).y hy' hne; replace hy := hy.trans ((Y.of_x (by (repeat (first | exact X.refl _ | assumption | refine X.ext ?_ _ | refine X.alloc ?_ _ | refine X.drew ?_)))).trans hy'); replace hr := hr'; clear hr' hy' hb hc hf; obtain ⟨hb, hc, hf⟩ := hB.out))
    refine bodyPost_row Tryz.results173 rfl (Bx.set (Bx.set (Bx.set (Bx.set (Bx.set hB 0 _) 1 _) 2 _) 3 _) 4 _) stmt_S rfl rfl ?_
    exact ⟨⟨3, [], 0, xs, _⟩, rfl, ⟨by first | omega | (simp; done) | (simp; omega), by first | omega | (simp; done) | (simp; omega)⟩, by (repeat (first | refine Rdr.set2 ?_ (by first | exact hlt | exact (Nat.lt_of_lt_of_le hlt hw4) | omega) _ | (refine Rdr.weak hr (by omega) (by omega)))), by (repeat (first | refine Y.set2 ?_ (by first | exact Nat.le_refl _ | exact hw4 | omega) _ | exact hy))⟩
  · go_wp2_with (first | (go_at_call 120; refine (pick_c rb _ _ _ (hr.x (by (repeat (first | exact X.refl _ | assumption | refine X.ext ?_ _ | refine X.alloc ?_ _ | refine X.drew ?_)))) (by omega) (by omega)).mono ?_; rintro _ w' ⟨k, rfl, hk, hr', hy'⟩; replace hB := (hB.x (by (repeat (first | exact X.refl _ | assumption | refine X.ext ?_ _ | refine X.alloc ?_ _ | refine X.drew ?_)))).y hy' hne; replace hy := hy.trans ((Y.of_x (by (repeat (first | exact X.refl _ | assumption | refine X.ext ?_ _ | refine X.alloc ?_ _ | refine X.drew ?_)))).trans hy'); replace hr := hr'; clear hr' hy' hb hc hf; obtain ⟨hb, hc, hf⟩ := hB.out) | (go_at_call 165; refine (of_c rb _ [[120], [121], [122], [97]] _ _ _ (rb + 1) _ (hr.x (by (repeat (first | exact X.refl _ | assumption | refine X.ext ?_ _ | refine X.alloc ?_ _ | refine X.drew ?_)))) (by omega) (strs_lit rfl (by have := hr.lt; first | omega | (simp; omega)) rfl rfl (by decide) (by decide)) (by omega) (by decide)).mono ?_; rintro _ w' ⟨xs, rfl, hxs, hr', hy'⟩; replace hxs := of_len (n := 10) hxs (by decide); replace hB := (hB.x (by (repeat (first | exact X.refl _ | assumption | refine X.ext ?_ _ | refine X.alloc ?_ _ | refine X.drew ?_)))).y hy' hne; replace hy := hy.trans ((Y.of_x (by (repeat (first | exact X.refl _ | assumption | refine X.ext ?_ _ | refine X.alloc ?_ _ | refine X.drew ?_)))).trans hy'); replace hr := hr'; clear hr' hy' hb hc hf; obtain ⟨hb, hc, hf⟩ := hB.out))
    refine bodyPost_row Tryz.results173 rfl (Bx.set (Bx.set (Bx.set (Bx.set (Bx.set hB 0 _) 1 _) 2 _) 3 _) 4 _) stmt_S rfl rfl ?_
    exact ⟨⟨3, [], 0, xs, _⟩, rfl, ⟨by first | omega | (simp; done) | (simp; omega), by first | omega | (simp; done) | (simp; omega)⟩, by (repeat (first | refine Rdr.set2 ?_ (by first | exact hlt | exact (Nat.lt_of_lt_of_le hlt hw4) | omega) _ | (refine Rdr.weak hr (by omega) (by omega)))), by (repeat (first | refine Y.set2 ?_ (by first | exact Nat.le_refl _ | exact hw4 | omega) _ | exact hy))⟩
  · go_wp2_with (go_at_call 165; refine (of_c rb _ [[120], [121], [97], [98], [120]] _ _ _ (rb + 1) _ (hr.x (by (repeat (first | exact X.refl _ | assumption | refine X.ext ?_ _ | refine X.alloc ?_ _ | refine X.drew ?_)))) (by omega) (strs_lit rfl (by have := hr.lt; first | omega | (simp; omega)) rfl rfl (by decide) (by decide)) (by omega) (by decide)).mono ?_; rintro _ w' ⟨xs, rfl, hxs, hr', hy'⟩; replace hxs := of_len (n := 10) hxs (by decide); replace hB := (hB.x (by (repeat (first | exact X.refl _ | assumption | refine X.ext ?_ _ | refine X.alloc ?_ _ | refine X.drew ?_)))).y hy' hne; replace hy := hy.trans ((Y.of_x (by (repeat (first | exact X.refl _ | assumption | refine X.ext ?_ _ | refine X.alloc ?_ _ | refine X.drew ?_)))).trans hy'); replace hr := hr'; clear hr' hy' hb hc hf; obtain ⟨hb, hc, hf⟩ := hB.out)
    refine bodyPost_row Tryz.results173 rfl (Bx.set (Bx.set (Bx.set (Bx.set (Bx.set hB 0 _) 1 _) 2 _) 3 _) 4 _) stmt_S rfl rfl ?_
    exact ⟨⟨4, [], 0, xs, 0⟩, rfl, ⟨by first | omega | (simp; done) | (simp; omega), by first | omega | (simp; done) | (simp; omega)⟩, by (repeat (first | refine Rdr.set2 ?_ (by first | exact hlt | exact (Nat.lt_of_lt_of_le hlt hw4) | omega) _ | (refine Rdr.weak hr (by omega) (by omega)))), by (repeat (first | refine Y.set2 ?_ (by first | exact Nat.le_refl _ | exact hw4 | omega) _ | exact hy))⟩
  · go_wp2_with ((go_at_call 120; refine (pick_c rb _ _ _ (hr.x (by (repeat (first | exact X.refl _ | assumption | refine X.ext ?_ _ | refine X.alloc ?_ _ | refine X.drew ?_)))) (by omega) (by omega)).mono ?_; rintro _ w' ⟨k, rfl, hk, hr', hy'⟩; replace hB := (hB.x (by (repeat (first | exact X.refl _ | assumption | refine X.ext ?_ _ | refine X.alloc ?_ _ | refine X.drew ?_)))).y hy' hne; replace hy := hy.trans ((Y.of_x (by (repeat (first | exact X.refl _ | assumption | refine X.ext ?_ _ | refine X.alloc ?_ _ | refine X.drew ?_)))).trans hy'); replace hr := hr'; clear hr' hy' hb hc hf; obtain ⟨hb, hc, hf⟩ := hB.out))
    · refine bodyPost_row Tryz.results173 rfl (Bx.set (Bx.set (Bx.set (Bx.set (Bx.set hB 0 _) 1 _) 2 _) 3 _) 4 _) stmt_S rfl rfl ?_
      exact ⟨⟨5, [], 0, [], 0⟩, rfl, ⟨by first | omega | (simp; done) | (simp; omega), by first | omega | (simp; done) | (simp; omega)⟩, by (repeat (first | refine Rdr.set2 ?_ (by first | exact hlt | exact (Nat.lt_of_lt_of_le hlt hw4) | omega) _ | (refine Rdr.weak hr (by omega) (by omega)))), by (repeat (first | refine Y.set2 ?_ (by first | exact Nat.le_refl _ | exact hw4 | omega) _ | exact hy))⟩
    · refine bodyPost_row Tryz.results173 rfl (Bx.set (Bx.set (Bx.set (Bx.set (Bx.set hB 0 _) 1 _) 2 _) 3 _) 4 _) stmt_S rfl rfl ?_
      exact ⟨⟨3, [], 0, [120], _⟩, rfl, ⟨by first | omega | (simp; done) | (simp; omega), by first | omega | (simp; done) | (simp; omega)⟩, by (repeat (first | refine Rdr.set2 ?_ (by first | exact hlt | exact (Nat.lt_of_lt_of_le hlt hw4) | omega) _ | (refine Rdr.weak hr (by omega) (by omega)))), by (repeat (first | refine Y.set2 ?_ (by first | exact Nat.le_refl _ | exact hw4 | omega) _ | exact hy))⟩


theorem stmt_T : AppT Tryz.prog 42 148 5 56 := AppT.of (z := .agg #[.int .i64 0, .string ⟨#[]⟩, .int .i64 0, .string ⟨#[]⟩, .int .i64 0]) (by kernel_rfl) (by kernel_rfl) rfl (by omega)
theorem Rdr.weak2 {w w' : World} {rb m m' : Nat} (h : Rdr w rb m) (hx : X w w') (hm : m ≤ m') (h2 : m' ≤ 1000000000) : Rdr w' rb m' := (h.x hx).weak hm h2
theorem Rdr.grown {w w' : World} {rb m : Nat} {row : Option Nat} (h : Rdr w rb m) (hg : w.grownBy w' row) (hr : ∀ k, row = some k → rb < k) : Rdr w' rb m := by
  have hl := h.lt
  exact h.below ⟨hg.os, hg.tape, hg.output, hg.size, fun k hk => hg.block k (by omega) (fun e => by have := hr k e.symm; omega)⟩
theorem Y.grown {rb : Nat} {w0 w w' : World} {row : Option Nat} (h : Y rb w0 w) (hg : w.grownBy w' row) (hr : ∀ k, row = some k → w0.heap.size ≤ k) : Y rb w0 w' :=
  ⟨hg.os.trans h.os, hg.tape.trans h.tape, hg.output.trans h.output, Nat.le_trans h.size hg.size, fun i hi hn => (hg.block i (Nat.lt_of_lt_of_le hi h.size) (fun e => by have := hr i e.symm; omega)).trans (h.block i hi hn)⟩
/-- append of a literal onto a slice of the call's own, with a reader at hand. -/
theorem wpList_append_y {P : Program} {ops : Array Oper} {rest : List Oper} {o : Oper} {a : Act} {Q : Exit → Act → World → Prop} {t e size bytes : Nat} (hT : AppT P t e size bytes) (hgd : o.guard = none) (s x : Operand)
    (ho : o.op = .call { callee := .builtin .append, args := #[s, x], argTypes := #[t, t] }) {w0 w : World} {rb m B : Nat} {v : Value} {n : Nat} {xs : List Value} {cs : Array Value}
    (hown : w.ownsRow B e size v n xs) (hs : a.eval s = v) {g : Nat} (hx : a.eval x = .slice (some ⟨g, 0, none⟩) 1 1) (hg : g = w.heap.size) (hcs : cs.size = size) (h1 : ∀ u ∈ cs.toList, u.oneCell' = true)
    (hb : (n + 1) * bytes ≤ 140737488355328) (hn : n + 1 ≤ 9223372036854775807) (hr : Rdr w rb m) (hy : Y rb w0 w) (h0B : w0.heap.size ≤ B) (hrB : rb < B) (hBw : B ≤ w.heap.size)
    (h : ∀ a' c' w', w'.ownsRow B e size (.slice a' (n + 1) c') (n + 1) (xs ++ cs.toList) → Rdr w' rb m → Y rb w0 w' → w.heap.size ≤ w'.heap.size → wpList P ops Q rest (a.put o.dst (.slice a' (n + 1) c')) w') :
    wpList P ops Q (o :: rest) a (w.alloc (.cells cs e)) := by
  subst hg
  obtain ⟨i, z, hi, hz, hsize, hby, hzs⟩ := hT.hi
  refine wpList_append_own _ hgd s x t ho B e i z size bytes hT.ht hi hz hsize hby hzs hT.hsz v n xs hs (hown.alloc _) ⟨w.heap.size, 0, none⟩ 1 1 cs.toList hx (by simp [hcs])
    (fun j u hu => ?_) h1 (by unfold maxLen; omega) hb (by simp; omega) ?_
  · have hadd : (⟨w.heap.size, 0, none⟩ : Addr).add j = ⟨w.heap.size, j, none⟩ := by unfold Addr.add; split <;> simp_all
    rw [hadd, World.cell?_alloc_new]
    simpa using hu
  · intro v' w' hown' hgr _
    obtain ⟨a', c', rfl⟩ := own_slice hown'
    have hlt := hown.lt
    refine h a' c' w' hown' ((hr.x (by (repeat (first | exact X.refl _ | assumption | refine X.ext ?_ _ | refine X.alloc ?_ _ | refine X.drew ?_)))).grown hgr (fun k hk => ?_)) ((hy.trans (Y.of_x (by (repeat (first | exact X.refl _ | assumption | refine X.ext ?_ _ | refine X.alloc ?_ _ | refine X.drew ?_))))).grown hgr (fun k hk => ?_)) ?_
    · have := (hlt k hk).1; omega
    · have := (hlt k hk).1; omega
    · have := hgr.size; simp at this; omega

end Go.Proofs.YtgjfjjhmgbemcaaGreatDoor

namespace Go.Proofs.YtgjfjjhmgbemcaaGreatDoor
open Go.RowKit

set_option maxRecDepth 100000 in
set_option maxHeartbeats 1000000 in
theorem someBody_c (rb m : Nat) (w : World) (hr : Rdr w rb m) (hm : m + 60 ≤ 1000000000) :
    Calls Tryz.prog 134 #[.pointer (some ⟨rb, 0, none⟩)] w fun e w' => ∃ (l : List St) (a : Option Addr) (c : Nat), e = .returned (.slice a l.length c) ∧ w'.ownsRow w.heap.size 148 5 (.slice a l.length c) l.length (l.flatMap scells) ∧
      (l.length ≤ 4 ∧ ∀ s ∈ l, s.mod.length ≤ 20 ∧ s.name.length ≤ 20) ∧ Rdr w' rb (m + 60) ∧ Y rb w w' := by
  have hlt := hr.lt
  have hown : (w.alloc (.cells #[] 148)).ownsRow w.heap.size 148 5 (.slice (some ⟨w.heap.size, 0, none⟩) 0 0) 0 [] := own_lit (cs := #[]) rfl (Nat.le_refl _) rfl (by omega)
  have hy : Y rb w (w.alloc (.cells #[] 148)) := Y.of_x (by (repeat (first | exact X.refl _ | assumption | refine X.ext ?_ _ | refine X.alloc ?_ _ | refine X.drew ?_)))
  replace hr : Rdr (w.alloc (.cells #[] 148)) rb m := hr.x (by (repeat (first | exact X.refl _ | assumption | refine X.ext ?_ _ | refine X.alloc ?_ _ | refine X.drew ?_)))
  go_enter Tryz.func134, Tryz.ntmps134
  go_wp2_with fail
  refine (pick_c rb _ _ _ hr (by omega) (by omega)).mono ?_
  rintro _ w1 ⟨k, rfl, hk, hr', hy'⟩
  replace hown := own_fr hown (hy'.fr.mono (by omega))
  replace hy := hy.trans ((Y.of_x (by (repeat (first | exact X.refl _ | assumption | refine X.ext ?_ _ | refine X.alloc ?_ _ | refine X.drew ?_)))).trans hy'); replace hr := hr'; clear hr' hy'
  go_wp2_with fail
  refine (one_c rb _ [2, 1, 3, 0, 4] _ _ _ (rb + 1) _ (hr.x (by (repeat (first | exact X.refl _ | assumption | refine X.ext ?_ _ | refine X.alloc ?_ _ | refine X.drew ?_)))) (by omega) (ints_lit rfl (by have := hr.lt; omega) rfl rfl (by decide)) (by omega) (by decide)).mono ?_
  rintro _ w2 ⟨n, rfl, hn, hr', hy'⟩
  replace hown := own_fr (own_fr hown (X.fr (X.alloc (X.refl _) _) _)) (hy'.fr.mono (by omega))
  replace hy := hy.trans ((Y.of_x (by (repeat (first | exact X.refl _ | assumption | refine X.ext ?_ _ | refine X.alloc ?_ _ | refine X.drew ?_)))).trans hy'); replace hr := hr'; clear hr' hy'
  obtain ⟨N, rfl, hN⟩ : ∃ N : Nat, n = N ∧ N ≤ 4 := ⟨n.toNat, by revert hn; simp only [List.mem_cons, List.mem_nil_iff, or_false]; omega, by revert hn; simp only [List.mem_cons, List.mem_nil_iff, or_false]; omega⟩
  clear hn
  clear hk
  go_wp2
  generalize ((k : Int) == 0) = pl

  cases pl
  · go_loopw [3, 5] (fun v i wr => ∃ (k : Nat) (l : List St) (a : Option Addr) (c : Nat), k ≤ N ∧ i = .int .i64 k ∧ v = .slice a l.length c ∧ l.length ≤ N - k ∧ (∀ s ∈ l, s.mod.length ≤ 20 ∧ s.name.length ≤ 20) ∧
        wr.ownsRow w.heap.size 148 5 (.slice a l.length c) l.length (l.flatMap scells) ∧ Rdr wr rb (m + 2 + (N - k) * 13) ∧ Y rb w wr) (fun _ i _ => (intOf i).toNat)
    case atStart => exact ⟨N, [], _, _, Nat.le_refl _, rfl, rfl, by simp, by simp, hown, hr.weak (by omega) (by omega), hy⟩
    case round =>
      obtain ⟨j, l, a, c, hj, rfl, rfl, hl, hok, hown, hr, hy⟩ := hrel
      by_cases h0 : 0 < j
      · go_wp2_with fail
        refine (someStmt_c rb _ _ hr (by omega)).mono ?_
        rintro _ w3 ⟨s, rfl, ⟨hs1, hs2⟩, hr', hy'⟩
        replace hown := own_fr hown (hy'.fr.mono (by omega))
        replace hy := hy.trans ((Y.of_x (by (repeat (first | exact X.refl _ | assumption | refine X.ext ?_ _ | refine X.alloc ?_ _ | refine X.drew ?_)))).trans hy'); replace hr := hr'; clear hr' hy'
        have hB := Bx.new w3 #[.int .i64 s.kind, .string ⟨(s.mod).toArray⟩, .int .i64 s.level, .string ⟨(s.name).toArray⟩, .int .i64 s.val] 148
        have hlt3 := hr.lt
        have hne : w3.heap.size ≠ rb := by omega
        have hw3 := hy.size
        have hX3 : Y rb w3 (w3.alloc (.cells #[.int .i64 s.kind, .string ⟨(s.mod).toArray⟩, .int .i64 s.level, .string ⟨(s.name).toArray⟩, .int .i64 s.val] 148)) := Y.of_x (by (repeat (first | exact X.refl _ | assumption | refine X.ext ?_ _ | refine X.alloc ?_ _ | refine X.drew ?_)))
        have Hpost := Lib.hid (show ∀ (t : St) (a' : Option Addr) (c' : Nat) (W : World), t.mod.length ≤ 20 ∧ t.name.length ≤ 20 → W.ownsRow w.heap.size 148 5 (.slice a' (l.length + 1) c') (l.length + 1) (l.flatMap scells ++ scells t) → Rdr W rb (m + 2 + (N - j) * 13 + 13) → Y rb w W →
            ∃ (l' : List St), l'.length = l.length + 1 ∧ l'.length ≤ N - (j - 1) ∧ (∀ s ∈ l', s.mod.length ≤ 20 ∧ s.name.length ≤ 20) ∧ W.ownsRow w.heap.size 148 5 (.slice a' l'.length c') l'.length (l'.flatMap scells) ∧ Rdr W rb (m + 2 + (N - (j - 1)) * 13) ∧ Y rb w W from
          fun t a' c' W ht ho hr hy => ⟨l ++ [t], by simp, by simp; omega, fun s hs => by
            rcases List.mem_append.1 hs with hs | hs
            · exact hok s hs
            · rw [List.mem_singleton.1 hs]; exact ht, by rw [flat_snoc, List.length_append]; exact ho, hr.weak (by omega) (by omega), hy⟩)
        go_wp2_with (at_builtin; refine wpList_append_y stmt_T rfl _ _ rfl (w0 := w) (rb := rb) (m := m + 2 + (N - j) * 13 + 13) (B := w.heap.size) (own_fr hown (X.fr (X.alloc (X.refl _) _) _)) rfl rfl (by simp) rfl ?_ ?_ ?_ (hr.weak2 (by (repeat (first | exact X.refl _ | assumption | refine X.ext ?_ _ | refine X.alloc ?_ _ | refine X.drew ?_))) (by omega) (by omega)) (hy.trans (Y.of_x (by (repeat (first | exact X.refl _ | assumption | refine X.ext ?_ _ | refine X.alloc ?_ _ | refine X.drew ?_))))) (Nat.le_refl _) hlt ?_ ?_)
        · simp [Value.oneCell']
        · omega
        · omega
        · simp; omega
        · intro a' c' w' ho hr' hy' _
          obtain ⟨l', hl', h1, h2, h3, h4, h5⟩ := Hpost.out s a' c' w' (by first | exact ⟨hs1, hs2⟩ | (constructor <;> simp)) (by simpa [scells] using ho) hr' hy'
          go_wp2
          go_roundw
          case rel => exact ⟨j - 1, l', a', c', by omega, by go_num, by rw [hl'], h1, h2, h3, h4, h5⟩
          case measure => simp [intOf]; omega
      · go_wp2
        go_ret
        exact ⟨l, a, c, rfl, hown, ⟨by omega, hok⟩, hr.weak (by omega) (by omega), hy⟩

  · go_loopw [3, 5] (fun v i wr => ∃ (k : Nat) (l : List St) (a : Option Addr) (c : Nat), k ≤ N ∧ i = .int .i64 k ∧ v = .slice a l.length c ∧ l.length ≤ N - k ∧ (∀ s ∈ l, s.mod.length ≤ 20 ∧ s.name.length ≤ 20) ∧
        wr.ownsRow w.heap.size 148 5 (.slice a l.length c) l.length (l.flatMap scells) ∧ Rdr wr rb (m + 2 + (N - k) * 13) ∧ Y rb w wr) (fun _ i _ => (intOf i).toNat)
    case atStart => exact ⟨N, [], _, _, Nat.le_refl _, rfl, rfl, by simp, by simp, hown, hr.weak (by omega) (by omega), hy⟩
    case round =>
      obtain ⟨j, l, a, c, hj, rfl, rfl, hl, hok, hown, hr, hy⟩ := hrel
      by_cases h0 : 0 < j
      · go_wp2_with fail
        refine (someStmt_c rb _ _ hr (by omega)).mono ?_
        rintro _ w3 ⟨s, rfl, ⟨hs1, hs2⟩, hr', hy'⟩
        replace hown := own_fr hown (hy'.fr.mono (by omega))
        replace hy := hy.trans ((Y.of_x (by (repeat (first | exact X.refl _ | assumption | refine X.ext ?_ _ | refine X.alloc ?_ _ | refine X.drew ?_)))).trans hy'); replace hr := hr'; clear hr' hy'
        have hB := Bx.new w3 #[.int .i64 s.kind, .string ⟨(s.mod).toArray⟩, .int .i64 s.level, .string ⟨(s.name).toArray⟩, .int .i64 s.val] 148
        have hlt3 := hr.lt
        have hne : w3.heap.size ≠ rb := by omega
        have hw3 := hy.size
        have hX3 : Y rb w3 (w3.alloc (.cells #[.int .i64 s.kind, .string ⟨(s.mod).toArray⟩, .int .i64 s.level, .string ⟨(s.name).toArray⟩, .int .i64 s.val] 148)) := Y.of_x (by (repeat (first | exact X.refl _ | assumption | refine X.ext ?_ _ | refine X.alloc ?_ _ | refine X.drew ?_)))
        have Hpost := Lib.hid (show ∀ (t : St) (a' : Option Addr) (c' : Nat) (W : World), t.mod.length ≤ 20 ∧ t.name.length ≤ 20 → W.ownsRow w.heap.size 148 5 (.slice a' (l.length + 1) c') (l.length + 1) (l.flatMap scells ++ scells t) → Rdr W rb (m + 2 + (N - j) * 13 + 13) → Y rb w W →
            ∃ (l' : List St), l'.length = l.length + 1 ∧ l'.length ≤ N - (j - 1) ∧ (∀ s ∈ l', s.mod.length ≤ 20 ∧ s.name.length ≤ 20) ∧ W.ownsRow w.heap.size 148 5 (.slice a' l'.length c') l'.length (l'.flatMap scells) ∧ Rdr W rb (m + 2 + (N - (j - 1)) * 13) ∧ Y rb w W from
          fun t a' c' W ht ho hr hy => ⟨l ++ [t], by simp, by simp; omega, fun s hs => by
            rcases List.mem_append.1 hs with hs | hs
            · exact hok s hs
            · rw [List.mem_singleton.1 hs]; exact ht, by rw [flat_snoc, List.length_append]; exact ho, hr.weak (by omega) (by omega), hy⟩)
        go_wp2_with (at_builtin; refine wpList_append_y stmt_T rfl _ _ rfl (w0 := w) (rb := rb) (m := m + 2 + (N - j) * 13 + 13) (B := w.heap.size) (own_fr hown (X.fr (X.alloc (X.refl _) _) _)) rfl rfl (by simp) rfl ?_ ?_ ?_ (hr.weak2 (by (repeat (first | exact X.refl _ | assumption | refine X.ext ?_ _ | refine X.alloc ?_ _ | refine X.drew ?_))) (by omega) (by omega)) (hy.trans (Y.of_x (by (repeat (first | exact X.refl _ | assumption | refine X.ext ?_ _ | refine X.alloc ?_ _ | refine X.drew ?_))))) (Nat.le_refl _) hlt ?_ ?_)
        · refine (pick_c rb _ _ _ (hr.x (by (repeat (first | exact X.refl _ | assumption | refine X.ext ?_ _ | refine X.alloc ?_ _ | refine X.drew ?_)))) (by omega) (by omega)).mono ?_
          rintro _ w4 ⟨k2, rfl, hk2, hr', hy'⟩
          have hB4 := Bx.y (Bx.new w3 _ _) hy' hne
          obtain ⟨hb, hc, hf⟩ := hB4.out
          have hy3 : Y rb w3 w4 := (Y.of_x (by (repeat (first | exact X.refl _ | assumption | refine X.ext ?_ _ | refine X.alloc ?_ _ | refine X.drew ?_)))).trans hy'
          replace hy := hy.trans ((Y.of_x (by (repeat (first | exact X.refl _ | assumption | refine X.ext ?_ _ | refine X.alloc ?_ _ | refine X.drew ?_)))).trans hy'); replace hr := hr'; clear hr' hy'
          go_wp2_with (at_builtin; refine wpList_append_y stmt_T rfl _ _ rfl (w0 := w) (rb := rb) (m := m + 2 + (N - j) * 13 + 13) (B := w.heap.size) (own_fr hown ((Y.fr (rb := rb) (by (repeat (first | refine Y.set2 ?_ (Nat.le_refl _) _ | exact hy3)))).mono (by omega))) rfl rfl (by simp) rfl ?_ ?_ ?_ ((by (repeat (first | refine Rdr.set2 ?_ (by first | exact hlt | exact (Nat.lt_of_lt_of_le hlt hw4) | omega) _ | (refine Rdr.weak hr (by omega) (by omega)))))) ((by (repeat (first | refine Y.set2 ?_ (by first | exact Nat.le_refl _ | exact hw4 | omega) _ | exact hy)))) (Nat.le_refl _) hlt ?_ ?_)
          · simp [Value.oneCell']
          · omega
          · omega
          · simp; omega
          · intro a' c' w' ho hr' hy' _
            obtain ⟨l', hl', h1, h2, h3, h4, h5⟩ := Hpost.out ⟨3, [], 0, [121], _⟩ a' c' w' (by first | exact ⟨hs1, hs2⟩ | (constructor <;> simp)) (by simpa [scells] using ho) hr' hy'
            go_wp2
            go_roundw
            case rel => exact ⟨j - 1, l', a', c', by omega, by go_num, by rw [hl'], h1, h2, h3, h4, h5⟩
            case measure => simp [intOf]; omega
        · refine (pick_c rb _ _ _ (hr.x (by (repeat (first | exact X.refl _ | assumption | refine X.ext ?_ _ | refine X.alloc ?_ _ | refine X.drew ?_)))) (by omega) (by omega)).mono ?_
          rintro _ w4 ⟨k2, rfl, hk2, hr', hy'⟩
          have hB4 := Bx.y (Bx.new w3 _ _) hy' hne
          obtain ⟨hb, hc, hf⟩ := hB4.out
          have hy3 : Y rb w3 w4 := (Y.of_x (by (repeat (first | exact X.refl _ | assumption | refine X.ext ?_ _ | refine X.alloc ?_ _ | refine X.drew ?_)))).trans hy'
          replace hy := hy.trans ((Y.of_x (by (repeat (first | exact X.refl _ | assumption | refine X.ext ?_ _ | refine X.alloc ?_ _ | refine X.drew ?_)))).trans hy'); replace hr := hr'; clear hr' hy'
          go_wp2_with (at_builtin; refine wpList_append_y stmt_T rfl _ _ rfl (w0 := w) (rb := rb) (m := m + 2 + (N - j) * 13 + 13) (B := w.heap.size) (own_fr hown ((Y.fr (rb := rb) (by (repeat (first | refine Y.set2 ?_ (Nat.le_refl _) _ | exact hy3)))).mono (by omega))) rfl rfl (by simp) rfl ?_ ?_ ?_ ((by (repeat (first | refine Rdr.set2 ?_ (by first | exact hlt | exact (Nat.lt_of_lt_of_le hlt hw4) | omega) _ | (refine Rdr.weak hr (by omega) (by omega)))))) ((by (repeat (first | refine Y.set2 ?_ (by first | exact Nat.le_refl _ | exact hw4 | omega) _ | exact hy)))) (Nat.le_refl _) hlt ?_ ?_)
          · simp [Value.oneCell']
          · omega
          · omega
          · simp; omega
          · intro a' c' w' ho hr' hy' _
            obtain ⟨l', hl', h1, h2, h3, h4, h5⟩ := Hpost.out ⟨3, [], 0, [121], _⟩ a' c' w' (by first | exact ⟨hs1, hs2⟩ | (constructor <;> simp)) (by simpa [scells] using ho) hr' hy'
            go_wp2
            go_roundw
            case rel => exact ⟨j - 1, l', a', c', by omega, by go_num, by rw [hl'], h1, h2, h3, h4, h5⟩
            case measure => simp [intOf]; omega
        · refine (pick_c rb _ _ _ (hr.x (by (repeat (first | exact X.refl _ | assumption | refine X.ext ?_ _ | refine X.alloc ?_ _ | refine X.drew ?_)))) (by omega) (by omega)).mono ?_
          rintro _ w4 ⟨k2, rfl, hk2, hr', hy'⟩
          have hB4 := Bx.y (Bx.new w3 _ _) hy' hne
          obtain ⟨hb, hc, hf⟩ := hB4.out
          have hy3 : Y rb w3 w4 := (Y.of_x (by (repeat (first | exact X.refl _ | assumption | refine X.ext ?_ _ | refine X.alloc ?_ _ | refine X.drew ?_)))).trans hy'
          replace hy := hy.trans ((Y.of_x (by (repeat (first | exact X.refl _ | assumption | refine X.ext ?_ _ | refine X.alloc ?_ _ | refine X.drew ?_)))).trans hy'); replace hr := hr'; clear hr' hy'
          go_wp2_with (at_builtin; refine wpList_append_y stmt_T rfl _ _ rfl (w0 := w) (rb := rb) (m := m + 2 + (N - j) * 13 + 13) (B := w.heap.size) (own_fr hown ((Y.fr (rb := rb) (by (repeat (first | refine Y.set2 ?_ (Nat.le_refl _) _ | exact hy3)))).mono (by omega))) rfl rfl (by simp) rfl ?_ ?_ ?_ ((by (repeat (first | refine Rdr.set2 ?_ (by first | exact hlt | exact (Nat.lt_of_lt_of_le hlt hw4) | omega) _ | (refine Rdr.weak hr (by omega) (by omega)))))) ((by (repeat (first | refine Y.set2 ?_ (by first | exact Nat.le_refl _ | exact hw4 | omega) _ | exact hy)))) (Nat.le_refl _) hlt ?_ ?_)
          · simp [Value.oneCell']
          · omega
          · omega
          · simp; omega
          · intro a' c' w' ho hr' hy' _
            obtain ⟨l', hl', h1, h2, h3, h4, h5⟩ := Hpost.out ⟨3, [], 0, [121], _⟩ a' c' w' (by first | exact ⟨hs1, hs2⟩ | (constructor <;> simp)) (by simpa [scells] using ho) hr' hy'
            go_wp2
            go_roundw
            case rel => exact ⟨j - 1, l', a', c', by omega, by go_num, by rw [hl'], h1, h2, h3, h4, h5⟩
            case measure => simp [intOf]; omega
        · simp [Value.oneCell']
        · omega
        · omega
        · simp; omega
        · intro a' c' w' ho hr' hy' _
          obtain ⟨l', hl', h1, h2, h3, h4, h5⟩ := Hpost.out s a' c' w' (by first | exact ⟨hs1, hs2⟩ | (constructor <;> simp)) (by simpa [scells] using ho) hr' hy'
          go_wp2
          go_roundw
          case rel => exact ⟨j - 1, l', a', c', by omega, by go_num, by rw [hl'], h1, h2, h3, h4, h5⟩
          case measure => simp [intOf]; omega
      · go_wp2
        go_ret
        exact ⟨l, a, c, rfl, hown, ⟨by omega, hok⟩, hr.weak (by omega) (by omega), hy⟩

end Go.Proofs.YtgjfjjhmgbemcaaGreatDoor

namespace Go.Proofs.YtgjfjjhmgbemcaaGreatDoor
open Go.RowKit

theorem file_S : StrT Tryz.prog 44 6 := ⟨⟨_, Tryz.underlying44⟩, by kernel_rfl⟩
/-- What is drawn as a body. -/
def SmallB (l : List St) : Prop := l.length ≤ 4 ∧ ∀ s ∈ l, s.mod.length ≤ 20 ∧ s.name.length ≤ 20
set_option maxRecDepth 100000 in
set_option maxHeartbeats 2000000 in
theorem someFile_c (rb m : Nat) (w : World) (hr : Rdr w rb m) (hm : m + 70 ≤ 1000000000) :
    Calls Tryz.prog 121 #[.pointer (some ⟨rb, 0, none⟩)] w fun e w' => ∃ (f : Fi) (ba : Option Addr) (bc : Nat), e = .returned (.agg #[.int .i64 (f).root, .string ⟨(f).pkg.toArray⟩, .string ⟨(f).name.toArray⟩, .bool (f).init, .int .i64 (f).stamp, .slice ba f.body.length bc]) ∧ w'.ownsRow w.heap.size 148 5 (.slice ba f.body.length bc) f.body.length (f.body.flatMap scells) ∧
      (f.pkg.length ≤ 20 ∧ f.name.length ≤ 20 ∧ SmallB f.body) ∧ Rdr w' rb (m + 70) ∧ Y rb w w' := by
  have hlt := hr.lt
  have hy : Y rb w (w.alloc (.cells #[.int .i64 0, .string ⟨#[]⟩, .string ⟨#[]⟩, .bool false, .int .i64 0, .slice none 0 0] 44)) := Y.of_x (by (repeat (first | exact X.refl _ | assumption | refine X.ext ?_ _ | refine X.alloc ?_ _ | refine X.drew ?_)))
  have hBr := Bx.new w #[.int .i64 0, .string ⟨#[]⟩, .string ⟨#[]⟩, .bool false, .int .i64 0, .slice none 0 0] 44
  have hner : w.heap.size ≠ rb := by omega
  replace hr := hr.x (w' := (w.alloc (.cells #[.int .i64 0, .string ⟨#[]⟩, .string ⟨#[]⟩, .bool false, .int .i64 0, .slice none 0 0] 44))) (by (repeat (first | exact X.refl _ | assumption | refine X.ext ?_ _ | refine X.alloc ?_ _ | refine X.drew ?_)))
  go_enter Tryz.func121, Tryz.ntmps121
  go_wp2_with fail
  refine (one_c rb _ [0, 0, 1, 2, 1] _ _ _ (rb + 1) _ (hr.x (by (repeat (first | exact X.refl _ | assumption | refine X.ext ?_ _ | refine X.alloc ?_ _ | refine X.drew ?_)))) (by omega) (ints_lit (by simp) (by omega) rfl rfl (by decide)) (by omega) (by decide)).mono ?_
  rintro _ w1 ⟨n, rfl, hn, hr', hy'⟩
  replace hBr := (hBr.x (by (repeat (first | exact X.refl _ | assumption | refine X.ext ?_ _ | refine X.alloc ?_ _ | refine X.drew ?_)))).y hy' hner
  replace hy := hy.trans ((Y.of_x (by (repeat (first | exact X.refl _ | assumption | refine X.ext ?_ _ | refine X.alloc ?_ _ | refine X.drew ?_)))).trans hy'); replace hr := hr'; clear hr' hy'
  clear hn
  go_wp2_with fail
  refine (pick_c rb _ _ _ hr (by omega) (by omega)).mono ?_
  rintro _ w2 ⟨k, rfl, hk, hr', hy'⟩
  replace hBr := hBr.y hy' hner
  replace hy := hy.trans ((Y.of_x (by (repeat (first | exact X.refl _ | assumption | refine X.ext ?_ _ | refine X.alloc ?_ _ | refine X.drew ?_)))).trans hy'); replace hr := hr'; clear hr' hy'
  clear hk
  go_wp2_with fail
  have hBr2 := hBr
  refine (someBody_c rb _ _ hr (by omega)).mono ?_
  rintro _ w4 ⟨body, ba, bc, rfl, hown, hbody, hr', hy'⟩
  replace hBr := hBr.y hy' hner
  replace hown := own_less hown (B' := w.heap.size + 1) (by have := hBr2.lt; omega)
  replace hy := hy.trans ((Y.of_x (by (repeat (first | exact X.refl _ | assumption | refine X.ext ?_ _ | refine X.alloc ?_ _ | refine X.drew ?_)))).trans hy'); replace hr := hr'; clear hr' hy'
  have hw4 := hy.size
  have hfr : w.heap.size ≠ w4.heap.size := Nat.ne_of_lt hBr.lt
  have hnef : w4.heap.size ≠ rb := by omega
  have hBf := Bx.new w4 #[.int .i64 n, .string ⟨#[]⟩, .string ⟨#[]⟩, .bool false, .int .i64 (k : Int), .slice ba body.length bc] 44
  replace hBr := hBr.x (w' := (w4.alloc (.cells #[.int .i64 n, .string ⟨#[]⟩, .string ⟨#[]⟩, .bool false, .int .i64 (k : Int), .slice ba body.length bc] 44))) (by (repeat (first | exact X.refl _ | assumption | refine X.ext ?_ _ | refine X.alloc ?_ _ | refine X.drew ?_)))
  replace hy := hy.trans (Y.of_x (w' := (w4.alloc (.cells #[.int .i64 n, .string ⟨#[]⟩, .string ⟨#[]⟩, .bool false, .int .i64 (k : Int), .slice ba body.length bc] 44))) (by (repeat (first | exact X.refl _ | assumption | refine X.ext ?_ _ | refine X.alloc ?_ _ | refine X.drew ?_))))
  replace hr := hr.x (w' := (w4.alloc (.cells #[.int .i64 n, .string ⟨#[]⟩, .string ⟨#[]⟩, .bool false, .int .i64 (k : Int), .slice ba body.length bc] 44))) (by (repeat (first | exact X.refl _ | assumption | refine X.ext ?_ _ | refine X.alloc ?_ _ | refine X.drew ?_)))
  have hy4 : Y rb w4 (w4.alloc (.cells #[.int .i64 n, .string ⟨#[]⟩, .string ⟨#[]⟩, .bool false, .int .i64 (k : Int), .slice ba body.length bc] 44)) := Y.of_x (by (repeat (first | exact X.refl _ | assumption | refine X.ext ?_ _ | refine X.alloc ?_ _ | refine X.drew ?_)))
  obtain ⟨hb, hc, hf⟩ := hBf.out
  go_wp2_with fail
  refine (pick_c rb _ _ _ hr (by omega) (by omega)).mono ?_
  rintro _ w' ⟨q, rfl, hq, hr', hy'⟩
  replace hBf := Bx.y (rb := rb) (by (first | exact hBf | exact Bx.set hBf _ _ | exact Bx.far hBf hfr _ | exact Bx.set (Bx.set hBf _ _) _ _ | exact Bx.far (Bx.far hBf hfr _) hfr _)) hy' hnef; replace hBr := Bx.y (rb := rb) (by (first | exact hBr | exact Bx.set hBr _ _ | exact Bx.far hBr hfr _ | exact Bx.set (Bx.set hBr _ _) _ _ | exact Bx.far (Bx.far hBr hfr _) hfr _)) hy' hner; replace hy4 := Y.trans (rb := rb) (by (first | exact hy4 | exact Y.set2 hy4 (Nat.le_refl _) _ | exact Y.set2 (Y.set2 hy4 (Nat.le_refl _) _) (Nat.le_refl _) _)) hy'; replace hy := Y.trans (rb := rb) (by (first | exact hy | exact Y.set2 hy (hw4) _ | exact Y.set2 (Y.set2 hy (hw4) _) (hw4) _)) hy'; replace hr := hr'; clear hr' hy' hb hc hf; obtain ⟨hb, hc, hf⟩ := hBf.out; obtain ⟨hb', hc', hf'⟩ := hBr.out
  go_wp2_with fail
  · go_wp2_with fail
    refine (aPart_c rb _ _ (by (first | exact hr | exact Rdr.set2 hr (Nat.lt_of_lt_of_le hlt hw4) _ | exact Rdr.set2 (Rdr.set2 hr (Nat.lt_of_lt_of_le hlt hw4) _) (Nat.lt_of_lt_of_le hlt hw4) _)) (by omega)).mono ?_
    rintro _ w' ⟨x1, rfl, hx1, hr', hy'⟩
    clear hb' hc' hf'
    replace hBf := Bx.y (rb := rb) (by (first | exact hBf | exact Bx.set hBf _ _ | exact Bx.far hBf hfr _ | exact Bx.set (Bx.set hBf _ _) _ _ | exact Bx.far (Bx.far hBf hfr _) hfr _)) hy' hnef; replace hBr := Bx.y (rb := rb) (by (first | exact hBr | exact Bx.set hBr _ _ | exact Bx.far hBr hfr _ | exact Bx.set (Bx.set hBr _ _) _ _ | exact Bx.far (Bx.far hBr hfr _) hfr _)) hy' hner; replace hy4 := Y.trans (rb := rb) (by (first | exact hy4 | exact Y.set2 hy4 (Nat.le_refl _) _ | exact Y.set2 (Y.set2 hy4 (Nat.le_refl _) _) (Nat.le_refl _) _)) hy'; replace hy := Y.trans (rb := rb) (by (first | exact hy | exact Y.set2 hy (hw4) _ | exact Y.set2 (Y.set2 hy (hw4) _) (hw4) _)) hy'; replace hr := hr'; clear hr' hy' hb hc hf; obtain ⟨hb, hc, hf⟩ := hBf.out; obtain ⟨hb', hc', hf'⟩ := hBr.out
    go_wp2
    refine bodyPost_row Tryz.results121 rfl (Bx.set (Bx.set (Bx.set (Bx.set (Bx.set (Bx.set (by (repeat (first | refine Bx.set ?_ _ _ | refine Bx.far ?_ (by first | exact hfr | exact hfr.symm) _ | exact hBr)) : Bx _ _ #[.int .i64 0, .string ⟨#[]⟩, .string ⟨#[]⟩, .bool false, .int .i64 0, .slice none 0 0]) 0 _) 1 _) 2 _) 3 _) 4 _) 5 _) file_S rfl rfl ?_
    refine ⟨⟨n, [], x1, false, k, body⟩, ba, bc, rfl, own_less (own_fr hown (by (repeat (first | refine Fr.set ?_ (by first | exact .inl (Nat.le_refl _) | exact .inr (Nat.lt_succ_self _)) _ | exact hy4.fr.mono (by omega))))) (by omega), ⟨by first | (simp; done) | (simp; omega), by first | (simp; done) | (simp; omega), hbody⟩, by (repeat (first | refine Rdr.set2 ?_ (by first | exact hlt | exact (Nat.lt_of_lt_of_le hlt hw4) | omega) _ | (refine Rdr.weak hr (by omega) (by omega)))), by (repeat (first | refine Y.set2 ?_ (by first | exact Nat.le_refl _ | exact hw4 | omega) _ | exact hy))⟩
  · go_wp2_with fail
    refine (aPart_c rb _ _ (by (first | exact hr | exact Rdr.set2 hr (Nat.lt_of_lt_of_le hlt hw4) _ | exact Rdr.set2 (Rdr.set2 hr (Nat.lt_of_lt_of_le hlt hw4) _) (Nat.lt_of_lt_of_le hlt hw4) _)) (by omega)).mono ?_
    rintro _ w' ⟨x1, rfl, hx1, hr', hy'⟩
    clear hb' hc' hf'
    replace hBf := Bx.y (rb := rb) (by (first | exact hBf | exact Bx.set hBf _ _ | exact Bx.far hBf hfr _ | exact Bx.set (Bx.set hBf _ _) _ _ | exact Bx.far (Bx.far hBf hfr _) hfr _)) hy' hnef; replace hBr := Bx.y (rb := rb) (by (first | exact hBr | exact Bx.set hBr _ _ | exact Bx.far hBr hfr _ | exact Bx.set (Bx.set hBr _ _) _ _ | exact Bx.far (Bx.far hBr hfr _) hfr _)) hy' hner; replace hy4 := Y.trans (rb := rb) (by (first | exact hy4 | exact Y.set2 hy4 (Nat.le_refl _) _ | exact Y.set2 (Y.set2 hy4 (Nat.le_refl _) _) (Nat.le_refl _) _)) hy'; replace hy := Y.trans (rb := rb) (by (first | exact hy | exact Y.set2 hy (hw4) _ | exact Y.set2 (Y.set2 hy (hw4) _) (hw4) _)) hy'; replace hr := hr'; clear hr' hy' hb hc hf; obtain ⟨hb, hc, hf⟩ := hBf.out; obtain ⟨hb', hc', hf'⟩ := hBr.out
    go_wp2
    refine bodyPost_row Tryz.results121 rfl (Bx.set (Bx.set (Bx.set (Bx.set (Bx.set (Bx.set (by (repeat (first | refine Bx.set ?_ _ _ | refine Bx.far ?_ (by first | exact hfr | exact hfr.symm) _ | exact hBr)) : Bx _ _ #[.int .i64 0, .string ⟨#[]⟩, .string ⟨#[]⟩, .bool false, .int .i64 0, .slice none 0 0]) 0 _) 1 _) 2 _) 3 _) 4 _) 5 _) file_S rfl rfl ?_
    refine ⟨⟨n, [], x1, false, k, body⟩, ba, bc, rfl, own_less (own_fr hown (by (repeat (first | refine Fr.set ?_ (by first | exact .inl (Nat.le_refl _) | exact .inr (Nat.lt_succ_self _)) _ | exact hy4.fr.mono (by omega))))) (by omega), ⟨by first | (simp; done) | (simp; omega), by first | (simp; done) | (simp; omega), hbody⟩, by (repeat (first | refine Rdr.set2 ?_ (by first | exact hlt | exact (Nat.lt_of_lt_of_le hlt hw4) | omega) _ | (refine Rdr.weak hr (by omega) (by omega)))), by (repeat (first | refine Y.set2 ?_ (by first | exact Nat.le_refl _ | exact hw4 | omega) _ | exact hy))⟩
  · go_wp2_with fail
    refine (aPart_c rb _ _ (by (first | exact hr | exact Rdr.set2 hr (Nat.lt_of_lt_of_le hlt hw4) _ | exact Rdr.set2 (Rdr.set2 hr (Nat.lt_of_lt_of_le hlt hw4) _) (Nat.lt_of_lt_of_le hlt hw4) _)) (by omega)).mono ?_
    rintro _ w' ⟨x1, rfl, hx1, hr', hy'⟩
    clear hb' hc' hf'
    replace hBf := Bx.y (rb := rb) (by (first | exact hBf | exact Bx.set hBf _ _ | exact Bx.far hBf hfr _ | exact Bx.set (Bx.set hBf _ _) _ _ | exact Bx.far (Bx.far hBf hfr _) hfr _)) hy' hnef; replace hBr := Bx.y (rb := rb) (by (first | exact hBr | exact Bx.set hBr _ _ | exact Bx.far hBr hfr _ | exact Bx.set (Bx.set hBr _ _) _ _ | exact Bx.far (Bx.far hBr hfr _) hfr _)) hy' hner; replace hy4 := Y.trans (rb := rb) (by (first | exact hy4 | exact Y.set2 hy4 (Nat.le_refl _) _ | exact Y.set2 (Y.set2 hy4 (Nat.le_refl _) _) (Nat.le_refl _) _)) hy'; replace hy := Y.trans (rb := rb) (by (first | exact hy | exact Y.set2 hy (hw4) _ | exact Y.set2 (Y.set2 hy (hw4) _) (hw4) _)) hy'; replace hr := hr'; clear hr' hy' hb hc hf; obtain ⟨hb, hc, hf⟩ := hBf.out; obtain ⟨hb', hc', hf'⟩ := hBr.out
    go_wp2_with fail
    refine (aPart_c rb _ _ (by (first | exact hr | exact Rdr.set2 hr (Nat.lt_of_lt_of_le hlt hw4) _ | exact Rdr.set2 (Rdr.set2 hr (Nat.lt_of_lt_of_le hlt hw4) _) (Nat.lt_of_lt_of_le hlt hw4) _)) (by omega)).mono ?_
    rintro _ w' ⟨x2, rfl, hx2, hr', hy'⟩
    clear hb' hc' hf'
    replace hBf := Bx.y (rb := rb) (by (first | exact hBf | exact Bx.set hBf _ _ | exact Bx.far hBf hfr _ | exact Bx.set (Bx.set hBf _ _) _ _ | exact Bx.far (Bx.far hBf hfr _) hfr _)) hy' hnef; replace hBr := Bx.y (rb := rb) (by (first | exact hBr | exact Bx.set hBr _ _ | exact Bx.far hBr hfr _ | exact Bx.set (Bx.set hBr _ _) _ _ | exact Bx.far (Bx.far hBr hfr _) hfr _)) hy' hner; replace hy4 := Y.trans (rb := rb) (by (first | exact hy4 | exact Y.set2 hy4 (Nat.le_refl _) _ | exact Y.set2 (Y.set2 hy4 (Nat.le_refl _) _) (Nat.le_refl _) _)) hy'; replace hy := Y.trans (rb := rb) (by (first | exact hy | exact Y.set2 hy (hw4) _ | exact Y.set2 (Y.set2 hy (hw4) _) (hw4) _)) hy'; replace hr := hr'; clear hr' hy' hb hc hf; obtain ⟨hb, hc, hf⟩ := hBf.out; obtain ⟨hb', hc', hf'⟩ := hBr.out
    go_wp2
    refine bodyPost_row Tryz.results121 rfl (Bx.set (Bx.set (Bx.set (Bx.set (Bx.set (Bx.set (by (repeat (first | refine Bx.set ?_ _ _ | refine Bx.far ?_ (by first | exact hfr | exact hfr.symm) _ | exact hBr)) : Bx _ _ #[.int .i64 0, .string ⟨#[]⟩, .string ⟨#[]⟩, .bool false, .int .i64 0, .slice none 0 0]) 0 _) 1 _) 2 _) 3 _) 4 _) 5 _) file_S rfl rfl ?_
    refine ⟨⟨n, x1, x2, false, k, body⟩, ba, bc, rfl, own_less (own_fr hown (by (repeat (first | refine Fr.set ?_ (by first | exact .inl (Nat.le_refl _) | exact .inr (Nat.lt_succ_self _)) _ | exact hy4.fr.mono (by omega))))) (by omega), ⟨by first | (simp; done) | (simp; omega), by first | (simp; done) | (simp; omega), hbody⟩, by (repeat (first | refine Rdr.set2 ?_ (by first | exact hlt | exact (Nat.lt_of_lt_of_le hlt hw4) | omega) _ | (refine Rdr.weak hr (by omega) (by omega)))), by (repeat (first | refine Y.set2 ?_ (by first | exact Nat.le_refl _ | exact hw4 | omega) _ | exact hy))⟩
  · go_wp2_with fail
    refine (aPart_c rb _ _ (by (first | exact hr | exact Rdr.set2 hr (Nat.lt_of_lt_of_le hlt hw4) _ | exact Rdr.set2 (Rdr.set2 hr (Nat.lt_of_lt_of_le hlt hw4) _) (Nat.lt_of_lt_of_le hlt hw4) _)) (by omega)).mono ?_
    rintro _ w' ⟨x1, rfl, hx1, hr', hy'⟩
    clear hb' hc' hf'
    replace hBf := Bx.y (rb := rb) (by (first | exact hBf | exact Bx.set hBf _ _ | exact Bx.far hBf hfr _ | exact Bx.set (Bx.set hBf _ _) _ _ | exact Bx.far (Bx.far hBf hfr _) hfr _)) hy' hnef; replace hBr := Bx.y (rb := rb) (by (first | exact hBr | exact Bx.set hBr _ _ | exact Bx.far hBr hfr _ | exact Bx.set (Bx.set hBr _ _) _ _ | exact Bx.far (Bx.far hBr hfr _) hfr _)) hy' hner; replace hy4 := Y.trans (rb := rb) (by (first | exact hy4 | exact Y.set2 hy4 (Nat.le_refl _) _ | exact Y.set2 (Y.set2 hy4 (Nat.le_refl _) _) (Nat.le_refl _) _)) hy'; replace hy := Y.trans (rb := rb) (by (first | exact hy | exact Y.set2 hy (hw4) _ | exact Y.set2 (Y.set2 hy (hw4) _) (hw4) _)) hy'; replace hr := hr'; clear hr' hy' hb hc hf; obtain ⟨hb, hc, hf⟩ := hBf.out; obtain ⟨hb', hc', hf'⟩ := hBr.out
    go_wp2_with fail
    refine (aPart_c rb _ _ (by (first | exact hr | exact Rdr.set2 hr (Nat.lt_of_lt_of_le hlt hw4) _ | exact Rdr.set2 (Rdr.set2 hr (Nat.lt_of_lt_of_le hlt hw4) _) (Nat.lt_of_lt_of_le hlt hw4) _)) (by omega)).mono ?_
    rintro _ w' ⟨x2, rfl, hx2, hr', hy'⟩
    clear hb' hc' hf'
    replace hBf := Bx.y (rb := rb) (by (first | exact hBf | exact Bx.set hBf _ _ | exact Bx.far hBf hfr _ | exact Bx.set (Bx.set hBf _ _) _ _ | exact Bx.far (Bx.far hBf hfr _) hfr _)) hy' hnef; replace hBr := Bx.y (rb := rb) (by (first | exact hBr | exact Bx.set hBr _ _ | exact Bx.far hBr hfr _ | exact Bx.set (Bx.set hBr _ _) _ _ | exact Bx.far (Bx.far hBr hfr _) hfr _)) hy' hner; replace hy4 := Y.trans (rb := rb) (by (first | exact hy4 | exact Y.set2 hy4 (Nat.le_refl _) _ | exact Y.set2 (Y.set2 hy4 (Nat.le_refl _) _) (Nat.le_refl _) _)) hy'; replace hy := Y.trans (rb := rb) (by (first | exact hy | exact Y.set2 hy (hw4) _ | exact Y.set2 (Y.set2 hy (hw4) _) (hw4) _)) hy'; replace hr := hr'; clear hr' hy' hb hc hf; obtain ⟨hb, hc, hf⟩ := hBf.out; obtain ⟨hb', hc', hf'⟩ := hBr.out
    go_wp2
    refine bodyPost_row Tryz.results121 rfl (Bx.set (Bx.set (Bx.set (Bx.set (Bx.set (Bx.set (by (repeat (first | refine Bx.set ?_ _ _ | refine Bx.far ?_ (by first | exact hfr | exact hfr.symm) _ | exact hBr)) : Bx _ _ #[.int .i64 0, .string ⟨#[]⟩, .string ⟨#[]⟩, .bool false, .int .i64 0, .slice none 0 0]) 0 _) 1 _) 2 _) 3 _) 4 _) 5 _) file_S rfl rfl ?_
    refine ⟨⟨n, x1, x2, false, k, body⟩, ba, bc, rfl, own_less (own_fr hown (by (repeat (first | refine Fr.set ?_ (by first | exact .inl (Nat.le_refl _) | exact .inr (Nat.lt_succ_self _)) _ | exact hy4.fr.mono (by omega))))) (by omega), ⟨by first | (simp; done) | (simp; omega), by first | (simp; done) | (simp; omega), hbody⟩, by (repeat (first | refine Rdr.set2 ?_ (by first | exact hlt | exact (Nat.lt_of_lt_of_le hlt hw4) | omega) _ | (refine Rdr.weak hr (by omega) (by omega)))), by (repeat (first | refine Y.set2 ?_ (by first | exact Nat.le_refl _ | exact hw4 | omega) _ | exact hy))⟩
  · go_wp2_with fail
    refine (aPart_c rb _ _ (by (first | exact hr | exact Rdr.set2 hr (Nat.lt_of_lt_of_le hlt hw4) _ | exact Rdr.set2 (Rdr.set2 hr (Nat.lt_of_lt_of_le hlt hw4) _) (Nat.lt_of_lt_of_le hlt hw4) _)) (by omega)).mono ?_
    rintro _ w' ⟨x1, rfl, hx1, hr', hy'⟩
    clear hb' hc' hf'
    replace hBf := Bx.y (rb := rb) (by (first | exact hBf | exact Bx.set hBf _ _ | exact Bx.far hBf hfr _ | exact Bx.set (Bx.set hBf _ _) _ _ | exact Bx.far (Bx.far hBf hfr _) hfr _)) hy' hnef; replace hBr := Bx.y (rb := rb) (by (first | exact hBr | exact Bx.set hBr _ _ | exact Bx.far hBr hfr _ | exact Bx.set (Bx.set hBr _ _) _ _ | exact Bx.far (Bx.far hBr hfr _) hfr _)) hy' hner; replace hy4 := Y.trans (rb := rb) (by (first | exact hy4 | exact Y.set2 hy4 (Nat.le_refl _) _ | exact Y.set2 (Y.set2 hy4 (Nat.le_refl _) _) (Nat.le_refl _) _)) hy'; replace hy := Y.trans (rb := rb) (by (first | exact hy | exact Y.set2 hy (hw4) _ | exact Y.set2 (Y.set2 hy (hw4) _) (hw4) _)) hy'; replace hr := hr'; clear hr' hy' hb hc hf; obtain ⟨hb, hc, hf⟩ := hBf.out; obtain ⟨hb', hc', hf'⟩ := hBr.out
    go_wp2
    refine bodyPost_row Tryz.results121 rfl (Bx.set (Bx.set (Bx.set (Bx.set (Bx.set (Bx.set (by (repeat (first | refine Bx.set ?_ _ _ | refine Bx.far ?_ (by first | exact hfr | exact hfr.symm) _ | exact hBr)) : Bx _ _ #[.int .i64 0, .string ⟨#[]⟩, .string ⟨#[]⟩, .bool false, .int .i64 0, .slice none 0 0]) 0 _) 1 _) 2 _) 3 _) 4 _) 5 _) file_S rfl rfl ?_
    refine ⟨⟨n, x1, [], true, k, body⟩, ba, bc, rfl, own_less (own_fr hown (by (repeat (first | refine Fr.set ?_ (by first | exact .inl (Nat.le_refl _) | exact .inr (Nat.lt_succ_self _)) _ | exact hy4.fr.mono (by omega))))) (by omega), ⟨by first | (simp; done) | (simp; omega), by first | (simp; done) | (simp; omega), hbody⟩, by (repeat (first | refine Rdr.set2 ?_ (by first | exact hlt | exact (Nat.lt_of_lt_of_le hlt hw4) | omega) _ | (refine Rdr.weak hr (by omega) (by omega)))), by (repeat (first | refine Y.set2 ?_ (by first | exact Nat.le_refl _ | exact hw4 | omega) _ | exact hy))⟩
  · go_wp2_with fail
    refine (aPart_c rb _ _ (by (first | exact hr | exact Rdr.set2 hr (Nat.lt_of_lt_of_le hlt hw4) _ | exact Rdr.set2 (Rdr.set2 hr (Nat.lt_of_lt_of_le hlt hw4) _) (Nat.lt_of_lt_of_le hlt hw4) _)) (by omega)).mono ?_
    rintro _ w' ⟨x1, rfl, hx1, hr', hy'⟩
    clear hb' hc' hf'
    replace hBf := Bx.y (rb := rb) (by (first | exact hBf | exact Bx.set hBf _ _ | exact Bx.far hBf hfr _ | exact Bx.set (Bx.set hBf _ _) _ _ | exact Bx.far (Bx.far hBf hfr _) hfr _)) hy' hnef; replace hBr := Bx.y (rb := rb) (by (first | exact hBr | exact Bx.set hBr _ _ | exact Bx.far hBr hfr _ | exact Bx.set (Bx.set hBr _ _) _ _ | exact Bx.far (Bx.far hBr hfr _) hfr _)) hy' hner; replace hy4 := Y.trans (rb := rb) (by (first | exact hy4 | exact Y.set2 hy4 (Nat.le_refl _) _ | exact Y.set2 (Y.set2 hy4 (Nat.le_refl _) _) (Nat.le_refl _) _)) hy'; replace hy := Y.trans (rb := rb) (by (first | exact hy | exact Y.set2 hy (hw4) _ | exact Y.set2 (Y.set2 hy (hw4) _) (hw4) _)) hy'; replace hr := hr'; clear hr' hy' hb hc hf; obtain ⟨hb, hc, hf⟩ := hBf.out; obtain ⟨hb', hc', hf'⟩ := hBr.out
    go_wp2_with fail
    refine (aPart_c rb _ _ (by (first | exact hr | exact Rdr.set2 hr (Nat.lt_of_lt_of_le hlt hw4) _ | exact Rdr.set2 (Rdr.set2 hr (Nat.lt_of_lt_of_le hlt hw4) _) (Nat.lt_of_lt_of_le hlt hw4) _)) (by omega)).mono ?_
    rintro _ w' ⟨x2, rfl, hx2, hr', hy'⟩
    clear hb' hc' hf'
    replace hBf := Bx.y (rb := rb) (by (first | exact hBf | exact Bx.set hBf _ _ | exact Bx.far hBf hfr _ | exact Bx.set (Bx.set hBf _ _) _ _ | exact Bx.far (Bx.far hBf hfr _) hfr _)) hy' hnef; replace hBr := Bx.y (rb := rb) (by (first | exact hBr | exact Bx.set hBr _ _ | exact Bx.far hBr hfr _ | exact Bx.set (Bx.set hBr _ _) _ _ | exact Bx.far (Bx.far hBr hfr _) hfr _)) hy' hner; replace hy4 := Y.trans (rb := rb) (by (first | exact hy4 | exact Y.set2 hy4 (Nat.le_refl _) _ | exact Y.set2 (Y.set2 hy4 (Nat.le_refl _) _) (Nat.le_refl _) _)) hy'; replace hy := Y.trans (rb := rb) (by (first | exact hy | exact Y.set2 hy (hw4) _ | exact Y.set2 (Y.set2 hy (hw4) _) (hw4) _)) hy'; replace hr := hr'; clear hr' hy' hb hc hf; obtain ⟨hb, hc, hf⟩ := hBf.out; obtain ⟨hb', hc', hf'⟩ := hBr.out
    go_wp2_with fail
    refine (pick_c rb _ _ _ (by (first | exact hr | exact Rdr.set2 hr (Nat.lt_of_lt_of_le hlt hw4) _ | exact Rdr.set2 (Rdr.set2 hr (Nat.lt_of_lt_of_le hlt hw4) _) (Nat.lt_of_lt_of_le hlt hw4) _)) (by omega) (by omega)).mono ?_
    rintro _ w' ⟨u, rfl, hu, hr', hy'⟩
    clear hb' hc' hf'
    replace hBf := Bx.y (rb := rb) (by (first | exact hBf | exact Bx.set hBf _ _ | exact Bx.far hBf hfr _ | exact Bx.set (Bx.set hBf _ _) _ _ | exact Bx.far (Bx.far hBf hfr _) hfr _)) hy' hnef; replace hBr := Bx.y (rb := rb) (by (first | exact hBr | exact Bx.set hBr _ _ | exact Bx.far hBr hfr _ | exact Bx.set (Bx.set hBr _ _) _ _ | exact Bx.far (Bx.far hBr hfr _) hfr _)) hy' hner; replace hy4 := Y.trans (rb := rb) (by (first | exact hy4 | exact Y.set2 hy4 (Nat.le_refl _) _ | exact Y.set2 (Y.set2 hy4 (Nat.le_refl _) _) (Nat.le_refl _) _)) hy'; replace hy := Y.trans (rb := rb) (by (first | exact hy | exact Y.set2 hy (hw4) _ | exact Y.set2 (Y.set2 hy (hw4) _) (hw4) _)) hy'; replace hr := hr'; clear hr' hy' hb hc hf; obtain ⟨hb, hc, hf⟩ := hBf.out; obtain ⟨hb', hc', hf'⟩ := hBr.out
    go_wp2_with fail
    · go_wp2
      refine bodyPost_row Tryz.results121 rfl (Bx.set (Bx.set (Bx.set (Bx.set (Bx.set (Bx.set (by (repeat (first | refine Bx.set ?_ _ _ | refine Bx.far ?_ (by first | exact hfr | exact hfr.symm) _ | exact hBr)) : Bx _ _ #[.int .i64 0, .string ⟨#[]⟩, .string ⟨#[]⟩, .bool false, .int .i64 0, .slice none 0 0]) 0 _) 1 _) 2 _) 3 _) 4 _) 5 _) file_S rfl rfl ?_
      refine ⟨⟨n, x1 ++ 46 :: x2, [], true, k, body⟩, ba, bc, rfl, own_less (own_fr hown (by (repeat (first | refine Fr.set ?_ (by first | exact .inl (Nat.le_refl _) | exact .inr (Nat.lt_succ_self _)) _ | exact hy4.fr.mono (by omega))))) (by omega), ⟨by first | (simp; done) | (simp; omega), by first | (simp; done) | (simp; omega), hbody⟩, by (repeat (first | refine Rdr.set2 ?_ (by first | exact hlt | exact (Nat.lt_of_lt_of_le hlt hw4) | omega) _ | (refine Rdr.weak hr (by omega) (by omega)))), by (repeat (first | refine Y.set2 ?_ (by first | exact Nat.le_refl _ | exact hw4 | omega) _ | exact hy))⟩
    · refine (aPart_c rb _ _ (by (first | exact hr | exact Rdr.set2 hr (Nat.lt_of_lt_of_le hlt hw4) _ | exact Rdr.set2 (Rdr.set2 hr (Nat.lt_of_lt_of_le hlt hw4) _) (Nat.lt_of_lt_of_le hlt hw4) _)) (by omega)).mono ?_
      rintro _ w' ⟨x3, rfl, hx3, hr', hy'⟩
      clear hb' hc' hf'
      replace hBf := Bx.y (rb := rb) (by (first | exact hBf | exact Bx.set hBf _ _ | exact Bx.far hBf hfr _ | exact Bx.set (Bx.set hBf _ _) _ _ | exact Bx.far (Bx.far hBf hfr _) hfr _)) hy' hnef; replace hBr := Bx.y (rb := rb) (by (first | exact hBr | exact Bx.set hBr _ _ | exact Bx.far hBr hfr _ | exact Bx.set (Bx.set hBr _ _) _ _ | exact Bx.far (Bx.far hBr hfr _) hfr _)) hy' hner; replace hy4 := Y.trans (rb := rb) (by (first | exact hy4 | exact Y.set2 hy4 (Nat.le_refl _) _ | exact Y.set2 (Y.set2 hy4 (Nat.le_refl _) _) (Nat.le_refl _) _)) hy'; replace hy := Y.trans (rb := rb) (by (first | exact hy | exact Y.set2 hy (hw4) _ | exact Y.set2 (Y.set2 hy (hw4) _) (hw4) _)) hy'; replace hr := hr'; clear hr' hy' hb hc hf; obtain ⟨hb, hc, hf⟩ := hBf.out; obtain ⟨hb', hc', hf'⟩ := hBr.out
      go_wp2
      refine bodyPost_row Tryz.results121 rfl (Bx.set (Bx.set (Bx.set (Bx.set (Bx.set (Bx.set (by (repeat (first | refine Bx.set ?_ _ _ | refine Bx.far ?_ (by first | exact hfr | exact hfr.symm) _ | exact hBr)) : Bx _ _ #[.int .i64 0, .string ⟨#[]⟩, .string ⟨#[]⟩, .bool false, .int .i64 0, .slice none 0 0]) 0 _) 1 _) 2 _) 3 _) 4 _) 5 _) file_S rfl rfl ?_
      refine ⟨⟨n, x1 ++ 46 :: x2, x3, false, k, body⟩, ba, bc, rfl, own_less (own_fr hown (by (repeat (first | refine Fr.set ?_ (by first | exact .inl (Nat.le_refl _) | exact .inr (Nat.lt_succ_self _)) _ | exact hy4.fr.mono (by omega))))) (by omega), ⟨by first | (simp; done) | (simp; omega), by first | (simp; done) | (simp; omega), hbody⟩, by (repeat (first | refine Rdr.set2 ?_ (by first | exact hlt | exact (Nat.lt_of_lt_of_le hlt hw4) | omega) _ | (refine Rdr.weak hr (by omega) (by omega)))), by (repeat (first | refine Y.set2 ?_ (by first | exact Nat.le_refl _ | exact hw4 | omega) _ | exact hy))⟩

end Go.Proofs.YtgjfjjhmgbemcaaGreatDoor

namespace Go.Proofs.YtgjfjjhmgbemcaaGreatDoor
open Go.RowKit

/-- What is drawn as a file. -/
def SmallF (f : Fi) : Prop := f.pkg.length ≤ 20 ∧ f.name.length ≤ 20 ∧ f.body.length ≤ 5 ∧ ∀ s ∈ f.body, s.mod.length ≤ 20 ∧ s.name.length ≤ 20
def OwnB (w : World) (B : Nat) (x : Fi × Value) : Prop := ∃ a c, x.2 = .slice a x.1.body.length c ∧ w.ownsRow B 148 5 (.slice a x.1.body.length c) x.1.body.length (x.1.body.flatMap scells)
structure TreeO (w : World) (B : Nat) (a : Option Addr) (c : Nat) (vs : List (Fi × Value)) : Prop where
  row : w.ownsRow B 44 6 (.slice a vs.length c) vs.length (vs.flatMap fcells)
  small : ∀ x ∈ vs, SmallF x.1
  body : ∀ x ∈ vs, OwnB w B x
  first : ∀ x ∈ vs.tail, x.2.ownBlock = none ∨ x.2.ownBlock ≠ (vs.headD default).2.ownBlock
theorem OwnB.fr {w w' : World} {B : Nat} {x : Fi × Value} (h : OwnB w B x) (hx : Fr B w w') : OwnB w' B x := by
  obtain ⟨a, c, h1, h2⟩ := h
  exact ⟨a, c, h1, own_fr h2 hx⟩
theorem TreeO.fr {w w' : World} {B c : Nat} {a : Option Addr} {vs : List (Fi × Value)} (h : TreeO w B a c vs) (hx : Fr B w w') : TreeO w' B a c vs :=
  ⟨own_fr h.row hx, h.small, fun x hm => (h.body x hm).fr hx, h.first⟩
theorem TreeO.less {w : World} {B B' c : Nat} {a : Option Addr} {vs : List (Fi × Value)} (h : TreeO w B a c vs) (hB : B' ≤ B) : TreeO w B' a c vs :=
  ⟨own_less h.row hB, h.small, fun x hm => let ⟨b, d, h1, h2⟩ := h.body x hm; ⟨b, d, h1, own_less h2 hB⟩, h.first⟩
theorem files_of {w : World} {B c : Nat} {a : Option Addr} {vs : List (Fi × Value)} (hrow : w.ownsRow B 44 6 (.slice a vs.length c) vs.length (vs.flatMap fcells)) (hsm : ∀ x ∈ vs, SmallF x.1) (hbd : ∀ x ∈ vs, OwnB w B x)
    (hn : vs.length ≤ 100) : FilesAt w B a vs.length (vs.map (·.1)) := by
  refine ⟨vs, rfl, by simp, by omega, ?_, Sl.of_own hrow, ?_⟩
  · intro f hf
    obtain ⟨x, hx, rfl⟩ := List.mem_map.1 hf
    have := hsm x hx
    exact ⟨by have := this.1; omega, by have := this.2.1; omega⟩
  · intro x hx
    obtain ⟨a', c', h1, h2⟩ := hbd x hx
    have hs := hsm x hx
    exact ⟨a', _, c', h1, own_cap h2, rfl, by have := hs.2.2.1; omega, fun s hm => ⟨by have := (hs.2.2.2 s hm).1; omega, by have := (hs.2.2.2 s hm).2; omega⟩, Sl.of_own h2⟩
theorem TreeO.files {w : World} {B c : Nat} {a : Option Addr} {vs : List (Fi × Value)} (h : TreeO w B a c vs) (hn : vs.length ≤ 100) : FilesAt w B a vs.length (vs.map (·.1)) := files_of h.row h.small h.body hn
theorem TreeO.push {w w' : World} {B c c' : Nat} {a a' : Option Addr} {vs : List (Fi × Value)} (h : TreeO w B a c vs) (hg : w.grownBy w' (Value.slice a vs.length c).ownBlock) {x : Fi × Value}
    (hrow : w'.ownsRow B 44 6 (.slice a' (vs.length + 1) c') (vs.length + 1) (vs.flatMap fcells ++ fcells x)) (hs : SmallF x.1) (hb : OwnB w B x)
    (hne : ∀ y ∈ vs, y.2.ownBlock = none ∨ x.2.ownBlock = none ∨ x.2.ownBlock ≠ y.2.ownBlock) : TreeO w' B a' c' (vs ++ [x]) := by
  refine ⟨?_, ?_, ?_, ?_⟩
  · rw [flat_snoc, List.length_append]; exact hrow
  · intro y hy
    rcases List.mem_append.1 hy with hy | hy
    · exact h.small y hy
    · rw [List.mem_singleton.1 hy]; exact hs
  · intro y hy
    have : OwnB w B y := by
      rcases List.mem_append.1 hy with hy | hy
      · exact h.body y hy
      · rw [List.mem_singleton.1 hy]; exact hb
    obtain ⟨b, d, h1, h2⟩ := this
    exact ⟨b, d, h1, h2.kept hg (row_ne h2 h.row (by decide))⟩
  · intro y hy
    cases vs with
    | nil => simp at hy
    | cons z zs =>
      simp only [List.cons_append, List.tail_cons] at hy
      rcases List.mem_append.1 hy with hy | hy
      · exact h.first y hy
      · rw [List.mem_singleton.1 hy]
        rcases hne z (by simp) with h0 | h0 | h0
        · cases hx : x.2.ownBlock with
          | none => exact .inl rfl
          | some g => exact .inr (by simp [h0])
        · exact .inl h0
        · exact .inr h0
theorem TreeO.nil {w : World} {B : Nat} : TreeO w B none 0 [] := ⟨⟨rfl, .inl ⟨rfl, rfl⟩⟩, by simp, by simp, by simp⟩
theorem TreeO.bodies {w w' : World} {B c : Nat} {a : Option Addr} {vs : List (Fi × Value)} (h : TreeO w B a c vs) (hg : w.grownBy w' (Value.slice a vs.length c).ownBlock) : ∀ x ∈ vs, OwnB w' B x := fun x hx => by
  obtain ⟨b, d, h1, h2⟩ := h.body x hx
  exact ⟨b, d, h1, h2.kept hg (row_ne h2 h.row (by decide))⟩
theorem at_y {rb : Nat} {w w' : World} {b : Nat} {o : Obj} (h : w.heap[b]? = some o) (hy : Y rb w w') (hne : b ≠ rb) : w'.heap[b]? = some o :=
  (hy.block b (Array.getElem?_eq_some_iff.1 h).1 (by simpa using hne)).trans h
theorem cell_set_far {w : World} {b o : Nat} {p : Addr} {u : Value} {v : Option Value} (h : w.cell? ⟨b, o, none⟩ = v) (hne : b ≠ p.block) : (w.setCell p u).cell? ⟨b, o, none⟩ = v :=
  (World.cell?_of_block (heap_setCell_other w p b u hne)).trans h
end Go.Proofs.YtgjfjjhmgbemcaaGreatDoor

namespace Go.Proofs.YtgjfjjhmgbemcaaGreatDoor
open Go.RowKit

end Go.Proofs.YtgjfjjhmgbemcaaGreatDoor

namespace Go.Proofs.YtgjfjjhmgbemcaaGreatDoor
open Go.RowKit

end Go.Proofs.YtgjfjjhmgbemcaaGreatDoor

namespace Go.Proofs.YtgjfjjhmgbemcaaGreatDoor
open Go.RowKit

end Go.Proofs.YtgjfjjhmgbemcaaGreatDoor

namespace Go.Proofs.YtgjfjjhmgbemcaaGreatDoor
open Go.RowKit

theorem Y.x {rb : Nat} {w w' : World} (h : Y rb w w') (hr : w.heap.size ≤ rb) : X w w' :=
  X.of_below ⟨h.os, h.tape, h.output, h.size, fun k hk => h.block k hk (by simp; omega)⟩
/-- A slice of bytes as the law receives it. -/
def CodeAt (w : World) (ca : Option Addr) (cn cc : Nat) : Prop := cn ≤ cc ∧ (0 < cn → ∃ b off, ca = some ⟨b, off, none⟩ ∧ b < w.heap.size ∧ ∀ i, i < cn → ∃ v : Nat, v < 256 ∧ w.cell? ⟨b, off + i, none⟩ = some (.int .u8 (v : Int)))

end Go.Proofs.YtgjfjjhmgbemcaaGreatDoor
