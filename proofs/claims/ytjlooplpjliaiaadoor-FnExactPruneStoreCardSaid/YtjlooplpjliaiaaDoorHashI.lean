/- HashOf of the program: the walk. No condition but lengths. -/
import Derived.Test.YtjlooplpjliaiaaDoorHash
namespace Go.Proofs.YtjlooplpjliaiaaDoor
open Go.RowKit

section
variable {P : Program} {w : World} {a : Addr} {m : Mode}
@[go_sem] theorem run_store_func (f : Fn) (x y : Array Value) : (store a (.func f x y) m).run P w = stored P w a (.func f x y) m := run_store P w a _ m rfl
end

set_option maxRecDepth 100000 in
set_option maxHeartbeats 1000000 in
theorem HashOf_c (l : List St) (a : Option Addr) (n c B : Nat) (w : World) (hS : StmtsAt w B a n l) (hv : bodyB l = true) (hG : Gm w) :
    Calls Tryd.prog 75 #[.slice a n c] w fun e w' => e = .returned (.int .i64 (hashZ l)) ∧ X w w' := by
  have hn := hS.2.1
  have hl := hS.1
  have Hn := Lib.hid (fun k h => @hashZ_next l k h)
  have Hl := Lib.hid hl
  clear hl
  go_enter Tryd.func75, Tryd.ntmps75
  go_wp2_with fail
  refine calls_name (fun W0 hW0 => ?_)
  have hX0 : X w W0 := by rw [hW0]; (repeat (first | with_reducible exact X.refl _ | with_reducible assumption | with_reducible refine X.setCell ?_ (by first | (simp; done) | (simp; omega)) _ | with_reducible refine X.ext ?_ _ | with_reducible refine X.alloc ?_ _ | with_reducible refine X.drew ?_))
  clear hW0
  refine (ValidBody_c l a n c B W0 (hS.mono (hX0.fr _)) (hG.mono hX0)).mono ?_
  rintro _ w1 ⟨rfl, hx1⟩
  rw [hv]
  have hX1 := hX0.trans hx1
  clear hX0 hx1
  go_wp2
  refine wp_name (fun W2 hW2 => ?_)
  obtain ⟨hN0, hF0, hX2⟩ := bx2 hW2
  have hs2 : W2.heap.size = w1.heap.size + 2 := by rw [hW2]; simp
  clear hW2
  have hF1 : Bx W2 (w1.heap.size + 1) #[mixFn w1.heap.size] := hF0
  clear hF0
  have hXs := hX1.size
  generalize w1.heap.size = nb at *
  go_loopw [15] (fun i wr => ∃ (k : Nat) (m : Int), k ≤ n ∧ i = .int .i64 k ∧ m = hashZ (l.take k) ∧ 0 ≤ m ∧ m < 1000003 ∧ X w wr ∧ nb + 2 ≤ wr.heap.size ∧ Bx wr nb #[.int .i64 m] ∧ Bx wr (nb + 1) #[mixFn nb]) (fun i _ => n - (intOf i).toNat)
  case atStart => exact ⟨0, 1, by omega, rfl, rfl, by omega, by omega, hX1.trans hX2, by omega, hN0, hF1⟩
  case round =>
    obtain ⟨k, m, hk, rfl, hm, m0, m1, hX, hsz, hN, hF⟩ := hrel
    clear hX1 hX2 hs2 hN0 hF1
    by_cases hlt : k < n
    · obtain ⟨b, off, rfl, _, hb, hok, g0, g1, g2, g3, g4⟩ := (hS.mono (hX.fr _)).at_ hlt
      have Hm := Lib.hid hm
      clear hm
      obtain ⟨k1, k3⟩ : (nth l k).mod.length ≤ 1048576 ∧ (nth l k).name.length ≤ 1048576 := hok
      obtain ⟨⟨r0, r1⟩, ⟨r2, r3⟩, ⟨r4, r5⟩⟩ := stB_rng (bodyB_at hv (by rw [← Hl.out]; exact hlt))
      obtain ⟨lf, cf, _⟩ := hF.out
      have f0 := cf 0
      unfold mixFn at f0
      clear cf
      go_wp2_with fail
      refine calls_name (fun W3 hW3 => ?_)
      have hB3 : Bx W3 wr.heap.size #[.int .i64 (nth l k).kind, .string ⟨((nth l k).mod).toArray⟩, .int .i64 (nth l k).level, .string ⟨((nth l k).name).toArray⟩, .int .i64 (nth l k).val] := by rw [hW3]; first | exact Bx.new _ _ _ | exact Bx.set (Bx.set (Bx.set (Bx.set (Bx.set (Bx.new _ _ _) 0 _) 1 _) 2 _) 3 _) 4 _
      have hp3 : X wr W3 := by rw [hW3]; (repeat (first | with_reducible exact X.refl _ | with_reducible assumption | with_reducible refine X.setCell ?_ (by first | (simp; done) | (simp; omega)) _ | with_reducible refine X.ext ?_ _ | with_reducible refine X.alloc ?_ _ | with_reducible refine X.drew ?_))
      clear hW3 f0 lf
      refine (mix_i m (nth l k).kind nb W3 (hN.x hp3) m0 m1 r0 r1).mono ?_
      rintro _ w4 ⟨rfl, hg4, hN4⟩
      have hF4 := (hF.x hp3).grown hg4 (fun j hj => by injection hj with hj; omega)
      have hB4 := hB3.grown hg4 (fun j hj => by injection hj with hj; omega)
      obtain ⟨lf4, cf4, _⟩ := hF4.out
      have f04 := cf4 0
      unfold mixFn at f04
      obtain ⟨lb4, cb4, _⟩ := hB4.out
      have e04 := cb4 0
      have e14 := cb4 1
      have e24 := cb4 2
      have e34 := cb4 3
      have e44 := cb4 4
      clear cf4 cb4
      go_wp2_with fail
      refine (mix_i (mixZ m (nth l k).kind) (nth l k).level nb w4 hN4 (mixZ_rng _ _).1 (mixZ_rng _ _).2 r2 r3).mono ?_
      rintro _ w5 ⟨rfl, hg5, hN5⟩
      clear f04 lf4 e04 e14 e24 e34 e44 lb4
      have hF5 := hF4.grown hg5 (fun j hj => by injection hj with hj; omega)
      have hB5 := hB4.grown hg5 (fun j hj => by injection hj with hj; omega)
      obtain ⟨lf5, cf5, _⟩ := hF5.out
      have f05 := cf5 0
      unfold mixFn at f05
      obtain ⟨lb5, cb5, _⟩ := hB5.out
      have e05 := cb5 0
      have e15 := cb5 1
      have e25 := cb5 2
      have e35 := cb5 3
      have e45 := cb5 4
      clear cf5 cb5
      go_wp2_with fail
      refine (mix_i (mixZ (mixZ m (nth l k).kind) (nth l k).level) (nth l k).val nb w5 hN5 (mixZ_rng _ _).1 (mixZ_rng _ _).2 r4 r5).mono ?_
      rintro _ w6 ⟨rfl, hg6, hN6⟩
      clear f05 lf5 e05 e15 e25 e35 e45 lb5
      have hF6 := hF5.grown hg6 (fun j hj => by injection hj with hj; omega)
      have hB6 := hB5.grown hg6 (fun j hj => by injection hj with hj; omega)
      obtain ⟨lf6, cf6, _⟩ := hF6.out
      have f06 := cf6 0
      unfold mixFn at f06
      obtain ⟨lb6, cb6, _⟩ := hB6.out
      have e06 := cb6 0
      have e16 := cb6 1
      have e26 := cb6 2
      have e36 := cb6 3
      have e46 := cb6 4
      clear cf6 cb6
      go_wp2_with fail
      refine (text_i (mixZ (mixZ (mixZ m (nth l k).kind) (nth l k).level) (nth l k).val) (nth l k).mod nb (nb + 1) w6 hN6 hF6 (by omega) (mixZ_rng _ _).1 (mixZ_rng _ _).2 (by omega)).mono ?_
      rintro _ w7 ⟨rfl, hg7, hN7⟩
      clear f06 lf6 e06 e16 e26 e36 e46 lb6
      have hF7 := hF6.grown hg7 (fun j hj => by injection hj with hj; omega)
      have hB7 := hB6.grown hg7 (fun j hj => by injection hj with hj; omega)
      obtain ⟨lf7, cf7, _⟩ := hF7.out
      have f07 := cf7 0
      unfold mixFn at f07
      obtain ⟨lb7, cb7, _⟩ := hB7.out
      have e07 := cb7 0
      have e17 := cb7 1
      have e27 := cb7 2
      have e37 := cb7 3
      have e47 := cb7 4
      clear cf7 cb7
      go_wp2_with fail
      refine (text_i (textZ (mixZ (mixZ (mixZ m (nth l k).kind) (nth l k).level) (nth l k).val) (nth l k).mod) (nth l k).name nb (nb + 1) w7 hN7 hF7 (by omega) (textZ_rng _ _).1 (textZ_rng _ _).2 (by omega)).mono ?_
      rintro _ w8 ⟨rfl, hg8, hN8⟩
      clear f07 lf7 e07 e17 e27 e37 e47 lb7
      have hF8 := hF7.grown hg8 (fun j hj => by injection hj with hj; omega)
      have hg : W3.grownBy w8 (some nb) := (((hg4.trans hg5).trans hg6).trans hg7).trans hg8
      have hX8 : X w w8 := X.of_below (((hX.trans hp3).below).grown hg (hX.trans hp3).size (fun g hg => by injection hg with hg; omega))
      have hsz8 : nb + 2 ≤ w8.heap.size := Nat.le_trans hsz (Nat.le_trans hp3.size hg.size)
      go_wp2
      go_roundw
      case rel => exact ⟨k + 1, stZ m (nth l k), by omega, by go_num, by rw [Hn.out k (by rw [← Hl.out]; exact hlt), Hm.out], (textZ_rng _ _).1, (textZ_rng _ _).2, hX8, hsz8, hN8, hF8⟩
      case measure => simp [intOf]; omega
    · obtain rfl : k = n := by omega
      have hme : m = hashZ l := by rw [hm, List.take_of_length_le (by rw [← Hl.out]; omega)]
      have Hme := Lib.hid hme
      clear hme hm
      obtain ⟨ln, cn, _⟩ := hN.out
      have n0 := cn 0
      clear cn
      go_wp2
      go_ret
      exact ⟨ret_intH (by rw [Hme.out]), hX⟩
end Go.Proofs.YtjlooplpjliaiaaDoor
