/- compiledAt, both sides: the walks. No condition but lengths. -/
import Derived.Test.YtjlooplpjliaiaaDoorCo
import Derived.Test.YtjlooplpjliaiaaDoorTree
namespace Go.Proofs.YtjlooplpjliaiaaDoor
open Go.RowKit

def sameC (c : Co) (r : Int) (s : List UInt8) (it : Bool) : Bool := c.root == r && c.mod == s && c.init == it
/-- The first of the first m of a store that is of the module. -/
def cidx (l : List Co) (r : Int) (s : List UInt8) (it : Bool) (m : Nat) : Int := firstN (fun k => sameC (nth l k) r s it) m

theorem ret_intC {a b : Int} (h : a = b) : Ending.returned (.int .i64 a) = .returned (.int .i64 b) := by rw [h]
set_option maxRecDepth 100000 in
set_option maxHeartbeats 1000000 in
theorem compiledAt_s (l : List Co) (a : Option Addr) (n c B : Nat) (r : Int) (s : List UInt8) (it : Bool) (w : World) (hD : CosAt w B a n l) :
    Calls Tryd.prog 65 #[.slice a n c, .int .i64 r, .string ⟨(s).toArray⟩, .bool it] w fun e w' => e = .returned (.int .i64 (cidx l r s it n)) ∧ X w w' := by
  have hn := hD.len.2
  go_enter Tryd.func65, Tryd.ntmps65
  go_wp2
  go_loopw [9] (fun i wr => ∃ k : Nat, k ≤ n ∧ i = .int .i64 k ∧ anyN (fun k => sameC (nth l k) r s it) k = false ∧ wr = w) (fun i _ => n - (intOf i).toNat)
  case atStart => exact ⟨0, by omega, rfl, rfl, rfl⟩
  case round =>
    obtain ⟨k, hk, rfl, hno, rfl⟩ := hrel
    by_cases hlt : k < n
    · obtain ⟨b, off, ba, bn, bc, rfl, _, hb, _, _, _, g0, g1, g2, g3, g4, g5, g6, g7⟩ := hD.at_ (k := k) (by omega)
      cases h1 : (nth l k).root == r <;> cases h2 : (nth l k).mod == s <;> cases h3 : (nth l k).init == it
      all_goals go_wp2
      all_goals first
        | (go_roundw
           case rel => exact ⟨k + 1, by omega, by go_num, anyN_next hno (by simp [sameC, h1, h2, h3]), trivial⟩
           case measure => simp [intOf]; omega)
        | (go_ret
           exact ⟨ret_intC (firstN_some (p := fun k => sameC (nth l k) r s it) hno (by simp [sameC, h1, h2, h3]) hlt).symm, by (repeat (first | with_reducible exact X.refl _ | with_reducible assumption | with_reducible refine X.setCell ?_ (by first | (simp; done) | (simp; omega)) _ | with_reducible refine X.ext ?_ _ | with_reducible refine X.alloc ?_ _ | with_reducible refine X.drew ?_))⟩)
    · obtain rfl : k = n := by omega
      go_wp2
      go_ret
      exact ⟨ret_intC (firstN_none (p := fun k => sameC (nth l k) r s it) hno).symm, by (repeat (first | with_reducible exact X.refl _ | with_reducible assumption | with_reducible refine X.setCell ?_ (by first | (simp; done) | (simp; omega)) _ | with_reducible refine X.ext ?_ _ | with_reducible refine X.alloc ?_ _ | with_reducible refine X.drew ?_))⟩

set_option maxRecDepth 100000 in
set_option maxHeartbeats 1000000 in
theorem sameCo_c (d : Co) (bv : Value) (r : Int) (s : List UInt8) (it : Bool) (rb pb ib : Nat) (w : World) (h1 : w.cell? ⟨rb, 0, none⟩ = some (.int .i64 r)) (h2 : w.cell? ⟨pb, 0, none⟩ = some (.string ⟨(s).toArray⟩)) (h3 : w.cell? ⟨ib, 0, none⟩ = some (.bool it)) (l1 : rb < w.heap.size) (l2 : pb < w.heap.size) (l3 : ib < w.heap.size) :
    Calls Tryd.prog 89 #[.agg #[.int .i64 (d).root, .string ⟨(d).mod.toArray⟩, .bool (d).init, .int .i64 (d).mode, .int .i64 (d).stamp, .int .i64 (d).size, .int .i64 (d).hash, bv], .pointer (some ⟨rb, 0, none⟩), .pointer (some ⟨pb, 0, none⟩), .pointer (some ⟨ib, 0, none⟩)] w fun e w' => e = .returned (.bool (sameC d r s it)) ∧ X w w' := by
  cases c1 : d.root == r <;> cases c2 : d.mod == s <;> cases c3 : d.init == it
  all_goals
    go_enter Tryd.func89, Tryd.ntmps89
    go_wp2
    go_ret
    exact ⟨by simp [sameC, c1, c2, c3], by (repeat (first | with_reducible exact X.refl _ | with_reducible assumption | with_reducible refine X.setCell ?_ (by first | (simp; done) | (simp; omega)) _ | with_reducible refine X.ext ?_ _ | with_reducible refine X.alloc ?_ _ | with_reducible refine X.drew ?_))⟩

set_option maxRecDepth 100000 in
set_option maxHeartbeats 1000000 in
theorem IndexFuncC_c (l : List Co) (a : Option Addr) (n c B : Nat) (r : Int) (s : List UInt8) (it : Bool) (rb pb ib : Nat) (w : World) (hD : CosAt w B a n l) (h1 : Bx w rb #[.int .i64 r]) (h2 : Bx w pb #[.string ⟨(s).toArray⟩]) (h3 : Bx w ib #[.bool it]) :
    Calls Tryd.prog 88 #[.slice a n c, .func (.func 89) #[] #[.pointer (some ⟨rb, 0, none⟩), .pointer (some ⟨pb, 0, none⟩), .pointer (some ⟨ib, 0, none⟩)]] w fun e w' => e = .returned (.int .i64 (cidx l r s it n)) ∧ X w w' := by
  have hn := hD.len.2
  go_enter Tryd.func88, Tryd.ntmps88
  go_wp2
  go_loopw [8] (fun i wr => ∃ k : Nat, k ≤ n ∧ i = .int .i64 k ∧ anyN (fun k => sameC (nth l k) r s it) k = false ∧ X w wr) (fun i _ => n - (intOf i).toNat)
  case atStart => exact ⟨0, by omega, rfl, rfl, X.refl _⟩
  case round =>
    obtain ⟨k, hk, rfl, hno, hX⟩ := hrel
    by_cases hlt : k < n
    · obtain ⟨b, off, ba, bn, bc, rfl, _, hb, _, _, _, g0, g1, g2, g3, g4, g5, g6, g7⟩ := (hD.mono (hX.fr _)).at_ (k := k) (by omega)
      obtain ⟨l1, c1, _⟩ := (h1.x hX).out
      obtain ⟨l2, c2, _⟩ := (h2.x hX).out
      obtain ⟨l3, c3, _⟩ := (h3.x hX).out
      have e1 := c1 0
      have e2 := c2 0
      have e3 := c3 0
      cases hs : sameC (nth l k) r s it
      all_goals
        go_wp2_with (go_at_call 89; refine (sameCo_c (nth l k) (.slice ba bn bc) r s it rb pb ib _ e1 e2 e3 l1 l2 l3).mono ?_; rintro _ w3 ⟨rfl, hx3⟩; rw [hs])
      · go_roundw
        case rel => exact ⟨k + 1, by omega, by go_num, anyN_next hno hs, hX.trans hx3⟩
        case measure => simp [intOf]; omega
      · go_ret
        exact ⟨ret_intC (firstN_some (p := fun k => sameC (nth l k) r s it) hno hs hlt).symm, hX.trans hx3⟩
    · obtain rfl : k = n := by omega
      go_wp2
      go_ret
      exact ⟨ret_intC (firstN_none (p := fun k => sameC (nth l k) r s it) hno).symm, hX⟩
set_option maxRecDepth 100000 in
set_option maxHeartbeats 1000000 in
theorem compiledAt_i (l : List Co) (a : Option Addr) (n c B : Nat) (r : Int) (s : List UInt8) (it : Bool) (w : World) (hD : CosAt w B a n l) :
    Calls Tryd.prog 57 #[.slice a n c, .int .i64 r, .string ⟨(s).toArray⟩, .bool it] w fun e w' => e = .returned (.int .i64 (cidx l r s it n)) ∧ X w w' := by
  go_enter Tryd.func57, Tryd.ntmps57
  go_wp2_with fail
  refine calls_name (fun W hW => ?_)
  obtain ⟨h1, h2, h3, hX0⟩ := bx3 hW
  clear hW
  refine (IndexFuncC_c l a n c B r s it _ _ _ W (hD.mono (hX0.fr _)) h1 h2 h3).mono ?_
  rintro _ w2 ⟨rfl, hx2⟩
  go_wp2
  go_ret
  exact ⟨rfl, hX0.trans hx2⟩

end Go.Proofs.YtjlooplpjliaiaaDoor
