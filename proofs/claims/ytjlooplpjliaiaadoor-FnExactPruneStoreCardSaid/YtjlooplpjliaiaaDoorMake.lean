/- A row that is made of zeros and filled element by element. Plain; no condition. -/
import Derived.Test.YtjlooplpjliaiaaDoorRw
import Derived.OwnWalk
namespace Go.Proofs.YtjlooplpjliaiaaDoor
open Go.RowKit

theorem fill1 {A Z : List Value} {o : Nat} (ho : o = A.length) (hz : 1 ≤ Z.length) (v0 : Value) : (A ++ Z).set o v0 = A ++ ([v0] ++ Z.drop 1) := by
  subst ho
  match Z, hz with
  | a :: Z, _ => simp [List.set_append_right]
theorem set_off {A Z : List Value} (j : Nat) (v : Value) : (A ++ Z).set (A.length + j) v = A ++ Z.set j v := by
  rw [List.set_append_right _ _ (by omega)]
  congr 2
  omega
theorem fill5 {A Z : List Value} {o : Nat} (ho : o = A.length) (hz : 5 ≤ Z.length) (v0 v1 v2 v3 v4 : Value) :
    (((((A ++ Z).set o v0).set (o + 1) v1).set (o + 2) v2).set (o + 3) v3).set (o + 4) v4 = A ++ ([v0, v1, v2, v3, v4] ++ Z.drop 5) := by
  subst ho
  match Z, hz with
  | a :: b :: c :: d :: e :: Z, _ =>
    have h0 := set_off (A := A) (Z := a :: b :: c :: d :: e :: Z) 0 v0
    rw [Nat.add_zero] at h0
    rw [h0, set_off, set_off, set_off, set_off]
    rfl
theorem fill6 {A Z : List Value} {o : Nat} (ho : o = A.length) (hz : 6 ≤ Z.length) (v0 v1 v2 v3 v4 v5 : Value) :
    ((((((A ++ Z).set o v0).set (o + 1) v1).set (o + 2) v2).set (o + 3) v3).set (o + 4) v4).set (o + 5) v5 = A ++ ([v0, v1, v2, v3, v4, v5] ++ Z.drop 6) := by
  subst ho
  match Z, hz with
  | a :: b :: c :: d :: e :: f :: Z, _ =>
    have h0 := set_off (A := A) (Z := a :: b :: c :: d :: e :: f :: Z) 0 v0
    rw [Nat.add_zero] at h0
    rw [h0, set_off, set_off, set_off, set_off, set_off]
    rfl
/-- The first k elements of l, then what is left of the row z. -/
def mixR {α : Type} (g : α → List Value) (s : Nat) (l : List α) (z : List Value) (k : Nat) : List Value := (l.take k).flatMap g ++ z.drop (k * s)
theorem mixR_zero {α : Type} {g : α → List Value} {s : Nat} {l : List α} {z : List Value} : mixR g s l z 0 = z := by simp [mixR]
theorem mixR_all {α : Type} {g : α → List Value} {s : Nat} {l : List α} {z : List Value} (hz : z.length = l.length * s) : mixR g s l z l.length = l.flatMap g := by
  rw [mixR, List.take_length, List.drop_eq_nil_of_le (by omega), List.append_nil]
theorem mixR_front {α : Type} {g : α → List Value} {s : Nat} (hg : ∀ x, (g x).length = s) {l : List α} {k : Nat} (hk : k ≤ l.length) : ((l.take k).flatMap g).length = k * s := by
  rw [flat_length s g hg, List.length_take, Nat.min_eq_left hk]
theorem mixR_next {α : Type} [Inhabited α] {g : α → List Value} {s : Nat} {l : List α} {z : List Value} {k : Nat} (hk : k < l.length) :
    (l.take k).flatMap g ++ (g (nth l k) ++ (z.drop (k * s)).drop s) = mixR g s l z (k + 1) := by
  rw [mixR, take_succ_nth hk, List.flatMap_append, List.drop_drop, Nat.succ_mul]
  simp
theorem left_len {s n k : Nat} {z : List Value} (hz : z.length = n * s) (hk : k < n) : s ≤ (z.drop (k * s)).length := by
  rw [List.length_drop, hz]
  have : (k + 1) * s ≤ n * s := Nat.mul_le_mul_right s (by omega)
  rw [Nat.succ_mul] at this
  omega
/-- One element of one cell, five, six. -/
theorem mix_set1 {α : Type} [Inhabited α] {g : α → List Value} (hg : ∀ x, (g x).length = 1) {l : List α} {z : List Value} {k : Nat} (hz : z.length = l.length * 1) (hk : k < l.length) (v0 : Value) (hv : g (nth l k) = [v0]) :
    (mixR g 1 l z k).set (k * 1) v0 = mixR g 1 l z (k + 1) := by
  rw [mixR, fill1 (mixR_front hg (by omega)).symm (left_len hz hk), ← hv, mixR_next hk]
theorem mix_set5 {α : Type} [Inhabited α] {g : α → List Value} (hg : ∀ x, (g x).length = 5) {l : List α} {z : List Value} {k : Nat} (hz : z.length = l.length * 5) (hk : k < l.length) (v0 v1 v2 v3 v4 : Value) (hv : g (nth l k) = [v0, v1, v2, v3, v4]) :
    (((((mixR g 5 l z k).set (k * 5) v0).set (k * 5 + 1) v1).set (k * 5 + 2) v2).set (k * 5 + 3) v3).set (k * 5 + 4) v4 = mixR g 5 l z (k + 1) := by
  rw [mixR, fill5 (mixR_front hg (by omega)).symm (left_len hz hk), ← hv, mixR_next hk]
theorem mix_set6 {α : Type} [Inhabited α] {g : α → List Value} (hg : ∀ x, (g x).length = 6) {l : List α} {z : List Value} {k : Nat} (hz : z.length = l.length * 6) (hk : k < l.length) (v0 v1 v2 v3 v4 v5 : Value) (hv : g (nth l k) = [v0, v1, v2, v3, v4, v5]) :
    ((((((mixR g 6 l z k).set (k * 6) v0).set (k * 6 + 1) v1).set (k * 6 + 2) v2).set (k * 6 + 3) v3).set (k * 6 + 4) v4).set (k * 6 + 5) v5 = mixR g 6 l z (k + 1) := by
  rw [mixR, fill6 (mixR_front hg (by omega)).symm (left_len hz hk), ← hv, mixR_next hk]
theorem own_set5 {w : World} {B e size n c g : Nat} {xs : List Value} (h : w.ownsRow B e size (.slice (some ⟨g, 0, none⟩) n c) n xs) (o : Nat) (v0 v1 v2 v3 v4 : Value) :
    (((((w.setCell ⟨g, o, none⟩ v0).setCell ⟨g, o + 1, none⟩ v1).setCell ⟨g, o + 2, none⟩ v2).setCell ⟨g, o + 3, none⟩ v3).setCell ⟨g, o + 4, none⟩ v4).ownsRow B e size (.slice (some ⟨g, 0, none⟩) n c) n
      (((((xs.set o v0).set (o + 1) v1).set (o + 2) v2).set (o + 3) v3).set (o + 4) v4) := own_set (own_set (own_set (own_set (own_set h v0) v1) v2) v3) v4
theorem own_set6 {w : World} {B e size n c g : Nat} {xs : List Value} (h : w.ownsRow B e size (.slice (some ⟨g, 0, none⟩) n c) n xs) (o : Nat) (v0 v1 v2 v3 v4 v5 : Value) :
    ((((((w.setCell ⟨g, o, none⟩ v0).setCell ⟨g, o + 1, none⟩ v1).setCell ⟨g, o + 2, none⟩ v2).setCell ⟨g, o + 3, none⟩ v3).setCell ⟨g, o + 4, none⟩ v4).setCell ⟨g, o + 5, none⟩ v5).ownsRow B e size (.slice (some ⟨g, 0, none⟩) n c) n
      ((((((xs.set o v0).set (o + 1) v1).set (o + 2) v2).set (o + 3) v3).set (o + 4) v4).set (o + 5) v5) := own_set (own_set5 h o v0 v1 v2 v3 v4) v5

end Go.Proofs.YtjlooplpjliaiaaDoor
