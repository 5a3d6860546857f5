/- ListDir: the walks. No condition but lengths. -/
import Derived.Test.YtgjfjjhmgbemcaaDoorCutL
namespace Go.Proofs.YtgjfjjhmgbemcaaDoor
open Go.RowKit

theorem listN_next {l : List Fi} {r : Int} {p : List UInt8} {k : Nat} (hk : k < l.length) : listN (l.take (k + 1)) r p = listN (l.take k) r p ++ entL (nth l k) r p := by
  unfold listN
  rw [take_succ_nth hk, List.flatMap_append]
  simp
theorem entL_len (f : Fi) (r : Int) (p : List UInt8) : (entL f r p).length ≤ 1 := by
  unfold entL
  split
  · split
    · simp
    · split <;> simp
  · simp
theorem listN_len {l : List Fi} {r : Int} {p : List UInt8} : (listN l r p).length ≤ l.length := by
  induction l with
  | nil => simp [listN]
  | cons f l ih =>
    have := entL_len f r p
    unfold listN at ih ⊢
    rw [List.flatMap_cons, List.length_append, List.length_cons]
    omega
theorem listL_len {l : List Fi} {r : Int} {p : List UInt8} : (listL l r p).length ≤ 12 := by
  unfold listL
  split
  · rename_i h
    simp only [Bool.and_eq_true] at h
    have h1 := sortU_len (listN l r p)
    have h2 := treeB_12 h.1.1
    have h3 := @listN_len l r p
    omega
  · simp
theorem under_len {s p : List UInt8} (h : underB s p = true) (h0 : p ≠ []) (hne : s ≠ p) : p.length + 1 ≤ s.length := by
  rcases (underB_iff h0).1 h with e | ⟨u, e⟩
  · exact absurd e hne
  · rw [e]; simp

end Go.Proofs.YtgjfjjhmgbemcaaDoor
