/- ListDir, both sides: the walks. No condition but lengths. -/
import Derived.Test.YtgjfjjhmgbemcaaDoorListW
namespace Go.Proofs.YtgjfjjhmgbemcaaDoor
open Go.RowKit

def dirG (l : List Fi) (r : Int) (p : List UInt8) : Bool := treeB l && rangeB r 0 2 && pkgB p
theorem pkg12 {p : List UInt8} (h : pkgB p = true) : p.length ≤ 12 := by
  cases h2 : p with
  | nil => simp
  | cons x y => rw [← h2]; exact nameB_len (pkgB_name h (by rw [h2]; simp))
theorem splitL_12 {c : UInt8} {s : List UInt8} : (nth (splitL c s) 0).length ≤ s.length := splitL_piece_le c s _ (nth_mem (splitL_pos c s))
theorem firstB_len {s p : List UInt8} : (firstB s p).length ≤ s.length := by
  unfold firstB
  refine Nat.le_trans splitL_12 ?_
  split
  · exact Nat.le_refl _
  · rw [List.length_drop]; omega
theorem entL_short {f : Fi} {r : Int} {p x : List UInt8} (hf : fileB f = true) (hx : x ∈ entL f r p) : x.length ≤ 13 := by
  have hpk : f.pkg.length ≤ 12 := pkg12 (fileB_pkgB hf)
  unfold entL at hx
  split at hx
  · split at hx
    · rw [List.mem_singleton.1 hx]
      split
      · simp
      · rename_i hi
        unfold fileB at hf
        simp only [Bool.not_eq_true] at hi
        rw [hi] at hf
        simp only [Bool.false_eq_true, if_false, Bool.and_eq_true] at hf
        have := (partB_len hf.2.1).2
        omega
    · split at hx
      · rw [List.mem_singleton.1 hx, List.length_append, List.length_singleton]
        have := @firstB_len f.pkg p
        omega
      · simp at hx
  · simp at hx
theorem listN_short {l : List Fi} {r : Int} {p : List UInt8} (h : treeB l = true) : ∀ x ∈ listN l r p, x.length ≤ 13 := by
  intro x hx
  obtain ⟨f, hf, hx⟩ := List.mem_flatMap.1 hx
  exact entL_short (treeB_mem h hf) hx
theorem listL_short {l : List Fi} {r : Int} {p : List UInt8} : ∀ x ∈ listL l r p, x.length ≤ 13 := by
  intro x hx
  unfold listL at hx
  split at hx
  · rename_i h
    simp only [Bool.and_eq_true] at h
    exact listN_short h.1.1 x ((sortU_facts _).2 x |>.1 hx)
  · simp at hx

theorem insS_keep (l : List (List UInt8)) : insAll l [] = l := rfl
set_option maxRecDepth 100000 in
set_option maxHeartbeats 1000000 in
theorem firstBelow_c (s p : List UInt8) (w : World) (hs : s.length ≤ 12) (h : p = [] ∨ p.length + 1 ≤ s.length) :
    Calls Tryd.prog 122 #[.string ⟨(s).toArray⟩, .string ⟨(p).toArray⟩] w fun e w' => e = .returned (.string ⟨(firstB s p).toArray⟩) ∧ X w w' := by
  cases hpe : p.isEmpty
  · have hul : p.length + 1 ≤ s.length := by
      rcases h with rfl | h
      · cases hpe
      · exact h
    have hfb2 : firstB s p = nth (splitL 46 (s.drop (p.length + 1))) 0 := by rw [firstB, hpe]; rfl
    rw [hfb2]
    clear hfb2 h
    have q1 : IntKind.i64.wrap ((p.length : Int) + 1) = (p.length : Int) + 1 := IntWalk.i64_in _ (by omega)
    have q2 : (0 : Int) ≤ (p.length : Int) + 1 := by omega
    have q3 : ((p.length : Int) + 1).toNat = p.length + 1 := by omega
    have q4 : (p.length : Int) + 1 ≤ (s.length : Int) := by omega
    have HT := Lib.hid (take_rest s (p.length + 1))
    have hdl : (s.drop (p.length + 1)).length ≤ 12 := by rw [List.length_drop]; omega
    obtain ⟨R, hR⟩ : ∃ R, s.drop (p.length + 1) = R := ⟨_, rfl⟩
    rw [hR] at hdl ⊢
    have HR := Lib.hid hR
    clear hR
    have hpos := splitL_pos 46 R
    go_enter Tryd.func122, Tryd.ntmps122
    go_wp2_with fail
    rw [HT.out, HR.out]
    refine (splitAt_c R 46 w (by omega)).mono ?_
    rintro _ w1 ⟨ta, tc, rfl, hown, hx1⟩
    have hS := StrsAt.of_own hown (by have := splitL_length_le 46 R; omega) (fun q hq => Nat.le_trans (splitL_piece_le 46 R q hq) (by omega))
    obtain ⟨b, off, rfl, _, hb, hc, _⟩ := hS.at_ (k := 0) hpos
    rw [Nat.add_zero] at hc
    go_wp2
    go_ret
    exact ⟨rfl, hx1⟩
  · obtain rfl : p = [] := by cases p with | nil => rfl | cons _ _ => cases hpe
    have hfb2 : firstB s [] = nth (splitL 46 s) 0 := rfl
    rw [hfb2]
    clear hfb2 h hpe
    have hpos := splitL_pos 46 s
    go_enter Tryd.func122, Tryd.ntmps122
    go_wp2_with fail
    refine (splitAt_c s 46 w (by omega)).mono ?_
    rintro _ w1 ⟨ta, tc, rfl, hown, hx1⟩
    have hS := StrsAt.of_own hown (by have := splitL_length_le 46 s; omega) (fun q hq => Nat.le_trans (splitL_piece_le 46 s q hq) (by omega))
    obtain ⟨b, off, rfl, _, hb, hc, _⟩ := hS.at_ (k := 0) hpos
    rw [Nat.add_zero] at hc
    go_wp2
    go_ret
    exact ⟨rfl, hx1⟩

end Go.Proofs.YtgjfjjhmgbemcaaDoor
