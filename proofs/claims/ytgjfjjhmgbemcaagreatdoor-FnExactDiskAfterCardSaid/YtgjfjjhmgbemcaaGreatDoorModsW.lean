/- ModulesOf: the walks. No condition. -/
import Derived.Test.YtgjfjjhmgbemcaaGreatDoorLc
import Derived.Test.YtgjfjjhmgbemcaaGreatDoorIns
namespace Go.Proofs.YtgjfjjhmgbemcaaGreatDoor
open Go.RowKit

theorem fileB_nm {f : Fi} (h : fileB f = true) : nameB (moduleB f) = true := by
  unfold fileB at h
  unfold moduleB
  simp only [Bool.and_eq_true] at h
  cases hi : f.init
  · rw [hi] at h
    simp only [Bool.false_eq_true, if_false, Bool.and_eq_true] at h ⊢
    exact h.2.2
  · rw [hi] at h
    simp only [if_true, Bool.and_eq_true, Bool.not_eq_true', List.isEmpty_eq_false_iff] at h ⊢
    exact pkgB_name h.1.1.1.2 h.2.1
theorem treeB_12 {t : List Fi} (h : treeB t = true) : t.length ≤ 12 := by
  unfold treeB at h
  simp only [Bool.and_eq_true, decide_eq_true_eq] at h
  exact h.2
theorem mods_name {t : List Fi} (h : treeB t = true) {x : List UInt8} (hx : x ∈ t.map moduleB) : x.length ≤ 12 := by
  obtain ⟨f, hf, rfl⟩ := List.mem_map.1 hx
  exact nameB_len (fileB_nm (treeB_mem h hf))
theorem modsL_len {t : List Fi} : (modsL t).length ≤ 12 := by
  unfold modsL
  split
  · rename_i h
    have h1 := sortU_len (t.map moduleB)
    have h2 := treeB_12 h
    rw [List.length_map] at h1
    omega
  · simp
theorem modsL_short {t : List Fi} : ∀ x ∈ modsL t, x.length ≤ 12 := by
  intro x hx
  unfold modsL at hx
  split at hx
  · rename_i h
    exact mods_name h ((sortU_facts _).2 x |>.1 hx)
  · simp at hx
theorem x_own {w W w' : World} {B e size n : Nat} {v : Value} {xs : List Value} (hX : X w W) (h : W.ownsRow B e size v n xs) (hB : w.heap.size ≤ B) (hg : W.grownBy w' v.ownBlock) : X w w' :=
  X.of_below (hX.below.grown hg hX.size (fun g hg => by have := (h.lt g hg).1; omega))
theorem bxC {w : World} {b : Nat} {v : Value} (h : Bx w b #[v]) : w.cell? ⟨b, 0, none⟩ = some v := h.out.2.1 0
theorem sortU_nil : sortU [] = [] := by simp [sortU, Lib.compact, Lib.compactUpTo]

theorem insAll_snoc (xs : List (List UInt8)) (x : List UInt8) : insAll [] (xs ++ [x]) = insS (insAll [] xs) x := by simp [insAll]
theorem insAll_len (xs : List (List UInt8)) : (insAll [] xs).length ≤ xs.length := by rw [insAll_sortU]; exact sortU_len xs
theorem strsAt_nil (w : World) (B : Nat) : StrsAt w B none 0 [] := ⟨rfl, by omega, (fun _ h => by cases h), fun h => absurd h (by omega)⟩
end Go.Proofs.YtgjfjjhmgbemcaaGreatDoor
