/- The laws' own copying of numbers and of statements. No condition but lengths. -/
import Derived.Test.YtcophpiibifhcaaDoorToS
import Derived.Test.YtcophpiibifhcaaDoorMk
import Derived.Deep.OwnRows
namespace Go.Proofs.YtcophpiibifhcaaDoor
open Go.RowKit

theorem own_here {w : World} {B e size n c g : Nat} {xs : List Value} (h : w.ownsRow B e size (.slice (some ⟨g, 0, none⟩) n c) n xs) {j : Nat} (hj : j < n * size) : ∃ u, w.cell? ⟨g, j, none⟩ = some u := by
  have hl : j < xs.length := by rw [h.1]; exact hj
  exact ⟨xs[j], row_cell h j _ (List.getElem?_eq_getElem hl)⟩
theorem IntsAt.of_own {w : World} {B e c : Nat} {a : Option Addr} {l : List Int} {n : Nat} (h : w.ownsRow B e 1 (.slice a n c) n (ints l)) (hl : n = l.length) (hn : n ≤ 2097152) : IntsAt w B a n l := ⟨hl, hn, Sl.of_own h⟩

set_option maxRecDepth 100000 in
set_option maxHeartbeats 1000000 in
theorem toIntS_c (l : List Int) (a : Option Addr) (n c B : Nat) (w : World) (hI : IntsAt w B a n l) :
    Calls Tryd.prog 15 #[.slice a n c] w fun e w' => ∃ ra, e = .returned (.slice ra n n) ∧ w'.ownsRow w.heap.size 3 1 (.slice ra n n) n (ints l) ∧ X w w' := by
  have hn := hI.2.1
  have hl := hI.1
  have hmk := fun w => run_make_row' (P := Tryd.prog) 25 3 (.int .i64 0) 8 Tryd.underlying25 (by kernel_rfl) rfl .i64 .i64 n (by omega) (by omega) w
  have hz : (madeCells #[.int .i64 0] n).toList.length = l.length * 1 := by rw [Array.length_toList, size_madeCells, Nat.mul_one]; exact hI.1
  have hX0 : X w (w.alloc (.cells (madeCells #[.int .i64 0] n) 3)) := (X.refl w).alloc _
  have hO0 : (w.alloc (.cells (madeCells #[.int .i64 0] n) 3)).ownsRow w.heap.size 3 1 (.slice (some ⟨w.heap.size, 0, none⟩) n n) n (madeCells #[.int .i64 0] n).toList := World.ownsRow_lit w _ n (Nat.le_refl _) (by unfold maxLen; omega) (by rw [size_madeCells, Nat.mul_one])
  have Hl := Lib.hid hl
  clear hl
  have Hz := Lib.hid hz
  clear hz
  generalize hC : madeCells #[.int .i64 0] n = C at *
  clear hC
  go_enter Tryd.func15, Tryd.ntmps15
  go_wp2
  go_loopw [4] (fun i wr => ∃ k : Nat, k ≤ n ∧ i = .int .i64 k ∧ X w wr ∧ wr.ownsRow w.heap.size 3 1 (.slice (some ⟨w.heap.size, 0, none⟩) n n) n (mixR (fun x => [.int .i64 x]) 1 l C.toList k)) (fun i _ => n - (intOf i).toNat)
  case atStart => exact ⟨0, Nat.zero_le _, rfl, hX0, by rw [mixR_zero]; exact hO0⟩
  case round =>
    obtain ⟨k, hk, rfl, hX, hO⟩ := hrel
    clear hX0 hO0 hmk
    by_cases hlt : k < n
    · obtain ⟨b, off, rfl, _, hb, hc⟩ := (hI.mono (hX.fr _)).at_ hlt
      obtain ⟨u, hu⟩ := own_here hO (j := k) (by omega)
      have hfz := hO.frozenAt k
      have hg := (hO.lt w.heap.size rfl).2
      have hne : w.heap.size ≠ b ∨ True := .inr trivial
      go_wp2
      go_roundw
      case rel => exact ⟨k + 1, by omega, by go_num, X.setCell hX (Nat.le_refl _) _, by
        have := own_set hO (k := k) (.int .i64 (nth l k))
        rw [show (mixR (fun x => [Value.int .i64 x]) 1 l C.toList k).set k (.int .i64 (nth l k)) = mixR (fun x => [.int .i64 x]) 1 l C.toList (k + 1) from by
          have h2 := mix_set1 (g := fun x => [Value.int .i64 x]) (fun _ => rfl) Hz.out (k := k) (by rw [← Hl.out]; exact hlt) (.int .i64 (nth l k)) rfl
          rwa [Nat.mul_one] at h2] at this
        exact this⟩
      case measure => simp [intOf]; omega
    · obtain rfl : k = n := by omega
      go_wp2
      go_ret
      refine ⟨_, rfl, ?_, hX⟩
      rw [Hl.out, mixR_all Hz.out] at hO
      rw [Hl.out]
      exact hO

end Go.Proofs.YtcophpiibifhcaaDoor
