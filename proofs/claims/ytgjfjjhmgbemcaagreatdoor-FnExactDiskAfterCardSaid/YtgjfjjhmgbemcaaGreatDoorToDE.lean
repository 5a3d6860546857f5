/- toDisk, its files ahead of its directories. No condition but lengths. -/
import Derived.Test.YtgjfjjhmgbemcaaGreatDoorDkAdd
import Derived.Test.YtgjfjjhmgbemcaaGreatDoorLa
namespace Go.Proofs.YtgjfjjhmgbemcaaGreatDoor
open Go.RowKit

set_option maxRecDepth 100000 in
set_option maxHeartbeats 1000000 in
theorem toDisk_e (l : List Fi) (a : Option Addr) (n c : Nat) (kk : Int) (dl : List Di) (da : Option Addr) (dn dc B : Nat) (w : World) (hF : FilesAt w B a n l) (hD : DirsAt w B da dn dl) :
    Calls Tryz.prog 11 #[.agg #[.slice a n c, .int .i64 kk, .slice da dn dc]] w fun e w' => ∃ ra rd E1, e = .returned (.agg #[.slice ra n n, .int .i64 kk, .slice rd dn dn]) ∧ FilesE w' w.heap.size E1 ra n n l ∧ DirsE w' E1 w'.heap.size rd dn dn dl ∧ w.heap.size ≤ E1 ∧ E1 ≤ w'.heap.size ∧ X w w' := by
  go_enter Tryz.func11, Tryz.ntmps11
  go_wp2_with fail
  refine calls_name (fun W hW => ?_)
  obtain ⟨hA, hR, hT, hX0⟩ := bx3 hW
  have hsz : W.heap.size = w.heap.size + 3 := by rw [hW]; simp
  clear hW
  refine (toTree_c l a n c B W (hF.mono (hX0.fr _))).mono ?_
  rintro _ w3 ⟨ra, rfl, hO, hX3⟩
  have hXw := hX0.trans hX3
  replace hA := hA.x hX3
  replace hR := hR.x hX3
  replace hT := hT.x hX3
  obtain ⟨hbA, hcA, hfA⟩ := hA.out
  obtain ⟨hbT, hcT, hfT⟩ := hT.out
  have a1 := hcA 1
  have a2 := hcA 2
  have t0 := hcT 0
  have t1 := hcT 1
  clear hcA hcT
  go_wp2_with fail
  refine calls_name (fun W4 hW4 => ?_)
  have hT4 : Bx W4 (w.heap.size + 2) #[.slice ra n n, .int .i64 kk, .slice none 0 0] := by rw [hW4]; exact Bx.set (Bx.set hT 0 _) 1 _
  have hR4 : Bx W4 (w.heap.size + 1) #[.slice none 0 0, .int .i64 0, .slice none 0 0] := by rw [hW4]; exact Bx.far (Bx.far hR (by simp) _) (by simp) _
  have hX4 : X w W4 := by rw [hW4]; (repeat (first | with_reducible exact X.refl _ | with_reducible assumption | with_reducible refine X.setCell ?_ (by first | (simp; done) | (simp; omega)) _ | with_reducible refine X.ext ?_ _ | with_reducible refine X.alloc ?_ _ | with_reducible refine X.drew ?_))
  have hO4 := hO.e.fr (w' := W4) (by rw [hW4]; (repeat (first | with_reducible exact Fr.refl _ _ | with_reducible assumption | with_reducible refine Fr.set ?_ (.inr (by first | (simp; done) | (simp; omega))) _)))
  have hs4 : w3.heap.size ≤ W4.heap.size := by rw [hW4]; simp [World.setCell]
  have hs3 := hX3.size
  clear hW4
  refine (toDirS_c dl da dn dc B W4 (hD.mono (hX4.fr _))).mono ?_
  rintro _ w5 ⟨rd, rfl, hQ, hX5⟩
  have hXz := hX4.trans hX5
  replace hR4 := hR4.x hX5
  replace hT4 := hT4.x hX5
  replace hO4 := hO4.fr (hX5.fr _)
  obtain ⟨hbR, hcR, hfR⟩ := hR4.out
  obtain ⟨hbT, hcT, hfT⟩ := hT4.out
  have r0 := hcR 0
  have r1 := hcR 1
  have r2 := hcR 2
  have t0 := hcT 0
  have t1 := hcT 1
  have t2 := hcT 2
  clear hcR hcT
  go_wp2
  refine bodyPost_row Tryz.results11 rfl (Bx.set (Bx.set (Bx.set (Bx.far hR4 (by simp) _) 0 _) 1 _) 2 _) disk_S rfl rfl ?_
  have hs5 := hX5.size
  exact ⟨ra, rd, w3.heap.size, rfl, (hO4.fr (by (repeat (first | with_reducible exact Fr.refl _ _ | with_reducible assumption | with_reducible refine Fr.set ?_ (.inr (by first | (simp; done) | (simp; omega))) _)))).lessB (by omega), ((hQ.fr (by (repeat (first | with_reducible exact Fr.refl _ _ | with_reducible assumption | with_reducible refine Fr.set ?_ (.inr (by first | (simp; done) | (simp; omega))) _)))).less hs4).e, by omega, by simp [World.setCell]; omega, by (repeat (first | with_reducible exact X.refl _ | with_reducible assumption | with_reducible refine X.setCell ?_ (by first | (simp; done) | (simp; omega)) _ | with_reducible refine X.ext ?_ _ | with_reducible refine X.alloc ?_ _ | with_reducible refine X.drew ?_))⟩

end Go.Proofs.YtgjfjjhmgbemcaaGreatDoor
