/- The name of a file's module in the reference; all cells of a slice of files. No condition. -/
import Derived.Test.YtcophpiibifhcaaDoorParts
import Derived.Test.YtcophpiibifhcaaDoorRw
namespace Go.Proofs.YtcophpiibifhcaaDoor
open Go.RowKit

set_option maxHeartbeats 400000 in
theorem moduleName_c (f : Fi) (bf : Value) (w : World) (hf : Okf f) : Calls Tryd.prog 53 #[.agg #[.int .i64 (f).root, .string ⟨(f).pkg.toArray⟩, .string ⟨(f).name.toArray⟩, .bool (f).init, .int .i64 (f).stamp, bf]] w fun e w' => e = .returned (.string ⟨(moduleB f).toArray⟩) ∧ X w w' := by
  obtain ⟨h1, h2⟩ := hf
  cases hi : f.init
  all_goals
    go_enter Tryd.func53, Tryd.ntmps53
    go_wp2_with (go_at_call 67; refine (child_c f.pkg f.name _ h1 h2).mono ?_; rintro _ _ ⟨rfl, rfl⟩)
    go_ret
    exact ⟨by simp [moduleB, hi], by (repeat (first | exact X.refl _ | assumption | refine X.ext ?_ _ | refine X.alloc ?_ _ | refine X.drew ?_))⟩
theorem files_all {w : World} {B : Nat} {a : Option Addr} {n : Nat} {l : List Fi} (h : FilesAt w B a n l) (h0 : 0 < n) : ∃ b off, ∃ bv : Nat → Value, a = some ⟨b, off, none⟩ ∧ B ≤ b ∧ b < w.heap.size ∧
    ∀ k, k < n → w.cell? ⟨b, off + k * 6, none⟩ = some (.int .i64 (nth l k).root) ∧ w.cell? ⟨b, off + k * 6 + 1, none⟩ = some (.string ⟨((nth l k).pkg).toArray⟩) ∧ w.cell? ⟨b, off + k * 6 + 2, none⟩ = some (.string ⟨((nth l k).name).toArray⟩) ∧
      w.cell? ⟨b, off + k * 6 + 3, none⟩ = some (.bool (nth l k).init) ∧ w.cell? ⟨b, off + k * 6 + 4, none⟩ = some (.int .i64 (nth l k).stamp) ∧ w.cell? ⟨b, off + k * 6 + 5, none⟩ = some (bv k) := by
  obtain ⟨b, off, _, _, _, ha, hB, hb, _⟩ := h.at_ h0
  refine ⟨b, off, fun k => (w.cell? ⟨b, off + k * 6 + 5, none⟩).getD undef, ha, hB, hb, fun k hk => ?_⟩
  obtain ⟨b', off', ba, bn, bc, ha', _, _, _, _, _, g0, g1, g2, g3, g4, g5⟩ := h.at_ hk
  rw [ha] at ha'
  injection ha' with ha'
  injection ha' with e1 e2
  subst e1 e2
  exact ⟨g0, g1, g2, g3, g4, by show _ = some ((w.cell? ⟨b, off + k * 6 + 5, none⟩).getD undef); rw [g5]; rfl⟩

end Go.Proofs.YtcophpiibifhcaaDoor
