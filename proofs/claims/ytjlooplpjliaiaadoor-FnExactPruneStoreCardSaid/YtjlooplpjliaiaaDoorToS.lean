/- The laws' own copying of a statement. No condition. -/
import Derived.Test.YtjlooplpjliaiaaDoorEqS
namespace Go.Proofs.YtjlooplpjliaiaaDoor
open Go.RowKit

set_option maxRecDepth 100000 in
set_option maxHeartbeats 1000000 in
theorem toStmt_c (s : St) (w : World) : Calls Tryd.prog 82 #[.agg #[.int .i64 (s).kind, .string ⟨(s).mod.toArray⟩, .int .i64 (s).level, .string ⟨(s).name.toArray⟩, .int .i64 (s).val]] w fun e w' => e = .returned (.agg #[.int .i64 (s).kind, .string ⟨(s).mod.toArray⟩, .int .i64 (s).level, .string ⟨(s).name.toArray⟩, .int .i64 (s).val]) ∧ X w w' := by
  go_enter Tryd.func82, Tryd.ntmps82
  go_wp2
  refine bodyPost_ret (v := _) (by simp [results, Tryd.results82, go_sem]; rfl) rfl ?_
  exact ⟨rfl, by (repeat (first | exact X.refl _ | assumption | refine X.setCell ?_ (by simp [World.size_ext]) _ | refine X.ext ?_ _ | refine X.alloc ?_ _ | refine X.drew ?_))⟩

end Go.Proofs.YtjlooplpjliaiaaDoor
