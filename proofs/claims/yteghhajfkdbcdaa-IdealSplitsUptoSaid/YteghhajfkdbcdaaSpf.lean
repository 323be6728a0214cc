/- IdealSplits: the row's closed facts. -/
import Derived.Test.YteghhajfkdbcdaaRows
import Derived.WalkKit
import Derived.ProofKit
import Derived.OpenShut
import Derived.ChangeOld
namespace Go.Proofs.Yteghhajfkdbcdaa
open Go.ChangeShapes Go.WideShapes Go.ChangeAt Go.RowKit
set_option linter.unusedVariables false

theorem and_mk' {a b : Bool} (h1 : a = true) (h2 : b = true) : (a && b) = true := by rw [h1, h2]; rfl
set_option maxHeartbeats 8000000 in
theorem sp_closed : joinedFacts Try.pinned.checked.prog 8 Try.f8 (Rows.OpenSpec.upto Rows.idealSplitsSpec).bare Rows.idealSplitsUptoRow = true := by
  unfold joinedFacts
  repeat' (with_reducible refine and_mk' ?_ ?_)
  all_goals (as_aux_lemma => kernel_rfl)
end Go.Proofs.Yteghhajfkdbcdaa
