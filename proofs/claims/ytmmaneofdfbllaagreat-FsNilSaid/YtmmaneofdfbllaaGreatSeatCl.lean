/-
  SeatCl: the row's closed facts. No condition.
-/
import Derived.Test.YtmmaneofdfbllaaGreatRows
import Derived.ProofKit
set_option linter.unusedVariables false
set_option linter.unusedSimpArgs false
set_option linter.unusedSectionVars false
namespace Go.Proofs.YtmmaneofdfbllaaGreat.fsNil
set_option maxHeartbeats 100000000 in
theorem closed : joinedFacts Tryz.prog 3 Tryz.f3 Rows.fsNilSpec Rows.fsNilRow = true := by
  unfold joinedFacts
  simp only [Bool.and_eq_true]
  and_intros <;> as_aux_lemma => kernel_rfl
end Go.Proofs.YtmmaneofdfbllaaGreat.fsNil
