/-
  SeatK4: known comes to its end. No condition.
-/
import Derived.Test.YtmmaneofdfbllaaGreatSeat
set_option linter.unusedVariables false
set_option linter.unusedSimpArgs false
set_option linter.unusedSectionVars false
namespace Go.Ev
theorem evalKnown : checks [mFormat,mMount] mKnown = true := by kernel_rfl
end Go.Ev
