/-
  SeatK3: a second Mount comes to its end. No condition.
-/
import Derived.Test.YtmmaneofdfbllaaGreatSeat
set_option linter.unusedVariables false
set_option linter.unusedSimpArgs false
set_option linter.unusedSectionVars false
namespace Go.Ev
theorem evalMount2 : checks [] mMount2 = true := by kernel_rfl
end Go.Ev
