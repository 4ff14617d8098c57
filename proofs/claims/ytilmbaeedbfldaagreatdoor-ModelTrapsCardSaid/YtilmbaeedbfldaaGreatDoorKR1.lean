/- A run by the kernel: so many messages ahead. -/
import Derived.Test.YtilmbaeedbfldaaGreatDoorKN
set_option linter.unusedVariables false
set_option linter.unusedSimpArgs false
set_option linter.unusedSectionVars false
open Go Go.Proofs
set_option maxRecDepth 1000000
namespace T
theorem run1 : Ev.isT (Ev.call (Ev.gamOf [] (row6 1)) (Ev.fuOf Tryz.prog) sumT 1000000 4 [.opq 0, .opq 1] base) = true := by kernel_rfl
end T
