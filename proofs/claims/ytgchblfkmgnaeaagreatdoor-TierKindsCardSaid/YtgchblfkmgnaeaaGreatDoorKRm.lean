/- A run by the kernel: the greatest number. -/
import Derived.Test.YtgchblfkmgnaeaaGreatDoorKN
set_option linter.unusedVariables false
set_option linter.unusedSimpArgs false
set_option linter.unusedSectionVars false
open Go Go.Proofs
set_option maxRecDepth 1000000
namespace T
theorem runm : Ev.isT (Ev.call (Ev.gamOf [] (row5 0)) (Ev.fuOf Tryz.prog) sumT 1000000 7 [.opq 0, i64 9223372036854775807] base) = true := by kernel_rfl
end T
