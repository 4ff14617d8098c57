/- A run by the kernel: the module of the examples. -/
import Derived.Test.YtgchblfkmgnaeaaGreatDoorKN
set_option linter.unusedVariables false
set_option linter.unusedSimpArgs false
set_option linter.unusedSectionVars false
open Go Go.Proofs
set_option maxRecDepth 1000000
namespace T
theorem snapB_run : Ev.snapOk (Ev.pth 9) snapB (Ev.call Ev.noGam (Ev.fuOf Tryz.prog) sum0 1000000 21 snapB.args base) = true := by kernel_rfl
end T
