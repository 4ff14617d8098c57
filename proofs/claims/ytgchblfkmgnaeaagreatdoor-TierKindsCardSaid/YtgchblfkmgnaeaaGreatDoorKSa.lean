/- A run by the kernel: the statement's module. -/
import Derived.Test.YtgchblfkmgnaeaaGreatDoorKN
set_option linter.unusedVariables false
set_option linter.unusedSimpArgs false
set_option linter.unusedSectionVars false
open Go Go.Proofs
set_option maxRecDepth 1000000
namespace T
theorem snapA_run : Ev.snapOk (Ev.pth 9) snapA (Ev.call Ev.noGam (Ev.fuOf Tryz.prog) sum0 1000000 21 snapA.args base) = true := by kernel_rfl
end T
