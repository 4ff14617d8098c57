/- A run by the kernel: the module is right. -/
import Derived.Test.YtilmbaeedbfldaaGreatDoorKN
set_option linter.unusedVariables false
set_option linter.unusedSimpArgs false
set_option linter.unusedSectionVars false
open Go Go.Proofs
set_option maxRecDepth 1000000
namespace T
theorem lookA_low : Ev.lookLow top lookA = true := by kernel_rfl
theorem lookA_run : Ev.lookOk (Ev.pth 1) tab lookA (Ev.call Ev.noGam (Ev.fuOf Tryz.prog) sum0 1000000 108 lookA.args (Ev.lookHp (Ev.pth 1) tab top lookA)) = true := by kernel_rfl
end T
