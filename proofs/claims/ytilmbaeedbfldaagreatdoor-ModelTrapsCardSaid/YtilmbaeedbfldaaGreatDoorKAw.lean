/- A run by the kernel: the chapter's examples. -/
import Derived.Test.YtilmbaeedbfldaaGreatDoorKN
set_option linter.unusedVariables false
set_option linter.unusedSimpArgs false
set_option linter.unusedSectionVars false
open Go Go.Proofs
set_option maxRecDepth 1000000
namespace T
theorem awake_run : Ev.isT (Ev.call Ev.noGam (Ev.fuOf Tryz.prog) sumA 1000000 14 [] base) = true := by kernel_rfl
end T
