/- A run by the kernel: the keywords, parted. -/
import Derived.Test.YtilmbaeedbfldaaGreatDoorKN
set_option linter.unusedVariables false
set_option linter.unusedSimpArgs false
set_option linter.unusedSectionVars false
open Go Go.Proofs
set_option maxRecDepth 1000000
namespace T
theorem memo_run : Ev.memoOk (Ev.pth 9) cells (Ev.call Ev.noGam (Ev.fuOf Tryz.prog) Ev.noSum 1000000 271 [.str 2185221350562416700259503984597613938818086623417550880180994822742809762548533966315745204021342574552734457971038836543780731598553440178691952937928637319183745638647878699255442510551405248114620458334107030807393 90] base) = true := by kernel_rfl
end T
