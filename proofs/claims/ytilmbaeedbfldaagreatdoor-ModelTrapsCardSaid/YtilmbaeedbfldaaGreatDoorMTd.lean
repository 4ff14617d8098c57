/- 'ModelTraps': the row's closed facts, one by one. -/
import Derived.Test.YtilmbaeedbfldaaGreatDoorRows
import Derived.ProofKit
import Derived.LaidMore
import Derived.OpenShut
import Derived.Stop.Joined
import Derived.SevenTiedAt
import Derived.Below
import Derived.Carry
set_option linter.unusedVariables false
set_option linter.unusedSimpArgs false
set_option linter.unusedSectionVars false
namespace Go.Proofs.YtilmbaeedbfldaaGreatDoor
open Go.ChangeShapes Go.WideShapes Go.ChangeAt Go.WideMaps Go.WideElems Go.RowKit
set_option maxRecDepth 1000000
set_option maxHeartbeats 40000000
theorem modelTraps_facts : joinedFacts Tryz.pinned.checked.prog 4 Tryz.f4 Rows.modelTrapsSpec Rows.modelTrapsRow = true := by
  unfold joinedFacts
  simp only [Bool.and_eq_true]
  repeat' apply And.intro
  all_goals (as_aux_lemma => kernel_rfl)
end Go.Proofs.YtilmbaeedbfldaaGreatDoor
