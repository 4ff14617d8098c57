/- 'TierKinds': the row's closed facts, one by one. -/
import Derived.Test.YtgchblfkmgnaeaaGreatDoorRows
import Derived.ProofKit
import Derived.LaidMore
import Derived.OpenShut
import Derived.Stop.Joined
import Derived.SevenTiedAt
import Derived.Below
import Derived.Carry
set_option linter.unusedVariables false
set_option linter.unusedSimpArgs false
set_option linter.unusedSectionVars false
namespace Go.Proofs.YtgchblfkmgnaeaaGreatDoor
open Go.ChangeShapes Go.WideShapes Go.ChangeAt Go.WideMaps Go.WideElems Go.RowKit
set_option maxRecDepth 1000000
set_option maxHeartbeats 40000000
theorem tierKinds_facts : joinedFacts Tryz.pinned.checked.prog 7 Tryz.f7 Rows.tierKindsSpec Rows.tierKindsRow = true := by
  unfold joinedFacts
  simp only [Bool.and_eq_true]
  repeat' apply And.intro
  all_goals (as_aux_lemma => kernel_rfl)
end Go.Proofs.YtgchblfkmgnaeaaGreatDoor
