/- 'ModelTraps': the row. -/
import Derived.Test.YtilmbaeedbfldaaGreatDoorMTc
import Derived.Test.YtilmbaeedbfldaaGreatDoorMTd
import Derived.ProofKit
import Derived.LaidMore
import Derived.OpenShut
import Derived.Stop.Joined
import Derived.SevenTiedAt
import Derived.Below
import Derived.Carry
set_option linter.unusedVariables false
set_option linter.unusedSimpArgs false
set_option linter.unusedSectionVars false
namespace Go.Proofs.YtilmbaeedbfldaaGreatDoor
open Go.ChangeShapes Go.WideShapes Go.ChangeAt Go.WideMaps Go.WideElems Go.RowKit
set_option maxRecDepth 1000000
set_option maxHeartbeats 40000000
theorem modelTraps_named : Tryz.pinned.checked.prog.funcNamed Rows.modelTrapsRow.func = some 4 := by kernel_rfl
theorem modelTraps_inst : Tryz.f4.isInstance Tryz.pinned.checked.prog Rows.modelTrapsRow.origin Rows.modelTrapsRow.targs := of_decide_eq_true (by kernel_rfl)
theorem modelTraps_wrap : Tryz.f4.isWrapper Tryz.pinned.checked.prog Rows.modelTrapsRow.wrapper Rows.modelTrapsRow.mainSum := by
  unfold Func.isWrapper; first | (rw [if_pos (by decide +kernel)]; kernel_rfl) | (rw [if_neg (by decide +kernel)]; exact ⟨rfl, rfl⟩)
theorem modelTraps_row : Rows.ModelTrapsSaid :=
  OpenClaim.holds_of_wide 4 Tryz.f4 rfl rfl rfl rfl rfl rfl rfl ⟨rfl, rfl, rfl, rfl, rfl⟩ rfl rfl rfl rfl rfl modelTraps_named Tryz.func4 modelTraps_facts modelTraps_inst modelTraps_wrap
    (fun os started H enc _ => modelTraps_lifted os started H enc)
end Go.Proofs.YtilmbaeedbfldaaGreatDoor
