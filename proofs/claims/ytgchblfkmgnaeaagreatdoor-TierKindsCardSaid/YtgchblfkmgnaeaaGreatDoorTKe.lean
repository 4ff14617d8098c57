/- 'TierKinds': the row. -/
import Derived.Test.YtgchblfkmgnaeaaGreatDoorTKc
import Derived.Test.YtgchblfkmgnaeaaGreatDoorTKd
import Derived.ProofKit
import Derived.LaidMore
import Derived.OpenShut
import Derived.Stop.Joined
import Derived.SevenTiedAt
import Derived.Below
import Derived.Carry
set_option linter.unusedVariables false
set_option linter.unusedSimpArgs false
set_option linter.unusedSectionVars false
namespace Go.Proofs.YtgchblfkmgnaeaaGreatDoor
open Go.ChangeShapes Go.WideShapes Go.ChangeAt Go.WideMaps Go.WideElems Go.RowKit
set_option maxRecDepth 1000000
set_option maxHeartbeats 40000000
theorem tierKinds_named : Tryz.pinned.checked.prog.funcNamed Rows.tierKindsRow.func = some 7 := by kernel_rfl
theorem tierKinds_inst : Tryz.f7.isInstance Tryz.pinned.checked.prog Rows.tierKindsRow.origin Rows.tierKindsRow.targs := of_decide_eq_true (by kernel_rfl)
theorem tierKinds_wrap : Tryz.f7.isWrapper Tryz.pinned.checked.prog Rows.tierKindsRow.wrapper Rows.tierKindsRow.mainSum := by
  unfold Func.isWrapper; first | (rw [if_pos (by decide +kernel)]; kernel_rfl) | (rw [if_neg (by decide +kernel)]; exact ⟨rfl, rfl⟩)
theorem tierKinds_row : Rows.TierKindsSaid :=
  OpenClaim.holds_of_wide 7 Tryz.f7 rfl rfl rfl rfl rfl rfl rfl ⟨rfl, rfl, rfl, rfl, rfl⟩ rfl rfl rfl rfl rfl tierKinds_named Tryz.func7 tierKinds_facts tierKinds_inst tierKinds_wrap
    (fun os started H enc _ => tierKinds_lifted os started H enc)
end Go.Proofs.YtgchblfkmgnaeaaGreatDoor
