/- 'TierKinds' of droverlaw16 returns true for every input, and leaves its arguments as they were. No condition but the card's own (the listed variables stand as the program's text lays them). -/
import Derived.Test.YtgchblfkmgnaeaaGreatDoorTKe
import Derived.Test.YtgchblfkmgnaeaaGreatDoorCards
import Derived.Test.YtgchblfkmgnaeaaGreatDoorTie
import Derived.ProofKit
import Derived.LaidMore
import Derived.OpenShut
import Derived.Stop.Joined
import Derived.SevenTiedAt
import Derived.Below
import Derived.Carry
set_option linter.unusedVariables false
set_option linter.unusedSimpArgs false
set_option linter.unusedSectionVars false
namespace Go.Proofs.YtgchblfkmgnaeaaGreatDoor
open Go.ChangeShapes Go.WideShapes Go.ChangeAt Go.WideMaps Go.WideElems Go.RowKit
set_option maxRecDepth 1000000
set_option maxHeartbeats 40000000
/-- 'TierKinds': the tied card. -/
theorem tierKinds_holds : Rows.TierKindsCardSaid :=
  Claim7.holds_tied_plain_at .later [] [.data, .data, .data, .sentinel, .sentinel, .listed, .data] true (true, "47574b01c651c9a4cf330529d8ceb40ce9c0e18c4ad1adeb076044d705f7299b") true
    tierKinds_row (fun _ h => by cases h) (by as_aux_lemma => kernel_rfl) (fun _ h => by cases h) tierKinds_row_tie rfl ⟨rfl, rfl⟩ (by as_aux_lemma => kernel_rfl) rfl
    (fun f fn hf hfn => by
      obtain rfl : f = 7 := Option.some.inj (tierKinds_named.symm.trans hf) |>.symm
      obtain rfl : fn = Tryz.f7 := (Option.some.inj (Tryz.func7.symm.trans hfn)).symm
      exact ⟨by as_aux_lemma => kernel_rfl, fun j t ht => by
        rw [Tryz.params7] at ht
        have hm : t ∈ [5, 2] := by simpa using Array.mem_of_getElem? ht
        have hall : ([5, 2].all fun u => !Tryz.prog.wantsStandIn u) = true := by as_aux_lemma => kernel_rfl
        exact (show Tryz.prog.wantsStandIn t = false by simpa using List.all_eq_true.1 hall t hm)⟩)
    (by as_aux_lemma => kernel_rfl)
end Go.Proofs.YtgchblfkmgnaeaaGreatDoor
