/- 'ModelTraps' of droverlaw25 returns true for every input, and leaves its arguments as they were. No condition but the card's own (the listed variables stand as the program's text lays them). -/
import Derived.Test.YtilmbaeedbfldaaGreatDoorMTe
import Derived.Test.YtilmbaeedbfldaaGreatDoorCards
import Derived.Test.YtilmbaeedbfldaaGreatDoorTie
import Derived.ProofKit
import Derived.LaidMore
import Derived.OpenShut
import Derived.Stop.Joined
import Derived.SevenTiedAt
import Derived.Below
import Derived.Carry
set_option linter.unusedVariables false
set_option linter.unusedSimpArgs false
set_option linter.unusedSectionVars false
namespace Go.Proofs.YtilmbaeedbfldaaGreatDoor
open Go.ChangeShapes Go.WideShapes Go.ChangeAt Go.WideMaps Go.WideElems Go.RowKit
set_option maxRecDepth 1000000
set_option maxHeartbeats 40000000
/-- 'ModelTraps': the tied card. -/
theorem modelTraps_holds : Rows.ModelTrapsCardSaid :=
  Claim7.holds_tied_plain_at .later [] [.data, .data, .data, .sentinel, .sentinel, .listed, .data] true (true, "e99925bf7eabcad57d024538d73ac88d0e90cbb40e67443fe61ca1aa2e499139") true
    modelTraps_row (fun _ h => by cases h) (by as_aux_lemma => kernel_rfl) (fun _ h => by cases h) modelTraps_row_tie rfl ⟨rfl, rfl⟩ (by as_aux_lemma => kernel_rfl) rfl
    (fun f fn hf hfn => by
      obtain rfl : f = 4 := Option.some.inj (modelTraps_named.symm.trans hf) |>.symm
      obtain rfl : fn = Tryz.f4 := (Option.some.inj (Tryz.func4.symm.trans hfn)).symm
      exact ⟨by as_aux_lemma => kernel_rfl, fun j t ht => by
        rw [Tryz.params4] at ht
        have hm : t ∈ [5, 2] := by simpa using Array.mem_of_getElem? ht
        have hall : ([5, 2].all fun u => !Tryz.prog.wantsStandIn u) = true := by as_aux_lemma => kernel_rfl
        exact (show Tryz.prog.wantsStandIn t = false by simpa using List.all_eq_true.1 hall t hm)⟩)
    (by as_aux_lemma => kernel_rfl)
end Go.Proofs.YtilmbaeedbfldaaGreatDoor
