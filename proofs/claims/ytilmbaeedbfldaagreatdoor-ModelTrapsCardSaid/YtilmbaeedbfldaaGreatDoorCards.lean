/-
  DERIVED. GIVEN WITH THE SEED: THE CARDS: each row of YtilmbaeedbfldaaGreatDoorRows.lean that lists a variable, with what it lists TIED to the program's text (the seventh form; the later family's looks); each row that meets fmt, with fmt's text TOLD by the authors' own Lean function (tested against real Go, not proved from fmt's source: count such statements apart). THE CARD IS WHAT COUNTS. Prove the row's statement (the work); the ties are given (YtilmbaeedbfldaaGreatDoorTie.lean); close each card by the builder's one call (the guide's Derived/Test/ToyasCard.lean, 'card_holds'). Laid BY PROGRAM, IN A SANDBOX (cutbox-door.mjs). By AI agents, Wed Nov 11 2026. No macro, syntax, notation, axiom, sorry.
-/
import Derived.Test.YtilmbaeedbfldaaGreatDoorRows
import GoSem.ClaimSeven
namespace Go.Proofs.YtilmbaeedbfldaaGreatDoor
namespace Rows

/-- THE TIED CARD OF 'droverlaw25.ModelOrder'. -/
def modelOrderCard : Claim7 := { stood := { row := modelOrderRow, standIns := [], harness := (true, "e99925bf7eabcad57d024538d73ac88d0e90cbb40e67443fe61ca1aa2e499139"), looks := true }, kinds := [], alts := [], laidByText := true, laidKinds := [.data, .data, .data, .sentinel, .sentinel, .listed, .data], laidTests := true, laidLooks := .later }
def ModelOrderCardSaid : Prop := Claim7.holds Tryz.pinned (.plain (OpenSpec.ofChange modelOrderSpec)) modelOrderCard

/-- THE TIED CARD OF 'droverlaw25.ModelTraps'. -/
def modelTrapsCard : Claim7 := { stood := { row := modelTrapsRow, standIns := [], harness := (true, "e99925bf7eabcad57d024538d73ac88d0e90cbb40e67443fe61ca1aa2e499139"), looks := true }, kinds := [], alts := [], laidByText := true, laidKinds := [.data, .data, .data, .sentinel, .sentinel, .listed, .data], laidTests := true, laidLooks := .later }
def ModelTrapsCardSaid : Prop := Claim7.holds Tryz.pinned (.plain (OpenSpec.ofChange modelTrapsSpec)) modelTrapsCard

/-- THE TIED CARD OF 'droverlaw25.ModelNobody'. -/
def modelNobodyCard : Claim7 := { stood := { row := modelNobodyRow, standIns := [], harness := (true, "e99925bf7eabcad57d024538d73ac88d0e90cbb40e67443fe61ca1aa2e499139"), looks := true }, kinds := [], alts := [], laidByText := true, laidKinds := [.data, .data, .data, .sentinel, .sentinel, .listed, .data], laidTests := true, laidLooks := .later }
def ModelNobodyCardSaid : Prop := Claim7.holds Tryz.pinned (.plain (OpenSpec.ofChange modelNobodySpec)) modelNobodyCard

/-- THE TIED CARD OF 'droverlaw25.ModelTells'. -/
def modelTellsCard : Claim7 := { stood := { row := modelTellsRow, standIns := [], harness := (true, "e99925bf7eabcad57d024538d73ac88d0e90cbb40e67443fe61ca1aa2e499139"), looks := true }, kinds := [], alts := [], laidByText := true, laidKinds := [.data, .data, .data, .sentinel, .sentinel, .listed, .data], laidTests := true, laidLooks := .later }
def ModelTellsCardSaid : Prop := Claim7.holds Tryz.pinned (.plain (OpenSpec.ofChange modelTellsSpec)) modelTellsCard

/-- THE TIED CARD OF 'droverlaw25.ModelNone'. -/
def modelNoneCard : Claim7 := { stood := { row := modelNoneRow, standIns := [], harness := (true, "e99925bf7eabcad57d024538d73ac88d0e90cbb40e67443fe61ca1aa2e499139"), looks := true }, kinds := [], alts := [], laidByText := true, laidKinds := [.data, .data, .data, .sentinel, .sentinel, .listed, .data], laidTests := true, laidLooks := .later }
def ModelNoneCardSaid : Prop := Claim7.holds Tryz.pinned (.plain (OpenSpec.ofChange modelNoneSpec)) modelNoneCard

/-- THE SECOND FORM's CARD OF 'droverlaw25.ModelOrder'. -/
def modelOrderUptoCard : Claim7 := { stood := { row := modelOrderUptoRow, standIns := [], harness := (true, "e99925bf7eabcad57d024538d73ac88d0e90cbb40e67443fe61ca1aa2e499139"), looks := true }, kinds := [], alts := [], laidByText := true, laidKinds := [.data, .data, .data, .sentinel, .sentinel, .listed, .data], laidTests := true, laidLooks := .later }
def ModelOrderUptoCardSaid : Prop := Claim7.holds Tryz.pinned (.plain (OpenSpec.upto modelOrderSpec)) modelOrderUptoCard

/-- THE SECOND FORM's CARD OF 'droverlaw25.ModelTraps'. -/
def modelTrapsUptoCard : Claim7 := { stood := { row := modelTrapsUptoRow, standIns := [], harness := (true, "e99925bf7eabcad57d024538d73ac88d0e90cbb40e67443fe61ca1aa2e499139"), looks := true }, kinds := [], alts := [], laidByText := true, laidKinds := [.data, .data, .data, .sentinel, .sentinel, .listed, .data], laidTests := true, laidLooks := .later }
def ModelTrapsUptoCardSaid : Prop := Claim7.holds Tryz.pinned (.plain (OpenSpec.upto modelTrapsSpec)) modelTrapsUptoCard

/-- THE SECOND FORM's CARD OF 'droverlaw25.ModelNobody'. -/
def modelNobodyUptoCard : Claim7 := { stood := { row := modelNobodyUptoRow, standIns := [], harness := (true, "e99925bf7eabcad57d024538d73ac88d0e90cbb40e67443fe61ca1aa2e499139"), looks := true }, kinds := [], alts := [], laidByText := true, laidKinds := [.data, .data, .data, .sentinel, .sentinel, .listed, .data], laidTests := true, laidLooks := .later }
def ModelNobodyUptoCardSaid : Prop := Claim7.holds Tryz.pinned (.plain (OpenSpec.upto modelNobodySpec)) modelNobodyUptoCard

/-- THE SECOND FORM's CARD OF 'droverlaw25.ModelTells'. -/
def modelTellsUptoCard : Claim7 := { stood := { row := modelTellsUptoRow, standIns := [], harness := (true, "e99925bf7eabcad57d024538d73ac88d0e90cbb40e67443fe61ca1aa2e499139"), looks := true }, kinds := [], alts := [], laidByText := true, laidKinds := [.data, .data, .data, .sentinel, .sentinel, .listed, .data], laidTests := true, laidLooks := .later }
def ModelTellsUptoCardSaid : Prop := Claim7.holds Tryz.pinned (.plain (OpenSpec.upto modelTellsSpec)) modelTellsUptoCard

/-- THE SECOND FORM's CARD OF 'droverlaw25.ModelNone'. -/
def modelNoneUptoCard : Claim7 := { stood := { row := modelNoneUptoRow, standIns := [], harness := (true, "e99925bf7eabcad57d024538d73ac88d0e90cbb40e67443fe61ca1aa2e499139"), looks := true }, kinds := [], alts := [], laidByText := true, laidKinds := [.data, .data, .data, .sentinel, .sentinel, .listed, .data], laidTests := true, laidLooks := .later }
def ModelNoneUptoCardSaid : Prop := Claim7.holds Tryz.pinned (.plain (OpenSpec.upto modelNoneSpec)) modelNoneUptoCard
end Rows
end Go.Proofs.YtilmbaeedbfldaaGreatDoor
