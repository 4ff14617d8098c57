/-
  DERIVED. GIVEN WITH THE SEED: THE CARDS: each row of YtgchblfkmgnaeaaGreatDoorRows.lean that lists a variable, with what it lists TIED to the program's text (the seventh form; the later family's looks); each row that meets fmt, with fmt's text TOLD by the authors' own Lean function (tested against real Go, not proved from fmt's source: count such statements apart). THE CARD IS WHAT COUNTS. Prove the row's statement (the work); the ties are given (YtgchblfkmgnaeaaGreatDoorTie.lean); close each card by the builder's one call (the guide's Derived/Test/ToyasCard.lean, 'card_holds'). Laid BY PROGRAM, IN A SANDBOX (cutbox-door.mjs). By AI agents, Wed Nov 11 2026. No macro, syntax, notation, axiom, sorry.
-/
import Derived.Test.YtgchblfkmgnaeaaGreatDoorRows
import GoSem.ClaimSeven
namespace Go.Proofs.YtgchblfkmgnaeaaGreatDoor
namespace Rows

/-- THE TIED CARD OF 'droverlaw16.TierTells'. -/
def tierTellsCard : Claim7 := { stood := { row := tierTellsRow, standIns := [], harness := (true, "47574b01c651c9a4cf330529d8ceb40ce9c0e18c4ad1adeb076044d705f7299b"), looks := true }, kinds := [], alts := [], laidByText := true, laidKinds := [.data, .data, .data, .sentinel, .sentinel, .listed, .data], laidTests := true, laidLooks := .later }
def TierTellsCardSaid : Prop := Claim7.holds Tryz.pinned (.plain (OpenSpec.ofChange tierTellsSpec)) tierTellsCard

/-- THE TIED CARD OF 'droverlaw16.TierSame'. -/
def tierSameCard : Claim7 := { stood := { row := tierSameRow, standIns := [], harness := (true, "47574b01c651c9a4cf330529d8ceb40ce9c0e18c4ad1adeb076044d705f7299b"), looks := true }, kinds := [], alts := [], laidByText := true, laidKinds := [.data, .data, .data, .sentinel, .sentinel, .listed, .data], laidTests := true, laidLooks := .later }
def TierSameCardSaid : Prop := Claim7.holds Tryz.pinned (.plain (OpenSpec.ofChange tierSameSpec)) tierSameCard

/-- THE TIED CARD OF 'droverlaw16.TierUnfit'. -/
def tierUnfitCard : Claim7 := { stood := { row := tierUnfitRow, standIns := [], harness := (true, "47574b01c651c9a4cf330529d8ceb40ce9c0e18c4ad1adeb076044d705f7299b"), looks := true }, kinds := [], alts := [], laidByText := true, laidKinds := [.data, .data, .data, .sentinel, .sentinel, .listed, .data], laidTests := true, laidLooks := .later }
def TierUnfitCardSaid : Prop := Claim7.holds Tryz.pinned (.plain (OpenSpec.ofChange tierUnfitSpec)) tierUnfitCard

/-- THE TIED CARD OF 'droverlaw16.TierFuel'. -/
def tierFuelCard : Claim7 := { stood := { row := tierFuelRow, standIns := [], harness := (true, "47574b01c651c9a4cf330529d8ceb40ce9c0e18c4ad1adeb076044d705f7299b"), looks := true }, kinds := [], alts := [], laidByText := true, laidKinds := [.data, .data, .data, .sentinel, .sentinel, .listed, .data], laidTests := true, laidLooks := .later }
def TierFuelCardSaid : Prop := Claim7.holds Tryz.pinned (.plain (OpenSpec.ofChange tierFuelSpec)) tierFuelCard

/-- THE TIED CARD OF 'droverlaw16.TierKinds'. -/
def tierKindsCard : Claim7 := { stood := { row := tierKindsRow, standIns := [], harness := (true, "47574b01c651c9a4cf330529d8ceb40ce9c0e18c4ad1adeb076044d705f7299b"), looks := true }, kinds := [], alts := [], laidByText := true, laidKinds := [.data, .data, .data, .sentinel, .sentinel, .listed, .data], laidTests := true, laidLooks := .later }
def TierKindsCardSaid : Prop := Claim7.holds Tryz.pinned (.plain (OpenSpec.ofChange tierKindsSpec)) tierKindsCard

/-- THE SECOND FORM's CARD OF 'droverlaw16.TierTells'. -/
def tierTellsUptoCard : Claim7 := { stood := { row := tierTellsUptoRow, standIns := [], harness := (true, "47574b01c651c9a4cf330529d8ceb40ce9c0e18c4ad1adeb076044d705f7299b"), looks := true }, kinds := [], alts := [], laidByText := true, laidKinds := [.data, .data, .data, .sentinel, .sentinel, .listed, .data], laidTests := true, laidLooks := .later }
def TierTellsUptoCardSaid : Prop := Claim7.holds Tryz.pinned (.plain (OpenSpec.upto tierTellsSpec)) tierTellsUptoCard

/-- THE SECOND FORM's CARD OF 'droverlaw16.TierSame'. -/
def tierSameUptoCard : Claim7 := { stood := { row := tierSameUptoRow, standIns := [], harness := (true, "47574b01c651c9a4cf330529d8ceb40ce9c0e18c4ad1adeb076044d705f7299b"), looks := true }, kinds := [], alts := [], laidByText := true, laidKinds := [.data, .data, .data, .sentinel, .sentinel, .listed, .data], laidTests := true, laidLooks := .later }
def TierSameUptoCardSaid : Prop := Claim7.holds Tryz.pinned (.plain (OpenSpec.upto tierSameSpec)) tierSameUptoCard

/-- THE SECOND FORM's CARD OF 'droverlaw16.TierUnfit'. -/
def tierUnfitUptoCard : Claim7 := { stood := { row := tierUnfitUptoRow, standIns := [], harness := (true, "47574b01c651c9a4cf330529d8ceb40ce9c0e18c4ad1adeb076044d705f7299b"), looks := true }, kinds := [], alts := [], laidByText := true, laidKinds := [.data, .data, .data, .sentinel, .sentinel, .listed, .data], laidTests := true, laidLooks := .later }
def TierUnfitUptoCardSaid : Prop := Claim7.holds Tryz.pinned (.plain (OpenSpec.upto tierUnfitSpec)) tierUnfitUptoCard

/-- THE SECOND FORM's CARD OF 'droverlaw16.TierFuel'. -/
def tierFuelUptoCard : Claim7 := { stood := { row := tierFuelUptoRow, standIns := [], harness := (true, "47574b01c651c9a4cf330529d8ceb40ce9c0e18c4ad1adeb076044d705f7299b"), looks := true }, kinds := [], alts := [], laidByText := true, laidKinds := [.data, .data, .data, .sentinel, .sentinel, .listed, .data], laidTests := true, laidLooks := .later }
def TierFuelUptoCardSaid : Prop := Claim7.holds Tryz.pinned (.plain (OpenSpec.upto tierFuelSpec)) tierFuelUptoCard

/-- THE SECOND FORM's CARD OF 'droverlaw16.TierKinds'. -/
def tierKindsUptoCard : Claim7 := { stood := { row := tierKindsUptoRow, standIns := [], harness := (true, "47574b01c651c9a4cf330529d8ceb40ce9c0e18c4ad1adeb076044d705f7299b"), looks := true }, kinds := [], alts := [], laidByText := true, laidKinds := [.data, .data, .data, .sentinel, .sentinel, .listed, .data], laidTests := true, laidLooks := .later }
def TierKindsUptoCardSaid : Prop := Claim7.holds Tryz.pinned (.plain (OpenSpec.upto tierKindsSpec)) tierKindsUptoCard
end Rows
end Go.Proofs.YtgchblfkmgnaeaaGreatDoor
