/-
  DERIVED. GIVEN WITH THE SEED: THE CARDS: each row of YtphaigncbenmmaaGreatDoorRows.lean that lists a variable, with what it lists TIED to the program's text (the seventh form; the later family's looks); each row that meets fmt, with fmt's text TOLD by the authors' own Lean function (tested against real Go, not proved from fmt's source: count such statements apart). THE CARD IS WHAT COUNTS. Prove the row's statement (the work); the ties are given (YtphaigncbenmmaaGreatDoorTie.lean); close each card by the builder's one call (the guide's Derived/Test/ToyasCard.lean, 'card_holds'). Laid BY PROGRAM, IN A SANDBOX (cutbox-door.mjs). By AI agents, Wed Nov 11 2026. No macro, syntax, notation, axiom, sorry.
-/
import Derived.Test.YtphaigncbenmmaaGreatDoorRows
import GoSem.ClaimSeven
namespace Go.Proofs.YtphaigncbenmmaaGreatDoor
namespace Rows

/-- THE TIED CARD OF 'garmentlaw27.RollChecks'. -/
def rollChecksCard : Claim7 := { stood := { row := rollChecksRow, standIns := [], harness := (true, "1af1f80ef5b6d0c5bd2c848858eb92088d522c42f4c052c7041192c091d69c96"), looks := true }, kinds := [], alts := [], laidByText := true, laidKinds := [.data, .data, .data, .data, .sentinel, .sentinel, .pinned], laidTests := true, laidLooks := .later }
def RollChecksCardSaid : Prop := Claim7.holds Tryz.pinned (.plain (OpenSpec.ofChange rollChecksSpec)) rollChecksCard

/-- THE TIED CARD OF 'garmentlaw27.RollParses'. -/
def rollParsesCard : Claim7 := { stood := { row := rollParsesRow, standIns := [], harness := (true, "1af1f80ef5b6d0c5bd2c848858eb92088d522c42f4c052c7041192c091d69c96"), looks := true }, kinds := [], alts := [], laidByText := true, laidKinds := [.data, .data, .data, .data, .sentinel, .sentinel, .pinned], laidTests := true, laidLooks := .later }
def RollParsesCardSaid : Prop := Claim7.holds Tryz.pinned (.plain (OpenSpec.ofChange rollParsesSpec)) rollParsesCard

/-- THE TIED CARD OF 'garmentlaw27.RollPrints'. -/
def rollPrintsCard : Claim7 := { stood := { row := rollPrintsRow, standIns := [], harness := (true, "1af1f80ef5b6d0c5bd2c848858eb92088d522c42f4c052c7041192c091d69c96"), looks := true }, kinds := [], alts := [], laidByText := true, laidKinds := [.data, .data, .data, .data, .sentinel, .sentinel, .pinned], laidTests := true, laidLooks := .later }
def RollPrintsCardSaid : Prop := Claim7.holds Tryz.pinned (.plain (OpenSpec.ofChange rollPrintsSpec)) rollPrintsCard

/-- THE TIED CARD OF 'garmentlaw27.RollIntervals'. -/
def rollIntervalsCard : Claim7 := { stood := { row := rollIntervalsRow, standIns := [], harness := (true, "1af1f80ef5b6d0c5bd2c848858eb92088d522c42f4c052c7041192c091d69c96"), looks := true }, kinds := [], alts := [], laidByText := true, laidKinds := [.data, .data, .data, .data, .sentinel, .sentinel, .pinned], laidTests := true, laidLooks := .later }
def RollIntervalsCardSaid : Prop := Claim7.holds Tryz.pinned (.plain (OpenSpec.ofChange rollIntervalsSpec)) rollIntervalsCard

/-- THE TIED CARD OF 'garmentlaw27.RollStretches'. -/
def rollStretchesCard : Claim7 := { stood := { row := rollStretchesRow, standIns := [], harness := (true, "1af1f80ef5b6d0c5bd2c848858eb92088d522c42f4c052c7041192c091d69c96"), looks := true }, kinds := [], alts := [], laidByText := true, laidKinds := [.data, .data, .data, .data, .sentinel, .sentinel, .pinned], laidTests := true, laidLooks := .later }
def RollStretchesCardSaid : Prop := Claim7.holds Tryz.pinned (.plain (OpenSpec.ofChange rollStretchesSpec)) rollStretchesCard

/-- THE TIED CARD OF 'garmentlaw27.RollOrder'. -/
def rollOrderCard : Claim7 := { stood := { row := rollOrderRow, standIns := [], harness := (true, "1af1f80ef5b6d0c5bd2c848858eb92088d522c42f4c052c7041192c091d69c96"), looks := true }, kinds := [], alts := [], laidByText := true, laidKinds := [.data, .data, .data, .data, .sentinel, .sentinel, .pinned], laidTests := true, laidLooks := .later }
def RollOrderCardSaid : Prop := Claim7.holds Tryz.pinned (.plain (OpenSpec.ofChange rollOrderSpec)) rollOrderCard

/-- THE SECOND FORM's CARD OF 'garmentlaw27.RollChecks'. -/
def rollChecksUptoCard : Claim7 := { stood := { row := rollChecksUptoRow, standIns := [], harness := (true, "1af1f80ef5b6d0c5bd2c848858eb92088d522c42f4c052c7041192c091d69c96"), looks := true }, kinds := [], alts := [], laidByText := true, laidKinds := [.data, .data, .data, .data, .sentinel, .sentinel, .pinned], laidTests := true, laidLooks := .later }
def RollChecksUptoCardSaid : Prop := Claim7.holds Tryz.pinned (.plain (OpenSpec.upto rollChecksSpec)) rollChecksUptoCard

/-- THE SECOND FORM's CARD OF 'garmentlaw27.RollParses'. -/
def rollParsesUptoCard : Claim7 := { stood := { row := rollParsesUptoRow, standIns := [], harness := (true, "1af1f80ef5b6d0c5bd2c848858eb92088d522c42f4c052c7041192c091d69c96"), looks := true }, kinds := [], alts := [], laidByText := true, laidKinds := [.data, .data, .data, .data, .sentinel, .sentinel, .pinned], laidTests := true, laidLooks := .later }
def RollParsesUptoCardSaid : Prop := Claim7.holds Tryz.pinned (.plain (OpenSpec.upto rollParsesSpec)) rollParsesUptoCard

/-- THE SECOND FORM's CARD OF 'garmentlaw27.RollPrints'. -/
def rollPrintsUptoCard : Claim7 := { stood := { row := rollPrintsUptoRow, standIns := [], harness := (true, "1af1f80ef5b6d0c5bd2c848858eb92088d522c42f4c052c7041192c091d69c96"), looks := true }, kinds := [], alts := [], laidByText := true, laidKinds := [.data, .data, .data, .data, .sentinel, .sentinel, .pinned], laidTests := true, laidLooks := .later }
def RollPrintsUptoCardSaid : Prop := Claim7.holds Tryz.pinned (.plain (OpenSpec.upto rollPrintsSpec)) rollPrintsUptoCard

/-- THE SECOND FORM's CARD OF 'garmentlaw27.RollIntervals'. -/
def rollIntervalsUptoCard : Claim7 := { stood := { row := rollIntervalsUptoRow, standIns := [], harness := (true, "1af1f80ef5b6d0c5bd2c848858eb92088d522c42f4c052c7041192c091d69c96"), looks := true }, kinds := [], alts := [], laidByText := true, laidKinds := [.data, .data, .data, .data, .sentinel, .sentinel, .pinned], laidTests := true, laidLooks := .later }
def RollIntervalsUptoCardSaid : Prop := Claim7.holds Tryz.pinned (.plain (OpenSpec.upto rollIntervalsSpec)) rollIntervalsUptoCard

/-- THE SECOND FORM's CARD OF 'garmentlaw27.RollStretches'. -/
def rollStretchesUptoCard : Claim7 := { stood := { row := rollStretchesUptoRow, standIns := [], harness := (true, "1af1f80ef5b6d0c5bd2c848858eb92088d522c42f4c052c7041192c091d69c96"), looks := true }, kinds := [], alts := [], laidByText := true, laidKinds := [.data, .data, .data, .data, .sentinel, .sentinel, .pinned], laidTests := true, laidLooks := .later }
def RollStretchesUptoCardSaid : Prop := Claim7.holds Tryz.pinned (.plain (OpenSpec.upto rollStretchesSpec)) rollStretchesUptoCard

/-- THE SECOND FORM's CARD OF 'garmentlaw27.RollOrder'. -/
def rollOrderUptoCard : Claim7 := { stood := { row := rollOrderUptoRow, standIns := [], harness := (true, "1af1f80ef5b6d0c5bd2c848858eb92088d522c42f4c052c7041192c091d69c96"), looks := true }, kinds := [], alts := [], laidByText := true, laidKinds := [.data, .data, .data, .data, .sentinel, .sentinel, .pinned], laidTests := true, laidLooks := .later }
def RollOrderUptoCardSaid : Prop := Claim7.holds Tryz.pinned (.plain (OpenSpec.upto rollOrderSpec)) rollOrderUptoCard
end Rows
end Go.Proofs.YtphaigncbenmmaaGreatDoor
