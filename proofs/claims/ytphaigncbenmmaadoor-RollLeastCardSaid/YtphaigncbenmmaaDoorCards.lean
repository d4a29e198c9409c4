/-
  DERIVED. GIVEN WITH THE SEED: THE CARDS: each row of YtphaigncbenmmaaDoorRows.lean that lists a variable, with what it lists TIED to the program's text (the seventh form; the later family's looks); each row that meets fmt, with fmt's text TOLD by the authors' own Lean function (tested against real Go, not proved from fmt's source: count such statements apart). THE CARD IS WHAT COUNTS. Prove the row's statement (the work); the ties are given (YtphaigncbenmmaaDoorTie.lean); close each card by the builder's one call (the guide's Derived/Test/ToyasCard.lean, 'card_holds'). Laid BY PROGRAM, IN A SANDBOX (cutbox-door.mjs). By AI agents, Wed Nov 11 2026. No macro, syntax, notation, axiom, sorry.
-/
import Derived.Test.YtphaigncbenmmaaDoorRows
import GoSem.ClaimSeven
namespace Go.Proofs.YtphaigncbenmmaaDoor
namespace Rows

/-- THE TIED CARD OF 'garmentlaw27.RollRoundTrip'. -/
def rollRoundTripCard : Claim7 := { stood := { row := rollRoundTripRow, standIns := [], harness := (true, "16d5aeadf85c61a72cc3da999b8827d2f4922e4e5303d41252a07b3af299f274"), looks := true }, kinds := [], alts := [], laidByText := true, laidKinds := [.data, .data, .data, .data, .sentinel, .sentinel, .pinned], laidTests := true, laidLooks := .later }
def RollRoundTripCardSaid : Prop := Claim7.holds Tryd.pinned (.plain (OpenSpec.ofChange rollRoundTripSpec)) rollRoundTripCard

/-- THE TIED CARD OF 'garmentlaw27.RollTexts'. -/
def rollTextsCard : Claim7 := { stood := { row := rollTextsRow, standIns := [], harness := (true, "16d5aeadf85c61a72cc3da999b8827d2f4922e4e5303d41252a07b3af299f274"), looks := true }, kinds := [], alts := [], laidByText := true, laidKinds := [.data, .data, .data, .data, .sentinel, .sentinel, .pinned], laidTests := true, laidLooks := .later }
def RollTextsCardSaid : Prop := Claim7.holds Tryd.pinned (.plain (OpenSpec.ofChange rollTextsSpec)) rollTextsCard

/-- THE TIED CARD OF 'garmentlaw27.RollLeast'. -/
def rollLeastCard : Claim7 := { stood := { row := rollLeastRow, standIns := [], harness := (true, "16d5aeadf85c61a72cc3da999b8827d2f4922e4e5303d41252a07b3af299f274"), looks := true }, kinds := [], alts := [], laidByText := true, laidKinds := [.data, .data, .data, .data, .sentinel, .sentinel, .pinned], laidTests := true, laidLooks := .later }
def RollLeastCardSaid : Prop := Claim7.holds Tryd.pinned (.plain (OpenSpec.ofChange rollLeastSpec)) rollLeastCard

/-- THE SECOND FORM's CARD OF 'garmentlaw27.RollRoundTrip'. -/
def rollRoundTripUptoCard : Claim7 := { stood := { row := rollRoundTripUptoRow, standIns := [], harness := (true, "16d5aeadf85c61a72cc3da999b8827d2f4922e4e5303d41252a07b3af299f274"), looks := true }, kinds := [], alts := [], laidByText := true, laidKinds := [.data, .data, .data, .data, .sentinel, .sentinel, .pinned], laidTests := true, laidLooks := .later }
def RollRoundTripUptoCardSaid : Prop := Claim7.holds Tryd.pinned (.plain (OpenSpec.upto rollRoundTripSpec)) rollRoundTripUptoCard

/-- THE SECOND FORM's CARD OF 'garmentlaw27.RollTexts'. -/
def rollTextsUptoCard : Claim7 := { stood := { row := rollTextsUptoRow, standIns := [], harness := (true, "16d5aeadf85c61a72cc3da999b8827d2f4922e4e5303d41252a07b3af299f274"), looks := true }, kinds := [], alts := [], laidByText := true, laidKinds := [.data, .data, .data, .data, .sentinel, .sentinel, .pinned], laidTests := true, laidLooks := .later }
def RollTextsUptoCardSaid : Prop := Claim7.holds Tryd.pinned (.plain (OpenSpec.upto rollTextsSpec)) rollTextsUptoCard

/-- THE SECOND FORM's CARD OF 'garmentlaw27.RollLeast'. -/
def rollLeastUptoCard : Claim7 := { stood := { row := rollLeastUptoRow, standIns := [], harness := (true, "16d5aeadf85c61a72cc3da999b8827d2f4922e4e5303d41252a07b3af299f274"), looks := true }, kinds := [], alts := [], laidByText := true, laidKinds := [.data, .data, .data, .data, .sentinel, .sentinel, .pinned], laidTests := true, laidLooks := .later }
def RollLeastUptoCardSaid : Prop := Claim7.holds Tryd.pinned (.plain (OpenSpec.upto rollLeastSpec)) rollLeastUptoCard
end Rows
end Go.Proofs.YtphaigncbenmmaaDoor
