/-
  DERIVED. GIVEN WITH THE SEED: THE CARDS: each row of YtdfjpbdfafpfgaaGreatDoorRows.lean that lists a variable, with what it lists TIED to the program's text (the seventh form; the later family's looks); each row that meets fmt, with fmt's text TOLD by the authors' own Lean function (tested against real Go, not proved from fmt's source: count such statements apart). THE CARD IS WHAT COUNTS. Prove the row's statement (the work); the ties are given (YtdfjpbdfafpfgaaGreatDoorTie.lean); close each card by the builder's one call (the guide's Derived/Test/ToyasCard.lean, 'card_holds'). Laid BY PROGRAM, IN A SANDBOX (cutbox-door.mjs). By AI agents, Wed Nov 11 2026. No macro, syntax, notation, axiom, sorry.
-/
import Derived.Test.YtdfjpbdfafpfgaaGreatDoorRows
import GoSem.ClaimSeven
namespace Go.Proofs.YtdfjpbdfafpfgaaGreatDoor
namespace Rows

/-- THE TIED CARD OF 'copydesklaw12.AddressFormatMatchesReference'. -/
def addressFormatMatchesReferenceCard : Claim7 := { stood := { row := addressFormatMatchesReferenceRow, standIns := [], harness := (true, "75a08061252681906ff11593cf0a0827b780e2aebf4bd9cbc8da2081937bd8d0"), looks := true }, kinds := [], alts := [], laidByText := true, laidKinds := [.data, .data, .data, .data, .sentinel, .sentinel, .pinned], laidTests := true, laidLooks := .later }
def AddressFormatMatchesReferenceCardSaid : Prop := Claim7.holds Tryz.pinned (.plain (OpenSpec.ofChange addressFormatMatchesReferenceSpec)) addressFormatMatchesReferenceCard

/-- THE TIED CARD OF 'copydesklaw12.AddressParseMatchesReference'. -/
def addressParseMatchesReferenceCard : Claim7 := { stood := { row := addressParseMatchesReferenceRow, standIns := [], harness := (true, "75a08061252681906ff11593cf0a0827b780e2aebf4bd9cbc8da2081937bd8d0"), looks := true }, kinds := [], alts := [], laidByText := true, laidKinds := [.data, .data, .data, .data, .sentinel, .sentinel, .pinned], laidTests := true, laidLooks := .later }
def AddressParseMatchesReferenceCardSaid : Prop := Claim7.holds Tryz.pinned (.plain (OpenSpec.ofChange addressParseMatchesReferenceSpec)) addressParseMatchesReferenceCard

/-- THE TIED CARD OF 'copydesklaw12.AddressRoundTrip'. -/
def addressRoundTripCard : Claim7 := { stood := { row := addressRoundTripRow, standIns := [], harness := (true, "75a08061252681906ff11593cf0a0827b780e2aebf4bd9cbc8da2081937bd8d0"), looks := true }, kinds := [], alts := [], laidByText := true, laidKinds := [.data, .data, .data, .data, .sentinel, .sentinel, .pinned], laidTests := true, laidLooks := .later }
def AddressRoundTripCardSaid : Prop := Claim7.holds Tryz.pinned (.plain (OpenSpec.ofChange addressRoundTripSpec)) addressRoundTripCard

/-- THE TIED CARD OF 'copydesklaw12.AddressParsedAgain'. -/
def addressParsedAgainCard : Claim7 := { stood := { row := addressParsedAgainRow, standIns := [], harness := (true, "75a08061252681906ff11593cf0a0827b780e2aebf4bd9cbc8da2081937bd8d0"), looks := true }, kinds := [], alts := [], laidByText := true, laidKinds := [.data, .data, .data, .data, .sentinel, .sentinel, .pinned], laidTests := true, laidLooks := .later }
def AddressParsedAgainCardSaid : Prop := Claim7.holds Tryz.pinned (.plain (OpenSpec.ofChange addressParsedAgainSpec)) addressParsedAgainCard

/-- THE SECOND FORM's CARD OF 'copydesklaw12.AddressFormatMatchesReference'. -/
def addressFormatMatchesReferenceUptoCard : Claim7 := { stood := { row := addressFormatMatchesReferenceUptoRow, standIns := [], harness := (true, "75a08061252681906ff11593cf0a0827b780e2aebf4bd9cbc8da2081937bd8d0"), looks := true }, kinds := [], alts := [], laidByText := true, laidKinds := [.data, .data, .data, .data, .sentinel, .sentinel, .pinned], laidTests := true, laidLooks := .later }
def AddressFormatMatchesReferenceUptoCardSaid : Prop := Claim7.holds Tryz.pinned (.plain (OpenSpec.upto addressFormatMatchesReferenceSpec)) addressFormatMatchesReferenceUptoCard

/-- THE SECOND FORM's CARD OF 'copydesklaw12.AddressParseMatchesReference'. -/
def addressParseMatchesReferenceUptoCard : Claim7 := { stood := { row := addressParseMatchesReferenceUptoRow, standIns := [], harness := (true, "75a08061252681906ff11593cf0a0827b780e2aebf4bd9cbc8da2081937bd8d0"), looks := true }, kinds := [], alts := [], laidByText := true, laidKinds := [.data, .data, .data, .data, .sentinel, .sentinel, .pinned], laidTests := true, laidLooks := .later }
def AddressParseMatchesReferenceUptoCardSaid : Prop := Claim7.holds Tryz.pinned (.plain (OpenSpec.upto addressParseMatchesReferenceSpec)) addressParseMatchesReferenceUptoCard

/-- THE SECOND FORM's CARD OF 'copydesklaw12.AddressRoundTrip'. -/
def addressRoundTripUptoCard : Claim7 := { stood := { row := addressRoundTripUptoRow, standIns := [], harness := (true, "75a08061252681906ff11593cf0a0827b780e2aebf4bd9cbc8da2081937bd8d0"), looks := true }, kinds := [], alts := [], laidByText := true, laidKinds := [.data, .data, .data, .data, .sentinel, .sentinel, .pinned], laidTests := true, laidLooks := .later }
def AddressRoundTripUptoCardSaid : Prop := Claim7.holds Tryz.pinned (.plain (OpenSpec.upto addressRoundTripSpec)) addressRoundTripUptoCard

/-- THE SECOND FORM's CARD OF 'copydesklaw12.AddressParsedAgain'. -/
def addressParsedAgainUptoCard : Claim7 := { stood := { row := addressParsedAgainUptoRow, standIns := [], harness := (true, "75a08061252681906ff11593cf0a0827b780e2aebf4bd9cbc8da2081937bd8d0"), looks := true }, kinds := [], alts := [], laidByText := true, laidKinds := [.data, .data, .data, .data, .sentinel, .sentinel, .pinned], laidTests := true, laidLooks := .later }
def AddressParsedAgainUptoCardSaid : Prop := Claim7.holds Tryz.pinned (.plain (OpenSpec.upto addressParsedAgainSpec)) addressParsedAgainUptoCard
end Rows
end Go.Proofs.YtdfjpbdfafpfgaaGreatDoor
