/-
  DERIVED. GIVEN WITH THE SEED: THE CARDS: each row of YtfokgjhdndnnhaaGreatDoorRows.lean that lists a variable, with what it lists TIED to the program's text (the seventh form; the later family's looks); each row that meets fmt, with fmt's text TOLD by the authors' own Lean function (tested against real Go, not proved from fmt's source: count such statements apart). THE CARD IS WHAT COUNTS. Prove the row's statement (the work); the ties are given (YtfokgjhdndnnhaaGreatDoorTie.lean); close each card by the builder's one call (the guide's Derived/Test/ToyasCard.lean, 'card_holds'). Laid BY PROGRAM, IN A SANDBOX (cutbox-door.mjs). By AI agents, Wed Nov 11 2026. No macro, syntax, notation, axiom, sorry.
-/
import Derived.Test.YtfokgjhdndnnhaaGreatDoorRows
import GoSem.ClaimSeven
namespace Go.Proofs.YtfokgjhdndnnhaaGreatDoor
namespace Rows

/-- THE TIED CARD OF 'fairleadlaw19.DeflateShort'. -/
def deflateShortCard : Claim7 := { stood := { row := deflateShortRow, standIns := [], harness := (true, "891d164d093ffd1f6b487336555222af068256cf148b2c01c359fd8e4e23852a"), looks := true }, kinds := [], alts := [], laidByText := true, laidKinds := [.handle], laidTests := true, laidLooks := .later }
def DeflateShortCardSaid : Prop := Claim7.holds Tryz.pinned (.plain (OpenSpec.ofChange deflateShortSpec)) deflateShortCard

/-- THE TIED CARD OF 'fairleadlaw19.DeflateKnown'. -/
def deflateKnownCard : Claim7 := { stood := { row := deflateKnownRow, standIns := [], harness := (true, "891d164d093ffd1f6b487336555222af068256cf148b2c01c359fd8e4e23852a"), looks := true }, kinds := [], alts := [], laidByText := true, laidKinds := [.handle], laidTests := true, laidLooks := .later }
def DeflateKnownCardSaid : Prop := Claim7.holds Tryz.pinned (.plain (OpenSpec.ofChange deflateKnownSpec)) deflateKnownCard

/-- THE TIED CARD OF 'fairleadlaw19.DeflateAgain'. -/
def deflateAgainCard : Claim7 := { stood := { row := deflateAgainRow, standIns := [], harness := (true, "891d164d093ffd1f6b487336555222af068256cf148b2c01c359fd8e4e23852a"), looks := true }, kinds := [], alts := [], laidByText := true, laidKinds := [.handle], laidTests := true, laidLooks := .later }
def DeflateAgainCardSaid : Prop := Claim7.holds Tryz.pinned (.plain (OpenSpec.ofChange deflateAgainSpec)) deflateAgainCard

/-- THE TIED CARD OF 'fairleadlaw19.DeflateWindow'. -/
def deflateWindowCard : Claim7 := { stood := { row := deflateWindowRow, standIns := [], harness := (true, "891d164d093ffd1f6b487336555222af068256cf148b2c01c359fd8e4e23852a"), looks := true }, kinds := [], alts := [], laidByText := true, laidKinds := [.handle], laidTests := true, laidLooks := .later }
def DeflateWindowCardSaid : Prop := Claim7.holds Tryz.pinned (.plain (OpenSpec.ofChange deflateWindowSpec)) deflateWindowCard

/-- THE TIED CARD OF 'fairleadlaw19.DeflateBack'. -/
def deflateBackCard : Claim7 := { stood := { row := deflateBackRow, standIns := [], harness := (true, "891d164d093ffd1f6b487336555222af068256cf148b2c01c359fd8e4e23852a"), looks := true }, kinds := [], alts := [], laidByText := true, laidKinds := [.handle], laidTests := true, laidLooks := .later }
def DeflateBackCardSaid : Prop := Claim7.holds Tryz.pinned (.plain (OpenSpec.ofChange deflateBackSpec)) deflateBackCard

/-- THE SECOND FORM's CARD OF 'fairleadlaw19.DeflateShort'. -/
def deflateShortUptoCard : Claim7 := { stood := { row := deflateShortUptoRow, standIns := [], harness := (true, "891d164d093ffd1f6b487336555222af068256cf148b2c01c359fd8e4e23852a"), looks := true }, kinds := [], alts := [], laidByText := true, laidKinds := [.handle], laidTests := true, laidLooks := .later }
def DeflateShortUptoCardSaid : Prop := Claim7.holds Tryz.pinned (.plain (OpenSpec.upto deflateShortSpec)) deflateShortUptoCard

/-- THE SECOND FORM's CARD OF 'fairleadlaw19.DeflateKnown'. -/
def deflateKnownUptoCard : Claim7 := { stood := { row := deflateKnownUptoRow, standIns := [], harness := (true, "891d164d093ffd1f6b487336555222af068256cf148b2c01c359fd8e4e23852a"), looks := true }, kinds := [], alts := [], laidByText := true, laidKinds := [.handle], laidTests := true, laidLooks := .later }
def DeflateKnownUptoCardSaid : Prop := Claim7.holds Tryz.pinned (.plain (OpenSpec.upto deflateKnownSpec)) deflateKnownUptoCard

/-- THE SECOND FORM's CARD OF 'fairleadlaw19.DeflateAgain'. -/
def deflateAgainUptoCard : Claim7 := { stood := { row := deflateAgainUptoRow, standIns := [], harness := (true, "891d164d093ffd1f6b487336555222af068256cf148b2c01c359fd8e4e23852a"), looks := true }, kinds := [], alts := [], laidByText := true, laidKinds := [.handle], laidTests := true, laidLooks := .later }
def DeflateAgainUptoCardSaid : Prop := Claim7.holds Tryz.pinned (.plain (OpenSpec.upto deflateAgainSpec)) deflateAgainUptoCard

/-- THE SECOND FORM's CARD OF 'fairleadlaw19.DeflateWindow'. -/
def deflateWindowUptoCard : Claim7 := { stood := { row := deflateWindowUptoRow, standIns := [], harness := (true, "891d164d093ffd1f6b487336555222af068256cf148b2c01c359fd8e4e23852a"), looks := true }, kinds := [], alts := [], laidByText := true, laidKinds := [.handle], laidTests := true, laidLooks := .later }
def DeflateWindowUptoCardSaid : Prop := Claim7.holds Tryz.pinned (.plain (OpenSpec.upto deflateWindowSpec)) deflateWindowUptoCard

/-- THE SECOND FORM's CARD OF 'fairleadlaw19.DeflateBack'. -/
def deflateBackUptoCard : Claim7 := { stood := { row := deflateBackUptoRow, standIns := [], harness := (true, "891d164d093ffd1f6b487336555222af068256cf148b2c01c359fd8e4e23852a"), looks := true }, kinds := [], alts := [], laidByText := true, laidKinds := [.handle], laidTests := true, laidLooks := .later }
def DeflateBackUptoCardSaid : Prop := Claim7.holds Tryz.pinned (.plain (OpenSpec.upto deflateBackSpec)) deflateBackUptoCard
end Rows
end Go.Proofs.YtfokgjhdndnnhaaGreatDoor
