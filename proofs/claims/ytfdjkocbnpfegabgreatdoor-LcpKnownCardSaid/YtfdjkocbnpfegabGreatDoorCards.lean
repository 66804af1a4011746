/-
  DERIVED. GIVEN WITH THE SEED: THE CARDS: each row of YtfdjkocbnpfegabGreatDoorRows.lean that lists a variable, with what it lists TIED to the program's text (the seventh form; the later family's looks); each row that meets fmt, with fmt's text TOLD by the authors' own Lean function (tested against real Go, not proved from fmt's source: count such statements apart). THE CARD IS WHAT COUNTS. Prove the row's statement (the work); the ties are given (YtfdjkocbnpfegabGreatDoorTie.lean); close each card by the builder's one call (the guide's Derived/Test/ToyasCard.lean, 'card_holds'). Laid BY PROGRAM, IN A SANDBOX (cutbox-door.mjs). By AI agents, Wed Nov 11 2026. No macro, syntax, notation, axiom, sorry.
-/
import Derived.Test.YtfdjkocbnpfegabGreatDoorRows
import GoSem.ClaimSeven
namespace Go.Proofs.YtfdjkocbnpfegabGreatDoor
namespace Rows

/-- THE TIED CARD OF 'fairleadlaw14.LcpKnown'. -/
def lcpKnownCard : Claim7 := { stood := { row := lcpKnownRow, standIns := [], harness := (true, "80a1c0a255c7e06c7033774dfa34489b56036d39545fc840d124eb8f4524849f"), looks := true }, kinds := [], alts := [], laidByText := true, laidKinds := [.data, .handle, .pinned], laidTests := true, laidLooks := .later }
def LcpKnownCardSaid : Prop := Claim7.holds Tryz.pinned (.plain (OpenSpec.ofChange lcpKnownSpec)) lcpKnownCard

/-- THE TIED CARD OF 'fairleadlaw14.LcpAsks'. -/
def lcpAsksCard : Claim7 := { stood := { row := lcpAsksRow, standIns := [], harness := (true, "80a1c0a255c7e06c7033774dfa34489b56036d39545fc840d124eb8f4524849f"), looks := true }, kinds := [], alts := [], laidByText := true, laidKinds := [.data, .handle, .pinned], laidTests := true, laidLooks := .later }
def LcpAsksCardSaid : Prop := Claim7.holds Tryz.pinned (.plain (OpenSpec.ofChange lcpAsksSpec)) lcpAsksCard

/-- THE TIED CARD OF 'fairleadlaw14.LcpReads'. -/
def lcpReadsCard : Claim7 := { stood := { row := lcpReadsRow, standIns := [], harness := (true, "80a1c0a255c7e06c7033774dfa34489b56036d39545fc840d124eb8f4524849f"), looks := true }, kinds := [], alts := [], laidByText := true, laidKinds := [.data, .handle, .pinned], laidTests := true, laidLooks := .later }
def LcpReadsCardSaid : Prop := Claim7.holds Tryz.pinned (.plain (OpenSpec.ofChange lcpReadsSpec)) lcpReadsCard

/-- THE TIED CARD OF 'fairleadlaw28.ScriptParses'. -/
def scriptParsesCard : Claim7 := { stood := { row := scriptParsesRow, standIns := [], harness := (true, "80a1c0a255c7e06c7033774dfa34489b56036d39545fc840d124eb8f4524849f"), looks := true }, kinds := [], alts := [], laidByText := true, laidKinds := [.data, .data, .data, .data, .handle, .sentinel, .sentinel, .pinned], laidTests := true, laidLooks := .later }
def ScriptParsesCardSaid : Prop := Claim7.holds Tryz.pinned (.plain (OpenSpec.ofChange scriptParsesSpec)) scriptParsesCard

/-- THE TIED CARD OF 'fairleadlaw28.ScriptPrints'. -/
def scriptPrintsCard : Claim7 := { stood := { row := scriptPrintsRow, standIns := [], harness := (true, "80a1c0a255c7e06c7033774dfa34489b56036d39545fc840d124eb8f4524849f"), looks := true }, kinds := [], alts := [], laidByText := true, laidKinds := [.data, .data, .data, .data, .handle, .sentinel, .sentinel, .pinned], laidTests := true, laidLooks := .later }
def ScriptPrintsCardSaid : Prop := Claim7.holds Tryz.pinned (.plain (OpenSpec.ofChange scriptPrintsSpec)) scriptPrintsCard

/-- THE TIED CARD OF 'fairleadlaw28.ScriptAgain'. -/
def scriptAgainCard : Claim7 := { stood := { row := scriptAgainRow, standIns := [], harness := (true, "80a1c0a255c7e06c7033774dfa34489b56036d39545fc840d124eb8f4524849f"), looks := true }, kinds := [], alts := [], laidByText := true, laidKinds := [.data, .data, .data, .data, .handle, .sentinel, .sentinel, .pinned], laidTests := true, laidLooks := .later }
def ScriptAgainCardSaid : Prop := Claim7.holds Tryz.pinned (.plain (OpenSpec.ofChange scriptAgainSpec)) scriptAgainCard

/-- THE SECOND FORM's CARD OF 'fairleadlaw14.LcpKnown'. -/
def lcpKnownUptoCard : Claim7 := { stood := { row := lcpKnownUptoRow, standIns := [], harness := (true, "80a1c0a255c7e06c7033774dfa34489b56036d39545fc840d124eb8f4524849f"), looks := true }, kinds := [], alts := [], laidByText := true, laidKinds := [.data, .handle, .pinned], laidTests := true, laidLooks := .later }
def LcpKnownUptoCardSaid : Prop := Claim7.holds Tryz.pinned (.plain (OpenSpec.upto lcpKnownSpec)) lcpKnownUptoCard

/-- THE SECOND FORM's CARD OF 'fairleadlaw14.LcpAsks'. -/
def lcpAsksUptoCard : Claim7 := { stood := { row := lcpAsksUptoRow, standIns := [], harness := (true, "80a1c0a255c7e06c7033774dfa34489b56036d39545fc840d124eb8f4524849f"), looks := true }, kinds := [], alts := [], laidByText := true, laidKinds := [.data, .handle, .pinned], laidTests := true, laidLooks := .later }
def LcpAsksUptoCardSaid : Prop := Claim7.holds Tryz.pinned (.plain (OpenSpec.upto lcpAsksSpec)) lcpAsksUptoCard

/-- THE SECOND FORM's CARD OF 'fairleadlaw14.LcpReads'. -/
def lcpReadsUptoCard : Claim7 := { stood := { row := lcpReadsUptoRow, standIns := [], harness := (true, "80a1c0a255c7e06c7033774dfa34489b56036d39545fc840d124eb8f4524849f"), looks := true }, kinds := [], alts := [], laidByText := true, laidKinds := [.data, .handle, .pinned], laidTests := true, laidLooks := .later }
def LcpReadsUptoCardSaid : Prop := Claim7.holds Tryz.pinned (.plain (OpenSpec.upto lcpReadsSpec)) lcpReadsUptoCard

/-- THE SECOND FORM's CARD OF 'fairleadlaw28.ScriptParses'. -/
def scriptParsesUptoCard : Claim7 := { stood := { row := scriptParsesUptoRow, standIns := [], harness := (true, "80a1c0a255c7e06c7033774dfa34489b56036d39545fc840d124eb8f4524849f"), looks := true }, kinds := [], alts := [], laidByText := true, laidKinds := [.data, .data, .data, .data, .handle, .sentinel, .sentinel, .pinned], laidTests := true, laidLooks := .later }
def ScriptParsesUptoCardSaid : Prop := Claim7.holds Tryz.pinned (.plain (OpenSpec.upto scriptParsesSpec)) scriptParsesUptoCard

/-- THE SECOND FORM's CARD OF 'fairleadlaw28.ScriptPrints'. -/
def scriptPrintsUptoCard : Claim7 := { stood := { row := scriptPrintsUptoRow, standIns := [], harness := (true, "80a1c0a255c7e06c7033774dfa34489b56036d39545fc840d124eb8f4524849f"), looks := true }, kinds := [], alts := [], laidByText := true, laidKinds := [.data, .data, .data, .data, .handle, .sentinel, .sentinel, .pinned], laidTests := true, laidLooks := .later }
def ScriptPrintsUptoCardSaid : Prop := Claim7.holds Tryz.pinned (.plain (OpenSpec.upto scriptPrintsSpec)) scriptPrintsUptoCard

/-- THE SECOND FORM's CARD OF 'fairleadlaw28.ScriptAgain'. -/
def scriptAgainUptoCard : Claim7 := { stood := { row := scriptAgainUptoRow, standIns := [], harness := (true, "80a1c0a255c7e06c7033774dfa34489b56036d39545fc840d124eb8f4524849f"), looks := true }, kinds := [], alts := [], laidByText := true, laidKinds := [.data, .data, .data, .data, .handle, .sentinel, .sentinel, .pinned], laidTests := true, laidLooks := .later }
def ScriptAgainUptoCardSaid : Prop := Claim7.holds Tryz.pinned (.plain (OpenSpec.upto scriptAgainSpec)) scriptAgainUptoCard
end Rows
end Go.Proofs.YtfdjkocbnpfegabGreatDoor
