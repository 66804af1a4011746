/-
  DERIVED. GIVEN WITH THE SEED: THE CARDS: each row of YtinbldahpifinaaGreatDoorRows.lean that lists a variable, with what it lists TIED to the program's text (the seventh form; the later family's looks); each row that meets fmt, with fmt's text TOLD by the authors' own Lean function (tested against real Go, not proved from fmt's source: count such statements apart). THE CARD IS WHAT COUNTS. Prove the row's statement (the work); the ties are given (YtinbldahpifinaaGreatDoorTie.lean); close each card by the builder's one call (the guide's Derived/Test/ToyasCard.lean, 'card_holds'). Laid BY PROGRAM, IN A SANDBOX (cutbox-door.mjs). By AI agents, Wed Nov 11 2026. No macro, syntax, notation, axiom, sorry.
-/
import Derived.Test.YtinbldahpifinaaGreatDoorRows
import GoSem.ClaimSeven
namespace Go.Proofs.YtinbldahpifinaaGreatDoor
namespace Rows

/-- THE TIED CARD OF 'fairleadlaw14.LcpReads'. -/
def lcpReadsCard : Claim7 := { stood := { row := lcpReadsRow, standIns := [], harness := (true, "0b8c2a72f1f2801d54629b8b6ac754adb1bc175a47a6dc606dcc81b0c53a88b4"), looks := true }, kinds := [], alts := [], laidByText := true, laidKinds := [.data, .handle, .pinned], laidTests := true, laidLooks := .later }
def LcpReadsCardSaid : Prop := Claim7.holds Tryz.pinned (.plain (OpenSpec.ofChange lcpReadsSpec)) lcpReadsCard

/-- THE SECOND FORM's CARD OF 'fairleadlaw14.LcpReads'. -/
def lcpReadsUptoCard : Claim7 := { stood := { row := lcpReadsUptoRow, standIns := [], harness := (true, "0b8c2a72f1f2801d54629b8b6ac754adb1bc175a47a6dc606dcc81b0c53a88b4"), looks := true }, kinds := [], alts := [], laidByText := true, laidKinds := [.data, .handle, .pinned], laidTests := true, laidLooks := .later }
def LcpReadsUptoCardSaid : Prop := Claim7.holds Tryz.pinned (.plain (OpenSpec.upto lcpReadsSpec)) lcpReadsUptoCard
end Rows
end Go.Proofs.YtinbldahpifinaaGreatDoor
