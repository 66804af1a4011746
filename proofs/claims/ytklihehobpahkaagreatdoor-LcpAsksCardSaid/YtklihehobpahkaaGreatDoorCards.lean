/-
  DERIVED. GIVEN WITH THE SEED: THE CARDS: each row of YtklihehobpahkaaGreatDoorRows.lean that lists a variable, with what it lists TIED to the program's text (the seventh form; the later family's looks); each row that meets fmt, with fmt's text TOLD by the authors' own Lean function (tested against real Go, not proved from fmt's source: count such statements apart). THE CARD IS WHAT COUNTS. Prove the row's statement (the work); the ties are given (YtklihehobpahkaaGreatDoorTie.lean); close each card by the builder's one call (the guide's Derived/Test/ToyasCard.lean, 'card_holds'). Laid BY PROGRAM, IN A SANDBOX (cutbox-door.mjs). By AI agents, Wed Nov 11 2026. No macro, syntax, notation, axiom, sorry.
-/
import Derived.Test.YtklihehobpahkaaGreatDoorRows
import GoSem.ClaimSeven
namespace Go.Proofs.YtklihehobpahkaaGreatDoor
namespace Rows

/-- THE TIED CARD OF 'fairleadlaw14.LcpAsks'. -/
def lcpAsksCard : Claim7 := { stood := { row := lcpAsksRow, standIns := [], harness := (true, "fad95c12ade5caf787328feefce9f11549d014f3da33367a2d2dc8a51d9e53e1"), looks := true }, kinds := [], alts := [], laidByText := true, laidKinds := [.data, .handle, .pinned], laidTests := true, laidLooks := .later }
def LcpAsksCardSaid : Prop := Claim7.holds Tryz.pinned (.plain (OpenSpec.ofChange lcpAsksSpec)) lcpAsksCard

/-- THE SECOND FORM's CARD OF 'fairleadlaw14.LcpAsks'. -/
def lcpAsksUptoCard : Claim7 := { stood := { row := lcpAsksUptoRow, standIns := [], harness := (true, "fad95c12ade5caf787328feefce9f11549d014f3da33367a2d2dc8a51d9e53e1"), looks := true }, kinds := [], alts := [], laidByText := true, laidKinds := [.data, .handle, .pinned], laidTests := true, laidLooks := .later }
def LcpAsksUptoCardSaid : Prop := Claim7.holds Tryz.pinned (.plain (OpenSpec.upto lcpAsksSpec)) lcpAsksUptoCard
end Rows
end Go.Proofs.YtklihehobpahkaaGreatDoor
