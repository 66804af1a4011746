/-
  No cell of these rows narrows 'for every input' (looked for: loops, veiled, ifaces, maps, wideKeys, modest, calm, conditions, laid).
  DERIVED. THE GIVEN ROWS OF THIS SEAT. 6 by the template 'for every input the law returns true; each argument reads behind the call as it read before'; 0 by the template 'total and deterministic' (their statements: YtmnbicoeahlpcaaTotals.lean).
  GIVEN WITH THE SEED: the statements are not yours to turn. If you find one false, say at which input.
  Laid BY PROGRAM, IN A SANDBOX (cutbox-rows.mjs): the forced cells as the released guide's own fill.sh prints them over the translation 0c0f629219a17bff… (all of the seat's roots in one cut). By AI agents, Wed Nov 11 2026. No macro, syntax, notation, axiom, sorry.
-/
import Derived.Test.YtmnbicoeahlpcaaChecked
import GoSem.Claim
import GoSem.ClaimJoined
import GoSem.ClaimMapViews
import Derived.JoinedTies
import Derived.KernelRfl
namespace Go.Proofs.Ytmnbicoeahlpcaa
/- THE CELL 'sum', in the pinned program and in every row, IS THE sha256 OF THE DUMP (.gsa) THAT YtmnbicoeahlpcaaProg.lean LOADS. Nothing in Lean hashes anything: it is a label: what it is worth is what the hold of that sum in a sandbox is worth. -/
noncomputable def Try.pinned : Pinned := { name := "ytmnbicoeahlpcaa", sum := "0c0f629219a17bff8319253bc2460a0d2a149276283e49607fc14f357d67ba10", checked := Try.checked }
namespace Rows
def none {H : Type} : Left H := { results := [], args := [] }

/-- 'fairleadlaw27.LedgerKnown': WHATEVER THE INPUT: true; the input reads as it did. -/
def ledgerKnownSpec : ChangeSpec := { name := "ledgerKnown", fn := fun _ => fun
  | [] => { results := [.lit (.bool true)], args := [] }
  | _ => none }
def ledgerKnownRow : OpenClaim := { program := "ytmnbicoeahlpcaa", sum := "0c0f629219a17bff8319253bc2460a0d2a149276283e49607fc14f357d67ba10", func := "fairlead/fairleadlaw27.LedgerKnown", spec := "ledgerKnown", unfollowed := true, recurses := true, apart := false }
def LedgerKnownSaid : Prop := ledgerKnownRow.holds Try.pinned (OpenSpec.ofChange ledgerKnownSpec)

/-- ITS FALSE NEIGHBOUR: 'it returns false'. Refute it at one input. -/
def ledgerKnownWrong : ChangeSpec := { name := "ledgerKnown", fn := fun _ => fun
  | [] => { results := [.lit (.bool false)], args := [] }
  | _ => none }
def LedgerKnownWrongFalsely : Prop := ledgerKnownRow.holds Try.pinned (OpenSpec.ofChange ledgerKnownWrong)

/-- 'fairleadlaw27.LedgerFinds': WHATEVER THE INPUT: true; the input reads as it did. -/
def ledgerFindsSpec : ChangeSpec := { name := "ledgerFinds", fn := fun _ => fun
  | [d1, d2, d3] => { results := [.lit (.bool true)], args := [d1, d2, d3] }
  | _ => none }
def ledgerFindsRow : OpenClaim := { program := "ytmnbicoeahlpcaa", sum := "0c0f629219a17bff8319253bc2460a0d2a149276283e49607fc14f357d67ba10", func := "fairlead/fairleadlaw27.LedgerFinds", spec := "ledgerFinds", unfollowed := true, recurses := true, apart := false }
def LedgerFindsSaid : Prop := ledgerFindsRow.holds Try.pinned (OpenSpec.ofChange ledgerFindsSpec)

/-- ITS FALSE NEIGHBOUR: 'it returns false'. Refute it at one input. -/
def ledgerFindsWrong : ChangeSpec := { name := "ledgerFinds", fn := fun _ => fun
  | [d1, d2, d3] => { results := [.lit (.bool false)], args := [d1, d2, d3] }
  | _ => none }
def LedgerFindsWrongFalsely : Prop := ledgerFindsRow.holds Try.pinned (OpenSpec.ofChange ledgerFindsWrong)

/-- 'fairleadlaw27.LedgerLeaves': WHATEVER THE INPUT: true; the input reads as it did. -/
def ledgerLeavesSpec : ChangeSpec := { name := "ledgerLeaves", fn := fun _ => fun
  | [d1, d2] => { results := [.lit (.bool true)], args := [d1, d2] }
  | _ => none }
def ledgerLeavesRow : OpenClaim := { program := "ytmnbicoeahlpcaa", sum := "0c0f629219a17bff8319253bc2460a0d2a149276283e49607fc14f357d67ba10", func := "fairlead/fairleadlaw27.LedgerLeaves", spec := "ledgerLeaves", unfollowed := true, recurses := true, apart := false }
def LedgerLeavesSaid : Prop := ledgerLeavesRow.holds Try.pinned (OpenSpec.ofChange ledgerLeavesSpec)

/-- ITS FALSE NEIGHBOUR: 'it returns false'. Refute it at one input. -/
def ledgerLeavesWrong : ChangeSpec := { name := "ledgerLeaves", fn := fun _ => fun
  | [d1, d2] => { results := [.lit (.bool false)], args := [d1, d2] }
  | _ => none }
def LedgerLeavesWrongFalsely : Prop := ledgerLeavesRow.holds Try.pinned (OpenSpec.ofChange ledgerLeavesWrong)

/-- 'fairleadlaw27.LedgerAdds': WHATEVER THE INPUT: true; the input reads as it did. -/
def ledgerAddsSpec : ChangeSpec := { name := "ledgerAdds", fn := fun _ => fun
  | [d1, d2, d3] => { results := [.lit (.bool true)], args := [d1, d2, d3] }
  | _ => none }
def ledgerAddsRow : OpenClaim := { program := "ytmnbicoeahlpcaa", sum := "0c0f629219a17bff8319253bc2460a0d2a149276283e49607fc14f357d67ba10", func := "fairlead/fairleadlaw27.LedgerAdds", spec := "ledgerAdds", unfollowed := true, recurses := true, apart := false }
def LedgerAddsSaid : Prop := ledgerAddsRow.holds Try.pinned (OpenSpec.ofChange ledgerAddsSpec)

/-- ITS FALSE NEIGHBOUR: 'it returns false'. Refute it at one input. -/
def ledgerAddsWrong : ChangeSpec := { name := "ledgerAdds", fn := fun _ => fun
  | [d1, d2, d3] => { results := [.lit (.bool false)], args := [d1, d2, d3] }
  | _ => none }
def LedgerAddsWrongFalsely : Prop := ledgerAddsRow.holds Try.pinned (OpenSpec.ofChange ledgerAddsWrong)

/-- 'fairleadlaw21.CcpAgrees': WHATEVER THE INPUT: true; the input reads as it did. -/
def ccpAgreesSpec : ChangeSpec := { name := "ccpAgrees", fn := fun _ => fun
  | [d1, d2, d3] => { results := [.lit (.bool true)], args := [d1, d2, d3] }
  | _ => none }
def ccpAgreesRow : OpenClaim := { program := "ytmnbicoeahlpcaa", sum := "0c0f629219a17bff8319253bc2460a0d2a149276283e49607fc14f357d67ba10", func := "fairlead/fairleadlaw21.CcpAgrees", spec := "ccpAgrees", apart := false }
def CcpAgreesSaid : Prop := ccpAgreesRow.holds Try.pinned (OpenSpec.ofChange ccpAgreesSpec)

/-- ITS FALSE NEIGHBOUR: 'it returns false'. Refute it at one input. -/
def ccpAgreesWrong : ChangeSpec := { name := "ccpAgrees", fn := fun _ => fun
  | [d1, d2, d3] => { results := [.lit (.bool false)], args := [d1, d2, d3] }
  | _ => none }
def CcpAgreesWrongFalsely : Prop := ccpAgreesRow.holds Try.pinned (OpenSpec.ofChange ccpAgreesWrong)

/-- 'fairleadlaw21.CcpKnown': WHATEVER THE INPUT: true; the input reads as it did. -/
def ccpKnownSpec : ChangeSpec := { name := "ccpKnown", fn := fun _ => fun
  | [] => { results := [.lit (.bool true)], args := [] }
  | _ => none }
def ccpKnownRow : OpenClaim := { program := "ytmnbicoeahlpcaa", sum := "0c0f629219a17bff8319253bc2460a0d2a149276283e49607fc14f357d67ba10", func := "fairlead/fairleadlaw21.CcpKnown", spec := "ccpKnown", apart := false }
def CcpKnownSaid : Prop := ccpKnownRow.holds Try.pinned (OpenSpec.ofChange ccpKnownSpec)

/-- ITS FALSE NEIGHBOUR: 'it returns false'. Refute it at one input. -/
def ccpKnownWrong : ChangeSpec := { name := "ccpKnown", fn := fun _ => fun
  | [] => { results := [.lit (.bool false)], args := [] }
  | _ => none }
def CcpKnownWrongFalsely : Prop := ccpKnownRow.holds Try.pinned (OpenSpec.ofChange ccpKnownWrong)

/- THE SECOND FORM. 'bulk': how many values and letters a reading holds, each counted each time it is reached (what is shared counts as often as it is met; a slice's spare places count too). A statement '..UptoSaid' is the law's where the arguments, and the package variables that the reading takes, are together of bulk at most 1048576: NARROWER than '..Said'. Prove '..Said' where nothing that the law and all that it calls make is longer than what came in: it says more and counts as full. Else prove '..UptoSaid'. A law counts once. -/
mutual
def uptoBulk {H : Type} : DataW H → Nat
  | .lit (.string bytes) => bytes.length + 1
  | .lit _ => 1
  | .nil => 1
  | .ptr d => uptoBulk d + 1
  | .slice elems spare => uptoBulkAll elems + uptoBulkAll spare + 1
  | .agg parts => uptoBulkAll parts + 1
  | .iface _ d => uptoBulk d + 1
  | .map entries => uptoBulkEntries entries + 1
  | .held _ => 1
def uptoBulkAll {H : Type} : List (DataW H) → Nat
  | [] => 0
  | d :: r => uptoBulk d + uptoBulkAll r
def uptoBulkEntries {H : Type} : List (Lit × DataW H) → Nat
  | [] => 0
  | x :: r => uptoBulkEntry x + uptoBulkEntries r
def uptoBulkEntry {H : Type} : Lit × DataW H → Nat
  | (.string bytes, d) => bytes.length + uptoBulk d + 1
  | (_, d) => uptoBulk d + 1
 end
def uptoSmall : (H : Type) → List (DataW H) → Bool := fun _ ds => decide (uptoBulkAll ds ≤ 1048576)
def OpenSpec.upto (s : _root_.Go.ChangeSpec) : _root_.Go.OpenSpec := { _root_.Go.OpenSpec.ofChange s with cond := some uptoSmall }

/-- 'fairleadlaw27.LedgerKnown', WHERE WHAT IT READS IS OF BULK AT MOST 1048576: true; the input reads as it did. -/
def ledgerKnownUptoRow : OpenClaim := { program := "ytmnbicoeahlpcaa", sum := "0c0f629219a17bff8319253bc2460a0d2a149276283e49607fc14f357d67ba10", func := "fairlead/fairleadlaw27.LedgerKnown", spec := "ledgerKnown", unfollowed := true, recurses := true, apart := false, narrowed := true }
def LedgerKnownUptoSaid : Prop := ledgerKnownUptoRow.holds Try.pinned (OpenSpec.upto ledgerKnownSpec)

/-- 'fairleadlaw27.LedgerFinds', WHERE WHAT IT READS IS OF BULK AT MOST 1048576: true; the input reads as it did. -/
def ledgerFindsUptoRow : OpenClaim := { program := "ytmnbicoeahlpcaa", sum := "0c0f629219a17bff8319253bc2460a0d2a149276283e49607fc14f357d67ba10", func := "fairlead/fairleadlaw27.LedgerFinds", spec := "ledgerFinds", unfollowed := true, recurses := true, apart := false, narrowed := true }
def LedgerFindsUptoSaid : Prop := ledgerFindsUptoRow.holds Try.pinned (OpenSpec.upto ledgerFindsSpec)

/-- 'fairleadlaw27.LedgerLeaves', WHERE WHAT IT READS IS OF BULK AT MOST 1048576: true; the input reads as it did. -/
def ledgerLeavesUptoRow : OpenClaim := { program := "ytmnbicoeahlpcaa", sum := "0c0f629219a17bff8319253bc2460a0d2a149276283e49607fc14f357d67ba10", func := "fairlead/fairleadlaw27.LedgerLeaves", spec := "ledgerLeaves", unfollowed := true, recurses := true, apart := false, narrowed := true }
def LedgerLeavesUptoSaid : Prop := ledgerLeavesUptoRow.holds Try.pinned (OpenSpec.upto ledgerLeavesSpec)

/-- 'fairleadlaw27.LedgerAdds', WHERE WHAT IT READS IS OF BULK AT MOST 1048576: true; the input reads as it did. -/
def ledgerAddsUptoRow : OpenClaim := { program := "ytmnbicoeahlpcaa", sum := "0c0f629219a17bff8319253bc2460a0d2a149276283e49607fc14f357d67ba10", func := "fairlead/fairleadlaw27.LedgerAdds", spec := "ledgerAdds", unfollowed := true, recurses := true, apart := false, narrowed := true }
def LedgerAddsUptoSaid : Prop := ledgerAddsUptoRow.holds Try.pinned (OpenSpec.upto ledgerAddsSpec)

/-- 'fairleadlaw21.CcpAgrees', WHERE WHAT IT READS IS OF BULK AT MOST 1048576: true; the input reads as it did. -/
def ccpAgreesUptoRow : OpenClaim := { program := "ytmnbicoeahlpcaa", sum := "0c0f629219a17bff8319253bc2460a0d2a149276283e49607fc14f357d67ba10", func := "fairlead/fairleadlaw21.CcpAgrees", spec := "ccpAgrees", apart := false, narrowed := true }
def CcpAgreesUptoSaid : Prop := ccpAgreesUptoRow.holds Try.pinned (OpenSpec.upto ccpAgreesSpec)

/-- 'fairleadlaw21.CcpKnown', WHERE WHAT IT READS IS OF BULK AT MOST 1048576: true; the input reads as it did. -/
def ccpKnownUptoRow : OpenClaim := { program := "ytmnbicoeahlpcaa", sum := "0c0f629219a17bff8319253bc2460a0d2a149276283e49607fc14f357d67ba10", func := "fairlead/fairleadlaw21.CcpKnown", spec := "ccpKnown", apart := false, narrowed := true }
def CcpKnownUptoSaid : Prop := ccpKnownUptoRow.holds Try.pinned (OpenSpec.upto ccpKnownSpec)

end Rows
end Go.Proofs.Ytmnbicoeahlpcaa
