/-
  NARROWER THAN 'FOR EVERY INPUT', by the rows' own cells (each row's printed sentence says how): DeflateShort: laid · DeflateKnown: laid · DeflateAgain: laid · DeflateWindow: laid · DeflateBack: laid.
  DERIVED. THE GIVEN ROWS OF THIS SEAT. 5 by the template 'for every input the law returns true; each argument reads behind the call as it read before'; 0 by the template 'total and deterministic' (their statements: YtfokgjhdndnnhaaGreatDoorTotals.lean).
  GIVEN WITH THE SEED: the statements are not yours to turn. If you find one false, say at which input.
  Laid BY PROGRAM, IN A SANDBOX (cutbox-rows.mjs): the forced cells as the released guide's own fill.sh prints them over the translation 939298fafa00cee4… (all of the seat's roots in one cut). By AI agents, Wed Nov 11 2026. No macro, syntax, notation, axiom, sorry.
-/
import Derived.Test.YtfokgjhdndnnhaaGreatDoorChecked
import GoSem.Claim
import GoSem.ClaimJoined
import GoSem.ClaimMapViews
import Derived.JoinedTies
import Derived.KernelRfl
namespace Go.Proofs.YtfokgjhdndnnhaaGreatDoor
/- THE CELL 'sum', in the pinned program and in every row, IS THE sha256 OF THE DUMP (.gsa) THAT YtfokgjhdndnnhaaGreatDoorProg.lean LOADS. Nothing in Lean hashes anything: it is a label: what it is worth is what the hold of that sum in a sandbox is worth. -/
noncomputable def Tryz.pinned : Pinned := { name := "ytfokgjhdndnnhaagreatdoor", sum := "939298fafa00cee443ae461c914e861dd8708866ead2bf0def6f18a6bef5b772", checked := Tryz.checked }
namespace Rows
def none {H : Type} : Left H := { results := [], args := [] }

/- WHAT THE LISTED PACKAGE-LEVEL VARIABLES READ AS WHEN THE CALL BEGINS. Each datum BY PROGRAM (the guide's laid-datum.mjs) off the statement by which the dump's own 'gosem.cut.vars' lays the variable. In a bare row this is a premise. The card (YtfokgjhdndnnhaaGreatDoorCards.lean) ties it to the program's text. -/
def laid_errors_errorType {H : Type} : DataW H := .iface "internal/reflectlite.rtype" (.agg [.ptr (.lit (.string [101, 114, 114, 111, 114]))])

/-- 'fairleadlaw19.DeflateShort': WHATEVER THE INPUT: true; the input reads as it did. -/
def deflateShortSpec : ChangeSpec := { name := "deflateShort", fn := fun _ => fun
  | [d] => { results := [.lit (.bool true)], args := [d] }
  | _ => none }
def deflateShortRow : OpenClaim := { program := "ytfokgjhdndnnhaagreatdoor", sum := "939298fafa00cee443ae461c914e861dd8708866ead2bf0def6f18a6bef5b772", func := "fairlead/fairleadlaw19.DeflateShort", spec := "deflateShort", inPlace := ["slices.overlaps[fairlead/huff.node]", "internal/reflectlite.ValueOf", "(internal/reflectlite.Value).Type", "(internal/reflectlite.Value).IsNil", "internal/reflectlite.TypeOf", "(internal/reflectlite.Value).Elem", "(internal/reflectlite.Value).Set"], unfollowed := true, recurses := true, named := ["errors.errorType"], apart := false, laid := [("errors.errorType", laid_errors_errorType)] }
def DeflateShortSaid : Prop := deflateShortRow.holds Tryz.pinned (OpenSpec.ofChange deflateShortSpec)

/-- ITS FALSE NEIGHBOUR: 'it returns false'. Refute it at one input. -/
def deflateShortWrong : ChangeSpec := { name := "deflateShort", fn := fun _ => fun
  | [d] => { results := [.lit (.bool false)], args := [d] }
  | _ => none }
def DeflateShortWrongFalsely : Prop := deflateShortRow.holds Tryz.pinned (OpenSpec.ofChange deflateShortWrong)

/-- 'fairleadlaw19.DeflateKnown': WHATEVER THE INPUT: true; the input reads as it did. -/
def deflateKnownSpec : ChangeSpec := { name := "deflateKnown", fn := fun _ => fun
  | [] => { results := [.lit (.bool true)], args := [] }
  | _ => none }
def deflateKnownRow : OpenClaim := { program := "ytfokgjhdndnnhaagreatdoor", sum := "939298fafa00cee443ae461c914e861dd8708866ead2bf0def6f18a6bef5b772", func := "fairlead/fairleadlaw19.DeflateKnown", spec := "deflateKnown", inPlace := ["slices.overlaps[fairlead/huff.node]", "internal/reflectlite.ValueOf", "(internal/reflectlite.Value).Type", "(internal/reflectlite.Value).IsNil", "internal/reflectlite.TypeOf", "(internal/reflectlite.Value).Elem", "(internal/reflectlite.Value).Set"], unfollowed := true, recurses := true, named := ["errors.errorType"], apart := false, laid := [("errors.errorType", laid_errors_errorType)] }
def DeflateKnownSaid : Prop := deflateKnownRow.holds Tryz.pinned (OpenSpec.ofChange deflateKnownSpec)

/-- ITS FALSE NEIGHBOUR: 'it returns false'. Refute it at one input. -/
def deflateKnownWrong : ChangeSpec := { name := "deflateKnown", fn := fun _ => fun
  | [] => { results := [.lit (.bool false)], args := [] }
  | _ => none }
def DeflateKnownWrongFalsely : Prop := deflateKnownRow.holds Tryz.pinned (OpenSpec.ofChange deflateKnownWrong)

/-- 'fairleadlaw19.DeflateAgain': WHATEVER THE INPUT: true; the input reads as it did. -/
def deflateAgainSpec : ChangeSpec := { name := "deflateAgain", fn := fun _ => fun
  | [d1, d2] => { results := [.lit (.bool true)], args := [d1, d2] }
  | _ => none }
def deflateAgainRow : OpenClaim := { program := "ytfokgjhdndnnhaagreatdoor", sum := "939298fafa00cee443ae461c914e861dd8708866ead2bf0def6f18a6bef5b772", func := "fairlead/fairleadlaw19.DeflateAgain", spec := "deflateAgain", inPlace := ["slices.overlaps[fairlead/huff.node]", "internal/reflectlite.ValueOf", "(internal/reflectlite.Value).Type", "(internal/reflectlite.Value).IsNil", "internal/reflectlite.TypeOf", "(internal/reflectlite.Value).Elem", "(internal/reflectlite.Value).Set"], unfollowed := true, recurses := true, named := ["errors.errorType"], apart := false, laid := [("errors.errorType", laid_errors_errorType)] }
def DeflateAgainSaid : Prop := deflateAgainRow.holds Tryz.pinned (OpenSpec.ofChange deflateAgainSpec)

/-- ITS FALSE NEIGHBOUR: 'it returns false'. Refute it at one input. -/
def deflateAgainWrong : ChangeSpec := { name := "deflateAgain", fn := fun _ => fun
  | [d1, d2] => { results := [.lit (.bool false)], args := [d1, d2] }
  | _ => none }
def DeflateAgainWrongFalsely : Prop := deflateAgainRow.holds Tryz.pinned (OpenSpec.ofChange deflateAgainWrong)

/-- 'fairleadlaw19.DeflateWindow': WHATEVER THE INPUT: true; the input reads as it did. -/
def deflateWindowSpec : ChangeSpec := { name := "deflateWindow", fn := fun _ => fun
  | [d1, d2, d3] => { results := [.lit (.bool true)], args := [d1, d2, d3] }
  | _ => none }
def deflateWindowRow : OpenClaim := { program := "ytfokgjhdndnnhaagreatdoor", sum := "939298fafa00cee443ae461c914e861dd8708866ead2bf0def6f18a6bef5b772", func := "fairlead/fairleadlaw19.DeflateWindow", spec := "deflateWindow", inPlace := ["slices.overlaps[fairlead/huff.node]", "internal/reflectlite.ValueOf", "(internal/reflectlite.Value).Type", "(internal/reflectlite.Value).IsNil", "internal/reflectlite.TypeOf", "(internal/reflectlite.Value).Elem", "(internal/reflectlite.Value).Set"], unfollowed := true, recurses := true, named := ["errors.errorType"], apart := false, laid := [("errors.errorType", laid_errors_errorType)] }
def DeflateWindowSaid : Prop := deflateWindowRow.holds Tryz.pinned (OpenSpec.ofChange deflateWindowSpec)

/-- ITS FALSE NEIGHBOUR: 'it returns false'. Refute it at one input. -/
def deflateWindowWrong : ChangeSpec := { name := "deflateWindow", fn := fun _ => fun
  | [d1, d2, d3] => { results := [.lit (.bool false)], args := [d1, d2, d3] }
  | _ => none }
def DeflateWindowWrongFalsely : Prop := deflateWindowRow.holds Tryz.pinned (OpenSpec.ofChange deflateWindowWrong)

/-- 'fairleadlaw19.DeflateBack': WHATEVER THE INPUT: true; the input reads as it did. -/
def deflateBackSpec : ChangeSpec := { name := "deflateBack", fn := fun _ => fun
  | [d1, d2] => { results := [.lit (.bool true)], args := [d1, d2] }
  | _ => none }
def deflateBackRow : OpenClaim := { program := "ytfokgjhdndnnhaagreatdoor", sum := "939298fafa00cee443ae461c914e861dd8708866ead2bf0def6f18a6bef5b772", func := "fairlead/fairleadlaw19.DeflateBack", spec := "deflateBack", inPlace := ["slices.overlaps[fairlead/huff.node]", "internal/reflectlite.ValueOf", "(internal/reflectlite.Value).Type", "(internal/reflectlite.Value).IsNil", "internal/reflectlite.TypeOf", "(internal/reflectlite.Value).Elem", "(internal/reflectlite.Value).Set"], unfollowed := true, recurses := true, named := ["errors.errorType"], apart := false, laid := [("errors.errorType", laid_errors_errorType)] }
def DeflateBackSaid : Prop := deflateBackRow.holds Tryz.pinned (OpenSpec.ofChange deflateBackSpec)

/-- ITS FALSE NEIGHBOUR: 'it returns false'. Refute it at one input. -/
def deflateBackWrong : ChangeSpec := { name := "deflateBack", fn := fun _ => fun
  | [d1, d2] => { results := [.lit (.bool false)], args := [d1, d2] }
  | _ => none }
def DeflateBackWrongFalsely : Prop := deflateBackRow.holds Tryz.pinned (OpenSpec.ofChange deflateBackWrong)

/- THE SECOND FORM. 'bulk': how many values and letters a reading holds, each counted each time it is reached (what is shared counts as often as it is met; a slice's spare places count too). A statement '..UptoSaid' is the law's where the arguments, and the package variables that the reading takes, are together of bulk at most 1048576: NARROWER than '..Said'. Prove '..Said' where nothing that the law and all that it calls make is longer than what came in: it says more and counts as full. Else prove '..UptoSaid'. A law counts once. -/
mutual
def uptoBulk {H : Type} : DataW H → Nat
  | .lit (.string bytes) => bytes.length + 1
  | .lit _ => 1
  | .nil => 1
  | .ptr d => uptoBulk d + 1
  | .slice elems spare => uptoBulkAll elems + uptoBulkAll spare + 1
  | .agg parts => uptoBulkAll parts + 1
  | .iface _ d => uptoBulk d + 1
  | .map entries => uptoBulkEntries entries + 1
  | .held _ => 1
def uptoBulkAll {H : Type} : List (DataW H) → Nat
  | [] => 0
  | d :: r => uptoBulk d + uptoBulkAll r
def uptoBulkEntries {H : Type} : List (Lit × DataW H) → Nat
  | [] => 0
  | x :: r => uptoBulkEntry x + uptoBulkEntries r
def uptoBulkEntry {H : Type} : Lit × DataW H → Nat
  | (.string bytes, d) => bytes.length + uptoBulk d + 1
  | (_, d) => uptoBulk d + 1
 end
def uptoSmall : (H : Type) → List (DataW H) → Bool := fun _ ds => decide (uptoBulkAll ds ≤ 1048576)
def OpenSpec.upto (s : _root_.Go.ChangeSpec) : _root_.Go.OpenSpec := { _root_.Go.OpenSpec.ofChange s with cond := some uptoSmall }

/-- 'fairleadlaw19.DeflateShort', WHERE WHAT IT READS IS OF BULK AT MOST 1048576: true; the input reads as it did. -/
def deflateShortUptoRow : OpenClaim := { program := "ytfokgjhdndnnhaagreatdoor", sum := "939298fafa00cee443ae461c914e861dd8708866ead2bf0def6f18a6bef5b772", func := "fairlead/fairleadlaw19.DeflateShort", spec := "deflateShort", inPlace := ["slices.overlaps[fairlead/huff.node]", "internal/reflectlite.ValueOf", "(internal/reflectlite.Value).Type", "(internal/reflectlite.Value).IsNil", "internal/reflectlite.TypeOf", "(internal/reflectlite.Value).Elem", "(internal/reflectlite.Value).Set"], unfollowed := true, recurses := true, named := ["errors.errorType"], apart := false, laid := [("errors.errorType", laid_errors_errorType)], narrowed := true }
def DeflateShortUptoSaid : Prop := deflateShortUptoRow.holds Tryz.pinned (OpenSpec.upto deflateShortSpec)

/-- 'fairleadlaw19.DeflateKnown', WHERE WHAT IT READS IS OF BULK AT MOST 1048576: true; the input reads as it did. -/
def deflateKnownUptoRow : OpenClaim := { program := "ytfokgjhdndnnhaagreatdoor", sum := "939298fafa00cee443ae461c914e861dd8708866ead2bf0def6f18a6bef5b772", func := "fairlead/fairleadlaw19.DeflateKnown", spec := "deflateKnown", inPlace := ["slices.overlaps[fairlead/huff.node]", "internal/reflectlite.ValueOf", "(internal/reflectlite.Value).Type", "(internal/reflectlite.Value).IsNil", "internal/reflectlite.TypeOf", "(internal/reflectlite.Value).Elem", "(internal/reflectlite.Value).Set"], unfollowed := true, recurses := true, named := ["errors.errorType"], apart := false, laid := [("errors.errorType", laid_errors_errorType)], narrowed := true }
def DeflateKnownUptoSaid : Prop := deflateKnownUptoRow.holds Tryz.pinned (OpenSpec.upto deflateKnownSpec)

/-- 'fairleadlaw19.DeflateAgain', WHERE WHAT IT READS IS OF BULK AT MOST 1048576: true; the input reads as it did. -/
def deflateAgainUptoRow : OpenClaim := { program := "ytfokgjhdndnnhaagreatdoor", sum := "939298fafa00cee443ae461c914e861dd8708866ead2bf0def6f18a6bef5b772", func := "fairlead/fairleadlaw19.DeflateAgain", spec := "deflateAgain", inPlace := ["slices.overlaps[fairlead/huff.node]", "internal/reflectlite.ValueOf", "(internal/reflectlite.Value).Type", "(internal/reflectlite.Value).IsNil", "internal/reflectlite.TypeOf", "(internal/reflectlite.Value).Elem", "(internal/reflectlite.Value).Set"], unfollowed := true, recurses := true, named := ["errors.errorType"], apart := false, laid := [("errors.errorType", laid_errors_errorType)], narrowed := true }
def DeflateAgainUptoSaid : Prop := deflateAgainUptoRow.holds Tryz.pinned (OpenSpec.upto deflateAgainSpec)

/-- 'fairleadlaw19.DeflateWindow', WHERE WHAT IT READS IS OF BULK AT MOST 1048576: true; the input reads as it did. -/
def deflateWindowUptoRow : OpenClaim := { program := "ytfokgjhdndnnhaagreatdoor", sum := "939298fafa00cee443ae461c914e861dd8708866ead2bf0def6f18a6bef5b772", func := "fairlead/fairleadlaw19.DeflateWindow", spec := "deflateWindow", inPlace := ["slices.overlaps[fairlead/huff.node]", "internal/reflectlite.ValueOf", "(internal/reflectlite.Value).Type", "(internal/reflectlite.Value).IsNil", "internal/reflectlite.TypeOf", "(internal/reflectlite.Value).Elem", "(internal/reflectlite.Value).Set"], unfollowed := true, recurses := true, named := ["errors.errorType"], apart := false, laid := [("errors.errorType", laid_errors_errorType)], narrowed := true }
def DeflateWindowUptoSaid : Prop := deflateWindowUptoRow.holds Tryz.pinned (OpenSpec.upto deflateWindowSpec)

/-- 'fairleadlaw19.DeflateBack', WHERE WHAT IT READS IS OF BULK AT MOST 1048576: true; the input reads as it did. -/
def deflateBackUptoRow : OpenClaim := { program := "ytfokgjhdndnnhaagreatdoor", sum := "939298fafa00cee443ae461c914e861dd8708866ead2bf0def6f18a6bef5b772", func := "fairlead/fairleadlaw19.DeflateBack", spec := "deflateBack", inPlace := ["slices.overlaps[fairlead/huff.node]", "internal/reflectlite.ValueOf", "(internal/reflectlite.Value).Type", "(internal/reflectlite.Value).IsNil", "internal/reflectlite.TypeOf", "(internal/reflectlite.Value).Elem", "(internal/reflectlite.Value).Set"], unfollowed := true, recurses := true, named := ["errors.errorType"], apart := false, laid := [("errors.errorType", laid_errors_errorType)], narrowed := true }
def DeflateBackUptoSaid : Prop := deflateBackUptoRow.holds Tryz.pinned (OpenSpec.upto deflateBackSpec)

end Rows
end Go.Proofs.YtfokgjhdndnnhaaGreatDoor
