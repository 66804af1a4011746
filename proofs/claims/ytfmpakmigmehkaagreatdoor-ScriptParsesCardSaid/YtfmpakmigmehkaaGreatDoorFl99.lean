/- The package variables that are known, by number: their cells. (Seat: errors.errorType, internal/strconv.uint64pow10.) -/
import Derived.LoopIn
set_option linter.unusedVariables false
set_option linter.unusedSimpArgs false
namespace Go.Fl
open Go
def globCells : Nat → Option (List Value)
  | 0 => some [.iface 142 (.agg #[.pointer (some ⟨9, 57, none⟩)])]
  | 2 => some ((List.range 20).map fun i => .int .u64 (10 ^ i))
  | _ => none
/-- Those of which the kind of what they hold is known: internal/bytealg.MaxLen, strconv.ErrSyntax, strconv.ErrRange. -/
def globLike : Nat → Option (Array Value → Prop)
  | 1 => some fun a => ∃ m, a = #[.int .i64 m]
  | 5 => some fun a => ∃ t p, a = #[.iface t p]
  | 6 => some fun a => ∃ t p, a = #[.iface t p]
  | _ => none
/-- Which conversions of a text to bytes are kept, never written: all but the one whose slot is 41. -/
def keepD : Option Nat → Bool
  | some 41 => false
  | _ => true
/-- The types that are slices of bytes. -/
def bytesT (t : Nat) : Bool := Nat.beq t 42
theorem bytesT_eq (t : Nat) : bytesT t = (t == 42) := by
  unfold bytesT
  rw [Bool.eq_iff_iff]
  simp
end Go.Fl
