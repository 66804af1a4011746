/- The package variables that are known, by number: their cells. (Seat: errors.errorType, unicode/utf8.first, unicode/utf8.acceptRanges.) -/
import Derived.LoopIn
set_option linter.unusedVariables false
set_option linter.unusedSimpArgs false
namespace Go.Fl
open Go
def u8vals (l : List Nat) : List Value := l.map fun n => .int .u8 (Int.ofNat n)
/-- unicode/utf8.first. -/
def firstTab : List Nat := List.replicate 128 240 ++ List.replicate 66 241 ++ List.replicate 30 2 ++ [19] ++ List.replicate 12 3 ++ [35, 3, 3, 52, 4, 4, 4, 68] ++ List.replicate 11 241
/-- unicode/utf8.acceptRanges. -/
def acceptTab : List Nat := [128, 191, 160, 191, 128, 159, 144, 191, 128, 143] ++ List.replicate 22 0
def globCells : Nat → Option (List Value)
  | 0 => some [.iface 156 (.agg #[.pointer (some ⟨3, 87, none⟩)])]
  | 1 => some (u8vals firstTab)
  | 2 => some (u8vals acceptTab)
  | _ => none
/-- The types that are slices of bytes. -/
def bytesT (t : Nat) : Bool := Nat.beq t 51
theorem bytesT_eq (t : Nat) : bytesT t = (t == 51) := by
  unfold bytesT
  rw [Bool.eq_iff_iff]
  simp
end Go.Fl
