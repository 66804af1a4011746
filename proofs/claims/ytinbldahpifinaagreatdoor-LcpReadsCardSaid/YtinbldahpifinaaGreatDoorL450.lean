/- How it is judged: server true, a magic number true. -/
import Derived.Test.YtinbldahpifinaaGreatDoorL43
set_option maxRecDepth 20000
noncomputable section
namespace Go.Proofs.YtinbldahpifinaaGreatDoor
open Go Go.Fl Go.Proofs

theorem j0_000000 : JudgeOk true true false false false false false false := by intro k; kernel_rfl
theorem j0_000010 : JudgeOk true true false false false false true false := by intro k; kernel_rfl
theorem j0_000011 : JudgeOk true true false false false false true true := by intro k; kernel_rfl
theorem j0_000100 : JudgeOk true true false false false true false false := by intro k; kernel_rfl
theorem j0_000110 : JudgeOk true true false false false true true false := by intro k; kernel_rfl
theorem j0_000111 : JudgeOk true true false false false true true true := by intro k; kernel_rfl
theorem j0_001000 : JudgeOk true true false false true false false false := by intro k; kernel_rfl
theorem j0_001010 : JudgeOk true true false false true false true false := by intro k; kernel_rfl
theorem j0_001011 : JudgeOk true true false false true false true true := by intro k; kernel_rfl
theorem j0_001100 : JudgeOk true true false false true true false false := by intro k; kernel_rfl
theorem j0_001110 : JudgeOk true true false false true true true false := by intro k; kernel_rfl
theorem j0_001111 : JudgeOk true true false false true true true true := by intro k; kernel_rfl
theorem j0_010000 : JudgeOk true true false true false false false false := by intro k; kernel_rfl
theorem j0_010010 : JudgeOk true true false true false false true false := by intro k; kernel_rfl
theorem j0_010011 : JudgeOk true true false true false false true true := by intro k; kernel_rfl
theorem j0_010100 : JudgeOk true true false true false true false false := by intro k; kernel_rfl
theorem j0_010110 : JudgeOk true true false true false true true false := by intro k; kernel_rfl
theorem j0_010111 : JudgeOk true true false true false true true true := by intro k; kernel_rfl
theorem j0_011000 : JudgeOk true true false true true false false false := by intro k; kernel_rfl
theorem j0_011010 : JudgeOk true true false true true false true false := by intro k; kernel_rfl
theorem j0_011011 : JudgeOk true true false true true false true true := by intro k; kernel_rfl
theorem j0_011100 : JudgeOk true true false true true true false false := by intro k; kernel_rfl
theorem j0_011110 : JudgeOk true true false true true true true false := by intro k; kernel_rfl
theorem j0_011111 : JudgeOk true true false true true true true true := by intro k; kernel_rfl
theorem j0_100000 : JudgeOk true true true false false false false false := by intro k; kernel_rfl
theorem j0_100010 : JudgeOk true true true false false false true false := by intro k; kernel_rfl
theorem j0_100011 : JudgeOk true true true false false false true true := by intro k; kernel_rfl
theorem j0_100100 : JudgeOk true true true false false true false false := by intro k; kernel_rfl
theorem j0_100110 : JudgeOk true true true false false true true false := by intro k; kernel_rfl
theorem j0_100111 : JudgeOk true true true false false true true true := by intro k; kernel_rfl
theorem j0_101000 : JudgeOk true true true false true false false false := by intro k; kernel_rfl
theorem j0_101010 : JudgeOk true true true false true false true false := by intro k; kernel_rfl
theorem j0_101011 : JudgeOk true true true false true false true true := by intro k; kernel_rfl
theorem j0_101100 : JudgeOk true true true false true true false false := by intro k; kernel_rfl
theorem j0_101110 : JudgeOk true true true false true true true false := by intro k; kernel_rfl
theorem j0_101111 : JudgeOk true true true false true true true true := by intro k; kernel_rfl
theorem j0_110000 : JudgeOk true true true true false false false false := by intro k; kernel_rfl
theorem j0_110010 : JudgeOk true true true true false false true false := by intro k; kernel_rfl
theorem j0_110011 : JudgeOk true true true true false false true true := by intro k; kernel_rfl
theorem j0_110100 : JudgeOk true true true true false true false false := by intro k; kernel_rfl
theorem j0_110110 : JudgeOk true true true true false true true false := by intro k; kernel_rfl
theorem j0_110111 : JudgeOk true true true true false true true true := by intro k; kernel_rfl
theorem j0_111000 : JudgeOk true true true true true false false false := by intro k; kernel_rfl
theorem j0_111010 : JudgeOk true true true true true false true false := by intro k; kernel_rfl
theorem j0_111011 : JudgeOk true true true true true false true true := by intro k; kernel_rfl
theorem j0_111100 : JudgeOk true true true true true true false false := by intro k; kernel_rfl
theorem j0_111110 : JudgeOk true true true true true true true false := by intro k; kernel_rfl
theorem j0_111111 : JudgeOk true true true true true true true true := by intro k; kernel_rfl

theorem judgeOk0 (mru500 pfc acfc accm0 mrru short : Bool) (h : short = true → mrru = true) : JudgeOk true true mru500 pfc acfc accm0 mrru short := by
  cases mru500 <;> cases pfc <;> cases acfc <;> cases accm0 <;> cases mrru <;> cases short <;> first | (exact absurd (h rfl) (by decide)) | skip
  · exact j0_000000
  · exact j0_000010
  · exact j0_000011
  · exact j0_000100
  · exact j0_000110
  · exact j0_000111
  · exact j0_001000
  · exact j0_001010
  · exact j0_001011
  · exact j0_001100
  · exact j0_001110
  · exact j0_001111
  · exact j0_010000
  · exact j0_010010
  · exact j0_010011
  · exact j0_010100
  · exact j0_010110
  · exact j0_010111
  · exact j0_011000
  · exact j0_011010
  · exact j0_011011
  · exact j0_011100
  · exact j0_011110
  · exact j0_011111
  · exact j0_100000
  · exact j0_100010
  · exact j0_100011
  · exact j0_100100
  · exact j0_100110
  · exact j0_100111
  · exact j0_101000
  · exact j0_101010
  · exact j0_101011
  · exact j0_101100
  · exact j0_101110
  · exact j0_101111
  · exact j0_110000
  · exact j0_110010
  · exact j0_110011
  · exact j0_110100
  · exact j0_110110
  · exact j0_110111
  · exact j0_111000
  · exact j0_111010
  · exact j0_111011
  · exact j0_111100
  · exact j0_111110
  · exact j0_111111
end Go.Proofs.YtinbldahpifinaaGreatDoor
