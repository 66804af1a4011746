/- How it is judged: server false, a magic number true. -/
import Derived.Test.YtinbldahpifinaaGreatDoorL43
set_option maxRecDepth 20000
noncomputable section
namespace Go.Proofs.YtinbldahpifinaaGreatDoor
open Go Go.Fl Go.Proofs

theorem j2_000000 : JudgeOk false true false false false false false false := by intro k; kernel_rfl
theorem j2_000010 : JudgeOk false true false false false false true false := by intro k; kernel_rfl
theorem j2_000011 : JudgeOk false true false false false false true true := by intro k; kernel_rfl
theorem j2_000100 : JudgeOk false true false false false true false false := by intro k; kernel_rfl
theorem j2_000110 : JudgeOk false true false false false true true false := by intro k; kernel_rfl
theorem j2_000111 : JudgeOk false true false false false true true true := by intro k; kernel_rfl
theorem j2_001000 : JudgeOk false true false false true false false false := by intro k; kernel_rfl
theorem j2_001010 : JudgeOk false true false false true false true false := by intro k; kernel_rfl
theorem j2_001011 : JudgeOk false true false false true false true true := by intro k; kernel_rfl
theorem j2_001100 : JudgeOk false true false false true true false false := by intro k; kernel_rfl
theorem j2_001110 : JudgeOk false true false false true true true false := by intro k; kernel_rfl
theorem j2_001111 : JudgeOk false true false false true true true true := by intro k; kernel_rfl
theorem j2_010000 : JudgeOk false true false true false false false false := by intro k; kernel_rfl
theorem j2_010010 : JudgeOk false true false true false false true false := by intro k; kernel_rfl
theorem j2_010011 : JudgeOk false true false true false false true true := by intro k; kernel_rfl
theorem j2_010100 : JudgeOk false true false true false true false false := by intro k; kernel_rfl
theorem j2_010110 : JudgeOk false true false true false true true false := by intro k; kernel_rfl
theorem j2_010111 : JudgeOk false true false true false true true true := by intro k; kernel_rfl
theorem j2_011000 : JudgeOk false true false true true false false false := by intro k; kernel_rfl
theorem j2_011010 : JudgeOk false true false true true false true false := by intro k; kernel_rfl
theorem j2_011011 : JudgeOk false true false true true false true true := by intro k; kernel_rfl
theorem j2_011100 : JudgeOk false true false true true true false false := by intro k; kernel_rfl
theorem j2_011110 : JudgeOk false true false true true true true false := by intro k; kernel_rfl
theorem j2_011111 : JudgeOk false true false true true true true true := by intro k; kernel_rfl
theorem j2_100000 : JudgeOk false true true false false false false false := by intro k; kernel_rfl
theorem j2_100010 : JudgeOk false true true false false false true false := by intro k; kernel_rfl
theorem j2_100011 : JudgeOk false true true false false false true true := by intro k; kernel_rfl
theorem j2_100100 : JudgeOk false true true false false true false false := by intro k; kernel_rfl
theorem j2_100110 : JudgeOk false true true false false true true false := by intro k; kernel_rfl
theorem j2_100111 : JudgeOk false true true false false true true true := by intro k; kernel_rfl
theorem j2_101000 : JudgeOk false true true false true false false false := by intro k; kernel_rfl
theorem j2_101010 : JudgeOk false true true false true false true false := by intro k; kernel_rfl
theorem j2_101011 : JudgeOk false true true false true false true true := by intro k; kernel_rfl
theorem j2_101100 : JudgeOk false true true false true true false false := by intro k; kernel_rfl
theorem j2_101110 : JudgeOk false true true false true true true false := by intro k; kernel_rfl
theorem j2_101111 : JudgeOk false true true false true true true true := by intro k; kernel_rfl
theorem j2_110000 : JudgeOk false true true true false false false false := by intro k; kernel_rfl
theorem j2_110010 : JudgeOk false true true true false false true false := by intro k; kernel_rfl
theorem j2_110011 : JudgeOk false true true true false false true true := by intro k; kernel_rfl
theorem j2_110100 : JudgeOk false true true true false true false false := by intro k; kernel_rfl
theorem j2_110110 : JudgeOk false true true true false true true false := by intro k; kernel_rfl
theorem j2_110111 : JudgeOk false true true true false true true true := by intro k; kernel_rfl
theorem j2_111000 : JudgeOk false true true true true false false false := by intro k; kernel_rfl
theorem j2_111010 : JudgeOk false true true true true false true false := by intro k; kernel_rfl
theorem j2_111011 : JudgeOk false true true true true false true true := by intro k; kernel_rfl
theorem j2_111100 : JudgeOk false true true true true true false false := by intro k; kernel_rfl
theorem j2_111110 : JudgeOk false true true true true true true false := by intro k; kernel_rfl
theorem j2_111111 : JudgeOk false true true true true true true true := by intro k; kernel_rfl

theorem judgeOk2 (mru500 pfc acfc accm0 mrru short : Bool) (h : short = true → mrru = true) : JudgeOk false true mru500 pfc acfc accm0 mrru short := by
  cases mru500 <;> cases pfc <;> cases acfc <;> cases accm0 <;> cases mrru <;> cases short <;> first | (exact absurd (h rfl) (by decide)) | skip
  · exact j2_000000
  · exact j2_000010
  · exact j2_000011
  · exact j2_000100
  · exact j2_000110
  · exact j2_000111
  · exact j2_001000
  · exact j2_001010
  · exact j2_001011
  · exact j2_001100
  · exact j2_001110
  · exact j2_001111
  · exact j2_010000
  · exact j2_010010
  · exact j2_010011
  · exact j2_010100
  · exact j2_010110
  · exact j2_010111
  · exact j2_011000
  · exact j2_011010
  · exact j2_011011
  · exact j2_011100
  · exact j2_011110
  · exact j2_011111
  · exact j2_100000
  · exact j2_100010
  · exact j2_100011
  · exact j2_100100
  · exact j2_100110
  · exact j2_100111
  · exact j2_101000
  · exact j2_101010
  · exact j2_101011
  · exact j2_101100
  · exact j2_101110
  · exact j2_101111
  · exact j2_110000
  · exact j2_110010
  · exact j2_110011
  · exact j2_110100
  · exact j2_110110
  · exact j2_110111
  · exact j2_111000
  · exact j2_111010
  · exact j2_111011
  · exact j2_111100
  · exact j2_111110
  · exact j2_111111
end Go.Proofs.YtinbldahpifinaaGreatDoor
