/- How it is judged: server false, a magic number false. -/
import Derived.Test.YtinbldahpifinaaGreatDoorL43
set_option maxRecDepth 20000
noncomputable section
namespace Go.Proofs.YtinbldahpifinaaGreatDoor
open Go Go.Fl Go.Proofs

theorem j3_000000 : JudgeOk false false false false false false false false := by intro k; kernel_rfl
theorem j3_000010 : JudgeOk false false false false false false true false := by intro k; kernel_rfl
theorem j3_000011 : JudgeOk false false false false false false true true := by intro k; kernel_rfl
theorem j3_000100 : JudgeOk false false false false false true false false := by intro k; kernel_rfl
theorem j3_000110 : JudgeOk false false false false false true true false := by intro k; kernel_rfl
theorem j3_000111 : JudgeOk false false false false false true true true := by intro k; kernel_rfl
theorem j3_001000 : JudgeOk false false false false true false false false := by intro k; kernel_rfl
theorem j3_001010 : JudgeOk false false false false true false true false := by intro k; kernel_rfl
theorem j3_001011 : JudgeOk false false false false true false true true := by intro k; kernel_rfl
theorem j3_001100 : JudgeOk false false false false true true false false := by intro k; kernel_rfl
theorem j3_001110 : JudgeOk false false false false true true true false := by intro k; kernel_rfl
theorem j3_001111 : JudgeOk false false false false true true true true := by intro k; kernel_rfl
theorem j3_010000 : JudgeOk false false false true false false false false := by intro k; kernel_rfl
theorem j3_010010 : JudgeOk false false false true false false true false := by intro k; kernel_rfl
theorem j3_010011 : JudgeOk false false false true false false true true := by intro k; kernel_rfl
theorem j3_010100 : JudgeOk false false false true false true false false := by intro k; kernel_rfl
theorem j3_010110 : JudgeOk false false false true false true true false := by intro k; kernel_rfl
theorem j3_010111 : JudgeOk false false false true false true true true := by intro k; kernel_rfl
theorem j3_011000 : JudgeOk false false false true true false false false := by intro k; kernel_rfl
theorem j3_011010 : JudgeOk false false false true true false true false := by intro k; kernel_rfl
theorem j3_011011 : JudgeOk false false false true true false true true := by intro k; kernel_rfl
theorem j3_011100 : JudgeOk false false false true true true false false := by intro k; kernel_rfl
theorem j3_011110 : JudgeOk false false false true true true true false := by intro k; kernel_rfl
theorem j3_011111 : JudgeOk false false false true true true true true := by intro k; kernel_rfl
theorem j3_100000 : JudgeOk false false true false false false false false := by intro k; kernel_rfl
theorem j3_100010 : JudgeOk false false true false false false true false := by intro k; kernel_rfl
theorem j3_100011 : JudgeOk false false true false false false true true := by intro k; kernel_rfl
theorem j3_100100 : JudgeOk false false true false false true false false := by intro k; kernel_rfl
theorem j3_100110 : JudgeOk false false true false false true true false := by intro k; kernel_rfl
theorem j3_100111 : JudgeOk false false true false false true true true := by intro k; kernel_rfl
theorem j3_101000 : JudgeOk false false true false true false false false := by intro k; kernel_rfl
theorem j3_101010 : JudgeOk false false true false true false true false := by intro k; kernel_rfl
theorem j3_101011 : JudgeOk false false true false true false true true := by intro k; kernel_rfl
theorem j3_101100 : JudgeOk false false true false true true false false := by intro k; kernel_rfl
theorem j3_101110 : JudgeOk false false true false true true true false := by intro k; kernel_rfl
theorem j3_101111 : JudgeOk false false true false true true true true := by intro k; kernel_rfl
theorem j3_110000 : JudgeOk false false true true false false false false := by intro k; kernel_rfl
theorem j3_110010 : JudgeOk false false true true false false true false := by intro k; kernel_rfl
theorem j3_110011 : JudgeOk false false true true false false true true := by intro k; kernel_rfl
theorem j3_110100 : JudgeOk false false true true false true false false := by intro k; kernel_rfl
theorem j3_110110 : JudgeOk false false true true false true true false := by intro k; kernel_rfl
theorem j3_110111 : JudgeOk false false true true false true true true := by intro k; kernel_rfl
theorem j3_111000 : JudgeOk false false true true true false false false := by intro k; kernel_rfl
theorem j3_111010 : JudgeOk false false true true true false true false := by intro k; kernel_rfl
theorem j3_111011 : JudgeOk false false true true true false true true := by intro k; kernel_rfl
theorem j3_111100 : JudgeOk false false true true true true false false := by intro k; kernel_rfl
theorem j3_111110 : JudgeOk false false true true true true true false := by intro k; kernel_rfl
theorem j3_111111 : JudgeOk false false true true true true true true := by intro k; kernel_rfl

theorem judgeOk3 (mru500 pfc acfc accm0 mrru short : Bool) (h : short = true → mrru = true) : JudgeOk false false mru500 pfc acfc accm0 mrru short := by
  cases mru500 <;> cases pfc <;> cases acfc <;> cases accm0 <;> cases mrru <;> cases short <;> first | (exact absurd (h rfl) (by decide)) | skip
  · exact j3_000000
  · exact j3_000010
  · exact j3_000011
  · exact j3_000100
  · exact j3_000110
  · exact j3_000111
  · exact j3_001000
  · exact j3_001010
  · exact j3_001011
  · exact j3_001100
  · exact j3_001110
  · exact j3_001111
  · exact j3_010000
  · exact j3_010010
  · exact j3_010011
  · exact j3_010100
  · exact j3_010110
  · exact j3_010111
  · exact j3_011000
  · exact j3_011010
  · exact j3_011011
  · exact j3_011100
  · exact j3_011110
  · exact j3_011111
  · exact j3_100000
  · exact j3_100010
  · exact j3_100011
  · exact j3_100100
  · exact j3_100110
  · exact j3_100111
  · exact j3_101000
  · exact j3_101010
  · exact j3_101011
  · exact j3_101100
  · exact j3_101110
  · exact j3_101111
  · exact j3_110000
  · exact j3_110010
  · exact j3_110011
  · exact j3_110100
  · exact j3_110110
  · exact j3_110111
  · exact j3_111000
  · exact j3_111010
  · exact j3_111011
  · exact j3_111100
  · exact j3_111110
  · exact j3_111111
end Go.Proofs.YtinbldahpifinaaGreatDoor
