/- What is asked, and what it says: server true, a magic number false. -/
import Derived.Test.YtinbldahpifinaaGreatDoorL43
set_option maxRecDepth 20000
noncomputable section
namespace Go.Proofs.YtinbldahpifinaaGreatDoor
open Go Go.Fl Go.Proofs

theorem askOk1 (mru500 pfc acfc accm0 mrru short : Bool) (h : short = true → mrru = true) : AskOk true false mru500 pfc acfc accm0 mrru short := by
  intro k bits stl mppc defl must tries frag
  cases mru500 <;> cases pfc <;> cases acfc <;> cases accm0 <;> cases mrru <;> cases short <;> first | (exact absurd (h rfl) (by decide)) | kernel_rfl

theorem readOk1 (mru500 pfc acfc accm0 mrru short : Bool) (h : short = true → mrru = true) : ReadOk true false mru500 pfc acfc accm0 mrru short := by
  intro k
  cases mru500 <;> cases pfc <;> cases acfc <;> cases accm0 <;> cases mrru <;> cases short <;> first | (exact absurd (h rfl) (by decide)) | kernel_rfl
end Go.Proofs.YtinbldahpifinaaGreatDoor
