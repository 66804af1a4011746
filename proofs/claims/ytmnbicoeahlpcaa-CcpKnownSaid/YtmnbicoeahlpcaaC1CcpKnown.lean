/- PROVED: CcpKnown returns true for every input (it has none), with no condition. -/
import Derived.Test.YtmnbicoeahlpcaaRows
import Derived.WalkKit
import Derived.ProofKit
import Derived.OpenShut
import Derived.Test.YtmnbicoeahlpcaaFl24
import Derived.Test.YtmnbicoeahlpcaaT1Types
namespace Go.Proofs.Ytmnbicoeahlpcaa.ccpKnown
open Go.ChangeShapes Go.WideShapes Go.ChangeAt Go.RowKit
set_option linter.unusedVariables false      -- a walk need not use every 'w<i>' (that an integer argument fits its kind)

theorem own : ownKnob Try.prog.godebug = none := by kernel_rfl

theorem enters : ∀ f ∈ [8, 21, 27, 33, 35, 24, 30, 50, 37, 40, 41, 43, 45, 46, 47, 52, 53, 54, 55], Go.Fl.Enters Try.prog f := by
  simp
  exact ⟨Try.call8, Try.call21, Try.call27, Try.call33, Try.call35, Try.call24, Try.call30, Try.call50, Try.call37, Try.call40, Try.call41, Try.call43, Try.call45, Try.call46, Try.call47, Try.call52, Try.call53, Try.call54, Try.call55⟩

theorem ran : Go.Fl.plainly (.bool true) (Go.Fl.ecall Try.prog [8, 21, 27, 33, 35, 24, 30, 50, 37, 40, 41, 43, 45, 46, 47, 52, 53, 54, 55] 9 8 [] Go.Fl.Heap.empty) = true := by kernel_rfl

theorem walk (w : World) : Calls Try.prog 8 #[] w fun e w' => e = .returned (.bool true) ∧ Grown w w' :=
  Go.Fl.scalls_law0 (Go.Fl.ecall_plain mixed enters 9 ran) w

/-! ### THE ROW's STEP: WRITTEN OUT: LEAVE IT -/
set_option maxRecDepth 100000 in
theorem lifted (os : Os) (started : os.Started) (H : Type) (enc : TypeId × Value → H) :
    ReturnsInHanded {} Try.checked os 8 .any (Rows.ccpKnownSpec.pre6 enc Try.prog Try.f8 Rows.ccpKnownRow.domain false) (Rows.ccpKnownSpec.post enc Try.prog Try.f8 false true false false) := by
  refine returnsInHanded_of_change (C := Try.checked) own started (by kernel_rfl) Try.func8
    (ChangeSpec.witness6 (enc := enc) (C := Try.checked) false ⟨#[], #[], []⟩ 8 (by kernel_rfl) (by kernel_rfl) (by kernel_rfl) (by kernel_rfl)) ?_
  intro W base args ds gs before hval0 hW hcnd _
  have hval : ∀ (j : Nat) t v, Try.f8.params[j]? = some t → args[j]? = some v → Value.okWide Try.prog W .any base t v := hval0
  have hW' := hW
  obtain ⟨p, q, hA0, hV, rfl, hfz, hnd⟩ := hW
  have hA : DataW.TrodAll enc Try.prog W 0 (fun _ => true) true Try.f8.params.toList args.toList ds p := hA0
  rw [Try.params8] at hA hval
  obtain ⟨rfl, rfl, rfl⟩ := trodAll_none hA
  obtain ⟨rfl, rfl⟩ := trodVars_none hV
  clear hA0 hval0
  simp only [List.append_nil] at hW'
  refine (walk  W).mono fun e W' ⟨he, hg⟩ => ?_
  subst he
  exact ⟨_, rfl, post_of_same (pa := []) (pv := []) hW' (fun _ _ _ => (trodAll_cons_mk (shut_bool Try.underlying4 _) trodAll_mk0)) (fun sp _ => rfl) (fun _ _ => rfl) rfl
    (hg.frame _) hg.2.1 (ok_one (by kernel_rfl) rfl (okWide_bool_mk Try.underlying4 _))⟩

theorem over : Rows.ccpKnownRow.holds Try.pinned (OpenSpec.ofChange Rows.ccpKnownSpec) :=
  OpenClaim.holds_of_wide 8 Try.f8 rfl rfl rfl rfl rfl rfl rfl ⟨rfl, rfl, rfl, rfl, rfl⟩ rfl rfl rfl rfl rfl (by kernel_rfl) Try.func8 (by kernel_rfl)
    (of_decide_eq_true (by kernel_rfl)) (by unfold Func.isWrapper; first | (rw [if_pos (by decide +kernel)]; kernel_rfl) | (rw [if_neg (by decide +kernel)]; exact ⟨rfl, rfl⟩))
    (fun os started H enc _ => lifted os started H enc)

/-- ████ THE STATEMENT ████ -/
theorem proved : Rows.CcpKnownSaid :=
  over
end Go.Proofs.Ytmnbicoeahlpcaa.ccpKnown
