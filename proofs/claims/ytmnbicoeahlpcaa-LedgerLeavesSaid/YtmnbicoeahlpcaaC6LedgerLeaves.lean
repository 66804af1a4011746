/- PROVED: LedgerLeaves returns true for every input, and the input reads as it did; with no condition. -/
import Derived.Test.YtmnbicoeahlpcaaRows
import Derived.WalkKit
import Derived.ProofKit
import Derived.OpenShut
import Derived.Test.YtmnbicoeahlpcaaL17
namespace Go.Proofs.Ytmnbicoeahlpcaa.ledgerLeaves
open Go.ChangeShapes Go.WideShapes Go.ChangeAt Go.RowKit
set_option linter.unusedVariables false

theorem own : ownKnob Try.prog.godebug = none := by kernel_rfl

theorem laid : laidOutB Try.prog = true := by kernel_rfl
theorem rec31 : Try.prog.readableRec 31 = true := by kernel_rfl
theorem rec25 : Try.prog.readableRec 25 = true := by kernel_rfl
theorem row25 : 25 < Try.prog.types.size := of_decide_eq_true (by kernel_rfl)
theorem row31 : 31 < Try.prog.types.size := of_decide_eq_true (by kernel_rfl)

set_option maxRecDepth 100000 in
theorem walk {H : Type} {enc : TypeId × Value → H} (w : World) {v0 v1 : Value} {d0 d1 : DataW H} {p0 p1 : List MemPlace} {rc : Reach} {b0 : Nat}
    (o0 : Value.okWide Try.prog w rc b0 31 v0) (o1 : Value.okWide Try.prog w rc b0 25 v1)
    (h0 : DataW.Trod enc Try.prog w 0 (fun _ => true) true 31 v0 d0 p0) (h1 : DataW.Trod enc Try.prog w 0 (fun _ => true) true 25 v1 d1 p1) :
    Calls Try.prog 5 #[v0, v1] w fun e w' => e = .returned (.bool true) ∧ Go.Fl.Kept w w' := by
  obtain ⟨a0, s0, r0⟩ := Go.Fl.arg_cell plain31 (Go.Fl.arg_slice tU31 o0) h0
  obtain ⟨a1, s1, r1⟩ := Go.Fl.arg_cell plain25 (Go.Fl.arg_slice tU25 o1) h1
  obtain ⟨a, e0, g0⟩ := shp_sents s0
  obtain ⟨b, e1, _, g1⟩ := shp_bytes s1
  cases e0; cases e1
  exact Go.Fl.scalls_law (leaves_s a b g0 g1) w (Go.Fl.vrs_two r0 r1)

/-! ### THE ROW's STEP: WRITTEN OUT: LEAVE IT -/
set_option maxRecDepth 100000 in
theorem lifted (os : Os) (started : os.Started) (H : Type) (enc : TypeId × Value → H) :
    ReturnsInHanded {} Try.checked os 5 .any (Rows.ledgerLeavesSpec.pre6 enc Try.prog Try.f5 Rows.ledgerLeavesRow.domain false) (Rows.ledgerLeavesSpec.post enc Try.prog Try.f5 false true false false) := by
  refine returnsInHanded_of_change (C := Try.checked) own started (by kernel_rfl) Try.func5
    (ChangeSpec.witness6 (enc := enc) (C := Try.checked) false ⟨#[], #[.slice none 0 0, .slice none 0 0], []⟩ 8 (by kernel_rfl) (by kernel_rfl) (by kernel_rfl) (by kernel_rfl)) ?_
  intro W base args ds gs before hval0 hW hcnd _
  have hval : ∀ (j : Nat) t v, Try.f5.params[j]? = some t → args[j]? = some v → Value.okWide Try.prog W .any base t v := hval0
  have hW' := hW
  obtain ⟨p, q, hA0, hV, rfl, hfz, hnd⟩ := hW
  have hA : DataW.TrodAll enc Try.prog W 0 (fun _ => true) true Try.f5.params.toList args.toList ds p := hA0
  rw [Try.params5] at hA hval
  obtain ⟨v0, v1, d0, d1, p0, p1, rfl, rfl, rfl, t0, t1⟩ := trodAll_two hA
  obtain ⟨rfl, rfl⟩ := trodVars_none hV
  clear hA0 hval0
  simp only [List.append_nil] at hW'
  refine (walk W (hval 0 31 v0 rfl rfl) (hval 1 25 v1 rfl rfl) t0 t1).mono fun e W' ⟨he, hg⟩ => ?_
  subst he
  refine ⟨_, rfl, Go.Fl.post_of_kept (pa := p0 ++ p1) (pv := []) hW' (fun _ _ _ => (trodAll_cons_mk (shut_bool Try.underlying4 _) trodAll_mk0)) (fun sp hsp => ?_) (fun _ _ => rfl) (by simp)
    (hg.frame _)⟩
  rw [Try.params5]
  exact trodAll_mk2 (hg.trod laid rec31 row31 t0 fun x hx => hsp x (by simp [hx])) (hg.trod laid rec25 row25 t1 fun x hx => hsp x (by simp [hx]))

theorem over : Rows.ledgerLeavesRow.holds Try.pinned (OpenSpec.ofChange Rows.ledgerLeavesSpec) :=
  OpenClaim.holds_of_wide 5 Try.f5 rfl rfl rfl rfl rfl rfl rfl ⟨rfl, rfl, rfl, rfl, rfl⟩ rfl rfl rfl rfl rfl (by kernel_rfl) Try.func5 (by kernel_rfl)
    (of_decide_eq_true (by kernel_rfl)) (by unfold Func.isWrapper; first | (rw [if_pos (by decide +kernel)]; kernel_rfl) | (rw [if_neg (by decide +kernel)]; exact ⟨rfl, rfl⟩))
    (fun os started H enc _ => lifted os started H enc)

/-- ████ THE STATEMENT ████ -/
theorem proved : Rows.LedgerLeavesSaid :=
  over
end Go.Proofs.Ytmnbicoeahlpcaa.ledgerLeaves
