/- PROVED: CcpAgrees returns true for every input, and the input reads as it did; with no condition. -/
import Derived.Test.YtmnbicoeahlpcaaRows
import Derived.WalkKit
import Derived.ProofKit
import Derived.OpenShut
import Derived.Test.YtmnbicoeahlpcaaL28
namespace Go.Proofs.Ytmnbicoeahlpcaa.ccpAgrees
open Go.ChangeShapes Go.WideShapes Go.ChangeAt Go.RowKit
set_option linter.unusedVariables false

theorem own : ownKnob Try.prog.godebug = none := by kernel_rfl

theorem laid : laidOutB Try.prog = true := by kernel_rfl
theorem rec46 : Try.prog.readableRec 46 = true := by kernel_rfl
theorem rec3 : Try.prog.readableRec 3 = true := by kernel_rfl
theorem row46 : 46 < Try.prog.types.size := of_decide_eq_true (by kernel_rfl)
theorem row3 : 3 < Try.prog.types.size := of_decide_eq_true (by kernel_rfl)

set_option maxRecDepth 100000 in
theorem walk {H : Type} {enc : TypeId × Value → H} (w : World) {v0 v1 v2 : Value} {d0 d1 d2 : DataW H} {p0 p1 p2 : List MemPlace} {rc : Reach} {b0 : Nat}
    (o0 : Value.okWide Try.prog w rc b0 3 v0) (o1 : Value.okWide Try.prog w rc b0 46 v1) (o2 : Value.okWide Try.prog w rc b0 46 v2)
    (h0 : DataW.Trod enc Try.prog w 0 (fun _ => true) true 3 v0 d0 p0) (h1 : DataW.Trod enc Try.prog w 0 (fun _ => true) true 46 v1 d1 p1) (h2 : DataW.Trod enc Try.prog w 0 (fun _ => true) true 46 v2 d2 p2) :
    Calls Try.prog 7 #[v0, v1, v2] w fun e w' => e = .returned (.bool true) ∧ Go.Fl.Kept w w' := by
  obtain ⟨a0, s0, r0⟩ := Go.Fl.arg_cell plain3 (Go.Fl.arg_int tU3 o0) h0
  obtain ⟨a1, s1, r1⟩ := Go.Fl.arg_cell plain46 (Go.Fl.arg_slice tU46 o1) h1
  obtain ⟨a2, s2, r2⟩ := Go.Fl.arg_cell plain46 (Go.Fl.arg_slice tU46 o2) h2
  obtain ⟨n, e0, _, _⟩ := s0.int_inv tU3
  obtain ⟨a, e1, g1⟩ := shp_opts s1
  obtain ⟨b, e2, g2⟩ := shp_opts s2
  cases e0; cases e1; cases e2
  exact Go.Fl.scalls_law (agrees_s n a b g1 g2) w (Go.Fl.vrs_three r0 r1 r2)

/-! ### THE ROW's STEP: WRITTEN OUT: LEAVE IT -/
set_option maxRecDepth 100000 in
theorem lifted (os : Os) (started : os.Started) (H : Type) (enc : TypeId × Value → H) :
    ReturnsInHanded {} Try.checked os 7 .any (Rows.ccpAgreesSpec.pre6 enc Try.prog Try.f7 Rows.ccpAgreesRow.domain false) (Rows.ccpAgreesSpec.post enc Try.prog Try.f7 false true false false) := by
  refine returnsInHanded_of_change (C := Try.checked) own started (by kernel_rfl) Try.func7
    (ChangeSpec.witness6 (enc := enc) (C := Try.checked) false ⟨#[], #[.int .i64 0, .slice none 0 0, .slice none 0 0], []⟩ 8 (by kernel_rfl) (by kernel_rfl) (by kernel_rfl) (by kernel_rfl)) ?_
  intro W base args ds gs before hval0 hW hcnd _
  have hval : ∀ (j : Nat) t v, Try.f7.params[j]? = some t → args[j]? = some v → Value.okWide Try.prog W .any base t v := hval0
  have hW' := hW
  obtain ⟨p, q, hA0, hV, rfl, hfz, hnd⟩ := hW
  have hA : DataW.TrodAll enc Try.prog W 0 (fun _ => true) true Try.f7.params.toList args.toList ds p := hA0
  rw [Try.params7] at hA hval
  obtain ⟨v0, v1, v2, d0, d1, d2, p0, p1, p2, rfl, rfl, rfl, t0, t1, t2⟩ := trodAll_three hA
  obtain ⟨rfl, rfl⟩ := trodVars_none hV
  clear hA0 hval0
  simp only [List.append_nil] at hW'
  refine (walk W (hval 0 3 v0 rfl rfl) (hval 1 46 v1 rfl rfl) (hval 2 46 v2 rfl rfl) t0 t1 t2).mono fun e W' ⟨he, hg⟩ => ?_
  subst he
  refine ⟨_, rfl, Go.Fl.post_of_kept (pa := p0 ++ (p1 ++ p2)) (pv := []) hW' (fun _ _ _ => (trodAll_cons_mk (shut_bool Try.underlying4 _) trodAll_mk0)) (fun sp hsp => ?_) (fun _ _ => rfl) (by simp)
    (hg.frame _)⟩
  rw [Try.params7]
  exact trodAll_mk3 (hg.trod laid rec3 row3 t0 fun x hx => hsp x (by simp [hx])) (hg.trod laid rec46 row46 t1 fun x hx => hsp x (by simp [hx])) (hg.trod laid rec46 row46 t2 fun x hx => hsp x (by simp [hx]))

theorem over : Rows.ccpAgreesRow.holds Try.pinned (OpenSpec.ofChange Rows.ccpAgreesSpec) :=
  OpenClaim.holds_of_wide 7 Try.f7 rfl rfl rfl rfl rfl rfl rfl ⟨rfl, rfl, rfl, rfl, rfl⟩ rfl rfl rfl rfl rfl (by kernel_rfl) Try.func7 (by kernel_rfl)
    (of_decide_eq_true (by kernel_rfl)) (by unfold Func.isWrapper; first | (rw [if_pos (by decide +kernel)]; kernel_rfl) | (rw [if_neg (by decide +kernel)]; exact ⟨rfl, rfl⟩))
    (fun os started H enc _ => lifted os started H enc)

/-- ████ THE STATEMENT ████ -/
theorem proved : Rows.CcpAgreesSaid :=
  over
end Go.Proofs.Ytmnbicoeahlpcaa.ccpAgrees
