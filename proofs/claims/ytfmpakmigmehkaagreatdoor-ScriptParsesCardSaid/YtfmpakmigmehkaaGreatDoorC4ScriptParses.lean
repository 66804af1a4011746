/- PROVED: ScriptParses returns true for every input, and the input reads as it did; its row's package variables as the tied card lays them. -/
import Derived.Test.YtfmpakmigmehkaaGreatDoorRows
import Derived.WalkKit
import Derived.ProofKit
import Derived.OpenShut
import Derived.LaidMore
import Derived.Lay
import Derived.SevenTiedAt
import Derived.Test.YtfmpakmigmehkaaGreatDoorTie
import Derived.Test.YtfmpakmigmehkaaGreatDoorCards
import Derived.Test.YtfmpakmigmehkaaGreatDoorS40
import Derived.Test.YtfmpakmigmehkaaGreatDoorG1
namespace Go.Proofs.YtfmpakmigmehkaaGreatDoor.scriptParses
open Go.ChangeShapes Go.WideShapes Go.ChangeAt Go.RowKit
set_option linter.unusedVariables false

theorem own : ownKnob Tryz.prog.godebug = none := by kernel_rfl

theorem laid : laidOutB Tryz.prog = true := by kernel_rfl
theorem rec9 : Tryz.prog.readableRec 9 = true := by kernel_rfl
theorem row9 : 9 < Tryz.prog.types.size := of_decide_eq_true (by kernel_rfl)
theorem wants9 : Tryz.pinned.checked.prog.wantsStandIn 9 = false := by kernel_rfl
theorem plain9 : Go.Fl.plainT Tryz.prog 8 9 = true := by kernel_rfl

set_option maxRecDepth 100000 in
theorem walk {H : Type} {enc : TypeId × Value → H} (w : World) (hw : laidMetH Tryz.prog Rows.scriptParsesRow.laid w) (hsh : w.ShapedOpen Tryz.prog) {v0 : Value} {d0 : DataW H} {p0 : List MemPlace} {rc : Reach} {b0 : Nat}
    (o0 : Value.okWide Tryz.prog w rc b0 9 v0)
    (h0 : DataW.Trod enc Tryz.prog w 0 (fun _ => true) true 9 v0 d0 p0) :
    Calls Tryz.prog 3 #[v0] w fun e w' => e = .returned (.bool true) ∧ Go.Fl.Kept w w' := by
  obtain ⟨a0, s0, r0⟩ := Go.Fl.arg_cell plain9 (Go.Fl.arg_string tU9 o0) h0
  obtain ⟨s, e0, _⟩ := s0.str_inv tU9
  cases e0
  exact Go.Fl.scalls_law (parses_law s.data.toList) w (globs_met hw hsh) (Go.Fl.vrs_one r0)

/-- The variables that are plain data. -/
noncomputable def plain : List (String × DataW Unit) := Rows.scriptParsesRow.laid.filter fun x => x.2.handleName?.isNone

/-- A world that meets the row's condition. -/
noncomputable def laidWorld (os : Os) : World :=
  let w0 := World.laidAll Tryz.prog os plain
  { w0 with heap := w0.heap.modify 0 fun
      | .cells _ t frozen => .cells #[.iface 142 (.agg #[.pointer (some ⟨9, 57, none⟩)])] t frozen
      | o => o }
theorem laidWorld_met (os : Os) (args : Array Value) : laidMetH Tryz.prog Rows.scriptParsesRow.laid ((laidWorld os).forCall (fun _ _ => 0) ⟨#[], args, []⟩).memory :=
  laidMetH_of_parts (laidMet_of_run' 8 (by kernel_rfl) (by kernel_rfl)) (by kernel_rfl)

set_option maxRecDepth 100000 in
theorem lifted (os : Os) (started : os.Started) (H : Type) (enc : TypeId × Value → H) :
    ReturnsInHanded {} Tryz.checked os 3 .any (fun w args => (Rows.scriptParsesSpec.pre enc Tryz.prog Tryz.f3 [] false w args ∧ laidMetH Tryz.prog Rows.scriptParsesRow.laid w) ∧ sizedMet enc Tryz.prog Tryz.f3 (OpenSpec.ofChange Rows.scriptParsesSpec) false w args) (Rows.scriptParsesSpec.post enc Tryz.prog Tryz.f3 false true false false) := by
  refine handed_of (C := Tryz.checked) (X := fun w _ => laidMetH Tryz.prog Rows.scriptParsesRow.laid w) (fun _ _ _ hh h => h.of_heap hh) own started (by kernel_rfl) Tryz.func3
    (ChangeSpec.witness_shaped (enc := enc) (C := Tryz.checked) (os := os) (X := fun w _ => laidMetH Tryz.prog Rows.scriptParsesRow.laid w) false (laidWorld os) #[.string ByteArray.empty] 8 (World.laidAll_os _ _ _)
      (World.shaped_of_ZipB (by kernel_rfl) (by kernel_rfl)) (by kernel_rfl) (by kernel_rfl) (by kernel_rfl) (laidWorld_met os _)) ?_
  intro W base args ds gs before hval0 hW hsh hL
  have hval : ∀ (j : Nat) t v, Tryz.f3.params[j]? = some t → args[j]? = some v → Value.okWide Tryz.prog W .any base t v := hval0
  have hW' := hW
  obtain ⟨p, q, hA0, hV, rfl, hfz, hnd⟩ := hW
  have hA : DataW.TrodAll enc Tryz.prog W 0 (fun _ => true) true Tryz.f3.params.toList args.toList ds p := hA0
  rw [Tryz.params3] at hA hval
  obtain ⟨v0, d0, rfl, rfl, t0⟩ := trodAll_one hA
  obtain ⟨rfl, rfl⟩ := trodVars_none hV
  clear hA0 hval0
  simp only [List.append_nil] at hW'
  refine (walk W hL hsh (hval 0 9 v0 rfl rfl) t0).mono fun e W' ⟨he, hg⟩ => ?_
  subst he
  refine ⟨_, rfl, Go.Fl.post_of_kept (pa := p) (pv := []) hW' (fun _ _ _ => (trodAll_cons_mk (shut_bool Tryz.underlying4 _) trodAll_mk0)) (fun sp hsp => ?_) (fun _ _ => rfl) (by simp)
    (hg.frame _)⟩
  rw [Tryz.params3]
  exact trodAll_mk1 (hg.trod laid rec9 row9 t0 fun x hx => hsp x (by simp [hx]))

theorem over : Rows.scriptParsesRow.holds Tryz.pinned (OpenSpec.ofChange Rows.scriptParsesSpec) :=
  OpenClaim.holds_of_wide 3 Tryz.f3 rfl rfl rfl rfl rfl rfl rfl ⟨rfl, rfl, rfl, rfl, rfl⟩ rfl rfl rfl rfl rfl (by kernel_rfl) Tryz.func3 (by kernel_rfl)
    (of_decide_eq_true (by kernel_rfl)) (by unfold Func.isWrapper; first | (rw [if_pos (by decide +kernel)]; kernel_rfl) | (rw [if_neg (by decide +kernel)]; exact ⟨rfl, rfl⟩))
    (fun os started H enc _ => lifted os started H enc)

/-- THE STATEMENT: the tied card. -/
theorem proved : Rows.ScriptParsesCardSaid :=
  Claim7.holds_tied_plain_at .later [] [.data, .data, .data, .data, .handle, .sentinel, .sentinel, .pinned] true (true, "fed3e70c90184914414a2cbd7a2abed75331228c5790f908c3e50c3bd6c72a23") true
    over (fun _ h => by cases h) (by kernel_rfl) (fun _ h => by cases h) scriptParses_row_tie rfl ⟨rfl, rfl⟩ (by kernel_rfl) rfl
    (fun f fn hf hfn => by
      obtain rfl : f = 3 := Option.some.inj ((show Tryz.prog.funcNamed Rows.scriptParsesRow.func = some 3 by kernel_rfl).symm.trans hf) |>.symm
      obtain rfl : fn = Tryz.f3 := (Option.some.inj (Tryz.func3.symm.trans hfn)).symm
      exact ⟨by kernel_rfl, fun j t ht => by
        rw [Tryz.params3] at ht
        match j with
        | 0 => cases ht; exact wants9
        | _ + 1 => simp at ht⟩)
    (by kernel_rfl)
end Go.Proofs.YtfmpakmigmehkaaGreatDoor.scriptParses
