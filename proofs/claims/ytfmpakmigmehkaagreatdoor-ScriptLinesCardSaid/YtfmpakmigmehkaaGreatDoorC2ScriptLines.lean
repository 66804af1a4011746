/- PROVED: ScriptLines returns true for every input, and the input reads as it did; its row's package variables as the tied card lays them. -/
import Derived.Test.YtfmpakmigmehkaaGreatDoorRows
import Derived.WalkKit
import Derived.ProofKit
import Derived.OpenShut
import Derived.LaidMore
import Derived.Lay
import Derived.SevenTiedAt
import Derived.Test.YtfmpakmigmehkaaGreatDoorTie
import Derived.Test.YtfmpakmigmehkaaGreatDoorCards
import Derived.Test.YtfmpakmigmehkaaGreatDoorS29
import Derived.Test.YtfmpakmigmehkaaGreatDoorG3
namespace Go.Proofs.YtfmpakmigmehkaaGreatDoor.scriptLines
open Go.ChangeShapes Go.WideShapes Go.ChangeAt Go.RowKit
set_option linter.unusedVariables false

theorem own : ownKnob Tryz.prog.godebug = none := by kernel_rfl

theorem laid : laidOutB Tryz.prog = true := by kernel_rfl
theorem rec3 : Tryz.prog.readableRec 3 = true := by kernel_rfl
theorem row3 : 3 < Tryz.prog.types.size := of_decide_eq_true (by kernel_rfl)
theorem wants3 : Tryz.pinned.checked.prog.wantsStandIn 3 = false := by kernel_rfl
theorem plain3 : Go.Fl.plainT Tryz.prog 8 3 = true := by kernel_rfl
theorem rec30 : Tryz.prog.readableRec 30 = true := by kernel_rfl
theorem row30 : 30 < Tryz.prog.types.size := of_decide_eq_true (by kernel_rfl)
theorem wants30 : Tryz.pinned.checked.prog.wantsStandIn 30 = false := by kernel_rfl
theorem plain30 : Go.Fl.plainT Tryz.prog 8 30 = true := by kernel_rfl
theorem rec47 : Tryz.prog.readableRec 47 = true := by kernel_rfl
theorem row47 : 47 < Tryz.prog.types.size := of_decide_eq_true (by kernel_rfl)
theorem wants47 : Tryz.pinned.checked.prog.wantsStandIn 47 = false := by kernel_rfl
theorem plain47 : Go.Fl.plainT Tryz.prog 8 47 = true := by kernel_rfl

set_option maxRecDepth 100000 in
theorem walk {H : Type} {enc : TypeId × Value → H} (w : World) (hw : laidMetH Tryz.prog Rows.scriptLinesRow.laid w) (hsh : w.ShapedOpen Tryz.prog) {v0 v1 v2 : Value} {d0 d1 d2 : DataW H} {p0 p1 p2 : List MemPlace} {rc : Reach} {b0 : Nat}
    (o0 : Value.okWide Tryz.prog w rc b0 3 v0) (o1 : Value.okWide Tryz.prog w rc b0 30 v1) (o2 : Value.okWide Tryz.prog w rc b0 47 v2)
    (h0 : DataW.Trod enc Tryz.prog w 0 (fun _ => true) true 3 v0 d0 p0) (h1 : DataW.Trod enc Tryz.prog w 0 (fun _ => true) true 30 v1 d1 p1) (h2 : DataW.Trod enc Tryz.prog w 0 (fun _ => true) true 47 v2 d2 p2) :
    Calls Tryz.prog 6 #[v0, v1, v2] w fun e w' => e = .returned (.bool true) ∧ Go.Fl.Kept w w' := by
  obtain ⟨a0, s0, r0⟩ := Go.Fl.arg_cell plain3 (Go.Fl.arg_int tU3 o0) h0
  obtain ⟨a1, s1, r1⟩ := Go.Fl.arg_cell plain30 (Go.Fl.arg_slice tU30 o1) h1
  obtain ⟨a2, s2, r2⟩ := Go.Fl.arg_cell plain47 (Go.Fl.arg_int tU47 o2) h2
  obtain ⟨n, e0, n1, n2⟩ := s0.int_inv tU3
  obtain ⟨l, e1, hl⟩ := shp_events s1
  obtain ⟨m, e2, m1, m2⟩ := s2.int_inv tU47
  cases e0; cases e1; cases e2
  exact Go.Fl.scalls_law (lines_law n m l ⟨m1, m2⟩ hl) w (globs_met hw hsh) (Go.Fl.vrs_three r0 r1 r2)

/-- The variables that are plain data. -/
noncomputable def plain : List (String × DataW Unit) := Rows.scriptLinesRow.laid.filter fun x => x.2.handleName?.isNone

/-- A world that meets the row's condition. -/
noncomputable def laidWorld (os : Os) : World :=
  let w0 := World.laidAll Tryz.prog os plain
  { w0 with heap := w0.heap.modify 0 fun
      | .cells _ t frozen => .cells #[.iface 142 (.agg #[.pointer (some ⟨9, 57, none⟩)])] t frozen
      | o => o }
theorem laidWorld_met (os : Os) (args : Array Value) : laidMetH Tryz.prog Rows.scriptLinesRow.laid ((laidWorld os).forCall (fun _ _ => 0) ⟨#[], args, []⟩).memory :=
  laidMetH_of_parts (laidMet_of_run' 8 (by kernel_rfl) (by kernel_rfl)) (by kernel_rfl)

set_option maxRecDepth 100000 in
theorem lifted (os : Os) (started : os.Started) (H : Type) (enc : TypeId × Value → H) :
    ReturnsInHanded {} Tryz.checked os 6 .any (fun w args => (Rows.scriptLinesSpec.pre enc Tryz.prog Tryz.f6 [] false w args ∧ laidMetH Tryz.prog Rows.scriptLinesRow.laid w) ∧ sizedMet enc Tryz.prog Tryz.f6 (OpenSpec.ofChange Rows.scriptLinesSpec) false w args) (Rows.scriptLinesSpec.post enc Tryz.prog Tryz.f6 false true false false) := by
  refine handed_of (C := Tryz.checked) (X := fun w _ => laidMetH Tryz.prog Rows.scriptLinesRow.laid w) (fun _ _ _ hh h => h.of_heap hh) own started (by kernel_rfl) Tryz.func6
    (ChangeSpec.witness_shaped (enc := enc) (C := Tryz.checked) (os := os) (X := fun w _ => laidMetH Tryz.prog Rows.scriptLinesRow.laid w) false (laidWorld os) #[.int .i64 0, .slice none 0 0, .int .u16 0] 8 (World.laidAll_os _ _ _)
      (World.shaped_of_ZipB (by kernel_rfl) (by kernel_rfl)) (by kernel_rfl) (by kernel_rfl) (by kernel_rfl) (laidWorld_met os _)) ?_
  intro W base args ds gs before hval0 hW hsh hL
  have hval : ∀ (j : Nat) t v, Tryz.f6.params[j]? = some t → args[j]? = some v → Value.okWide Tryz.prog W .any base t v := hval0
  have hW' := hW
  obtain ⟨p, q, hA0, hV, rfl, hfz, hnd⟩ := hW
  have hA : DataW.TrodAll enc Tryz.prog W 0 (fun _ => true) true Tryz.f6.params.toList args.toList ds p := hA0
  rw [Tryz.params6] at hA hval
  obtain ⟨v0, v1, v2, d0, d1, d2, p0, p1, p2, rfl, rfl, rfl, t0, t1, t2⟩ := trodAll_three hA
  obtain ⟨rfl, rfl⟩ := trodVars_none hV
  clear hA0 hval0
  simp only [List.append_nil] at hW'
  refine (walk W hL hsh (hval 0 3 v0 rfl rfl) (hval 1 30 v1 rfl rfl) (hval 2 47 v2 rfl rfl) t0 t1 t2).mono fun e W' ⟨he, hg⟩ => ?_
  subst he
  refine ⟨_, rfl, Go.Fl.post_of_kept (pa := p0 ++ (p1 ++ p2)) (pv := []) hW' (fun _ _ _ => (trodAll_cons_mk (shut_bool Tryz.underlying4 _) trodAll_mk0)) (fun sp hsp => ?_) (fun _ _ => rfl) (by simp)
    (hg.frame _)⟩
  rw [Tryz.params6]
  exact trodAll_mk3 (hg.trod laid rec3 row3 t0 fun x hx => hsp x (by simp [hx])) (hg.trod laid rec30 row30 t1 fun x hx => hsp x (by simp [hx])) (hg.trod laid rec47 row47 t2 fun x hx => hsp x (by simp [hx]))

theorem over : Rows.scriptLinesRow.holds Tryz.pinned (OpenSpec.ofChange Rows.scriptLinesSpec) :=
  OpenClaim.holds_of_wide 6 Tryz.f6 rfl rfl rfl rfl rfl rfl rfl ⟨rfl, rfl, rfl, rfl, rfl⟩ rfl rfl rfl rfl rfl (by kernel_rfl) Tryz.func6 (by kernel_rfl)
    (of_decide_eq_true (by kernel_rfl)) (by unfold Func.isWrapper; first | (rw [if_pos (by decide +kernel)]; kernel_rfl) | (rw [if_neg (by decide +kernel)]; exact ⟨rfl, rfl⟩))
    (fun os started H enc _ => lifted os started H enc)

/-- THE STATEMENT: the tied card. -/
theorem proved : Rows.ScriptLinesCardSaid :=
  Claim7.holds_tied_plain_at .later [] [.data, .data, .data, .data, .handle, .sentinel, .sentinel, .pinned] true (true, "fed3e70c90184914414a2cbd7a2abed75331228c5790f908c3e50c3bd6c72a23") true
    over (fun _ h => by cases h) (by kernel_rfl) (fun _ h => by cases h) scriptLines_row_tie rfl ⟨rfl, rfl⟩ (by kernel_rfl) rfl
    (fun f fn hf hfn => by
      obtain rfl : f = 6 := Option.some.inj ((show Tryz.prog.funcNamed Rows.scriptLinesRow.func = some 6 by kernel_rfl).symm.trans hf) |>.symm
      obtain rfl : fn = Tryz.f6 := (Option.some.inj (Tryz.func6.symm.trans hfn)).symm
      exact ⟨by kernel_rfl, fun j t ht => by
        rw [Tryz.params6] at ht
        match j with
        | 0 => cases ht; exact wants3
        | 1 => cases ht; exact wants30
        | 2 => cases ht; exact wants47
        | _ + 3 => simp at ht⟩)
    (by kernel_rfl)
end Go.Proofs.YtfmpakmigmehkaaGreatDoor.scriptLines
