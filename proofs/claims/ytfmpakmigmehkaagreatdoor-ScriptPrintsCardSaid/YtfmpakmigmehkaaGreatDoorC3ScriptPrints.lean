/- PROVED: ScriptPrints returns true for every input, and the input reads as it did; its row's package variables as the tied card lays them. -/
import Derived.Test.YtfmpakmigmehkaaGreatDoorRows
import Derived.WalkKit
import Derived.ProofKit
import Derived.OpenShut
import Derived.LaidMore
import Derived.Lay
import Derived.SevenTiedAt
import Derived.Test.YtfmpakmigmehkaaGreatDoorTie
import Derived.Test.YtfmpakmigmehkaaGreatDoorCards
import Derived.Test.YtfmpakmigmehkaaGreatDoorS34
import Derived.Test.YtfmpakmigmehkaaGreatDoorG3
namespace Go.Proofs.YtfmpakmigmehkaaGreatDoor.scriptPrints
open Go.ChangeShapes Go.WideShapes Go.ChangeAt Go.RowKit
set_option linter.unusedVariables false

theorem own : ownKnob Tryz.prog.godebug = none := by kernel_rfl

theorem laid : laidOutB Tryz.prog = true := by kernel_rfl
theorem rec25 : Tryz.prog.readableRec 25 = true := by kernel_rfl
theorem row25 : 25 < Tryz.prog.types.size := of_decide_eq_true (by kernel_rfl)
theorem wants25 : Tryz.pinned.checked.prog.wantsStandIn 25 = false := by kernel_rfl
theorem plain25 : Go.Fl.plainT Tryz.prog 8 25 = true := by kernel_rfl
theorem rec30 : Tryz.prog.readableRec 30 = true := by kernel_rfl
theorem row30 : 30 < Tryz.prog.types.size := of_decide_eq_true (by kernel_rfl)
theorem wants30 : Tryz.pinned.checked.prog.wantsStandIn 30 = false := by kernel_rfl
theorem plain30 : Go.Fl.plainT Tryz.prog 8 30 = true := by kernel_rfl
set_option maxRecDepth 100000 in
theorem isStruct : ∃ fs : Array Field, Tryz.prog.underlying 25 = some (.struct fs) := ⟨_, rfl⟩

set_option maxRecDepth 100000 in
theorem walk {H : Type} {enc : TypeId × Value → H} (w : World) (hw : laidMetH Tryz.prog Rows.scriptPrintsRow.laid w) (hsh : w.ShapedOpen Tryz.prog) {v0 v1 v2 : Value} {d0 d1 d2 : DataW H} {p0 p1 p2 : List MemPlace} {rc : Reach} {b0 : Nat}
    (o0 : Value.okWide Tryz.prog w rc b0 25 v0) (o1 : Value.okWide Tryz.prog w rc b0 25 v1) (o2 : Value.okWide Tryz.prog w rc b0 30 v2)
    (h0 : DataW.Trod enc Tryz.prog w 0 (fun _ => true) true 25 v0 d0 p0) (h1 : DataW.Trod enc Tryz.prog w 0 (fun _ => true) true 25 v1 d1 p1) (h2 : DataW.Trod enc Tryz.prog w 0 (fun _ => true) true 30 v2 d2 p2) :
    Calls Tryz.prog 4 #[v0, v1, v2] w fun e w' => e = .returned (.bool true) ∧ Go.Fl.Kept w w' := by
  obtain ⟨fs, hfs⟩ := isStruct
  obtain ⟨cs, rfl⟩ := Go.Fl.arg_struct hfs o0
  obtain ⟨cs1, rfl⟩ := Go.Fl.arg_struct hfs o1
  obtain ⟨a0, s0, r0⟩ := Go.Fl.arg_agg plain25 h0
  obtain ⟨a1, s1, r1⟩ := Go.Fl.arg_agg plain25 h1
  obtain ⟨a2, s2, r2⟩ := Go.Fl.arg_cell plain30 (Go.Fl.arg_slice tU30 o2) h2
  obtain ⟨a, e0, ka⟩ := shp_cfg s0
  obtain ⟨b, e1, kb⟩ := shp_cfg s1
  obtain ⟨l, e2, hl⟩ := shp_events s2
  subst e0; subst e1; cases e2
  exact Go.Fl.scalls_law (prints_law a b l ka kb hl) w (globs_met hw hsh) (Go.Fl.vrs_three r0 r1 r2)

/-- The variables that are plain data. -/
noncomputable def plain : List (String × DataW Unit) := Rows.scriptPrintsRow.laid.filter fun x => x.2.handleName?.isNone

/-- A world that meets the row's condition. -/
noncomputable def laidWorld (os : Os) : World :=
  let w0 := World.laidAll Tryz.prog os plain
  { w0 with heap := w0.heap.modify 0 fun
      | .cells _ t frozen => .cells #[.iface 142 (.agg #[.pointer (some ⟨9, 57, none⟩)])] t frozen
      | o => o }
theorem laidWorld_met (os : Os) (args : Array Value) : laidMetH Tryz.prog Rows.scriptPrintsRow.laid ((laidWorld os).forCall (fun _ _ => 0) ⟨#[], args, []⟩).memory :=
  laidMetH_of_parts (laidMet_of_run' 8 (by kernel_rfl) (by kernel_rfl)) (by kernel_rfl)

/-- A configuration that is all noughts. -/
def cfg0 : Value := .agg #[.bool false, .string ByteArray.empty, .string ByteArray.empty, .int .i64 0, .bool false, .bool false, .int .u32 0, .int .i64 0, .bool false, .int .i64 0, .bool false, .bool false, .bool false, .bool false, .bool false, .int .i64 0, .int .i64 0, .int .i64 0]

set_option maxRecDepth 100000 in
theorem lifted (os : Os) (started : os.Started) (H : Type) (enc : TypeId × Value → H) :
    ReturnsInHanded {} Tryz.checked os 4 .any (fun w args => (Rows.scriptPrintsSpec.pre enc Tryz.prog Tryz.f4 [] false w args ∧ laidMetH Tryz.prog Rows.scriptPrintsRow.laid w) ∧ sizedMet enc Tryz.prog Tryz.f4 (OpenSpec.ofChange Rows.scriptPrintsSpec) false w args) (Rows.scriptPrintsSpec.post enc Tryz.prog Tryz.f4 false true false false) := by
  refine handed_of (C := Tryz.checked) (X := fun w _ => laidMetH Tryz.prog Rows.scriptPrintsRow.laid w) (fun _ _ _ hh h => h.of_heap hh) own started (by kernel_rfl) Tryz.func4
    (ChangeSpec.witness_shaped (enc := enc) (C := Tryz.checked) (os := os) (X := fun w _ => laidMetH Tryz.prog Rows.scriptPrintsRow.laid w) false (laidWorld os) #[cfg0, cfg0, .slice none 0 0] 8 (World.laidAll_os _ _ _)
      (World.shaped_of_ZipB (by kernel_rfl) (by kernel_rfl)) (by kernel_rfl) (by kernel_rfl) (by kernel_rfl) (laidWorld_met os _)) ?_
  intro W base args ds gs before hval0 hW hsh hL
  have hval : ∀ (j : Nat) t v, Tryz.f4.params[j]? = some t → args[j]? = some v → Value.okWide Tryz.prog W .any base t v := hval0
  have hW' := hW
  obtain ⟨p, q, hA0, hV, rfl, hfz, hnd⟩ := hW
  have hA : DataW.TrodAll enc Tryz.prog W 0 (fun _ => true) true Tryz.f4.params.toList args.toList ds p := hA0
  rw [Tryz.params4] at hA hval
  obtain ⟨v0, v1, v2, d0, d1, d2, p0, p1, p2, rfl, rfl, rfl, t0, t1, t2⟩ := trodAll_three hA
  obtain ⟨rfl, rfl⟩ := trodVars_none hV
  clear hA0 hval0
  simp only [List.append_nil] at hW'
  refine (walk W hL hsh (hval 0 25 v0 rfl rfl) (hval 1 25 v1 rfl rfl) (hval 2 30 v2 rfl rfl) t0 t1 t2).mono fun e W' ⟨he, hg⟩ => ?_
  subst he
  refine ⟨_, rfl, Go.Fl.post_of_kept (pa := p0 ++ (p1 ++ p2)) (pv := []) hW' (fun _ _ _ => (trodAll_cons_mk (shut_bool Tryz.underlying4 _) trodAll_mk0)) (fun sp hsp => ?_) (fun _ _ => rfl) (by simp)
    (hg.frame _)⟩
  rw [Tryz.params4]
  exact trodAll_mk3 (hg.trod laid rec25 row25 t0 fun x hx => hsp x (by simp [hx])) (hg.trod laid rec25 row25 t1 fun x hx => hsp x (by simp [hx])) (hg.trod laid rec30 row30 t2 fun x hx => hsp x (by simp [hx]))

theorem over : Rows.scriptPrintsRow.holds Tryz.pinned (OpenSpec.ofChange Rows.scriptPrintsSpec) :=
  OpenClaim.holds_of_wide 4 Tryz.f4 rfl rfl rfl rfl rfl rfl rfl ⟨rfl, rfl, rfl, rfl, rfl⟩ rfl rfl rfl rfl rfl (by kernel_rfl) Tryz.func4 (by kernel_rfl)
    (of_decide_eq_true (by kernel_rfl)) (by unfold Func.isWrapper; first | (rw [if_pos (by decide +kernel)]; kernel_rfl) | (rw [if_neg (by decide +kernel)]; exact ⟨rfl, rfl⟩))
    (fun os started H enc _ => lifted os started H enc)

/-- THE STATEMENT: the tied card. -/
theorem proved : Rows.ScriptPrintsCardSaid :=
  Claim7.holds_tied_plain_at .later [] [.data, .data, .data, .data, .handle, .sentinel, .sentinel, .pinned] true (true, "fed3e70c90184914414a2cbd7a2abed75331228c5790f908c3e50c3bd6c72a23") true
    over (fun _ h => by cases h) (by kernel_rfl) (fun _ h => by cases h) scriptPrints_row_tie rfl ⟨rfl, rfl⟩ (by kernel_rfl) rfl
    (fun f fn hf hfn => by
      obtain rfl : f = 4 := Option.some.inj ((show Tryz.prog.funcNamed Rows.scriptPrintsRow.func = some 4 by kernel_rfl).symm.trans hf) |>.symm
      obtain rfl : fn = Tryz.f4 := (Option.some.inj (Tryz.func4.symm.trans hfn)).symm
      exact ⟨by kernel_rfl, fun j t ht => by
        rw [Tryz.params4] at ht
        match j with
        | 0 => cases ht; exact wants25
        | 1 => cases ht; exact wants25
        | 2 => cases ht; exact wants30
        | _ + 3 => simp at ht⟩)
    (by kernel_rfl)
end Go.Proofs.YtfmpakmigmehkaaGreatDoor.scriptPrints
