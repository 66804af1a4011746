/- PROVED: DeflateWindow returns true for every input, and the input reads as it did; its row's package variables as the tied card lays them. -/
import Derived.Test.YtfokgjhdndnnhaaGreatDoorRows
import Derived.WalkKit
import Derived.ProofKit
import Derived.OpenShut
import Derived.LaidMore
import Derived.Lay
import Derived.SevenTiedAt
import Derived.Test.YtfokgjhdndnnhaaGreatDoorTie
import Derived.Test.YtfokgjhdndnnhaaGreatDoorCards
import Derived.Test.YtfokgjhdndnnhaaGreatDoorG8
namespace Go.Proofs.YtfokgjhdndnnhaaGreatDoor.deflateWindow
open Go.ChangeShapes Go.WideShapes Go.ChangeAt Go.RowKit
set_option linter.unusedVariables false
theorem own : ownKnob Tryz.prog.godebug = none := by kernel_rfl
theorem laid : laidOutB Tryz.prog = true := by kernel_rfl
theorem rec5 : Tryz.prog.readableRec 5 = true := by kernel_rfl
theorem row5 : 5 < Tryz.prog.types.size := of_decide_eq_true (by kernel_rfl)
theorem wants5 : Tryz.pinned.checked.prog.wantsStandIn 5 = false := by kernel_rfl
theorem plain5 : Go.Fl.plainT Tryz.prog 8 5 = true := by kernel_rfl
theorem rec25 : Tryz.prog.readableRec 25 = true := by kernel_rfl
theorem row25 : 25 < Tryz.prog.types.size := of_decide_eq_true (by kernel_rfl)
theorem wants25 : Tryz.pinned.checked.prog.wantsStandIn 25 = false := by kernel_rfl
theorem plain25 : Go.Fl.plainT Tryz.prog 8 25 = true := by kernel_rfl
set_option maxRecDepth 100000 in
theorem walk {H : Type} {enc : TypeId × Value → H} (w : World) {v0 v1 v2 : Value} {d0 d1 d2 : DataW H} {p0 p1 p2 : List MemPlace} {rc : Reach} {b0 : Nat}
    (o0 : Value.okWide Tryz.prog w rc b0 5 v0)
    (o1 : Value.okWide Tryz.prog w rc b0 5 v1)
    (o2 : Value.okWide Tryz.prog w rc b0 25 v2)
    (h0 : DataW.Trod enc Tryz.prog w 0 (fun _ => true) true 5 v0 d0 p0)
    (h1 : DataW.Trod enc Tryz.prog w 0 (fun _ => true) true 5 v1 d1 p1)
    (h2 : DataW.Trod enc Tryz.prog w 0 (fun _ => true) true 25 v2 d2 p2) :
    Calls Tryz.prog 6 #[v0, v1, v2] w fun e w' => e = .returned (.bool true) ∧ Go.Fl.Kept w w' := by
  obtain ⟨a0, s0, r0⟩ := Go.Fl.arg_cell plain5 (Go.Fl.arg_int tU5 o0) h0
  obtain ⟨l0, e0, _⟩ := shp_byte s0
  cases e0
  obtain ⟨a1, s1, r1⟩ := Go.Fl.arg_cell plain5 (Go.Fl.arg_int tU5 o1) h1
  obtain ⟨l1, e1, _⟩ := shp_byte s1
  cases e1
  obtain ⟨a2, s2, r2⟩ := Go.Fl.arg_cell plain25 (Go.Fl.arg_slice tU25 o2) h2
  obtain ⟨l2, e2, _⟩ := shp_bytes s2
  cases e2
  exact Go.Fl.scalls_law (window_law l0 l1 l2) w ⟨fun g vs hg => (by cases hg), fun g Q hg => (by cases hg)⟩ (Go.Fl.vrs_three r0 r1 r2)
noncomputable def laidWorld (os : Os) : World :=
  let w0 := World.laidAll Tryz.prog os []
  { w0 with heap := w0.heap.modify 0 fun
      | .cells _ t frozen => .cells #[.iface 177 (.agg #[.pointer (some ⟨1, 57, none⟩)])] t frozen
      | o => o }
theorem laidWorld_met (os : Os) (args : Array Value) : laidMetH Tryz.prog Rows.deflateWindowRow.laid ((laidWorld os).forCall (fun _ _ => 0) ⟨#[], args, []⟩).memory :=
  laidMetH_of_parts (laidMet_of_run' 8 (by kernel_rfl) (by kernel_rfl)) (by kernel_rfl)
set_option maxRecDepth 100000 in
theorem lifted (os : Os) (started : os.Started) (H : Type) (enc : TypeId × Value → H) :
    ReturnsInHanded {} Tryz.checked os 6 .any (fun w args => (Rows.deflateWindowSpec.pre enc Tryz.prog Tryz.f6 [] false w args ∧ laidMetH Tryz.prog Rows.deflateWindowRow.laid w) ∧ sizedMet enc Tryz.prog Tryz.f6 (OpenSpec.ofChange Rows.deflateWindowSpec) false w args) (Rows.deflateWindowSpec.post enc Tryz.prog Tryz.f6 false true false false) := by
  refine returnsInHanded_of_change_and (C := Tryz.checked) (X := fun w _ => laidMetH Tryz.prog Rows.deflateWindowRow.laid w) (fun _ _ _ hh h => h.of_heap hh) own started (by kernel_rfl) Tryz.func6
    (ChangeSpec.witness_shaped (enc := enc) (C := Tryz.checked) (os := os) (X := fun w _ => laidMetH Tryz.prog Rows.deflateWindowRow.laid w) false (laidWorld os) #[.int .u8 0, .int .u8 0, .slice none 0 0] 8 (World.laidAll_os _ _ _)
      (World.shaped_of_ZipB (by kernel_rfl) (by kernel_rfl)) (by kernel_rfl) (by kernel_rfl) (by kernel_rfl) (laidWorld_met os _)) ?_
  intro W base args ds gs before hval0 hW _ _ _ _
  have hval : ∀ (j : Nat) t v, Tryz.f6.params[j]? = some t → args[j]? = some v → Value.okWide Tryz.prog W .any base t v := hval0
  have hW' := hW
  obtain ⟨p, q, hA0, hV, rfl, hfz, hnd⟩ := hW
  have hA : DataW.TrodAll enc Tryz.prog W 0 (fun _ => true) true Tryz.f6.params.toList args.toList ds p := hA0
  rw [Tryz.params6] at hA hval
  obtain ⟨v0, v1, v2, d0, d1, d2, p0, p1, p2, rfl, rfl, rfl, t0, t1, t2⟩ := trodAll_three hA
  obtain ⟨rfl, rfl⟩ := trodVars_none hV
  clear hA0 hval0
  simp only [List.append_nil] at hW'
  refine (walk W (hval 0 5 v0 rfl rfl) (hval 1 5 v1 rfl rfl) (hval 2 25 v2 rfl rfl) t0 t1 t2).mono fun e W' ⟨he, hg⟩ => ?_
  subst he
  refine ⟨_, rfl, Go.Fl.post_of_kept (pa := p0 ++ (p1 ++ p2)) (pv := []) hW' (fun _ _ _ => (trodAll_cons_mk (shut_bool Tryz.underlying4 _) trodAll_mk0)) (fun sp hsp => ?_) (fun _ _ => rfl) (by simp)
    (hg.frame _)⟩
  rw [Tryz.params6]
  exact trodAll_mk3 (hg.trod laid rec5 row5 t0 fun x hx => hsp x (by simp [hx])) (hg.trod laid rec5 row5 t1 fun x hx => hsp x (by simp [hx])) (hg.trod laid rec25 row25 t2 fun x hx => hsp x (by simp [hx]))
theorem over : Rows.deflateWindowRow.holds Tryz.pinned (OpenSpec.ofChange Rows.deflateWindowSpec) :=
  OpenClaim.holds_of_wide 6 Tryz.f6 rfl rfl rfl rfl rfl rfl rfl ⟨rfl, rfl, rfl, rfl, rfl⟩ rfl rfl rfl rfl rfl (by kernel_rfl) Tryz.func6 (by kernel_rfl)
    (of_decide_eq_true (by kernel_rfl)) (by unfold Func.isWrapper; first | (rw [if_pos (by decide +kernel)]; kernel_rfl) | (rw [if_neg (by decide +kernel)]; exact ⟨rfl, rfl⟩))
    (fun os started H enc _ => lifted os started H enc)
theorem proved : Rows.DeflateWindowCardSaid :=
  Claim7.holds_tied_plain_at .later [] [.handle] true (true, "891d164d093ffd1f6b487336555222af068256cf148b2c01c359fd8e4e23852a") true
    over (fun _ h => by cases h) (by kernel_rfl) (fun _ h => by cases h) deflateWindow_row_tie rfl ⟨rfl, rfl⟩ (by kernel_rfl) rfl
    (fun f fn hf hfn => by
      obtain rfl : f = 6 := Option.some.inj ((show Tryz.prog.funcNamed Rows.deflateWindowRow.func = some 6 by kernel_rfl).symm.trans hf) |>.symm
      obtain rfl : fn = Tryz.f6 := (Option.some.inj (Tryz.func6.symm.trans hfn)).symm
      exact ⟨by kernel_rfl, fun j t ht => by
        rw [Tryz.params6] at ht
        match j with
        | 0 => cases ht; exact wants5
        | 1 => cases ht; exact wants5
        | 2 => cases ht; exact wants25
        | _ + 3 => simp at ht⟩)
    (by kernel_rfl)
end Go.Proofs.YtfokgjhdndnnhaaGreatDoor.deflateWindow
