/- PROVED: DeflateShort returns true for every input, and the input reads as it did; its row's package variables as the tied card lays them. -/
import Derived.Test.YtfokgjhdndnnhaaGreatDoorRows
import Derived.WalkKit
import Derived.ProofKit
import Derived.OpenShut
import Derived.LaidMore
import Derived.Lay
import Derived.SevenTiedAt
import Derived.Test.YtfokgjhdndnnhaaGreatDoorTie
import Derived.Test.YtfokgjhdndnnhaaGreatDoorCards
import Derived.Test.YtfokgjhdndnnhaaGreatDoorG8
namespace Go.Proofs.YtfokgjhdndnnhaaGreatDoor.deflateShort
open Go.ChangeShapes Go.WideShapes Go.ChangeAt Go.RowKit
set_option linter.unusedVariables false
theorem own : ownKnob Tryz.prog.godebug = none := by kernel_rfl
theorem laid : laidOutB Tryz.prog = true := by kernel_rfl
theorem rec5 : Tryz.prog.readableRec 5 = true := by kernel_rfl
theorem row5 : 5 < Tryz.prog.types.size := of_decide_eq_true (by kernel_rfl)
theorem wants5 : Tryz.pinned.checked.prog.wantsStandIn 5 = false := by kernel_rfl
theorem plain5 : Go.Fl.plainT Tryz.prog 8 5 = true := by kernel_rfl
set_option maxRecDepth 100000 in
theorem walk {H : Type} {enc : TypeId × Value → H} (w : World) {v0 : Value} {d0 : DataW H} {p0 : List MemPlace} {rc : Reach} {b0 : Nat}
    (o0 : Value.okWide Tryz.prog w rc b0 5 v0)
    (h0 : DataW.Trod enc Tryz.prog w 0 (fun _ => true) true 5 v0 d0 p0) :
    Calls Tryz.prog 3 #[v0] w fun e w' => e = .returned (.bool true) ∧ Go.Fl.Kept w w' := by
  obtain ⟨a0, s0, r0⟩ := Go.Fl.arg_cell plain5 (Go.Fl.arg_int tU5 o0) h0
  obtain ⟨l0, e0, _⟩ := shp_byte s0
  cases e0
  exact Go.Fl.scalls_law (short_law l0) w ⟨fun g vs hg => (by cases hg), fun g Q hg => (by cases hg)⟩ (Go.Fl.vrs_one r0)
noncomputable def laidWorld (os : Os) : World :=
  let w0 := World.laidAll Tryz.prog os []
  { w0 with heap := w0.heap.modify 0 fun
      | .cells _ t frozen => .cells #[.iface 177 (.agg #[.pointer (some ⟨1, 57, none⟩)])] t frozen
      | o => o }
theorem laidWorld_met (os : Os) (args : Array Value) : laidMetH Tryz.prog Rows.deflateShortRow.laid ((laidWorld os).forCall (fun _ _ => 0) ⟨#[], args, []⟩).memory :=
  laidMetH_of_parts (laidMet_of_run' 8 (by kernel_rfl) (by kernel_rfl)) (by kernel_rfl)
set_option maxRecDepth 100000 in
theorem lifted (os : Os) (started : os.Started) (H : Type) (enc : TypeId × Value → H) :
    ReturnsInHanded {} Tryz.checked os 3 .any (fun w args => (Rows.deflateShortSpec.pre enc Tryz.prog Tryz.f3 [] false w args ∧ laidMetH Tryz.prog Rows.deflateShortRow.laid w) ∧ sizedMet enc Tryz.prog Tryz.f3 (OpenSpec.ofChange Rows.deflateShortSpec) false w args) (Rows.deflateShortSpec.post enc Tryz.prog Tryz.f3 false true false false) := by
  refine returnsInHanded_of_change_and (C := Tryz.checked) (X := fun w _ => laidMetH Tryz.prog Rows.deflateShortRow.laid w) (fun _ _ _ hh h => h.of_heap hh) own started (by kernel_rfl) Tryz.func3
    (ChangeSpec.witness_shaped (enc := enc) (C := Tryz.checked) (os := os) (X := fun w _ => laidMetH Tryz.prog Rows.deflateShortRow.laid w) false (laidWorld os) #[.int .u8 0] 8 (World.laidAll_os _ _ _)
      (World.shaped_of_ZipB (by kernel_rfl) (by kernel_rfl)) (by kernel_rfl) (by kernel_rfl) (by kernel_rfl) (laidWorld_met os _)) ?_
  intro W base args ds gs before hval0 hW _ _ _ _
  have hval : ∀ (j : Nat) t v, Tryz.f3.params[j]? = some t → args[j]? = some v → Value.okWide Tryz.prog W .any base t v := hval0
  have hW' := hW
  obtain ⟨p, q, hA0, hV, rfl, hfz, hnd⟩ := hW
  have hA : DataW.TrodAll enc Tryz.prog W 0 (fun _ => true) true Tryz.f3.params.toList args.toList ds p := hA0
  rw [Tryz.params3] at hA hval
  obtain ⟨v0, d0, rfl, rfl, t0⟩ := trodAll_one hA
  obtain ⟨rfl, rfl⟩ := trodVars_none hV
  clear hA0 hval0
  simp only [List.append_nil] at hW'
  refine (walk W (hval 0 5 v0 rfl rfl) t0).mono fun e W' ⟨he, hg⟩ => ?_
  subst he
  refine ⟨_, rfl, Go.Fl.post_of_kept (pa := p) (pv := []) hW' (fun _ _ _ => (trodAll_cons_mk (shut_bool Tryz.underlying4 _) trodAll_mk0)) (fun sp hsp => ?_) (fun _ _ => rfl) (by simp)
    (hg.frame _)⟩
  rw [Tryz.params3]
  exact trodAll_mk1 (hg.trod laid rec5 row5 t0 fun x hx => hsp x (by simp [hx]))
theorem over : Rows.deflateShortRow.holds Tryz.pinned (OpenSpec.ofChange Rows.deflateShortSpec) :=
  OpenClaim.holds_of_wide 3 Tryz.f3 rfl rfl rfl rfl rfl rfl rfl ⟨rfl, rfl, rfl, rfl, rfl⟩ rfl rfl rfl rfl rfl (by kernel_rfl) Tryz.func3 (by kernel_rfl)
    (of_decide_eq_true (by kernel_rfl)) (by unfold Func.isWrapper; first | (rw [if_pos (by decide +kernel)]; kernel_rfl) | (rw [if_neg (by decide +kernel)]; exact ⟨rfl, rfl⟩))
    (fun os started H enc _ => lifted os started H enc)
theorem proved : Rows.DeflateShortCardSaid :=
  Claim7.holds_tied_plain_at .later [] [.handle] true (true, "891d164d093ffd1f6b487336555222af068256cf148b2c01c359fd8e4e23852a") true
    over (fun _ h => by cases h) (by kernel_rfl) (fun _ h => by cases h) deflateShort_row_tie rfl ⟨rfl, rfl⟩ (by kernel_rfl) rfl
    (fun f fn hf hfn => by
      obtain rfl : f = 3 := Option.some.inj ((show Tryz.prog.funcNamed Rows.deflateShortRow.func = some 3 by kernel_rfl).symm.trans hf) |>.symm
      obtain rfl : fn = Tryz.f3 := (Option.some.inj (Tryz.func3.symm.trans hfn)).symm
      exact ⟨by kernel_rfl, fun j t ht => by
        rw [Tryz.params3] at ht
        match j with
        | 0 => cases ht; exact wants5
        | _ + 1 => simp at ht⟩)
    (by kernel_rfl)
end Go.Proofs.YtfokgjhdndnnhaaGreatDoor.deflateShort
