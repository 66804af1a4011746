/- PROVED: LcpKnown returns true for every input (it has none); its row's package variables as the tied card lays them. -/
import Derived.Test.YtfdjkocbnpfegabGreatDoorRows
import Derived.WalkKit
import Derived.ProofKit
import Derived.OpenShut
import Derived.LaidMore
import Derived.Lay
import Derived.SevenTiedAt
import Derived.Test.YtfdjkocbnpfegabGreatDoorTie
import Derived.Test.YtfdjkocbnpfegabGreatDoorCards
import Derived.Test.YtfdjkocbnpfegabGreatDoorFl24
namespace Go.Proofs.YtfdjkocbnpfegabGreatDoor.lcpKnown
open Go.ChangeShapes Go.WideShapes Go.ChangeAt Go.RowKit
set_option linter.unusedVariables false      -- a walk need not use every 'w<i>' (that an integer argument fits its kind)

theorem own : ownKnob Tryz.prog.godebug = none := by kernel_rfl

theorem mixed : Tryz.prog.follows .mixedOrders = true := by kernel_rfl

theorem enters : ∀ f ∈ [3, 9, 10, 11, 12, 13, 34, 35, 36, 37, 38, 39, 40, 41, 42, 51, 78, 79, 80, 81, 82, 83, 84, 87, 88, 99, 112, 113, 114, 115, 116, 117, 118, 119, 120, 121, 122, 136, 143, 144, 145, 146, 147, 148, 149, 150, 151, 152, 153, 154, 170, 171, 172, 173, 174, 175, 176, 177, 178, 194, 195, 196, 197, 198, 206, 207, 208, 209, 210, 211, 212, 213, 214, 215, 216, 217, 218, 219], Go.Fl.Enters Tryz.prog f := by
  simp only [List.mem_cons, List.mem_nil_iff, or_false, forall_eq_or_imp, forall_eq]
  exact ⟨Tryz.call3, Tryz.call9, Tryz.call10, Tryz.call11, Tryz.call12, Tryz.call13, Tryz.call34, Tryz.call35, Tryz.call36, Tryz.call37, Tryz.call38, Tryz.call39, Tryz.call40, Tryz.call41, Tryz.call42, Tryz.call51, Tryz.call78, Tryz.call79, Tryz.call80, Tryz.call81, Tryz.call82, Tryz.call83, Tryz.call84, Tryz.call87, Tryz.call88, Tryz.call99, Tryz.call112, Tryz.call113, Tryz.call114, Tryz.call115, Tryz.call116, Tryz.call117, Tryz.call118, Tryz.call119, Tryz.call120, Tryz.call121, Tryz.call122, Tryz.call136, Tryz.call143, Tryz.call144, Tryz.call145, Tryz.call146, Tryz.call147, Tryz.call148, Tryz.call149, Tryz.call150, Tryz.call151, Tryz.call152, Tryz.call153, Tryz.call154, Tryz.call170, Tryz.call171, Tryz.call172, Tryz.call173, Tryz.call174, Tryz.call175, Tryz.call176, Tryz.call177, Tryz.call178, Tryz.call194, Tryz.call195, Tryz.call196, Tryz.call197, Tryz.call198, Tryz.call206, Tryz.call207, Tryz.call208, Tryz.call209, Tryz.call210, Tryz.call211, Tryz.call212, Tryz.call213, Tryz.call214, Tryz.call215, Tryz.call216, Tryz.call217, Tryz.call218, Tryz.call219⟩

theorem ran : Go.Fl.plainly (.bool true) (Go.Fl.ecall Tryz.prog [3, 9, 10, 11, 12, 13, 34, 35, 36, 37, 38, 39, 40, 41, 42, 51, 78, 79, 80, 81, 82, 83, 84, 87, 88, 99, 112, 113, 114, 115, 116, 117, 118, 119, 120, 121, 122, 136, 143, 144, 145, 146, 147, 148, 149, 150, 151, 152, 153, 154, 170, 171, 172, 173, 174, 175, 176, 177, 178, 194, 195, 196, 197, 198, 206, 207, 208, 209, 210, 211, 212, 213, 214, 215, 216, 217, 218, 219] 40 3 [] Go.Fl.Heap.empty) = true := by kernel_rfl

theorem walk (w : World) : Calls Tryz.prog 3 #[] w fun e w' => e = .returned (.bool true) ∧ Grown w w' :=
  Go.Fl.scalls_law0 (Go.Fl.ecall_plain mixed enters 40 ran) w

/-- The variables that are plain data. -/
noncomputable def plain : List (String × DataW Unit) := [("unicode/utf8.acceptRanges", Rows.laid_unicode_utf8_acceptRanges), ("unicode/utf8.first", Rows.laid_unicode_utf8_first)]

/-- A world that meets the row's condition. -/
noncomputable def laidWorld (os : Os) : World :=
  let w0 := World.laidAll Tryz.prog os plain
  { w0 with heap := w0.heap.modify 0 fun
      | .cells _ t frozen => .cells #[.iface 237 (.agg #[.pointer (some ⟨9, 116, none⟩)])] t frozen
      | o => o }
theorem laidWorld_met (os : Os) (args : Array Value) : laidMetH Tryz.prog Rows.lcpKnownRow.laid ((laidWorld os).forCall (fun _ _ => 0) ⟨#[], args, []⟩).memory :=
  laidMetH_of_parts (laidMet_of_run' 8 (by kernel_rfl) (by kernel_rfl)) (by kernel_rfl)

/-! ### THE ROW's STEP: WRITTEN OUT: LEAVE IT -/
set_option maxRecDepth 100000 in
theorem lifted (os : Os) (started : os.Started) (H : Type) (enc : TypeId × Value → H) :
    ReturnsInHanded {} Tryz.checked os 3 .any (fun w args => (Rows.lcpKnownSpec.pre enc Tryz.prog Tryz.f3 [] false w args ∧ laidMetH Tryz.prog Rows.lcpKnownRow.laid w) ∧ sizedMet enc Tryz.prog Tryz.f3 (OpenSpec.ofChange Rows.lcpKnownSpec) false w args) (Rows.lcpKnownSpec.post enc Tryz.prog Tryz.f3 false true false false) := by
  refine returnsInHanded_of_change_and (C := Tryz.checked) (X := fun w _ => laidMetH Tryz.prog Rows.lcpKnownRow.laid w) (fun _ _ _ hh h => h.of_heap hh) own started (by kernel_rfl) Tryz.func3
    (ChangeSpec.witness_shaped (enc := enc) (C := Tryz.checked) (os := os) (X := fun w _ => laidMetH Tryz.prog Rows.lcpKnownRow.laid w) false (laidWorld os) #[] 8 (World.laidAll_os _ _ _)
      (World.shaped_of_ZipB (by kernel_rfl) (by kernel_rfl)) (by kernel_rfl) (by kernel_rfl) (by kernel_rfl) (laidWorld_met os _)) ?_
  intro W base args ds gs before hval0 hW _ _ _ _
  have hval : ∀ (j : Nat) t v, Tryz.f3.params[j]? = some t → args[j]? = some v → Value.okWide Tryz.prog W .any base t v := hval0
  have hW' := hW
  obtain ⟨p, q, hA0, hV, rfl, hfz, hnd⟩ := hW
  have hA : DataW.TrodAll enc Tryz.prog W 0 (fun _ => true) true Tryz.f3.params.toList args.toList ds p := hA0
  rw [Tryz.params3] at hA hval
  obtain ⟨rfl, rfl, rfl⟩ := trodAll_none hA
  obtain ⟨rfl, rfl⟩ := trodVars_none hV
  clear hA0 hval0
  simp only [List.append_nil] at hW'
  refine (walk  W).mono fun e W' ⟨he, hg⟩ => ?_
  subst he
  exact ⟨_, rfl, post_of_same (pa := []) (pv := []) hW' (fun _ _ _ => (trodAll_cons_mk (shut_bool Tryz.underlying4 _) trodAll_mk0)) (fun sp _ => rfl) (fun _ _ => rfl) rfl
    (hg.frame _) hg.2.1 (ok_one (by kernel_rfl) rfl (okWide_bool_mk Tryz.underlying4 _))⟩

theorem over : Rows.lcpKnownRow.holds Tryz.pinned (OpenSpec.ofChange Rows.lcpKnownSpec) :=
  OpenClaim.holds_of_wide 3 Tryz.f3 rfl rfl rfl rfl rfl rfl rfl ⟨rfl, rfl, rfl, rfl, rfl⟩ rfl rfl rfl rfl rfl (by kernel_rfl) Tryz.func3 (by kernel_rfl)
    (of_decide_eq_true (by kernel_rfl)) (by unfold Func.isWrapper; first | (rw [if_pos (by decide +kernel)]; kernel_rfl) | (rw [if_neg (by decide +kernel)]; exact ⟨rfl, rfl⟩))
    (fun os started H enc _ => lifted os started H enc)

/-- THE STATEMENT: the tied card. -/
theorem proved : Rows.LcpKnownCardSaid :=
  Claim7.holds_tied_plain_at .later [] [.data, .handle, .pinned] true (true, "80a1c0a255c7e06c7033774dfa34489b56036d39545fc840d124eb8f4524849f") true
    over (fun _ h => by cases h) (by kernel_rfl) (fun _ h => by cases h) lcpKnown_row_tie rfl ⟨rfl, rfl⟩ (by kernel_rfl) rfl
    (fun f fn hf hfn => by
      obtain rfl : f = 3 := Option.some.inj ((show Tryz.prog.funcNamed "fairlead/fairleadlaw14.LcpKnown" = some 3 by kernel_rfl).symm.trans hf) |>.symm
      obtain rfl : fn = Tryz.f3 := (Option.some.inj (Tryz.func3.symm.trans hfn)).symm
      exact ⟨by kernel_rfl, fun j t ht => by
        rw [Tryz.params3] at ht
        simp at ht⟩)
    (by kernel_rfl)
end Go.Proofs.YtfdjkocbnpfegabGreatDoor.lcpKnown
