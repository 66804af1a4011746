/- PROVED: DeflateBack returns true for every input, and the input reads as it did; its row's package variables as the tied card lays them. -/
import Derived.Test.YtfokgjhdndnnhaaGreatDoorRows
import Derived.WalkKit
import Derived.ProofKit
import Derived.OpenShut
import Derived.LaidMore
import Derived.Lay
import Derived.SevenTiedAt
import Derived.Test.YtfokgjhdndnnhaaGreatDoorTie
import Derived.Test.YtfokgjhdndnnhaaGreatDoorCards
import Derived.Test.YtfokgjhdndnnhaaGreatDoorG8
namespace Go.Proofs.YtfokgjhdndnnhaaGreatDoor.deflateBack
open Go.ChangeShapes Go.WideShapes Go.ChangeAt Go.RowKit
set_option linter.unusedVariables false
theorem own:ownKnob Tryz.prog.godebug=none:=kz
theorem laid:laidOutB Tryz.prog=true:=kz
theorem rec25:Tryz.prog.readableRec 25=true:=kz
theorem row25:25<Tryz.prog.types.size:=of_decide_eq_true kz
theorem wants25:Tryz.pinned.checked.prog.wantsStandIn 25=false:=kz
theorem plain25:Go.Fl.plainT Tryz.prog 8 25=true:=kz
theorem rec38:Tryz.prog.readableRec 38=true:=kz
theorem row38:38<Tryz.prog.types.size:=of_decide_eq_true kz
theorem wants38:Tryz.pinned.checked.prog.wantsStandIn 38=false:=kz
theorem plain38:Go.Fl.plainT Tryz.prog 8 38=true:=kz
set_option maxRecDepth 100000 in
theorem walk {H:Type} {enc:TypeId × Value->H} (w:World) {v0 v1:Value} {d0 d1:DataW H} {p0 p1:List MemPlace} {rc:Reach} {b0:Nat}
  (o0:Value.okWide Tryz.prog w rc b0 38 v0)
  (o1:Value.okWide Tryz.prog w rc b0 25 v1)
  (h0:DataW.Trod enc Tryz.prog w 0 (fun _=>true) true 38 v0 d0 p0)
  (h1:DataW.Trod enc Tryz.prog w 0 (fun _=>true) true 25 v1 d1 p1) :
  Calls Tryz.prog 7 #[v0,v1] w fun e w'=>e = .returned (.bool true)/\Go.Fl.Kept w w':=by
 obtain ⟨a0,s0,r0⟩:=Go.Fl.arg_cell plain38 (Go.Fl.arg_slice tU38 o0) h0
 obtain ⟨l0,e0⟩:=shp_rows s0
 cases e0
 obtain ⟨a1,s1,r1⟩:=Go.Fl.arg_cell plain25 (Go.Fl.arg_slice tU25 o1) h1
 obtain ⟨l1,e1,_⟩:=qhu s1
 cases e1
 exact Go.Fl.scalls_law (back_law l0 l1) w ⟨fun g vs hg=>(by cases hg),fun g Q hg=>(by cases hg)⟩ (Go.Fl.vrs_two r0 r1)
noncomputable def laidWorld (os:Os):World :=
 let w0:=World.laidAll Tryz.prog os []
 { w0 with heap:=w0.heap.modify 0 fun
   | .cells _ t frozen=>.cells #[.iface 177 (.agg #[.pointer (some ⟨1,57,none⟩)])] t frozen
   | o=>o }
theorem laidWorld_met (os:Os) (args:Array Value):laidMetH Tryz.prog Rows.deflateBackRow.laid ((laidWorld os).forCall (fun _ _=>0) ⟨#[],args,[]⟩).memory :=
 laidMetH_of_parts (laidMet_of_run' 8 kz kz) kz
set_option maxRecDepth 100000 in
theorem lifted (os:Os) (started:os.Started) (H:Type) (enc:TypeId × Value->H) :
  ReturnsInHanded {} Tryz.checked os 7 .any (fun w args=>(Rows.deflateBackSpec.pre enc Tryz.prog Tryz.f7 [] false w args/\laidMetH Tryz.prog Rows.deflateBackRow.laid w)/\sizedMet enc Tryz.prog Tryz.f7 (OpenSpec.ofChange Rows.deflateBackSpec) false w args) (Rows.deflateBackSpec.post enc Tryz.prog Tryz.f7 false true false false):=by
 refine returnsInHanded_of_change_and (C:=Tryz.checked) (X:=fun w _=>laidMetH Tryz.prog Rows.deflateBackRow.laid w) (fun _ _ _ hh h=>h.of_heap hh) own started kz Tryz.func7
  (ChangeSpec.witness_shaped (enc:=enc) (C:=Tryz.checked) (os:=os) (X:=fun w _=>laidMetH Tryz.prog Rows.deflateBackRow.laid w) false (laidWorld os) #[.slice none 0 0,.slice none 0 0] 8 (World.laidAll_os _ _ _)
   (World.shaped_of_ZipB kz kz) kz kz kz (laidWorld_met os _)) ?_
 intro W base args ds gs before hval0 hW _ _ _ _
 have hval : ∀ (j:Nat) t v,Tryz.f7.params[j]? = some t->args[j]? = some v->Value.okWide Tryz.prog W .any base t v:=hval0
 have hW':=hW
 obtain ⟨p,q,hA0,hV,rfl,hfz,hnd⟩:=hW
 have hA:DataW.TrodAll enc Tryz.prog W 0 (fun _=>true) true Tryz.f7.params.toList args.toList ds p:=hA0
 rw[Tryz.params7] at hA hval
 obtain ⟨v0,v1,d0,d1,p0,p1,rfl,rfl,rfl,t0,t1⟩:=trodAll_two hA
 obtain ⟨rfl,rfl⟩:=trodVars_none hV
 clear hA0 hval0
 simp only[List.append_nil] at hW'
 refine (walk W (hval 0 38 v0 rfl rfl) (hval 1 25 v1 rfl rfl) t0 t1).mono fun e W' ⟨he,hg⟩=>?_
 subst he
 refine ⟨_,rfl,Go.Fl.post_of_kept (pa:=p0++p1) (pv:=[]) hW' (fun _ _ _=>(trodAll_cons_mk (shut_bool Tryz.underlying4 _) trodAll_mk0)) (fun sp hsp=>?_) (fun _ _=>rfl) (by simp)
  (hg.frame _)⟩
 rw[Tryz.params7]
 exact trodAll_mk2 (hg.trod laid rec38 row38 t0 fun x hx=>hsp x (by simp[hx])) (hg.trod laid rec25 row25 t1 fun x hx=>hsp x (by simp[hx]))
theorem over:Rows.deflateBackRow.holds Tryz.pinned (OpenSpec.ofChange Rows.deflateBackSpec) :=
 OpenClaim.holds_of_wide 7 Tryz.f7 rfl rfl rfl rfl rfl rfl rfl ⟨rfl,rfl,rfl,rfl,rfl⟩ rfl rfl rfl rfl rfl kz Tryz.func7 kz
  (of_decide_eq_true kz) (by unfold Func.isWrapper; first | (rw[if_pos (by decide +kernel)]; kernel_rfl) | (rw[if_neg (by decide +kernel)]; exact ⟨rfl,rfl⟩))
  (fun os started H enc _=>lifted os started H enc)
theorem proved:Rows.DeflateBackCardSaid :=
 Claim7.holds_tied_plain_at .later [] [.handle] true (true, "891d164d093ffd1f6b487336555222af068256cf148b2c01c359fd8e4e23852a") true
  over (fun _ h=>by cases h) kz (fun _ h=>by cases h) deflateBack_row_tie rfl ⟨rfl,rfl⟩ kz rfl
  (fun f fn hf hfn=>by
   obtain rfl:f=7:=Option.some.inj ((show Tryz.prog.funcNamed Rows.deflateBackRow.func=some 7 by kernel_rfl).symm.trans hf) |>.symm
   obtain rfl:fn=Tryz.f7:=(Option.some.inj (Tryz.func7.symm.trans hfn)).symm
   exact ⟨kz,fun j t ht=>by
    rw[Tryz.params7] at ht
    match j with
    | 0=>cases ht; exact wants38
    | 1=>cases ht; exact wants25
    | _+2=>simp at ht⟩)
  kz
end Go.Proofs.YtfokgjhdndnnhaaGreatDoor.deflateBack
