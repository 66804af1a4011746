/- Words for walking code. -/
import Derived.Test.YtfokgjhdndnnhaaGreatDoorFl19
import Derived.Test.YtfokgjhdndnnhaaGreatDoorProg
import Derived.IntWalk
import Derived.RowKit3
import Derived.ProofKit
set_option linter.unusedVariables false
set_option linter.unusedSimpArgs false
noncomputable section Fl20S
namespace Go.Fl
open Go
section
variable {P:Program} {sz:Nat}
theorem qg {x y:Code} {Q:Exit->Env->Heap->Prop} {env:Env} {H:Heap} (h : ∀ K:Env->Heap->Prop,(∀ env H,SCode P sz y Q env H->K env H)->SCode P sz x (thenA K Q) env H):SCode P sz (.seq x y) Q env H :=
 qng (h _ fun _ _ h=>h)
theorem qj {c:Operand} {x y:Code} {Q:Exit->Env->Heap->Prop} {env:Env} {H:Heap} {b:Bool} (hc:aev env c = .sc (.bool b)) (ht:b=true->SCode P sz x Q env H) (hf:b=false->SCode P sz y Q env H):SCode P sz (.cond c x y) Q env H:=by
 cases b with
 | true=>exact qe5 (b:=true) hc (ht rfl)
 | false=>exact qe5 (b:=false) hc (hf rfl)
def retQ (R:Env->Heap->Prop):Exit->Env->Heap->Prop
 | .ret | .normal=>R
 | _=>fun _ _=>False
theorem qE {f:FuncId} {fn:Func} {c:Code} {args:List AV} {H:Heap} {r:AV} {H' : Heap} (hen:Enters P f) (hf:P.funcs[f]? = some fn) (hb:fn.body=some c) (hn:H.next<=H'.next) (hsz:args.length+(fn.ntmps-args.length)=sz)
  (h : ∀ R:Env->Heap->Prop,(∀ env H1,Ret P fn H env H1 r H' -> R env H1)->SCode P sz c (retQ R) (enterEnv args) H):SCalls P f args H r H':=by
 subst hsz
 refine qnh hen hf hb hn ((h (fun env H1=>Ret P fn H env H1 r H') (fun _ _ h=>h)).mono ?_)
 intro e env H1 hq
 cases e <;> first | exact ⟨.inl rfl,hq⟩ | exact ⟨.inr rfl,hq⟩ | exact hq.elim
theorem qnn {c:Code} {Q:Exit->Env->Heap->Prop} {env:Env} {H:Heap} {K:Env->Heap->Prop} (R:Env->Heap->Prop) (h:SCode P sz c (thenA R Q) env H) (hk : ∀ env H,R env H->K env H):SCode P sz c (thenA K Q) env H :=
 h.mono fun e env H hq=>by
  cases e with
  | normal=>exact hk env H hq
  | _=>exact hq
end
@[go_sem] theorem thenA_normal (K:Env->Heap->Prop) (Q:Exit->Env->Heap->Prop):thenA K Q .normal=K:=rfl
@[go_sem] theorem thenA_ret (K:Env->Heap->Prop) (Q:Exit->Env->Heap->Prop):thenA K Q .ret=Q .ret:=rfl
@[go_sem] theorem thenA_exit (K:Env->Heap->Prop) (Q:Exit->Env->Heap->Prop) (id:Nat):thenA K Q (.exit id)=Q (.exit id):=rfl
@[go_sem] theorem qno (id:Nat) (Q:Exit->Env->Heap->Prop):inBlockA id Q .normal=Q .normal:=rfl
@[go_sem] theorem inBlockA_ret (id:Nat) (Q:Exit->Env->Heap->Prop):inBlockA id Q .ret=Q .ret:=rfl
@[go_sem] theorem inBlockA_exit (id id' : Nat) (Q:Exit->Env->Heap->Prop):inBlockA id Q (.exit id')=if id' = id then Q .normal else Q (.exit id'):=by
 simp only[inBlockA]
@[go_sem] theorem retQ_ret (R:Env->Heap->Prop):retQ R .ret=R:=rfl
@[go_sem] theorem retQ_normal (R:Env->Heap->Prop):retQ R .normal=R:=rfl
@[go_sem] theorem upd_none (e:Env) (v:AV):e.upd none v=e:=by funext i; simp[Env.upd]
@[go_sem] theorem upd_same (e:Env) (d:Nat) (v:AV):e.upd (some d) v d=v:=by simp[Env.upd]
@[go_sem] theorem upd_ne (e:Env) (d t:Nat) (v:AV) (h:d≠t):e.upd (some d) v t=e t:=by simp[Env.upd,h]
@[go_sem] theorem enterEnv_zero (x:AV) (l:List AV):enterEnv (x::l) 0=x:=rfl
@[go_sem] theorem enterEnv_succ (x:AV) (l:List AV) (n:Nat):enterEnv (x::l) (n+1)=enterEnv l n:=rfl
@[go_sem] theorem enterEnv_nil (n:Nat):enterEnv [] n = .undef:=rfl
attribute [go_sem] keepD astrV abOf aun acvt astrB qnm aeqn aiBin aiBoth aiSh aiUn aiCvt aint aconv u8s WOps WOp awanted aop aev ofV abuildSlice abuild afill acells splice aload astore cellsAt sliceCells ashift afield aindex apart aslice abound amake abin aeqNil conc scs concs abuiltin afld aidx
 acopy WDraw isP isL stOk ldOk WStep AV.leaf AV.cells Heap.get_alloc Heap.get_set Heap.get_del Heap.get_regrow Heap.next_alloc Heap.next_set Heap.next_del
end Go.Fl
end Fl20S
namespace Go.Proofs.YtfokgjhdndnnhaaGreatDoor
open Go Go.Fl Go.Proofs
theorem mixed:Tryz.prog.follows .mixedOrders=true:=kz
@[go_sem] theorem tS3:csz Tryz.prog 3=some 1:=kz
@[go_sem] theorem tB3:byt Tryz.prog 3=some 8:=kz
@[go_sem] theorem tA3:isAggT Tryz.prog 3=some false:=kz
@[go_sem] theorem tU3:Tryz.prog.underlying 3=some (.int .i64):=kz
@[go_sem] theorem tZ3:zeroC Tryz.prog 3=some [.sc (.int .i64 0)]:=kz
@[go_sem] theorem tS4:csz Tryz.prog 4=some 1:=kz
@[go_sem] theorem tA4:isAggT Tryz.prog 4=some false:=kz
@[go_sem] theorem tS5:csz Tryz.prog 5=some 1:=kz
@[go_sem] theorem tB5:byt Tryz.prog 5=some 1:=kz
@[go_sem] theorem tA5:isAggT Tryz.prog 5=some false:=kz
@[go_sem] theorem tU5:Tryz.prog.underlying 5=some (.int .u8):=kz
@[go_sem] theorem tZ5:zeroC Tryz.prog 5=some [.sc (.int .u8 0)]:=kz
@[go_sem] theorem tS25:csz Tryz.prog 25=some 1:=kz
@[go_sem] theorem tA25:isAggT Tryz.prog 25=some false:=kz
@[go_sem] theorem tU25:Tryz.prog.underlying 25=some (.slice 5):=kz
@[go_sem] theorem tZ25:zeroC Tryz.prog 25=some [.sc (.slice none 0 0)]:=kz
@[go_sem] theorem tU38:Tryz.prog.underlying 38=some (.slice 25):=kz
@[go_sem] theorem tP42:placesOf Tryz.prog 42=some [(0,1)]:=kz
@[go_sem] theorem tZ42:zeroC Tryz.prog 42=some [.sc (.slice none 0 0)]:=kz
@[go_sem] theorem tP47:placesOf Tryz.prog 47=some [(0,1),(1,1)]:=kz
@[go_sem] theorem tZ47:zeroC Tryz.prog 47=some [.sc (.bool false),.sc (.slice none 0 0)]:=kz
@[go_sem] theorem tP53:placesOf Tryz.prog 53=some [(0,1),(1,1)]:=kz
@[go_sem] theorem tZ53:zeroC Tryz.prog 53=some [.sc (.bool false),.sc (.slice none 0 0)]:=kz
@[go_sem] theorem tS61:csz Tryz.prog 61=some 1:=kz
@[go_sem] theorem tA61:isAggT Tryz.prog 61=some false:=kz
@[go_sem] theorem tP63:placesOf Tryz.prog 63=some [(0,1),(1,1),(2,1),(3,1)]:=kz
@[go_sem] theorem tZ63:zeroC Tryz.prog 63=some [.sc (.pointer none),.sc (.slice none 0 0),.sc (.int .i64 0),.sc (.int .i64 0)]:=kz
@[go_sem] theorem tS66:csz Tryz.prog 66=some 1:=kz
@[go_sem] theorem tA66:isAggT Tryz.prog 66=some false:=kz
@[go_sem] theorem tP68:placesOf Tryz.prog 68=some [(0,1),(1,1),(2,1),(3,1),(4,1)]:=kz
@[go_sem] theorem tZ68:zeroC Tryz.prog 68=some [.sc (.pointer none),.sc (.slice none 0 0),.sc (.int .i64 0),.sc (.int .i64 0),.sc (.int .i64 0)]:=kz
@[go_sem] theorem tS73:csz Tryz.prog 73=some 1:=kz
@[go_sem] theorem tA73:isAggT Tryz.prog 73=some false:=kz
@[go_sem] theorem tU73:Tryz.prog.underlying 73=some (.slice 121):=kz
@[go_sem] theorem tZ73:zeroC Tryz.prog 73=some [.sc (.slice none 0 0)]:=kz
@[go_sem] theorem tS76:csz Tryz.prog 76=some 1:=kz
@[go_sem] theorem tA76:isAggT Tryz.prog 76=some false:=kz
@[go_sem] theorem tZ76:zeroC Tryz.prog 76=some [.sc (.nilFunc)]:=kz
@[go_sem] theorem tS79:csz Tryz.prog 79=some 1:=kz
@[go_sem] theorem tA79:isAggT Tryz.prog 79=some false:=kz
@[go_sem] theorem tS81:csz Tryz.prog 81=some 2:=kz
@[go_sem] theorem tA81:isAggT Tryz.prog 81=some true:=kz
@[go_sem] theorem tP81:placesOf Tryz.prog 81=some [(0,1),(1,1)]:=kz
@[go_sem] theorem tZ81:zeroC Tryz.prog 81=some [.sc (.pointer none),.sc (.pointer none)]:=kz
@[go_sem] theorem tS84:csz Tryz.prog 84=some 1:=kz
@[go_sem] theorem tA84:isAggT Tryz.prog 84=some false:=kz
@[go_sem] theorem tU84:Tryz.prog.underlying 84=some (.slice 3):=kz
@[go_sem] theorem tZ84:zeroC Tryz.prog 84=some [.sc (.slice none 0 0)]:=kz
@[go_sem] theorem tU88:Tryz.prog.underlying 88=some (.slice 76):=kz
@[go_sem] theorem tS89:csz Tryz.prog 89=some 1:=kz
@[go_sem] theorem tA89:isAggT Tryz.prog 89=some false:=kz
@[go_sem] theorem tP91:placesOf Tryz.prog 91=some [(0,1),(1,1),(2,1)]:=kz
@[go_sem] theorem tZ91:zeroC Tryz.prog 91=some [.sc (.slice none 0 0),.sc (.int .i64 0),.sc (.nilFunc)]:=kz
@[go_sem] theorem tP108:placesOf Tryz.prog 108=some [(0,1),(1,1),(2,1)]:=kz
@[go_sem] theorem tZ108:zeroC Tryz.prog 108=some [.sc (.slice none 0 0),.sc (.int .i64 0),.sc (.nilFunc)]:=kz
@[go_sem] theorem tP111:placesOf Tryz.prog 111=some [(0,1),(1,1),(2,1)]:=kz
@[go_sem] theorem tZ111:zeroC Tryz.prog 111=some [.sc (.slice none 0 0),.sc (.int .i64 0),.sc (.bool false)]:=kz
@[go_sem] theorem tS118:csz Tryz.prog 118=some 1:=kz
@[go_sem] theorem tA118:isAggT Tryz.prog 118=some false:=kz
@[go_sem] theorem tZ118:zeroC Tryz.prog 118=some [.sc (.nilFunc)]:=kz
@[go_sem] theorem tS121:csz Tryz.prog 121=some 3:=kz
@[go_sem] theorem tB121:byt Tryz.prog 121=some 24:=kz
@[go_sem] theorem tA121:isAggT Tryz.prog 121=some true:=kz
@[go_sem] theorem tP121:placesOf Tryz.prog 121=some [(0,1),(1,1),(2,1)]:=kz
@[go_sem] theorem tZ121:zeroC Tryz.prog 121=some [.sc (.int .u8 0),.sc (.int .i64 0),.sc (.int .i64 0)]:=kz
@[go_sem] theorem tP123:placesOf Tryz.prog 123=some [(0,1)]:=kz
@[go_sem] theorem tZ123:zeroC Tryz.prog 123=some [.sc (.bool false)]:=kz
@[go_sem] theorem tS128:csz Tryz.prog 128=some 3:=kz
@[go_sem] theorem tA128:isAggT Tryz.prog 128=some true:=kz
@[go_sem] theorem tP128:placesOf Tryz.prog 128=some [(0,1),(1,1),(2,1)]:=kz
@[go_sem] theorem tZ128:zeroC Tryz.prog 128=some [.sc (.int .i64 0),.sc (.int .i64 0),.sc (.int .i64 0)]:=kz
@[go_sem] theorem tS140:csz Tryz.prog 140=some 3:=kz
@[go_sem] theorem tA140:isAggT Tryz.prog 140=some true:=kz
@[go_sem] theorem tZ140:zeroC Tryz.prog 140=some [.sc (.int .i64 0),.sc (.int .i64 0),.sc (.int .i64 0)]:=kz
@[go_sem] theorem tS166:csz Tryz.prog 166=some 16:=kz
@[go_sem] theorem tP168:placesOf Tryz.prog 168=some [(0,1),(1,1),(2,1),(3,16),(19,1)]:=kz
@[go_sem] theorem tZ168:zeroC Tryz.prog 168=some [.sc (.bool false),.sc (.slice none 0 0),.sc (.slice none 0 0),.sc (.int .i64 0),.sc (.int .i64 0),.sc (.int .i64 0),.sc (.int .i64 0),.sc (.int .i64 0),.sc (.int .i64 0),.sc (.int .i64 0),.sc (.int .i64 0),.sc (.int .i64 0),.sc (.int .i64 0),.sc (.int .i64 0),.sc (.int .i64 0),.sc (.int .i64 0),.sc (.int .i64 0),.sc (.int .i64 0),.sc (.int .i64 0),.sc (.slice none 0 0)]:=kz
@[go_sem] theorem tP191:placesOf Tryz.prog 191=some [(0,1),(1,1)]:=kz
@[go_sem] theorem tZ191:zeroC Tryz.prog 191=some [.sc (.slice none 0 0),.sc (.slice none 0 0)]:=kz
@[go_sem] theorem tU194:Tryz.prog.underlying 194=some (.slice 196):=kz
@[go_sem] theorem tS196:csz Tryz.prog 196=some 2:=kz
@[go_sem] theorem tB196:byt Tryz.prog 196=some 32:=kz
@[go_sem] theorem tA196:isAggT Tryz.prog 196=some true:=kz
@[go_sem] theorem tP196:placesOf Tryz.prog 196=some [(0,1),(1,1)]:=kz
@[go_sem] theorem tZ196:zeroC Tryz.prog 196=some [.sc (.int .i64 0),.sc (.slice none 0 0)]:=kz
@[go_sem] theorem tU203:Tryz.prog.underlying 203=some (.slice 84):=kz
end Go.Proofs.YtfokgjhdndnnhaaGreatDoor
noncomputable section Fl21S
namespace Go.Fl
open Go
theorem Heap.le_refl (H:Heap):H.le H:=fun _ _ h=>h
theorem Heap.le_alloc {H H1:Heap} {cs:List AV} (h:H.le H1):H.le (H1.alloc cs):=fun b c hb=>by
 rw[Heap.get_alloc,if_neg (by have:=Heap.lt_of_get (h b c hb); omega)]
 exact h b c hb
theorem Heap.le_trans {H H1 H2:Heap} (h:H.le H1) (k:H1.le H2):H.le H2:=fun b c hb=>k b c (h b c hb)
theorem Heap.next_regrow (H:Heap) (x:Option Nat) (cs:List AV):(H.regrow x cs).next=H.next+1:=by
 unfold Heap.regrow; rw[Heap.next_alloc,Heap.delo_next]
theorem Froz.mono {H:Heap} {d d' : Nat->Prop} (h : ∀ b,d b->d' b) {x y:AV} (hf:Froz H d x y):Froz H d' x y:=by
 induction hf with
 | same x=>exact .same x
 | nil sz=>exact .nil sz
 | ms h1 h2 h3 h4 _ ih=>exact .ms h1 (h _ h2) h3 h4 ih
 | vs h1 _ ih=>exact .vs h1 ih
 | agg h1 _ ih=>exact .agg h1 ih
 | tup h1 _ ih=>exact .tup h1 ih
 | ifc _ ih=>exact .ifc ih
 | top x=>exact .top x
 | ai k n=>exact .ai k n
 | ep h1 h2 h0 h3 _ ih=>exact .ep h1 (h _ h2) h0 h3 ih
theorem Froz.row {H:Heap} {d:Nat->Prop} {b off len sz:Nat} {cs cells:List AV} (h1:H.get b=some cs) (h2:d b) (h3:off+len*sz<=cs.length) (h4:cells=(cs.drop off).take (len*sz)):Froz H d (.ms b off len sz) (.vs len sz cells):=by
 subst h4
 refine .ms h1 h2 h3 (by simp; omega) (fun i x y hx hy=>?_)
 have hi:i<len*sz:=by
  have:=(List.getElem?_eq_some_iff.1 hx).1
  simp at this; omega
 rw[List.getElem?_take_of_lt hi,List.getElem?_drop] at hx
 rw[hx] at hy; cases hy
 exact .same _
inductive FrozL (H:Heap) (d:Nat->Prop):List AV->List AV->Prop
 | nil:FrozL H d [] []
 | cons {x y:AV} {xs ys:List AV} : Froz H d x y->FrozL H d xs ys->FrozL H d (x::xs) (y::ys)
theorem FrozL.get {H:Heap} {d:Nat->Prop} {xs ys:List AV} (h:FrozL H d xs ys):xs.length=ys.length /\ ∀ (i:Nat) (x y:AV),ys[i]? = some x->xs[i]? = some y->Froz H d y x:=by
 induction h with
 | nil=>exact ⟨rfl,fun i x y hx=>by simp at hx⟩
 | cons h1 _ ih =>
  refine ⟨by simp[ih.1],fun i x y hx hy=>?_⟩
  cases i with
  | zero=>simp at hx hy; subst hx; subst hy; exact h1
  | succ i=>simp only[List.getElem?_cons_succ] at hx hy; exact ih.2 i x y hx hy
theorem Froz.tupL {H:Heap} {d:Nat->Prop} {xs ys:List AV} (h:FrozL H d xs ys):Froz H d (.tup xs) (.tup ys):=.tup h.get.1 h.get.2
theorem Lt_sc (n:Nat) (v:Value):(AV.sc v).Lt n=True:=eq_true (.sc v)
theorem Lt_ab (n:Nat):AV.ab.Lt n=True:=eq_true .ab
theorem Lt_ai (n:Nat) (k:IntKind):(AV.ai k).Lt n=True:=eq_true (.ai k)
theorem Lt_agg (n:Nat) (l:List AV):(AV.agg l).Lt n = ∀ x∈l,x.Lt n:=propext ⟨fun h=>by cases h; assumption,.agg⟩
theorem Lt_tup (n:Nat) (l:List AV):(AV.tup l).Lt n = ∀ x∈l,x.Lt n:=propext ⟨fun h=>by cases h; assumption,.tup⟩
theorem Lt_vs (n a b:Nat) (l:List AV):(AV.vs a b l).Lt n = ∀ x∈l,x.Lt n:=propext ⟨fun h=>by cases h; assumption,.vs⟩
theorem Lt_ep (n:Nat) (l:List AV):(AV.ep l).Lt n = ∀ x∈l,x.Lt n:=propext ⟨fun h=>by cases h; assumption,.ep⟩
theorem Lt_ptr (n b o:Nat):(AV.ptr b o).Lt n=(b<n):=propext ⟨fun h=>by cases h; assumption,.ptr⟩
theorem Lt_ms (n b o l s:Nat):(AV.ms b o l s).Lt n=(b<n):=propext ⟨fun h=>by cases h; assumption,.ms⟩
theorem Lt_ifc (n:Nat) (t:TypeId) (x:AV):(AV.ifc t x).Lt n=x.Lt n:=propext ⟨fun h=>by cases h; assumption,.ifc⟩
theorem Lt_fn (n:Nat) (f:Fn) (a b:List AV):(AV.fn f a b).Lt n=((∀ x∈a,x.Lt n) /\ ∀ x∈b,x.Lt n):=propext ⟨fun h=>by cases h; exact ⟨by assumption,by assumption⟩,fun h=>.fn h.1 h.2⟩
theorem Lt_ty (n:Nat) (t:TypeId) (m:Nat) (x:AV):(AV.ty t m x).Lt n=x.Lt n:=propext ⟨fun h=>by cases h; assumption,.ty⟩
theorem Lt_cp (n:Nat) (k:Nat) (x:AV):(AV.cp k x).Lt n=x.Lt n:=propext ⟨fun h=>by cases h; assumption,.cp⟩
attribute [go_sem] Lt_cp Lt_ty Lt_sc Lt_ab Lt_ai Lt_agg Lt_tup Lt_vs Lt_ep Lt_ptr Lt_ms Lt_ifc Lt_fn aresults aresultL aresult tupOf Heap.next_regrow
theorem zD {P:Program} {fn:Func} {H:Heap} {env:Env} {H1:Heap} {v r:AV} (h1:aresults P fn env H1=some v) (h2:Froz H1 (fun b=>H.next<=b) v r) (h3:H.le H1) (h4:H.next<=H1.next) (h5:r.Lt H.next):Ret P fn H env H1 r H where
 res:=⟨v,h1,h2.mono fun b hb=>H.wf b hb⟩
 sub:=h3
 lo:=Nat.le_refl _
 hi:=h4
 lt:=h5
 cont:=fun _ _ h=>.inl h
theorem qG {P:Program} {fn:Func} {H:Heap} {env:Env} {H1:Heap} {r:AV} (h1:aresults P fn env H1=some r) (h3:H.le H1) (h4:H.next<=H1.next) (h5:r.Lt H.next):Ret P fn H env H1 r H :=
 zD h1 (.same r) h3 h4 h5
end Go.Fl
end Fl21S
noncomputable section Fl22S
namespace Go.Fl
open Go
section
variable (P:Program) (t:TypeId) (k:IntKind) (a b:Int)
@[go_sem] theorem srun_add:srun P (binOp .add t (.int k a) (.int k b))=some (.int k (k.wrap (a+b))):=by simp[binOp,Op.intArith]; rfl
@[go_sem] theorem srun_sub:srun P (binOp .sub t (.int k a) (.int k b))=some (.int k (k.wrap (a-b))):=by simp[binOp,Op.intArith]; rfl
@[go_sem] theorem srun_mul:srun P (binOp .mul t (.int k a) (.int k b))=some (.int k (k.wrap (a*b))):=by simp[binOp,Op.intArith]; rfl
@[go_sem] theorem srun_eql:srun P (binOp .eql t (.int k a) (.int k b))=some (.bool (a==b)):=by simp[binOp,Op.intCmp]; rfl
@[go_sem] theorem srun_neq:srun P (binOp .neq t (.int k a) (.int k b))=some (.bool (a != b)):=by simp[binOp,Op.intCmp]; rfl
@[go_sem] theorem srun_lss:srun P (binOp .lss t (.int k a) (.int k b))=some (.bool (decide (a<b))):=by simp[binOp,Op.intCmp]; rfl
@[go_sem] theorem srun_leq:srun P (binOp .leq t (.int k a) (.int k b))=some (.bool (decide (a<=b))):=by simp[binOp,Op.intCmp]; rfl
@[go_sem] theorem srun_gtr:srun P (binOp .gtr t (.int k a) (.int k b))=some (.bool (decide (b<a))):=by simp[binOp,Op.intCmp]; rfl
@[go_sem] theorem srun_geq:srun P (binOp .geq t (.int k a) (.int k b))=some (.bool (decide (b<=a))):=by simp[binOp,Op.intCmp]; rfl
def band (k:IntKind) (a b:Int):Int:=k.wrap (BitVec.ofInt k.bits a &&& BitVec.ofInt k.bits b).toNat
def bor (k:IntKind) (a b:Int):Int:=k.wrap (BitVec.ofInt k.bits a ||| BitVec.ofInt k.bits b).toNat
def bxor (k:IntKind) (a b:Int):Int:=k.wrap (BitVec.ofInt k.bits a ^^^ BitVec.ofInt k.bits b).toNat
def bandNot (k:IntKind) (a b:Int):Int:=k.wrap (BitVec.ofInt k.bits a &&& ~~~(BitVec.ofInt k.bits b)).toNat
def bshl (k:IntKind) (a b:Int):Int:=k.wrap (a*2^(min b.toNat k.bits))
def bshr (k:IntKind) (a b:Int):Int:=a.fdiv (2^(min b.toNat k.bits))
@[go_sem] theorem srun_and:srun P (binOp .and t (.int k a) (.int k b))=some (.int k (band k a b)):=by simp[binOp,Op.intBits,band]; rfl
@[go_sem] theorem srun_or:srun P (binOp .or t (.int k a) (.int k b))=some (.int k (bor k a b)):=by simp[binOp,Op.intBits,bor]; rfl
@[go_sem] theorem srun_xor:srun P (binOp .xor t (.int k a) (.int k b))=some (.int k (bxor k a b)):=by simp[binOp,Op.intBits,bxor]; rfl
@[go_sem] theorem srun_andNot:srun P (binOp .andNot t (.int k a) (.int k b))=some (.int k (bandNot k a b)):=by simp[binOp,Op.intBits,bandNot]; rfl
@[go_sem] theorem srun_shl {k' : IntKind} (h:0<=b):srun P (binOp .shl t (.int k a) (.int k' b))=some (.int k (bshl k a b)):=by
 simp only[binOp,Op.shift]; rw[if_neg oz]; rfl
@[go_sem] theorem srun_shr {k' : IntKind} (h:0<=b):srun P (binOp .shr t (.int k a) (.int k' b))=some (.int k (bshr k a b)):=by
 simp only[binOp,Op.shift]; rw[if_neg oz]; rfl
@[go_sem] theorem srun_quo (h:b≠0):srun P (binOp .quo t (.int k a) (.int k b))=some (.int k (k.wrap (a.tdiv b))):=by
 simp[binOp,Op.intDiv,h]; rfl
@[go_sem] theorem srun_rem (h:b≠0):srun P (binOp .rem t (.int k a) (.int k b))=some (.int k (a.tmod b)):=by
 simp[binOp,Op.intDiv,h]; rfl
@[go_sem] theorem srun_seql (x y:ByteArray):srun P (binOp .eql t (.string x) (.string y))=some (.bool (x.toList==y.toList)):=by simp[binOp,Op.stringOp]; rfl
@[go_sem] theorem srun_sneq (x y:ByteArray):srun P (binOp .neq t (.string x) (.string y))=some (.bool (!(x.toList==y.toList))):=by simp[binOp,Op.stringOp]; rfl
@[go_sem] theorem srun_not (q:Bool):srun P (Op.unary .not (.bool q))=some (.bool !q):=rfl
@[go_sem] theorem srun_neg:srun P (Op.unary .neg (.int k a))=some (.int k (k.wrap (0-a))):=rfl
def convI (P:Program) (src dst:TypeId) (a:Int):Option Value :=
 match P.underlying src,P.underlying dst with
 | some _,some (.int k)=>some (.int k (k.wrap a))
 | _,_=>none
attribute [go_sem] convI
theorem qbn {α β : Type} (P:Program) (s:Sem α) (f : α -> Sem β) (a : α) (h:srun P s=some a):srun P (s >>= f)=srun P (f a):=by
 induction s with
 | pure b=>simp only[srun,Option.some.injEq] at h; subst h; rfl
 | program k ih=>exact ih P h
 | _=>simp[srun] at h
theorem jR {P:Program} {t:TypeId} {d:TypeDesc} (h:P.underlying t=some d):srun P (underlying t)=some d:=by
 unfold underlying
 rw[qbn P program _ P rfl,h]
 rfl
@[go_sem] theorem srun_convert {src dst:TypeId} (k' : IntKind) (h:(convI P src dst a).isSome=true):srun P (convert src dst (.int k' a))=convI P src dst a:=by
 revert h
 unfold convI
 split
 ·rename_i u k h1 h2
  intro _
  unfold convert
  rw[qbn P _ _ _ (jR h1),qbn P _ _ _ (jR h2)]
  rfl
 ·intro h; simp at h
end
end Go.Fl
end Fl22S
noncomputable section Fl23S
namespace Go.Fl
open Go
def kcode:IntKind->Nat
 | .i8=>0 | .i16=>1 | .i32=>2 | .i64=>3 | .u8=>4 | .u16=>5 | .u32=>6 | .u64=>7
def sameV:Value->Value->Bool
 | .int k a,.int k' b=>k==k' && a==b
 | .bool a,.bool b=>a==b
 | .pointer none,.pointer none=>true
 | .slice none 0 0,.slice none 0 0=>true
 | .nilFunc,.nilFunc=>true
 | .nilIface,.nilIface=>true
 | .map none,.map none=>true
 | _,_=>false
mutual
def same:Nat->AV->AV->Bool
 | 0,_,_=>false
 | _+1,.sc a,.sc b=>sameV a b
 | _+1,.ptr b o,.ptr b' o'=>b==b' && o==o'
 | _+1,.ms b o l s,.ms b' o' l' s'=>b==b' && o==o' && l==l' && s==s'
 | _+1,.ai k,.ai k'=>Nat.beq (kcode k) (kcode k')
 | _+1,.ab,.ab=>true
 | n+1,.vs l s c,.vs l' s' c'=>l==l' && s==s' && sameL n c c'
 | n+1,.agg c,.agg c'=>sameL n c c'
 | n+1,.tup c,.tup c'=>sameL n c c'
 | _+1,_,_=>false
def sameL:Nat->List AV->List AV->Bool
 | 0,_,_=>false
 | _+1,[],[]=>true
 | n+1,x::r,y::r'=>same n x y&&sameL n r r'
 | _+1,_,_=>false
end
abbrev ET:=Tr AV
def ET.fn (T:ET):Env:=fun i=>(T.get i).getD .undef
def ET.upd (T:ET) (d:Option Tmp) (v:AV):ET:=match d with
 | none=>T
 | some d=>T.put d (some v)
def ET.enterF:Nat->List AV->ET->ET
 | _,[],T=>T
 | n,x::r,T=>ET.enterF (n+1) r (T.put n (some x))
def ET.enter (args:List AV):ET:=ET.enterF 0 args .leaf
abbrev ACall:=FuncId->List AV->Heap->Option (AV × Heap)
section
variable (call:ACall) (P:Program) (sz:Nat)
end
section
variable {call:ACall} {P:Program} {sz:Nat}
end
end Go.Fl
end Fl23S
noncomputable section Fl24S
namespace Go.Fl
open Go Go.RowKit Go.ChangeShapes
def Kept (w w' : World):Prop:=w.keptBut w' (fun _=>False)/\w.heap.size<=w'.heap.size
theorem Kept.frame {w w' : World} (h:Kept w w') (may:MemPlace->Prop):w.keptBut w' may:=World.keptBut_mono (fun _ f=>f.elim) h.1
theorem Ext.kept_all {ρ ρ' : Rho} {I' : Nat->Prop} {w w' : World} (h:Ext ρ (fun cb=>cb<w.heap.size) w ρ' I' w'):Kept w w':=by
 refine ⟨⟨h.os,h.output,fun i hi=>?_⟩,h.size⟩
 rw[h.kept i hi]
 cases w.heap[i]? with
 | none=>trivial
 | some o=>cases o <;> simp
structure GlobsMet (w:World):Prop where
 cells : ∀ g vs,globCells g=some vs -> ∃ e fz,w.heap[g]? = some (.cells vs.toArray e fz)
 like : ∀ g Q,globLike g=some Q -> ∃ vs e fz,w.heap[g]? = some (.cells vs e fz)/\Q vs
theorem GlobsMet.ok {w:World} (h:GlobsMet w):GlobOk (fun cb=>cb<w.heap.size) w.heap where
 cells g vs hg:=by
  obtain ⟨e,fz,h1⟩:=h.cells g vs hg
  exact ⟨(Array.getElem?_eq_some_iff.1 h1).1,e,fz,h1⟩
 like g Q hg:=by
  obtain ⟨vs,e,fz,h1,h2⟩:=h.like g Q hg
  exact ⟨(Array.getElem?_eq_some_iff.1 h1).1,vs,e,fz,h1,h2⟩
theorem Rel.nothing (w:World) (hg:GlobsMet w):Rel (fun _=>none) (fun cb=>cb<w.heap.size) Heap.empty w.heap where
 live b cs hb:=by rw[show Heap.empty.get b=none from rfl] at hb; cases hb
 inj b b' cs cs' cb base base' hb:=by rw[show Heap.empty.get b=none from rfl] at hb; cases hb
 rng b p hb:=by cases hb
 at_ b cb base hb:=by cases hb
 irng cb h:=h
 glob:=hg.ok
theorem scalls_law {P:Program} {f:FuncId} {args:List AV} {v:Value} {H:Heap} (h:SCalls P f args Heap.empty (.sc v) H) (w:World) (hg:GlobsMet w) {cargs:Array Value} (ha:VRs (fun _=>none) (fun cb=>cb<w.heap.size) w.heap args cargs) :
  Calls P f cargs w fun e w'=>e = .returned v/\Kept w w' :=
 (h.2.2 _ _ w cargs (Rel.nothing w hg) ha).mono fun e w' ⟨u,ρ',I',h1,h2,h3,h4⟩=>⟨by rw[h1,h2.eq_sc],h4.kept_all⟩
variable {H:Type} {enc:TypeId × Value->H} {P:Program}
theorem post_of_kept {f:Func} {s:ChangeSpec} {apart fresh handsOn:Bool} {W W' : World} {args:Array Value} {v:Value} {ds gs:List (DataW H)} {before pa pv:List MemPlace}
  (hW:DataW.Whole enc P f.params.toList s.vars apart W args.toList ds gs before)
  (hres : ∀ (b:Nat) (sp:Nat->Bool) (hd:Bool),DataW.TrodAll enc P W' b sp hd f.resultTypes.toList (v.resultList f.resultTypes.size) (s.fn H (ds++gs)).results [])
  (hargs : ∀ sp:Nat->Bool,(∀ p∈before,sp p.block=true)->DataW.TrodAll enc P W' 0 sp true f.params.toList args.toList (s.fn H (ds++gs)).args pa)
  (hvars : ∀ sp:Nat->Bool,(∀ p∈before,sp p.block=true)->DataW.TrodVars enc P W' sp s.vars (s.fn H (ds++gs)).vars pv)
  (hps:before=pa++pv) (hk:W.keptBut W' (· ∈ before)) :
  s.post enc P f apart fresh handsOn false W args v W':=by
 have hold : ∀ p∈before,(fun b=>decide (b<W.heap.size)) p.block=true:=fun p hp=>by simpa using hW.lt p hp
 refine ⟨ds,gs,before,[],pa,pv,hW,hres _ _ _,hargs _ hold,hvars _ hold,World.keptBut_mono (fun p hp=>⟨hp,?_⟩) hk,fun h=>by cases h⟩
 rw[hps,List.mem_append] at hp
 exact Or.inr hp
end Go.Fl
end Fl24S
noncomputable section Fl25S
namespace Go.Fl
open Go
theorem qce (ρ : Rho) : ρ.below 0=fun _=>none:=by
 funext b
 simp[Rho.below]
theorem qO {P:Program} {f:FuncId} {args:List AV} {r:AV} (h:SCalls P f args Heap.empty r Heap.empty) (ha : ∀ x∈args,x.Lt 0) (hr:r.Lt 0) (H:Heap):SCalls P f args H r H:=by
 refine ⟨h.1,Nat.le_refl _,fun ρ I w cargs hrel hargs=>?_⟩
 have hrel0:Rel (fun _=>none) I Heap.empty w.heap:=by
  refine ⟨?_,?_,?_,?_,hrel.irng,hrel.glob⟩
  ·intro b cs hb; rw[show Heap.empty.get b=none from rfl] at hb; cases hb
  ·intro b b' cs cs' cb base base' hb; rw[show Heap.empty.get b=none from rfl] at hb; cases hb
  ·intro b p hb; cases hb
  ·intro b cb base hb; cases hb
 have hargs0:VRs (fun _=>none) I w.heap args cargs :=
  ⟨hargs.1,fun i x hx=>by rw[<- qce ρ]; exact (hargs.2 i x hx).lower (ha x (List.mem_of_getElem? hx))⟩
 refine (h.2.2 _ _ w cargs hrel0 hargs0).mono ?_
 rintro e w' ⟨v,ρ',I',he,hv,hr',hx⟩
 have hold : ∀ cb,cb<w.heap.size->w'.heap[cb]? = w.heap[cb]?:=fun cb hcb=>hx.frame cb hcb fun b base hb=>by cases hb
 have hnew : ∀ cb,I' cb->I cb\/w.heap.size<=cb:=fun cb hcb=>by
  rcases hx.newI cb hcb with h1 | h1 | ⟨b,base,h1⟩
  ·exact .inl h1
  ·exact .inr h1
  ·cases h1
 refine ⟨v,ρ,I',he,?_,?_,?_⟩
 ·have h1:=hv.lower hr
  rw[qce] at h1
  exact h1.mono' (fun b p hb=>by cases hb) (fun _ h=>h) (fun _ _=>rfl) (fun _ c _ fz h=>⟨c,fz,h,rfl⟩)
 ·refine ⟨?_,hrel.inj,hrel.rng,?_,hr'.irng,hr'.glob⟩
  ·intro b cs hb
   rcases hrel.live b cs hb with h1 | ⟨cb,base,c,e,k1,k2,k3,k4,k5⟩
   ·exact .inl h1
   ·obtain ⟨fz,hf,k3⟩:=k3
    have hlt:cb<w.heap.size:=(Array.getElem?_eq_some_iff.1 k3).1
    refine .inr ⟨cb,base,c,e,k1,fun hI=>?_,⟨fz,hf,by rw[hold cb hlt]; exact k3⟩,k4,fun i x hx'=>?_⟩
    ·rcases hnew cb hI with h1 | h1
     ·exact k2 h1
     ·omega
    ·exact (k5 i x hx').mono' (fun _ _ h=>h) hx.imm hx.kept hx.blocks
  ·intro b cb base hb
   obtain ⟨c,e,fz,h1⟩:=hrel.at_ b cb base hb
   exact ⟨c,e,fz,by rw[hold cb (Array.getElem?_eq_some_iff.1 h1).1]; exact h1⟩
 ·exact { rho:=fun _ _ h=>h
          imm:=hx.imm
          size:=hx.size
          kept:=hx.kept
          blocks:=hx.blocks
          frame:=fun cb hlt _=>hold cb hlt
          newI:=fun cb hcb=>(hnew cb hcb).imp id .inl
          newR:=fun b cb base hb=>.inl hb
          os:=hx.os
          tape:=hx.tape
          output:=hx.output }
end Go.Fl
end Fl25S
