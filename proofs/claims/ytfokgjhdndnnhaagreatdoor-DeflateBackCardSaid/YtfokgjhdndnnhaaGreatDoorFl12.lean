/- That the machine does what aop says. -/
import Derived.Test.YtfokgjhdndnnhaaGreatDoorFl9
import Derived.Tactics
set_option linter.unusedVariables false
set_option linter.unusedSimpArgs false
noncomputable section Fl10S
namespace Go.Fl
open Go
def Ran (P:Program) (cv:Operand->Value) (o:Oper) (w:World) (v:Value) (w' : World):Prop :=
 (execOp cv o).run P w = .ok (.value v) w' \/ ((execOp cv o).run P w = .ok .skip w' /\ v=Go.undef)
section
variable {P:Program} {ρ : Rho} {I:Nat->Prop} {H:Heap} {w:World}
theorem VRs_map {ev:Operand->AV} {cv:Operand->Value} (hv : ∀ y,VR ρ I w.heap (ev y) (cv y)) (xs:Array Operand):VRs ρ I w.heap (xs.toList.map ev) (xs.map cv):=by
 refine ⟨by simp,fun i x hx=>?_⟩
 simp only[List.getElem?_map,Option.map_eq_some_iff] at hx
 obtain ⟨y,h1,rfl⟩:=hx
 have:(xs.map cv).getD i Go.undef=cv y:=by
  simp only[Array.getD_eq_getD_getElem?,Array.getElem?_map]
  rw[Array.getElem?_toList] at h1
  rw[h1]; rfl
 rw[this]; exact hv y
theorem qg7 {ev:Operand->AV} {cv:Operand->Value} (hv : ∀ y,VR ρ I w.heap (ev y) (cv y)) (parts:Array (Nat × Operand)) :
  (parts.toList.map fun p=>(p.1,ev p.2)).length=(parts.map fun (i,x)=>(i,cv x)).toList.length /\
  ∀ (j i:Nat) (x:AV),(parts.toList.map fun p=>(p.1,ev p.2))[j]? = some (i,x) -> ∃ v,(parts.map fun (i,x)=>(i,cv x)).toList[j]? = some (i,v)/\VR ρ I w.heap x v:=by
 refine ⟨by simp,fun j i x hx=>?_⟩
 simp only[List.getElem?_map,Option.map_eq_some_iff,Prod.mk.injEq] at hx
 obtain ⟨⟨i',y⟩,h1,rfl,rfl⟩:=hx
 refine ⟨cv y,?_,hv y⟩
 rw[Array.toList_map,List.getElem?_map,h1]
 rfl
theorem VRo_map {ev:Operand->AV} {cv:Operand->Value} (hv : ∀ y,VR ρ I w.heap (ev y) (cv y)) (x:Option Operand):VRo ρ I w.heap (x.map ev) (x.map cv):=by
 cases x with
 | none=>trivial
 | some x=>exact hv x
theorem qg8 (hr:Rel ρ I H w.heap) {b:Builtin} {argTypes:Array TypeId} {ty:TypeId} {consts:Array Bool} {args:List AV} {cargs:Array Value} {r:AV} {H' : Heap}
  (h:abuiltin P H b argTypes ty args=some (r,H')) (hv:VRs ρ I w.heap args cargs) :
  ∃ v w' ρ',(builtin b argTypes ty consts cargs).run P w = .ok (.value v) w' /\ VR ρ' I w'.heap r v/\Rel ρ' I H' w'.heap/\Ext ρ I w ρ' I w':=by
 have two : ∀ (t u:TypeId),argTypes.size=2->argTypes.getD 0 0=t->argTypes.getD 1 0=u->argTypes = #[t,u]:=by
  intro t u h1 h2 h3
  apply Array.ext
  ·simpa using h1
  ·intro i hi1 hi2
   match i,hi1 with
   | 0,hi1=>simpa [Array.getD_eq_getD_getElem?,hi1] using h2
   | 1,hi1=>simpa [Array.getD_eq_getD_getElem?,hi1] using h3
   | i+2,hi1=>omega
 have arg1 : ∀ x,args = [x] -> ∃ v,cargs = #[v]/\VR ρ I w.heap x v:=by
  intro x hx
  subst hx
  have h1:=hv.1
  match cargs,h1 with
  | ⟨[v]⟩,_=>exact ⟨v,rfl,hv.2 0 x rfl⟩
 have arg2 : ∀ x y,args = [x,y] -> ∃ u v,cargs = #[u,v]/\VR ρ I w.heap x u/\VR ρ I w.heap y v:=by
  intro x y hx
  subst hx
  have h1:=hv.1
  match cargs,h1 with
  | ⟨[u,v]⟩,_=>exact ⟨u,v,rfl,hv.2 0 x rfl,hv.2 1 y rfl⟩
 unfold abuiltin at h
 split at h
 ·rename_i x
  obtain ⟨v,rfl,hxv⟩:=arg1 _ rfl
  split at h
  ·rename_i r' hl
   simp only[Option.some.injEq,Prod.mk.injEq] at h
   obtain ⟨rfl,rfl⟩:=h
   cases ha:argTypes[0]? with
   | none=>simp[ha] at hl
   | some t =>
    simp only[ha,Option.bind_some] at hl
    obtain ⟨u,h1,h2⟩:=alen_run (P:=P) (argTypes:=argTypes) (ty:=ty) hl ha hxv
    exact ⟨u,w,ρ,by simp[builtin,h1],h2,hr,Ext.refl _ _ _⟩
  ·cases hc:conc x with
   | none=>simp[hc] at h
   | some v' =>
    simp only[hc,Option.bind_some,Option.map_eq_some_iff,Prod.mk.injEq] at h
    obtain ⟨u,h1,rfl,rfl⟩:=h
    cases qa3 hc hxv
    exact ⟨u,w,ρ,by simp[builtin,jc h1 w],VR_ofV u,hr,Ext.refl _ _ _⟩
 ·rename_i s x
  obtain ⟨sv,xv,rfl,hsv,hxv⟩:=arg2 _ _ rfl
  split at h
  ·rename_i hsz
   split at h
   ·rename_i q hq
    cases h
    obtain ⟨v,w',ρ',h1,h2,h3,h4⟩:=qjd (ty:=ty) hr hq hsv hxv
    rw[<- two _ _ hsz rfl rfl] at h1
    exact ⟨v,w',ρ',by simp[builtin,h1],h2,h3,h4⟩
   ·obtain ⟨v,w',ρ',h1,h2,h3,h4⟩:=qn3 (ty:=ty) hr h hsv hxv
    rw[<- two _ _ hsz rfl rfl] at h1
    exact ⟨v,w',ρ',by simp[builtin,h1],h2,h3,h4⟩
  ·cases h
 ·rename_i d x
  obtain ⟨dv,xv,rfl,hdv,hxv⟩:=arg2 _ _ rfl
  split at h
  ·rename_i hsz
   obtain ⟨v,w',h1,h2,h3,h4⟩:=qn5 (ty:=ty) hr h hdv hxv
   rw[<- two _ _ hsz rfl rfl] at h1
   exact ⟨v,w',ρ,by simp[builtin,h1],h2,h3,h4⟩
  ·cases h
 ·cases hc:concs args with
  | none=>simp[hc] at h
  | some vs =>
   simp only[hc,Option.bind_some,Option.map_eq_some_iff,Prod.mk.injEq] at h
   obtain ⟨u,h1,rfl,rfl⟩:=h
   cases qhs hc hv
   exact ⟨u,w,ρ,by simp[builtin,jc h1 w],VR_ofV u,hr,Ext.refl _ _ _⟩
 ·cases hc:concs args with
  | none=>simp[hc] at h
  | some vs =>
   simp only[hc,Option.bind_some,Option.map_eq_some_iff,Prod.mk.injEq] at h
   obtain ⟨u,h1,rfl,rfl⟩:=h
   cases qhs hc hv
   exact ⟨u,w,ρ,by simp[builtin,jc h1 w],VR_ofV u,hr,Ext.refl _ _ _⟩
 ·cases h
theorem afld_run {t:TypeId} {x r:AV} {f:Nat} {v:Value} (h:afld P t x f=some r) (hv:VR ρ I w.heap x v) : ∃ u,(Instr.field t v f).run P w = .ok u w/\VR ρ I w.heap r u:=by
 unfold afld at h
 split at h
 ·rename_i fields cs hu
  cases hf:fields[f]? with
  | none=>simp[hf] at h
  | some fl =>
   simp only[hf,Option.bind_some] at h
   cases hv with
   | agg h1 h2 =>
    obtain ⟨u,h3,h4⟩:=qhl h ⟨h1,h2⟩
    exact ⟨u,by simp[Instr.field,run_underlying hu,hf,asAgg,h3],h4⟩
 ·cases h
theorem aidx_run {t:TypeId} {x i r:AV} {v j:Value} (h:aidx P t x i=some r) (hv:VR ρ I w.heap x v) (hj:VR ρ I w.heap i j) : ∃ u,(Instr.index t v j).run P w = .ok u w/\VR ρ I w.heap r u:=by
 unfold aidx at h
 split at h
 ·rename_i n e cs k m hu
  cases hj.eq_sc
  cases hn:csz P e with
  | none=>simp[hn] at h
  | some sz =>
   simp only[hn,Option.bind_some] at h
   split at h
   ·rename_i hlt
    cases hv with
    | agg h1 h2 =>
     obtain ⟨u,h3,h4⟩:=qhl h ⟨h1,h2⟩
     exact ⟨u,by simp[Instr.index,asIntOf,run_underlying hu,hlt,zk P hn,h3],h4⟩
   ·cases h
 ·rename_i u' v' hu
  cases hv.eq_sc
  cases hj.eq_sc
  simp only[Option.map_eq_some_iff] at h
  obtain ⟨z,h1,rfl⟩:=h
  exact ⟨z,jc h1 w,VR_ofV z⟩
 ·cases h
theorem qlq (hr:Rel ρ I H w.heap) {o:Oper} (hV:isV o=false) {ev:Operand->AV} {cv:Operand->Value} (hv : ∀ y,VR ρ I w.heap (ev y) (cv y)) {x:AV} {H' : Heap} (h:aop P o ev H=some (x,H')) :
  ∃ v w' ρ',Ran P cv o w v w' /\ VR ρ' I w'.heap x v/\Rel ρ' I H' w'.heap/\Ext ρ I w ρ' I w':=by
 obtain ⟨dst',op,type,pos,after,guard⟩:=o
 have still : ∀ {u:Value} {r:AV},(execOp cv ⟨dst',op,type,pos,after,guard⟩).run P w = .ok (.value u) w->VR ρ I w.heap r u ->
   ∃ v w' ρ',Ran P cv ⟨dst',op,type,pos,after,guard⟩ w v w' /\ VR ρ' I w'.heap r v/\Rel ρ' I H w'.heap/\Ext ρ I w ρ' I w' :=
  fun h1 h2=>⟨_,w,ρ,.inl h1,h2,hr,Ext.refl _ _ _⟩
 cases op <;> simp only[aop] at h <;> try (cases h; done)
 case move y =>
  simp only[Option.some.injEq,Prod.mk.injEq] at h; obtain ⟨rfl,rfl⟩:=h
  exact still (by simp[execOp]) (hv y)
 case assign y =>
  simp only[Option.some.injEq,Prod.mk.injEq] at h; obtain ⟨rfl,rfl⟩:=h
  exact still (by simp[execOp]) (hv y)
 case pick c a b =>
  split at h
  ·rename_i t hc
   simp only[Option.some.injEq,Prod.mk.injEq] at h; obtain ⟨rfl,rfl⟩:=h
   have h1:=hv c
   rw[hc] at h1
   have h2:=h1.eq_sc
   cases t with
   | true=>exact still (u:=cv a) (by simp[execOp,h2,asBool]) (hv a)
   | false=>exact still (u:=cv b) (by simp[execOp,h2,asBool]) (hv b)
  ·cases h
 case alloc t =>
  simp only[Option.map_eq_some_iff,Prod.mk.injEq] at h
  obtain ⟨zs,h1,rfl,rfl⟩:=h
  obtain ⟨z,h2,rfl⟩:=qhj P h1 w
  have hz:=VRs_scs (ρ := ρ) (I:=I) (w:=w) z.cells
  obtain ⟨k1,k2⟩:=jQ (w1:=w.alloc (.cells z.cells t)) hr (cs:=z.cells.toList.map .sc) (c:=z.cells) (e:=t) rfl rfl rfl rfl (by simp) hz.2
  exact ⟨.pointer (some ⟨w.heap.size,0,none⟩),_,_,.inl (by simp[execOp,Instr.alloc,h2,newVar,newRow]),.ptr (o:=0) (Rho.upd_same _ _ _),k1,k2⟩
 case box t y =>
  simp only[Option.map_eq_some_iff,Prod.mk.injEq] at h
  obtain ⟨cs,h1,rfl,rfl⟩:=h
  have hz:=qcf h1 (hv y)
  obtain ⟨k1,k2⟩:=jQ (w1:=w.alloc (.cells (cv y).cells t)) hr (cs:=cs) (c:=(cv y).cells) (e:=t) rfl rfl rfl rfl (by rw[hz.1]; exact Nat.le_refl _) hz.2
  exact ⟨.pointer (some ⟨w.heap.size,0,none⟩),_,_,.inl (by simp[execOp,Instr.box,newVar,newRow]),.ptr (o:=0) (Rho.upd_same _ _ _),k1,k2⟩
 case build t parts =>
  simp only[Option.map_eq_some_iff,Prod.mk.injEq] at h
  obtain ⟨r,h1,rfl,rfl⟩:=h
  obtain ⟨p1,p2⟩:=qg7 hv parts
  obtain ⟨u,h2,h3⟩:=qlw p1 p2 h1
  have e:(parts.map fun (i,x)=>(i,cv x)).toList.toArray=parts.map fun (i,x)=>(i,cv x):=Array.toArray_toList
  rw[e] at h2
  exact still (by simp only[execOp]; rw[Sem.run_bind,h2]; rfl) h3
 case buildSlice t len parts =>
  obtain ⟨p1,p2⟩:=qg7 hv parts
  obtain ⟨u,w',ρ',h2,h3,h4,h5⟩:=qd1 hr p1 p2 h
  have e:(parts.map fun (i,x)=>(i,cv x)).toList.toArray=parts.map fun (i,x)=>(i,cv x):=Array.toArray_toList
  rw[e] at h2
  exact ⟨u,w',ρ',.inl (by simp only[execOp]; rw[Sem.run_bind,h2]; rfl),h3,h4,h5⟩
 case load t a =>
  simp only[Option.map_eq_some_iff,Prod.mk.injEq] at h
  obtain ⟨r,h1,rfl,rfl⟩:=h
  obtain ⟨u,h2,h3⟩:=qhk (P:=P) hr h1 (hv a)
  exact still (by simp[execOp,h2]) h3
 case store t a y =>
  simp only[Option.map_eq_some_iff,Prod.mk.injEq] at h
  obtain ⟨H1,h1,rfl,rfl⟩:=h
  obtain ⟨w',h2,h3,h4⟩:=qlt (P:=P) hr h1 (hv a) (hv y)
  exact ⟨Go.undef,w',ρ,.inr ⟨by simp[execOp,h2],rfl⟩,.sc _,h3,h4⟩
 case nilCheck y =>
  have hy:=hv y
  split at h
  ·rename_i b o he
   simp only[Option.some.injEq,Prod.mk.injEq] at h; obtain ⟨rfl,rfl⟩:=h
   rw[he] at hy
   generalize hc:cv y=c at hy
   cases hy with
   | ptr hb=>exact still (by simp[execOp,hc]) (.ptr hb)
  ·rename_i cs he
   simp only[Option.some.injEq,Prod.mk.injEq] at h; obtain ⟨rfl,rfl⟩:=h
   rw[he] at hy
   generalize hc:cv y=c at hy
   cases hy with
   | ep h1 h2 h3 h4=>exact still (by simp[execOp,hc]) (.ep h1 h2 h3 h4)
  ·rename_i t v he
   simp only[Option.some.injEq,Prod.mk.injEq] at h; obtain ⟨rfl,rfl⟩:=h
   rw[he] at hy
   generalize hc:cv y=c at hy
   cases hy with
   | ifc h1=>exact still (by simp[execOp,hc]) (.ifc h1)
  ·rename_i f a b he
   simp only[Option.some.injEq,Prod.mk.injEq] at h; obtain ⟨rfl,rfl⟩:=h
   rw[he] at hy
   generalize hc:cv y=c at hy
   cases hy with
   | fn h1 h2 h3 h4=>exact still (by simp[execOp,hc]) (.fn h1 h2 h3 h4)
  ·cases h
 case binOp op t y z yt =>
  simp only[Option.map_eq_some_iff,Prod.mk.injEq] at h
  obtain ⟨r,h1,rfl,rfl⟩:=h
  obtain ⟨u,h2,h3⟩:=abin_run (P:=P) h1 (hv y) (hv z)
  exact still (by simp only[execOp]; rw[Sem.run_bind,h2]; rfl) h3
 case unOp op t y =>
  simp only[Option.map_eq_some_iff,Prod.mk.injEq] at h
  obtain ⟨r,h1,rfl,rfl⟩:=h
  obtain ⟨u,h2,h3⟩:=aun_run (P:=P) h1 (hv y)
  exact still (by simp[execOp,h2]) h3
 case convert src dst y =>
  cases hb:bytesT dst with
  | true =>
   have hkd:keepD dst' = false:=by
    unfold isV at hV
    simpa [hb] using hV
   simp only[hb,hkd] at h
   obtain ⟨v,w',ρ',h1,h2,h3,h4⟩:=qoa (P:=P) hr h (hv y)
   exact ⟨v,w',ρ',.inl (by simp[execOp,h1]),h2,h3,h4⟩
  | false =>
  simp only[hb] at h
  cases hac:aconv P H src dst (ev y) with
  | some r =>
   simp only[hac,Option.some.injEq,Prod.mk.injEq] at h
   obtain ⟨rfl,rfl⟩:=h
   obtain ⟨u,h2,h3⟩:=qn7 hr hac (hv y)
   exact still (by simp[execOp,h2]) h3
  | none =>
  simp only[hac] at h
  simp only[Option.map_eq_some_iff,Prod.mk.injEq] at h
  obtain ⟨r,h1,rfl,rfl⟩:=h
  obtain ⟨u,h2,h3⟩:=acvt_run (P:=P) h1 (hv y)
  exact still (by simp[execOp,h2]) h3
 case makeInterface t y =>
  cases hu:P.underlying t with
  | none=>simp[hu] at h
  | some d =>
   have key:(execOp cv ⟨dst',.makeInterface t y,type,pos,after,guard⟩).run P w = .ok (.value (.iface t (cv y))) w/\x = .ifc t (ev y)/\H' = H:=by
    cases d <;> simp only[hu] at h <;> first
     | (cases h; done)
     | (simp only[Option.some.injEq,Prod.mk.injEq] at h
        obtain ⟨rfl,rfl⟩:=h
        exact ⟨by simp[execOp,Instr.makeInterface,run_underlying hu],rfl,rfl⟩)
   obtain ⟨k1,rfl,rfl⟩:=key
   exact still k1 (.ifc (hv y))
 case makeFunc f first captured =>
  simp only[Option.some.injEq,Prod.mk.injEq] at h; obtain ⟨rfl,rfl⟩:=h
  have h1:=VRs_map hv first
  have h2:=VRs_map hv captured
  exact still (by simp[execOp,Instr.makeFunc]) (.fn h1.1 h2.1 h1.2 h2.2)
 case makeSlice t l c =>
  obtain ⟨v,w',ρ',h1,h2,h3,h4⟩:=qn4 (P:=P) hr h (hv l) (hv c)
  exact ⟨v,w',ρ',.inl (by simp[execOp,h1]),h2,h3,h4⟩
 case slice t y lo hi mx =>
  simp only[Option.map_eq_some_iff,Prod.mk.injEq] at h
  obtain ⟨r,h1,rfl,rfl⟩:=h
  obtain ⟨u,h2,h3⟩:=qma (P:=P) hr h1 (hv y) (VRo_map hv lo) (VRo_map hv hi) (VRo_map hv mx)
  exact still (by simp[execOp,h2]) h3
 case fieldAddr s y f =>
  simp only[Option.map_eq_some_iff,Prod.mk.injEq] at h
  obtain ⟨r,h1,rfl,rfl⟩:=h
  obtain ⟨u,h2,h3⟩:=qlu (P:=P) h1 (hv y)
  exact still (by simp[execOp,h2]) h3
 case field t y f =>
  simp only[Option.map_eq_some_iff,Prod.mk.injEq] at h
  obtain ⟨r,h1,rfl,rfl⟩:=h
  obtain ⟨u,h2,h3⟩:=afld_run (P:=P) h1 (hv y)
  exact still (by simp[execOp,h2]) h3
 case indexAddr t y i =>
  simp only[Option.map_eq_some_iff,Prod.mk.injEq] at h
  obtain ⟨r,h1,rfl,rfl⟩:=h
  obtain ⟨u,h2,h3⟩:=qlv (P:=P) h1 (hv y) (hv i)
  exact still (by simp[execOp,h2]) h3
 case index t y i =>
  simp only[Option.map_eq_some_iff,Prod.mk.injEq] at h
  obtain ⟨r,h1,rfl,rfl⟩:=h
  obtain ⟨u,h2,h3⟩:=aidx_run (P:=P) h1 (hv y) (hv i)
  exact still (by simp[execOp,h2]) h3
 case extract y i =>
  have hy:=hv y
  split at h
  ·rename_i vs he
   simp only[Option.map_eq_some_iff,Prod.mk.injEq] at h
   obtain ⟨r,h1,rfl,rfl⟩:=h
   rw[he] at hy
   generalize hc:cv y=c at hy
   cases hy with
   | tup h2 h3 =>
    rename_i cs
    have hlt:=(List.getElem?_eq_some_iff.1 h1).1
    rw[h2] at hlt
    have h4:=h3 _ _ h1
    have e1:cs.getD i Go.undef=cs[i]:=by simp[hlt]
    rw[e1] at h4
    exact still (u:=cs[i]) (by simp[execOp,hc,Instr.extract,hlt]) h4
  ·cases h
 case call c =>
  obtain ⟨callee,args,argTypes⟩:=c
  cases callee <;> simp only at h <;> try (cases h; done)
  rename_i b
  obtain ⟨v,w',ρ',h1,h2,h3,h4⟩:=qg8 (P:=P) (consts:=args.map fun | .const _=>true | _=>false) hr h (VRs_map hv args)
  exact ⟨v,w',ρ',.inl (by simp only[execOp,resolve,Sem.run_bind,Sem.run_pure,Result.andThen_ok,invoke]; exact h1),h2,h3,h4⟩
theorem qg9 (hr:Rel ρ I H w.heap) {o:Oper} {ev:Operand->AV} {cv:Operand->Value} (hv : ∀ y,VR ρ I w.heap (ev y) (cv y)) {x:AV} {H' : Heap} (h:aop P o ev H=some (x,H')) :
  ∃ v w' ρ' I',Ran P cv o w v w' /\ VR ρ' I' w'.heap x v/\Rel ρ' I' H' w'.heap/\Ext ρ I w ρ' I' w':=by
 cases hV:isV o with
 | false =>
  obtain ⟨v,w',ρ',h1,h2,h3,h4⟩:=qlq hr hV hv h
  exact ⟨v,w',ρ',I,h1,h2,h3,h4⟩
 | true =>
  obtain ⟨dst',op,type,pos,after,guard⟩:=o
  cases op <;> simp only[isV] at hV <;> try (cases hV; done)
  rename_i src dst y
  simp only[Bool.and_eq_true] at hV
  obtain ⟨hb,hk⟩:=hV
  simp only[aop,hb,hk,Option.map_eq_some_iff,Prod.mk.injEq] at h
  obtain ⟨r,h1,rfl,rfl⟩:=h
  obtain ⟨v,w',I',h2,h3,h4,h5⟩:=qn9 (P:=P) hr h1 (hv y)
  exact ⟨v,w',ρ,I',.inl (by simp[execOp,h2]),h3,h4,h5⟩
end
end Go.Fl
end Fl10S
noncomputable section Fl11S
namespace Go.Fl
open Go
abbrev Env:=Nat->AV
def Env.upd (e:Env) (d:Option Tmp) (v:AV):Env:=fun i=>if d=some i then v else e i
def aev (env:Env):Operand->AV
 | .tmp t=>env t
 | .const v=>ofV v
 | .global g=>match globCells g with
  | some vs=>.ep (vs.map AV.sc)
  | none=>.top
 | .func f=>.fn (.func f) [] []
structure ERel (sz:Nat) (ρ : Rho) (I:Nat->Prop) (hp:Array Obj) (env:Env) (a:Act):Prop where
 size:a.tmps.size=sz
 defers:a.defers = []
 val : ∀ i,VR ρ I hp (env i) (a.tmps.getD i Go.undef)
 glob:GlobOk I hp
theorem ERel.eval {sz:Nat} {ρ : Rho} {I:Nat->Prop} {hp:Array Obj} {env:Env} {a:Act} (h:ERel sz ρ I hp env a) (y:Operand):VR ρ I hp (aev env y) (a.eval y):=by
 cases y with
 | tmp t=>exact h.val t
 | const v=>exact VR_ofV v
 | global g =>
  simp only[aev]
  cases hg:globCells g with
  | none=>exact .top _
  | some vs =>
   obtain ⟨h1,e,fz,h2⟩:=h.glob.cells g vs hg
   refine .ep h1 h2 (by simp) (fun i x hx=>?_)
   rw[List.getElem?_map] at hx
   cases hi:vs[i]? with
   | none=>rw[hi] at hx; cases hx
   | some v =>
    rw[hi] at hx; cases hx
    have:vs.toArray.getD (0+i) Go.undef=v:=by simp[Array.getD_eq_getD_getElem?,hi]
    rw[this]; exact .sc v
 | func f=>exact .fn rfl rfl (fun i x hx=>by simp at hx) (fun i x hx=>by simp at hx)
theorem ERel.mono {sz:Nat} {ρ ρ' : Rho} {I I' : Nat->Prop} {w w' : World} {env:Env} {a:Act} (k:Ext ρ I w ρ' I' w') (h:ERel sz ρ I w.heap env a):ERel sz ρ' I' w'.heap env a :=
 ⟨h.size,h.defers,fun i=>(h.val i).mono k,h.glob.ext k.imm k.kept⟩
theorem ERel.put {sz:Nat} {ρ : Rho} {I:Nat->Prop} {hp:Array Obj} {env:Env} {a:Act} (h:ERel sz ρ I hp env a) {d:Option Tmp} {x:AV} {v:Value} (hd : ∀ t,d=some t->t<sz) (hv:VR ρ I hp x v) :
  ERel sz ρ I hp (env.upd d x) (a.put d v):=by
 cases d with
 | none=>exact ⟨h.size,h.defers,fun i=>h.val i,h.glob⟩
 | some t =>
  refine ⟨by simp[Act.put,h.size],h.defers,fun i=>?_,h.glob⟩
  simp only[Env.upd,Act.put,Option.some.injEq]
  by_cases e:t=i
  ·subst e
   have:t<a.tmps.size:=by rw[h.size]; exact hd _ rfl
   rw[if_pos rfl]
   have e1:(a.tmps.setIfInBounds t v).getD t Go.undef=v:=by simp[this]
   rw[e1]; exact hv
  ·rw[if_neg e]
   have e1:(a.tmps.setIfInBounds t v).getD i Go.undef=a.tmps.getD i Go.undef:=by
    simp only[Array.getD_eq_getD_getElem?]
    rw[Array.getElem?_setIfInBounds_ne e]
   rw[e1]; exact h.val i
def SPost (sz:Nat) (ρ : Rho) (I:Nat->Prop) (w:World) (Q:Exit->Env->Heap->Prop) (e:Exit) (a' : Act) (w' : World):Prop :=
 ∃ env' H' ρ' I',Q e env' H' /\ Rel ρ' I' H' w'.heap/\ERel sz ρ' I' w'.heap env' a' /\ Ext ρ I w ρ' I' w'
theorem SPost.ext {sz:Nat} {ρ ρ1:Rho} {I I1:Nat->Prop} {w w1:World} {Q Q' : Exit->Env->Heap->Prop} {e:Exit} {a' : Act} {w' : World} (k:Ext ρ I w ρ1 I1 w1)
  (hq : ∀ e env H,Q e env H->Q' e env H) (h:SPost sz ρ1 I1 w1 Q e a' w'):SPost sz ρ I w Q' e a' w':=by
 obtain ⟨env',H',ρ',I',h1,h2,h3,h4⟩:=h
 exact ⟨env',H',ρ',I',hq _ _ _ h1,h2,h3,k.trans h4⟩
def Enters (P:Program) (f:FuncId):Prop := ∀ args w,(callFunc f args).run P w = .ok (.enter f args) w
def SCalls (P:Program) (f:FuncId) (args:List AV) (H:Heap) (r:AV) (H' : Heap):Prop :=
 Enters P f/\H.next<=H'.next /\ ∀ ρ I w cargs,Rel ρ I H w.heap->VRs ρ I w.heap args cargs ->
  Calls P f cargs w fun e w' => ∃ v ρ' I',e = .returned v/\VR ρ' I' w'.heap r v/\Rel ρ' I' H' w'.heap/\Ext ρ I w ρ' I' w'
def awanted (ops:Array Oper) (o:Oper) (env:Env):Option Bool :=
 match o.guard with
 | none=>some true
 | some (j,want)=>match (ops[j]?).bind (·.dst) with
  | none=>some false
  | some d=>match env d with
   | .sc (.bool b)=>some (b==want)
   | .sc (.tuple _)=>some false
   | _=>none
theorem zi {sz:Nat} {ρ : Rho} {I:Nat->Prop} {hp:Array Obj} {ops:Array Oper} {o:Oper} {env:Env} {a:Act} {b:Bool} (h:awanted ops o env=some b) (he:ERel sz ρ I hp env a)
  (hsz : ∀ (j:Nat) (q:Oper) (d:Tmp),ops[j]? = some q->q.dst=some d->d<sz):Region.wanted o (yielded ops a.tmps)=b:=by
 unfold awanted at h
 unfold Region.wanted
 cases hg:o.guard with
 | none=>simp only[hg,Option.some.injEq] at h |-; exact h
 | some q =>
  obtain ⟨j,want⟩:=q
  simp only[hg] at h |-
  unfold yielded
  cases hd:(ops[j]?).bind (·.dst) with
  | none=>simp only[hd,Option.some.injEq] at h; subst h; rfl
  | some d =>
   simp only[hd] at h
   have hlt:d<a.tmps.size:=by
    rw[he.size]
    cases hq:ops[j]? with
    | none=>simp[hq] at hd
    | some q=>simp[hq] at hd; exact hsz _ _ _ hq hd
   have hv:=he.val d
   have e1:a.tmps.getD d Go.undef=a.tmps[d]:=by simp[hlt]
   rw[e1] at hv
   simp only[Option.bind_some,Array.getElem?_eq_getElem hlt]
   split at h
   ·rename_i b' hb
    simp only[Option.some.injEq] at h
    rw[hb] at hv
    rw[hv.eq_sc]
    subst h
    cases b' <;> cases want <;> rfl
   ·rename_i vs hb
    simp only[Option.some.injEq] at h
    rw[hb] at hv
    rw[hv.eq_sc]
    subst h
    rfl
   ·cases h
def WOp (P:Program) (ops:Array Oper) (o:Oper) (K:Env->Heap->Prop) (env:Env) (H:Heap):Prop :=
 match awanted ops o env with
 | none=>False
 | some false=>K (env.upd o.dst .undef) H
 | some true=>match o.op with
  | .call { callee:=.value f,args,argTypes:=_ } => match aev env f with
   | .fn (.func k) first captured => ∃ r H',SCalls P k (first++args.toList.map (aev env)++captured) H r H' /\ K (env.upd o.dst r) H'
   | _=>False
  | _=>match aop P o (aev env) H with
   | some (x,H')=>K (env.upd o.dst x) H'
   | none=>False
def WOps (P:Program) (ops:Array Oper) (Q:Exit->Env->Heap->Prop):List Oper->Env->Heap->Prop
 | [],env,H=>Q .normal env H
 | o::rest,env,H=>WOp P ops o (WOps P ops Q rest) env H
def dstsOk (sz:Nat) (ops:Array Oper):Prop := ∀ (j:Nat) (q:Oper) (d:Tmp),ops[j]? = some q->q.dst=some d->d<sz
section
variable {P:Program} {sz:Nat} {ops:Array Oper}
def StepTo (P:Program) (o:Oper) (env:Env) (H:Heap) (x:AV) (H' : Heap):Prop :=
 match o.op with
 | .call { callee:=.value f,args,argTypes:=_ } => ∃ k first captured,aev env f = .fn (.func k) first captured/\SCalls P k (first++args.toList.map (aev env)++captured) H x H'
 | _=>aop P o (aev env) H=some (x,H')
theorem StepTo_run {o:Oper} {env:Env} {H:Heap} {x:AV} {H' : Heap} (h:StepTo P o env H x H') {ρ : Rho} {I:Nat->Prop} {w:World} {a:Act} (hr:Rel ρ I H w.heap)
  (hv : ∀ y,VR ρ I w.heap (aev env y) (a.eval y)) {K:Act->World->Prop} {Q:Exit->Act->World->Prop}
  (hk : ∀ v w' ρ' I',VR ρ' I' w'.heap x v->Rel ρ' I' H' w'.heap->Ext ρ I w ρ' I' w' -> K (a.put o.dst v) w'):o.wp P a w K Q:=by
 obtain ⟨dst,op,type,pos,after,guard⟩:=o
 have plain:aop P ⟨dst,op,type,pos,after,guard⟩ (aev env) H=some (x,H')->Oper.wp P ⟨dst,op,type,pos,after,guard⟩ a w K Q:=by
  intro h1
  obtain ⟨v,w',ρ',I',hran,h2,h3,h4⟩:=qg9 hr (cv:=a.eval) hv h1
  have:=hk v w' ρ' I' h2 h3 h4
  unfold Oper.wp
  rcases hran with h5 | ⟨h5,rfl⟩
  ·rw[h5]; exact this
  ·rw[h5]; exact this
 unfold StepTo at h
 split at h
 ·rename_i f args argTypes hop
  simp only at hop
  subst hop
  obtain ⟨k,first,captured,hf,hen,_,hcall⟩:=h
  have hfv:=hv f
  rw[hf] at hfv
  generalize hfe:a.eval f=fv at hfv
  cases hfv with
  | fn h1 h2 h3 h4 =>
   rename_i fs cs
   have hargs:=VRs_map hv args
   have hall:VRs ρ I w.heap (first++args.toList.map (aev env)++captured) (fs++args.map a.eval++cs) :=
    VRs.append (VRs.append ⟨h1,h3⟩ hargs) ⟨h2,h4⟩
   have hc:=hcall ρ I w _ hr hall
   have hrun:(execOp a.eval ⟨dst,.call ⟨.value f,args,argTypes⟩,type,pos,after,guard⟩).run P w = .ok (.enter k (fs++args.map a.eval++cs)) w:=by
    simp only[execOp,resolve,hfe,Deferred.ofValue,Sem.run_bind,Sem.run_pure,Result.andThen_ok,invoke]
    exact hen _ w
   unfold Oper.wp
   rw[hrun]
   show Calls P k _ w _
   refine hc.mono ?_
   rintro e w' ⟨v,ρ',I',rfl,h5,h6,h7⟩
   exact hk v w' ρ' I' h5 h6 h7
 ·exact plain h
theorem WOp_cases {o:Oper} {K:Env->Heap->Prop} {env:Env} {H:Heap} (h:WOp P ops o K env H) :
  ((awanted ops o env=some false/\K (env.upd o.dst .undef) H)\/(awanted ops o env=some true /\ ∃ x H',StepTo P o env H x H' /\ K (env.upd o.dst x) H')):=by
 unfold WOp at h
 cases ha:awanted ops o env with
 | none=>rw[ha] at h; exact h.elim
 | some b =>
  cases b with
  | false=>rw[ha] at h; exact .inl ⟨rfl,h⟩
  | true =>
   rw[ha] at h
   refine .inr ⟨rfl,?_⟩
   obtain ⟨dst,op,type,pos,after,guard⟩:=o
   unfold StepTo
   simp only[] at h |-
   split at h
   ·rename_i f args argTypes
    split at h
    ·rename_i k first captured hf
     obtain ⟨r,H',h1,h2⟩:=h
     exact ⟨r,H',⟨k,first,captured,hf,h1⟩,h2⟩
    ·exact h.elim
   ·rename_i hno
    split at h
    ·rename_i x H' hx
     refine ⟨x,H',?_,h⟩
     exact hx
    ·exact h.elim
theorem WOps_sound (hsz:dstsOk sz ops) {Q:Exit->Env->Heap->Prop} {Q' : Exit->Act->World->Prop} : ∀ (l:List Oper),(∀ o∈l,∀ d,o.dst=some d->d<sz) -> ∀ (env:Env) (H:Heap),WOps P ops Q l env H ->
  ∀ ρ I w a,Rel ρ I H w.heap->ERel sz ρ I w.heap env a->(∀ e a' w',SPost sz ρ I w Q e a' w' -> Q' e a' w')->wpList P ops Q' l a w
 | [],_,env,H,h,ρ,I,w,a,hr,he,hq=>hq _ _ _ ⟨env,H,ρ,I,h,hr,he,Ext.refl _ _ _⟩
 | o::rest,hds,env,H,h,ρ,I,w,a,hr,he,hq=>by
  have h1:=WOp_cases h
  have hd:=hds o (by simp)
  have hds' : ∀ q∈rest,∀ d,q.dst=some d->d<sz:=fun q hq=>hds q (List.mem_cons_of_mem _ hq)
  unfold wpList
  rcases h1 with ⟨ha,hk⟩ | ⟨ha,x,H',hst,hk⟩
  ·rw[if_neg (by rw[zi ha he hsz]; simp)]
   exact WOps_sound hsz rest hds' _ _ hk ρ I w _ hr (he.put hd (.sc _)) hq
  ·rw[if_pos (zi ha he hsz)]
   refine .inl (StepTo_run hst hr he.eval ?_)
   intro v w' ρ' I' h2 h3 h4
   exact WOps_sound hsz rest hds' _ _ hk ρ' I' w' _ h3 ((he.mono h4).put hd h2) (fun e a' w2 hp=>hq e a' w2 (hp.ext h4 (fun _ _ _ h=>h)))
end
end Go.Fl
end Fl11S
noncomputable section Fl12S
namespace Go.Fl
open Go
def SCode (P:Program) (sz:Nat) (c:Code) (Q:Exit->Env->Heap->Prop) (env:Env) (H:Heap):Prop :=
 ∀ ρ I w a (Q' : Exit->Act->World->Prop),Rel ρ I H w.heap->ERel sz ρ I w.heap env a->(∀ e a' w',SPost sz ρ I w Q e a' w' -> Q' e a' w')->c.wp P Q' a w
theorem SCode.mono {P:Program} {sz:Nat} {c:Code} {Q Q1:Exit->Env->Heap->Prop} {env:Env} {H:Heap} (h:SCode P sz c Q env H) (hq : ∀ e env H,Q e env H->Q1 e env H):SCode P sz c Q1 env H :=
 fun ρ I w a Q' hr he hQ=>h ρ I w a Q' hr he fun e a' w' hp=>hQ e a' w' (hp.ext (Ext.refl _ _ _) hq)
def thenA (K:Env->Heap->Prop) (Q:Exit->Env->Heap->Prop):Exit->Env->Heap->Prop
 | .normal=>K
 | e=>Q e
def inBlockA (id:Nat) (Q:Exit->Env->Heap->Prop):Exit->Env->Heap->Prop
 | .exit id'=>if id' = id then Q .normal else Q (.exit id')
 | e=>Q e
def dstsB (sz:Nat) (ops:Array Oper):Bool:=ops.toList.all fun o=>match o.dst with | some d=>decide (d<sz) | none=>true
theorem yK {sz:Nat} {ops:Array Oper} (h:dstsB sz ops=true):dstsOk sz ops:=by
 intro j q d hj hd
 have:=List.all_eq_true.1 h q (by
  rw[<- Array.getElem?_toList] at hj
  exact List.mem_of_getElem? hj)
 rw[hd] at this
 simpa using this
section
variable {P:Program} {sz:Nat}
theorem ql {Q:Exit->Env->Heap->Prop} {env:Env} {H:Heap} (h:Q .normal env H):SCode P sz .skip Q env H :=
 fun _ _ _ _ _ hr he hQ=>wp_skip (hQ _ _ _ ⟨_,_,_,_,h,hr,he,Ext.refl _ _ _⟩)
theorem qx {Q:Exit->Env->Heap->Prop} {env:Env} {H:Heap} (h:Q .ret env H):SCode P sz .ret Q env H :=
 fun _ _ _ _ _ hr he hQ=>wp_ret (hQ _ _ _ ⟨_,_,_,_,h,hr,he,Ext.refl _ _ _⟩)
theorem qy {id:Nat} {Q:Exit->Env->Heap->Prop} {env:Env} {H:Heap} (h:Q (.exit id) env H):SCode P sz (.exit id) Q env H :=
 fun _ _ _ _ _ hr he hQ=>wp_exit (hQ _ _ _ ⟨_,_,_,_,h,hr,he,Ext.refl _ _ _⟩)
theorem qng {x y:Code} {Q:Exit->Env->Heap->Prop} {env:Env} {H:Heap} (h:SCode P sz x (thenA (SCode P sz y Q) Q) env H):SCode P sz (.seq x y) Q env H:=by
 intro ρ I w a Q' hr he hQ
 refine wp_seq (h ρ I w a _ hr he ?_)
 rintro e a' w' ⟨env',H',ρ',I',h1,h2,h3,h4⟩
 cases e with
 | normal =>
  exact h1 ρ' I' w' a' Q' h2 h3 fun e a2 w2 hp=>hQ e a2 w2 (hp.ext h4 fun _ _ _ h=>h)
 | _=>exact hQ _ _ _ ⟨env',H',ρ',I',h1,h2,h3,h4⟩
theorem qe5 {c:Operand} {x y:Code} {b:Bool} {Q:Exit->Env->Heap->Prop} {env:Env} {H:Heap} (hc:aev env c = .sc (.bool b)) (h:SCode P sz (if b then x else y) Q env H):SCode P sz (.cond c x y) Q env H:=by
 intro ρ I w a Q' hr he hQ
 have hv:=he.eval c
 rw[hc] at hv
 exact wp_cond hv.eq_sc (h ρ I w a Q' hr he hQ)
theorem qha {c:Operand} {x y:Code} {Q:Exit->Env->Heap->Prop} {env:Env} {H:Heap} (hc:aev env c = .ab) (hx:SCode P sz x Q env H) (hy:SCode P sz y Q env H):SCode P sz (.cond c x y) Q env H:=by
 intro ρ I w a Q' hr he hQ
 have hv:=he.eval c
 rw[hc] at hv
 generalize hc' : a.eval c=u at hv
 cases hv with
 | ab b =>
  cases b with
  | true=>exact wp_cond hc' (hx ρ I w a Q' hr he hQ)
  | false=>exact wp_cond hc' (hy ρ I w a Q' hr he hQ)
theorem qm {id:Nat} {c:Code} {Q:Exit->Env->Heap->Prop} {env:Env} {H:Heap} (h:SCode P sz c (inBlockA id Q) env H):SCode P sz (.block id c) Q env H:=by
 intro ρ I w a Q' hr he hQ
 refine wp_block (h ρ I w a _ hr he ?_)
 rintro e a' w' ⟨env',H',ρ',I',h1,h2,h3,h4⟩
 cases e with
 | exit id' =>
  simp only[Exit.inBlock]
  simp only[inBlockA] at h1
  split
  ·rename_i e; rw[if_pos e] at h1; exact hQ _ _ _ ⟨env',H',ρ',I',h1,h2,h3,h4⟩
  ·rename_i e; rw[if_neg e] at h1; exact hQ _ _ _ ⟨env',H',ρ',I',h1,h2,h3,h4⟩
 | _=>exact hQ _ _ _ ⟨env',H',ρ',I',h1,h2,h3,h4⟩
theorem qi {id:Nat} {ops:Array Oper} {Q:Exit->Env->Heap->Prop} {env:Env} {H:Heap} (hd:dstsB sz ops=true) (h:WOps P ops Q ops.toList env H):SCode P sz (.region id ops false) Q env H:=by
 intro ρ I w a Q' hr he hQ
 refine wp_region_list (WOps_sound (yK hd) ops.toList (fun o ho d hod=>?_) env H h ρ I w a hr he hQ)
 have:=List.all_eq_true.1 hd o ho
 rw[hod] at this
 simpa using this
theorem qC {c:Code} {Q:Exit->Env->Heap->Prop} (Inv:Nat->Env->Heap->Prop)
  (step : ∀ n env H,Inv n env H->SCode P sz c (thenA (fun env' H' => ∃ n',n' < n/\Inv n' env' H') Q) env H) {n:Nat} {env:Env} {H:Heap} (h0:Inv n env H):SCode P sz (.loop c) Q env H:=by
 intro ρ I w a Q' hr he hQ b k cs
 have key : ∀ n env H ρ1 I1 w1 a1,Inv n env H->Rel ρ1 I1 H w1.heap->ERel sz ρ1 I1 w1.heap env a1->Ext ρ I w ρ1 I1 w1 ->
   ∃ e a' w',Q' e a' w' /\ Arrives P (lone (b.at a1 (.code c :: .inLoop c::k)) cs w1) b k cs e a' w':=by
  intro n
  induction n using Nat.strongRecOn with
  | _ n ih =>
   intro env H ρ1 I1 w1 a1 hI hr1 he1 hx1
   obtain ⟨e,a2,w2,hq,harr⟩:=step n env H hI ρ1 I1 w1 a1 (fun e a' w'=>SPost sz ρ1 I1 w1 (thenA (fun env' H' => ∃ n',n' < n/\Inv n' env' H') Q) e a' w') hr1 he1 (fun _ _ _ h=>h) b (.inLoop c::k) cs
   obtain ⟨env',H',ρ',I',h1,h2,h3,h4⟩:=hq
   cases e with
   | normal =>
    obtain ⟨n',hlt,hI'⟩:=h1
    obtain ⟨e2,a3,w3,hq2,harr2⟩:=ih n' hlt env' H' ρ' I' w2 a2 hI' h2 h3 (hx1.trans h4)
    exact ⟨e2,a3,w3,hq2,.of_steps (Steps.trans harr (.one step_inLoop)) harr2⟩
   | exit id=>exact ⟨_,a2,w2,hQ _ _ _ ⟨env',H',ρ',I',h1,h2,h3,hx1.trans h4⟩,.pass (x:=.inLoop c) rfl (fun _ _=>.inl (by simp)) harr⟩
   | goto l=>exact ⟨_,a2,w2,hQ _ _ _ ⟨env',H',ρ',I',h1,h2,h3,hx1.trans h4⟩,.pass (x:=.inLoop c) rfl (fun _ _=>.inl (by simp)) harr⟩
   | ret=>exact ⟨_,a2,w2,hQ _ _ _ ⟨env',H',ρ',I',h1,h2,h3,hx1.trans h4⟩,.pass (x:=.inLoop c) rfl (fun _ _=>.inl (by simp)) harr⟩
   | panic ch=>exact ⟨_,a2,w2,hQ _ _ _ ⟨env',H',ρ',I',h1,h2,h3,hx1.trans h4⟩,.pass (x:=.inLoop c) rfl (fun _ _=>.inl (by simp)) harr⟩
   | outgrown=>exact ⟨_,a2,w2,hQ _ _ _ ⟨env',H',ρ',I',h1,h2,h3,hx1.trans h4⟩,.pass (x:=.inLoop c) rfl (fun _ _=>.inl (by simp)) harr⟩
 obtain ⟨e,a',w',hq,harr⟩:=key n env H ρ I w a h0 hr he (Ext.refl _ _ _)
 exact ⟨e,a',w',hq,.of_steps (.one step_loop) harr⟩
end
end Go.Fl
end Fl12S
