/- A function's beginning and its end: what it hands back is frozen, what is not handed on is forgotten. -/
import Derived.Test.YtfokgjhdndnnhaaGreatDoorFl12
set_option linter.unusedVariables false
set_option linter.unusedSimpArgs false
noncomputable section Fl13S
namespace Go.Fl
open Go
inductive Froz (H:Heap) (dead:Nat->Prop):AV->AV->Prop
 | same (x:AV):Froz H dead x x
 | nil (sz:Nat):Froz H dead .nil (.vs 0 sz [])
 | ms {b off len sz:Nat} {cs cells:List AV} : H.get b=some cs->dead b->off+len*sz<=cs.length->cells.length=len*sz ->
   (∀ (i:Nat) (x y:AV),cells[i]? = some x->cs[off+i]? = some y->Froz H dead y x)->Froz H dead (.ms b off len sz) (.vs len sz cells)
 | vs {len sz:Nat} {cs cells:List AV} : cs.length=cells.length->(∀ (i:Nat) (x y:AV),cells[i]? = some x->cs[i]? = some y->Froz H dead y x)->Froz H dead (.vs len sz cs) (.vs len sz cells)
 | agg {cs cells:List AV} : cs.length=cells.length->(∀ (i:Nat) (x y:AV),cells[i]? = some x->cs[i]? = some y->Froz H dead y x)->Froz H dead (.agg cs) (.agg cells)
 | tup {cs cells:List AV} : cs.length=cells.length->(∀ (i:Nat) (x y:AV),cells[i]? = some x->cs[i]? = some y->Froz H dead y x)->Froz H dead (.tup cs) (.tup cells)
 | ifc {t:TypeId} {x y:AV} : Froz H dead x y->Froz H dead (.ifc t x) (.ifc t y)
 | top (x:AV):Froz H dead x .top
 | ai (k:IntKind) (n:Int):Froz H dead (.sc (.int k n)) (.ai k)
 | ep {b o:Nat} {cs cells:List AV} : H.get b=some cs->dead b->cells ≠ []->o+cells.length<=cs.length ->
   (∀ (i:Nat) (x y:AV),cells[i]? = some x->cs[o+i]? = some y->Froz H dead y x)->Froz H dead (.ptr b o) (.ep cells)
inductive AV.Lt (n:Nat):AV->Prop
 | sc (v:Value):Lt n (.sc v)
 | top:Lt n .top
 | ab:Lt n .ab
 | ai (k:IntKind):Lt n (.ai k)
 | ty {t:TypeId} {m:Nat} {x:AV} : Lt n x->Lt n (.ty t m x)
 | cp {k:Nat} {x:AV} : Lt n x->Lt n (.cp k x)
 | ptr {b o:Nat} : b<n->Lt n (.ptr b o)
 | ms {b off len sz:Nat} : b<n->Lt n (.ms b off len sz)
 | vs {len sz:Nat} {cells:List AV} : (∀ x∈cells,Lt n x)->Lt n (.vs len sz cells)
 | ep {cells:List AV} : (∀ x∈cells,Lt n x)->Lt n (.ep cells)
 | fn {f:Fn} {a b:List AV} : (∀ x∈a,Lt n x)->(∀ x∈b,Lt n x)->Lt n (.fn f a b)
 | ifc {t:TypeId} {x:AV} : Lt n x->Lt n (.ifc t x)
 | agg {cells:List AV} : (∀ x∈cells,Lt n x)->Lt n (.agg cells)
 | tup {cells:List AV} : (∀ x∈cells,Lt n x)->Lt n (.tup cells)
theorem AV.Lt.mono {n m:Nat} (h:n<=m) {x:AV} (hx:x.Lt n):x.Lt m:=by
 induction hx with
 | sc v=>exact .sc v
 | top=>exact .top
 | ab=>exact .ab
 | ai k=>exact .ai k
 | ty _ ih=>exact .ty ih
 | cp _ ih=>exact .cp ih
 | ptr h1=>exact .ptr (Nat.lt_of_lt_of_le h1 h)
 | ms h1=>exact .ms (Nat.lt_of_lt_of_le h1 h)
 | vs _ ih=>exact .vs ih
 | ep _ ih=>exact .ep ih
 | fn _ _ ih1 ih2=>exact .fn ih1 ih2
 | ifc _ ih=>exact .ifc ih
 | agg _ ih=>exact .agg ih
 | tup _ ih=>exact .tup ih
def Rho.below (ρ : Rho) (n:Nat):Rho:=fun b=>if b<n then ρ b else none
section
variable {ρ : Rho} {I:Nat->Prop} {hp:Array Obj}
theorem VR.lower {n:Nat} {x:AV} {v:Value} (hx:x.Lt n) (h:VR ρ I hp x v):VR (ρ.below n) I hp x v:=by
 have mem : ∀ {l:List AV} {i:Nat} {y:AV},l[i]? = some y->y∈l:=fun h=>List.mem_of_getElem? h
 induction h with
 | sc v=>exact .sc v
 | top v=>exact .top v
 | ab b=>exact .ab b
 | ai k n=>exact .ai k n
 | ty _ h2 ih=>cases hx with | ty h3=>exact .ty (ih h3) h2
 | cp _ h2 ih=>cases hx with | cp h3=>exact .cp (ih h3) h2
 | ptr h1=>cases hx with | ptr h2=>exact .ptr (by simp[Rho.below,h2,h1])
 | ms h1 h2 h3 h4=>cases hx with | ms h5=>exact .ms (by simp[Rho.below,h5,h1]) h2 h3 h4
 | ms0 h1=>cases hx with | ms h5=>exact .ms0 (show (if _<n then ρ _ else none)=_ by rw[if_pos h5]; exact h1)
 | vs0 h=>exact .vs0 h
 | vs h1 h2 h3 h4 h5 _ ih=>cases hx with | vs h6=>exact .vs h1 h2 h3 h4 h5 (fun i y hy=>ih i y hy (h6 y (mem hy)))
 | ep h1 h2 h3 _ ih=>cases hx with | ep h6=>exact .ep h1 h2 h3 (fun i y hy=>ih i y hy (h6 y (mem hy)))
 | fn h1 h2 _ _ ih1 ih2=>cases hx with | fn h6 h7=>exact .fn h1 h2 (fun i y hy=>ih1 i y hy (h6 y (mem hy))) (fun i y hy=>ih2 i y hy (h7 y (mem hy)))
 | ifc _ ih=>cases hx with | ifc h6=>exact .ifc (ih h6)
 | agg h1 _ ih=>cases hx with | agg h6=>exact .agg h1 (fun i y hy=>ih i y hy (h6 y (mem hy)))
 | tup h1 _ ih=>cases hx with | tup h6=>exact .tup h1 (fun i y hy=>ih i y hy (h6 y (mem hy)))
def keptBy (ρ : Rho) (I:Nat->Prop) (H1 H' : Heap):Nat->Prop:=fun cb=>I cb \/ ∃ b cs base,H1.get b=some cs/\H'.get b=none /\ ρ b=some (some (cb,base))
theorem Froz.vr {H1 H' : Heap} (hr:Rel ρ I H1 hp) {x y:AV} (hf:Froz H1 (fun b=>H'.get b=none) x y) : ∀ {v:Value},VR ρ I hp x v->VR ρ (keptBy ρ I H1 H') hp y v:=by
 have up : ∀ {x:AV} {v:Value},VR ρ I hp x v->VR ρ (keptBy ρ I H1 H') hp x v:=fun h =>
  h.mono' (fun _ _ h=>h) (fun _ h=>.inl h) (fun _ _=>rfl) (fun _ c _ fz h=>⟨c,fz,h,rfl⟩)
 induction hf with
 | same x=>exact fun h=>up h
 | nil sz=>intro v h; cases h.eq_sc; exact .vs0 (fun _=>rfl)
 | ms h1 h2 h3 h4 _ ih =>
  rename_i b off len sz cs cells _
  intro v h
  rcases h.ms_inv with ⟨cb,base,cap,c,e,fz,rfl,k1,k2,k3,k4⟩ | ⟨rfl,a,p,rfl,k1⟩
  ·rcases hr.live _ _ h1 with ⟨j1,_⟩ | ⟨cb',base',c',e',j1,j2,⟨fz3,_,j3⟩,j4,j5⟩
   ·rw[k1] at j1; cases j1
   ·rw[k1] at j1
    simp only[Option.some.injEq,Prod.mk.injEq] at j1
    obtain ⟨rfl,rfl⟩:=j1
    refine .vs (.inr ⟨b,cs,base,h1,h2,k1⟩) k2 j3 h4 oz (fun i x hx=>?_)
    have hi:=(List.getElem?_eq_some_iff.1 hx).1
    have hlt:off+i<cs.length:=oz
    rw[Nat.add_assoc]
    exact ih i x _ hx (List.getElem?_eq_getElem hlt) (j5 _ _ (List.getElem?_eq_getElem hlt))
  ·have:cells = []:=List.length_eq_zero_iff.1 (by rw[h4]; simp)
   subst this
   exact .vs0 (fun _=>rfl)
 | vs h1 _ ih =>
  intro v h
  rename_i len sz cs cells _
  cases h with
  | vs0 h0 =>
   have:cells = []:=List.length_eq_zero_iff.1 (by rw[<- h1]; rfl)
   subst this
   exact .vs0 h0
  | vs k1 k2 k3 k4 k5 k6 =>
   refine .vs (.inl k1) k2 k3 (by rw[<- h1]; exact k4) (by rw[<- h1]; exact k5) (fun i x hx=>?_)
   have hlt:=(List.getElem?_eq_some_iff.1 hx).1
   rw[<- h1] at hlt
   exact ih i x _ hx (List.getElem?_eq_getElem hlt) (k6 _ _ (List.getElem?_eq_getElem hlt))
 | agg h1 _ ih =>
  intro v h
  cases h with
  | agg k1 k2 =>
   refine .agg (by rw[<- h1]; exact k1) (fun i x hx=>?_)
   have hlt:=(List.getElem?_eq_some_iff.1 hx).1
   rw[<- h1] at hlt
   exact ih i x _ hx (List.getElem?_eq_getElem hlt) (k2 _ _ (List.getElem?_eq_getElem hlt))
 | tup h1 _ ih =>
  intro v h
  cases h with
  | tup k1 k2 =>
   refine .tup (by rw[<- h1]; exact k1) (fun i x hx=>?_)
   have hlt:=(List.getElem?_eq_some_iff.1 hx).1
   rw[<- h1] at hlt
   exact ih i x _ hx (List.getElem?_eq_getElem hlt) (k2 _ _ (List.getElem?_eq_getElem hlt))
 | ifc _ ih =>
  intro v h
  cases h with
  | ifc k1=>exact .ifc (ih k1)
 | top x=>exact fun _=>.top _
 | ai k n=>intro v h; cases h.eq_sc; exact .ai k n
 | ep h1 h2 h0 h3 _ ih =>
  rename_i b o cs cells _
  intro v h
  cases h with
  | ptr k1 =>
   rcases hr.live _ _ h1 with ⟨j1,_⟩ | ⟨cb',base',c',e',j1,j2,⟨fz3,_,j3⟩,j4,j5⟩
   ·rw[k1] at j1; cases j1
   ·rw[k1] at j1
    simp only[Option.some.injEq,Prod.mk.injEq] at j1
    obtain ⟨rfl,rfl⟩:=j1
    refine .ep (.inr ⟨b,cs,_,h1,h2,k1⟩) j3 oz (fun i x hx=>?_)
    have hi:=(List.getElem?_eq_some_iff.1 hx).1
    have hlt:o+i<cs.length:=oz
    rw[Nat.add_assoc]
    exact ih i x _ hx (List.getElem?_eq_getElem hlt) (j5 _ _ (List.getElem?_eq_getElem hlt))
theorem Rel.keep {H1 H' : Heap} (hr:Rel ρ I H1 hp) (hle:H'.le H1) (hn:H1.next<=H'.next):Rel ρ (keptBy ρ I H1 H') H' hp:=by
 have up : ∀ {x:AV} {v:Value},VR ρ I hp x v->VR ρ (keptBy ρ I H1 H') hp x v:=fun h =>
  h.mono' (fun _ _ h=>h) (fun _ h=>.inl h) (fun _ _=>rfl) (fun _ c _ fz h=>⟨c,fz,h,rfl⟩)
 refine ⟨?_,?_,?_,hr.at_,?_,hr.glob.ext (fun _ h=>.inl h) (fun _ _=>rfl)⟩
 ·intro b cs hb
  rcases hr.live b cs (hle _ _ hb) with h1 | ⟨cb,base,c,e,h1,h2,h3,h4,h5⟩
  ·exact .inl h1
  ·refine .inr ⟨cb,base,c,e,h1,?_,h3,h4,fun i x hx=>up (h5 i x hx)⟩
   rintro (h6 | ⟨b2,cs2,base2,h6,h7,h8⟩)
   ·exact h2 h6
   ·have:=hr.inj _ _ _ _ _ _ _ (hle _ _ hb) h6 h1 h8
    subst this
    rw[hb] at h7; cases h7
 ·intro b b' cs cs' cb base base' hb hb' h1 h2
  exact hr.inj _ _ _ _ _ _ _ (hle _ _ hb) (hle _ _ hb') h1 h2
 ·intro b p hb
  have:=hr.rng b p hb; omega
 ·rintro cb (h1 | ⟨b,cs,base,h1,_,h3⟩)
  ·exact hr.irng cb h1
  ·exact hr.lt h3
end
def aresult (P:Program) (env:Env) (H:Heap):ResultVar->Option AV
 | .tmp t=>some (env t)
 | .cell a t=>aload P H t (env a)
def aresultL (P:Program) (env:Env) (H:Heap):List ResultVar->Option (List AV)
 | []=>some []
 | x::l=>(aresult P env H x).bind fun v=>(aresultL P env H l).map (v :: ·)
def tupOf:List AV->AV
 | [x]=>x
 | l=>.tup l
def aresults (P:Program) (fn:Func) (env:Env) (H:Heap):Option AV:=(aresultL P env H fn.results.toList).map tupOf
theorem qlr {P:Program} {w:World} {t:TypeId} {v u:Value} (h:(Instr.loadAt t v).run P w = .ok u w):((asAddr v).run P w).andThen (fun a w'=>(loadVar t a).run P w') = .ok u w:=by
 cases v with
 | pointer a =>
  cases a with
  | none=>simp[Instr.loadAt,Instr.sureAddr] at h
  | some a=>simpa [Instr.loadAt,Instr.sureAddr,asAddr] using h
 | _=>simp[Instr.loadAt,Instr.sureAddr] at h
def resultSem (tmps:Array Value):ResultVar->Sem Value
 | .tmp t=>pure (tmps.getD t Go.undef)
 | .cell a t=>do loadVar t (<- asAddr (tmps.getD a Go.undef))
theorem qcw {P:Program} {sz:Nat} {ρ : Rho} {I:Nat->Prop} {w:World} {env:Env} {a:Act} {H:Heap} (hr:Rel ρ I H w.heap) (he:ERel sz ρ I w.heap env a) :
  ∀ (l:List ResultVar) (r:List AV),aresultL P env H l=some r -> ∃ us:List Value,(l.mapM (resultSem a.tmps)).run P w = .ok us w/\VRs ρ I w.heap r us.toArray
 | [],r,h=>by
  simp only[aresultL,Option.some.injEq] at h
  subst h
  exact ⟨[],by simp,rfl,fun i x hx=>by simp at hx⟩
 | x::l,r,h=>by
  simp only[aresultL] at h
  cases hx:aresult P env H x with
  | none=>simp[hx] at h
  | some v =>
   simp only[hx,Option.bind_some,Option.map_eq_some_iff] at h
   obtain ⟨r',h1,rfl⟩:=h
   obtain ⟨us,h2,h3⟩:=qcw hr he l r' h1
   have one : ∃ u,(resultSem a.tmps x).run P w = .ok u w/\VR ρ I w.heap v u:=by
    cases x with
    | tmp t =>
     simp only[aresult,Option.some.injEq] at hx
     subst hx
     exact ⟨_,rfl,he.val t⟩
    | cell c t =>
     obtain ⟨u,k1,k2⟩:=qhk (P:=P) hr hx (he.val c)
     exact ⟨u,by simp only[resultSem,Sem.run_bind]; exact qlr k1,k2⟩
   obtain ⟨u,k1,k2⟩:=one
   refine ⟨u::us,by simp[List.mapM_cons,k1,h2],by simp[h3.1],fun i y hy=>?_⟩
   cases i with
   | zero=>simp at hy; subst hy; simpa using k2
   | succ i =>
    simp only[List.getElem?_cons_succ] at hy
    have:=h3.2 i y hy
    simpa [Array.getD_eq_getD_getElem?] using this
theorem qcx {P:Program} {fn:Func} {sz:Nat} {ρ : Rho} {I:Nat->Prop} {w:World} {env:Env} {a:Act} {H:Heap} {r:AV} (hr:Rel ρ I H w.heap) (he:ERel sz ρ I w.heap env a)
  (h:aresults P fn env H=some r) : ∃ v,(results fn a.tmps).run P w = .ok v w/\VR ρ I w.heap r v:=by
 unfold aresults at h
 simp only[Option.map_eq_some_iff] at h
 obtain ⟨l,h1,rfl⟩:=h
 obtain ⟨us,h2,h3⟩:=qcw hr he _ _ h1
 have hres:results fn a.tmps=(fn.results.mapM (resultSem a.tmps)).bind fun vs=>pure (if h:vs.size=1 then vs[0] else .tuple vs):=by
  unfold results
  have:(fun (x:ResultVar)=>(match x with
   | .tmp t=>pure (a.tmps.getD t Go.undef)
   | .cell a' t=>do loadVar t (<- asAddr (a.tmps.getD a' Go.undef)):Sem Value))=resultSem a.tmps:=by
   funext x; cases x <;> rfl
  rw[<- this]
  rfl
 have harr:(fn.results.mapM (resultSem a.tmps)).run P w = .ok us.toArray w:=by
  rw[Array.mapM_eq_mapM_toList]
  simp[h2]
 have hrun:(results fn a.tmps).run P w = .ok (if h:us.toArray.size=1 then us.toArray[0] else .tuple us.toArray) w:=by
  rw[hres,Sem.run_bind',harr]; rfl
 rw[hrun]
 have hlen:l.length=us.length:=by simpa using h3.1
 clear hrun harr h2 h1
 match l,us,hlen,h3 with
 | [x],[u],_,h3=>exact ⟨u,by simp,show VR ρ I w.heap x u by simpa using h3.2 0 x rfl⟩
 | [],[],_,_=>exact ⟨.tuple #[],by simp,.tup rfl (fun i x hx=>by simp at hx)⟩
 | x::y::l,u::v::us,_,h3=>exact ⟨.tuple (u::v::us).toArray,by simp,.tup h3.1 h3.2⟩
def enterEnv (args:List AV):Env:=fun i=>(args[i]?).getD .undef
structure Ret (P:Program) (fn:Func) (H0:Heap) (env:Env) (H1:Heap) (r:AV) (H' : Heap):Prop where
 res : ∃ v,aresults P fn env H1=some v/\Froz H1 (fun b=>H'.get b=none) v r
 sub:H'.le H1
 lo:H0.next<=H'.next
 hi:H'.next<=H1.next
 lt:r.Lt H'.next
 cont : ∀ b cs,H'.get b=some cs->H0.get b=some cs \/ ∀ x∈cs,x.Lt H'.next
theorem qnh {P:Program} {f:FuncId} {fn:Func} {c:Code} {args:List AV} {H:Heap} {r:AV} {H' : Heap} (hen:Enters P f) (hf:P.funcs[f]? = some fn) (hb:fn.body=some c) (hn:H.next<=H'.next)
  (h:SCode P (args.length+(fn.ntmps-args.length)) c (fun e env H1=>(e = .ret\/e = .normal)/\Ret P fn H env H1 r H') (enterEnv args) H):SCalls P f args H r H':=by
 refine ⟨hen,hn,fun ρ I w cargs hr hargs=>?_⟩
 refine calls_of_wp hf hb (h ρ I w _ _ hr ?_ ?_)
 ·refine ⟨by simp[hargs.1],rfl,fun i=>?_,hr.glob⟩
  simp only[enterEnv]
  by_cases hi:i<args.length
  ·rw[List.getElem?_eq_getElem hi]
   have h1:=hargs.2 i _ (List.getElem?_eq_getElem hi)
   have e1:(cargs++Array.replicate (fn.ntmps-cargs.size) Go.undef).getD i Go.undef=cargs.getD i Go.undef:=by
    have hi' : i<cargs.size:=by rw[<- hargs.1]; exact hi
    simp only[Array.getD_eq_getD_getElem?]
    rw[Array.getElem?_append_left hi']
   rw[e1]; exact h1
  ·rw[List.getElem?_eq_none oz]
   have hi' : cargs.size<=i:=by rw[<- hargs.1]; omega
   have e1:(cargs++Array.replicate (fn.ntmps-cargs.size) Go.undef).getD i Go.undef=Go.undef:=by
    simp only[Array.getD_eq_getD_getElem?]
    rw[Array.getElem?_append_right hi',Array.getElem?_replicate]
    split <;> rfl
   rw[e1]; exact .sc _
 ·rintro e a' w' ⟨env',H1,ρ1,I1,⟨he,hret⟩,hr1,he1,hx⟩
  obtain ⟨v,hv1,hv2⟩:=hret.res
  obtain ⟨u,hu1,hu2⟩:=qcx hr1 he1 hv1
  have hz:=hv2.vr hr1 hu2
  have hrel:Rel (ρ1.below H'.next) (keptBy ρ1 I1 H1 H') H' w'.heap:=by
   have hb' : ∀ x y,(ρ1.below H'.next) x=some y -> ρ1 x=some y/\x<H'.next:=by
    intro x y hxy
    simp only[Rho.below] at hxy
    split at hxy
    ·exact ⟨hxy,by assumption⟩
    ·cases hxy
   let Hup:Heap:=⟨H1.next,H'.tree,fun b hb=>H'.wf b (Nat.le_trans hret.hi hb)⟩
   have hk:Rel ρ1 (keptBy ρ1 I1 H1 Hup) Hup w'.heap:=hr1.keep (H':=Hup) hret.sub (Nat.le_refl _)
   refine ⟨?_,?_,?_,?_,hk.irng,hk.glob⟩
   ·intro b cs hb
    have hbl:b<H'.next:=Heap.lt_of_get hb
    have hin:(ρ1.below H'.next) b = ρ1 b:=by simp[Rho.below,hbl]
    rcases hk.live b cs hb with ⟨k1,k2⟩ | ⟨cb,base,cc,e',k1,k2,k3,k4,k5⟩
    ·exact .inl ⟨by rw[hin]; exact k1,k2⟩
    ·refine .inr ⟨cb,base,cc,e',by rw[hin]; exact k1,k2,k3,k4,fun i x hx'=>?_⟩
     rcases hret.cont b cs hb with k6 | k6
     ·rcases hr.live b cs k6 with ⟨_,m2⟩ | ⟨cb0,base0,cc0,e0,m1,m2,m3,m4,m5⟩
      ·subst m2; simp at hx'
      ·have hold:=m5 i x hx'
       refine VR.restrict (ρ := ρ1.below H'.next) (fun b p hbp=>(hb' b p hbp).1) (hold.mono' (ρ' := ρ1.below H'.next) ?_ (fun _ h=>h) (fun _ _=>rfl) (fun _ c _ fz h=>⟨c,fz,h,rfl⟩)) (k5 i x hx')
       intro b2 p hb2
       have hlt:=hr.rng _ _ hb2
       have:b2<H'.next:=Nat.lt_of_lt_of_le hlt hret.lo
       simp[Rho.below,this,hx.rho _ _ hb2]
     ·exact (k5 i x hx').lower (k6 x (List.mem_of_getElem? hx'))
   ·intro b b' cs cs' cb base base' h1 h2 h3 h4
    exact hk.inj _ _ _ _ _ _ _ h1 h2 (hb' _ _ h3).1 (hb' _ _ h4).1
   ·intro b p hb
    exact (hb' _ _ hb).2
   ·intro b cb base hb
    exact hk.at_ _ _ _ (hb' _ _ hb).1
  have hext:Ext ρ I w (ρ1.below H'.next) (keptBy ρ1 I1 H1 H') w' :=
   { rho:=fun b p hb=>by
      have hlt:=hr.rng _ _ hb
      have:b<H'.next:=Nat.lt_of_lt_of_le hlt hret.lo
      simp[Rho.below,this,hx.rho _ _ hb]
     imm:=fun cb hcb=>.inl (hx.imm cb hcb)
     size:=hx.size
     kept:=hx.kept
     blocks:=hx.blocks
     frame:=hx.frame
     newI:=by
      rintro cb (h1 | ⟨b,cs,base,h1,_,h3⟩)
      ·exact hx.newI cb h1
      ·rcases hx.newR b cb base h3 with h4 | h4 | h4
       ·exact .inr (.inr ⟨_,_,h4⟩)
       ·exact .inr (.inl h4)
       ·exact .inr (.inr h4)
     newR:=fun b cb base hb=>by
      simp only[Rho.below] at hb
      split at hb
      ·exact hx.newR b cb base hb
      ·cases hb
     os:=hx.os
     tape:=hx.tape
     output:=hx.output }
  have hfin : ∃ v ρ' I',Ending.returned u = .returned v/\VR ρ' I' w'.heap r v/\Rel ρ' I' H' w'.heap/\Ext ρ I w ρ' I' w' :=
   ⟨u,_,_,rfl,hz.lower hret.lt,hrel,hext⟩
  rcases he with rfl | rfl
  ·exact ⟨he1.defers,u,hu1,hfin⟩
  ·exact ⟨he1.defers,u,hu1,hfin⟩
end Go.Fl
end Fl13S
noncomputable section Fl14S
namespace Go.Fl
open Go
def isP (o:Oper):Bool :=
 match o.op with
 | .move _ | .assign _ | .pick .. | .build .. | .nilCheck _ | .binOp .. | .unOp .. | .makeInterface .. | .makeFunc .. | .fieldAddr .. | .field .. | .indexAddr .. | .index .. | .extract .. => true
 | .call { callee:=.builtin .len,.. } | .call { callee:=.builtin .min,.. } | .call { callee:=.builtin .max,.. } => true
 | .convert _ dst _=>bytesT dst&&keepD o.dst
 | _=>false
def isL (o:Oper):Bool :=
 match o.op with
 | .load .. | .slice .. => true
 | .convert _ dst _ => !bytesT dst
 | _=>false
def isC (o:Oper):Bool := !isP o && !isL o
section
variable {P:Program}
theorem qf3 {b:Builtin} {argTypes:Array TypeId} {ty:TypeId} {args:List AV} {H H' : Heap} {x:AV} (hb:b = .len\/b = .min\/b = .max) (h:abuiltin P H b argTypes ty args=some (x,H')) :
  H' = H /\ ∀ H2,abuiltin P H2 b argTypes ty args=some (x,H2):=by
 rcases hb with rfl | rfl | rfl
 ·unfold abuiltin at h |-
  cases args with
  | nil=>simp at h
  | cons a args =>
   cases args with
   | nil =>
    simp only at h |-
    cases hl:(argTypes[0]?).bind (fun t=>alen P t a) with
    | some r =>
     simp only[hl,Option.some.injEq,Prod.mk.injEq] at h
     obtain ⟨rfl,rfl⟩:=h
     exact ⟨rfl,fun _=>by simp⟩
    | none =>
     simp only[hl] at h
     cases hc:conc a with
     | none=>simp[hc] at h
     | some v =>
      simp only[hc,Option.bind_some,Option.map_eq_some_iff,Prod.mk.injEq] at h
      obtain ⟨u,h1,rfl,rfl⟩:=h
      exact ⟨rfl,fun _=>by simp[h1]⟩
   | cons _ _=>simp at h
 ·simp only[abuiltin] at h |-
  cases hc:concs args with
  | none=>simp[hc] at h
  | some v =>
   simp only[hc,Option.bind_some,Option.map_eq_some_iff,Prod.mk.injEq] at h
   obtain ⟨u,h1,rfl,rfl⟩:=h
   exact ⟨rfl,fun _=>by simp[h1]⟩
 ·simp only[abuiltin] at h |-
  cases hc:concs args with
  | none=>simp[hc] at h
  | some v =>
   simp only[hc,Option.bind_some,Option.map_eq_some_iff,Prod.mk.injEq] at h
   obtain ⟨u,h1,rfl,rfl⟩:=h
   exact ⟨rfl,fun _=>by simp[h1]⟩
theorem qbi {o:Oper} {ev:Operand->AV} {H H' : Heap} {x:AV} (hp:isP o=true) (h:aop P o ev H=some (x,H')):H' = H /\ ∀ H2,aop P o ev H2=some (x,H2):=by
 obtain ⟨dst,op,type,pos,after,guard⟩:=o
 cases op <;> simp only[isP] at hp <;> try (cases hp; done)
 case call c =>
  obtain ⟨callee,args,argTypes⟩:=c
  cases callee <;> try (cases hp; done)
  rename_i b
  cases b <;> try (cases hp; done)
  all_goals
   simp only[aop] at h |-
   exact qf3 (by simp) h
 case convert src dst y =>
  simp only[Bool.and_eq_true] at hp
  simp only[aop,hp.1,hp.2,Option.map_eq_some_iff,Prod.mk.injEq] at h |-
  obtain ⟨r,h1,rfl,rfl⟩:=h
  exact ⟨rfl,fun _=>by simp[h1]⟩
 case pick =>
  simp only[aop] at h |-
  split at h
  ·simp only[Option.some.injEq,Prod.mk.injEq] at h; obtain ⟨rfl,rfl⟩:=h; exact ⟨rfl,fun _=>rfl⟩
  ·cases h
 case nilCheck =>
  simp only[aop] at h |-
  split at h
  ·simp only[Option.some.injEq,Prod.mk.injEq] at h; obtain ⟨rfl,rfl⟩:=h; exact ⟨rfl,fun _=>rfl⟩
  ·simp only[Option.some.injEq,Prod.mk.injEq] at h; obtain ⟨rfl,rfl⟩:=h; exact ⟨rfl,fun _=>rfl⟩
  ·simp only[Option.some.injEq,Prod.mk.injEq] at h; obtain ⟨rfl,rfl⟩:=h; exact ⟨rfl,fun _=>rfl⟩
  ·simp only[Option.some.injEq,Prod.mk.injEq] at h; obtain ⟨rfl,rfl⟩:=h; exact ⟨rfl,fun _=>rfl⟩
  ·cases h
 case makeInterface t y =>
  simp only[aop] at h |-
  split at h
  ·cases h
  ·simp only[Option.some.injEq,Prod.mk.injEq] at h; obtain ⟨rfl,rfl⟩:=h; exact ⟨rfl,fun _=>rfl⟩
  ·cases h
 case extract =>
  simp only[aop] at h |-
  split at h
  ·simp only[Option.map_eq_some_iff,Prod.mk.injEq] at h; obtain ⟨r,h1,rfl,rfl⟩:=h; exact ⟨rfl,fun _=>by simp[h1]⟩
  ·cases h
 case move=>simp only[aop,Option.some.injEq,Prod.mk.injEq] at h; obtain ⟨rfl,rfl⟩:=h; exact ⟨rfl,fun _=>rfl⟩
 case assign=>simp only[aop,Option.some.injEq,Prod.mk.injEq] at h; obtain ⟨rfl,rfl⟩:=h; exact ⟨rfl,fun _=>rfl⟩
 case makeFunc=>simp only[aop,Option.some.injEq,Prod.mk.injEq] at h; obtain ⟨rfl,rfl⟩:=h; exact ⟨rfl,fun _=>rfl⟩
 all_goals
  simp only[aop,Option.map_eq_some_iff,Prod.mk.injEq] at h
  obtain ⟨r,h1,rfl,rfl⟩:=h
  exact ⟨rfl,fun _=>by simp[aop,h1]⟩
theorem qbj {o:Oper} {ev:Operand->AV} {H H' : Heap} {x:AV} (hl:isL o=true) (h:aop P o ev H=some (x,H')):H' = H:=by
 obtain ⟨dst,op,type,pos,after,guard⟩:=o
 cases op <;> simp only[isL] at hl <;> try (cases hl; done)
 case convert src dst y =>
  simp only[Bool.not_eq_true'] at hl
  simp only[aop,hl] at h
  split at h
  ·simp only[Option.some.injEq,Prod.mk.injEq] at h; exact h.2.symm
  ·simp only[Option.map_eq_some_iff,Prod.mk.injEq] at h; obtain ⟨r,_,_,rfl⟩:=h; rfl
 all_goals
  simp only[aop,Option.map_eq_some_iff,Prod.mk.injEq] at h
  obtain ⟨r,_,_,rfl⟩:=h
  rfl
theorem qhb {o:Oper} {ev ev' : Operand->AV} (h : ∀ y∈o.op.operands,ev y=ev' y) (H:Heap):aop P o ev H=aop P o ev' H:=by
 obtain ⟨dst,op,type,pos,after,guard⟩:=o
 have pairs : ∀ ps:Array (Nat × Operand),(∀ x∈ps.map (·.2),ev x=ev' x)->(ps.toList.map fun p=>(p.1,ev p.2))=(ps.toList.map fun p=>(p.1,ev' p.2)):=fun ps hp =>
  List.map_congr_left fun p hm=>by
   obtain ⟨i,x⟩:=p
   simp only[hp x (Array.mem_map.2 ⟨(i,x),by simpa using hm,rfl⟩)]
 have maps : ∀ xs:Array Operand,(∀ x∈xs,ev x=ev' x)->xs.toList.map ev=xs.toList.map ev':=fun xs hx=>List.map_congr_left fun x hm=>hx x (by simpa using hm)
 cases op <;> simp only[Op.operands] at h <;> simp only[aop]
 case build t ps=>rw[pairs ps fun x hx=>h x (by simpa using hx)]
 case buildSlice t n ps=>rw[pairs ps fun x hx=>h x (by simpa using hx)]
 case makeFunc fn first captured =>
  rw[maps first fun x hx=>h x (by simp[hx]),maps captured fun x hx=>h x (by simp[hx])]
 case slice t x lo hi mx =>
  have h1:ev x=ev' x:=h x (by simp)
  have h2:lo.map ev=lo.map ev':=by cases lo with | none=>rfl | some y=>simp[h y (by simp)]
  have h3:hi.map ev=hi.map ev':=by cases hi with | none=>rfl | some y=>simp[h y (by simp)]
  have h4:mx.map ev=mx.map ev':=by cases mx with | none=>rfl | some y=>simp[h y (by simp)]
  rw[h1,h2,h3,h4]
 case call c =>
  obtain ⟨callee,args,argTypes⟩:=c
  cases callee <;> simp only
  rename_i b
  rw[maps args fun x hx=>h x (by simp[Call.operands,hx])]
 case move x=>rw[h x (by simp)]
 case assign x=>rw[h x (by simp)]
 case pick c a b=>rw[h c (by simp),h a (by simp),h b (by simp)]
 case box t x=>rw[h x (by simp)]
 case load t x=>rw[h x (by simp)]
 case store t a b=>rw[h a (by simp),h b (by simp)]
 case nilCheck x=>rw[h x (by simp)]
 case binOp op t a b u=>rw[h a (by simp),h b (by simp)]
 case unOp op t x=>rw[h x (by simp)]
 case convert t u x=>rw[h x (by simp)]
 case makeInterface t x=>rw[h x (by simp)]
 case makeSlice t a b=>rw[h a (by simp),h b (by simp)]
 case fieldAddr t x f=>rw[h x (by simp)]
 case field t x f=>rw[h x (by simp)]
 case indexAddr t a b=>rw[h a (by simp),h b (by simp)]
 case index t a b=>rw[h a (by simp),h b (by simp)]
 case extract x i=>rw[h x (by simp)]
end
end Go.Fl
end Fl14S
noncomputable section Fl15S
namespace Go.Fl
open Go
def bef (ops:Array Oper) (i j:Nat):Bool:=((Region.before ops).getD j 0).testBit i
theorem qe6 (acc:Array Nat) (j:Nat) : ∀ (l:List Edge) (s:Nat),
  (l.foldl (fun s e=>if Region.binds .any e then s ||| 2^e.on ||| acc.getD e.on 0 else s) s).testBit j=true->s.testBit j=true \/ ∃ e∈l,Region.binds .any e=true/\(e.on=j\/(acc.getD e.on 0).testBit j=true)
 | [],s,h=>.inl h
 | e::l,s,h=>by
  simp only[List.foldl_cons] at h
  rcases qe6 acc j l _ h with h1 | ⟨e',h1,h2⟩
  ·split at h1
   ·rename_i hb
    simp only[Nat.testBit_or,Bool.or_eq_true] at h1
    rcases h1 with (h1 | h1) | h1
    ·exact .inl h1
    ·refine .inr ⟨e,by simp,hb,.inl ?_⟩
     rw[Nat.testBit_two_pow] at h1
     simpa using h1
    ·exact .inr ⟨e,by simp,hb,.inr h1⟩
   ·exact .inl h1
  ·exact .inr ⟨e',by simp[h1],h2⟩
def befStep (acc:Array Nat) (o:Oper):Array Nat :=
 acc.push (o.after.foldl (fun s e=>if Region.binds .any e then s ||| 2^e.on ||| acc.getD e.on 0 else s) 0)
theorem qhc (ops:Array Oper):Region.before ops=ops.toList.foldl befStep #[]:=by
 unfold Region.before
 rw[<- Array.foldl_toList]
 rfl
theorem qhd : ∀ (l:List Oper) (acc:Array Nat),(l.foldl befStep acc).size=acc.size+l.length
 | [],acc=>by simp
 | o::l,acc=>by simp only[List.foldl_cons]; rw[qhd l]; simp[befStep]; omega
theorem qdw : ∀ (l:List Oper) (acc:Array Nat) (k:Nat),k<acc.size->(l.foldl befStep acc).getD k 0=acc.getD k 0
 | [],acc,k,_=>rfl
 | o::l,acc,k,h=>by
  simp only[List.foldl_cons]
  rw[qdw l _ k (by simp[befStep]; omega)]
  simp only[befStep,Array.getD_eq_getD_getElem?]
  rw[Array.getElem?_push_lt oz]
  simp[h]
theorem qhe : ∀ (l:List Oper) (acc:Array Nat) (i:Nat) (o:Oper) (j:Nat),l[i]? = some o->((l.foldl befStep acc).getD (acc.size+i) 0).testBit j=true ->
  ∃ e∈o.after,Region.binds .any e=true/\(e.on=j\/(e.on<acc.size+i/\((l.foldl befStep acc).getD e.on 0).testBit j=true))
 | [],acc,i,o,j,h,_=>by simp at h
 | p::l,acc,0,o,j,h,ht=>by
  simp only[List.getElem?_cons_zero,Option.some.injEq] at h
  subst h
  simp only[List.foldl_cons,Nat.add_zero] at ht |-
  rw[qdw l _ acc.size (by simp[befStep])] at ht
  have e1:(befStep acc p).getD acc.size 0=p.after.foldl (fun s e=>if Region.binds .any e then s ||| 2^e.on ||| acc.getD e.on 0 else s) 0:=by
   simp[befStep,Array.getD_eq_getD_getElem?]
  rw[e1,<- Array.foldl_toList] at ht
  rcases qe6 acc j _ _ ht with h1 | ⟨e,h1,h2,h3⟩
  ·simp at h1
  ·refine ⟨e,by simpa using h1,h2,?_⟩
   rcases h3 with h3 | h3
   ·exact .inl h3
   ·have hlt:e.on<acc.size:=by
     rcases Nat.lt_or_ge e.on acc.size with h4 | h4
     ·exact h4
     ·rw[Array.getD_eq_getD_getElem?,Array.getElem?_eq_none h4] at h3; simp at h3
    refine .inr ⟨hlt,?_⟩
    rw[qdw l _ _ (by simp[befStep]; omega)]
    have:(befStep acc p).getD e.on 0=acc.getD e.on 0:=by
     simp only[befStep,Array.getD_eq_getD_getElem?]
     rw[Array.getElem?_push_lt hlt]
     simp[hlt]
    rw[this]; exact h3
 | p::l,acc,i+1,o,j,h,ht=>by
  simp only[List.getElem?_cons_succ] at h
  simp only[List.foldl_cons] at ht |-
  have hsz:(befStep acc p).size=acc.size+1:=by simp[befStep]
  have:=qhe l (befStep acc p) i o j h (by rw[hsz]; rw[show acc.size+1+i=acc.size+(i+1) by omega]; exact ht)
  rw[hsz,show acc.size+1+i=acc.size+(i+1) by omega] at this
  exact this
theorem bef_spec {ops:Array Oper} {i j:Nat} {o:Oper} (ho:ops[j]? = some o) (h:bef ops i j=true) : ∃ e∈o.after,Region.binds .any e=true/\(e.on=i\/(e.on<j/\bef ops i e.on=true)):=by
 unfold bef at *
 rw[qhc] at *
 have:=qhe ops.toList #[] j o i (by rw[Array.getElem?_toList]; exact ho) (by simpa using h)
 simpa using this
def drawOk (sz:Nat) (ops:Array Oper):Bool :=
 dstsB sz ops&&(List.range ops.size).all fun j=>match ops[j]? with
  | none=>true
  | some q=>(q.after.all fun e => !Region.binds .any e||decide (e.on<j))&&(List.range j).all fun i=>match ops[i]? with
   | none=>true
   | some p=>(p.dst.isNone||p.dst != q.dst)&&(((q.looksAt ops).all fun t=>p.dst != some t)||bef ops i j)&&(((p.looksAt ops).all fun t=>q.dst != some t)||bef ops i j)&&(!isC p || !isC q||bef ops i j)
structure DOk (sz:Nat) (ops:Array Oper):Prop where
 dsts:dstsOk sz ops
 acyc : ∀ (j:Nat) (q:Oper),ops[j]? = some q -> ∀ e∈q.after,Region.binds .any e=true->e.on<j
 apart : ∀ (i j:Nat) (p q:Oper),i<j->ops[i]? = some p->ops[j]? = some q -> ∀ t,p.dst=some t->q.dst≠some t
 down : ∀ (i j:Nat) (p q:Oper),i<j->ops[i]? = some p->ops[j]? = some q -> ∀ t,p.dst=some t->t∈q.looksAt ops->bef ops i j=true
 up : ∀ (i j:Nat) (p q:Oper),i<j->ops[i]? = some p->ops[j]? = some q -> ∀ t,q.dst=some t->t∈p.looksAt ops->bef ops i j=true
 chain : ∀ (i j:Nat) (p q:Oper),i<j->ops[i]? = some p->ops[j]? = some q->isC p=true->isC q=true->bef ops i j=true
theorem qdx {sz:Nat} {ops:Array Oper} (h:drawOk sz ops=true):DOk sz ops:=by
 unfold drawOk at h
 simp only[Bool.and_eq_true] at h
 obtain ⟨h1,h2⟩:=h
 have key : ∀ (i j:Nat) (p q:Oper),i<j->ops[i]? = some p->ops[j]? = some q ->
   ((p.dst.isNone||p.dst != q.dst)&&(((q.looksAt ops).all fun t=>p.dst != some t)||bef ops i j)&&(((p.looksAt ops).all fun t=>q.dst != some t)||bef ops i j)&&(!isC p || !isC q||bef ops i j))=true:=by
  intro i j p q hij hp hq
  have hj:=(Array.getElem?_eq_some_iff.1 hq).1
  have h3:=List.all_eq_true.1 h2 j (by simp[hj])
  rw[hq] at h3
  simp only[Bool.and_eq_true] at h3
  have h4:=List.all_eq_true.1 h3.2 i (by simp[hij])
  rw[hp] at h4
  simpa only [Bool.and_eq_true] using h4
 refine ⟨yK h1,?_,?_,?_,?_,?_⟩
 ·intro j q hq e he hb
  have hj:=(Array.getElem?_eq_some_iff.1 hq).1
  have h3:=List.all_eq_true.1 h2 j (by simp[hj])
  rw[hq] at h3
  simp only[Bool.and_eq_true] at h3
  have h4:=Array.all_eq_true'.1 h3.1 e he
  simpa [hb] using h4
 ·intro i j p q hij hp hq t h3 h4
  have:=key i j p q hij hp hq
  simp[h3,h4] at this
 ·intro i j p q hij hp hq t h3 h4
  have:=key i j p q hij hp hq
  simp only[Bool.and_eq_true,Bool.or_eq_true] at this
  rcases this.1.1.2 with h5 | h5
  ·have:=List.all_eq_true.1 h5 t h4
   simp[h3] at this
  ·exact h5
 ·intro i j p q hij hp hq t h3 h4
  have:=key i j p q hij hp hq
  simp only[Bool.and_eq_true,Bool.or_eq_true] at this
  rcases this.1.2 with h5 | h5
  ·have:=List.all_eq_true.1 h5 t h4
   simp[h3] at this
  ·exact h5
 ·intro i j p q hij hp hq h3 h4
  have:=key i j p q hij hp hq
  simp only[Bool.and_eq_true,Bool.or_eq_true,h3,h4] at this
  simpa using this.2
def dstAt (ops:Array Oper) (i:Nat):Option Tmp:=(ops[i]?).bind (·.dst)
def envAt (ops:Array Oper) (env0:Env) (val:Nat->AV):Nat->Env
 | 0=>env0
 | i+1=>(envAt ops env0 val i).upd (dstAt ops i) (val i)
theorem yj {ops:Array Oper} {env0:Env} {val:Nat->AV} {t:Tmp} : ∀ (i:Nat),(∀ k,k<i->dstAt ops k≠some t)->envAt ops env0 val i t=env0 t
 | 0,_=>rfl
 | i+1,h=>by
  simp only[envAt,Env.upd]
  rw[if_neg (h i oz)]
  exact yj i (fun k hk=>h k oz)
theorem yl {ops:Array Oper} {env0:Env} {val:Nat->AV} {t:Tmp} {k:Nat} (hk:dstAt ops k=some t) : ∀ (i:Nat),k<i->(∀ m,k<m->m<i->dstAt ops m≠some t)->envAt ops env0 val i t=val k
 | 0,h,_=>by omega
 | i+1,h,hno=>by
  simp only[envAt,Env.upd]
  by_cases e:i=k
  ·subst e; rw[if_pos hk]
  ·rw[if_neg (hno i oz oz)]
   exact yl hk i oz (fun m h1 h2=>hno m h1 oz)
theorem zg {ops:Array Oper} {i:Nat} {t:Tmp} (h:dstAt ops i=some t) : ∃ o,ops[i]? = some o/\o.dst=some t:=by
 unfold dstAt at h
 cases ho:ops[i]? with
 | none=>simp[ho] at h
 | some o=>simp[ho] at h; exact ⟨o,rfl,h⟩
structure Trace (P:Program) (ops:Array Oper) (env0:Env) (val:Nat->AV) (hp:Nat->Heap):Prop where
 step : ∀ (i:Nat) (o:Oper),ops[i]? = some o->(awanted ops o (envAt ops env0 val i)=some false/\val i = .undef/\hp (i+1)=hp i) \/
  (awanted ops o (envAt ops env0 val i)=some true/\StepTo P o (envAt ops env0 val i) (hp i) (val i) (hp (i+1)))
 early : ∀ (y c:Nat) (q p:Oper),ops[y]? = some q->ops[c]? = some p->isL q=true->isC p=true->awanted ops q (envAt ops env0 val y)=some true->awanted ops p (envAt ops env0 val c)=some true ->
  c<y->bef ops c y=false->aop P q (aev (envAt ops env0 val y)) (hp c)=some (val y,hp c)
 late : ∀ (y c:Nat) (q p:Oper),ops[y]? = some q->ops[c]? = some p->isL q=true->isC p=true->awanted ops q (envAt ops env0 val y)=some true->awanted ops p (envAt ops env0 val c)=some true ->
  y<c->bef ops y c=false->aop P q (aev (envAt ops env0 val y)) (hp (c+1))=some (val y,hp (c+1))
end Go.Fl
end Fl15S
