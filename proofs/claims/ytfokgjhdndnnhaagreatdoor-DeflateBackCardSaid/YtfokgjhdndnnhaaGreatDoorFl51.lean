/- A slice that grows, nil or not; junk in the heap; words for loops. -/
import Derived.Test.YtfokgjhdndnnhaaGreatDoorFl41
set_option linter.unusedVariables false
set_option linter.unusedSimpArgs false
noncomputable section Fl42S
namespace Go.Fl
open Go
section
variable {P:Program} {H:Heap} {sz n k:Nat} {s x:AV} {cs new:List AV} {bo:Option Nat}
theorem qnq {b off len sz' : Nat} (h:grown H sz (.ms b off len sz')=some (n,cs,bo)):sz' = sz/\len=n/\bo=some b /\ ∃ c,H.get b=some c/\off+len*sz=c.length/\cs=c.drop off:=by
 unfold grown at h
 simp only at h
 split at h
 ·rename_i e
  cases hb:H.get b with
  | none=>simp[hb] at h
  | some c =>
   simp only[hb,Option.bind_some] at h
   split at h
   ·rename_i e2
    simp only[Option.some.injEq,Prod.mk.injEq] at h
    exact ⟨e,h.1,h.2.2.symm,c,rfl,e2,h.2.1.symm⟩
   ·cases h
 ·cases h
theorem jT (h:grown H sz s=some (n,cs,bo)):(s = .nil/\n=0/\cs = []/\bo=none) \/ ∃ b off,s = .ms b off n sz/\bo=some b /\ ∃ c,H.get b=some c/\off+n*sz=c.length/\cs=c.drop off:=by
 cases s with
 | sc v =>
  unfold grown at h
  split at h
  ·rename_i e
   simp only[Option.some.injEq,Prod.mk.injEq] at h
   exact .inl ⟨e,h.1.symm,h.2.1.symm,h.2.2.symm⟩
  ·rename_i e; cases e
  ·cases h
 | ms b off len sz' =>
  obtain ⟨rfl,rfl,rfl,h1⟩:=qnq h
  exact .inr ⟨b,off,rfl,rfl,h1⟩
 | _=>simp[grown] at h
theorem grown_of {b:Nat} {c:List AV} (hb:H.get b=some c) (hl:n*sz=c.length):grown H sz (.ms b 0 n sz)=some (n,c,some b):=by
 simp[grown,hb,hl]
theorem qbp:grown H sz .nil=some (0,[],none):=rfl
theorem qfa (h:grown H sz s=some (n,cs,bo)):cs.length=n*sz:=by
 rcases jT h with ⟨_,rfl,rfl,_⟩ | ⟨b,off,_,_,c,_,h2,rfl⟩
 ·simp
 ·simp; omega
theorem qd2 {v:List AV} (h:grown H sz s=some (n,cs,bo)):grown (H.alloc v) sz s=some (n,cs,bo):=by
 rcases jT h with ⟨rfl,rfl,rfl,rfl⟩ | ⟨b,off,rfl,rfl,c,h1,h2,rfl⟩
 ·rfl
 ·have hne:b≠H.next:=by have:=Heap.lt_of_get h1; omega
  simp[grown,Heap.get_alloc,hne,h1,h2]
theorem qg1 {b' : Nat} {v:List AV} (h:grown H sz s=some (n,cs,bo)) (hb:bo≠some b'):grown (H.set b' v) sz s=some (n,cs,bo):=by
 rcases jT h with ⟨rfl,rfl,rfl,rfl⟩ | ⟨b,off,rfl,rfl,c,h1,h2,rfl⟩
 ·rfl
 ·have hne:b≠b':=fun e=>hb (by rw[e])
  simp[grown,Heap.get_set,hne,h1,h2]
theorem jh {d:Nat->Prop} (h:grown H sz s=some (n,cs,bo)) (hd : ∀ b,bo=some b->d b):Froz H d s (.vs n sz cs):=by
 rcases jT h with ⟨rfl,rfl,rfl,_⟩ | ⟨b,off,rfl,rfl,c,h1,h2,rfl⟩
 ·exact .nil sz
 ·exact Froz.row h1 (hd _ rfl) oz (by rw[List.take_of_length_le]; simp; omega)
theorem qL {t e u:TypeId} {bt:Nat} {zs:List AV} (ht:P.underlying t=some (.slice e)) (hs:csz P e=some sz) (hb:byt P e=some bt) (hz:zeroC P e=some zs) (hzl:zs.length=sz)
  (hsrc:source P H sz u x=some (k,new)) (hg:grown H sz s=some (n,cs,bo)) (h1:(n+k)*bt<=140737488355328) (h2:n+k<=140737488355328) (hl:new.all AV.leaf=true) :
  aappend P H t u s x=some (.ms H.next 0 (n+k) sz,H.regrow bo (cs++new)):=by
 unfold aappend
 simp[ht,hs,hb,hz,hsrc,hg]
 exact ⟨h1,h2,by simpa using hl,hzl⟩
theorem qi7 (hg:grown H sz s=some (n,cs,bo)) (hk:new.length=k*sz):grown (H.regrow bo (cs++new)) sz (.ms H.next 0 (n+k) sz)=some (n+k,cs++new,some H.next):=by
 have h1:=qfa hg
 refine grown_of ?_ (by simp[h1,hk,Nat.add_mul])
 unfold Heap.regrow
 rw[Heap.get_alloc,Heap.delo_next]
 simp
theorem qY {b:Nat} {c:List AV} (hc:H.get b=some c) (hb:bo≠some b):(H.regrow bo new).get b=some c:=by
 unfold Heap.regrow
 rw[Heap.get_alloc,Heap.delo_next,if_neg (by have:=Heap.lt_of_get hc; omega)]
 cases bo with
 | none=>exact hc
 | some b' =>
  show (H.del b').get b=_
  rw[Heap.get_del,if_neg (fun e=>hb (by rw[e]))]
  exact hc
end
theorem rel_junk {ρ : Rho} {I:Nat->Prop} {H:Heap} {w w1:World} (h:Rel ρ I H w.heap) {c:Array Value} {e:TypeId}
  (h1:w1.heap=w.heap.push (.cells c e)) (hos:w1.os=w.os) (ht:w1.tape=w.tape) (ho:w1.output=w.output) :
  Rel ρ I H w1.heap/\Ext ρ I w ρ I w1:=by
 have hold : ∀ (cb:Nat) (o:Obj),w.heap[cb]? = some o->w1.heap[cb]? = some o:=fun cb o hc=>by
  have:=(Array.getElem?_eq_some_iff.1 hc).1
  rw[h1,Array.getElem?_push,if_neg oz]; exact hc
 have hx:Ext ρ I w ρ I w1 :=
  { rho:=fun _ _ h=>h
    imm:=fun _ h=>h
    size:=by rw[h1]; simp
    kept:=fun cb hcb=>by rw[h1,Array.getElem?_push,if_neg (by have:=h.irng cb hcb; omega)]
    blocks:=fun cb c e fz hcb=>⟨c,fz,hold _ _ hcb,rfl⟩
    frame:=fun cb hlt _=>by rw[h1,Array.getElem?_push,if_neg oz]
    newI:=fun _ h=>.inl h
    newR:=fun _ _ _ h=>.inl h
    os:=hos
    tape:=ht
    output:=ho }
 refine ⟨⟨?_,h.inj,h.rng,?_,?_,h.glob.ext hx.imm hx.kept⟩,hx⟩
 ·intro b cs hb
  rcases h.live b cs hb with h2 | ⟨cb,base,c',e',h2,h3,⟨fz4,hf4,h4⟩,h5,h6⟩
  ·exact .inl h2
  ·exact .inr ⟨cb,base,c',e',h2,h3,⟨fz4,hf4,hold _ _ h4⟩,h5,fun i x hx'=>(h6 i x hx').mono hx⟩
 ·intro b cb base hb
  obtain ⟨c',e',fz',hc'⟩:=h.at_ _ _ _ hb
  exact ⟨c',e',fz',hold _ _ hc'⟩
 ·intro cb hcb; have:=h.irng _ hcb; have:=hx.size; omega
attribute [go_sem] qbp
end Go.Fl
end Fl42S
noncomputable section Fl43S
namespace Go.Fl
open Go
inductive Wk:AV->AV->Prop
 | same (x:AV):Wk x x
 | ai (k:IntKind) (n:Int):Wk (.sc (.int k n)) (.ai k)
 | ty (t:TypeId) (n:Nat) (x:AV):Wk (.ty t n x) x
 | tyNil (t:TypeId) (n:Nat):Wk .nil (.ty t n .nil)
 | cp (k:Nat) (x:AV):Wk (.cp k x) x
 | top (x:AV):Wk x .top
theorem Wk.vr {ρ : Rho} {I:Nat->Prop} {hp:Array Obj} {x y:AV} (h:Wk x y) {v:Value} (hv:VR ρ I hp x v):VR ρ I hp y v:=by
 cases h with
 | same=>exact hv
 | ai k n=>cases hv.eq_sc; exact .ai k n
 | ty t n x=>cases hv with | ty h1 h2=>exact h1
 | tyNil t n=>cases hv.eq_sc; exact .ty (.sc _) trivial
 | cp k x=>cases hv with | cp h1 h2=>exact h1
 | top=>exact .top _
def HW (H' H:Heap):Prop:=H.next<=H'.next /\ ∀ b cs',H'.get b=some cs' -> ∃ cs,H.get b=some cs/\cs'.length=cs.length /\ ∀ (i:Nat) (x x' : AV),cs[i]? = some x->cs'[i]? = some x' -> Wk x x'
theorem Rel.weak {ρ : Rho} {I:Nat->Prop} {H H' : Heap} {hp:Array Obj} (h:Rel ρ I H hp) (hw:HW H' H):Rel ρ I H' hp where
 live b cs' hb:=by
  obtain ⟨cs,h1,h2,h3⟩:=hw.2 b cs' hb
  rcases h.live b cs h1 with ⟨k1,rfl⟩ | ⟨cb,base,c,e,k1,k2,k3,k4,k5⟩
  ·exact .inl ⟨k1,List.length_eq_zero_iff.1 h2⟩
  ·refine .inr ⟨cb,base,c,e,k1,k2,k3,oz,fun i x' hx'=>?_⟩
   have hi:=(List.getElem?_eq_some_iff.1 hx').1
   rw[h2] at hi
   exact (h3 i _ x' (List.getElem?_eq_getElem hi) hx').vr (k5 i _ (List.getElem?_eq_getElem hi))
 inj b b' cs cs' cb base base' hb hb':=by
  obtain ⟨c1,h1,_⟩:=hw.2 b cs hb
  obtain ⟨c2,h2,_⟩:=hw.2 b' cs' hb'
  exact h.inj b b' c1 c2 cb base base' h1 h2
 rng b p hb:=Nat.lt_of_lt_of_le (h.rng b p hb) hw.1
 at_:=h.at_
 irng:=h.irng
 glob:=h.glob
theorem qfb {P:Program} {sz:Nat} {c:Code} {Q:Exit->Env->Heap->Prop} {env env' : Env} {H H' : Heap} (hw:HW H' H) (he : ∀ i,Wk (env i) (env' i)) (h:SCode P sz c Q env' H'):SCode P sz c Q env H :=
 fun ρ I w a Q' hr hel hq=>h ρ I w a Q' (hr.weak hw) ⟨hel.size,hel.defers,fun i=>(he i).vr (hel.val i),hel.glob⟩ hq
inductive WkL:List AV->List AV->Prop
 | nil:WkL [] []
 | cons {x y:AV} {xs ys:List AV} : Wk x y->WkL xs ys->WkL (x::xs) (y::ys)
theorem WkL.get {xs ys:List AV} (h:WkL xs ys):ys.length=xs.length /\ ∀ (i:Nat) (x y:AV),xs[i]? = some x->ys[i]? = some y->Wk x y:=by
 induction h with
 | nil=>exact ⟨rfl,fun i x y hx=>by simp at hx⟩
 | cons h1 _ ih =>
  refine ⟨by simp[ih.1],fun i x y hx hy=>?_⟩
  cases i with
  | zero=>simp at hx hy; subst hx; subst hy; exact h1
  | succ i=>exact ih.2 i x y (by simpa using hx) (by simpa using hy)
theorem HW.refl (H:Heap):HW H H:=⟨Nat.le_refl _,fun b cs h=>⟨cs,h,rfl,fun i x x' hx hx'=>by rw[hx] at hx'; cases hx'; exact .same _⟩⟩
def ais (k:IntKind) (n:Nat):List AV:=List.replicate n (.ai k)
theorem ais_len (k:IntKind) (n:Nat):(ais k n).length=n:=List.length_replicate
theorem ais_get {k:IntKind} {n i:Nat} {x:AV} (h:(ais k n)[i]? = some x):x = .ai k:=by
 unfold ais at h
 rw[List.getElem?_replicate] at h
 split at h
 ·cases h; rfl
 ·cases h
def isK (k:IntKind) (x:AV):Prop:=(∃ n,x = .sc (.int k n))\/x = .ai k
theorem isK.wk {k:IntKind} {x:AV} (h:isK k x):Wk x (.ai k):=by
 rcases h with ⟨n,rfl⟩ | rfl
 ·exact .ai k n
 ·exact .same _
theorem isK.leaf {k:IntKind} {x:AV} (h:isK k x):x.leaf=true:=by
 rcases h with ⟨n,rfl⟩ | rfl <;> rfl
theorem isK.lt {k:IntKind} {x:AV} (h:isK k x) (n:Nat):x.Lt n:=by
 rcases h with ⟨m,rfl⟩ | rfl
 ·exact .sc _
 ·exact .ai k
theorem isK.aint {k:IntKind} {x:AV} (h:isK k x):aint x=some k:=by
 rcases h with ⟨m,rfl⟩ | rfl <;> rfl
def allK (k:IntKind) (cs:List AV):Prop := ∀ x∈cs,isK k x
theorem allK.append {k:IntKind} {a b:List AV} (h1:allK k a) (h2:allK k b):allK k (a++b):=fun x hx=>by
 rcases List.mem_append.1 hx with h | h
 ·exact h1 x h
 ·exact h2 x h
theorem allK.wk {k:IntKind} {cs:List AV} (h:allK k cs) {n:Nat} (hn:cs.length=n):(ais k n).length=cs.length /\ ∀ (i:Nat) (x x' : AV),cs[i]? = some x->(ais k n)[i]? = some x' -> Wk x x' :=
 ⟨by rw[ais_len,hn],fun i x x' hx hx'=>by rw[ais_get hx']; exact (h x (List.mem_of_getElem? hx)).wk⟩
theorem qo {P:Program} {sz:Nat} {c:Code} {Q:Exit->Env->Heap->Prop} {env:Env} {H:Heap} (h : ∀ K:Env->Heap->Prop,(∀ env H,Q .normal env H->K env H)->SCode P sz c (thenA K Q) env H):SCode P sz c Q env H :=
 (h (Q .normal) fun _ _ h=>h).mono fun e env H hq=>by cases e <;> exact hq
@[go_sem] theorem srun_shiftr {P:Program} {k k' : IntKind} {a b:Int} (h:0<=b):srun P (Op.shift .shr k a k' b)=some (.int k (bshr k a b)):=by
 simp only[Op.shift]; rw[if_neg oz]; rfl
@[go_sem] theorem srun_shiftl {P:Program} {k k' : IntKind} {a b:Int} (h:0<=b):srun P (Op.shift .shl k a k' b)=some (.int k (bshl k a b)):=by
 simp only[Op.shift]; rw[if_neg oz]; rfl
@[go_sem] theorem zrep1 (a:AV):zrep [a] 1 = [a]:=kz
@[go_sem] theorem zrep2 (a b:AV):zrep [a,b] 2 = [a,b]:=kz
@[go_sem] theorem zrep1_2 (a:AV):zrep [a] 2 = [a,a]:=kz
@[go_sem] theorem zrep1_4 (a:AV):zrep [a] 4 = [a,a,a,a]:=kz
@[go_sem] theorem zrep7 (a b c d e f g:AV):zrep [a,b,c,d,e,f,g] 7 = [a,b,c,d,e,f,g]:=kz
@[go_sem] theorem zrep7_2 (a b c d e f g:AV):zrep [a,b,c,d,e,f,g] 14 = [a,b,c,d,e,f,g,a,b,c,d,e,f,g]:=kz
end Go.Fl
end Fl43S
noncomputable section Fl44S
namespace Go.Fl
open Go
inductive Ren (bs:List Nat):AV->AV->Prop
 | ptr {i b:Nat} (o:Nat):bs[i]? = some b->Ren bs (.ptr i o) (.ptr b o)
 | ms {i b:Nat} (off len sz:Nat):bs[i]? = some b->Ren bs (.ms i off len sz) (.ms b off len sz)
 | plain {x y:AV} : y.Lt 0->Wk y x->Ren bs x y
 | top (y:AV):Ren bs .top y
inductive Bak (bs:List Nat):AV->AV->Prop
 | ptr {i b:Nat} (o:Nat):bs[i]? = some b->Bak bs (.ptr i o) (.ptr b o)
 | ms {i b:Nat} (off len sz:Nat):bs[i]? = some b->Bak bs (.ms i off len sz) (.ms b off len sz)
 | plain {x y:AV} : x.Lt 0->Wk x y->Bak bs x y
 | top (x:AV):Bak bs x .top
end Go.Fl
end Fl44S
noncomputable section Fl45S
namespace Go.Fl
open Go
section
variable {P:Program} {ops:Array Oper}
theorem WOps.mono {Q Q' : Exit->Env->Heap->Prop} (hq : ∀ env H,Q .normal env H->Q' .normal env H) : ∀ {l:List Oper} {env:Env} {H:Heap},WOps P ops Q l env H->WOps P ops Q' l env H
 | [],_,_,h=>hq _ _ h
 | _::_,_,_,h=>WOp.mono (fun _ _ h=>WOps.mono hq h) h
end
end Go.Fl
end Fl45S
noncomputable section Fl50S
namespace Go.Fl
open Go
section
variable {P:Program} {sz:Nat} {ops:Array Oper}
theorem WStep_of {o:Oper} {env:Env} {H:Heap} {x:AV} {H' : Heap} {K:AV->Heap->Prop} (h:StepTo P o env H x H') (hk:K x H'):WStep P o env H K:=by
 obtain ⟨dst,op,type,pos,after,guard⟩:=o
 unfold StepTo at h
 unfold WStep
 split at h
 ·rename_i f args argTypes hop
  simp only at hop
  subst hop
  obtain ⟨k,first,captured,hf,hc⟩:=h
  simp only[hf]
  exact ⟨x,H',hc,hk⟩
 ·rename_i hno
  split
  ·rename_i f args argTypes hop
   simp only at hop
   exact absurd hop (hno _ _ _)
  ·rw[h]; exact hk
theorem qah {bf:List Nat} {Q:Exit->Env->Heap->Prop} : ∀ (rest:List Oper) (i:Nat) (st:List (Nat × Heap)) (ld:List (Nat × Oper × Env × AV)) (env:Env) (H:Heap),
  (∀ o∈rest,isL o=false)->(∀ y q e x,(y,q,e,x)∈ld -> ∀ j,i<=j->j<i+rest.length->befL bf y j=true)->WOps P ops Q rest env H->WDraw P ops bf i rest st ld Q env H
 | [],i,st,ld,env,H,_,_,h=>h
 | o::rest,i,st,ld,env,H,hL,hld,h=>by
  have hLo:=hL o List.mem_cons_self
  have hL' : ∀ o∈rest,isL o=false:=fun o ho=>hL o (List.mem_cons_of_mem _ ho)
  have hld' : ∀ y q e x,(y,q,e,x)∈ld -> ∀ j,i+1<=j->j<i+1+rest.length->befL bf y j=true:=fun y q e x hm j h1 h2=>hld y q e x hm j oz (by simp only[List.length_cons]; omega)
  have hl : ∀ (l:List (Nat × Oper × Env × AV)),(∀ y q e x,(y,q,e,x)∈l->befL bf y i=true) -> ∀ H',ldOk P bf i H' l:=by
   intro l
   induction l with
   | nil=>intro _ _; trivial
   | cons a l ih =>
    obtain ⟨y,q,e,x⟩:=a
    intro hl H'
    exact ⟨.inl (hl y q e x List.mem_cons_self),ih (fun y q e x hm=>hl y q e x (List.mem_cons_of_mem _ hm)) H'⟩
  have hli:=hl ld fun y q e x hm=>hld y q e x hm i (Nat.le_refl _) (by simp)
  have h1:=WOp_cases h
  simp only[WDraw]
  rcases h1 with ⟨ha,hk⟩ | ⟨ha,x,H',hst,hk⟩
  ·simp only[ha]
   exact qah rest _ st ld _ H hL' hld' hk
  ·simp only[ha]
   by_cases hp:isP o=true
   ·simp only[hp,if_true]
    have hc:isC o=false:=by simp[isC,hp]
    have hx:=StepTo_aop hc hst
    obtain ⟨rfl,_⟩:=qbi hp hx
    simp only[hx]
    exact qah rest _ st ld _ _ hL' hld' hk
   ·simp only[hp,hLo,Bool.false_eq_true,if_false]
    exact WStep_of hst ⟨hli H',qah rest _ _ ld _ _ hL' hld' hk⟩
theorem jw {bf:List Nat} {Q:Exit->Env->Heap->Prop} {l2:List Oper} (hL2 : ∀ o∈l2,isL o=false) : ∀ (l1:List Oper) (i:Nat) (st:List (Nat × Heap)) (ld:List (Nat × Oper × Env × AV)) (env:Env) (H:Heap),
  (∀ c Hc,(c,Hc)∈st->Hc=H)->(∀ y q e x,(y,q,e,x)∈ld->aop P q (aev e) H=some (x,H) /\ ∀ j,i+l1.length<=j->j<i+l1.length+l2.length->befL bf y j=true) ->
  (∀ (m:Nat) (o:Oper),l1[m]? = some o->isL o=true -> ∀ j,i+l1.length<=j->j<i+l1.length+l2.length->befL bf (i+m) j=true) ->
  WSOps P ops (thenA (WOps P ops Q l2) Q) l1 env H->WDraw P ops bf i (l1++l2) st ld Q env H
 | [],i,st,ld,env,H,_,hld,_,h=>qah l2 i st ld env H hL2 (fun y q e x hm j h1 h2=>(hld y q e x hm).2 j (by simpa using h1) (by simpa using h2)) h
 | o::rest,i,st,ld,env,H,hst,hld,hB,h=>by
  have hl : ∀ (l:List (Nat × Oper × Env × AV)),(∀ y q e x,(y,q,e,x)∈l->aop P q (aev e) H=some (x,H))->ldOk P bf i H l:=by
   intro l
   induction l with
   | nil=>intro _; trivial
   | cons a l ih =>
    obtain ⟨y,q,e,x⟩:=a
    intro hl
    exact ⟨.inr (hl y q e x List.mem_cons_self),ih (fun y q e x hm=>hl y q e x (List.mem_cons_of_mem _ hm))⟩
  have hld1 : ∀ y q e x,(y,q,e,x)∈ld->aop P q (aev e) H=some (x,H) /\ ∀ j,i+1+rest.length<=j->j<i+1+rest.length+l2.length->befL bf y j=true:=fun y q e x hm =>
   ⟨(hld y q e x hm).1,fun j h1 h2=>(hld y q e x hm).2 j (by simp only[List.length_cons]; omega) (by simp only[List.length_cons]; omega)⟩
  have hB1 : ∀ (m:Nat) (o:Oper),rest[m]? = some o->isL o=true -> ∀ j,i+1+rest.length<=j->j<i+1+rest.length+l2.length->befL bf (i+1+m) j=true:=fun m o hm hLo j h1 h2=>by
   have:=hB (m+1) o (by simpa using hm) hLo j (by simp only[List.length_cons]; omega) (by simp only[List.length_cons]; omega)
   rwa [show i+(m+1)=i+1+m by omega] at this
  simp only[WSOps,WSOp] at h
  simp only[List.cons_append,WDraw]
  cases ha:awanted ops o env with
  | none=>simp only[ha] at h
  | some b =>
   cases b with
   | false=>simp only[ha] at h |-; exact jw hL2 rest _ st ld _ H hst hld1 hB1 h
   | true =>
    simp only[ha] at h |-
    by_cases hp:isP o=true
    ·simp only[hp,if_true] at h |-
     cases hx:aop P o (aev env) H with
     | none=>simp only[hx] at h
     | some y=>simp only[hx] at h |-; exact jw hL2 rest _ st ld _ H hst hld1 hB1 h
    ·by_cases hL:isL o=true
     ·simp only[hp,hL,if_true,Bool.false_eq_true,if_false] at h |-
      cases hx:aop P o (aev env) H with
      | none=>simp only[hx] at h
      | some y =>
       obtain ⟨x,H'⟩:=y
       simp only[hx] at h |-
       obtain ⟨rfl,h⟩:=h
       refine ⟨?_,jw hL2 rest _ st _ _ _ hst ?_ hB1 h⟩
       ·have : ∀ (l:List (Nat × Heap)),(∀ c Hc,(c,Hc)∈l->Hc=H')->stOk P bf i o env x l:=by
         intro l
         induction l with
         | nil=>intro _; trivial
         | cons a l ih =>
          intro hl
          obtain ⟨c,Hc⟩:=a
          refine ⟨.inr ?_,ih fun c Hc hm=>hl c Hc (List.mem_cons_of_mem _ hm)⟩
          rw[hl c Hc List.mem_cons_self]
          exact hx
        exact this st hst
       ·intro y q e x' hm
        rcases List.mem_cons.1 hm with e1 | hm
        ·cases e1
         exact ⟨hx,fun j h1 h2=>by
          have:=hB 0 o rfl hL j (by simp only[List.length_cons]; omega) (by simp only[List.length_cons]; omega)
          rwa [Nat.add_zero] at this⟩
        ·exact hld1 y q e x' hm
     ·simp only[hp,hL,Bool.false_eq_true,if_false] at h |-
      refine h.mono fun x H' h'=>?_
      obtain ⟨rfl,h'⟩:=h'
      refine ⟨hl ld fun y q e x hm=>(hld y q e x hm).1,jw hL2 rest _ _ ld _ _ ?_ hld1 hB1 h'⟩
      intro c Hc hm
      rcases List.mem_cons.1 hm with e1 | hm
      ·cases e1; rfl
      ·exact hst c Hc hm
def tailB (ops:Array Oper) (bf:List Nat) (n:Nat):Bool :=
 Nat.ble n ops.size&&(ops.toList.drop n).all (fun o => !isL o)&&(List.range n).all fun y=>match ops[y]? with
  | some q => !isL q||(List.range (ops.size-n)).all fun j=>befL bf y (n+j)
  | none=>true
theorem yU {id:Nat} {bf:List Nat} {Q:Exit->Env->Heap->Prop} {env:Env} {H:Heap} (n:Nat) (hm:P.follows .mixedOrders=true) (hk:drawOk sz ops=true) (hbf:Region.before ops=bf.toArray) (ht:tailB ops bf n=true)
  (h : ∀ K:Env->Heap->Prop,(∀ env H,WOps P ops Q (ops.toList.drop n) env H->K env H)->WSOps P ops (thenA K Q) (ops.toList.take n) env H):SCode P sz (.region id ops true) Q env H:=by
 unfold tailB at ht
 simp only[Bool.and_eq_true,Nat.ble_eq,List.all_eq_true,List.mem_range] at ht
 obtain ⟨⟨h1,h2⟩,h3⟩:=ht
 have hlen:(ops.toList.take n).length=n:=by rw[List.length_take,Array.length_toList]; omega
 have hlen2:(ops.toList.drop n).length=ops.size-n:=by rw[List.length_drop,Array.length_toList]
 refine qZ (bf:=bf) hm hk hbf ?_
 have:=jw (P:=P) (ops:=ops) (bf:=bf) (Q:=Q) (l2:=ops.toList.drop n) (fun o ho=>by simpa using h2 o ho) (ops.toList.take n) 0 [] [] env H (fun c Hc hm=>by cases hm) (fun y q e x hm=>by cases hm)
  (fun m o hm hL j j1 j2=>by
   rw[hlen] at j1
   rw[hlen,hlen2] at j2
   have hmn:m<n:=by
    have:=(List.getElem?_eq_some_iff.1 hm).1
    rw[hlen] at this; exact this
   rw[List.getElem?_take_of_lt hmn,Array.getElem?_toList] at hm
   have h4:=h3 m hmn
   rw[hm] at h4
   simp only[hL,Bool.not_true,Bool.false_or,List.all_eq_true,List.mem_range] at h4
   have:=h4 (j-n) oz
   rw[show n+(j-n)=j by omega] at this
   rw[Nat.zero_add]
   exact this) (h _ fun _ _ h=>h)
 rwa [List.take_append_drop] at this
end
end Go.Fl
end Fl50S
noncomputable section Fl51S
namespace Go.Fl
open Go
def SCallsP (P:Program) (f:FuncId) (args:List AV) (H:Heap) (post:AV->Heap->Prop):Prop :=
 Enters P f /\ ∀ ρ I w cargs,Rel ρ I H w.heap->VRs ρ I w.heap args cargs ->
  Calls P f cargs w fun e w' => ∃ r H' v ρ' I',post r H' /\ H.next<=H'.next/\e = .returned v/\VR ρ' I' w'.heap r v/\Rel ρ' I' H' w'.heap/\Ext ρ I w ρ' I' w'
theorem SCalls.p {P:Program} {f:FuncId} {args:List AV} {H:Heap} {r:AV} {H' : Heap} (h:SCalls P f args H r H'):SCallsP P f args H (fun x X=>x=r/\X=H') :=
 ⟨h.1,fun ρ I w cargs hr ha=>(h.2.2 ρ I w cargs hr ha).mono fun e w' ⟨v,ρ',I',h1,h2,h3,h4⟩=>⟨r,H',v,ρ',I',⟨rfl,rfl⟩,h.2.1,h1,h2,h3,h4⟩⟩
theorem SCallsP.mono {P:Program} {f:FuncId} {args:List AV} {H:Heap} {post post' : AV->Heap->Prop} (h:SCallsP P f args H post) (hp : ∀ r H',H.next<=H'.next->post r H' -> post' r H'):SCallsP P f args H post' :=
 ⟨h.1,fun ρ I w cargs hr ha=>(h.2 ρ I w cargs hr ha).mono fun e w' ⟨r,H',v,ρ',I',h0,h1,h2⟩=>⟨r,H',v,ρ',I',hp r H' h1 h0,h1,h2⟩⟩
def RetP (P:Program) (fn:Func) (H:Heap) (env:Env) (H1:Heap) (post:AV->Heap->Prop):Prop := ∃ r H',post r H' /\ Ret P fn H env H1 r H'
theorem qlx {P:Program} {f:FuncId} {fn:Func} {c:Code} {args:List AV} {H:Heap} {post:AV->Heap->Prop} (hen:Enters P f) (hf:P.funcs[f]? = some fn) (hb:fn.body=some c)
  (h:SCode P (args.length+(fn.ntmps-args.length)) c (fun e env H1=>(e = .ret\/e = .normal)/\RetP P fn H env H1 post) (enterEnv args) H):SCallsP P f args H post:=by
 refine ⟨hen,fun ρ I w cargs hr hargs=>?_⟩
 refine calls_of_wp hf hb (h ρ I w _ _ hr ?_ ?_)
 ·refine ⟨by simp[hargs.1],rfl,fun i=>?_,hr.glob⟩
  simp only[enterEnv]
  by_cases hi:i<args.length
  ·rw[List.getElem?_eq_getElem hi]
   have h1:=hargs.2 i _ (List.getElem?_eq_getElem hi)
   have e1:(cargs++Array.replicate (fn.ntmps-cargs.size) Go.undef).getD i Go.undef=cargs.getD i Go.undef:=by
    have hi' : i<cargs.size:=by rw[<- hargs.1]; exact hi
    simp only[Array.getD_eq_getD_getElem?]
    rw[Array.getElem?_append_left hi']
   rw[e1]; exact h1
  ·rw[List.getElem?_eq_none oz]
   have hi' : cargs.size<=i:=by rw[<- hargs.1]; omega
   have e1:(cargs++Array.replicate (fn.ntmps-cargs.size) Go.undef).getD i Go.undef=Go.undef:=by
    simp only[Array.getD_eq_getD_getElem?]
    rw[Array.getElem?_append_right hi',Array.getElem?_replicate]
    split <;> rfl
   rw[e1]; exact .sc _
 ·rintro e a' w' ⟨env',H1,ρ1,I1,⟨he,r,H',hpost,hret⟩,hr1,he1,hx⟩
  obtain ⟨v,hv1,hv2⟩:=hret.res
  obtain ⟨u,hu1,hu2⟩:=qcx hr1 he1 hv1
  have hz:=hv2.vr hr1 hu2
  have hrel:Rel (ρ1.below H'.next) (keptBy ρ1 I1 H1 H') H' w'.heap:=by
   have hb' : ∀ x y,(ρ1.below H'.next) x=some y -> ρ1 x=some y/\x<H'.next:=by
    intro x y hxy
    simp only[Rho.below] at hxy
    split at hxy
    ·exact ⟨hxy,by assumption⟩
    ·cases hxy
   let Hup:Heap:=⟨H1.next,H'.tree,fun b hb=>H'.wf b (Nat.le_trans hret.hi hb)⟩
   have hk:Rel ρ1 (keptBy ρ1 I1 H1 Hup) Hup w'.heap:=hr1.keep (H':=Hup) hret.sub (Nat.le_refl _)
   refine ⟨?_,?_,?_,?_,hk.irng,hk.glob⟩
   ·intro b cs hb
    have hbl:b<H'.next:=Heap.lt_of_get hb
    have hin:(ρ1.below H'.next) b = ρ1 b:=by simp[Rho.below,hbl]
    rcases hk.live b cs hb with ⟨k1,k2⟩ | ⟨cb,base,cc,e',k1,k2,k3,k4,k5⟩
    ·exact .inl ⟨by rw[hin]; exact k1,k2⟩
    ·refine .inr ⟨cb,base,cc,e',by rw[hin]; exact k1,k2,k3,k4,fun i x hx'=>?_⟩
     rcases hret.cont b cs hb with k6 | k6
     ·rcases hr.live b cs k6 with ⟨_,m2⟩ | ⟨cb0,base0,cc0,e0,m1,m2,m3,m4,m5⟩
      ·subst m2; simp at hx'
      ·have hold:=m5 i x hx'
       refine VR.restrict (ρ := ρ1.below H'.next) (fun b p hbp=>(hb' b p hbp).1) (hold.mono' (ρ' := ρ1.below H'.next) ?_ (fun _ h=>h) (fun _ _=>rfl) (fun _ c _ fz h=>⟨c,fz,h,rfl⟩)) (k5 i x hx')
       intro b2 p hb2
       have hlt:=hr.rng _ _ hb2
       have:b2<H'.next:=Nat.lt_of_lt_of_le hlt hret.lo
       simp[Rho.below,this,hx.rho _ _ hb2]
     ·exact (k5 i x hx').lower (k6 x (List.mem_of_getElem? hx'))
   ·intro b b' cs cs' cb base base' h1 h2 h3 h4
    exact hk.inj _ _ _ _ _ _ _ h1 h2 (hb' _ _ h3).1 (hb' _ _ h4).1
   ·intro b p hb
    exact (hb' _ _ hb).2
   ·intro b cb base hb
    exact hk.at_ _ _ _ (hb' _ _ hb).1
  have hext:Ext ρ I w (ρ1.below H'.next) (keptBy ρ1 I1 H1 H') w' :=
   { rho:=fun b p hb=>by
      have hlt:=hr.rng _ _ hb
      have:b<H'.next:=Nat.lt_of_lt_of_le hlt hret.lo
      simp[Rho.below,this,hx.rho _ _ hb]
     imm:=fun cb hcb=>.inl (hx.imm cb hcb)
     size:=hx.size
     kept:=hx.kept
     blocks:=hx.blocks
     frame:=hx.frame
     newI:=by
      rintro cb (h1 | ⟨b,cs,base,h1,_,h3⟩)
      ·exact hx.newI cb h1
      ·rcases hx.newR b cb base h3 with h4 | h4 | h4
       ·exact .inr (.inr ⟨_,_,h4⟩)
       ·exact .inr (.inl h4)
       ·exact .inr (.inr h4)
     newR:=fun b cb base hb=>by
      simp only[Rho.below] at hb
      split at hb
      ·exact hx.newR b cb base hb
      ·cases hb
     os:=hx.os
     tape:=hx.tape
     output:=hx.output }
  have hfin : ∃ r H' v ρ' I',post r H' /\ H.next<=H'.next/\Ending.returned u = .returned v/\VR ρ' I' w'.heap r v/\Rel ρ' I' H' w'.heap/\Ext ρ I w ρ' I' w' :=
   ⟨r,H',u,_,_,hpost,hret.lo,rfl,hz.lower hret.lt,hrel,hext⟩
  rcases he with rfl | rfl
  ·exact ⟨he1.defers,u,hu1,hfin⟩
  ·exact ⟨he1.defers,u,hu1,hfin⟩
theorem qA {P:Program} {sz:Nat} {f:FuncId} {fn:Func} {c:Code} {args:List AV} {H:Heap} {post:AV->Heap->Prop} (hen:Enters P f) (hf:P.funcs[f]? = some fn) (hb:fn.body=some c) (hsz:args.length+(fn.ntmps-args.length)=sz)
  (h : ∀ R:Env->Heap->Prop,(∀ env H1,RetP P fn H env H1 post->R env H1)->SCode P sz c (retQ R) (enterEnv args) H):SCallsP P f args H post:=by
 subst hsz
 refine qlx hen hf hb ((h (fun env H1=>RetP P fn H env H1 post) (fun _ _ h=>h)).mono ?_)
 intro e env H1 hq
 cases e <;> first | exact ⟨.inl rfl,hq⟩ | exact ⟨.inr rfl,hq⟩ | exact hq.elim
def WPOp (P:Program) (ops:Array Oper) (o:Oper) (K:Env->Heap->Prop) (env:Env) (H:Heap):Prop :=
 match awanted ops o env with
 | none=>False
 | some false=>K (env.upd o.dst .undef) H
 | some true=>match o.op with
  | .call { callee:=.value f,args,argTypes:=_ } => match aev env f with
   | .fn (.func k) first captured => ∃ post,SCallsP P k (first++args.toList.map (aev env)++captured) H post /\ ∀ r H',H.next<=H'.next->post r H' -> K (env.upd o.dst r) H'
   | _=>False
  | _=>match aop P o (aev env) H with
   | some (x,H')=>K (env.upd o.dst x) H'
   | none=>False
def WPOps (P:Program) (ops:Array Oper) (Q:Exit->Env->Heap->Prop):List Oper->Env->Heap->Prop
 | [],env,H=>Q .normal env H
 | o::rest,env,H=>WPOp P ops o (WPOps P ops Q rest) env H
def StepP (P:Program) (o:Oper) (env:Env) (H:Heap) (post:AV->Heap->Prop):Prop :=
 match o.op with
 | .call { callee:=.value f,args,argTypes:=_ } => ∃ k first captured,aev env f = .fn (.func k) first captured/\SCallsP P k (first++args.toList.map (aev env)++captured) H post
 | _ => ∃ x H',aop P o (aev env) H=some (x,H')/\post x H'
section
variable {P:Program} {sz:Nat} {ops:Array Oper}
theorem StepP_run {o:Oper} {env:Env} {H:Heap} {post:AV->Heap->Prop} (h:StepP P o env H post) {ρ : Rho} {I:Nat->Prop} {w:World} {a:Act} (hr:Rel ρ I H w.heap)
  (hv : ∀ y,VR ρ I w.heap (aev env y) (a.eval y)) {K:Act->World->Prop} {Q:Exit->Act->World->Prop}
  (hk : ∀ x H' v w' ρ' I',(H.next<=H'.next\/True)->post x H' -> VR ρ' I' w'.heap x v->Rel ρ' I' H' w'.heap->Ext ρ I w ρ' I' w' -> K (a.put o.dst v) w'):o.wp P a w K Q:=by
 obtain ⟨dst,op,type,pos,after,guard⟩:=o
 have plain:(∃ x H',aop P ⟨dst,op,type,pos,after,guard⟩ (aev env) H=some (x,H')/\post x H')->Oper.wp P ⟨dst,op,type,pos,after,guard⟩ a w K Q:=by
  rintro ⟨x,H',h1,hp⟩
  obtain ⟨v,w',ρ',I',hran,h2,h3,h4⟩:=qg9 hr (cv:=a.eval) hv h1
  have:=hk x H' v w' ρ' I' (.inr trivial) hp h2 h3 h4
  unfold Oper.wp
  rcases hran with h5 | ⟨h5,rfl⟩
  ·rw[h5]; exact this
  ·rw[h5]; exact this
 unfold StepP at h
 split at h
 ·rename_i f args argTypes hop
  simp only at hop
  subst hop
  obtain ⟨k,first,captured,hf,hen,hcall⟩:=h
  have hfv:=hv f
  rw[hf] at hfv
  generalize hfe:a.eval f=fv at hfv
  cases hfv with
  | fn h1 h2 h3 h4 =>
   rename_i fs cs
   have hargs:=VRs_map hv args
   have hall:VRs ρ I w.heap (first++args.toList.map (aev env)++captured) (fs++args.map a.eval++cs) :=
    VRs.append (VRs.append ⟨h1,h3⟩ hargs) ⟨h2,h4⟩
   have hc:=hcall ρ I w _ hr hall
   have hrun:(execOp a.eval ⟨dst,.call ⟨.value f,args,argTypes⟩,type,pos,after,guard⟩).run P w = .ok (.enter k (fs++args.map a.eval++cs)) w:=by
    simp only[execOp,resolve,hfe,Deferred.ofValue,Sem.run_bind,Sem.run_pure,Result.andThen_ok,invoke]
    exact hen _ w
   unfold Oper.wp
   rw[hrun]
   show Calls P k _ w _
   refine hc.mono ?_
   rintro e w' ⟨r,H',v,ρ',I',h0,hn,rfl,h5,h6,h7⟩
   exact hk r H' v w' ρ' I' (.inl hn) h0 h5 h6 h7
 ·exact plain h
theorem WPOp_cases {o:Oper} {K:Env->Heap->Prop} {env:Env} {H:Heap} (h:WPOp P ops o K env H) :
  ((awanted ops o env=some false/\K (env.upd o.dst .undef) H)\/(awanted ops o env=some true/\StepP P o env H fun x H'=>K (env.upd o.dst x) H')):=by
 unfold WPOp at h
 cases ha:awanted ops o env with
 | none=>rw[ha] at h; exact h.elim
 | some b =>
  cases b with
  | false=>rw[ha] at h; exact .inl ⟨rfl,h⟩
  | true =>
   rw[ha] at h
   refine .inr ⟨rfl,?_⟩
   obtain ⟨dst,op,type,pos,after,guard⟩:=o
   unfold StepP
   simp only[] at h |-
   split at h
   ·rename_i f args argTypes
    split at h
    ·rename_i k first captured hf
     obtain ⟨post,h1,h2⟩:=h
     exact ⟨k,first,captured,hf,h1.mono fun r H' hn hp=>h2 r H' hn hp⟩
    ·exact h.elim
   ·rename_i hno
    split at h
    ·rename_i x H' hx
     exact ⟨x,H',hx,h⟩
    ·exact h.elim
theorem WPOps_sound (hsz:dstsOk sz ops) {Q:Exit->Env->Heap->Prop} {Q' : Exit->Act->World->Prop} : ∀ (l:List Oper),(∀ o∈l,∀ d,o.dst=some d->d<sz) -> ∀ (env:Env) (H:Heap),WPOps P ops Q l env H ->
  ∀ ρ I w a,Rel ρ I H w.heap->ERel sz ρ I w.heap env a->(∀ e a' w',SPost sz ρ I w Q e a' w' -> Q' e a' w')->wpList P ops Q' l a w
 | [],_,env,H,h,ρ,I,w,a,hr,he,hq=>hq _ _ _ ⟨env,H,ρ,I,h,hr,he,Ext.refl _ _ _⟩
 | o::rest,hds,env,H,h,ρ,I,w,a,hr,he,hq=>by
  have h1:=WPOp_cases h
  have hd:=hds o (by simp)
  have hds' : ∀ q∈rest,∀ d,q.dst=some d->d<sz:=fun q hq=>hds q (List.mem_cons_of_mem _ hq)
  unfold wpList
  rcases h1 with ⟨ha,hk⟩ | ⟨ha,hst⟩
  ·rw[if_neg (by rw[zi ha he hsz]; simp)]
   exact WPOps_sound hsz rest hds' _ _ hk ρ I w _ hr (he.put hd (.sc _)) hq
  ·rw[if_pos (zi ha he hsz)]
   refine .inl (StepP_run hst hr he.eval ?_)
   intro x H' v w' ρ' I' _ hk h2 h3 h4
   exact WPOps_sound hsz rest hds' _ _ hk ρ' I' w' _ h3 ((he.mono h4).put hd h2) (fun e a' w2 hp=>hq e a' w2 (hp.ext h4 (fun _ _ _ h=>h)))
theorem qp {id:Nat} {Q:Exit->Env->Heap->Prop} {env:Env} {H:Heap} (hd:dstsB sz ops=true) (h:WPOps P ops Q ops.toList env H):SCode P sz (.region id ops false) Q env H:=by
 intro ρ I w a Q' hr he hQ
 refine wp_region_list (WPOps_sound (yK hd) ops.toList (fun o ho d hod=>?_) env H h ρ I w a hr he hQ)
 have:=List.all_eq_true.1 hd o ho
 rw[hod] at this
 simpa using this
theorem WPOp.mono {o:Oper} {env:Env} {H:Heap} {K K' : Env->Heap->Prop} (hk : ∀ x H,K x H->K' x H) (h:WPOp P ops o K env H):WPOp P ops o K' env H:=by
 obtain ⟨dst,op,type,pos,after,guard⟩:=o
 unfold WPOp at h |-
 cases ha:awanted ops ⟨dst,op,type,pos,after,guard⟩ env with
 | none=>simp only[ha] at h
 | some b =>
  cases b with
  | false=>simp only[ha] at h |-; exact hk _ _ h
  | true =>
   simp only[ha] at h |-
   have plain:(match aop P ⟨dst,op,type,pos,after,guard⟩ (aev env) H with
    | some (x,H')=>K (env.upd dst x) H'
    | none=>False)->(match aop P ⟨dst,op,type,pos,after,guard⟩ (aev env) H with
    | some (x,H')=>K' (env.upd dst x) H'
    | none=>False):=by
    intro h
    cases hx:aop P ⟨dst,op,type,pos,after,guard⟩ (aev env) H with
    | none=>simp only[hx] at h
    | some y=>simp only[hx] at h |-; exact hk _ _ h
   cases op
   case call c =>
    obtain ⟨callee,args,argTypes⟩:=c
    cases callee
    case value f =>
     simp only[] at h |-
     cases hf:aev env f
     case fn fn first captured =>
      cases fn
      case func k =>
       simp only[hf] at h |-
       obtain ⟨post,h1,h2⟩:=h
       exact ⟨post,h1,fun r H' hn hp=>hk _ _ (h2 r H' hn hp)⟩
      all_goals (simp only[hf] at h)
     all_goals (simp only[hf] at h)
    all_goals exact plain h
   all_goals exact plain h
theorem WPOps.append {Q:Exit->Env->Heap->Prop} {l2:List Oper} : ∀ {l1:List Oper} {env:Env} {H:Heap},WPOps P ops (thenA (WPOps P ops Q l2) Q) l1 env H->WPOps P ops Q (l1++l2) env H
 | [],_,_,h=>h
 | _::_,_,_,h=>WPOp.mono (fun _ _ h=>WPOps.append h) h
theorem qH (n:Nat) {Q:Exit->Env->Heap->Prop} {l:List Oper} {env:Env} {H:Heap} (h : ∀ K:Env->Heap->Prop,(∀ env H,WPOps P ops Q (l.drop n) env H->K env H)->WPOps P ops (thenA K Q) (l.take n) env H):WPOps P ops Q l env H:=by
 have:=WPOps.append (h _ fun _ _ h=>h)
 rwa [List.take_append_drop] at this
end
attribute [go_sem] WPOps WPOp
def KeepH (H H' : Heap) (out:Nat->Prop):Prop := ∀ b c,H.get b=some c -> ¬ out b->H'.get b=some c
theorem KeepH.refl (H:Heap) (out:Nat->Prop):KeepH H H out:=fun _ _ h _=>h
theorem KeepH.trans {H H1 H2:Heap} {out:Nat->Prop} (h:KeepH H H1 out) (k:KeepH H1 H2 out):KeepH H H2 out:=fun b c hb hn=>k b c (h b c hb hn) hn
theorem KeepH.mono {H H' : Heap} {out out' : Nat->Prop} (h:KeepH H H' out) (ho : ∀ b,out b->out' b):KeepH H H' out':=fun b c hb hn=>h b c hb fun x=>hn (ho b x)
theorem KeepH.alloc {H H' : Heap} {out:Nat->Prop} (h:KeepH H H' out) (v:List AV):KeepH H (H'.alloc v) out:=fun b c hb hn=>by
 have h1:=h b c hb hn
 rw[Heap.get_alloc,if_neg (by have:=Heap.lt_of_get h1; omega)]
 exact h1
theorem KeepH.set {H H' : Heap} {out:Nat->Prop} (h:KeepH H H' out) {x:Nat} (v:List AV) (hx:out x\/H.next<=x):KeepH H (H'.set x v) out:=fun b c hb hn=>by
 have h1:=h b c hb hn
 have hne:b≠x:=by
  rintro rfl
  rcases hx with hx | hx
  ·exact hn hx
  ·have:=Heap.lt_of_get hb; omega
 rw[Heap.get_set,if_neg hne]
 exact h1
theorem KeepH.delo {H H' : Heap} {out:Nat->Prop} (h:KeepH H H' out) {bo:Option Nat} (hx : ∀ x,bo=some x->out x\/H.next<=x):KeepH H (H'.delo bo) out:=fun b c hb hn=>by
 have h1:=h b c hb hn
 cases bo with
 | none=>exact h1
 | some x =>
  have hne:b≠x:=by
   rintro rfl
   rcases hx b rfl with hx | hx
   ·exact hn hx
   ·have:=Heap.lt_of_get hb; omega
  show (H'.del x).get b=_
  rw[Heap.get_del,if_neg hne]
  exact h1
theorem KeepH.regrow {H H' : Heap} {out:Nat->Prop} (h:KeepH H H' out) {bo:Option Nat} (v:List AV) (hx : ∀ x,bo=some x->out x\/H.next<=x):KeepH H (H'.regrow bo v) out:=by
 unfold Heap.regrow
 exact (h.delo hx).alloc v
theorem ret_all {P:Program} {fn:Func} {H:Heap} {env:Env} {H1:Heap} {r:AV} {post:AV->Heap->Prop} (h1:aresults P fn env H1=some r) (hp:post r H1) (hn:H.next<=H1.next) (hr:r.Lt H1.next) (hc : ∀ b cs,H1.get b=some cs->H.get b=some cs \/ ∀ x∈cs,x.Lt H1.next):RetP P fn H env H1 post :=
 ⟨r,H1,hp,⟨r,h1,.same r⟩,fun _ _ h=>h,hn,Nat.le_refl _,hr,hc⟩
end Go.Fl
end Fl51S
