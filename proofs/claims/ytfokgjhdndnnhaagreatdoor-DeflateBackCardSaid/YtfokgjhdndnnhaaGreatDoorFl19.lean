/- Every order that the edges allow comes to what the text's order comes to. -/
import Derived.Test.YtfokgjhdndnnhaaGreatDoorFl15
set_option linter.unusedVariables false
set_option linter.unusedSimpArgs false
noncomputable section Fl16S
namespace Go.Fl
open Go
theorem StepTo_aop {P:Program} {o:Oper} {env:Env} {H H' : Heap} {x:AV} (hc:isC o=false) (h:StepTo P o env H x H'):aop P o (aev env) H=some (x,H'):=by
 obtain ⟨dst,op,type,pos,after,guard⟩:=o
 unfold StepTo at h
 split at h
 ·rename_i f args argTypes hop
  simp only at hop
  subst hop
  simp[isC,isP,isL] at hc
 ·exact h
theorem qaf {P:Program} {o:Oper} {env:Env} {H H' : Heap} {x:AV} (hc:isC o=false) (h:aop P o (aev env) H=some (x,H')):StepTo P o env H x H':=by
 obtain ⟨dst,op,type,pos,after,guard⟩:=o
 unfold StepTo
 split
 ·rename_i f args argTypes hop
  simp only at hop
  subst hop
  simp[isC,isP,isL] at hc
 ·exact h
theorem qdy {ops:Array Oper} {o:Oper} {t:Tmp} (h:Operand.tmp t∈o.op.operands):t∈o.looksAt ops:=by
 unfold Oper.looksAt
 refine List.mem_append.2 (.inl ?_)
 exact List.mem_filterMap.2 ⟨.tmp t,by simpa using h,rfl⟩
theorem qni {ops:Array Oper} {o:Oper} {env env' : Env} (h : ∀ t∈o.looksAt ops,env t=env' t) : ∀ y∈o.op.operands,aev env y=aev env' y:=by
 intro y hy
 cases y with
 | tmp t=>exact h t (qdy hy)
 | const v=>rfl
 | global g=>rfl
 | func f=>rfl
theorem StepTo_congr {P:Program} {ops:Array Oper} {o:Oper} {env env' : Env} {H H' : Heap} {x:AV} (h : ∀ t∈o.looksAt ops,env t=env' t) (hs:StepTo P o env H x H'):StepTo P o env' H x H':=by
 have hc:=qni h
 obtain ⟨dst,op,type,pos,after,guard⟩:=o
 unfold StepTo at *
 cases op
 case call c =>
  obtain ⟨callee,args,argTypes⟩:=c
  cases callee
  case value f =>
   simp only at hs |-
   obtain ⟨k,first,captured,h1,h2⟩:=hs
   have hf:aev env f=aev env' f:=hc f (by simp[Op.operands,Call.operands])
   have ha:args.toList.map (aev env)=args.toList.map (aev env'):=List.map_congr_left fun y hy=>hc y (by simp[Op.operands,Call.operands]; right; simpa using hy)
   exact ⟨k,first,captured,by rw[<- hf]; exact h1,by rw[<- ha]; exact h2⟩
  all_goals (simp only at hs |-; rw[<- qhb hc]; exact hs)
 all_goals (simp only at hs |-; rw[<- qhb hc]; exact hs)
theorem qbk {ops:Array Oper} {o:Oper} {env env' : Env} (h : ∀ t∈o.looksAt ops,env t=env' t):awanted ops o env=awanted ops o env':=by
 unfold awanted
 cases hg:o.guard with
 | none=>rfl
 | some q =>
  obtain ⟨j,want⟩:=q
  simp only
  cases hd:(ops[j]?).bind (·.dst) with
  | none=>rfl
  | some d =>
   have:d∈o.looksAt ops:=by
    unfold Oper.looksAt
    refine List.mem_append.2 (.inr ?_)
    simp[hg,hd]
   simp only[h d this]
section
variable {P:Program} {sz:Nat} {ops:Array Oper} {env0:Env} {val:Nat->AV} {hp:Nat->Heap}
def ChainAt (ops:Array Oper) (env0:Env) (val:Nat->AV) (i:Nat):Prop := ∃ o,ops[i]? = some o/\isC o=true/\awanted ops o (envAt ops env0 val i)=some true
theorem Trace.const (T:Trace P ops env0 val hp) {i:Nat} : ∀ (d:Nat),i+d<=ops.size->(∀ k,i<=k->k<i+d -> ¬ ChainAt ops env0 val k)->hp (i+d)=hp i
 | 0,_,_=>rfl
 | d+1,hle,hno=>by
  have ih:=T.const d oz (fun k h1 h2=>hno k h1 oz)
  have hlt:i+d<ops.size:=oz
  have ho:=Array.getElem?_eq_getElem hlt
  rcases T.step (i+d) _ ho with ⟨_,_,h3⟩ | ⟨h1,h2⟩
  ·rw[show i+(d+1)=i+d+1 by omega,h3,ih]
  ·have hnc:isC ops[i+d]=false:=by
    cases hc:isC ops[i+d] with
    | false=>rfl
    | true=>exact absurd ⟨_,ho,hc,h1⟩ (hno (i+d) oz oz)
   have h3:=StepTo_aop hnc h2
   have h4:hp (i+d+1)=hp (i+d):=by
    cases hP:isP ops[i+d] with
    | true=>exact (qbi hP h3).1
    | false =>
     cases hL:isL ops[i+d] with
     | true=>exact qbj hL h3
     | false=>simp[isC,hP,hL] at hnc
   rw[show i+(d+1)=i+d+1 by omega,h4,ih]
theorem Trace.const' (T:Trace P ops env0 val hp) {i j:Nat} (hij:i<=j) (hj:j<=ops.size) (hno : ∀ k,i<=k->k<j -> ¬ ChainAt ops env0 val k):hp j=hp i:=by
 have:=T.const (i:=i) (j-i) oz (fun k h1 h2=>hno k h1 oz)
 rwa [show i+(j-i)=j by omega] at this
structure Inv (P:Program) (sz:Nat) (ops:Array Oper) (env0:Env) (val:Nat->AV) (hp:Nat->Heap) (ρ0:Rho) (I0:Nat->Prop) (w0:World) (D:Nat->Prop) (ρ : Rho) (I:Nat->Prop) (c:Nat) (a:Act) (w:World):Prop where
 rel:Rel ρ I (hp c) w.heap
 ext:Ext ρ0 I0 w0 ρ I w
 size:a.tmps.size=sz
 defers:a.defers = []
 le:c<=ops.size
 done : ∀ i,ChainAt ops env0 val i->i<c->D i
 todo : ∀ i,ChainAt ops env0 val i->D i->i<c
 slots : ∀ t,(∃ i,D i/\dstAt ops i=some t/\VR ρ I w.heap (val i) (a.tmps.getD t Go.undef))\/((∀ i,D i->dstAt ops i≠some t)/\VR ρ I w.heap (env0 t) (a.tmps.getD t Go.undef))
def Closed (ops:Array Oper) (D:Nat->Prop):Prop := ∀ i o,D i->ops[i]? = some o -> ∀ e∈o.after,Region.binds .any e=true->D e.on
theorem Closed.bef {D:Nat->Prop} (hD:Closed ops D) : ∀ (j i:Nat) (o:Oper),ops[j]? = some o->(∀ e∈o.after,Region.binds .any e=true->D e.on)->bef ops i j=true->D i:=by
 intro j
 induction j using Nat.strongRecOn with
 | _ j ih =>
  intro i o ho hr hb
  obtain ⟨e,h1,h2,h3⟩:=bef_spec ho hb
  rcases h3 with h3 | ⟨h3,h4⟩
  ·rw[<- h3]; exact hr e h1 h2
  ·have hde:=hr e h1 h2
   cases hq:ops[e.on]? with
   | none =>
    unfold Fl.bef at h4
    have hsz:(Region.before ops).size=ops.size:=by rw[qhc,qhd]; simp
    have:ops.size<=e.on:=by rw[Array.getElem?_eq_none_iff] at hq; exact hq
    rw[Array.getD_eq_getD_getElem?,Array.getElem?_eq_none oz] at h4
    simp at h4
   | some q=>exact ih e.on h3 i q hq (fun e' h5 h6=>hD e.on q hde hq e' h5 h6) h4
theorem Inv.named (K:DOk sz ops) {ρ0:Rho} {I0:Nat->Prop} {w0:World} {D:Nat->Prop} {ρ : Rho} {I:Nat->Prop} {c:Nat} {a:Act} {w:World} (hD:Closed ops D)
  (V:Inv P sz ops env0 val hp ρ0 I0 w0 D ρ I c a w) {i:Nat} {o:Oper} (ho:ops[i]? = some o) (hi : ¬ D i) (hr : ∀ e∈o.after,Region.binds .any e=true->D e.on) {t:Tmp} (ht:t∈o.looksAt ops) :
  VR ρ I w.heap (envAt ops env0 val i t) (a.tmps.getD t Go.undef):=by
 have uniq : ∀ k m,dstAt ops k=some t->dstAt ops m=some t->k=m:=by
  intro k m hk hm
  obtain ⟨p,hp1,hp2⟩:=zg hk
  obtain ⟨q,hq1,hq2⟩:=zg hm
  rcases Nat.lt_trichotomy k m with h | h | h
  ·exact absurd hq2 (K.apart k m p q h hp1 hq1 t hp2)
  ·exact h
  ·exact absurd hp2 (K.apart m k q p h hq1 hp1 t hq2)
 rcases V.slots t with ⟨k,hk1,hk2,hk3⟩ | ⟨hno,hv⟩
 ·skip
  obtain ⟨p,hp1,hp2⟩:=zg hk2
  have hne:k≠i:=fun e=>hi (e ▸ hk1)
  rcases Nat.lt_or_ge k i with h | h
  ·rw[yl hk2 i h (fun m h1 _ hm=>by have:=uniq k m hk2 hm; omega)]
   exact hk3
  ·have hlt:i<k:=oz
   have hb:=K.up i k o p hlt ho hp1 t hp2 ht
   have hDi:D i:=hD.bef k i p hp1 (fun e h1 h2=>hD k p hk1 hp1 e h1 h2) hb
   exact absurd hDi hi
 ·skip
  have : ∀ k,k<i->dstAt ops k≠some t:=by
   intro k hk hd
   obtain ⟨p,hp1,hp2⟩:=zg hd
   have hb:=K.down k i p o hk hp1 ho t hp2 ht
   exact hno k (hD.bef i k o ho hr hb) hd
  rw[yj i this]
  exact hv
end
end Go.Fl
end Fl16S
noncomputable section Fl17S
namespace Go.Fl
open Go
section
variable {P:Program} {sz:Nat} {ops:Array Oper} {env0:Env} {val:Nat->AV} {hp:Nat->Heap}
theorem Inv.slots_put (K:DOk sz ops) {ρ0:Rho} {I0:Nat->Prop} {w0:World} {D:Nat->Prop} {ρ ρ' : Rho} {I I' : Nat->Prop} {c:Nat} {a:Act} {w w' : World}
  (V:Inv P sz ops env0 val hp ρ0 I0 w0 D ρ I c a w) {i:Nat} {o:Oper} (ho:ops[i]? = some o) {v:Value} (hv:VR ρ' I' w'.heap (val i) v) (hx:Ext ρ I w ρ' I' w') :
  (a.put o.dst v).tmps.size=sz/\(a.put o.dst v).defers = [] /\
  ∀ t,(∃ k,(D k\/k=i)/\dstAt ops k=some t/\VR ρ' I' w'.heap (val k) ((a.put o.dst v).tmps.getD t Go.undef)) \/
   ((∀ k,(D k\/k=i)->dstAt ops k≠some t)/\VR ρ' I' w'.heap (env0 t) ((a.put o.dst v).tmps.getD t Go.undef)):=by
 have hdst:dstAt ops i=o.dst:=by simp[dstAt,ho]
 cases hd:o.dst with
 | none =>
  refine ⟨V.size,V.defers,fun t=>?_⟩
  simp only[Act.put]
  rcases V.slots t with ⟨k,h1,h2,h3⟩ | ⟨h1,h2⟩
  ·exact .inl ⟨k,.inl h1,h2,h3.mono hx⟩
  ·refine .inr ⟨?_,h2.mono hx⟩
   rintro k (h3 | h3)
   ·exact h1 k h3
   ·subst h3; rw[hdst,hd]; simp
 | some d =>
  have hlt:d<a.tmps.size:=by rw[V.size]; exact K.dsts i o d ho hd
  refine ⟨by simp[Act.put,V.size],V.defers,fun t=>?_⟩
  simp only[Act.put]
  by_cases e:d=t
  ·subst e
   refine .inl ⟨i,.inr rfl,by rw[hdst,hd],?_⟩
   have e1:(a.tmps.setIfInBounds d v).getD d Go.undef=v:=by simp[hlt]
   rw[e1]; exact hv
  ·have e1:(a.tmps.setIfInBounds d v).getD t Go.undef=a.tmps.getD t Go.undef:=by
    simp only[Array.getD_eq_getD_getElem?]
    rw[Array.getElem?_setIfInBounds_ne e]
   rw[e1]
   rcases V.slots t with ⟨k,h1,h2,h3⟩ | ⟨h1,h2⟩
   ·exact .inl ⟨k,.inl h1,h2,h3.mono hx⟩
   ·refine .inr ⟨?_,h2.mono hx⟩
    rintro k (h3 | h3)
    ·exact h1 k h3
    ·subst h3; rw[hdst,hd]; simpa using e
theorem Inv.step (K:DOk sz ops) (T:Trace P ops env0 val hp) {ρ0:Rho} {I0:Nat->Prop} {w0:World} {D:Nat->Prop} {ρ : Rho} {I:Nat->Prop} {c:Nat} {a:Act} {w:World} (hD:Closed ops D)
  (V:Inv P sz ops env0 val hp ρ0 I0 w0 D ρ I c a w) {i:Nat} {o:Oper} (ho:ops[i]? = some o) (hi : ¬ D i) (hr : ∀ e∈o.after,Region.binds .any e=true->D e.on) {Kt:Act->World->Prop} {Q:Exit->Act->World->Prop}
  (hK : ∀ ρ' I' c' a' w',Inv P sz ops env0 val hp ρ0 I0 w0 (fun k=>D k\/k=i) ρ' I' c' a' w' -> Kt a' w'):wpOp P ops Q i Kt a w:=by
 have hilt:=(Array.getElem?_eq_some_iff.1 ho).1
 have hnamed:=fun t ht=>V.named K hD ho hi hr (t:=t) ht
 let env' : Env:=fun t=>if t∈o.looksAt ops then envAt ops env0 val i t else .top
 have hcongr : ∀ t∈o.looksAt ops,envAt ops env0 val i t=env' t:=fun t ht=>by simp only[env',if_pos ht]
 have he:ERel sz ρ I w.heap env' a:=⟨V.size,V.defers,fun t=>by
  simp only[env']
  split
  ·exact hnamed t (by assumption)
  ·exact .top _,V.rel.glob⟩
 have hw:=qbk (o:=o) hcongr
 have hbefD : ∀ k,bef ops k i=true->D k:=fun k hb=>hD.bef i k o ho hr hb
 unfold wpOp
 rw[ho]
 simp only
 rcases T.step i o ho with ⟨h1,h2,h3⟩ | ⟨h1,h2⟩
 ·rw[hw] at h1
  rw[if_neg (by rw[zi h1 he K.dsts]; simp)]
  obtain ⟨s1,s2,s3⟩:=V.slots_put K ho (v:=Go.undef) (ρ' := ρ) (I':=I) (w':=w) (by rw[h2]; exact .sc _) (Ext.refl _ _ _)
  refine hK ρ I c _ w ⟨V.rel,V.ext,s1,s2,V.le,fun k h4 h5=>.inl (V.done k h4 h5),?_,s3⟩
  rintro k h4 (h5 | h5)
  ·exact V.todo k h4 h5
  ·subst h5
   obtain ⟨o',h6,_,h7⟩:=h4
   rw[ho] at h6; cases h6
   rw[<- hw] at h1
   rw[h1] at h7; cases h7
 ·have h1':=h1
  rw[hw] at h1
  rw[if_pos (zi h1 he K.dsts)]
  refine .inl ?_
  cases hc:isC o with
  | true =>
   have hch:ChainAt ops env0 val i:=⟨o,ho,hc,h1'⟩
   have hci:c<=i:=by
    rcases Nat.lt_or_ge i c with h | h
    ·exact absurd (V.done i hch h) hi
    ·exact h
   have hno : ∀ k,c<=k->k<i -> ¬ ChainAt ops env0 val k:=by
    rintro k h4 h5 hk
    obtain ⟨p,hp1,hp2,hp3⟩:=hk
    have hb:=K.chain k i p o h5 hp1 ho hp2 hc
    have:=V.todo k ⟨p,hp1,hp2,hp3⟩ (hbefD k hb)
    omega
   have heq:hp i=hp c:=T.const' hci oz hno
   have hst:=StepTo_congr hcongr h2
   rw[heq] at hst
   refine StepTo_run hst V.rel he.eval ?_
   intro v w' ρ' I' h4 h5 h6
   obtain ⟨s1,s2,s3⟩:=V.slots_put K ho h4 h6
   refine hK ρ' I' (i+1) _ w' ⟨h5,V.ext.trans h6,s1,s2,oz,?_,?_,s3⟩
   ·intro k h7 h8
    by_cases e:k=i
    ·exact .inr e
    ·rcases Nat.lt_or_ge k c with h9 | h9
     ·exact .inl (V.done k h7 h9)
     ·exact absurd h7 (hno k h9 oz)
   ·rintro k h7 (h8 | h8)
    ·have:=V.todo k h7 h8; omega
    ·omega
  | false =>
   have haop:=StepTo_aop hc h2
   have hat:aop P o (aev (envAt ops env0 val i)) (hp c)=some (val i,hp c):=by
    cases hP:isP o with
    | true=>exact (qbi hP haop).2 _
    | false =>
     have hL:isL o=true:=by
      cases hL:isL o with
      | true=>rfl
      | false=>simp[isC,hP,hL] at hc
     have hsame:=qbj hL haop
     rw[hsame] at haop
     have hnoti : ¬ ChainAt ops env0 val i:=by
      rintro ⟨o',h6,h7,_⟩
      rw[ho] at h6; cases h6
      rw[hc] at h7; cases h7
     rcases Nat.lt_or_ge i c with hic | hic
     ·skip
      by_cases hex : ∃ k,i<=k/\k<c/\ChainAt ops env0 val k
      ·skip
       have hgr : ∃ k,i<=k/\k<c/\ChainAt ops env0 val k /\ ∀ m,k<m->m<c -> ¬ ChainAt ops env0 val m:=by
        obtain ⟨k,h4,h5,h6⟩:=hex
        have : ∀ (d k:Nat),c-k<=d->i<=k->k<c->ChainAt ops env0 val k -> ∃ k,i<=k/\k<c/\ChainAt ops env0 val k /\ ∀ m,k<m->m<c -> ¬ ChainAt ops env0 val m:=by
         intro d
         induction d with
         | zero=>intro k h7 h8 h9; omega
         | succ d ih =>
          intro k h7 h8 h9 h10
          by_cases h11 : ∃ m,k<m/\m<c/\ChainAt ops env0 val m
          ·obtain ⟨m,h12,h13,h14⟩:=h11
           exact ih m oz oz h13 h14
          ·exact ⟨k,h8,h9,h10,fun m h12 h13 h14=>h11 ⟨m,h12,h13,h14⟩⟩
        exact this _ k (Nat.le_refl _) h4 h5 h6
       obtain ⟨k,h4,h5,h6,h7⟩:=hgr
       have hki:i≠k:=fun e=>hnoti (e ▸ h6)
       obtain ⟨p,hp1,hp2,hp3⟩:=h6
       have hDk:=V.done k ⟨p,hp1,hp2,hp3⟩ h5
       have hnb:bef ops i k=false:=by
        cases hb:bef ops i k with
        | false=>rfl
        | true=>exact absurd (hD.bef k i p hp1 (fun e h8 h9=>hD k p hDk hp1 e h8 h9) hb) hi
       have:=T.late i k o p ho hp1 hL hp2 h1' hp3 oz hnb
       have heq:hp c=hp (k+1):=T.const' oz V.le (fun m h8 h9=>h7 m oz h9)
       rw[heq]; exact this
      ·have heq:hp c=hp i:=T.const' oz V.le (fun k h4 h5 h6=>hex ⟨k,h4,h5,h6⟩)
       rw[heq]; exact haop
     ·by_cases hex : ∃ k,c<=k/\k<i/\ChainAt ops env0 val k
      ·have hls : ∃ k,c<=k/\k<i/\ChainAt ops env0 val k /\ ∀ m,c<=m->m<k -> ¬ ChainAt ops env0 val m:=by
        obtain ⟨k,h4,h5,h6⟩:=hex
        have : ∀ (k:Nat),c<=k->k<i->ChainAt ops env0 val k -> ∃ k,c<=k/\k<i/\ChainAt ops env0 val k /\ ∀ m,c<=m->m<k -> ¬ ChainAt ops env0 val m:=by
         intro k
         induction k using Nat.strongRecOn with
         | _ k ih =>
          intro h8 h9 h10
          by_cases h11 : ∃ m,c<=m/\m<k/\ChainAt ops env0 val m
          ·obtain ⟨m,h12,h13,h14⟩:=h11
           exact ih m h13 h12 oz h14
          ·exact ⟨k,h8,h9,h10,fun m h12 h13 h14=>h11 ⟨m,h12,h13,h14⟩⟩
        exact this k h4 h5 h6
       obtain ⟨k,h4,h5,h6,h7⟩:=hls
       obtain ⟨p,hp1,hp2,hp3⟩:=h6
       have hnb:bef ops k i=false:=by
        cases hb:bef ops k i with
        | false=>rfl
        | true =>
         have:=V.todo k ⟨p,hp1,hp2,hp3⟩ (hbefD k hb)
         omega
       have:=T.early i k o p ho hp1 hL hp2 h1' hp3 h5 hnb
       have heq:hp k=hp c:=T.const' h4 oz h7
       rw[heq] at this
       exact this
      ·have heq:hp i=hp c:=T.const' hic oz (fun k h4 h5 h6=>hex ⟨k,h4,h5,h6⟩)
       rw[<- heq]; exact haop
   have hst:=StepTo_congr hcongr (qaf hc hat)
   refine StepTo_run hst V.rel he.eval ?_
   intro v w' ρ' I' h4 h5 h6
   obtain ⟨s1,s2,s3⟩:=V.slots_put K ho h4 h6
   refine hK ρ' I' c _ w' ⟨h5,V.ext.trans h6,s1,s2,V.le,fun k h7 h8=>.inl (V.done k h7 h8),?_,s3⟩
   rintro k h7 (h8 | h8)
   ·exact V.todo k h7 h8
   ·subst h8
    obtain ⟨o',h9,h10,_⟩:=h7
    rw[ho] at h9; cases h9
    rw[hc] at h10; cases h10
end
end Go.Fl
end Fl17S
noncomputable section Fl18S
namespace Go.Fl
open Go
theorem qbl : ∀ (l:List Bool) (i:Nat),l[i]? = some false->(l.set i true).count false+1=l.count false
 | [],i,h=>by simp at h
 | b::l,0,h=>by
  simp at h; subst h; simp
 | b::l,i+1,h=>by
  simp only[List.getElem?_cons_succ] at h
  have:=qbl l i h
  simp only[List.set_cons_succ,List.count_cons]
  omega
section
variable {P:Program} {sz:Nat} {ops:Array Oper} {env0:Env} {val:Nat->AV} {hp:Nat->Heap}
theorem Inv.run (K:DOk sz ops) (T:Trace P ops env0 val hp) {ρ0:Rho} {I0:Nat->Prop} {w0:World} {Q:Exit->Act->World->Prop}
  (hQ : ∀ ρ I a w,Rel ρ I (hp ops.size) w.heap->ERel sz ρ I w.heap (envAt ops env0 val ops.size) a->Ext ρ0 I0 w0 ρ I w->Q .normal a w) :
  ∀ (fuel:Nat) (listed:Array Bool) (ρ : Rho) (I:Nat->Prop) (c:Nat) (a:Act) (w:World),listed.size=ops.size->listed.toList.count false=fuel->Closed ops (fun k=>listed.getD k false=true) ->
   Inv P sz ops env0 val hp ρ0 I0 w0 (fun k=>listed.getD k false=true) ρ I c a w->wpAny P .any ops Q fuel listed a w:=by
 have memready : ∀ (listed:Array Bool) (i:Nat),listed.size=ops.size->(i∈Region.ready .any ops listed ↔ ∃ o,ops[i]? = some o/\listed.getD i false=false /\ ∀ e∈o.after,Region.binds .any e=true->listed.getD e.on false=true):=by
  intro listed i hs
  unfold Region.ready
  simp only[List.mem_filter,List.mem_range,Bool.and_eq_true]
  constructor
  ·rintro ⟨h1,h2,h3⟩
   have ho:=Array.getElem?_eq_getElem h1
   refine ⟨_,ho,?_,?_⟩
   ·have hlt:i<listed.size:=oz
    simp[Array.getD_eq_getD_getElem?,hlt] at h2 |-
    exact h2
   ·rw[ho] at h3
    simp only[Option.map_some,Option.getD_some,Array.all_eq_true'] at h3
    intro e he hb
    have:=h3 e he
    simpa [hb] using this
  ·rintro ⟨o,h1,h2,h3⟩
   have hlt:=(Array.getElem?_eq_some_iff.1 h1).1
   refine ⟨hlt,?_,?_⟩
   ·have hlt' : i<listed.size:=oz
    simp[Array.getD_eq_getD_getElem?,hlt'] at h2 |-
    exact h2
   ·rw[h1]
    simp only[Option.map_some,Option.getD_some,Array.all_eq_true']
    intro e he
    cases hb:Region.binds .any e with
    | false=>rfl
    | true=>simp[h3 e he hb]
 have done : ∀ (listed:Array Bool),listed.size=ops.size->Region.ready .any ops listed = [] -> ∀ i,i<ops.size->listed.getD i false=true:=by
  intro listed hs hre i
  induction i using Nat.strongRecOn with
  | _ i ih =>
   intro hi
   cases hl:listed.getD i false with
   | true=>rfl
   | false =>
    have ho:=Array.getElem?_eq_getElem hi
    have:i∈Region.ready .any ops listed:=(memready listed i hs).2 ⟨_,ho,hl,fun e he hb=>ih e.on (K.acyc i _ ho e he hb) (by have:=K.acyc i _ ho e he hb; omega)⟩
    rw[hre] at this
    cases this
 have fin : ∀ (listed:Array Bool) (ρ : Rho) (I:Nat->Prop) (c:Nat) (a:Act) (w:World),listed.size=ops.size->Region.ready .any ops listed = [] ->
   Inv P sz ops env0 val hp ρ0 I0 w0 (fun k=>listed.getD k false=true) ρ I c a w->Q .normal a w:=by
  intro listed ρ I c a w hs hre V
  have hall:=done listed hs hre
  have heq:hp ops.size=hp c:=T.const' V.le (Nat.le_refl _) (fun k h1 h2 hk=>by
   have:=V.todo k hk (hall k h2); omega)
  refine hQ ρ I a w (by rw[heq]; exact V.rel) ⟨V.size,V.defers,fun t=>?_,V.rel.glob⟩ V.ext
  rcases V.slots t with ⟨k,h1,h2,h3⟩ | ⟨h1,h2⟩
  ·obtain ⟨p,hp1,hp2⟩:=zg h2
   have hk:=(Array.getElem?_eq_some_iff.1 hp1).1
   rw[yl h2 ops.size hk (fun m h4 h5 hm=>by
    obtain ⟨q,hq1,hq2⟩:=zg hm
    exact K.apart k m p q h4 hp1 hq1 t hp2 hq2)]
   exact h3
  ·rw[yj ops.size (fun k hk=>h1 k (hall k hk))]
   exact h2
 intro fuel
 induction fuel with
 | zero =>
  intro listed ρ I c a w hs hc hD V
  have hre:Region.ready .any ops listed = []:=by
   cases hr:Region.ready .any ops listed with
   | nil=>rfl
   | cons i l =>
    obtain ⟨o,h1,h2,_⟩:=(memready listed i hs).1 (by rw[hr]; simp)
    have hlt:=(Array.getElem?_eq_some_iff.1 h1).1
    have hmem:false∈listed.toList:=by
     have hlt' : i<listed.size:=oz
     have:listed.toList[i]? = some false:=by
      simp[Array.getD_eq_getD_getElem?,hlt'] at h2
      simp[hlt',h2]
     exact List.mem_of_getElem? this
    have:=List.count_pos_iff.2 hmem
    omega
  exact ⟨hre,fin listed ρ I c a w hs hre V⟩
 | succ fuel ih =>
  intro listed ρ I c a w hs hc hD V
  refine ⟨fun hre=>fin listed ρ I c a w hs hre V,fun i hi=>?_⟩
  obtain ⟨o,h1,h2,h3⟩:=(memready listed i hs).1 hi
  have hlt:=(Array.getElem?_eq_some_iff.1 h1).1
  have hlt' : i<listed.size:=oz
  have hset : ∀ k,(listed.setIfInBounds i true).getD k false=true↔(listed.getD k false=true\/k=i):=by
   intro k
   simp only[Array.getD_eq_getD_getElem?,Array.getElem?_setIfInBounds]
   by_cases e:i=k
   ·subst e; simp[hlt']
   ·rw[if_neg e]
    constructor
    ·exact .inl
    ·rintro (h | h)
     ·exact h
     ·exact absurd h.symm e
  refine V.step K T hD h1 (by simp[h2]) h3 ?_
  intro ρ' I' c' a' w' V'
  have hDeq:(fun k=>(listed.setIfInBounds i true).getD k false=true)=(fun k=>listed.getD k false=true\/k=i):=by
   funext k; exact propext (hset k)
  refine ih (listed.setIfInBounds i true) ρ' I' c' a' w' (by simp[hs]) ?_ ?_ (by rw[hDeq]; exact V')
  ·have hget:listed.toList[i]? = some false:=by
    simp[Array.getD_eq_getD_getElem?,hlt'] at h2
    simp[hlt',h2]
   have:=qbl listed.toList i hget
   rw[Array.toList_setIfInBounds]
   omega
  ·rw[hDeq]
   rintro k q (hk | hk) hq e he hb
   ·exact .inl (hD k q hk hq e he hb)
   ·subst hk; rw[h1] at hq; cases hq; exact .inl (h3 e he hb)
theorem qi5 {id:Nat} (hm:P.follows .mixedOrders=true) (hk:drawOk sz ops=true) (T:Trace P ops env0 val hp) {Q:Exit->Env->Heap->Prop} (hQ:Q .normal (envAt ops env0 val ops.size) (hp ops.size)) :
  SCode P sz (.region id ops true) Q env0 (hp 0):=by
 intro ρ I w a Q' hr he hQ'
 have K:=qdx hk
 refine wp_region_any hm ?_
 have hw:Rel ρ I (hp 0) ({ w with drawn:=w.drawn+1 } : World).heap:=hr
 refine Inv.run K T (ρ0 := ρ) (I0:=I) (w0:=w) (fun ρ1 I1 a1 w1 h1 h2 h3=>hQ' _ _ _ ⟨_,_,ρ1,I1,hQ,h1,h2,h3⟩) ops.size _ ρ I 0 a _ (by simp) (by simp) ?_ ?_
 ·intro i o hi
  simp only[Array.getD_eq_getD_getElem?,Array.getElem?_replicate] at hi
  split at hi <;> simp at hi
 ·have hno : ∀ k,¬ ((Array.replicate ops.size false).getD k false=true):=by
   intro k
   simp only[Array.getD_eq_getD_getElem?,Array.getElem?_replicate]
   split <;> simp
  exact ⟨hw,{ (Ext.refl ρ I w) with },he.size,he.defers,Nat.zero_le _,fun i _ h=>by omega,fun i _ h=>absurd h (hno i),fun t=>.inr ⟨fun k hk=>absurd hk (hno k),he.val t⟩⟩
end
end Go.Fl
end Fl18S
noncomputable section Fl19S
namespace Go.Fl
open Go
def befL (bf:List Nat) (i j:Nat):Bool:=(bf.getD j 0/2^i)%2==1
theorem qnj {ops:Array Oper} {bf:List Nat} (h:Region.before ops=bf.toArray) (i j:Nat):befL bf i j=bef ops i j:=by
 unfold befL bef
 rw[h]
 have e:bf.toArray.getD j 0=bf.getD j 0:=by simp[Array.getD_eq_getD_getElem?,List.getD_eq_getElem?_getD]
 rw[e,Nat.testBit_eq_decide_div_mod_eq]
 rfl
def stOk (P:Program) (bf:List Nat) (i:Nat) (o:Oper) (env:Env) (x:AV):List (Nat × Heap)->Prop
 | []=>True
 | (c,Hc)::r=>(befL bf c i=true\/aop P o (aev env) Hc=some (x,Hc))/\stOk P bf i o env x r
def ldOk (P:Program) (bf:List Nat) (i:Nat) (H' : Heap):List (Nat × Oper × Env × AV)->Prop
 | []=>True
 | (y,q,env,x)::r=>(befL bf y i=true\/aop P q (aev env) H' = some (x,H'))/\ldOk P bf i H' r
def WStep (P:Program) (o:Oper) (env:Env) (H:Heap) (K:AV->Heap->Prop):Prop :=
 match o.op with
 | .call { callee:=.value f,args,argTypes:=_ } => match aev env f with
  | .fn (.func k) first captured => ∃ r H',SCalls P k (first++args.toList.map (aev env)++captured) H r H' /\ K r H'
  | _=>False
 | _=>match aop P o (aev env) H with
  | some (x,H')=>K x H'
  | none=>False
theorem WStep_cases {P:Program} {o:Oper} {env:Env} {H:Heap} {K:AV->Heap->Prop} (h:WStep P o env H K) : ∃ x H',StepTo P o env H x H' /\ K x H':=by
 obtain ⟨dst,op,type,pos,after,guard⟩:=o
 unfold WStep at h
 unfold StepTo
 split at h
 ·rename_i f args argTypes hop
  simp only at hop
  subst hop
  split at h
  ·rename_i k first captured hf
   obtain ⟨r,H',h1,h2⟩:=h
   exact ⟨r,H',⟨k,first,captured,hf,h1⟩,h2⟩
  ·exact h.elim
 ·rename_i hno
  split at h
  ·rename_i x H' hx
   refine ⟨x,H',?_,h⟩
   split
   ·rename_i f args argTypes hop
    exact (hno f args argTypes hop).elim
   ·exact hx
  ·exact h.elim
def WDraw (P:Program) (ops:Array Oper) (bf:List Nat):Nat->List Oper->List (Nat × Heap)->List (Nat × Oper × Env × AV)->(Exit->Env->Heap->Prop)->Env->Heap->Prop
 | _,[],_,_,Q,env,H=>Q .normal env H
 | i,o::rest,st,ld,Q,env,H=>match awanted ops o env with
  | none=>False
  | some false=>WDraw P ops bf (i+1) rest st ld Q (env.upd o.dst .undef) H
  | some true =>
   if isP o=true then match aop P o (aev env) H with
    | some (x,_)=>WDraw P ops bf (i+1) rest st ld Q (env.upd o.dst x) H
    | none=>False
   else if isL o=true then match aop P o (aev env) H with
    | some (x,_)=>stOk P bf i o env x st/\WDraw P ops bf (i+1) rest st ((i,o,env,x)::ld) Q (env.upd o.dst x) H
    | none=>False
   else WStep P o env H fun x H'=>ldOk P bf i H' ld/\WDraw P ops bf (i+1) rest ((i,H)::st) ld Q (env.upd o.dst x) H'
theorem qax {ops:Array Oper} {env0:Env} {val val' : Nat->AV} : ∀ (k:Nat),(∀ j,j<k->val j=val' j)->envAt ops env0 val k=envAt ops env0 val' k
 | 0,_=>rfl
 | k+1,h=>by
  simp only[envAt]
  rw[qax k (fun j hj=>h j oz),h k oz]
section
variable {P:Program} {sz:Nat} {ops:Array Oper} {bf:List Nat} {env0:Env}
structure Part (P:Program) (ops:Array Oper) (env0:Env) (val:Nat->AV) (hp:Nat->Heap) (i:Nat) (st:List (Nat × Heap)) (ld:List (Nat × Oper × Env × AV)):Prop where
 step : ∀ (k:Nat) (o:Oper),k<i->ops[k]? = some o->(awanted ops o (envAt ops env0 val k)=some false/\val k = .undef/\hp (k+1)=hp k) \/
  (awanted ops o (envAt ops env0 val k)=some true/\StepTo P o (envAt ops env0 val k) (hp k) (val k) (hp (k+1)))
 early : ∀ (y c:Nat) (q p:Oper),y<i->ops[y]? = some q->ops[c]? = some p->isL q=true->isC p=true->awanted ops q (envAt ops env0 val y)=some true->awanted ops p (envAt ops env0 val c)=some true ->
  c<y->bef ops c y=false->aop P q (aev (envAt ops env0 val y)) (hp c)=some (val y,hp c)
 late : ∀ (y c:Nat) (q p:Oper),c<i->ops[y]? = some q->ops[c]? = some p->isL q=true->isC p=true->awanted ops q (envAt ops env0 val y)=some true->awanted ops p (envAt ops env0 val c)=some true ->
  y<c->bef ops y c=false->aop P q (aev (envAt ops env0 val y)) (hp (c+1))=some (val y,hp (c+1))
 st : ∀ (c:Nat) (p:Oper),c<i->ops[c]? = some p->isC p=true->awanted ops p (envAt ops env0 val c)=some true->(c,hp c)∈st
 ld : ∀ (y:Nat) (q:Oper),y<i->ops[y]? = some q->isL q=true->awanted ops q (envAt ops env0 val y)=some true->(y,q,envAt ops env0 val y,val y)∈ld
theorem qko {i:Nat} {o:Oper} {env:Env} {x:AV} : ∀ {st:List (Nat × Heap)},stOk P bf i o env x st -> ∀ c Hc,(c,Hc)∈st->befL bf c i=true\/aop P o (aev env) Hc=some (x,Hc)
 | [],_,c,Hc,h=>by simp at h
 | (c',H')::r,hs,c,Hc,h=>by
  simp only[List.mem_cons,Prod.mk.injEq] at h
  rcases h with ⟨rfl,rfl⟩ | h
  ·exact hs.1
  ·exact qko hs.2 c Hc h
theorem qkp {i:Nat} {H' : Heap} : ∀ {ld:List (Nat × Oper × Env × AV)},ldOk P bf i H' ld -> ∀ y q env x,(y,q,env,x)∈ld->befL bf y i=true\/aop P q (aev env) H' = some (x,H')
 | [],_,y,q,env,x,h=>by simp at h
 | (y',q',env',x')::r,hs,y,q,env,x,h=>by
  simp only[List.mem_cons,Prod.mk.injEq] at h
  rcases h with ⟨rfl,rfl,rfl,rfl⟩ | h
  ·exact hs.1
  ·exact qkp hs.2 y q env x h
theorem Part.next {val:Nat->AV} {hp:Nat->Heap} {i:Nat} {st st' : List (Nat × Heap)} {ld ld' : List (Nat × Oper × Env × AV)} (hbf:Region.before ops=bf.toArray) (V:Part P ops env0 val hp i st ld) {o:Oper} (ho:ops[i]? = some o) {x:AV} {H' : Heap}
  (hstep:(awanted ops o (envAt ops env0 val i)=some false/\x = .undef/\H' = hp i)\/(awanted ops o (envAt ops env0 val i)=some true/\StepTo P o (envAt ops env0 val i) (hp i) x H'))
  (hL:isL o=true->awanted ops o (envAt ops env0 val i)=some true->stOk P bf i o (envAt ops env0 val i) x st/\(i,o,envAt ops env0 val i,x)∈ld')
  (hC:isC o=true->awanted ops o (envAt ops env0 val i)=some true->ldOk P bf i H' ld/\(i,hp i)∈st') (hst : ∀ p∈st,p∈st') (hld : ∀ p∈ld,p∈ld') :
  Part P ops env0 (fun k=>if k=i then x else val k) (fun k=>if k=i+1 then H' else hp k) (i+1) st' ld':=by
 have hv : ∀ k,k<=i->envAt ops env0 (fun k=>if k=i then x else val k) k=envAt ops env0 val k:=fun k hk =>
  qax k (fun j hj=>if_neg oz)
 have hval : ∀ k,k<i->(if k=i then x else val k)=val k:=fun k hk=>if_neg oz
 have hhp : ∀ k,k<=i->(if k=i+1 then H' else hp k)=hp k:=fun k hk=>if_neg oz
 refine ⟨?_,?_,?_,?_,?_⟩
 ·intro k q hk hq
  rcases Nat.lt_or_ge k i with h | h
  ·rw[hv k oz]
   simp only[hval k h,hhp k oz,hhp (k+1) oz]
   exact V.step k q h hq
  ·have:k=i:=oz
   subst this
   rw[ho] at hq; cases hq
   rw[hv k oz]
   simp only[if_true,hhp k oz]
   exact hstep
 ·intro y c q p hy hq hp' h1 h2 h3 h4 h5 h6
  rw[hv y oz] at h3 |-
  rw[hv c oz] at h4
  simp only[hhp c oz]
  rcases Nat.lt_or_ge y i with h | h
  ·simp only[hval y h]
   exact V.early y c q p h hq hp' h1 h2 h3 h4 h5 h6
  ·have:y=i:=oz
   subst this
   rw[ho] at hq; cases hq
   simp only[if_true]
   rcases qko (hL h1 h3).1 c (hp c) (V.st c p h5 hp' h2 h4) with h7 | h7
   ·rw[qnj hbf,h6] at h7; cases h7
   ·exact h7
 ·intro y c q p hc hq hp' h1 h2 h3 h4 h5 h6
  rw[hv y oz] at h3 |-
  rw[hv c oz] at h4
  simp only[hval y oz]
  rcases Nat.lt_or_ge c i with h | h
  ·simp only[hhp (c+1) oz]
   exact V.late y c q p h hq hp' h1 h2 h3 h4 h5 h6
  ·have:c=i:=oz
   subst this
   rw[ho] at hp'; cases hp'
   simp only[if_true]
   rcases qkp (hC h2 h4).1 y q _ _ (V.ld y q h5 hq h1 h3) with h7 | h7
   ·rw[qnj hbf,h6] at h7; cases h7
   ·exact h7
 ·intro c p hc hp' h1 h2
  rw[hv c oz] at h2
  simp only[hhp c oz]
  rcases Nat.lt_or_ge c i with h | h
  ·exact hst _ (V.st c p h hp' h1 h2)
  ·have:c=i:=oz
   subst this
   rw[ho] at hp'; cases hp'
   exact (hC h1 h2).2
 ·intro y q hy hq h1 h2
  rw[hv y oz] at h2 |-
  rcases Nat.lt_or_ge y i with h | h
  ·simp only[hval y h]
   exact hld _ (V.ld y q h hq h1 h2)
  ·have:y=i:=oz
   subst this
   rw[ho] at hq; cases hq
   simp only[if_true]
   exact (hL h1 h2).2
theorem WDraw_trace (hbf:Region.before ops=bf.toArray) {Q:Exit->Env->Heap->Prop} : ∀ (rest:List Oper) (i:Nat) (st:List (Nat × Heap)) (ld:List (Nat × Oper × Env × AV)) (val:Nat->AV) (hp:Nat->Heap),
  ops.toList.drop i=rest->i+rest.length=ops.size->Part P ops env0 val hp i st ld->WDraw P ops bf i rest st ld Q (envAt ops env0 val i) (hp i) ->
  ∃ val' hp',(∀ k,k<=i->hp' k=hp k)/\Trace P ops env0 val' hp' /\ Q .normal (envAt ops env0 val' ops.size) (hp' ops.size)
 | [],i,st,ld,val,hp,hd,hlen,V,h=>by
  simp only[List.length_nil,Nat.add_zero] at hlen
  subst hlen
  refine ⟨val,hp,fun _ _=>rfl,⟨?_,?_,?_⟩,h⟩
  ·intro k o ho; exact V.step k o (Array.getElem?_eq_some_iff.1 ho).1 ho
  ·intro y c q p hq hp' h1 h2 h3 h4 h5 h6; exact V.early y c q p (Array.getElem?_eq_some_iff.1 hq).1 hq hp' h1 h2 h3 h4 h5 h6
  ·intro y c q p hq hp' h1 h2 h3 h4 h5 h6; exact V.late y c q p (Array.getElem?_eq_some_iff.1 hp').1 hq hp' h1 h2 h3 h4 h5 h6
 | o::rest,i,st,ld,val,hp,hd,hlen,V,h=>by
  have hi:i<ops.size:=by simp only[List.length_cons] at hlen; omega
  have ho:ops[i]? = some o:=by
   have:(ops.toList.drop i)[0]? = some o:=by rw[hd]; rfl
   rw[List.getElem?_drop,Nat.add_zero] at this
   simpa using this
  have hd' : ops.toList.drop (i+1)=rest:=by
   have:(ops.toList.drop i).drop 1=rest:=by rw[hd]; rfl
   rw[List.drop_drop] at this
   exact this
  have hlen' : i+1+rest.length=ops.size:=by simp only[List.length_cons] at hlen; omega
  have hdst:dstAt ops i=o.dst:=by simp[dstAt,ho]
  have go : ∀ (x:AV) (H' : Heap) (st' : List (Nat × Heap)) (ld' : List (Nat × Oper × Env × AV)),
    Part P ops env0 (fun k=>if k=i then x else val k) (fun k=>if k=i+1 then H' else hp k) (i+1) st' ld' ->
    WDraw P ops bf (i+1) rest st' ld' Q ((envAt ops env0 val i).upd o.dst x) H' ->
    ∃ val' hp',(∀ k,k<=i->hp' k=hp k)/\Trace P ops env0 val' hp' /\ Q .normal (envAt ops env0 val' ops.size) (hp' ops.size):=by
   intro x H' st' ld' V' h'
   have e1:envAt ops env0 (fun k=>if k=i then x else val k) (i+1)=(envAt ops env0 val i).upd o.dst x:=by
    simp only[envAt,if_pos,hdst]
    rw[qax i (val':=val) (fun j hj=>if_neg oz)]
   obtain ⟨val',hp',h1,h2,h3⟩:=WDraw_trace hbf rest (i+1) st' ld' _ _ hd' hlen' V' (by rw[e1]; simpa using h')
   exact ⟨val',hp',fun k hk=>by rw[h1 k oz]; exact if_neg oz,h2,h3⟩
  simp only[WDraw] at h
  cases ha:awanted ops o (envAt ops env0 val i) with
  | none=>rw[ha] at h; exact h.elim
  | some b =>
   rw[ha] at h
   cases b with
   | false =>
    exact go .undef (hp i) st ld (V.next hbf ho (.inl ⟨ha,rfl,rfl⟩) (fun _ h2=>by rw[ha] at h2; cases h2) (fun _ h2=>by rw[ha] at h2; cases h2) (fun _ h=>h) (fun _ h=>h)) h
   | true =>
    simp only at h
    cases hP:isP o with
    | true =>
     rw[if_pos hP] at h
     split at h
     ·rename_i x H1 hx
      have hsame:=(qbi hP hx).1
      subst hsame
      have hcf:isC o=false:=by simp[isC,hP]
      have hlf:isL o=false:=by
       obtain ⟨dst,op,type,pos,after,guard⟩:=o
       cases op <;> simp[isP] at hP <;> first | rfl | (simp[isL,hP.1])
      exact go x (hp i) st ld (V.next hbf ho (.inr ⟨ha,qaf hcf hx⟩) (fun h1 _=>by rw[hlf] at h1; cases h1) (fun h1 _=>by rw[hcf] at h1; cases h1) (fun _ h=>h) (fun _ h=>h)) h
     ·exact h.elim
    | false =>
     rw[if_neg (by rw[hP]; simp)] at h
     cases hLo:isL o with
     | true =>
      rw[if_pos hLo] at h
      split at h
      ·rename_i x H1 hx
       have hsame:=qbj hLo hx
       subst hsame
       have hcf:isC o=false:=by simp[isC,hLo]
       exact go x (hp i) st _ (V.next hbf ho (.inr ⟨ha,qaf hcf hx⟩) (fun _ _=>⟨h.1,by simp⟩) (fun h1 _=>by rw[hcf] at h1; cases h1) (fun _ h=>h) (fun _ h=>by simp[h])) h.2
      ·exact h.elim
     | false =>
      rw[if_neg (by rw[hLo]; simp)] at h
      obtain ⟨x,H1,h1,h2,h3⟩:=WStep_cases h
      exact go x H1 _ ld (V.next hbf ho (.inr ⟨ha,h1⟩) (fun h4 _=>by rw[hLo] at h4; cases h4) (fun _ _=>⟨h2,by simp⟩) (fun _ h=>by simp[h]) (fun _ h=>h)) h3
theorem qZ {id:Nat} {Q:Exit->Env->Heap->Prop} {H:Heap} (hm:P.follows .mixedOrders=true) (hk:drawOk sz ops=true) (hbf:Region.before ops=bf.toArray)
  (h:WDraw P ops bf 0 ops.toList [] [] Q env0 H):SCode P sz (.region id ops true) Q env0 H:=by
 obtain ⟨val,hp,h1,h2,h3⟩:=WDraw_trace (env0:=env0) hbf ops.toList 0 [] [] (fun _=>.top) (fun _=>H) rfl (by simp)
  ⟨fun k o hk=>by omega,fun y c q p hy=>by omega,fun y c q p hc=>by omega,fun c p hc=>by omega,fun y q hy=>by omega⟩ h
 have:=qi5 (id:=id) hm hk h2 h3
 rw[h1 0 (Nat.le_refl _)] at this
 exact this
end
end Go.Fl
end Fl19S
