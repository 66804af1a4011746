/- As Fl47, with chain operations ahead of the two allocations that float. -/
import Derived.Test.YtfokgjhdndnnhaaGreatDoorFl47
set_option maxHeartbeats 2000000
set_option linter.unusedVariables false
set_option linter.unusedSimpArgs false
noncomputable section Fl48S
namespace Go.Fl
open Go
def drawOk3 (sz:Nat) (ops:Array Oper) (n:Nat):Bool :=
 Nat.ble (n+3) ops.size&&dstsB sz ops&&(List.range ops.size).all fun j=>match ops[j]? with
  | none=>true
  | some q=>(q.after.all fun e => !Region.binds .any e||decide (e.on<j))&&(Nat.ble j (n+1)||(bef ops n j&&bef ops (n+1) j&&(List.range n).all fun k=>match ops[k]? with | none=>true | some p => !isC p||bef ops k j))&&(List.range j).all fun i=>match ops[i]? with
   | none=>true
   | some p=>(p.dst.isNone||p.dst != q.dst)&&(((q.looksAt ops).all fun t=>p.dst != some t)||bef ops i j)&&(((p.looksAt ops).all fun t=>q.dst != some t)||bef ops i j)&&(!isC p || !isC q||((Nat.ble j (n+1)&&Nat.ble n j)||bef ops i j))
structure DOk3 (sz:Nat) (ops:Array Oper) (n:Nat):Prop extends DOk0 sz ops where
 late : ∀ (j:Nat) (q:Oper),ops[j]? = some q->n+1<j->bef ops n j=true/\bef ops (n+1) j=true
 late2 : ∀ (j k:Nat) (q p:Oper),ops[j]? = some q->n+1<j->k<n->ops[k]? = some p->isC p=true->bef ops k j=true
 chain : ∀ (i j:Nat) (p q:Oper),i<j->ops[i]? = some p->ops[j]? = some q->isC p=true->isC q=true->(j<n\/n+1<j)->bef ops i j=true
 more:n+2<ops.size
theorem qil {sz:Nat} {ops:Array Oper} {n:Nat} (h:drawOk3 sz ops n=true):DOk3 sz ops n:=by
 unfold drawOk3 at h
 simp only[Bool.and_eq_true] at h
 obtain ⟨⟨h0,h1⟩,h2⟩:=h
 have key : ∀ (i j:Nat) (p q:Oper),i<j->ops[i]? = some p->ops[j]? = some q ->
   ((p.dst.isNone||p.dst != q.dst)&&(((q.looksAt ops).all fun t=>p.dst != some t)||bef ops i j)&&(((p.looksAt ops).all fun t=>q.dst != some t)||bef ops i j)&&(!isC p || !isC q||((Nat.ble j (n+1)&&Nat.ble n j)||bef ops i j)))=true:=by
  intro i j p q hij hp hq
  have hj:=(Array.getElem?_eq_some_iff.1 hq).1
  have h3:=List.all_eq_true.1 h2 j (by simp[hj])
  rw[hq] at h3
  simp only[Bool.and_eq_true] at h3
  have h4:=List.all_eq_true.1 h3.2 i (by simp[hij])
  rw[hp] at h4
  simpa only [Bool.and_eq_true] using h4
 have key2 : ∀ (j:Nat) (q:Oper),ops[j]? = some q->((q.after.all fun e => !Region.binds .any e||decide (e.on<j))=true)/\(Nat.ble j (n+1)||(bef ops n j&&bef ops (n+1) j&&(List.range n).all fun k=>match ops[k]? with | none=>true | some p => !isC p||bef ops k j))=true:=by
  intro j q hq
  have hj:=(Array.getElem?_eq_some_iff.1 hq).1
  have h3:=List.all_eq_true.1 h2 j (by simp[hj])
  rw[hq] at h3
  simp only[Bool.and_eq_true] at h3
  obtain ⟨⟨h4,h5⟩,_⟩:=h3
  exact ⟨h4,by simpa only [Bool.and_eq_true] using h5⟩
 refine ⟨⟨yK h1,?_,?_,?_,?_⟩,?_,?_,?_,?_⟩
 ·intro j q hq e he hb
  have h4:=Array.all_eq_true'.1 (key2 j q hq).1 e he
  simpa [hb] using h4
 ·intro i j p q hij hp hq t h3 h4
  have:=key i j p q hij hp hq
  simp[h3,h4] at this
 ·intro i j p q hij hp hq t h3 h4
  have:=key i j p q hij hp hq
  simp only[Bool.and_eq_true,Bool.or_eq_true] at this
  rcases this.1.1.2 with h5 | h5
  ·have:=List.all_eq_true.1 h5 t h4
   simp[h3] at this
  ·exact h5
 ·intro i j p q hij hp hq t h3 h4
  have:=key i j p q hij hp hq
  simp only[Bool.and_eq_true,Bool.or_eq_true] at this
  rcases this.1.2 with h5 | h5
  ·have:=List.all_eq_true.1 h5 t h4
   simp[h3] at this
  ·exact h5
 ·intro j q hq hlt
  have:=(key2 j q hq).2
  simp only[Bool.or_eq_true,Nat.ble_eq,Bool.and_eq_true] at this
  rcases this with h | h
  ·omega
  ·exact h.1
 ·intro j k q p hq hlt hk hp hpc
  have:=(key2 j q hq).2
  simp only[Bool.or_eq_true,Nat.ble_eq,Bool.and_eq_true] at this
  rcases this with h | h
  ·omega
  ·have h2:=List.all_eq_true.1 h.2 k (List.mem_range.2 hk)
   rw[hp] at h2
   simpa [hpc] using h2
 ·intro i j p q hij hp hq h3 h4 hlt
  have:=key i j p q hij hp hq
  simp only[Bool.and_eq_true,Bool.or_eq_true,h3,h4,Nat.ble_eq] at this
  rcases this.2 with h | ⟨h,h'⟩ | h
  ·simp at h
  ·omega
  ·exact h
 ·have:=Nat.ble_eq.mp h0; omega
section
variable {P:Program} {sz:Nat} {ops:Array Oper} {env0:Env} {val:Nat->AV} {hp:Nat->Heap} {n:Nat} {d0 d1:Tmp} {zs:List AV} {t:TypeId}
theorem adopt3 {D:Nat->Prop} (hch : ∀ (k:Nat) (q:Oper),k<n->ops[k]? = some q->isC q=true->D k) (h0:dstAt ops n=some d0) (h1:dstAt ops (n+1)=some d1) (hv0:val n = .ptr (hp n).next 0) (hv1:val (n+1) = .ptr ((hp n).next+1) 0) (hh:hp (n+2)=((hp n).alloc zs).alloc zs)
  {ρ0:Rho} {I0:Nat->Prop} {w0:World} {ρ : Rho} {I:Nat->Prop} {c:Nat} {a:Act} {w:World} (hDn:D n) (hDn1:D (n+1)) (nl : ∀ j,n+1<j->j<ops.size -> ¬ D j)
  (hrel:Rel ρ I (hp n) w.heap) (V:Inv P sz ops env0 val hp ρ0 I0 w0 (fun k=>D k/\k<n) ρ I c a w) {cb0 cb1:Nat} (j0:Junk zs t ρ I w0 w (a.tmps.getD d0 Go.undef) cb0) (j1:Junk zs t ρ I w0 w (a.tmps.getD d1 Go.undef) cb1) (hne:cb0≠cb1) :
  ∃ ρ2,Inv P sz ops env0 val hp ρ0 I0 w0 D ρ2 I (n+2) a w:=by
 obtain ⟨e0,⟨c0,m0,z0⟩,l0,i0,u0⟩:=j0
 obtain ⟨e1,⟨c1,m1,z1⟩,l1,i1,u1⟩:=j1
 have hz : ∀ (ρ : Rho) (c:Array Value),zs=c.toList.map .sc->zs.length<=c.size /\ ∀ i x,zs[i]? = some x->VR ρ I w.heap x (c.getD i Go.undef):=by
  intro ρ c hc
  have:=VRs_scs (ρ := ρ) (I:=I) (w:=w) c
  rw[<- hc] at this
  exact ⟨Nat.le_of_eq (by rw[hc]; simp),this.2⟩
 obtain ⟨r1,q1⟩:=qhi hrel m0 i0 u0 (hz ρ c0 z0).1 (hz ρ c0 z0).2
 have u1' : ∀ b base,(ρ.upd (hp n).next (some (cb0,0))) b≠some (some (cb1,base)):=by
  intro b base hb
  by_cases e:b=(hp n).next
  ·rw[e,Rho.upd_same] at hb; cases hb; exact hne rfl
  ·rw[Rho.upd_other _ _ e] at hb; exact u1 _ _ hb
 obtain ⟨r2,q2⟩:=qhi r1 m1 i1 u1' (hz ρ c1 z1).1 (hz _ c1 z1).2
 have hnx:((hp n).alloc zs).next=(hp n).next+1:=rfl
 rw[hnx] at r2 q2
 have q12 : ∀ b p,ρ b=some p->((ρ.upd (hp n).next (some (cb0,0))).upd ((hp n).next+1) (some (cb1,0))) b=some p:=fun b p hb=>q2 b p (q1 b p hb)
 have mono : ∀ x v,VR ρ I w.heap x v->VR ((ρ.upd (hp n).next (some (cb0,0))).upd ((hp n).next+1) (some (cb1,0))) I w.heap x v:=fun x v hx=>hx.mono' q12 (fun _ h=>h) (fun _ _=>rfl) (fun _ c _ fz h=>⟨c,fz,h,rfl⟩)
 obtain ⟨p1,hp1,hp1d⟩:=zg h1
 have hsz:=(Array.getElem?_eq_some_iff.1 hp1).1
 refine ⟨_,⟨by rw[hh]; exact r2,?_,V.size,V.defers,oz,?_,?_,?_⟩⟩
 ·exact { rho:=fun b p hb=>q12 b p (V.ext.rho b p hb)
          imm:=V.ext.imm
          size:=V.ext.size
          kept:=V.ext.kept
          blocks:=V.ext.blocks
          frame:=V.ext.frame
          newI:=V.ext.newI
          newR:=fun b cb base hb=>by
           by_cases e:b=(hp n).next+1
           ·rw[e,Rho.upd_same] at hb; cases hb; exact .inr (.inl l1)
           ·rw[Rho.upd_other _ _ e] at hb
            by_cases e' : b=(hp n).next
            ·rw[e',Rho.upd_same] at hb; cases hb; exact .inr (.inl l0)
            ·rw[Rho.upd_other _ _ e'] at hb; exact V.ext.newR b cb base hb
          os:=V.ext.os
          tape:=V.ext.tape
          output:=V.ext.output }
 ·rintro i ⟨o,ho,hc,_⟩ hi
  by_cases e:i<n
  ·exact hch i o e ho hc
  ·by_cases e' : i=n
   ·rw[e']; exact hDn
   ·have:i=n+1:=oz
    rw[this]; exact hDn1
 ·rintro i ⟨o,ho,_⟩ hi
  by_cases e:n+1<i
  ·exact absurd hi (nl i e (Array.getElem?_eq_some_iff.1 ho).1)
  ·omega
 ·intro t'
  by_cases e:t' = d0
  ·subst e
   refine .inl ⟨n,hDn,h0,?_⟩
   rw[hv0,e0]
   exact .ptr (o:=0) (by rw[Rho.upd_other _ _ oz]; exact Rho.upd_same _ _ _)
  ·by_cases e' : t' = d1
   ·subst e'
    refine .inl ⟨n+1,hDn1,h1,?_⟩
    rw[hv1,e1]
    exact .ptr (o:=0) (Rho.upd_same _ _ _)
   ·rcases V.slots t' with ⟨k,hk1,hk2,hk3⟩ | ⟨hk1,hk2⟩
    ·exact .inl ⟨k,hk1.1,hk2,mono _ _ hk3⟩
    ·refine .inr ⟨fun k hk hd=>?_,mono _ _ hk2⟩
     by_cases x1:k<n
     ·exact hk1 k ⟨hk,x1⟩ hd
     ·by_cases x2:k=n
      ·rw[x2,h0] at hd; cases hd; exact e rfl
      ·by_cases x3:k=n+1
       ·rw[x3,h1] at hd; cases hd; exact e' rfl
       ·obtain ⟨q,hq,_⟩:=zg hd
        exact nl k oz (Array.getElem?_eq_some_iff.1 hq).1 hk
def State3 (P:Program) (sz:Nat) (ops:Array Oper) (env0:Env) (val:Nat->AV) (hp:Nat->Heap) (n:Nat) (d0 d1:Tmp) (zs:List AV) (t:TypeId) (ρ0:Rho) (I0:Nat->Prop) (w0:World) (D:Nat->Prop) (a:Act) (w:World):Prop :=
 ∃ ρ I c,((∀ j,n+1<j->j<ops.size -> ¬ D j)/\Inv P sz ops env0 val hp ρ0 I0 w0 (fun k=>D k/\k<n) ρ I c a w/\(D n -> ∃ cb,Junk zs t ρ I w0 w (a.tmps.getD d0 Go.undef) cb)/\(D (n+1) -> ∃ cb,Junk zs t ρ I w0 w (a.tmps.getD d1 Go.undef) cb)/\(D n->D (n+1) -> ∀ cb,a.tmps.getD d0 Go.undef = .pointer (some ⟨cb,0,none⟩)->a.tmps.getD d1 Go.undef ≠ .pointer (some ⟨cb,0,none⟩))) \/
  (D n/\D (n+1)/\Inv P sz ops env0 val hp ρ0 I0 w0 D ρ I c a w)
theorem qju (K:DOk3 sz ops n) (T:Trace P ops env0 val hp) {ty0 ty1:TypeId} {pos0 pos1:String} {af0 af1:Array Edge} (o0:ops[n]? = some ⟨some d0,.alloc t,ty0,pos0,af0,none⟩) (o1:ops[n+1]? = some ⟨some d1,.alloc t,ty1,pos1,af1,none⟩) (hz:zeroC P t=some zs)
  (t0:env0 d0 = .top) (t1:env0 d1 = .top)
  {ρ0:Rho} {I0:Nat->Prop} {w0:World} {D:Nat->Prop} {a:Act} {w:World} {i:Nat} {o:Oper} (hD:Closed ops D) (S:State3 P sz ops env0 val hp n d0 d1 zs t ρ0 I0 w0 D a w) (ho:ops[i]? = some o) (hi : ¬ D i) (hr : ∀ e∈o.after,Region.binds .any e=true->D e.on)
  {Kt:Act->World->Prop} {Q:Exit->Act->World->Prop} (hK : ∀ a' w',State3 P sz ops env0 val hp n d0 d1 zs t ρ0 I0 w0 (fun k=>D k\/k=i) a' w' -> Kt a' w'):wpOp P ops Q i Kt a w:=by
 have h0:dstAt ops n=some d0:=by simp[dstAt,o0]
 have h1:dstAt ops (n+1)=some d1:=by simp[dstAt,o1]
 have hne:d0≠d1:=fun e=>K.apart n (n+1) _ _ oz o0 o1 d0 rfl (by rw[e])
 have hd0 : ∀ k,k≠n->dstAt ops k≠some d0:=by
  intro k hk hd
  obtain ⟨p,hp1,hp2⟩:=zg hd
  rcases Nat.lt_or_gt_of_ne hk with h | h
  ·exact K.apart k n p _ h hp1 o0 d0 hp2 rfl
  ·exact K.apart n k _ p h o0 hp1 d0 rfl hp2
 have hd1 : ∀ k,k≠n+1->dstAt ops k≠some d1:=by
  intro k hk hd
  obtain ⟨p,hp1,hp2⟩:=zg hd
  rcases Nat.lt_or_gt_of_ne hk with h | h
  ·exact K.apart k (n+1) p _ h hp1 o1 d1 hp2 rfl
  ·exact K.apart (n+1) k _ p h o1 hp1 d1 rfl hp2
 have tr0:val n = .ptr (hp n).next 0/\hp (n+1)=(hp n).alloc zs:=by
  rcases T.step n _ o0 with ⟨h,_⟩ | ⟨_,h⟩
  ·simp[awanted] at h
  ·unfold StepTo at h
   simp only[aop,hz,Option.map_some,Option.some.injEq,Prod.mk.injEq] at h
   exact ⟨h.1.symm,h.2.symm⟩
 have tr1:val (n+1) = .ptr ((hp n).next+1) 0/\hp (n+2)=((hp n).alloc zs).alloc zs:=by
  rcases T.step (n+1) _ o1 with ⟨h,_⟩ | ⟨_,h⟩
  ·simp[awanted] at h
  ·unfold StepTo at h
   simp only[aop,hz,Option.map_some,Option.some.injEq,Prod.mk.injEq] at h
   rw[tr0.2] at h
   exact ⟨h.1.symm,h.2.symm⟩
 have one : ∀ (ρ : Rho) (I:Nat->Prop) (c:Nat),D n->D (n+1)->Inv P sz ops env0 val hp ρ0 I0 w0 D ρ I c a w->wpOp P ops Q i Kt a w:=by
  intro ρ I c hDn hDn1 V
  have hin:i<n\/n+1<i:=by
   rcases Nat.lt_or_ge i n with h | h
   ·exact .inl h
   ·rcases Nat.lt_or_ge (n+1) i with h' | h'
    ·exact .inr h'
    ·rcases (show i=n\/i=n+1 by omega) with h'' | h''
     ·exact absurd (h'' ▸ hDn) hi
     ·exact absurd (h'' ▸ hDn1) hi
  refine V.step0 K.toDOk0 T hD ho hi hr (fun k q hco hk hq hqc=>hD.bef i k o ho hr (K.chain k i q o hk hq ho hqc hco hin)) ?_
  intro ρ' I' c' a' w' V' _ _
  exact hK a' w' ⟨ρ',I',c',.inr ⟨.inl hDn,.inl hDn1,V'⟩⟩
 obtain ⟨ρ,I,c,⟨nl,V,j0,j1,j2⟩ | ⟨hDn,hDn1,V⟩⟩:=S
 ·have hc:c<=n:=by
   rcases Nat.lt_or_ge n c with h | h
   ·have hch:ChainAt ops env0 val n:=⟨_,o0,rfl,by simp[awanted]⟩
    have:=(V.done n hch h).2
    omega
   ·exact h
  by_cases hin:i<n
  ·skip
   have hD' : Closed ops (fun k=>D k/\k<n):=fun k q hk hq e he hb=>⟨hD k q hk.1 hq e he hb,by have:=K.acyc k q hq e he hb; have:=hk.2; omega⟩
   have hr' : ∀ e∈o.after,Region.binds .any e=true->D e.on/\e.on<n:=fun e he hb=>⟨hr e he hb,by have:=K.acyc i o ho e he hb; omega⟩
   refine V.step0 K.toDOk0 T hD' ho (fun h=>hi h.1) hr' (fun k q hco hk hq hqc=>hD'.bef i k o ho hr' (K.chain k i q o hk hq ho hqc hco (.inl hin))) ?_
   intro ρ' I' c' a' w' V' hx hput
   have hdo:o.dst=dstAt ops i:=by simp[dstAt,ho]
   have p0:=hput d0 (by rw[hdo]; exact hd0 i oz)
   have p1:=hput d1 (by rw[hdo]; exact hd1 i oz)
   refine hK a' w' ⟨ρ',I',c',.inl ⟨?_,?_,?_,?_,?_⟩⟩
   ·rintro j hj hjs (h | h)
    ·exact nl j hj hjs h
    ·omega
   ·have e:(fun k=>(D k\/k=i)/\k<n)=(fun k=>(D k/\k<n)\/k=i):=by
     funext k
     apply propext
     constructor
     ·rintro ⟨h | h,h'⟩
      ·exact .inl ⟨h,h'⟩
      ·exact .inr h
     ·rintro (⟨h,h'⟩ | h)
      ·exact ⟨.inl h,h'⟩
      ·exact ⟨.inr h,oz⟩
    rw[e]; exact V'
   ·rintro (h | h)
    ·obtain ⟨cb,hj⟩:=j0 h
     exact ⟨cb,by rw[p0]; exact hj.ext hx⟩
    ·omega
   ·rintro (h | h)
    ·obtain ⟨cb,hj⟩:=j1 h
     exact ⟨cb,by rw[p1]; exact hj.ext hx⟩
    ·omega
   ·rintro (h | h) (h' | h')
    ·rw[p0,p1]; exact j2 h h'
    ·omega
    ·omega
    ·omega
  ·by_cases hbig:n+1<i
   ·skip
    have hl:=K.late i o ho hbig
    have hDn:=hD.bef i n o ho hr hl.1
    have hDn1:=hD.bef i (n+1) o ho hr hl.2
    have HCH : ∀ (k:Nat) (q:Oper),k<n->ops[k]? = some q->isC q=true->D k:=by
     intro k q hk hq hqc
     exact hD.bef i k o ho hr (K.late2 i k o q ho hbig hk hq hqc)
    have hns:n<=ops.size:=by have:=K.more; omega
    have hcn:hp n=hp c:=T.const' hc hns (fun k hk1 hk2 hx=>by
     obtain ⟨q,hq,hqc,hw⟩:=hx
     have:=V.todo k ⟨q,hq,hqc,hw⟩ ⟨HCH k q hk2 hq hqc,hk2⟩
     omega)
    obtain ⟨cb0,J0⟩:=j0 hDn
    obtain ⟨cb1,J1⟩:=j1 hDn1
    obtain ⟨ρ2,W⟩:=adopt3 HCH h0 h1 tr0.1 tr1.1 tr1.2 hDn hDn1 nl (by rw[hcn]; exact V.rel) V J0 J1 (fun e=>j2 hDn hDn1 cb0 J0.1 (by rw[e]; exact J1.1))
    exact one ρ2 I (n+2) hDn hDn1 W
   ·skip
    have key : ∀ (d dx:Tmp) (m mx:Nat) (ty:TypeId) (pos:String) (af:Array Edge),i=m->o=⟨some d,.alloc t,ty,pos,af,none⟩->(∀ k,k≠m->dstAt ops k≠some d)->d≠dx->env0 d = .top->(D mx -> ∃ cb,Junk zs t ρ I w0 w (a.tmps.getD dx Go.undef) cb)->n<=m ->
      (∀ (a' : Act) (w' : World) (cb:Nat),Inv P sz ops env0 val hp ρ0 I0 w0 (fun k=>(D k\/k=i)/\k<n) ρ I c a' w' -> Junk zs t ρ I w0 w' (a'.tmps.getD d Go.undef) cb->(D mx -> ∃ cb',cb' ≠ cb/\Junk zs t ρ I w0 w' (a'.tmps.getD dx Go.undef) cb')->Kt a' w')->wpOp P ops Q i Kt a w:=by
     intro d dx m mx ty pos af him hoe hdd hdx hdt jx hnm hkk
     subst him
     unfold wpOp
     rw[ho]
     simp only
     rw[hoe]
     rw[if_pos (by simp[Region.wanted])]
     refine .inl (alloc_wp hz (fun cz hcz=>?_))
     obtain ⟨r1,x1⟩:=rel_junk V.rel (w1:=w.alloc (.cells cz t)) rfl rfl rfl rfl
     have hlt:d<a.tmps.size:=by rw[V.size]; exact K.dsts i o d ho (by rw[hoe])
     have hnew:((a.put (some d) (.pointer (some ⟨w.heap.size,0,none⟩))).tmps.getD d Go.undef) = .pointer (some ⟨w.heap.size,0,none⟩):=by simp[Act.put,hlt]
     refine hkk _ _ w.heap.size ?_ ?_ ?_
     ·have e:(fun k=>(D k\/k=i)/\k<n)=(fun k=>D k/\k<n):=by
       funext k
       apply propext
       constructor
       ·rintro ⟨h | h,h'⟩
        ·exact ⟨h,h'⟩
        ·omega
       ·rintro ⟨h,h'⟩
        exact ⟨.inl h,h'⟩
      rw[e]
      refine ⟨r1,V.ext.trans x1,by simp[Act.put,V.size],V.defers,V.le,V.done,V.todo,fun t'=>?_⟩
      by_cases e' : t' = d
      ·subst e'
       refine .inr ⟨fun k hk=>hdd k (by have:=hk.2; omega),by rw[hdt]; exact .top _⟩
      ·rw[yT (by intro h; cases h; exact e' rfl)]
       rcases V.slots t' with ⟨k,k1,k2,k3⟩ | ⟨k1,k2⟩
       ·exact .inl ⟨k,k1,k2,k3.mono x1⟩
       ·exact .inr ⟨k1,k2.mono x1⟩
     ·refine ⟨hnew,⟨cz,?_,hcz⟩,V.ext.size,fun hI=>by have:=V.rel.irng _ hI; omega,fun b base hb=>?_⟩
      ·show (w.heap.push _)[w.heap.size]? = _
       simp
      ·exact absurd (V.rel.lt hb) (Nat.lt_irrefl _)
     ·intro hDm
      obtain ⟨cb,hj⟩:=jx hDm
      refine ⟨cb,by have:=hj.lt; omega,?_⟩
      rw[yT (by intro h; cases h; exact hdx rfl)]
      exact hj.ext x1
    rcases (show i=n\/i=n+1 by omega) with he | he
    ·subst he
     rw[o0] at ho
     cases ho
     refine key d0 d1 i (i+1) _ _ _ rfl rfl hd0 hne t0 j1 (Nat.le_refl _) ?_
     intro a' w' cb V' hj hjx
     refine hK a' w' ⟨ρ,I,c,.inl ⟨?_,V',fun _=>⟨cb,hj⟩,?_,?_⟩⟩
     ·rintro j hj' hjs (h | h)
      ·exact nl j hj' hjs h
      ·omega
     ·rintro (h | h)
      ·obtain ⟨cb',_,hj'⟩:=hjx h
       exact ⟨cb',hj'⟩
      ·omega
     ·rintro _ (h | h) cx e0 e1
      ·obtain ⟨cb',hcb,hj'⟩:=hjx h
       rw[hj.1] at e0
       rw[hj'.1] at e1
       cases e0; cases e1
       exact hcb rfl
      ·omega
    ·subst he
     rw[o1] at ho
     cases ho
     refine key d1 d0 (n+1) n _ _ _ rfl rfl hd1 (fun e=>hne e.symm) t1 j0 oz ?_
     intro a' w' cb V' hj hjx
     refine hK a' w' ⟨ρ,I,c,.inl ⟨?_,V',?_,fun _=>⟨cb,hj⟩,?_⟩⟩
     ·rintro j hj' hjs (h | h)
      ·exact nl j hj' hjs h
      ·omega
     ·rintro (h | h)
      ·obtain ⟨cb',_,hj'⟩:=hjx h
       exact ⟨cb',hj'⟩
      ·omega
     ·rintro (h | h) _ cx e0 e1
      ·obtain ⟨cb',hcb,hj'⟩:=hjx h
       rw[hj.1] at e1
       rw[hj'.1] at e0
       cases e0; cases e1
       exact hcb rfl
      ·omega
 ·exact one ρ I c hDn hDn1 V
theorem qim {id:Nat} {ty0 ty1:TypeId} {pos0 pos1:String} {af0 af1:Array Edge} (hm:P.follows .mixedOrders=true) (hk:drawOk3 sz ops n=true) (o0:ops[n]? = some ⟨some d0,.alloc t,ty0,pos0,af0,none⟩) (o1:ops[n+1]? = some ⟨some d1,.alloc t,ty1,pos1,af1,none⟩) (hz:zeroC P t=some zs)
  (t0:env0 d0 = .top) (t1:env0 d1 = .top) (T:Trace P ops env0 val hp) {Q:Exit->Env->Heap->Prop} (hQ:Q .normal (envAt ops env0 val ops.size) (hp ops.size)) :
  SCode P sz (.region id ops true) Q env0 (hp 0):=by
 intro ρ I w a Q' hr he hQ'
 have K:=qil hk
 refine wp_region_any hm ?_
 have hw:Rel ρ I (hp 0) ({ w with drawn:=w.drawn+1 } : World).heap:=hr
 have hno : ∀ k,¬ ((Array.replicate ops.size false).getD k false=true):=by
  intro k
  simp only[Array.getD_eq_getD_getElem?,Array.getElem?_replicate]
  split <;> simp
 refine any_run (S:=State3 P sz ops env0 val hp n d0 d1 zs t ρ I w) K.toDOk0 ?_ (fun D a w i o hD S ho hi hr Kt hK=>qju K T o0 o1 hz t0 t1 hD S ho hi hr hK) ops.size _ a _ (by simp) (by simp) ?_ ?_
 ·rintro D a w hall ⟨ρ1,I1,c,⟨nl,_⟩ | ⟨_,_,V⟩⟩
  ·exact absurd (hall (n+2) K.more) (nl (n+2) oz K.more)
  ·have heq:hp ops.size=hp c:=T.const' V.le (Nat.le_refl _) (fun k h1 h2 hk=>by
    have:=V.todo k hk (hall k h2); omega)
   refine hQ' _ _ _ ⟨_,_,ρ1,I1,hQ,by rw[heq]; exact V.rel,⟨V.size,V.defers,fun t=>?_,V.rel.glob⟩,V.ext⟩
   rcases V.slots t with ⟨k,h1,h2,h3⟩ | ⟨h1,h2⟩
   ·obtain ⟨p,hp1,hp2⟩:=zg h2
    have hk:=(Array.getElem?_eq_some_iff.1 hp1).1
    rw[yl h2 ops.size hk (fun m h4 h5 hm=>by
     obtain ⟨q,hq1,hq2⟩:=zg hm
     exact K.apart k m p q h4 hp1 hq1 t hp2 hq2)]
    exact h3
   ·rw[yj ops.size (fun k hk=>h1 k (hall k hk))]
    exact h2
 ·intro i o hi
  exact absurd hi (hno i)
 ·refine ⟨ρ,I,0,.inl ⟨fun j _ _ h=>hno _ h,⟨hw,{ (Ext.refl ρ I w) with },he.size,he.defers,Nat.zero_le _,fun i _ h=>by omega,fun i _ h=>absurd h.1 (hno i),fun t=>.inr ⟨fun k hk=>absurd hk.1 (hno k),he.val t⟩⟩,fun h=>absurd h (hno _),fun h=>absurd h (hno _),fun h=>absurd h (hno _)⟩⟩
theorem qjv {id:Nat} {bf:List Nat} {ty0 ty1:TypeId} {pos0 pos1:String} {af0 af1:Array Edge} {Q:Exit->Env->Heap->Prop} {env:Env} {H:Heap} (n:Nat) (hm:P.follows .mixedOrders=true) (hk:drawOk3 sz ops n=true) (o0:ops[n]? = some ⟨some d0,.alloc t,ty0,pos0,af0,none⟩) (o1:ops[n+1]? = some ⟨some d1,.alloc t,ty1,pos1,af1,none⟩) (hz:zeroC P t=some zs)
  (hbf:Region.before ops=bf.toArray) (h:WDraw P ops bf 0 ops.toList [] [] Q (fun k=>if k=d0\/k=d1 then .top else env k) H):SCode P sz (.region id ops true) Q env H:=by
 refine qfb (env':=fun k=>if k=d0\/k=d1 then .top else env k) (HW.refl H) (fun i=>?_) ?_
 ·split
  ·exact .top _
  ·exact .same _
 obtain ⟨val,hp,h1,h2,h3⟩:=WDraw_trace (env0:=fun k=>if k=d0\/k=d1 then .top else env k) hbf ops.toList 0 [] [] (fun _=>.top) (fun _=>H) rfl (by simp)
  ⟨fun k o hk=>by omega,fun y c q p hy=>by omega,fun y c q p hc=>by omega,fun c p hc=>by omega,fun y q hy=>by omega⟩ h
 have:=qim (id:=id) hm hk o0 o1 hz (by simp) (by simp) h2 h3
 rw[h1 0 (Nat.le_refl _)] at this
 exact this
end
end Go.Fl
end Fl48S
set_option maxRecDepth 20000
noncomputable section W6S
namespace Go.Proofs.YtfokgjhdndnnhaaGreatDoor
open Go Go.Fl Go.Proofs
def tokC (t:Tok):List AV:=[.sc (.int .u8 t.c.toNat),.int t.len,.int t.back]
def tV (l:List Tok):List AV:=l.flatMap tokC
def tA (l:List Tok):AV:=.vs l.length 3 (tV l)
theorem tV_len (l:List Tok):(tV l).length=l.length*3:=by
 induction l with
 | nil=>rfl
 | cons e l ih=>simp only[tV,List.flatMap_cons,List.length_append,List.length_cons] at ih |-; rw[ih]; simp[tokC]; omega
theorem qjw : ∀ {l:List Tok} {i:Nat} {t:Tok},l[i]? = some t -> ∃ r,(tV l).drop (i*3) = [.sc (.int .u8 t.c.toNat),.int t.len,.int t.back]++r
 | x::l,0,t,h=>by
  simp only[List.getElem?_cons_zero,Option.some.injEq] at h
  subst h
  exact ⟨tV l,rfl⟩
 | x::l,i+1,t,h=>by
  simp only[List.getElem?_cons_succ] at h
  obtain ⟨r,hr⟩:=qjw h
  refine ⟨r,?_⟩
  rw[<- hr]
  show (tokC x++tV l).drop ((i+1)*3)=_
  rw[show (i+1)*3=i*3+3 by omega]
  rfl
 | [],i,t,h=>by simp at h
theorem tV_lt (l:List Tok) (n:Nat) : ∀ x∈tV l,x.Lt n:=by
 intro x hx
 obtain ⟨t,_,ht⟩:=List.mem_flatMap.1 hx
 simp only[tokC,List.mem_cons,List.not_mem_nil,or_false] at ht
 rcases ht with rfl | rfl | rfl <;> exact .sc _
theorem tA_lt (l:List Tok) (n:Nat):(tA l).Lt n=True:=eq_true (.vs (tV_lt l n))
def tokBits (lx ly:List Nat) (t:Tok):List Bool:=if t.back=0 then symBits lx t.c.toNat else
 symBits lx (lenPart t.len).sym++natBits (lenPart t.len).bits (lenPart t.len).more++(symBits ly (distPart t.back).sym++natBits (distPart t.back).bits (distPart t.back).more)
def toksBits (lx ly:List Nat) (l:List Tok):List Bool:=l.flatMap (tokBits lx ly)
def TokOk (lx ly:List Nat) (t:Tok):Prop:=(t.back=0/\0<lx.getD t.c.toNat 0)\/(3<=t.len/\t.len<=258/\1<=t.back/\t.back<=32768/\0<lx.getD (lenPart t.len).sym 0/\0<ly.getD (distPart t.back).sym 0)
theorem zZ {n:Nat} (h3:3<=n) (h258:n<=258):(lenPart n).bits<=5/\(lenPart n).more<2^(lenPart n).bits/\(lenPart n).sym<=285:=by
 rcases jv h3 h258 with ⟨_,h⟩ | ⟨h11,h⟩ | ⟨e,q,h11,_,h1,h5,_,q7,_,_,_,hm,h⟩
 ·rw[h]; decide
 ·rw[h]; exact ⟨by simp,by simp,by show n+254<=285; omega⟩
 ·rw[h]; exact ⟨h5,hm,by show 265+4*(e-1)+(q-4)<=285; omega⟩
theorem zS {n:Nat} (h1:1<=n) (h2:n<=32768):(distPart n).bits<=13/\(distPart n).more<2^(distPart n).bits/\(distPart n).sym<=29:=by
 rcases jH h1 h2 with ⟨h5,h⟩ | ⟨e,q,h5,h1,h13,_,q3,_,_,_,hm,h⟩
 ·rw[h]; exact ⟨by simp,by simp,by show n-1<=29; omega⟩
 ·rw[h]; exact ⟨h13,hm,by show 2*(e+1)+(q-2)<=29; omega⟩
theorem qjx {lx ly:List Nat} (hx:LensOk lx) (hy:LensOk ly) {t:Tok} (h:TokOk lx ly t):(tokBits lx ly t).length<=48:=by
 unfold tokBits
 rcases h with ⟨h0,_⟩ | ⟨h3,h258,h1,h2,_,_⟩
 ·rw[if_pos h0,qN]; have:=hx.le t.c.toNat; omega
 ·rw[if_neg oz]
  simp only[List.length_append,qN,qB]
  have a1:=hx.le (lenPart t.len).sym
  have a2:=hy.le (distPart t.back).sym
  have a3:=(zZ h3 h258).1
  have a4:=(zS h1 h2).1
  omega
theorem qaa {lx ly:List Nat} (hx:LensOk lx) (hy:LensOk ly) : ∀ (l:List Tok),(∀ t∈l,TokOk lx ly t)->(toksBits lx ly l).length<=48*l.length
 | [],_=>by simp[toksBits]
 | t::l,h=>by
  have h1:=qjx hx hy (h t List.mem_cons_self)
  have h2:=qaa hx hy l fun x hx=>h x (List.mem_cons_of_mem _ hx)
  simp only[toksBits,List.flatMap_cons,List.length_append,List.length_cons] at h2 |-
  omega
theorem qgq {lx ly:List Nat} (l:List Tok) (i:Nat) (t:Tok) (h:l[i]? = some t):toksBits lx ly (l.take (i+1))=toksBits lx ly (l.take i)++tokBits lx ly t:=by
 unfold toksBits
 rw[List.take_add_one,h]
 simp
theorem qin (n:Nat) (h3:3<=n) (h258:n<=258) (H:Heap):SCalls Tryz.prog 73 [.int n] H (partA (lenPart n)) H:=qO (qhh n h3 h258) gz (by simp[qkt]) H
theorem qfs (n:Nat) (h1:1<=n) (h2:n<=32768) (H:Heap):SCalls Tryz.prog 74 [.int n] H (partA (distPart n)) H:=qO (qls n h1 h2) gz (by simp[qkt]) H
def PutE (w b0 n i:Nat) (toks:List Tok) (env:Env):Prop:=env 1 = .ptr w 0/\env 3 = .ptr b0 0/\env 10 = .vs n 3 (tV toks)/\env 11 = .int n/\env 12 = .int i
theorem zrep3 (a b c:AV):zrep [a,b,c] 3 = [a,b,c]:=rfl
theorem cput_p {S:Nat->Prop} {w:Nat} {l:List Bool} {lx ly:List Nat} (hx:LensOk lx) (hy:LensOk ly) (toks:List Tok) (hto : ∀ t∈toks,TokOk lx ly t) (h256:0<lx.getD 256 0) (hl:l.length+48*toks.length+100<=1073741824) {H:Heap} (hW0:WrN S H w l):SCallsP Tryz.prog 44 [.agg [tabA lx,tabA ly],.ptr w 0,tA toks] H (fun r H'=>r = .tup []/\WrN S H' w (l++(toksBits lx ly toks++symBits lx 256))/\Step S H H'):=by
 obtain ⟨n,hn⟩ : ∃ n,toks.length=n:=⟨_,rfl⟩
 have hLn:(tV toks).length=n*3:=by rw[tV_len,hn]
 have hW1:=hW0.add [tabA lx,tabA ly]
 have hS0:Step S H (H.alloc [tabA lx,tabA ly]):=(Step.refl S H).alloc (by simp[zT])
 obtain ⟨H1,hH1⟩ : ∃ X,H.alloc [tabA lx,tabA ly]=X:=⟨_,rfl⟩
 have g0:H1.get H.next=some [tabA lx,tabA ly]:=by rw[<- hH1]; simp[go_sem]
 rw[hH1] at hW1 hS0
 refine qA (sz:=61) (Tryz.call44) Tryz.func44 rfl kz (fun R hR=>?_)
 refine qw (fun env H2=>env 1 = .ptr w 0/\env 3 = .ptr H.next 0/\env 2 = .vs n 3 (tV toks)/\H1=H2) ?_ ?_
 ·skip
  refine qo (fun K2 hK2=>?_)
  refine qi kz ?_
  simp[go_sem]
  refine hK2 _ _ ?_
  exact ⟨gz,gz,by simp[go_sem,tA,hn],hH1.symm⟩
 rintro env _ ⟨e1,e3,e2,rfl⟩
 refine qg (fun K3 hK3=>?_)
 refine qg (fun K4 hK4=>?_)
 refine qi kz ?_
 simp[go_sem,e2]
 refine hK4 _ _ ?_
 try clear hK4 K4
 refine qm ?_
 refine qC (Inv:=fun m env H2 => ∃ i:Nat,m=n-i/\i<=n/\PutE w H.next n i toks env/\H2.get H.next=some [tabA lx,tabA ly]/\WrN (fun b=>S b\/b=H.next) H2 w (l++toksBits lx ly (toks.take i))/\Step (fun b=>S b\/b=H.next) H1 H2) ?_ (n:=n) (⟨0,rfl,oz,⟨by simp[go_sem,e1],by simp[go_sem,e3],by simp[go_sem,e2],gz,gz⟩,g0,by simpa [toksBits] using hW1,Step.refl _ _⟩)
 clear e1 e3 e2
 rintro m env H2 ⟨i,rfl,hi,⟨e1,e3,e10,e11,e12⟩,g0,hW,hS⟩
 refine qg (fun K5 hK5=>?_)
 refine qi kz ?_
 simp[go_sem,e11,e12]
 refine hK5 _ _ ?_
 try clear hK5 K5
 refine qg (fun K6 hK6=>?_)
 refine qj (b:=decide (i<n)) gz (fun hb=>?_) (fun hb=>?_)
 ·skip
  simp only[decide_eq_true_eq] at hb
  obtain ⟨t,ht⟩:=qgw toks i oz
  obtain ⟨r,hdr⟩:=qjw ht
  have hTO:=hto t (List.mem_of_getElem? ht)
  have hnext:=qgq (lx:=lx) (ly:=ly) toks i t ht
  have hbl:=qaa hx hy (toks.take i) fun x hx=>hto x (List.mem_of_mem_take hx)
  have hbl2:(toks.take i).length<=n:=by rw[List.length_take]; omega
  have hin:(i:Int)<n:=oz
  refine ql ?_
  refine hK6 _ _ ?_
  try clear hK6 K6
  obtain ⟨l2,hl2⟩ : ∃ l2,l++toksBits lx ly (toks.take i)=l2:=⟨_,rfl⟩
  have hl2n:l2.length<=l.length+48*n:=by rw[<- hl2,List.length_append]; omega
  have hl3:l++toksBits lx ly (toks.take (i+1))=l2++tokBits lx ly t:=by rw[hnext,<- List.append_assoc,hl2]
  rw[hl2] at hW
  refine qw (fun env H2=>PutE w H.next n i toks env/\H2.get H.next=some [tabA lx,tabA ly]/\WrN (fun b=>S b\/b=H.next) H2 w (l++toksBits lx ly (toks.take (i+1)))/\Step (fun b=>S b\/b=H.next) H1 H2) ?_ ?_
  ·skip
   refine qm ?_
   refine qw (fun env H2=>PutE w H.next n i toks env/\H2.get H.next=some [tabA lx,tabA ly]/\WrN (fun b=>S b\/b=H.next) H2 w l2/\Step (fun b=>S b\/b=H.next) H1 H2 /\ ∃ b7,env 7 = .ptr b7 0/\H2.get b7=some (tokC t)) ?_ ?_
   ·skip
    refine qo (fun K9 hK9=>?_)
    refine qi kz ?_
    simp[go_sem,e10,e12,hdr,hLn,hin,zrep3]
    refine hK9 _ _ ?_
    have hne : ¬ (H.next=H2.next):=by have:=Heap.lt_of_get g0; omega
    have hSlt : ∀ b,(S b\/b=H.next)->b<H2.next:=by obtain ⟨_,_,_,_,_,h⟩:=hW; exact h
    refine ⟨⟨by simp[go_sem,e1],by simp[go_sem,e3],by simp[go_sem,e10],by simp[go_sem,e11],by simp[go_sem,e12]⟩,by simp[go_sem,g0,hne],?_,?_,H2.next,gz,by simp[go_sem,tokC]⟩
    ·exact ((hW.add _).set (.inr rfl) _).mono fun b hb=>.inl hb
    ·exact (hS.alloc gz).set (fun h=>Nat.lt_irrefl _ (hSlt _ h)) gz
   clear e1 e3 e10 e11 e12 g0 hW hS
   rintro env H2 ⟨⟨e1,e3,e10,e11,e12⟩,g0,hW,hS,b7,e7,g7⟩
   refine qg (fun K10 hK10=>?_)
   refine qg (fun K11 hK11=>?_)
   refine qi kz ?_
   simp[go_sem,e7,g7,tokC]
   refine hK11 _ _ ?_
   try clear hK11 K11
   refine qj (b:=((t.back:Int)==0)) gz (fun hb=>?_) (fun hb=>?_)
   ·skip
    have hb0:t.back=0:=by simpa using hb
    have hsym:0<lx.getD t.c.toNat 0:=by rcases hTO with h | h; exact h.2; omega
    have cp:=qg5 hx hsym oz hW
    have hwc:IntKind.i64.wrap (t.c.toNat:Int)=t.c.toNat:=qdc _ (by have:=t.c.toNat_lt; omega)
    refine qg (fun K12 hK12=>?_)
    refine qp kz ?_
    simp[go_sem,e1,e3,e7,g0,g7,tokC,hwc]
    refine ⟨_,cp,?_⟩
    rintro _ H3 hn3 ⟨rfl,hW3,hS3⟩
    have hWT:WrN (fun b=>S b\/b=H.next) H3 w (l2++tokBits lx ly t):=by unfold tokBits; rw[if_pos hb0]; exact hW3
    have hST:=hS.trans hS3
    have gT:=hS3.get g0 (.inr rfl)
    refine hK12 _ _ ?_
    try clear hK12 K12
    refine qy ?_
    rw[hl3]
    refine ⟨⟨by simp[go_sem,e1],by simp[go_sem,e3],by simp[go_sem,e10],by simp[go_sem,e11],by simp[go_sem,e12]⟩,?_,?_,?_⟩
    ·first | exact gF | exact gT
    ·first | exact hWF | exact hWT
    ·first | exact hSF | exact hST
   ·skip
    have hb0 : ¬ t.back=0:=by simpa using hb
    obtain ⟨h3,h258,hk1,hk2,hs1,hs2⟩:3<=t.len/\t.len<=258/\1<=t.back/\t.back<=32768/\0<lx.getD (lenPart t.len).sym 0/\0<ly.getD (distPart t.back).sym 0:=by rcases hTO with h | h; exact absurd h.1 hb0; exact h
    obtain ⟨pb1,pm1,ps1⟩:=zZ h3 h258
    obtain ⟨pb2,pm2,ps2⟩:=zS hk1 hk2
    have htb:tokBits lx ly t=symBits lx (lenPart t.len).sym++natBits (lenPart t.len).bits (lenPart t.len).more++(symBits ly (distPart t.back).sym++natBits (distPart t.back).bits (distPart t.back).more):=by unfold tokBits; rw[if_neg hb0]
    have c73:=fun H=>qin t.len h3 h258 H
    have c74:=fun H=>qfs t.back hk1 hk2 H
    obtain ⟨p,hp⟩ : ∃ p,lenPart t.len=p:=⟨_,rfl⟩
    obtain ⟨d,hd⟩ : ∃ p,distPart t.back=p:=⟨_,rfl⟩
    rw[hp] at c73 pb1 pm1 hs1 htb
    rw[hd] at c74 pb2 pm2 hs2 htb
    have hl1x:=hx.le p.sym
    have hl1y:=hy.le d.sym
    refine ql ?_
    refine hK10 _ _ ?_
    try clear hK10 K10
    refine qw (fun env H3=>PutE w H.next n i toks env /\ ∃ b8 b9,env 8 = .ptr b8 0/\env 9 = .ptr b9 0/\H3.get b8=some [.int p.sym,.int p.more,.int p.bits]/\H3.get b9=some [.int d.sym,.int d.more,.int d.bits]/\H3.get H.next=some [tabA lx,tabA ly]/\WrN (fun b=>((S b\/b=H.next)\/b=b8)\/b=b9) H3 w l2/\Step (fun b=>S b\/b=H.next) H1 H3) ?_ ?_
    ·skip
     refine qo (fun K99 hK99=>?_)
     refine qjv (bf:=[0,1,3,0,8,31,0,0,255,511]) 6 mixed kz rfl rfl tZ128 kz ?_
     have h0l:=Heap.lt_of_get g0
     have h0a : ¬ (H.next=H2.next):=oz
     have h0b : ¬ (H.next=H2.next+1):=oz
     have hSlt : ∀ b,(S b\/b=H.next)->b<H2.next:=by obtain ⟨_,_,_,_,_,h⟩:=hW; exact h
     have h7l:=Heap.lt_of_get g7
     have h7a : ¬ (b7=H2.next):=oz
     have h7b : ¬ (b7=H2.next+1):=oz
     simp[go_sem,e7,g7,tokC,befL]
     refine ⟨_,_,c73 _,?_⟩
     simp[go_sem,e7,g7,tokC,befL,partA]
     refine ⟨_,_,c74 _,?_⟩
     simp[go_sem,e7,g7,tokC,befL,partA,h7a,h7b]
     refine hK99 _ _ ?_
     refine ⟨⟨by simp[go_sem,e1],by simp[go_sem,e3],by simp[go_sem,e10],by simp[go_sem,e11],by simp[go_sem,e12]⟩,H2.next,H2.next+1,gz,gz,gz,gz,?_,?_,?_⟩
     ·simp[go_sem,g0,h0a,h0b]
     ·exact (((hW.add _).add _).set (.inl (.inr rfl)) _).set (.inr rfl) _
     ·exact (((hS.alloc gz).alloc gz).set (fun h=>Nat.lt_irrefl _ (hSlt _ h)) gz).set (fun h=>by have:=hSlt _ h; omega) gz
    clear e1 e3 e10 e11 e12 g0 hW hS e7 g7
    rintro env H3 ⟨⟨e1,e3,e10,e11,e12⟩,b8,b9,e8,e9,g8,g9,g0,hW,hS⟩
    refine qg (fun K15 hK15=>?_)
    refine qp kz ?_
    simp[go_sem,e1,e3,e8,g0,g8]
    refine ⟨_,qg5 (s:=p.sym) hx hs1 oz hW,?_⟩
    rintro _ H4 hn4 ⟨rfl,hW4,hS4⟩
    have g04:=hS4.get g0 (.inl (.inl (.inr rfl)))
    have g84:=hS4.get g8 (.inl (.inr rfl))
    have g94:=hS4.get g9 (.inr rfl)
    refine hK15 _ _ ?_
    try clear hK15 K15
    refine qg (fun K17 hK17=>?_)
    refine qp kz ?_
    simp[go_sem,e1,e8,g84]
    refine ⟨_,qar _ w p.bits p.more _ pm1 oz (by rw[List.length_append,qN]; omega) hW4,?_⟩
    rintro _ H5 hn5 ⟨rfl,hW5,hS5⟩
    have g05:=hS5.get g04 (.inl (.inl (.inr rfl)))
    have g95:=hS5.get g94 (.inr rfl)
    refine hK17 _ _ ?_
    try clear hK17 K17
    refine qg (fun K19 hK19=>?_)
    refine qp kz ?_
    simp[go_sem,e1,e3,e9,g05,g95]
    refine ⟨_,qg5 (s:=d.sym) hy hs2 (by simp only[List.length_append,qN,qB]; omega) hW5,?_⟩
    rintro _ H6 hn6 ⟨rfl,hW6,hS6⟩
    have g06:=hS6.get g05 (.inl (.inl (.inr rfl)))
    have g96:=hS6.get g95 (.inr rfl)
    refine hK19 _ _ ?_
    try clear hK19 K19
    refine qp kz ?_
    simp[go_sem,e1,e9,g96]
    refine ⟨_,qar _ w d.bits d.more _ pm2 oz (by simp only[List.length_append,qN,qB]; omega) hW6,?_⟩
    rintro _ H7 hn7 ⟨rfl,hW7,hS7⟩
    have gF:=hS7.get g06 (.inl (.inl (.inr rfl)))
    have hWF:WrN (fun b=>S b\/b=H.next) H7 w (l2++tokBits lx ly t):=by rw[htb]; simpa only [List.append_assoc] using hW7.mono (fun b hb=>.inl (.inl hb))
    have hSF:=hS.trans ((((hS4.trans hS5).trans hS6).trans hS7).mono (fun b hb=>.inl (.inl hb)))
    rw[hl3]
    refine ⟨⟨by simp[go_sem,e1],by simp[go_sem,e3],by simp[go_sem,e10],by simp[go_sem,e11],by simp[go_sem,e12]⟩,?_,?_,?_⟩
    ·first | exact gF | exact gT
    ·first | exact hWF | exact hWT
    ·first | exact hSF | exact hST
  clear e1 e3 e10 e11 e12 g0 hW hS
  rintro env H2 ⟨⟨e1,e3,e10,e11,e12⟩,g0,hW,hS⟩
  refine qo (fun K22 hK22=>?_)
  refine qi kz ?_
  simp[go_sem,e12]
  refine hK22 _ _ ?_
  have hw1:=qF i oz
  exact ⟨n-(i+1),oz,i+1,rfl,oz,⟨by simp[go_sem,e1],by simp[go_sem,e3],by simp[go_sem,e10],by simp[go_sem,e11],by simp[go_sem,hw1]⟩,g0,hW,hS⟩
 ·skip
  simp only[decide_eq_false_iff_not] at hb
  obtain rfl:i=n:=oz
  rw[List.take_of_length_le oz] at hW
  have hbl:=qaa hx hy toks hto
  refine qy ?_
  refine hK3 _ _ ?_
  try clear hK3 K3
  refine qp kz ?_
  simp[go_sem,e1,e3,g0]
  refine ⟨_,qg5 (s:=256) hx h256 (by rw[List.length_append]; omega) hW,?_⟩
  rintro _ H3 hn3 ⟨rfl,hW3,hS3⟩
  refine hR _ _ ?_
  have hfin:=hS0.trans ((hS.trans hS3).mono (fun b hb=>.inl hb))
  refine hfin.retP (r:=.tup []) gz ⟨rfl,?_,hfin⟩ gz
  rw[<- List.append_assoc]
  exact hW3.mono fun b hb=>.inl hb
end Go.Proofs.YtfokgjhdndnnhaaGreatDoor
end W6S
