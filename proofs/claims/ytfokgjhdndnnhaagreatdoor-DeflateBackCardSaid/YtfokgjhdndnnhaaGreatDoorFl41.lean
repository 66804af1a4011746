/- From what an argument reads as to what stands for it. -/
import Derived.Test.YtfokgjhdndnnhaaGreatDoorFl25
import Derived.ChangeArms
import Derived.DataReads
import Derived.Carry
import Derived.WideKeyArgs
set_option linter.unusedVariables false
set_option linter.unusedSimpArgs false
noncomputable section Fl26S
namespace Go.Fl
open Go
inductive Shp (P:Program):TypeId->List AV->Prop
 | int {t:TypeId} {k:IntKind} {n:Int} : P.underlying t=some (.int k)->k.min<=n->n<=k.max->Shp P t [.sc (.int k n)]
 | bool {t:TypeId} {b:Bool} : P.underlying t=some .bool->Shp P t [.sc (.bool b)]
 | str {t:TypeId} {s:ByteArray} : P.underlying t=some .string->s.size<=maxLen->Shp P t [.sc (.string s)]
 | sl {t e:TypeId} {rows:List (List AV)} : P.underlying t=some (.slice e)->rows.length<=maxLen->(∀ (i:Nat) (r:List AV),rows[i]? = some r->Shp P e r)->(∀ r∈rows,r.length=P.cellsOf e)->Shp P t [.vs rows.length (P.cellsOf e) rows.flatten]
 | st {t:TypeId} {fs:Array Field} {parts:List (List AV)} : P.underlying t=some (.struct fs)->parts.length=fs.size->(∀ (i:Nat) (f:Field) (p:List AV),fs[i]? = some f->parts[i]? = some p->Shp P f.type p)->(∀ (i:Nat) (f:Field) (p:List AV),fs[i]? = some f->parts[i]? = some p->p.length=P.cellsOf f.type)->Shp P t parts.flatten
def tile (P:Program):Nat->List Field->Option Nat
 | o,[]=>some o
 | o,f::r=>if f.offset=o then tile P (o+P.cellsOf f.type) r else none
def plainT (P:Program):Nat->TypeId->Bool
 | 0,_=>false
 | m+1,t=>match P.underlying t with
  | some (.int _)=>P.cellsOf t==1
  | some .bool=>P.cellsOf t==1
  | some .string=>P.cellsOf t==1
  | some (.slice e)=>P.cellsOf t==1&&Nat.ble 1 (P.cellsOf e)&&plainT P m e
  | some (.struct fs)=>tile P 0 fs.toList==some (P.cellsOf t)&&fs.toList.all fun f=>plainT P m f.type
  | _=>false
theorem qay {Q:Nat->List AV->Prop} : ∀ (n:Nat),(∀ i,i<n -> ∃ r,Q i r) -> ∃ rows:List (List AV),rows.length=n /\ ∀ (i:Nat) (r:List AV),rows[i]? = some r->Q i r
 | 0,_=>⟨[],rfl,fun i r h=>by simp at h⟩
 | n+1,h=>by
  obtain ⟨rows,h1,h2⟩:=qay n fun i hi=>h i oz
  obtain ⟨r,hr⟩:=h n oz
  refine ⟨rows ++ [r],by simp[h1],fun i x hx=>?_⟩
  by_cases hi:i<n
  ·rw[List.getElem?_append_left oz] at hx; exact h2 i x hx
  ·rw[List.getElem?_append_right oz] at hx
   have:i-rows.length=0:=by
    have:=(List.getElem?_eq_some_iff.1 hx).1
    simp at this; omega
   rw[this] at hx
   simp at hx
   subst hx
   have:i=n:=oz
   subst this; exact hr
theorem qcy {α : Type} {sz:Nat} : ∀ (rows:List (List α)),(∀ r∈rows,r.length=sz)->rows.flatten.length=rows.length*sz /\ ∀ (k:Nat) (x : α),rows.flatten[k]? = some x -> ∃ (i j:Nat) (r:List α),rows[i]? = some r/\r[j]? = some x/\j<sz/\k=i*sz+j
 | [],_=>⟨by simp,fun k x h=>by simp at h⟩
 | r::rest,h=>by
  obtain ⟨h1,h2⟩:=qcy rest fun r hr=>h r (List.mem_cons_of_mem _ hr)
  have hr:=h r List.mem_cons_self
  refine ⟨by simp[h1,hr,Nat.succ_mul]; omega,fun k x hx=>?_⟩
  rw[List.flatten_cons] at hx
  by_cases hk:k<r.length
  ·rw[List.getElem?_append_left hk] at hx
   exact ⟨0,k,r,rfl,hx,oz,oz⟩
  ·rw[List.getElem?_append_right oz] at hx
   obtain ⟨i,j,r',k1,k2,k3,k4⟩:=h2 _ _ hx
   exact ⟨i+1,j,r',by simpa using k1,k2,k3,by rw[Nat.succ_mul]; omega⟩
variable {H:Type} {enc:TypeId × Value->H} {P:Program} {w:World}
theorem qkr {P:Program} : ∀ (fs:List Field) (parts:List (List AV)) (o n:Nat),tile P o fs=some n->parts.length=fs.length->(∀ (i:Nat) (f:Field) (p:List AV),fs[i]? = some f->parts[i]? = some p->p.length=P.cellsOf f.type) ->
  o+parts.flatten.length=n /\ ∀ (k:Nat) (x:AV),parts.flatten[k]? = some x -> ∃ (i:Nat) (f:Field) (p:List AV) (j:Nat),fs[i]? = some f/\parts[i]? = some p/\p[j]? = some x/\o+k=f.offset+j
 | [],parts,o,n,h,hl,_=>by
  simp only[tile,Option.some.injEq] at h
  have:parts = []:=List.eq_nil_of_length_eq_zero hl
  subst this; subst h
  exact ⟨rfl,fun k x hx=>by simp at hx⟩
 | f::fs,parts,o,n,h,hl,hp=>by
  simp only[tile] at h
  split at h
  case isFalse=>cases h
  rename_i ho
  cases parts with
  | nil=>simp at hl
  | cons p parts =>
   obtain ⟨h1,h2⟩:=qkr fs parts _ n h (by simpa using hl) fun i f q hf hq=>hp (i+1) f q (by simpa using hf) (by simpa using hq)
   have hpl:=hp 0 f p rfl rfl
   refine ⟨by rw[List.flatten_cons,List.length_append]; omega,fun k x hx=>?_⟩
   rw[List.flatten_cons] at hx
   by_cases hk:k<p.length
   ·rw[List.getElem?_append_left hk] at hx
    exact ⟨0,f,p,k,rfl,rfl,hx,oz⟩
   ·rw[List.getElem?_append_right oz] at hx
    obtain ⟨i,f',p',j,k1,k2,k3,k4⟩:=h2 _ _ hx
    exact ⟨i+1,f',p',j,by simpa using k1,by simpa using k2,k3,oz⟩
abbrev VR0 (w:World):AV->Value->Prop:=VR (fun _=>none) (fun cb=>cb<w.heap.size) w.heap
theorem trod_shp : ∀ (fuel m:Nat) (t:TypeId) (cs:List Value) (x:DataW H × List MemPlace),plainT P m t=true->DataW.trod enc P w 0 (fun _=>true) true fuel t cs=some x ->
  ∃ avs:List AV,Shp P t avs/\avs.length=cs.length/\cs.length=P.cellsOf t /\ ∀ (i:Nat) (a:AV),avs[i]? = some a->VR0 w a (cs.getD i Go.undef):=by
 intro fuel
 induction fuel using Nat.strongRecOn with
 | _ fuel ih =>
 intro m t cs x hp h
 cases m with
 | zero=>simp[plainT] at hp
 | succ m =>
 simp only[plainT] at hp
 have one : ∀ (a:AV) (v:Value),VR0 w a v -> ∀ (i:Nat) (b:AV),[a][i]? = some b->VR0 w b ([v].getD i Go.undef):=by
  intro a v hv i b hb
  cases i with
  | zero=>simp at hb; subst hb; exact hv
  | succ i=>simp at hb
 split at hp
 ·rename_i k ht
  obtain ⟨n,rfl,rfl,hw⟩:=DataW.trod_int ht h
  simp only[Lit.wf,Bool.and_eq_true,decide_eq_true_eq] at hw
  exact ⟨_,.int ht hw.1 hw.2,rfl,(beq_iff_eq.1 hp).symm,one _ _ (.sc _)⟩
 ·rename_i ht
  obtain ⟨b,rfl,rfl⟩ : ∃ b,cs = [.bool b]/\x=(.lit (.bool b),[]):=by
   cases fuel with
   | zero=>simp[DataW.trod] at h
   | succ n =>
    unfold DataW.trod at h
    rw[ht] at h
    split at h <;> simp_all
  exact ⟨_,.bool ht,rfl,(beq_iff_eq.1 hp).symm,one _ _ (.sc _)⟩
 ·rename_i ht
  obtain ⟨s,rfl,rfl,hs⟩:=DataW.trod_string ht h
  exact ⟨_,.str ht hs,rfl,(beq_iff_eq.1 hp).symm,one _ _ (.sc _)⟩
 ·rename_i e ht
  simp only[Bool.and_eq_true,beq_iff_eq] at hp
  rcases DataW.trod_slice ht h with ⟨rfl,rfl⟩ | ⟨a,len,cap,elems,rest,n,rfl,rfl,rfl,_,hle,hmax,hel,hget,_,_⟩
  ·have:=Shp.sl (P:=P) (rows:=[]) ht (Nat.zero_le _) (fun i r hr=>by simp at hr) (fun r hr=>by cases hr)
   exact ⟨_,this,rfl,hp.1.1.symm,one _ _ (.vs0 fun _=>rfl)⟩
  ·have hrow : ∀ i,i<len -> ∃ r:List AV,Shp P e r/\r.length=P.cellsOf e/\(∃ vs,w.cells? 0 (a.add (i*P.cellsOf e)) (P.cellsOf e)=some vs /\ ∀ (j:Nat) (b:AV),r[j]? = some b->VR0 w b (vs.getD j Go.undef)):=by
    intro i hi
    have h1:=hget i hi
    cases hc:w.cells? 0 (a.add (i*P.cellsOf e)) (P.cellsOf e) with
    | none=>rw[hc,List.getElem?_eq_getElem oz] at h1; cases h1
    | some vs =>
     rw[hc,List.getElem?_eq_getElem oz] at h1
     obtain ⟨r,k1,k2,k3,k4⟩:=ih n (Nat.lt_succ_self n) m e vs _ hp.2 h1
     exact ⟨r,k1,oz,vs,rfl,k4⟩
   obtain ⟨rows,hl,hrows⟩:=qay len hrow
   have hlen : ∀ r∈rows,r.length=P.cellsOf e:=fun r hr=>by
    obtain ⟨i,hi⟩:=List.getElem?_of_mem hr
    exact (hrows i r hi).2.1
   obtain ⟨f1,f2⟩:=qcy rows hlen
   refine ⟨_,Shp.sl ht oz (fun i r hr=>(hrows i r hr).1) hlen,rfl,hp.1.1.symm,one _ _ ?_⟩
   cases hfl:rows.flatten with
   | nil =>
    by_cases hz:len=0
    ·subst hz
     have:rows = []:=List.eq_nil_of_length_eq_zero hl
     subst this
     exact .vs0 fun h=>by cases h
    ·rw[hfl,hl] at f1
     have h1:=Nat.le_of_ble_eq_true hp.1.2
     have h2:1*1<=len*P.cellsOf e:=Nat.mul_le_mul (Nat.pos_of_ne_zero hz) h1
     rw[List.length_nil] at f1
     omega
   | cons c0 cr =>
    have hpos:0<rows.flatten.length:=by rw[hfl]; simp
    have hsz:0<P.cellsOf e:=by
     rcases Nat.eq_zero_or_pos (P.cellsOf e) with h0 | h0
     ·rw[f1,h0] at hpos; omega
     ·exact h0
    have hlen0:0<len:=by
     rcases Nat.eq_zero_or_pos len with h0 | h0
     ·rw[f1,hl,h0] at hpos; omega
     ·exact h0
    have cell : ∀ i j,i<len->j<P.cellsOf e -> ∃ vs,w.cells? 0 (a.add (i*P.cellsOf e)) (P.cellsOf e)=some vs/\w.cell? ((a.add (i*P.cellsOf e)).add j)=vs[j]? /\ vs.length=P.cellsOf e:=by
     intro i j hi hj
     obtain ⟨r,hr⟩ : ∃ r,rows[i]? = some r:=⟨_,List.getElem?_eq_getElem oz⟩
     obtain ⟨_,_,vs,k1,_⟩:=hrows i r hr
     obtain ⟨_,m1,m2⟩:=World.cells?_some k1
     exact ⟨vs,k1,m2 j hj,m1⟩
    obtain ⟨vs0,_,c1,c2⟩:=cell 0 0 hlen0 hsz
    have e0:(a.add (0*P.cellsOf e)).add 0=a:=by simp[Addr.add]
    rw[e0,List.getElem?_eq_getElem oz] at c1
    unfold World.cell? at c1
    split at c1
    case h_2=>cases c1
    rename_i c et fz hb
    have hspot:a.spot=none:=by
     split at c1
     ·cases c1
     ·rename_i hn
      cases hs:a.spot with
      | none=>rfl
      | some _=>rw[hs] at hn; exact absurd rfl hn
    have at_ : ∀ i j,i<len->j<P.cellsOf e -> ∃ vs,w.cells? 0 (a.add (i*P.cellsOf e)) (P.cellsOf e)=some vs/\c[a.off+(i*P.cellsOf e+j)]? = vs[j]? /\ vs.length=P.cellsOf e:=by
     intro i j hi hj
     obtain ⟨vs,k1,k2,k3⟩:=cell i j hi hj
     refine ⟨vs,k1,?_,k3⟩
     have e1:(a.add (i*P.cellsOf e)).add j=⟨a.block,a.off+(i*P.cellsOf e+j),none⟩:=by
      obtain ⟨ab,ao,asp⟩:=a
      simp only at hspot; subst hspot
      unfold Addr.add
      split <;> split <;> simp_all <;> omega
     rw[e1] at k2
     unfold World.cell? at k2
     rw[hb] at k2
     simpa using k2
    obtain ⟨ab,ao,asp⟩:=a
    simp only at hspot hb at_
    subst hspot
    rw[<- hfl]
    have hbl:ab<w.heap.size:=(Array.getElem?_eq_some_iff.1 hb).1
    rw[hl]
    refine .vs hbl hle hb (by rw[f1,hl]) ?_ ?_
    ·obtain ⟨vs,_,k2,k3⟩:=at_ (len-1) (P.cellsOf e-1) oz oz
     rw[List.getElem?_eq_getElem oz] at k2
     have:=(Array.getElem?_eq_some_iff.1 k2).1
     rw[f1,hl]
     have e2:(len-1)*P.cellsOf e+P.cellsOf e=len*P.cellsOf e:=by
      rw[<- Nat.succ_mul]; congr 1; omega
     omega
    ·intro k b hkb
     obtain ⟨i,j,r,k1,k2,k3,rfl⟩:=f2 k b hkb
     have hi:i<len:=by have:=(List.getElem?_eq_some_iff.1 k1).1; omega
     obtain ⟨vs,m1,m2,m3⟩:=at_ i j hi k3
     obtain ⟨_,_,vs',m4,m5⟩:=hrows i r k1
     rw[m1] at m4; cases m4
     have:=m5 j b k2
     rw[List.getElem?_eq_getElem oz] at m2
     have e3:c.getD (ao+(i*P.cellsOf e+j)) Go.undef=vs.getD j Go.undef:=by
      rw[Array.getD_eq_getD_getElem?,m2]
      simp[List.getD_eq_getElem?_getD,List.getElem?_eq_getElem (show j<vs.length by omega)]
     rw[e3]; exact this
 ·rename_i fs ht
  simp only[Bool.and_eq_true,beq_iff_eq,List.all_eq_true] at hp
  obtain ⟨xs,n,rfl,rfl,hcl,hxl,hget⟩:=DataW.trod_struct ht h
  have hpart : ∀ i,i<fs.size -> ∃ r:List AV,∀ f,fs[i]? = some f->Shp P f.type r/\r.length=P.cellsOf f.type /\ ∀ (j:Nat) (b:AV),r[j]? = some b->VR0 w b (((cs.drop f.offset).take (P.cellsOf f.type)).getD j Go.undef):=by
   intro i hi
   have hf:fs[i]? = some fs[i]:=Array.getElem?_eq_getElem hi
   have h1:=hget i _ hf
   rw[List.getElem?_eq_getElem oz] at h1
   obtain ⟨r,k1,k2,k3,k4⟩:=ih n (Nat.lt_succ_self n) m _ _ _ (hp.2 fs[i] (by simp)) h1
   exact ⟨r,fun f hf'=>by rw[hf] at hf'; cases hf'; exact ⟨k1,oz,k4⟩⟩
  obtain ⟨parts,hl,hparts⟩:=qay fs.size hpart
  have hpl : ∀ (i:Nat) (f:Field) (p:List AV),fs.toList[i]? = some f->parts[i]? = some p->p.length=P.cellsOf f.type:=fun i f p hf hq=>(hparts i p hq f (by simpa using hf)).2.1
  obtain ⟨t1,t2⟩:=qkr fs.toList parts 0 _ hp.1 (by simpa using hl) hpl
  refine ⟨_,.st ht hl (fun i f p hf hq=>(hparts i p hq f hf).1) (fun i f p hf hq=>(hparts i p hq f hf).2.1),oz,hcl,fun k b hb=>?_⟩
  obtain ⟨i,f,p,j,k1,k2,k3,k4⟩:=t2 k b hb
  have:=(hparts i p k2 f (by simpa using k1)).2.2 j b k3
  have hj:j<P.cellsOf f.type:=by
   have h1:=(hparts i p k2 f (by simpa using k1)).2.1
   have h2:=(List.getElem?_eq_some_iff.1 k3).1
   omega
  have e:((cs.drop f.offset).take (P.cellsOf f.type)).getD j Go.undef=cs.getD k Go.undef:=by
   simp only[List.getD_eq_getElem?_getD]
   rw[List.getElem?_take_of_lt hj,List.getElem?_drop]
   congr 2; omega
  rw[e] at this; exact this
 ·cases hp
end Go.Fl
end Fl26S
noncomputable section Fl29S
namespace Go.Fl
open Go
theorem qf5 {P:Program} {f:FuncId} {args args' : List AV} {H H' H'' : Heap} {r:AV} (hle:H'.le H) (hn:H.next=H'.next) (ha:FrozL H (fun b=>H'.get b=none) args args') (h:SCalls P f args' H' r H''):SCalls P f args H r H'':=by
 refine ⟨h.1,by rw[hn]; exact h.2.1,fun ρ I w cargs hrel hargs=>?_⟩
 have hrel' : Rel ρ (keptBy ρ I H H') H' w.heap:=hrel.keep hle oz
 have hargs' : VRs ρ (keptBy ρ I H H') w.heap args' cargs:=by
  refine ⟨by rw[<- ha.get.1]; exact hargs.1,fun i x hx=>?_⟩
  have hi:i<args.length:=by rw[ha.get.1]; exact (List.getElem?_eq_some_iff.1 hx).1
  have hy:args[i]? = some args[i]:=List.getElem?_eq_getElem hi
  exact (ha.get.2 i x _ hx hy).vr hrel (hargs.2 i _ hy)
 refine (h.2.2 _ _ w cargs hrel' hargs').mono ?_
 rintro e w' ⟨v,ρ',I',he,hv,hr',hx⟩
 refine ⟨v,ρ',I',he,hv,hr',{ hx with imm:=fun cb hcb=>hx.imm cb (.inl hcb),kept:=fun cb hcb=>hx.kept cb (.inl hcb),newI:=fun cb hcb=>?_ }⟩
 rcases hx.newI cb hcb with h1 | h1 | h1
 ·rcases h1 with h1 | ⟨b,cs,base,_,_,h4⟩
  ·exact .inl h1
  ·exact .inr (.inr ⟨_,_,h4⟩)
 ·exact .inr (.inl h1)
 ·exact .inr (.inr h1)
theorem qaz {P:Program} {f:FuncId} {args' : List AV} {r:AV} (h:SCalls P f args' Heap.empty r Heap.empty) (ha' : ∀ x∈args',x.Lt 0) (hr:r.Lt 0) {H:Heap} {args:List AV} {b:Nat} (ha:FrozL H (fun k=>(H.del b).get k=none) args args'):SCalls P f args H r (H.del b) :=
 qf5 (H':=H.del b) (fun k cs hk=>by rw[Heap.get_del] at hk; split at hk; cases hk; exact hk) rfl ha (qO h ha' hr _)
end Go.Fl
end Fl29S
noncomputable section Fl30S
namespace Go.Fl
open Go
end Go.Fl
end Fl30S
noncomputable section Fl31S
namespace Go.Fl
open Go
end Go.Fl
end Fl31S
noncomputable section Fl32S
namespace Go.Fl
open Go
section
variable {P:Program} {t:TypeId} {avs:List AV}
theorem Shp.int_inv {k:IntKind} (hu:P.underlying t=some (.int k)) (h:Shp P t avs) : ∃ n:Int,avs = [.sc (.int k n)]/\k.min<=n/\n<=k.max:=by
 cases h with
 | int h1 h2 h3=>rw[hu] at h1; cases h1; exact ⟨_,rfl,h2,h3⟩
 | bool h1=>rw[hu] at h1; cases h1
 | str h1 _=>rw[hu] at h1; cases h1
 | sl h1 _ _ _=>rw[hu] at h1; cases h1
 | st h1 _ _ _=>rw[hu] at h1; cases h1
theorem Shp.sl_inv {e:TypeId} (hu:P.underlying t=some (.slice e)) (h:Shp P t avs) : ∃ rows:List (List AV),avs = [.vs rows.length (P.cellsOf e) rows.flatten]/\rows.length<=maxLen /\ ∀ r∈rows,Shp P e r:=by
 cases h with
 | int h1 h2 h3=>rw[hu] at h1; cases h1
 | bool h1=>rw[hu] at h1; cases h1
 | str h1 h2=>rw[hu] at h1; cases h1
 | sl h1 h2 h3 _ =>
  rw[hu] at h1; cases h1
  refine ⟨_,rfl,h2,fun r hr=>?_⟩
  obtain ⟨i,hi⟩:=List.getElem?_of_mem hr
  exact h3 i r hi
 | st h1 _ _ _=>rw[hu] at h1; cases h1
theorem qks {α : Type} {f : α -> List AV} {Q : α -> Prop} : ∀ (rows:List (List AV)),(∀ r∈rows,∃ x,r=f x/\Q x) -> ∃ xs:List α,rows=xs.map f /\ ∀ x∈xs,Q x
 | [],_=>⟨[],rfl,fun x hx=>by cases hx⟩
 | r::rest,h=>by
  obtain ⟨xs,h1,h2⟩:=qks rest fun r hr=>h r (List.mem_cons_of_mem _ hr)
  obtain ⟨x,h3,h4⟩:=h r List.mem_cons_self
  refine ⟨x::xs,by rw[List.map_cons,<- h1,<- h3],fun y hy=>?_⟩
  rcases List.mem_cons.1 hy with rfl | hy
  ·exact h4
  ·exact h2 y hy
theorem qa1 {α : Type} (f : α -> List AV) (xs:List α):(xs.map f).flatten=xs.flatMap f:=by
 rw[List.flatMap_def]
theorem Shp.sl_map {α : Type} {e:TypeId} {f : α -> List AV} {Q : α -> Prop} (hu:P.underlying t=some (.slice e)) (hr : ∀ r,Shp P e r -> ∃ x,r=f x/\Q x) (h:Shp P t avs) : ∃ xs:List α,avs = [.vs xs.length (P.cellsOf e) (xs.flatMap f)]/\xs.length<=maxLen /\ ∀ x∈xs,Q x:=by
 obtain ⟨rows,h1,h2,h3⟩:=h.sl_inv hu
 obtain ⟨xs,h4,h5⟩:=qks rows fun r hr'=>hr r (h3 r hr')
 subst h4
 refine ⟨xs,by rw[h1,List.length_map,qa1],by simpa using h2,h5⟩
end
end Go.Fl
end Fl32S
noncomputable section Fl33S
namespace Go.Fl
open Go Go.RowKit Go.ChangeShapes
variable {H:Type} {enc:TypeId × Value->H} {P:Program} {t:TypeId} {W W' : World} {v:Value} {d:DataW H} {ps:List MemPlace}
theorem Kept.block {w w' : World} (h:Kept w w') {i:Nat} (hi:i<w.heap.size):w'.heap[i]? = w.heap[i]?:=h.1.block hi fun _ hp=>hp.elim
theorem Kept.same {w w' : World} (h:Kept w w') {p:MemPlace} (hp:p.block<w.heap.size):w.sameAt w' p:=by
 cases p with
 | cell b o=>exact World.cell?_of_block (w:=w) (h.block hp)
 | map b=>exact h.block hp
theorem Kept.trod {sp:Nat->Bool} (hk:Kept W W') (hl:laidOutB P=true) (hr:P.readableRec t=true) (hrow:t<P.types.size) (h:DataW.Trod enc P W 0 (fun _=>true) true t v d ps) (hsp : ∀ x∈ps,sp x.block=true):DataW.Trod enc P W' 0 sp true t v d ps:=by
 refine WideElems.Trod_stays hl hr hrow h (fun x hx=>hk.same ?_) hsp
 obtain ⟨n,hn⟩:=h
 exact DataW.trod_lt n _ _ _ hn x hx
theorem arg_shp {m:Nat} (hp:plainT P m t=true) (h:DataW.Trod enc P W 0 (fun _=>true) true t v d ps) : ∃ avs:List AV,Shp P t avs/\avs.length=v.cells.toList.length /\ ∀ (i:Nat) (a:AV),avs[i]? = some a->VR0 W a (v.cells.toList.getD i Go.undef):=by
 obtain ⟨n,hn⟩:=h
 obtain ⟨avs,h1,h2,_,h3⟩:=trod_shp n m t _ _ hp hn
 exact ⟨avs,h1,h2,h3⟩
theorem arg_slice {e:TypeId} (hu:P.underlying t=some (.slice e)) {rc:Reach} {b0:Nat} (hv:Value.okWide P W rc b0 t v):v.cells.toList = [v]:=by
 simp only[Value.okWide,hu,Cell.okWide] at hv
 cases v <;> simp_all [Cell.ok,Value.cells]
theorem arg_cell {m:Nat} (hp:plainT P m t=true) (hc:v.cells.toList = [v]) (h:DataW.Trod enc P W 0 (fun _=>true) true t v d ps) : ∃ a:AV,Shp P t [a]/\VR0 W a v:=by
 obtain ⟨avs,h1,h2,h3⟩:=arg_shp hp h
 rw[hc] at h2 h3
 match avs,h2 with
 | [a],_=>exact ⟨a,h1,h3 0 a rfl⟩
theorem vrs_two {a a' : AV} {v' : Value} (h:VR0 W a v) (h' : VR0 W a' v'):VRs (fun _=>none) (fun cb=>cb<W.heap.size) W.heap [a,a'] #[v,v']:=by
 refine ⟨rfl,fun i x hx=>?_⟩
 rcases i with _ | _ | i
 ·simp at hx; subst hx; exact h
 ·simp at hx; subst hx; exact h'
 ·simp at hx
end Go.Fl
end Fl33S
noncomputable section Fl34S
namespace Go.Fl
open Go
section
variable {P:Program} {sz:Nat} {ops:Array Oper}
def WKOp (P:Program) (ops:Array Oper) (o:Oper) (K:Env->Heap->Prop) (env:Env) (H:Heap):Prop :=
 match awanted ops o env with
 | none=>False
 | some false=>K (env.upd o.dst .undef) H
 | some true =>
  if isP o=true then match aop P o (aev env) H with
   | some (x,_)=>K (env.upd o.dst x) H
   | none=>False
  else if isL o=true then match aop P o (aev env) H with
   | some (x,_)=>(∀ H2,aop P o (aev env) H2=some (x,H2))/\K (env.upd o.dst x) H
   | none=>False
  else WStep P o env H fun x H'=>K (env.upd o.dst x) H'
def WKOps (P:Program) (ops:Array Oper) (Q:Exit->Env->Heap->Prop):List Oper->Env->Heap->Prop
 | [],env,H=>Q .normal env H
 | o::rest,env,H=>WKOp P ops o (WKOps P ops Q rest) env H
theorem WStep.mono {o:Oper} {env:Env} {H:Heap} {K K' : AV->Heap->Prop} (hk : ∀ x H,K x H->K' x H) (h:WStep P o env H K):WStep P o env H K':=by
 unfold WStep at h |-
 split at h
 ·split at h
  ·obtain ⟨r,H',h1,h2⟩:=h
   exact ⟨r,H',h1,hk _ _ h2⟩
  ·exact h.elim
 ·split at h
  ·exact hk _ _ h
  ·exact h.elim
theorem WKOp.mono {o:Oper} {env:Env} {H:Heap} {K K' : Env->Heap->Prop} (hk : ∀ x H,K x H->K' x H) (h:WKOp P ops o K env H):WKOp P ops o K' env H:=by
 unfold WKOp at h |-
 cases ha:awanted ops o env with
 | none=>simp only[ha] at h
 | some b =>
  cases b with
  | false=>simp only[ha] at h |-; exact hk _ _ h
  | true =>
   simp only[ha] at h |-
   by_cases hp:isP o=true
   ·simp only[hp,if_true] at h |-
    cases hx:aop P o (aev env) H with
    | none=>simp only[hx] at h
    | some y=>simp only[hx] at h |-; exact hk _ _ h
   ·by_cases hL:isL o=true
    ·simp only[hp,hL,if_true,Bool.false_eq_true,if_false] at h |-
     cases hx:aop P o (aev env) H with
     | none=>simp only[hx] at h
     | some y=>simp only[hx] at h |-; exact ⟨h.1,hk _ _ h.2⟩
    ·simp only[hp,hL,Bool.false_eq_true,if_false] at h |-
     exact h.mono fun x H' h'=>hk _ _ h'
theorem WKOps.append {Q:Exit->Env->Heap->Prop} {l2:List Oper} : ∀ {l1:List Oper} {env:Env} {H:Heap},WKOps P ops (thenA (WKOps P ops Q l2) Q) l1 env H->WKOps P ops Q (l1++l2) env H
 | [],_,_,h=>h
 | _::_,_,_,h=>WKOp.mono (fun _ _ h=>WKOps.append h) h
theorem WOp.mono {o:Oper} {env:Env} {H:Heap} {K K' : Env->Heap->Prop} (hk : ∀ x H,K x H->K' x H) (h:WOp P ops o K env H):WOp P ops o K' env H:=by
 obtain ⟨dst,op,type,pos,after,guard⟩:=o
 unfold WOp at h |-
 cases ha:awanted ops ⟨dst,op,type,pos,after,guard⟩ env with
 | none=>simp only[ha] at h
 | some b =>
  cases b with
  | false=>simp only[ha] at h |-; exact hk _ _ h
  | true =>
   simp only[ha] at h |-
   have plain:(match aop P ⟨dst,op,type,pos,after,guard⟩ (aev env) H with
    | some (x,H')=>K (env.upd dst x) H'
    | none=>False)->(match aop P ⟨dst,op,type,pos,after,guard⟩ (aev env) H with
    | some (x,H')=>K' (env.upd dst x) H'
    | none=>False):=by
    intro h
    cases hx:aop P ⟨dst,op,type,pos,after,guard⟩ (aev env) H with
    | none=>simp only[hx] at h
    | some y=>simp only[hx] at h |-; exact hk _ _ h
   cases op
   case call c =>
    obtain ⟨callee,args,argTypes⟩:=c
    cases callee
    case value f =>
     simp only at h |-
     cases hf:aev env f <;> simp only[hf] at h |-
     rename_i fr first captured
     cases fr <;> simp only at h |-
     obtain ⟨r,H',h1,h2⟩:=h
     exact ⟨r,H',h1,hk _ _ h2⟩
    all_goals exact plain h
   all_goals exact plain h
theorem WOps.append {Q:Exit->Env->Heap->Prop} {l2:List Oper} : ∀ {l1:List Oper} {env:Env} {H:Heap},WOps P ops (thenA (WOps P ops Q l2) Q) l1 env H->WOps P ops Q (l1++l2) env H
 | [],_,_,h=>h
 | _::_,_,_,h=>WOp.mono (fun _ _ h=>WOps.append h) h
theorem qI (n:Nat) {Q:Exit->Env->Heap->Prop} {l:List Oper} {env:Env} {H:Heap} (h : ∀ K:Env->Heap->Prop,(∀ env H,WOps P ops Q (l.drop n) env H->K env H)->WOps P ops (thenA K Q) (l.take n) env H):WOps P ops Q l env H:=by
 have:=WOps.append (h _ fun _ _ h=>h)
 rwa [List.take_append_drop] at this
end
attribute [go_sem] WKOps WKOp List.take_succ_cons List.drop_succ_cons List.take_zero List.drop_zero
end Go.Fl
end Fl34S
noncomputable section Fl35S
namespace Go.Fl
open Go
theorem qcz {P:Program} {sz:Nat} {c:Code} {Q:Exit->Env->Heap->Prop} {env env' : Env} {H H' : Heap} (hle:H'.le H) (hn:H.next=H'.next) (hf : ∀ i,Froz H (fun b=>H'.get b=none) (env i) (env' i)) (h:SCode P sz c Q env' H'):SCode P sz c Q env H:=by
 intro ρ I w a Q' hrel he hQ
 have hrel' : Rel ρ (keptBy ρ I H H') H' w.heap:=hrel.keep hle oz
 refine h ρ _ w a Q' hrel' ⟨he.size,he.defers,fun i=>(hf i).vr hrel (he.val i),hrel'.glob⟩ ?_
 rintro e a' w' ⟨env1,H1,ρ',I',h1,h2,h3,hx⟩
 refine hQ e a' w' ⟨env1,H1,ρ',I',h1,h2,h3,{ hx with imm:=fun cb hcb=>hx.imm cb (.inl hcb),kept:=fun cb hcb=>hx.kept cb (.inl hcb),newI:=fun cb hcb=>?_ }⟩
 rcases hx.newI cb hcb with h1 | h1 | h1
 ·rcases h1 with h1 | ⟨b,cs,base,_,_,h4⟩
  ·exact .inl h1
  ·exact .inr (.inr ⟨_,_,h4⟩)
 ·exact .inr (.inl h1)
 ·exact .inr (.inr h1)
theorem yu {P:Program} {sz:Nat} {c:Code} {Q:Exit->Env->Heap->Prop} {env:Env} {H:Heap} (i b len n:Nat) {cs:List AV} (hb:H.get b=some cs) (hi:env i = .ms b 0 len n) (hl:len*n=cs.length) (h:SCode P sz c Q (env.upd (some i) (.vs len n cs)) (H.del b)):SCode P sz c Q env H:=by
 refine qcz (H':=H.del b) (fun k cs hk=>by rw[Heap.get_del] at hk; split at hk; cases hk; exact hk) rfl (fun j=>?_) h
 by_cases hj:i=j
 ·subst hj
  rw[upd_same,hi]
  exact Froz.row hb (by simp[Heap.get_del]) oz (by rw[List.drop_zero,List.take_of_length_le oz])
 ·rw[upd_ne _ _ _ _ hj]
  exact .same _
theorem qdz {P:Program} {sz:Nat} {c:Code} {Q:Exit->Env->Heap->Prop} {env:Env} {H:Heap} (F:Env->Heap->Prop) (hF:F env H) (h : ∀ env H,F env H->SCode P sz c Q env H):SCode P sz c Q env H:=h env H hF
end Go.Fl
end Fl35S
noncomputable section Fl36S
namespace Go.Fl
open Go
section
variable {P:Program} {sz:Nat} {ops:Array Oper}
def WSOp (P:Program) (ops:Array Oper) (o:Oper) (K:Env->Heap->Prop) (env:Env) (H:Heap):Prop :=
 match awanted ops o env with
 | none=>False
 | some false=>K (env.upd o.dst .undef) H
 | some true =>
  if isP o=true then match aop P o (aev env) H with
   | some (x,_)=>K (env.upd o.dst x) H
   | none=>False
  else if isL o=true then match aop P o (aev env) H with
   | some (x,H')=>H' = H/\K (env.upd o.dst x) H
   | none=>False
  else WStep P o env H fun x H'=>H' = H/\K (env.upd o.dst x) H
def WSOps (P:Program) (ops:Array Oper) (Q:Exit->Env->Heap->Prop):List Oper->Env->Heap->Prop
 | [],env,H=>Q .normal env H
 | o::rest,env,H=>WSOp P ops o (WSOps P ops Q rest) env H
theorem WSOp.mono {o:Oper} {env:Env} {H:Heap} {K K' : Env->Heap->Prop} (hk : ∀ x H,K x H->K' x H) (h:WSOp P ops o K env H):WSOp P ops o K' env H:=by
 unfold WSOp at h |-
 cases ha:awanted ops o env with
 | none=>simp only[ha] at h
 | some b =>
  cases b with
  | false=>simp only[ha] at h |-; exact hk _ _ h
  | true =>
   simp only[ha] at h |-
   by_cases hp:isP o=true
   ·simp only[hp,if_true] at h |-
    cases hx:aop P o (aev env) H with
    | none=>simp only[hx] at h
    | some y=>simp only[hx] at h |-; exact hk _ _ h
   ·by_cases hL:isL o=true
    ·simp only[hp,hL,if_true,Bool.false_eq_true,if_false] at h |-
     cases hx:aop P o (aev env) H with
     | none=>simp only[hx] at h
     | some y=>simp only[hx] at h |-; exact ⟨h.1,hk _ _ h.2⟩
    ·simp only[hp,hL,Bool.false_eq_true,if_false] at h |-
     exact h.mono fun x H' h'=>⟨h'.1,hk _ _ h'.2⟩
theorem yw {bf:List Nat} {Q:Exit->Env->Heap->Prop} : ∀ (rest:List Oper) (i:Nat) (st:List (Nat × Heap)) (ld:List (Nat × Oper × Env × AV)) (env:Env) (H:Heap),
  (∀ c Hc,(c,Hc)∈st->Hc=H)->(∀ y q e x,(y,q,e,x)∈ld->aop P q (aev e) H=some (x,H))->WSOps P ops Q rest env H->WDraw P ops bf i rest st ld Q env H
 | [],i,st,ld,env,H,_,_,h=>h
 | o::rest,i,st,ld,env,H,hst,hld,h=>by
  have hl : ∀ (l:List (Nat × Oper × Env × AV)),(∀ y q e x,(y,q,e,x)∈l->aop P q (aev e) H=some (x,H))->ldOk P bf i H l:=by
   intro l
   induction l with
   | nil=>intro _; trivial
   | cons a l ih =>
    obtain ⟨y,q,e,x⟩:=a
    intro hl
    exact ⟨.inr (hl y q e x List.mem_cons_self),ih (fun y q e x hm=>hl y q e x (List.mem_cons_of_mem _ hm))⟩
  simp only[WSOps,WSOp] at h
  simp only[WDraw]
  cases ha:awanted ops o env with
  | none=>simp only[ha] at h
  | some b =>
   cases b with
   | false=>simp only[ha] at h |-; exact yw rest _ st ld _ H hst hld h
   | true =>
    simp only[ha] at h |-
    by_cases hp:isP o=true
    ·simp only[hp,if_true] at h |-
     cases hx:aop P o (aev env) H with
     | none=>simp only[hx] at h
     | some y=>simp only[hx] at h |-; exact yw rest _ st ld _ H hst hld h
    ·by_cases hL:isL o=true
     ·simp only[hp,hL,if_true,Bool.false_eq_true,if_false] at h |-
      cases hx:aop P o (aev env) H with
      | none=>simp only[hx] at h
      | some y =>
       obtain ⟨x,H'⟩:=y
       simp only[hx] at h |-
       obtain ⟨rfl,h⟩:=h
       refine ⟨?_,yw rest _ st _ _ _ hst ?_ h⟩
       ·have : ∀ (l:List (Nat × Heap)),(∀ c Hc,(c,Hc)∈l->Hc=H')->stOk P bf i o env x l:=by
         intro l
         induction l with
         | nil=>intro _; trivial
         | cons a l ih =>
          intro hl
          obtain ⟨c,Hc⟩:=a
          refine ⟨.inr ?_,ih fun c Hc hm=>hl c Hc (List.mem_cons_of_mem _ hm)⟩
          rw[hl c Hc List.mem_cons_self]
          exact hx
        exact this st hst
       ·intro y q e x' hm
        rcases List.mem_cons.1 hm with e1 | hm
        ·cases e1; exact hx
        ·exact hld y q e x' hm
     ·simp only[hp,hL,Bool.false_eq_true,if_false] at h |-
      refine h.mono fun x H' h'=>?_
      obtain ⟨rfl,h'⟩:=h'
      refine ⟨hl ld hld,yw rest _ _ ld _ _ ?_ hld h'⟩
      intro c Hc hm
      rcases List.mem_cons.1 hm with e1 | hm
      ·cases e1; rfl
      ·exact hst c Hc hm
theorem qJ {id:Nat} {Q:Exit->Env->Heap->Prop} {env:Env} {H:Heap} (hm:P.follows .mixedOrders=true) (hk:drawOk sz ops=true) (h:WSOps P ops Q ops.toList env H):SCode P sz (.region id ops true) Q env H :=
 qZ (bf:=(Region.before ops).toList) hm hk (by simp) (yw _ _ _ _ _ _ (fun c Hc hm=>by cases hm) (fun y q e x hm=>by cases hm) h)
theorem WSOps.append {Q:Exit->Env->Heap->Prop} {l2:List Oper} : ∀ {l1:List Oper} {env:Env} {H:Heap},WSOps P ops (thenA (WSOps P ops Q l2) Q) l1 env H->WSOps P ops Q (l1++l2) env H
 | [],_,_,h=>h
 | _::_,_,_,h=>WSOp.mono (fun _ _ h=>WSOps.append h) h
theorem jS (n:Nat) {Q:Exit->Env->Heap->Prop} {l:List Oper} {env:Env} {H:Heap} (h : ∀ K:Env->Heap->Prop,(∀ env H,WSOps P ops Q (l.drop n) env H->K env H)->WSOps P ops (thenA K Q) (l.take n) env H):WSOps P ops Q l env H:=by
 have:=WSOps.append (h _ fun _ _ h=>h)
 rwa [List.take_append_drop] at this
end
attribute [go_sem] WSOps WSOp
end Go.Fl
end Fl36S
noncomputable section Fl37S
namespace Go.Fl
open Go
section
variable {P:Program} {sz:Nat} {ops:Array Oper} {bf:List Nat}
def WDrawC (P:Program) (ops:Array Oper) (bf:List Nat):Nat->List Oper->List (Nat × Heap)->List (Nat × Oper × Env × AV)->(List (Nat × Heap)->List (Nat × Oper × Env × AV)->Env->Heap->Prop)->Env->Heap->Prop
 | _,[],st,ld,K,env,H=>K st ld env H
 | i,o::rest,st,ld,K,env,H=>match awanted ops o env with
  | none=>False
  | some false=>WDrawC P ops bf (i+1) rest st ld K (env.upd o.dst .undef) H
  | some true =>
   if isP o=true then match aop P o (aev env) H with
    | some (x,_)=>WDrawC P ops bf (i+1) rest st ld K (env.upd o.dst x) H
    | none=>False
   else if isL o=true then match aop P o (aev env) H with
    | some (x,_)=>stOk P bf i o env x st/\WDrawC P ops bf (i+1) rest st ((i,o,env,x)::ld) K (env.upd o.dst x) H
    | none=>False
   else WStep P o env H fun x H'=>ldOk P bf i H' ld/\WDrawC P ops bf (i+1) rest ((i,H)::st) ld K (env.upd o.dst x) H'
theorem WDrawC.append {Q:Exit->Env->Heap->Prop} {l2:List Oper} : ∀ {l1:List Oper} {i:Nat} {st:List (Nat × Heap)} {ld:List (Nat × Oper × Env × AV)} {env:Env} {H:Heap},
  WDrawC P ops bf i l1 st ld (fun st ld env H=>WDraw P ops bf (i+l1.length) l2 st ld Q env H) env H->WDraw P ops bf i (l1++l2) st ld Q env H
 | [],i,st,ld,env,H,h=>h
 | o::l1,i,st,ld,env,H,h=>by
  have e:i+(o::l1).length=i+1+l1.length:=by simp; omega
  rw[e] at h
  simp only[WDrawC] at h
  simp only[List.cons_append,WDraw]
  cases ha:awanted ops o env with
  | none=>simp only[ha] at h
  | some b =>
   cases b with
   | false=>simp only[ha] at h |-; exact WDrawC.append h
   | true =>
    simp only[ha] at h |-
    by_cases hp:isP o=true
    ·simp only[hp,if_true] at h |-
     cases hx:aop P o (aev env) H with
     | none=>simp only[hx] at h
     | some y=>simp only[hx] at h |-; exact WDrawC.append h
    ·by_cases hL:isL o=true
     ·simp only[hp,hL,if_true,Bool.false_eq_true,if_false] at h |-
      cases hx:aop P o (aev env) H with
      | none=>simp only[hx] at h
      | some y =>
       simp only[hx] at h |-
       exact ⟨h.1,WDrawC.append h.2⟩
     ·simp only[hp,hL,Bool.false_eq_true,if_false] at h |-
      exact h.mono fun x H' h'=>⟨h'.1,WDrawC.append h'.2⟩
theorem jD (n:Nat) {Q:Exit->Env->Heap->Prop} {i:Nat} {l:List Oper} {st:List (Nat × Heap)} {ld:List (Nat × Oper × Env × AV)} {env:Env} {H:Heap} (hn:n<=l.length)
  (h : ∀ K:List (Nat × Heap)->List (Nat × Oper × Env × AV)->Env->Heap->Prop,(∀ st ld env H,WDraw P ops bf (i+n) (l.drop n) st ld Q env H->K st ld env H)->WDrawC P ops bf i (l.take n) st ld K env H):WDraw P ops bf i l st ld Q env H:=by
 have e:(l.take n).length=n:=by rw[List.length_take,Nat.min_eq_left hn]
 have:=WDrawC.append (Q:=Q) (l2:=l.drop n) (l1:=l.take n) (i:=i) (st:=st) (ld:=ld) (env:=env) (H:=H) (by rw[e]; exact h _ fun _ _ _ _ h=>h)
 rwa [List.take_append_drop] at this
end
attribute [go_sem] WDrawC
end Go.Fl
end Fl37S
noncomputable section Fl38S
namespace Go.Fl
open Go
theorem qw {P:Program} {sz:Nat} {x y:Code} {Q:Exit->Env->Heap->Prop} {env:Env} {H:Heap} (F:Env->Heap->Prop) (h1:SCode P sz x (thenA F Q) env H) (h2 : ∀ env H,F env H->SCode P sz y Q env H):SCode P sz (.seq x y) Q env H :=
 qg fun K hK=>qnn F h1 fun env H h=>hK _ _ (h2 _ _ h)
end Go.Fl
end Fl38S
noncomputable section Fl39S
namespace Go.Fl
open Go
end Go.Fl
end Fl39S
noncomputable section Fl40S
namespace Go.Fl
open Go
abbrev Pend:=List (AV × AV)
def Pend.ok (E:Pend):Prop := ∀ p∈E,p.1=p.2
abbrev PCall:=FuncId->List AV->Heap->Option (AV × Heap × Pend)
section
variable (call:PCall) (P:Program) (sz:Nat)
end
section
variable {call:PCall} {P:Program} {sz:Nat}
end
end Go.Fl
end Fl40S
noncomputable section Fl41S
namespace Go.Fl
open Go
def Heap.one (cs:List AV):Heap:=Heap.empty.alloc cs
inductive AtB (b:Nat):AV->AV->Prop
 | ptr (o:Nat):AtB b (.ptr 0 o) (.ptr b o)
 | ms (off len sz:Nat):AtB b (.ms 0 off len sz) (.ms b off len sz)
 | same {x:AV} : x.Lt 0->AtB b x x
inductive AtBs (b:Nat):List AV->List AV->Prop
 | nil:AtBs b [] []
 | cons {x y:AV} {xs ys:List AV} : AtB b x y->AtBs b xs ys->AtBs b (x::xs) (y::ys)
theorem AtBs.get {b:Nat} {xs ys:List AV} (h:AtBs b xs ys):xs.length=ys.length /\ ∀ (i:Nat) (x:AV),xs[i]? = some x -> ∃ y,ys[i]? = some y/\AtB b x y:=by
 induction h with
 | nil=>exact ⟨rfl,fun i x hx=>by simp at hx⟩
 | cons h1 _ ih =>
  refine ⟨by simp[ih.1],fun i x hx=>?_⟩
  cases i with
  | zero=>simp at hx; subst hx; exact ⟨_,rfl,h1⟩
  | succ i=>exact ih.2 i x (by simpa using hx)
theorem VR.plain {ρ ρ' : Rho} {I:Nat->Prop} {hp:Array Obj} {x:AV} {v:Value} (hx:x.Lt 0) (h:VR ρ I hp x v):VR ρ' I hp x v:=by
 have h1:=h.lower hx
 rw[qce] at h1
 exact h1.mono' (fun b p hb=>by cases hb) (fun _ h=>h) (fun _ _=>rfl) (fun _ c _ fz h=>⟨c,fz,h,rfl⟩)
end Go.Fl
end Fl41S
