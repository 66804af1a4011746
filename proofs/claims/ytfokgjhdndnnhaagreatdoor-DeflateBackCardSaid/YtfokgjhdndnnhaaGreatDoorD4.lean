/- Contract: a table is made. -/
import Derived.Test.YtfokgjhdndnnhaaGreatDoorD3
set_option maxHeartbeats 1000000
set_option linter.unusedVariables false
set_option linter.unusedSimpArgs false
set_option maxRecDepth 20000
noncomputable section W10S
namespace Go.Proofs.YtfokgjhdndnnhaaGreatDoor
open Go Go.Fl Go.Proofs
theorem qdr (x:Nat) (l:List Nat) : ∀ n,asum (x::l) n=asum l n+(if x≠0/\x<=n then 1 else 0)
 | 0=>by simp only[asum]; rw[if_neg oz]
 | n+1=>by
  simp only[asum]
  rw[qdr x l n,qki]
  by_cases h0:x=0
  ·rw[if_neg oz,if_neg oz,if_neg oz]; omega
  ·by_cases h1:x<=n
   ·rw[if_pos ⟨h0,h1⟩,if_neg oz,if_pos ⟨h0,oz⟩]; omega
   ·by_cases h2:x=n+1
    ·rw[if_neg oz,if_pos ⟨oz,h2⟩,if_pos ⟨h0,oz⟩]; omega
    ·rw[if_neg oz,if_neg oz,if_neg oz]; omega
theorem asum_le (l:List Nat) (n:Nat):asum l n<=l.length:=by
 induction l with
 | nil =>
  have : ∀ n,asum [] n=0:=fun n=>by
   induction n with
   | zero=>rfl
   | succ n ih=>simp[asum,ih,cnt]
  rw[this]; exact Nat.le_refl _
 | cons x l ih =>
  rw[qdr,List.length_cons]
  split <;> omega
theorem qnc (cs:List Nat):cntC (cs ++ [0])=cntC cs:=by
 unfold cntC
 apply List.map_congr_left
 intro k _
 have:cnt (cs ++ [0]) k=cnt cs k:=by
  unfold cnt
  by_cases hk:k=0
  ·rw[if_pos hk,if_pos hk]
  ·rw[if_neg hk,if_neg hk,List.count_append]
   have : ¬ (0==k)=true:=by simp; omega
   simp[this,List.count_cons]
   try omega
 rw[this]
theorem tbC_zero (lens cs:List Nat) (C:Nat) (x:AV):tbC lens (cs ++ [0]) C x=tbC lens cs C x:=by unfold tbC; rw[qnc]
theorem FrozL.same {H:Heap} {d:Nat->Prop} : ∀ (l:List AV),FrozL H d l l
 | []=>.nil
 | x::l=>.cons (.same x) (FrozL.same l)
theorem FrozL.app {H:Heap} {d:Nat->Prop} {a a' b b' : List AV} (h:FrozL H d a a') (k:FrozL H d b b'):FrozL H d (a++b) (a' ++ b'):=by
 induction h with
 | nil=>exact k
 | cons h1 _ ih=>exact .cons h1 ih
theorem tab_froz {S:Nat->Prop} {H:Heap} {T C:Nat} {lens:List Nat} {d:Nat->Prop} (hd : ∀ b,d b) (h:TbS S H T C lens (codesL lens) (ordU lens 15)):Froz H d (.ptr T 0) (tabA lens):=by
 obtain ⟨x,_,_,_,gT,gC,hcl,_,hx,_⟩:=h
 have hL:FrozL H d (tbC lens lens C x) (tabC lens):=by
  unfold tbC tabC
  refine FrozL.app (FrozL.app (.cons (.same _) (.cons (.same _) (.cons ?_ .nil))) (FrozL.same _)) (.cons ?_ .nil)
  ·unfold iA
   rw[zQ]
   exact Froz.row gC (hd _) (by rw[qK,zQ]; omega) (by rw[List.drop_zero,List.take_of_length_le (by rw[qK,zQ]; omega)])
  ·rcases hx with ⟨rfl,h0⟩ | ⟨q,_,_,_,rfl,gq⟩
   ·rw[h0]; exact .nil 1
   ·exact Froz.row gq (hd _) (by rw[qK]; omega) (by rw[List.drop_zero,List.take_of_length_le (by rw[qK]; omega)])
 have hg:=hL.get
 refine .ep gT (hd _) (by intro e; have:=congrArg List.length e; rw[jK] at this; cases this) (by simp[jK,qab]) (fun i x y hx hy=>?_)
 rw[Nat.zero_add] at hy
 exact hg.2 i x y hx hy
theorem qR (n:Nat):zrep [.int 0] n=iV (List.replicate n 0):=by
 apply List.ext_getElem
 ·simp[zrep,iV]
 ·intro i h1 h2
  simp[zrep,iV,Nat.mod_one]
theorem New_s (lens:List Nat) (h0:0<lens.length) (hl:lens.length<=320) (hle : ∀ s,lens.getD s 0<=15) (hwh:WholeL lens):SCalls Tryz.prog 71 [iA lens] Heap.empty (.tup [tabA lens,.int 0]) Heap.empty:=by
 obtain ⟨n,hn⟩ : ∃ n,lens.length=n:=⟨_,rfl⟩
 have hn8:(n:Int)*8<=140737488355328:=oz
 have hn9:(n:Int)<=140737488355328:=oz
 have cc:=fun H=>clone_H lens h0 oz H
 have hal:asum lens 15<=1000:=Nat.le_trans (asum_le lens 15) oz
 have hiL:(iV lens).length=n:=by rw[qK,hn]
 unfold iA at cc
 rw[hn] at cc
 refine qE (sz:=48) (Tryz.call71) Tryz.func71 rfl (Nat.zero_le _) kz (fun R hR=>?_)
 refine qg (fun K1 hK1=>?_)
 refine qi kz ?_
 simp[go_sem]
 refine hK1 _ _ ?_
 try clear hK1 K1
 refine qg (fun K2 hK2=>?_)
 refine qg (fun K3 hK3=>?_)
 refine qi kz ?_
 simp[go_sem,iA,hn]
 refine hK3 _ _ ?_
 try clear hK3 K3
 have h320 : ¬ (320<(n:Int)):=oz
 refine qj (b:=false) (by simp[go_sem,h320]) (fun h=>by cases h) (fun _=>?_)
 refine ql ?_
 refine hK2 _ _ ?_
 try clear hK2 K2
 refine qw (fun env H=>env 0 = .vs n 1 (iV lens)/\env 4 = .ptr 1 0/\H.get 1=some (tbC lens [] 0 .nil)/\H.get 0=some (iV (List.replicate n 0))/\H.next=2) ?_ ?_
 ·skip
  refine qo (fun K96 hK96=>?_)
  refine zx mixed ?_
  refine zh 1 4 dz ?_ ?_
  ·skip
   refine qW (bf:=[0,1,0,4,15,31,63,127]) kz kz ?_
   simp[go_sem,iA,hn,hn8,hn9,befL,addE,permOps,reE,fnL]
   refine ⟨_,_,cc _,?_⟩
   simp[go_sem,iA,hn,hn8,hn9,befL,addE,permOps,reE,fnL]
   refine hK96 _ _ ?_
   refine ⟨by simp[go_sem,iA,hn],gz,?_,?_,gz⟩
   ·simp[go_sem,tbC,iA,hn]; rfl
   ·simp[go_sem,qR]
  ·skip
   refine zy [0,4,1,2,3,5,6,7] [0,2,3,4,1,5,6,7] kz ?_
   refine qW (bf:=[0,0,2,6,15,31,63,127]) kz kz ?_
   simp[go_sem,iA,hn,hn8,hn9,befL,addE,permOps,reE,fnL]
   refine ⟨_,_,cc _,?_⟩
   simp[go_sem,iA,hn,hn8,hn9,befL,addE,permOps,reE,fnL]
   refine hK96 _ _ ?_
   refine ⟨by simp[go_sem,iA,hn],gz,?_,?_,gz⟩
   ·simp[go_sem,tbC,iA,hn]; rfl
   ·simp[go_sem,qR]
 rintro env H ⟨e0,e4,gT,gC,hn2⟩
 refine qg (fun K5 hK5=>?_)
 refine qg (fun K6 hK6=>?_)
 refine qi kz ?_
 simp[go_sem,e0]
 refine hK6 _ _ ?_
 try clear hK6 K6
 refine qm ?_
 refine qC (Inv:=fun m env H2 => ∃ i:Nat,m=n-i/\i<=n/\env 17 = .vs n 1 (iV lens)/\env 18 = .int n/\env 19 = .int i/\env 4 = .ptr 1 0/\H2.get 1=some (tbC lens (lens.take i) 0 .nil)/\H2.get 0=some (iV (List.replicate n 0))/\H2.next=2) ?_ (n:=n) (⟨0,rfl,oz,by simp[go_sem,e0],gz,gz,by simp[go_sem,e4],gT,gC,hn2⟩)
 clear e0 e4 gT gC hn2
 rintro m env H2 ⟨i,rfl,hi,e17,e18,e19,e4,gT,gC,hn2⟩
 refine qg (fun K7 hK7=>?_)
 refine qi kz ?_
 simp[go_sem,e18,e19]
 refine hK7 _ _ ?_
 try clear hK7 K7
 refine qg (fun K8 hK8=>?_)
 refine qj (b:=decide (i<n)) gz (fun hb=>?_) (fun hb=>?_)
 ·skip
  simp only[decide_eq_true_eq] at hb
  have hil:i<lens.length:=oz
  obtain ⟨r,hdr⟩:=qlm (show lens[i]? = some (lens.getD i 0) by rw[qU hil]; exact List.getElem?_eq_getElem hil)
  have hin:(i:Int)<n:=oz
  have hv15:=hle i
  have htk:lens.take (i+1)=lens.take i ++ [lens.getD i 0]:=by rw[List.take_add_one,List.getElem?_eq_getElem hil,qU hil]; rfl
  obtain ⟨v,hv⟩ : ∃ v,lens.getD i 0=v:=⟨_,rfl⟩
  rw[hv] at hdr hv15 htk
  have hv1 : ¬ ((v:Int)<0):=oz
  have hv2 : ¬ (15<(v:Int)):=oz
  refine ql ?_
  refine hK8 _ _ ?_
  try clear hK8 K8
  refine qw (fun env H2=>env 17 = .vs n 1 (iV lens)/\env 18 = .int n/\env 19 = .int i/\env 4 = .ptr 1 0/\H2.get 1=some (tbC lens (lens.take (i+1)) 0 .nil)/\H2.get 0=some (iV (List.replicate n 0))/\H2.next=2) ?_ ?_
  ·skip
   refine qm ?_
   refine qg (fun K10 hK10=>?_)
   refine qi kz ?_
   simp[go_sem,e17,e19,hdr,hiL,hin]
   refine hK10 _ _ ?_
   try clear hK10 K10
   refine qg (fun K11 hK11=>?_)
   refine qg (fun K12 hK12=>?_)
   refine qi kz ?_
   simp[go_sem,hv1,hv2]
   refine hK12 _ _ ?_
   try clear hK12 K12
   refine qj (b:=false) gz (fun h=>by cases h) (fun _=>?_)
   refine ql ?_
   refine hK11 _ _ ?_
   try clear hK11 K11
   refine qg (fun K13 hK13=>?_)
   refine qi kz ?_
   simp[go_sem]
   refine hK13 _ _ ?_
   try clear hK13 K13
   have hpos:((0:Int)<(v:Int))=(0<v):=propext ⟨fun h=>by omega,fun h=>by omega⟩
   refine qj (b:=decide (0<v)) (by simp[go_sem,hpos]) (fun hb=>?_) (fun hb=>?_)
   ·skip
    simp only[decide_eq_true_eq] at hb
    have hct:=qj0 lens (lens.take i) 0 .nil v oz
    have hst:=tbC_set lens (lens.take i) 0 v .nil oz hv15
    obtain ⟨cs,hcs⟩ : ∃ cs,tbC lens (lens.take i) 0 .nil=cs:=⟨_,rfl⟩
    have hl20:cs.length=20:=by rw[<- hcs,qab]
    have hcb:cnt (lens.take i) v<=320:=by
     unfold cnt
     split
     ·omega
     ·have:=List.count_le_length (a:=v) (l:=lens.take i)
      rw[List.length_take] at this
      omega
    obtain ⟨c,hc⟩ : ∃ c,cnt (lens.take i) v=c:=⟨_,rfl⟩
    rw[hcs] at gT hct hst
    rw[hc] at hct hst hcb
    have hwc:=qF c oz
    have ho1:3+v+1<=20:=oz
    have hi1:(v:Int)<16:=oz
    have hi0:(0:Int)<=(v:Int):=oz
    push_cast at hst
    refine qo (fun K95 hK95=>?_)
    refine qZ mixed kz (bf:=[0,0,1,5,15,31,63,1,129,511,1023]) kz ?_
    simp[go_sem,e4,gT,hl20,hct,ho1,hi1,hi0,hwc,hst,befL]
    refine hK95 _ _ ?_
    have gT9:(H2.set 1 (tbC lens (lens.take i ++ [v]) 0 .nil)).get 1=some (tbC lens (lens.take (i+1)) 0 .nil):=by rw[Heap.get_set,if_pos rfl,gT,htk]; rfl
    have gC9:(H2.set 1 (tbC lens (lens.take i ++ [v]) 0 .nil)).get 0=some (iV (List.replicate n 0)):=by rw[Heap.get_set,if_neg dz]; exact gC
    have hn9b:(H2.set 1 (tbC lens (lens.take i ++ [v]) 0 .nil)).next=2:=hn2
    refine ⟨by simp[go_sem,e17],by simp[go_sem,e18],by simp[go_sem,e19],by simp[go_sem,e4],gT9,gC9,hn9b⟩
   ·skip
    have hv0:v=0:=by simp at hb; omega
    have gT9:H2.get 1=some (tbC lens (lens.take (i+1)) 0 .nil):=by rw[htk,hv0,tbC_zero]; exact gT
    have gC9:=gC
    have hn9b:=hn2
    refine ql ?_
    refine ⟨by simp[go_sem,e17],by simp[go_sem,e18],by simp[go_sem,e19],by simp[go_sem,e4],gT9,gC9,hn9b⟩
  clear e17 e18 e19 e4 gT gC hn2
  rintro env H2 ⟨e17,e18,e19,e4,gT,gC,hn2⟩
  refine qo (fun K14 hK14=>?_)
  refine qi kz ?_
  simp[go_sem,e19]
  refine hK14 _ _ ?_
  have hw1:=qF i oz
  exact ⟨n-(i+1),oz,i+1,rfl,oz,by simp[go_sem,e17],by simp[go_sem,e18],by simp[go_sem,hw1],by simp[go_sem,e4],gT,gC,hn2⟩
 ·skip
  simp only[decide_eq_false_iff_not] at hb
  obtain rfl:i=n:=oz
  rw[List.take_of_length_le oz] at gT
  have cw:=whole_w gT hwh (by rw[yf]; omega)
  have hT0:TbS (fun _=>False) H2 1 0 lens (List.replicate lens.length 0) []:=⟨.nil,id,id,dz,gT,by rw[hn]; exact gC,by simp,by simp,.inl ⟨rfl,rfl⟩,fun b h=>h.elim⟩
  have cnum:=number_p hle hwh oz hal hT0
  refine qy ?_
  refine hK5 _ _ ?_
  try clear hK5 K5
  refine qg (fun K15 hK15=>?_)
  refine qg (fun K16 hK16=>?_)
  refine qi kz ?_
  refine qI 2 (fun K17 hK17=>?_)
  simp[go_sem,e4]
  refine ⟨_,_,cw,?_⟩
  refine hK17 _ _ ?_
  clear hK17 K17
  simp[go_sem,e4]
  refine hK16 _ _ ?_
  try clear hK16 K16
  refine qj (b:=false) gz (fun h=>by cases h) (fun _=>?_)
  refine ql ?_
  refine hK15 _ _ ?_
  try clear hK15 K15
  refine qg (fun K18 hK18=>?_)
  refine qp kz ?_
  simp[go_sem,e4]
  refine ⟨_,cnum,?_⟩
  rintro _ H3 hn3 ⟨rfl,hT3,hS3⟩
  refine hK18 _ _ ?_
  try clear hK18 K18
  refine qg (fun K20 hK20=>?_)
  refine qi kz ?_
  simp[go_sem,e4]
  refine hK20 _ _ ?_
  try clear hK20 K20
  refine qx ?_
  simp only[go_sem]
  refine hR _ _ ?_
  refine zD (v:=.tup [.ptr 1 0,.int 0]) gz (.tupL (.cons (tab_froz (fun _=>Nat.zero_le _) hT3) (.cons (.same _) .nil))) (qP _) (Nat.zero_le _) (by simp[go_sem,zT])
end Go.Proofs.YtfokgjhdndnnhaaGreatDoor
end W10S
namespace Go.Fl
def flatGo (m:Nat):Nat->Nat->Nat
 | 0,n=>n
 | f+1,n=>if 2^n<m then flatGo m f (n+1) else n
def flatN (m:Nat):Nat:=flatGo m 15 1
theorem qds (m:Nat) (hm:m<=2^15) : ∀ f n,1<=n->n+f=16->(n=1\/2^(n-1)<m)->m<=2^flatGo m f n/\1<=flatGo m f n/\flatGo m f n<=16/\(flatGo m f n=1\/2^(flatGo m f n-1)<m)
 | 0,n,h1,h2,h3=>by
  have hn:n=16:=oz
  subst hn
  rcases h3 with h | h
  ·omega
  ·have:(2:Nat)^(16-1)=2^15:=rfl
   omega
 | f+1,n,h1,h2,h3=>by
  simp only[flatGo]
  by_cases h:2^n<m
  ·rw[if_pos h]
   exact qds m hm f (n+1) oz oz (.inr h)
  ·rw[if_neg h]
   exact ⟨oz,h1,oz,h3⟩
theorem qcc (m:Nat) (hm:m<=2^15):m<=2^flatN m/\1<=flatN m/\flatN m<=16/\(flatN m=1\/2^(flatN m-1)<m):=qds m hm 15 1 oz oz (.inl rfl)
theorem qkl (m M:Nat) (hM:1<=M) (hM2:M<=15) (hm:m<=2^M):flatN m<=M:=by
 obtain ⟨h1,h2,h3,h4⟩:=qcc m (Nat.le_trans hm (Nat.pow_le_pow_right dz hM2))
 rcases h4 with h | h
 ·omega
 ·rcases Nat.lt_or_ge M (flatN m) with h5 | h5
  ·have:=Nat.pow_le_pow_right (n:=2) dz (show M<=flatN m-1 by omega)
   omega
  ·exact h5
def flatSet (v:Nat->Nat):List Nat->Nat->List Nat->List Nat
 | [],_,out=>out
 | s::r,i,out=>flatSet v r (i+1) (out.set s (v i))
theorem qaw (v:Nat->Nat) : ∀ (p:List Nat) (i:Nat) (out:List Nat),(flatSet v p i out).length=out.length
 | [],_,_=>rfl
 | s::r,i,out=>by simp only[flatSet]; rw[qaw v r,List.length_set]
theorem yI (v:Nat->Nat) : ∀ (p:List Nat) (i:Nat) (out:List Nat) (s:Nat),s∉p->(flatSet v p i out).getD s 0=out.getD s 0
 | [],_,_,_,_=>rfl
 | x::r,i,out,s,h=>by
  simp only[flatSet]
  rw[yI v r _ _ s (fun h2=>h (List.mem_cons_of_mem _ h2)),jm,if_neg]
  rintro ⟨rfl,_⟩
  exact h List.mem_cons_self
theorem qdt (v:Nat->Nat) : ∀ (p:List Nat) (i:Nat) (out:List Nat),p.Nodup->(∀ s∈p,s<out.length)->p.map (fun s=>(flatSet v p i out).getD s 0)=(List.range p.length).map fun j=>v (i+j)
 | [],_,_,_,_=>rfl
 | x::r,i,out,hn,hb=>by
  rw[List.nodup_cons] at hn
  have hx:=hb x List.mem_cons_self
  have ih:=qdt v r (i+1) (out.set x (v i)) hn.2 (fun s hs=>by rw[List.length_set]; exact hb s (List.mem_cons_of_mem _ hs))
  rw[List.length_cons,List.range_succ_eq_map,List.map_cons,List.map_cons,List.map_map]
  simp only[flatSet]
  congr 1
  ·rw[yI v r _ _ x hn.1,jm,if_pos ⟨rfl,hx⟩]; simp
  ·rw[ih]
   apply List.map_congr_left
   intro j _
   simp only[Function.comp_apply]
   congr 1
   omega
def flatV (m n:Nat) (i:Nat):Nat:=if m-(2^n-m)<=i/\1<n then n-1 else n
def flatL (p out:List Nat):List Nat:=flatSet (flatV p.length (flatN p.length)) p 0 out
theorem sum_two (a x y:Nat) : ∀ m,a<=m->sumL ((List.range m).map fun j=>if a<=j then x else y)=a*y+(m-a)*x:=by
 intro m
 have h0 : ∀ k,k<=a->sumL ((List.range k).map fun j=>if a<=j then x else y)=k*y:=by
  intro k
  induction k with
  | zero=>intro _; simp[sumL]
  | succ k ih =>
   intro hk
   rw[List.range_succ,List.map_append,qbf,ih oz]
   simp only[List.map_cons,List.map_nil,sumL]
   rw[if_neg oz,Nat.add_mul]
   omega
 induction m with
 | zero=>intro h; simp at h; subst h; simp[sumL]
 | succ m ih =>
  intro h
  rcases Nat.lt_or_ge m a with h1 | h1
  ·have:a=m+1:=oz
   subst this
   rw[h0 (m+1) (Nat.le_refl _)]; simp
  ·rw[List.range_succ,List.map_append,qbf,ih h1]
   simp only[List.map_cons,List.map_nil,sumL]
   rw[if_pos h1,show m+1-a=(m-a)+1 by omega,Nat.add_mul (m-a) 1 x]
   omega
theorem qnd (M n:Nat) (hM:1<=M) (hM2:M<=15) (p out:List Nat) (hl:out.length=n) (hn:p.Nodup) (hb : ∀ s∈p,s<n) (h2:2<=p.length) (hp:p.length<=2^M) (hz : ∀ s,s∉p->out.getD s 0=0):GoodL M n p (flatL p out):=by
 have hm15:p.length<=2^15:=Nat.le_trans hp (Nat.pow_le_pow_right dz hM2)
 obtain ⟨f1,f2,f3,f4⟩:=qcc p.length hm15
 have hfM:=qkl p.length M hM hM2 hp
 have hlen:(flatL p out).length=n:=by unfold flatL; rw[qaw,hl]
 have hmap:=qdt (flatV p.length (flatN p.length)) p 0 out hn (fun s hs=>by rw[hl]; exact hb s hs)
 have hv : ∀ j,1<=flatV p.length (flatN p.length) j/\flatV p.length (flatN p.length) j<=M:=fun j=>by
  unfold flatV; split <;> omega
 have hval : ∀ s∈p,∃ j,(flatL p out).getD s 0=flatV p.length (flatN p.length) j:=fun s hs=>by
  have:(flatL p out).getD s 0∈p.map (fun s=>(flatSet (flatV p.length (flatN p.length)) p 0 out).getD s 0):=List.mem_map.2 ⟨s,hs,rfl⟩
  rw[hmap] at this
  obtain ⟨j,_,hj⟩:=List.mem_map.1 this
  exact ⟨_,hj.symm⟩
 have hpos : ∀ s∈p,1<=(flatL p out).getD s 0:=fun s hs=>by obtain ⟨j,hj⟩:=hval s hs; rw[hj]; exact (hv j).1
 have hzero : ∀ s,s∉p->(flatL p out).getD s 0=0:=fun s hs=>by unfold flatL; rw[yI _ _ _ _ _ hs]; exact hz s hs
 have hle : ∀ s,(flatL p out).getD s 0<=M:=fun s=>by
  by_cases hs:s∈p
  ·obtain ⟨j,hj⟩:=hval s hs; rw[hj]; exact (hv j).2
  ·rw[hzero s hs]; omega
 refine ⟨hlen,hpos,hle,hzero,.inl ?_⟩
 rw[qdq _ fun x hx=>by
  obtain ⟨i,hi,rfl⟩:=List.mem_iff_getElem.1 hx
  have:=hle i
  rw[qU hi] at this
  omega]
 rw[qkj _ p wtL rfl (qas hlen hn hpos hzero)]
 have e1:p.map (fun s=>wtL ((flatL p out).getD s 0))=(List.range p.length).map fun j=>wtL (flatV p.length (flatN p.length) j):=by
  have:=congrArg (List.map wtL) hmap
  rw[List.map_map,List.map_map] at this
  simpa [Function.comp_def,flatL] using this
 rw[e1]
 generalize hN:flatN p.length=N at *
 generalize p.length=m at *
 have hN15:N<=15:=oz
 rcases Nat.lt_or_ge 1 N with h1 | h1
 ·have h5:2^(N-1)<m:=by
   rcases f4 with h | h
   ·omega
   ·exact h
  have hp2:2^N=2^(N-1)*2:=by rw[<- Nat.pow_succ]; congr 1; omega
  have e2:(fun j=>wtL (flatV m N j))=fun j=>if m-(2^N-m)<=j then 2^(15-(N-1)) else 2^(15-N):=by
   funext j
   by_cases hj:m-(2^N-m)<=j
   ·have e:flatV m N j=N-1:=if_pos ⟨hj,h1⟩
    rw[e,if_pos hj]
    exact if_neg oz
   ·have e:flatV m N j=N:=if_neg fun c=>hj c.1
    rw[e,if_neg hj]
    exact if_neg oz
  rw[e2,sum_two _ _ _ m oz]
  have e3:2^(15-(N-1))=2^(15-N)*2:=by rw[<- Nat.pow_succ]; congr 1; omega
  rw[e3,<- Nat.mul_assoc,Nat.mul_right_comm,<- Nat.add_mul]
  have e4:m-(2^N-m)+(m-(m-(2^N-m)))*2=2^N:=oz
  rw[e4,<- Nat.pow_add,show N+(15-N)=15 by omega]
 ·have hN1:N=1:=oz
  subst hN1
  have hm2:m=2:=oz
  subst hm2
  simp[flatV,wtL,List.range_succ,sumL]
def maxL (l:List Nat):Nat:=l.foldl Nat.max 0
theorem le_maxL (l:List Nat) : ∀ x∈l,x<=maxL l:=by
 have key : ∀ (l:List Nat) (a:Nat),a<=l.foldl Nat.max a /\ ∀ x∈l,x<=l.foldl Nat.max a:=by
  intro l
  induction l with
  | nil=>intro a; exact ⟨Nat.le_refl _,fun x hx=>by cases hx⟩
  | cons y l ih =>
   intro a
   obtain ⟨h1,h2⟩:=ih (Nat.max a y)
   refine ⟨Nat.le_trans (Nat.le_max_left a y) h1,fun x hx=>?_⟩
   rcases List.mem_cons.1 hx with rfl | hx
   ·exact Nat.le_trans (Nat.le_max_right a x) h1
   ·exact h2 x hx
 exact (key l 0).2
def lengthsL (most:Nat) (p counts:List Nat):List Nat :=
 if p.length=1 then (List.replicate counts.length 0).set (p.getD 0 0) 1 else
 if 0<p.length/\most<maxL (bestL p counts (List.replicate counts.length 0)) then flatL p (bestL p counts (List.replicate counts.length 0)) else bestL p counts (List.replicate counts.length 0)
theorem jo (n s:Nat):(List.replicate n 0).getD s 0=0:=by
 rw[List.getD_eq_getElem?_getD,List.getElem?_replicate]
 split <;> rfl
theorem qkm (n:Nat) : ∀ k,asum (List.replicate n 0) k=0
 | 0=>rfl
 | k+1=>by simp only[asum]; rw[qkm n k]; simp[cnt,List.count_replicate]
theorem qg3 (M:Nat) (hM:1<=M) (hM2:M<=15) (p counts:List Nat) (hn:p.Nodup) (hb : ∀ s∈p,s<counts.length) (hp:p.length<=2^M):GoodL M counts.length p (lengthsL M p counts):=by
 unfold lengthsL
 by_cases h1:p.length=1
 ·rw[if_pos h1]
  obtain ⟨x,rfl⟩ : ∃ x,p = [x]:=by
   match p,h1 with
   | [x],_=>exact ⟨x,rfl⟩
  have hx:=hb x List.mem_cons_self
  show GoodL M counts.length [x] ((List.replicate counts.length 0).set x 1)
  have hg : ∀ s,((List.replicate counts.length 0).set x 1).getD s 0=if x=s then 1 else 0:=fun s=>by
   rw[jm,List.length_replicate,jo]
   by_cases h:x=s
   ·rw[if_pos ⟨h,hx⟩,if_pos h]
   ·rw[if_neg (fun c=>h c.1),if_neg h]
  refine ⟨by simp,fun s hs=>?_,fun s=>?_,fun s hs=>?_,.inr (.inr ?_)⟩
  ·rw[List.mem_singleton.1 hs,hg,if_pos rfl]; omega
  ·rw[hg]; split <;> omega
  ·rw[hg,if_neg]; rintro rfl; exact hs List.mem_cons_self
  ·have e:(List.replicate counts.length 0).set x 1=List.replicate x 0++1::List.replicate (counts.length-x-1) 0:=by
    rw[List.set_eq_take_append_cons_drop,if_pos (by simpa using hx)]
    simp[Nat.min_eq_left (Nat.le_of_lt hx),Nat.sub_sub]
   rw[e]
   have hc : ∀ k,(List.replicate x 0++1::List.replicate (counts.length-x-1) 0).count k=(if k=0 then x+(counts.length-x-1) else if k=1 then 1 else 0):=fun k=>by
    rw[List.count_append,List.count_cons,List.count_replicate,List.count_replicate]
    by_cases h0:k=0
    ·subst h0; simp
    ·by_cases hk:k=1
     ·subst hk; simp
     ·have : ¬ (0==k)=true:=by simp; omega
      have h1 : ¬ (1==k)=true:=by simp; omega
      simp[h0,hk,this,h1]
   have hcn : ∀ k,cnt (List.replicate x 0++1::List.replicate (counts.length-x-1) 0) k=if k=1 then 1 else 0:=fun k=>by
    unfold cnt
    by_cases h0:k=0
    ·subst h0; simp
    ·rw[if_neg h0,hc,if_neg h0]
   refine ⟨?_,by rw[hcn]; rfl⟩
   simp only[asum,hcn]
   rfl
 ·rw[if_neg h1]
  rcases Nat.eq_zero_or_pos p.length with h0 | h0
  ·have hp0:p = []:=List.length_eq_zero_iff.1 h0
   subst hp0
   rw[if_neg (by simp)]
   show GoodL M counts.length [] (List.replicate counts.length 0)
   exact ⟨by simp,fun s hs=>(by cases hs),fun s=>by rw[jo]; omega,fun s _=>jo _ s,.inr (.inl (qkm _ 15))⟩
  ·have hne:p ≠ []:=by intro e; rw[e] at h0; simp at h0
   obtain ⟨hl,_,_,hz⟩:=qcb p.length counts.length p counts hn hb hne oz
   split
   ·exact qnd M counts.length hM hM2 p _ hl hn hb oz hp hz
   ·rename_i h
    have hle:maxL (bestL p counts (List.replicate counts.length 0))<=M:=by
     rcases Nat.lt_or_ge M (maxL (bestL p counts (List.replicate counts.length 0))) with h2 | h2
     ·exact absurd ⟨h0,h2⟩ h
     ·exact h2
    refine qnb M counts.length hM2 p counts hn hb oz fun s hs=>?_
    have hs2:s<(bestL p counts (List.replicate counts.length 0)).length:=by rw[hl]; exact hb s hs
    rw[qU hs2]
    exact Nat.le_trans (le_maxL _ _ (List.getElem_mem hs2)) hle
end Go.Fl
