/- Contracts: what is counted, what is trimmed. -/
import Derived.Test.YtfokgjhdndnnhaaGreatDoorD6
import Derived.Test.YtfokgjhdndnnhaaGreatDoorW6
set_option maxHeartbeats 1000000
set_option linter.unusedVariables false
set_option linter.unusedSimpArgs false
set_option maxRecDepth 20000
noncomputable section
namespace Go.Proofs.YtfokgjhdndnnhaaGreatDoor
open Go Go.Fl Go.Proofs
def bump1 (l:List Nat) (i:Nat):List Nat:=l.set i (l.getD i 0+1)
theorem qee (l:List Nat) (i:Nat):(bump1 l i).length=l.length:=by simp[bump1]
theorem qdg (l:List Nat) (i j:Nat) (h:i<l.length):(bump1 l i).getD j 0=l.getD j 0+if i=j then 1 else 0:=by
 unfold bump1
 rw[jm]
 by_cases e:i=j
 ·subst e; rw[if_pos ⟨rfl,h⟩,if_pos rfl]
 ·rw[if_neg (fun c=>e c.1),if_neg e]; omega
def cntStep (p:List Nat × List Nat) (t:Tok):List Nat × List Nat:=if t.back=0 then (bump1 p.1 t.c.toNat,p.2) else (bump1 p.1 (lenPart t.len).sym,bump1 p.2 (distPart t.back).sym)
def countedL (l:List Tok):List Nat × List Nat:=l.foldl cntStep ((List.replicate 286 0).set 256 1,List.replicate 30 0)
theorem qh5 {l:List Tok} {i:Nat} {t:Tok} (h:l[i]? = some t):countedL (l.take (i+1))=cntStep (countedL (l.take i)) t:=by
 unfold countedL
 rw[List.take_add_one,h,List.foldl_append]
 rfl
def TokFine (t:Tok):Prop:=t.back=0\/(3<=t.len/\t.len<=258/\1<=t.back/\t.back<=32768)
theorem qef {p:List Nat × List Nat} {t:Tok} : (cntStep p t).1.length=p.1.length/\(cntStep p t).2.length=p.2.length:=by
 unfold cntStep
 split <;> simp[qee]
theorem jk (l:List Tok):(countedL l).1.length=286/\(countedL l).2.length=30:=by
 unfold countedL
 have : ∀ (l:List Tok) (p:List Nat × List Nat),(l.foldl cntStep p).1.length=p.1.length/\(l.foldl cntStep p).2.length=p.2.length:=by
  intro l
  induction l with
  | nil=>intro p; exact ⟨rfl,rfl⟩
  | cons t l ih=>intro p; have h1:=ih (cntStep p t); have h2:=qef (p:=p) (t:=t); exact ⟨h1.1.trans h2.1,h1.2.trans h2.2⟩
 have h:=this l ((List.replicate 286 0).set 256 1,List.replicate 30 0)
 simpa using h
theorem qdh (l:List Nat) (i j:Nat):l.getD j 0<=(bump1 l i).getD j 0:=by
 unfold bump1
 rw[jm]
 split
 ·rename_i h; rw[h.1]; omega
 ·exact Nat.le_refl _
theorem qdi (l:List Nat) (i j:Nat):(bump1 l i).getD j 0<=l.getD j 0+1:=by
 unfold bump1
 rw[jm]
 split
 ·rename_i h; rw[h.1]; exact Nat.le_refl _
 ·omega
theorem qmi (p:List Nat × List Nat) (t:Tok) (j:Nat):p.1.getD j 0<=(cntStep p t).1.getD j 0/\p.2.getD j 0<=(cntStep p t).2.getD j 0:=by
 unfold cntStep
 split
 ·exact ⟨qdh _ _ _,Nat.le_refl _⟩
 ·exact ⟨qdh _ _ _,qdh _ _ _⟩
theorem qmj (p:List Nat × List Nat) (t:Tok) (j:Nat):(cntStep p t).1.getD j 0<=p.1.getD j 0+1/\(cntStep p t).2.getD j 0<=p.2.getD j 0+1:=by
 unfold cntStep
 split
 ·exact ⟨qdi _ _ _,Nat.le_succ _⟩
 ·exact ⟨qdi _ _ _,qdi _ _ _⟩
theorem qjj : ∀ (l:List Tok) (p:List Nat × List Nat) (j:Nat),p.1.getD j 0<=(l.foldl cntStep p).1.getD j 0/\p.2.getD j 0<=(l.foldl cntStep p).2.getD j 0
 | [],_,_=>⟨Nat.le_refl _,Nat.le_refl _⟩
 | t::l,p,j=>by
  have h1:=qjj l (cntStep p t) j
  have h2:=qmi p t j
  exact ⟨Nat.le_trans h2.1 h1.1,Nat.le_trans h2.2 h1.2⟩
theorem qoi : ∀ (l:List Tok) (p:List Nat × List Nat) (j:Nat),(l.foldl cntStep p).1.getD j 0<=p.1.getD j 0+l.length/\(l.foldl cntStep p).2.getD j 0<=p.2.getD j 0+l.length
 | [],_,_=>⟨Nat.le_refl _,Nat.le_refl _⟩
 | t::l,p,j=>by
  have h1:=qoi l (cntStep p t) j
  have h2:=qmj p t j
  simp only[List.length_cons,List.foldl_cons] at h1 |-
  omega
theorem cnt0_le (j:Nat):((List.replicate 286 0).set 256 1).getD j 0<=1:=by
 rw[jm,jo]
 split <;> omega
theorem qfl (l:List Tok) (j:Nat):(countedL l).1.getD j 0<=l.length+1/\(countedL l).2.getD j 0<=l.length:=by
 have h:=qoi l ((List.replicate 286 0).set 256 1,List.replicate 30 0) j
 have h1:=cnt0_le j
 have h2:=jo 30 j
 unfold countedL
 simp only at h
 omega
theorem qjk (l:List Tok):0<(countedL l).1.getD 256 0:=by
 have h:=(qjj l ((List.replicate 286 0).set 256 1,List.replicate 30 0) 256).1
 have h1:((List.replicate 286 0).set 256 1).getD 256 0=1:=dz
 unfold countedL
 simp only at h
 omega
theorem qk1 : ∀ (l:List Tok) (p:List Nat × List Nat),p.1.length=286->p.2.length=30->(∀ t∈l,TokFine t) -> ∀ t∈l,(t.back=0/\0<(l.foldl cntStep p).1.getD t.c.toNat 0)\/(t.back≠0/\0<(l.foldl cntStep p).1.getD (lenPart t.len).sym 0/\0<(l.foldl cntStep p).2.getD (distPart t.back).sym 0)
 | [],_,_,_,_=>fun _ h=>by cases h
 | x::l,p,hp1,hp2,hf=>by
  intro t ht
  have hs:=qef (p:=p) (t:=x)
  rcases List.mem_cons.1 ht with rfl | ht
  ·have hg:=qjj l (cntStep p t)
   show (t.back=0/\0<(l.foldl cntStep (cntStep p t)).1.getD t.c.toNat 0)\/(t.back≠0/\0<(l.foldl cntStep (cntStep p t)).1.getD (lenPart t.len).sym 0/\0<(l.foldl cntStep (cntStep p t)).2.getD (distPart t.back).sym 0)
   by_cases hb:t.back=0
   ·left
    refine ⟨hb,Nat.lt_of_lt_of_le ?_ (hg _).1⟩
    have:t.c.toNat<256:=t.c.toNat_lt
    unfold cntStep
    rw[if_pos hb]
    simp only
    rw[qdg _ _ _ oz,if_pos rfl]
    omega
   ·right
    obtain ⟨h3,h4,h5,h6⟩:=(hf t List.mem_cons_self).resolve_left hb
    have hl:=(zZ h3 h4).2.2
    have hd:=(zS h5 h6).2.2
    refine ⟨hb,Nat.lt_of_lt_of_le ?_ (hg _).1,Nat.lt_of_lt_of_le ?_ (hg _).2⟩
    ·unfold cntStep
     rw[if_neg hb]
     simp only
     rw[qdg _ _ _ oz,if_pos rfl]
     omega
    ·unfold cntStep
     rw[if_neg hb]
     simp only
     rw[qdg _ _ _ oz,if_pos rfl]
     omega
  ·exact qk1 l (cntStep p x) (hs.1.trans hp1) (hs.2.trans hp2) (fun y hy=>hf y (List.mem_cons_of_mem _ hy)) t ht
theorem qjl {l:List Tok} (hf : ∀ t∈l,TokFine t) : ∀ t∈l,(t.back=0/\0<(countedL l).1.getD t.c.toNat 0)\/(t.back≠0/\0<(countedL l).1.getD (lenPart t.len).sym 0/\0<(countedL l).2.getD (distPart t.back).sym 0) :=
 qk1 l _ (by simp) (by simp) hf
def trimE (l:List Nat) (n:Nat):Nat->Nat
 | 0=>0
 | e+1=>if n<e+1/\l.getD e 0=0 then trimE l n e else e+1
def trimL (l:List Nat) (n:Nat):List Nat:=l.take (trimE l n l.length)
theorem qam (l:List Nat) (n:Nat) : ∀ e,trimE l n e<=e/\(n<=e->n<=trimE l n e) /\ ∀ i,trimE l n e<=i->i<e->l.getD i 0=0
 | 0=>⟨Nat.le_refl _,fun h=>h,fun i _ h=>by omega⟩
 | e+1=>by
  simp only[trimE]
  split
  ·rename_i h
   obtain ⟨h1,h2,h3⟩:=qam l n e
   refine ⟨oz,fun _=>h2 oz,fun i hi hie=>?_⟩
   rcases Nat.lt_or_ge i e with h4 | h4
   ·exact h3 i hi h4
   ·rw[show i=e by omega]; exact h.2
  ·exact ⟨Nat.le_refl _,fun h=>h,fun i h1 h2=>by omega⟩
theorem jr (l:List Nat) (n i:Nat):(trimL l n).getD i 0=l.getD i 0:=by
 unfold trimL
 obtain ⟨h1,_,h3⟩:=qam l n l.length
 rcases Nat.lt_or_ge i (trimE l n l.length) with h | h
 ·rw[List.getD_eq_getElem?_getD,List.getElem?_take_of_lt h,<- List.getD_eq_getElem?_getD]
 ·rw[List.getD_eq_getElem?_getD,List.getElem?_eq_none (by rw[List.length_take]; omega)]
  rcases Nat.lt_or_ge i l.length with h2 | h2
  ·rw[h3 i h h2]; rfl
  ·rw[List.getD_eq_getElem?_getD,List.getElem?_eq_none h2]
theorem qoj (l:List Tok) (hl:l.length<=1000000) (hf : ∀ t∈l,TokFine t):SCalls Tryz.prog 75 [tA l] Heap.empty (.tup [iA (countedL l).1,iA (countedL l).2]) Heap.empty:=by
 obtain ⟨n,hn⟩ : ∃ n,l.length=n:=⟨_,rfl⟩
 have htL:(tV l).length=n*3:=by rw[tV_len,hn]
 refine qE (sz:=49) (Tryz.call75) Tryz.func75 rfl (Nat.zero_le _) kz (fun R hR=>?_)
 refine qg (fun K1 hK1=>?_)
 refine qi kz ?_
 simp[go_sem]
 refine hK1 _ _ ?_
 try clear hK1 K1
 refine qw (fun env H => ∃ A B,A≠B/\env 0=tA l/\env 4 = .ms A 0 286 1/\env 5 = .ms B 0 30 1/\H.get A=some (iV (List.replicate 286 0))/\H.get B=some (iV (List.replicate 30 0))/\A<H.next/\B<H.next) ?_ ?_
 ·skip
  refine qo (fun K96 hK96=>?_)
  refine zx mixed ?_
  refine zh 0 1 dz ?_ ?_
  ·skip
   refine qW (bf:=[0,1,1,7]) kz kz ?_
   simp[go_sem,qR,befL,addE,permOps,reE,fnL]
   refine hK96 _ _ ?_
   refine ⟨0,1,dz,gz,gz,gz,?_,?_,gz,gz⟩
   ·simp[go_sem,qR]
   ·simp[go_sem,qR]
  ·skip
   refine zy [1,0,2,3] [1,0,2,3] kz ?_
   refine qW (bf:=[0,1,3,7]) kz kz ?_
   simp[go_sem,qR,befL,addE,permOps,reE,fnL]
   refine hK96 _ _ ?_
   refine ⟨1,0,dz,gz,gz,gz,?_,?_,gz,gz⟩
   ·simp[go_sem,qR]
   ·simp[go_sem,qR]
 rintro env H ⟨A,B,hAB,e0,e4,e5,gA,gB,nA,nB⟩
 have h256:=zA (List.replicate 286 0) 256 dz 1
 push_cast at h256
 have hl286:(iV (List.replicate 286 0)).length=286:=by rw[qK,List.length_replicate]
 refine qw (fun env H2=>env 0 = .vs n 3 (tV l)/\env 4 = .ms A 0 286 1/\env 5 = .ms B 0 30 1/\H2.get A=some (iV (countedL []).1)/\H2.get B=some (iV (countedL []).2)/\A<H2.next/\B<H2.next) ?_ ?_
 ·skip
  refine qo (fun K4 hK4=>?_)
  refine qi kz ?_
  simp[go_sem,e4,gA,h256,hl286]
  refine hK4 _ _ ?_
  refine ⟨by simp[go_sem,e0,tA,hn],by simp[go_sem,e4],by simp[go_sem,e5],?_,?_,nA,nB⟩
  ·rw[Heap.get_set,if_pos rfl,gA]; rfl
  ·rw[Heap.get_set,if_neg (Ne.symm hAB)]; exact gB
 clear e0 e4 e5 gA gB nA nB
 rintro env H ⟨e0,e4,e5,gA,gB,nA,nB⟩
 refine qg (fun K5 hK5=>?_)
 refine qg (fun K6 hK6=>?_)
 refine qi kz ?_
 simp[go_sem,e0]
 refine hK6 _ _ ?_
 try clear hK6 K6
 refine qm ?_
 refine qC (Inv:=fun m0 env H2 => ∃ i:Nat,m0=n-i/\i<=n/\env 4 = .ms A 0 286 1/\env 5 = .ms B 0 30 1/\env 12 = .vs n 3 (tV l)/\env 13 = .int n/\env 14 = .int i/\H2.get A=some (iV (countedL (l.take i)).1)/\H2.get B=some (iV (countedL (l.take i)).2)/\A<H2.next/\B<H2.next) ?_ (n:=n) (⟨0,rfl,oz,by simp[go_sem,e4],by simp[go_sem,e5],gz,gz,gz,gA,gB,nA,nB⟩)
 clear e0 e4 e5 gA gB nA nB
 rintro m0 env H2 ⟨i,rfl,hi,e4,e5,e12,e13,e14,gA,gB,nA,nB⟩
 refine qg (fun K7 hK7=>?_)
 refine qi kz ?_
 simp[go_sem,e13,e14]
 refine hK7 _ _ ?_
 try clear hK7 K7
 refine qg (fun K8 hK8=>?_)
 refine qj (b:=decide (i<n)) gz (fun hb=>?_) (fun hb=>?_)
 ·skip
  simp only[decide_eq_true_eq] at hb
  have hil:i<l.length:=oz
  obtain ⟨t,ht⟩ : ∃ t,l[i]? = some t:=⟨l[i],List.getElem?_eq_getElem hil⟩
  obtain ⟨r,hdr⟩:=qjw ht
  have hin:(i:Int)<n:=oz
  have hi3:i*3+3<=n*3:=oz
  have hnx:=qh5 ht
  have hcl:=jk (l.take i)
  have hcle:=fun j=>qfl (l.take i) j
  rw[List.length_take,Nat.min_eq_left oz] at hcle
  have htf:=hf t (List.mem_of_getElem? ht)
  obtain ⟨ca,hca⟩ : ∃ x,(countedL (l.take i)).1=x:=⟨_,rfl⟩
  obtain ⟨cb,hcb⟩ : ∃ x,(countedL (l.take i)).2=x:=⟨_,rfl⟩
  have hpr:countedL (l.take i)=(ca,cb):=by rw[<- hca,<- hcb]
  rw[hpr] at hnx
  rw[hca] at gA hcl hcle
  rw[hcb] at gB hcl hcle
  have hA2 : ¬ (A=H2.next):=oz
  have hB2 : ¬ (B=H2.next):=oz
  have htc:=t.c.toNat_lt
  obtain ⟨tc,htcq⟩ : ∃ x,t.c.toNat=x:=⟨_,rfl⟩
  rw[htcq] at hdr htc
  refine ql ?_
  refine hK8 _ _ ?_
  try clear hK8 K8
  refine qw (fun env H2=>(env 4 = .ms A 0 286 1/\env 5 = .ms B 0 30 1/\env 12 = .vs n 3 (tV l)/\env 13 = .int n/\env 14 = .int i)/\H2.get A=some (iV (countedL (l.take (i+1))).1)/\H2.get B=some (iV (countedL (l.take (i+1))).2)/\A<H2.next/\B<H2.next) ?_ ?_
  ·skip
   refine qm ?_
   refine qw (fun env H3=>(env 4 = .ms A 0 286 1/\env 5 = .ms B 0 30 1/\env 7 = .ptr H2.next 0/\env 12 = .vs n 3 (tV l)/\env 13 = .int n/\env 14 = .int i)/\H3.get A=some (iV ca)/\H3.get B=some (iV cb)/\H3.get H2.next=some [.sc (.int .u8 tc),.int t.len,.int t.back]/\H3.next=H2.next+1) ?_ ?_
   ·skip
    refine qo (fun K11 hK11=>?_)
    refine qi kz ?_
    simp[go_sem,e12,e14,hdr,htL,hin,hi3]
    refine hK11 _ _ ?_
    refine ⟨⟨by simp[go_sem,e4],by simp[go_sem,e5],gz,by simp[go_sem,e12],by simp[go_sem,e13],by simp[go_sem,e14]⟩,?_,?_,gz,gz⟩
    ·simp[go_sem,hA2]; exact gA
    ·simp[go_sem,hB2]; exact gB
   clear e4 e5 e12 e13 e14 gA gB
   rintro env H3 ⟨⟨e4,e5,e7,e12,e13,e14⟩,gA,gB,gT,nH3⟩
   obtain ⟨T,hT⟩ : ∃ T,H2.next=T:=⟨_,rfl⟩
   rw[hT] at e7 gT nH3 nA nB hA2 hB2
   have nA9:A<H3.next:=oz
   have nB9:B<H3.next:=oz
   have hTA : ¬ (T=A):=oz
   have hTB : ¬ (T=B):=oz
   refine qg (fun K12 hK12=>?_)
   refine qg (fun K13 hK13=>?_)
   refine qi kz ?_
   simp[go_sem,e7,gT]
   refine hK13 _ _ ?_
   try clear hK13 K13
   have hbz:((t.back:Int)==0)=decide (t.back=0):=by by_cases h:t.back=0 <;> simp[h]
   have hbz2:((t.back:Int)=0)=(t.back=0):=propext ⟨fun h=>by omega,fun h=>by omega⟩
   refine qj (b:=decide (t.back=0)) (by simp[go_sem,hbz]) (fun hb=>?_) (fun hb=>?_)
   ·skip
    simp only[decide_eq_true_eq] at hb
    have h1:=hcle tc
    have hs_a:tc<ca.length:=oz
    obtain ⟨r_a,hd_a⟩:=qX hs_a
    obtain ⟨v_a,hv_a⟩ : ∃ v,ca.getD tc 0=v:=⟨_,rfl⟩
    rw[hv_a] at hd_a
    have hiv_a:=zA ca tc hs_a (v_a+1)
    have hoL_a:(iV ca).length=286:=by rw[qK]; omega
    have hsi_a:(tc:Int)<286:=oz
    have hs1_a:tc+1<=286:=oz
    have hwv_a:=qF v_a oz
    push_cast at hiv_a
    have gA9:(H3.set A (iV (ca.set tc (v_a+1)))).get A=some (iV (countedL (l.take (i+1))).1):=by rw[Heap.get_set,if_pos rfl,gA,hnx]; unfold cntStep bump1; rw[if_pos hb,htcq,hv_a]; rfl
    have gB9:(H3.set A (iV (ca.set tc (v_a+1)))).get B=some (iV (countedL (l.take (i+1))).2):=by rw[Heap.get_set,if_neg (Ne.symm hAB),hnx]; unfold cntStep; rw[if_pos hb]; exact gB
    refine qg (fun K14 hK14=>?_)
    refine qo (fun K15 hK15=>?_)
    refine qi kz ?_
    simp[go_sem,e4,e7,gT,gA,hd_a,hoL_a,hsi_a,hs1_a,hwv_a,hiv_a]
    refine hK15 _ _ ?_
    refine hK14 _ _ ?_
    try clear hK14 K14
    refine qy ?_
    exact ⟨⟨by simp[go_sem,e4],by simp[go_sem,e5],by simp[go_sem,e12],by simp[go_sem,e13],by simp[go_sem,e14]⟩,gA9,gB9,nA9,nB9⟩
   ·skip
    simp only[decide_eq_false_iff_not] at hb
    obtain ⟨h3,h258,hb1,hb2⟩:=htf.resolve_left hb
    have hlb:=(zZ h3 h258).2.2
    have hdb:=(zS hb1 hb2).2.2
    have cl:=fun H=>qin t.len h3 h258 H
    have cd:=fun H=>qfs t.back hb1 hb2 H
    have h1:=hcle (lenPart t.len).sym
    have h2:=hcle (distPart t.back).sym
    have hls:cntStep (ca,cb) t=(bump1 ca (lenPart t.len).sym,bump1 cb (distPart t.back).sym):=by unfold cntStep; rw[if_neg hb]
    obtain ⟨pl,hpl⟩ : ∃ x,lenPart t.len=x:=⟨_,rfl⟩
    obtain ⟨pd,hpd⟩ : ∃ x,distPart t.back=x:=⟨_,rfl⟩
    rw[hpl] at hlb cl h1 hls
    rw[hpd] at hdb cd h2 hls
    obtain ⟨sl,hsl⟩ : ∃ x,pl.sym=x:=⟨_,rfl⟩
    obtain ⟨sd,hsd⟩ : ∃ x,pd.sym=x:=⟨_,rfl⟩
    unfold partA at cl cd
    rw[hsl] at hlb cl h1 hls
    rw[hsd] at hdb cd h2 hls
    have hs_a:sl<ca.length:=oz
    obtain ⟨r_a,hd_a⟩:=qX hs_a
    obtain ⟨v_a,hv_a⟩ : ∃ v,ca.getD sl 0=v:=⟨_,rfl⟩
    rw[hv_a] at hd_a
    have hiv_a:=zA ca sl hs_a (v_a+1)
    have hoL_a:(iV ca).length=286:=by rw[qK]; omega
    have hsi_a:(sl:Int)<286:=oz
    have hs1_a:sl+1<=286:=oz
    have hwv_a:=qF v_a oz
    push_cast at hiv_a
    have hs_b:sd<cb.length:=oz
    obtain ⟨r_b,hd_b⟩:=qX hs_b
    obtain ⟨v_b,hv_b⟩ : ∃ v,cb.getD sd 0=v:=⟨_,rfl⟩
    rw[hv_b] at hd_b
    have hiv_b:=zA cb sd hs_b (v_b+1)
    have hoL_b:(iV cb).length=30:=by rw[qK]; omega
    have hsi_b:(sd:Int)<30:=oz
    have hs1_b:sd+1<=30:=oz
    have hwv_b:=qF v_b oz
    push_cast at hiv_b
    have gT2:(H3.set A (iV (ca.set sl (v_a+1)))).get T=some [.sc (.int .u8 tc),.int t.len,.int t.back]:=by rw[Heap.get_set,if_neg hTA]; exact gT
    have gB2:(H3.set A (iV (ca.set sl (v_a+1)))).get B=some (iV cb):=by rw[Heap.get_set,if_neg (Ne.symm hAB)]; exact gB
    have gA9:((H3.set A (iV (ca.set sl (v_a+1)))).set B (iV (cb.set sd (v_b+1)))).get A=some (iV (countedL (l.take (i+1))).1):=by rw[Heap.get_set,if_neg hAB,Heap.get_set,if_pos rfl,gA,hnx,hls]; unfold bump1; rw[hv_a]; rfl
    have gB9:((H3.set A (iV (ca.set sl (v_a+1)))).set B (iV (cb.set sd (v_b+1)))).get B=some (iV (countedL (l.take (i+1))).2):=by rw[Heap.get_set,if_pos rfl,gB2,hnx,hls]; unfold bump1; rw[hv_b]; rfl
    refine ql ?_
    refine hK12 _ _ ?_
    try clear hK12 K12
    refine qg (fun K16 hK16=>?_)
    refine qi kz ?_
    refine qI 4 (fun K17 hK17=>?_)
    simp[go_sem,e4,e7,gT,gA,hd_a,hoL_a,hsi_a,hs1_a,hwv_a,hiv_a]
    refine ⟨_,_,cl _,?_⟩
    refine hK17 _ _ ?_
    clear hK17 K17
    simp[go_sem,e4,e7,gT,gA,hd_a,hoL_a,hsi_a,hs1_a,hwv_a,hiv_a]
    refine hK16 _ _ ?_
    try clear hK16 K16
    refine qo (fun K18 hK18=>?_)
    refine qi kz ?_
    refine qI 4 (fun K19 hK19=>?_)
    simp[go_sem,e5,e7,gT2,gB2,hd_b,hoL_b,hsi_b,hs1_b,hwv_b,hiv_b]
    refine ⟨_,_,cd _,?_⟩
    refine hK19 _ _ ?_
    clear hK19 K19
    simp[go_sem,e5,e7,gT2,gB2,hd_b,hoL_b,hsi_b,hs1_b,hwv_b,hiv_b]
    refine hK18 _ _ ?_
    exact ⟨⟨by simp[go_sem,e4],by simp[go_sem,e5],by simp[go_sem,e12],by simp[go_sem,e13],by simp[go_sem,e14]⟩,gA9,gB9,nA9,nB9⟩
  clear e4 e5 e12 e13 e14 gA gB nA nB
  rintro env H2 ⟨⟨e4,e5,e12,e13,e14⟩,gA,gB,nA,nB⟩
  refine qo (fun K20 hK20=>?_)
  refine qi kz ?_
  simp[go_sem,e14]
  refine hK20 _ _ ?_
  have hw1:=qF i oz
  exact ⟨n-(i+1),oz,i+1,rfl,oz,by simp[go_sem,e4],by simp[go_sem,e5],by simp[go_sem,e12],by simp[go_sem,e13],by simp[go_sem,hw1],gA,gB,nA,nB⟩
 ·skip
  simp only[decide_eq_false_iff_not] at hb
  obtain rfl:n=i:=oz
  rw[List.take_of_length_le oz] at gA gB
  refine qy ?_
  refine hK5 _ _ ?_
  try clear hK5 K5
  refine qg (fun K21 hK21=>?_)
  refine qi kz ?_
  simp[go_sem,e4,e5]
  refine hK21 _ _ ?_
  try clear hK21 K21
  refine qx ?_
  simp only[go_sem]
  refine hR _ _ ?_
  have hcl:=jk l
  refine zD (v:=.tup [.ms A 0 286 1,.ms B 0 30 1]) (by simp[go_sem,e4,e5]) (.tupL (.cons (qcd gA (fun _=>Nat.zero_le _) hcl.1) (.cons (qcd gB (fun _=>Nat.zero_le _) hcl.2) .nil))) (qP _) (Nat.zero_le _) (by simp[go_sem,zI])
theorem qok (l:List Nat) (k:Nat) (hk:0<k) (hkl:k<=l.length) (hl:l.length<=1000):SCalls Tryz.prog 77 [iA l,.int k] Heap.empty (iA (trimL l k)) Heap.empty:=by
 obtain ⟨n,hn⟩ : ∃ n,l.length=n:=⟨_,rfl⟩
 have hiL:(iV l).length=n:=by rw[qK,hn]
 refine qE (sz:=25) (Tryz.call77) Tryz.func77 rfl (Nat.zero_le _) kz (fun R hR=>?_)
 refine qg (fun K1 hK1=>?_)
 refine qi kz ?_
 simp[go_sem]
 refine hK1 _ _ ?_
 try clear hK1 K1
 refine qg (fun K2 hK2=>?_)
 refine qi kz ?_
 simp[go_sem,iA,hn]
 refine hK2 _ _ ?_
 try clear hK2 K2
 refine qg (fun K3 hK3=>?_)
 refine qm ?_
 refine qC (Inv:=fun m0 env H2 => ∃ e:Nat,m0=e/\k<=e/\e<=n/\env 0 = .vs n 1 (iV l)/\env 1 = .int k/\env 5 = .int e/\trimE l k n=trimE l k e/\Heap.empty=H2) ?_ (n:=n) (⟨n,rfl,oz,Nat.le_refl _,by simp[go_sem,iA,hn],gz,gz,rfl,rfl⟩)
 rintro m0 env _ ⟨e,hm0,hke,hen,e0,e1,e5,htr,rfl⟩
 refine qg (fun K4 hK4=>?_)
 refine qg (fun K5 hK5=>?_)
 by_cases hlt:k<e
 ·skip
  obtain ⟨e,rfl⟩ : ∃ x,e=x+1:=⟨e-1,oz⟩
  obtain ⟨r,hdr⟩:=qX (l:=l) (i:=e) oz
  have d1:(k:Int)<(e:Int)+1:=oz
  have hwe:IntKind.i64.wrap (e:Int)=(e:Int):=i64in _ oz oz
  have hei:(e:Int)<n:=oz
  obtain ⟨v,hv⟩ : ∃ v,l.getD e 0=v:=⟨_,rfl⟩
  rw[hv] at hdr
  have hbz:((v:Int)==0)=decide (v=0):=by by_cases h:v=0 <;> simp[h]
  have hbz2:((v:Int)=0)=(v=0):=propext ⟨fun h=>by omega,fun h=>by omega⟩
  refine qi kz ?_
  simp[go_sem,e0,e1,e5,d1,hwe,hdr,hiL,hei,hbz]
  refine hK5 _ _ ?_
  try clear hK5 K5
  refine qj (b:=decide (v=0)) (by simp[go_sem,hbz,hbz2]) (fun hb=>?_) (fun hb=>?_)
  ·skip
   simp only[decide_eq_true_eq] at hb
   have hst:trimE l k (e+1)=trimE l k e:=by simp only[trimE]; rw[if_pos ⟨hlt,hv.trans hb⟩]
   refine ql ?_
   refine hK4 _ _ ?_
   try clear hK4 K4
   refine qm ?_
   refine qo (fun K6 hK6=>?_)
   refine qi kz ?_
   simp[go_sem,e5,hwe]
   refine hK6 _ _ ?_
   exact ⟨e,oz,e,rfl,oz,oz,by simp[go_sem,e0],by simp[go_sem,e1],by simp[go_sem,hwe],htr.trans hst,rfl⟩
  ·skip
   simp only[decide_eq_false_iff_not] at hb
   have hst:trimE l k (e+1)=e+1:=by simp only[trimE]; rw[if_neg (fun h=>hb (hv.symm.trans h.2))]
   have htq:=htr.trans hst
   obtain ⟨E,hE⟩ : ∃ x,e+1=x:=⟨_,rfl⟩
   rw[hE] at htq hen
   have e5b:env 5 = .int (E:Nat):=by rw[e5,<- hE]
   refine qy ?_
   refine hK3 _ _ ?_
   try clear hK3 K3
   refine qg (fun K7 hK7=>?_)
   refine qM kz ?_
   refine jf 3 (fun K90 hK90=>?_)
   simp[go_sem,e0,e5b]
   refine hK90 _ _ ?_
   clear hK90 K90
   refine jE (.vs E 1 ((iV l).take (E*1))) (Heap.empty) rfl (qcv (len:=n) tU84 tS3 (by simp[go_sem,e0]) (by simp[go_sem,e5b]) (by simp[go_sem,e5b]) oz hen) ?_
   refine zJ ?_
   simp[go_sem]
   refine hK7 _ _ ?_
   try clear hK7 K7
   refine qx ?_
   simp only[go_sem]
   refine hR _ _ ?_
   refine qG (r:=iA (trimL l k)) (by
    simp[go_sem]
    unfold iA trimL
    rw[hn,htq,List.length_take,hn,Nat.min_eq_left hen,qfy]) (qP _) (Nat.zero_le _) (by rw[zI]; trivial)
 ·skip
  have d1 : ¬ ((k:Int)<(e:Int)):=oz
  obtain ⟨E,hE⟩ : ∃ x,e=x:=⟨_,rfl⟩
  have htq:trimE l k n=E:=by
   rw[htr,<- hE]
   cases e with
   | zero=>rfl
   | succ e=>simp only[trimE]; rw[if_neg (fun h=>hlt h.1)]
  rw[hE] at hen
  have e5b:env 5 = .int (E:Nat):=by rw[e5,<- hE]
  refine qi kz ?_
  simp[go_sem,e0,e1,e5,d1]
  refine hK5 _ _ ?_
  try clear hK5 K5
  refine qj (b:=false) gz (fun h=>by cases h) (fun _=>?_)
  refine qy ?_
  refine hK3 _ _ ?_
  try clear hK3 K3
  refine qg (fun K8 hK8=>?_)
  refine qM kz ?_
  refine jf 3 (fun K90 hK90=>?_)
  simp[go_sem,e0,e5b]
  refine hK90 _ _ ?_
  clear hK90 K90
  refine jE (.vs E 1 ((iV l).take (E*1))) (Heap.empty) rfl (qcv (len:=n) tU84 tS3 (by simp[go_sem,e0]) (by simp[go_sem,e5b]) (by simp[go_sem,e5b]) oz hen) ?_
  refine zJ ?_
  simp[go_sem]
  refine hK8 _ _ ?_
  try clear hK8 K8
  refine qx ?_
  simp only[go_sem]
  refine hR _ _ ?_
  refine qG (r:=iA (trimL l k)) (by
   simp[go_sem]
   unfold iA trimL
   rw[hn,htq,List.length_take,hn,Nat.min_eq_left hen,qfy]) (qP _) (Nat.zero_le _) (by rw[zI]; trivial)
end Go.Proofs.YtfokgjhdndnnhaaGreatDoor
