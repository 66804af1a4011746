/- Contracts: the sort: rotating. -/
import Derived.Test.YtfokgjhdndnnhaaGreatDoorW12
set_option maxHeartbeats 1000000
set_option linter.unusedVariables false
set_option linter.unusedSimpArgs false
set_option maxRecDepth 20000
noncomputable section W13S
namespace Go.Proofs.YtfokgjhdndnnhaaGreatDoor
open Go Go.Fl Go.Proofs
theorem bne_nat (i j:Nat):((i:Int) != (j:Int)) = !(i==j):=by
 by_cases h:i=j
 ·subst h; simp
 ·have h2 : ¬ ((i:Int)=(j:Int)):=oz
  rw[bne,beq_eq_false_iff_ne.2 h2,beq_eq_false_iff_ne.2 h]
theorem rot_p {S:Nat->Prop} {L a m b n:Nat} {l:List Nat} {fv:AV} (hL : ¬ S L) (hn:l.length=n) (hn2:n<=1000) (h1:a<m) (h2:m<b) (h3:b<=n) {H:Heap} (gL:H.get L=some (iV l)):SCallsP Tryz.prog 129 [.ms L 0 n 1,.int a,.int m,.int b,fv] H (fun r H'=>r = .tup []/\H'.get L=some (iV (rotM a m b l))/\Step S H H'):=by
 have h0:IntKind.i64.wrap ((m:Int)-a)=((m-a:Nat):Int):=by rw[i64in _ oz oz]; omega
 have h1w:IntKind.i64.wrap ((b:Int)-m)=((b-m:Nat):Int):=by rw[i64in _ oz oz]; omega
 refine qA (sz:=58) (Tryz.call129) Tryz.func129 rfl kz (fun R hR=>?_)
 refine qg (fun K1 hK1=>?_)
 refine qi kz ?_
 simp[go_sem,h0]
 refine hK1 _ _ ?_
 try clear hK1 K1
 refine qg (fun K2 hK2=>?_)
 refine qi kz ?_
 simp[go_sem,h1w]
 refine hK2 _ _ ?_
 try clear hK2 K2
 refine qg (fun K3 hK3=>?_)
 refine qm ?_
 refine qC (Inv:=fun m0 env H2 => ∃ (i j f:Nat) (l1:List Nat),m0=i+j/\1<=i/\1<=j/\i<=m/\m+j<=n/\i+j<=f+1/\env 0 = .ms L 0 n 1/\env 2 = .int m/\env 4=fv/\env 10 = .int i/\env 11 = .int j/\rotGo m (b-a) (m-a) (b-m) l=rotGo m (f+1) i j l1/\l1.length=n/\H2.get L=some (iV l1)/\Step S H H2) ?_ (n:=b-a) (⟨m-a,b-m,b-a-1,l,oz,oz,oz,oz,oz,oz,by simp[go_sem,hn],gz,gz,gz,gz,by rw[show b-a-1+1=b-a by omega],hn,gL,Step.refl _ _⟩)
 clear gL
 rintro m0 env H2 ⟨i,j,f,l1,rfl,hi,hj,him,hmj,hf,e0,e2,e4,e10,e11,hrt,hl1,gL,hS⟩
 refine qg (fun K4 hK4=>?_)
 refine qg (fun K5 hK5=>?_)
 refine qi kz ?_
 simp[go_sem,e10,e11]
 refine hK5 _ _ ?_
 try clear hK5 K5
 refine qj (b := !(i==j)) (by simp[go_sem,bne_nat]) (fun hb=>?_) (fun hb=>?_)
 ·skip
  have hij:i≠j:=by simpa using hb
  obtain ⟨f2,rfl⟩ : ∃ f2,f=f2+1:=⟨f-1,oz⟩
  have hwi:=i64in ((m:Int)-i) oz oz
  have hmi:((m:Int)-i)=((m-i:Nat):Int):=oz
  rw[hmi] at hwi
  refine ql ?_
  refine hK4 _ _ ?_
  try clear hK4 K4
  refine qm ?_
  refine qg (fun K6 hK6=>?_)
  refine qi kz ?_
  simp[go_sem,e10,e11]
  refine hK6 _ _ ?_
  try clear hK6 K6
  refine qj (b:=decide (j<i)) gz (fun hb=>?_) (fun hb=>?_)
  ·skip
   simp only[decide_eq_true_eq] at hb
   have cs:=qjf (S:=S) (a:=m-i) (b:=m) (c:=j) (f:=fv) hL hl1 hn2 oz oz gL
   have hp:=jL j (m-i) m l1 oz oz
   have hwd:IntKind.i64.wrap ((i:Int)-j)=((i-j:Nat):Int):=by rw[i64in _ oz oz]; omega
   have hst:rotGo m (f2+1+1) i j l1=rotGo m (f2+1) (i-j) j (swapR j (m-i) m l1):=by conv=>lhs; rw[rotGo,if_neg hij,if_pos hb]
   refine qg (fun K7 hK7=>?_)
   refine qp kz ?_
   simp[go_sem,e0,e2,e4,e10,e11,hwi,hmi]
   refine ⟨_,cs,?_⟩
   rintro _ H3 hn3 ⟨rfl,g3,hS3⟩
   refine hK7 _ _ ?_
   try clear hK7 K7
   refine qo (fun K9 hK9=>?_)
   refine qi kz ?_
   simp[go_sem,e10,e11,hwd]
   refine hK9 _ _ ?_
   exact ⟨i-j+j,oz,i-j,j,f2,_,rfl,oz,oz,oz,oz,oz,by simp[go_sem,e0],by simp[go_sem,e2],by simp[go_sem,e4],gz,by simp[go_sem,e11],hrt.trans hst,by rw[hp.length_eq]; exact hl1,g3,hS.trans hS3⟩
  ·skip
   simp only[decide_eq_false_iff_not] at hb
   have cs:=qjf (S:=S) (a:=m-i) (b:=m+j-i) (c:=i) (f:=fv) hL hl1 hn2 oz oz gL
   have hp:=jL i (m-i) (m+j-i) l1 oz oz
   have hwd:IntKind.i64.wrap ((j:Int)-i)=((j-i:Nat):Int):=by rw[i64in _ oz oz]; omega
   have hwa:=i64in ((m:Int)+j) oz oz
   have hwb:IntKind.i64.wrap ((m:Int)+j-i)=((m+j-i:Nat):Int):=by rw[i64in _ oz oz]; omega
   have hst:rotGo m (f2+1+1) i j l1=rotGo m (f2+1) i (j-i) (swapR i (m-i) (m+j-i) l1):=by conv=>lhs; rw[rotGo,if_neg hij,if_neg hb]
   refine qg (fun K10 hK10=>?_)
   refine qp kz ?_
   simp[go_sem,e0,e2,e4,e10,e11,hwi,hmi,hwa,hwb]
   refine ⟨_,cs,?_⟩
   rintro _ H3 hn3 ⟨rfl,g3,hS3⟩
   refine hK10 _ _ ?_
   try clear hK10 K10
   refine qo (fun K12 hK12=>?_)
   refine qi kz ?_
   simp[go_sem,e10,e11,hwd]
   refine hK12 _ _ ?_
   exact ⟨i+(j-i),oz,i,j-i,f2,_,rfl,oz,oz,oz,oz,oz,by simp[go_sem,e0],by simp[go_sem,e2],by simp[go_sem,e4],by simp[go_sem,e10],gz,hrt.trans hst,by rw[hp.length_eq]; exact hl1,g3,hS.trans hS3⟩
 ·skip
  have hij:i=j:=by simpa using hb
  subst hij
  have hfin:rotGo m (f+1) i i l1=(i,l1):=by simp[rotGo]
  rw[hfin] at hrt
  have hwi:=i64in ((m:Int)-i) oz oz
  have hmi:((m:Int)-i)=((m-i:Nat):Int):=oz
  rw[hmi] at hwi
  have cs:=qjf (S:=S) (a:=m-i) (b:=m) (c:=i) (f:=fv) hL hl1 hn2 oz oz gL
  refine qy ?_
  refine hK3 _ _ ?_
  try clear hK3 K3
  refine qp kz ?_
  simp[go_sem,e0,e2,e4,e10,hwi,hmi]
  refine ⟨_,cs,?_⟩
  rintro _ H3 hn3 ⟨rfl,g3,hS3⟩
  refine hR _ _ ?_
  have hfin2:rotM a m b l=swapR i (m-i) m l1:=by unfold rotM; rw[hrt]
  exact (hS.trans hS3).retP (r:=.tup []) gz ⟨rfl,by rw[hfin2]; exact g3,hS.trans hS3⟩ gz
end Go.Proofs.YtfokgjhdndnnhaaGreatDoor
end W13S
set_option maxRecDepth 20000
noncomputable section W14S
namespace Go.Proofs.YtfokgjhdndnnhaaGreatDoor
open Go Go.Fl Go.Proofs
theorem qoc {cs:List Nat} {a k:Nat} {l:List Nat} (h:a<k+1) (h2:ltC cs l (k+1) k=true):insIn cs a (k+1) l=insIn cs a k (swapL l (k+1) k):=by
 simp only[insIn]
 rw[if_pos ⟨h,h2⟩]
theorem qod {cs:List Nat} {a j:Nat} {l:List Nat} (h:j<=a):insIn cs a j l=l:=by
 cases j with
 | zero=>rfl
 | succ k=>simp only[insIn]; rw[if_neg oz]
theorem qme {cs:List Nat} {a k:Nat} {l:List Nat} (h2:ltC cs l (k+1) k=false):insIn cs a (k+1) l=l:=by
 simp only[insIn]
 rw[if_neg (by rw[h2]; simp)]
theorem qal (x y:Nat):((x:Int)-(y:Int)<0)=(x<y):=propext ⟨fun h=>by omega,fun h=>by omega⟩
theorem qhz {S:Nat->Prop} {L cb a b n:Nat} {cs l:List Nat} (hn:l.length=n) (ha:a<=n) (hb2:b<=n) {H:Heap} (hst:SrtS S H L cb cs l):SCallsP Tryz.prog 126 [.ms L 0 n 1,.int a,.int b,cmpF cb] H (fun r H'=>r = .tup []/\H'.get L=some (iV (insSort cs a b l))/\Step S H H'):=by
 have hll0:n<=1000:=by obtain ⟨_,_,_,_,_,_,_,h⟩:=hst; omega
 have hwa:=qF a oz
 refine qA (sz:=53) (Tryz.call126) Tryz.func126 rfl kz (fun R hR=>?_)
 refine qg (fun K1 hK1=>?_)
 refine qi kz ?_
 simp[go_sem,hwa]
 refine hK1 _ _ ?_
 try clear hK1 K1
 refine qm ?_
 refine qC (Inv:=fun m0 env H2 => ∃ (i:Nat) (l1:List Nat),m0=b-i/\a+1<=i/\env 0 = .ms L 0 n 1/\env 1 = .int a/\env 2 = .int b/\env 3=cmpF cb/\env 8 = .int i/\insSort cs a b l=insGo cs a (b-i) i l1/\l1.length=n/\SrtS S H2 L cb cs l1/\Step S H H2) ?_ (n:=b-(a+1)) (⟨a+1,l,rfl,oz,gz,gz,gz,gz,gz,rfl,hn,hst,Step.refl _ _⟩)
 clear hst
 rintro m0 env H2 ⟨i,l1,rfl,hi,e0,e1,e2,e3,e8,hins,hl1,hst,hS⟩
 refine qg (fun K2 hK2=>?_)
 refine qg (fun K3 hK3=>?_)
 refine qi kz ?_
 simp[go_sem,e2,e8]
 refine hK3 _ _ ?_
 try clear hK3 K3
 refine qj (b:=decide (i<b)) gz (fun hb=>?_) (fun hb=>?_)
 ·skip
  simp only[decide_eq_true_eq] at hb
  refine ql ?_
  refine hK2 _ _ ?_
  try clear hK2 K2
  refine qw (fun env H2=>(env 0 = .ms L 0 n 1/\env 1 = .int a/\env 2 = .int b/\env 3=cmpF cb/\env 8 = .int i) /\ ∃ l2,insIn cs a i l1=l2/\l2.length=n/\SrtS S H2 L cb cs l2/\Step S H H2) ?_ ?_
  ·skip
   refine qm ?_
   refine qg (fun K5 hK5=>?_)
   refine qi kz ?_
   simp[go_sem,e8]
   refine hK5 _ _ ?_
   try clear hK5 K5
   refine qm ?_
   refine qC (Inv:=fun m0 env H2 => ∃ (j:Nat) (l2:List Nat),m0=j/\j<=i/\env 0 = .ms L 0 n 1/\env 1 = .int a/\env 2 = .int b/\env 3=cmpF cb/\env 8 = .int i/\env 9 = .int j/\insIn cs a i l1=insIn cs a j l2/\l2.length=n/\SrtS S H2 L cb cs l2/\Step S H H2) ?_ (n:=i) (⟨i,l1,rfl,Nat.le_refl _,by simp[go_sem,e0],by simp[go_sem,e1],by simp[go_sem,e2],by simp[go_sem,e3],by simp[go_sem,e8],by simp[go_sem,e8],rfl,hl1,hst,hS⟩)
   clear e0 e1 e2 e3 e8 hst hS
   rintro m0 env H2 ⟨j,l2,hm0,hj,e0,e1,e2,e3,e8,e9,hin,hl2,hst,hS⟩
   refine qg (fun K6 hK6=>?_)
   refine qg (fun K7 hK7=>?_)
   have hst0:=hst
   obtain ⟨hL,hcb,gL,gc,hx,hle,hcl,hll⟩:=hst0
   by_cases haj:j<=a
   ·skip
    have haj2 : ¬ ((a:Int)<(j:Int)):=oz
    have hfin:insIn cs a i l1=l2:=hin.trans (qod haj)
    refine qJ mixed kz ?_
    simp[go_sem,e0,e1,e3,e9,haj2]
    refine hK7 _ _ ?_
    try clear hK7 K7
    refine qj (b:=false) gz (fun h=>by cases h) (fun _=>?_)
    refine qy ?_
    exact ⟨⟨e0,e1,e2,e3,e8⟩,l2,hfin,hl2,hst,hS⟩
   ·skip
    obtain ⟨k,rfl⟩ : ∃ k,j=k+1:=⟨j-1,oz⟩
    have haj2:((a:Int)<(k:Int)+1):=oz
    obtain ⟨ri,di⟩:=qX (l:=l2) (i:=k+1) oz
    obtain ⟨rj,dj⟩:=qX (l:=l2) (i:=k) oz
    have sg:=qdf gL (k+1) (k)
    obtain ⟨vi,hvi⟩ : ∃ v,l2.getD (k+1) 0=v:=⟨_,rfl⟩
    obtain ⟨vj,hvj⟩ : ∃ v,l2.getD (k) 0=v:=⟨_,rfl⟩
    rw[hvi] at di sg
    rw[hvj] at dj sg
    have iv1:=zA l2 (k+1) oz vj
    have iv2:=zA (l2.set (k+1) vj) (k) (by rw[List.length_set]; omega) vi
    have L1:(iV l2).length=n:=by rw[qK]; omega
    have L2:(iV (l2.set (k+1) vj)).length=n:=by rw[qK,List.length_set]; omega
    have bi:(((k+1:Nat)):Int)<n:=oz
    have bj:(((k:Nat)):Int)<n:=oz
    have ci:(k+1)+1<=n:=oz
    have cj:(k)+1<=n:=oz
    have xi:=hst.at (i:=k+1) oz
    have xj:=hst.at (i:=k) oz
    have hltq:ltC cs l2 (k+1) k=decide (cs.getD vi 0<cs.getD vj 0):=by unfold ltC; rw[hvi,hvj]
    rw[hvi] at xi
    rw[hvj] at xj
    have cc:=cmp_w xi xj hle gc
    obtain ⟨cx,hcx⟩ : ∃ c,cs.getD vi 0=c:=⟨_,rfl⟩
    obtain ⟨cy,hcy⟩ : ∃ c,cs.getD vj 0=c:=⟨_,rfl⟩
    rw[hcx,hcy] at hltq
    rw[hcx,hcy] at cc
    have hwk:IntKind.i64.wrap (k:Int)=(k:Int):=i64in _ oz oz
    have na:((k:Int)+1).toNat=k+1:=oz
    have pa:(0:Int)<=(k:Int)+1:=oz
    push_cast at bi bj
    have hdec:=qal cx cy
    refine qJ mixed kz ?_
    refine jS 15 (fun K8 hK8=>?_)
    simp[go_sem,e0,e1,e3,e9,cmpF,haj2,gL,hwk,na,pa,di,dj,L1,bi,bj,ci,cj,hdec]
    refine ⟨_,_,cc,rfl,?_⟩
    refine hK8 _ _ ?_
    clear hK8 K8
    simp[go_sem,e0,e1,e3,e9,cmpF,haj2,gL,hwk,na,pa,di,dj,L1,bi,bj,ci,cj,hdec]
    refine hK7 _ _ ?_
    try clear hK7 K7
    refine qj (b:=decide (cx<cy)) (by simp[go_sem,hdec]) (fun hb=>?_) (fun hb=>?_)
    ·skip
     have hlt:ltC cs l2 (k+1) k=true:=hltq.trans hb
     have gL9:=sg
     refine ql ?_
     refine hK6 _ _ ?_
     try clear hK6 K6
     refine qg (fun K9 hK9=>?_)
     refine qm ?_
     refine qo (fun K95 hK95=>?_)
     refine qZ mixed kz (bf:=[0,0,0,0,8,0,0,64,224,480,0,0,3072,7168,16355,32739,65535,131071]) kz ?_
     refine jD 10 dz (fun K90 hK90=>?_)
     simp[go_sem,e0,e9,gL,hwk,na,pa,di,dj,L1,L2,bi,bj,ci,cj,befL]
     refine hK90 _ _ _ _ ?_
     clear hK90 K90
     refine jD 4 dz (fun K91 hK91=>?_)
     simp[go_sem,e0,e9,gL,hwk,na,pa,di,dj,L1,L2,bi,bj,ci,cj,befL]
     refine hK91 _ _ _ _ ?_
     clear hK91 K91
     simp[go_sem,e0,e9,gL,hwk,na,pa,di,dj,iv1,iv2,L1,L2,bi,bj,ci,cj,befL]
     refine hK95 _ _ ?_
     refine hK9 _ _ ?_
     try clear hK9 K9
     refine qo (fun K10 hK10=>?_)
     refine qi kz ?_
     simp[go_sem,e9,hwk]
     refine hK10 _ _ ?_
     exact ⟨k,oz,k,_,rfl,oz,by simp[go_sem,e0],by simp[go_sem,e1],by simp[go_sem,e2],by simp[go_sem,e3],by simp[go_sem,e8],by simp[go_sem,hwk],hin.trans (qoc oz hlt),by rw[jJ]; exact hl2,hst.next (yX hst.1) gL9 (swap_perm oz oz),hS.trans (yX hst.1)⟩
    ·skip
     have hfin:insIn cs a i l1=l2:=hin.trans (qme (hltq.trans hb))
     refine qy ?_
     exact ⟨⟨e0,e1,e2,e3,e8⟩,l2,hfin,hl2,hst,hS⟩
  clear e0 e1 e2 e3 e8 hst hS
  rintro env H2 ⟨⟨e0,e1,e2,e3,e8⟩,l2,hl2i,hl2,hst,hS⟩
  refine qo (fun K11 hK11=>?_)
  refine qi kz ?_
  simp[go_sem,e8]
  refine hK11 _ _ ?_
  have hw1:=qF i oz
  exact ⟨b-(i+1),oz,i+1,l2,rfl,oz,by simp[go_sem,e0],by simp[go_sem,e1],by simp[go_sem,e2],by simp[go_sem,e3],by simp[go_sem,hw1],by rw[hins,show b-i=(b-(i+1))+1 by omega]; simp only[insGo]; rw[hl2i],hl2,hst,hS⟩
 ·skip
  simp only[decide_eq_false_iff_not] at hb
  rw[show b-i=0 by omega] at hins
  have hins2:insSort cs a b l=l1:=hins
  obtain ⟨_,_,gL,_⟩:=hst
  refine qy ?_
  refine hR _ _ ?_
  exact hS.retP (r:=.tup []) gz ⟨rfl,by rw[hins2]; exact gL,hS⟩ gz
end Go.Proofs.YtfokgjhdndnnhaaGreatDoor
end W14S
