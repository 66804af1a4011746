/- Contracts: the sort: merging. -/
import Derived.Test.YtfokgjhdndnnhaaGreatDoorW14
set_option maxHeartbeats 2000000
set_option linter.unusedVariables false
set_option linter.unusedSimpArgs false
set_option maxRecDepth 20000
noncomputable section
namespace Go.Proofs.YtfokgjhdndnnhaaGreatDoor
open Go Go.Fl Go.Proofs
theorem qge (i j:Nat) (h:i+j<2^63):IntKind.u64.wrap ((i:Int)+(j:Int))=(i:Int)+(j:Int):=by
 have:(2:Nat)^63=9223372036854775808:=dz
 have e:IntKind.u64.wrap ((i:Int)+(j:Int))=((i:Int)+(j:Int))%18446744073709551616:=by simp[IntKind.wrap,IntKind.bits,IntKind.signed]
 rw[e]; omega
theorem qgf (i j:Nat):bshr .u64 ((i:Int)+(j:Int)) 1=(((i+j)/2:Nat):Int):=by
 unfold bshr
 have e:min ((1:Int).toNat) IntKind.u64.bits=1:=dz
 rw[e]
 have h2:(2:Int)^1=((2:Nat):Int):=dz
 have h3:(i:Int)+(j:Int)=((i+j:Nat):Int):=by simp
 rw[h2,h3,qf0]
theorem qcm (t:Nat->Bool) (f i:Nat):binGo t f i i=i:=by cases f <;> simp[binGo]
theorem qcn {t:Nat->Bool} {f i j h:Nat} (hh:(i+j)/2=h) (hij:i<j) (ht:t h=true):binGo t (f+1) i j=binGo t f (h+1) j:=by subst hh; simp only[binGo]; rw[if_pos hij,if_pos ht]
theorem qco {t:Nat->Bool} {f i j h:Nat} (hh:(i+j)/2=h) (hij:i<j) (ht:t h=false):binGo t (f+1) i j=binGo t f i h:=by subst hh; simp only[binGo]; rw[if_pos hij,if_neg (by rw[ht]; simp)]
theorem symM_one {cs:List Nat} {f a m b:Nat} {l:List Nat} (h:m=a+1):symM cs (f+1) a m b l=upGo (binGo (fun h=>ltC cs l h a) (b-m) m b-1-a) a l:=by simp only[symM]; rw[if_pos oz]
theorem symM_two {cs:List Nat} {f a m b:Nat} {l:List Nat} (h : ¬ m=a+1) (h1:a<m) (h2:b=m+1):symM cs (f+1) a m b l=downGo (m-binGo (fun h => !ltC cs l m h) (m-a) a m) m l:=by simp only[symM]; rw[if_neg oz,if_pos oz]
theorem symM_rec {cs:List Nat} {f a m b:Nat} {l:List Nat} (h : ¬ m=a+1) (h1:a<m) (h2:m<b) (h3 : ¬ b=m+1) {md s ed:Nat} {l1 l2:List Nat} (hmd:(a+b)/2=md) (hs:symStart cs a m b l=s) (he:md+m-s=ed) (hl1:(if s<m/\m<ed then rotM s m ed l else l)=l1) (hl2:(if a<s/\s<md then symM cs f a s md l1 else l1)=l2):symM cs (f+1) a m b l=if md<ed/\ed<b then symM cs f md ed b l2 else l2:=by
 subst hmd; subst hs; subst he; subst hl1; subst hl2
 simp only[symM]
 rw[if_neg oz,if_neg oz]
def SymC (S:Nat->Prop) (L cb n:Nat) (cs:List Nat) (f:Nat):Prop := ∀ (a m b:Nat) (l:List Nat) (H:Heap),b-a<=f->a<m->m<b->b<=n->l.length=n->SrtS S H L cb cs l->SCallsP Tryz.prog 127 [.ms L 0 n 1,.int a,.int m,.int b,cmpF cb] H (fun r H'=>r = .tup []/\H'.get L=some (iV (symM cs f a m b l))/\Step S H H')
theorem sym_step {S:Nat->Prop} {L cb n f:Nat} {cs:List Nat} (ih:SymC S L cb n cs f) (a m b:Nat) (l:List Nat) (H:Heap) (hf:b-a<=f+1) (h1:a<m) (h2:m<b) (h3:b<=n) (hn:l.length=n) (hst:SrtS S H L cb cs l):SCallsP Tryz.prog 127 [.ms L 0 n 1,.int a,.int m,.int b,cmpF cb] H (fun r H'=>r = .tup []/\H'.get L=some (iV (symM cs (f+1) a m b l))/\Step S H H'):=by
 have hst0:=hst
 obtain ⟨hL,hcb,gL,gc,hx,hle,hcl,hll⟩:=hst0
 have hnb:n<=1000:=oz
 have hh0:(a+b)/2=(a+b)/2:=rfl
 refine qA (sz:=220) (Tryz.call127) Tryz.func127 rfl kz (fun R hR=>?_)
 refine qg (fun K1 hK1=>?_)
 refine qg (fun K2 hK2=>?_)
 by_cases hma:m=a+1
 ·skip
  have hq1:IntKind.i64.wrap ((m:Int)-a)=1:=by rw[i64in _ oz oz]; omega
  refine qi kz ?_
  simp[go_sem,hq1]
  refine hK2 _ _ ?_
  try clear hK2 K2
  refine qj (b:=true) (by simp[go_sem,hq1]) (fun _=>?_) (fun h=>by cases h)
  refine qg (fun K3 hK3=>?_)
  refine qi kz ?_
  simp[go_sem]
  refine hK3 _ _ ?_
  try clear hK3 K3
  refine qg (fun K4 hK4=>?_)
  refine qi kz ?_
  simp[go_sem]
  refine hK4 _ _ ?_
  try clear hK4 K4
  refine qg (fun K5 hK5=>?_)
  refine qm ?_
  refine qC (Inv:=fun m0 env H2 => ∃ i j g:Nat,m0=j-i/\m<=i/\i<=j/\j<=b/\j-i<=g/\env 0 = .ms L 0 n 1/\env 1 = .int a/\env 2 = .int m/\env 3 = .int b/\env 4=cmpF cb/\env 10 = .int i/\env 11 = .int j/\binGo (fun h=>ltC cs l h a) (b-m) m b=binGo (fun h=>ltC cs l h a) g i j/\H=H2) ?_ (n:=b-m) (⟨m,b,b-m,rfl,Nat.le_refl _,oz,Nat.le_refl _,Nat.le_refl _,gz,gz,gz,gz,gz,gz,gz,rfl,rfl⟩)
  rintro m0 env _ ⟨i,j,g,rfl,hlo,hij,hhi,hjg,e0,e1,e2,e3,e4,e10,e11,hbin,rfl⟩
  refine qg (fun K6 hK6=>?_)
  refine qg (fun K7 hK7=>?_)
  refine qi kz ?_
  simp[go_sem,e10,e11]
  refine hK7 _ _ ?_
  try clear hK7 K7
  refine qj (b:=decide (i<j)) gz (fun hb=>?_) (fun hb=>?_)
  ·skip
   simp only[decide_eq_true_eq] at hb
   obtain ⟨h,hh⟩ : ∃ x,(i+j)/2=x:=⟨_,rfl⟩
   have hwh:IntKind.i64.wrap ((i:Int)+(j:Int))=(i:Int)+(j:Int):=i64in _ oz oz
   have huh:IntKind.u64.wrap ((i:Int)+(j:Int))=(i:Int)+(j:Int):=qge i j oz
   have hsh:bshr .u64 ((i:Int)+(j:Int)) 1=(h:Int):=by rw[qgf,hh]
   have hh2:((i:Int)+(j:Int))/2=(h:Int):=oz
   have hbk:IntKind.i64.wrap (h:Int)=(h:Int):=i64in _ oz oz
   obtain ⟨g,rfl⟩ : ∃ g2,g=g2+1:=⟨g-1,oz⟩
   have hw1:=qF h oz
   refine ql ?_
   refine hK6 _ _ ?_
   try clear hK6 K6
   refine qm ?_
   refine qg (fun K8 hK8=>?_)
   refine qi kz ?_
   simp[go_sem,e10,e11,hwh,huh,hsh,hh2,hbk]
   refine hK8 _ _ ?_
   try clear hK8 K8
   refine qg (fun K9 hK9=>?_)
   obtain ⟨ri,di⟩:=qX (l:=l) (i:=h) oz
   obtain ⟨rj,dj⟩:=qX (l:=l) (i:=a) oz
   have xi:=hst.at (i:=h) oz
   have xj:=hst.at (i:=a) oz
   obtain ⟨vi,hvi⟩ : ∃ v,l.getD (h) 0=v:=⟨_,rfl⟩
   obtain ⟨vj,hvj⟩ : ∃ v,l.getD (a) 0=v:=⟨_,rfl⟩
   have hltq:ltC cs l (h) (a)=decide (cs.getD vi 0<cs.getD vj 0):=by unfold ltC; rw[hvi,hvj]
   rw[hvi] at di xi
   rw[hvj] at dj xj
   have L1:(iV l).length=n:=by rw[qK]; omega
   have bi:(((h:Nat)):Int)<n:=oz
   have bj:(((a:Nat)):Int)<n:=oz
   have ci:(h)+1<=n:=oz
   have cj:(a)+1<=n:=oz
   have cc:=cmp_w xi xj hle gc
   obtain ⟨cx,hcx⟩ : ∃ c,cs.getD vi 0=c:=⟨_,rfl⟩
   obtain ⟨cy,hcy⟩ : ∃ c,cs.getD vj 0=c:=⟨_,rfl⟩
   rw[hcx,hcy] at hltq
   rw[hcx,hcy] at cc
   have hdec:=qal cx cy
   refine qJ mixed kz ?_
   refine jS 10 (fun K10 hK10=>?_)
   simp[go_sem,e0,e1,e4,cmpF,gL,di,dj,L1,bi,bj,ci,cj,hdec]
   refine ⟨_,_,cc,rfl,?_⟩
   refine hK10 _ _ ?_
   clear hK10 K10
   simp[go_sem,e0,e1,e4,cmpF,gL,di,dj,L1,bi,bj,ci,cj,hdec]
   refine hK9 _ _ ?_
   try clear hK9 K9
   refine qj (b:=decide (cx<cy)) (by simp[go_sem,hdec]) (fun hb=>?_) (fun hb=>?_)
   ·skip
    have ht:ltC cs l h a=true:=hltq.trans hb
    refine qo (fun K11 hK11=>?_)
    refine qi kz ?_
    simp[go_sem,e0,hw1]
    refine hK11 _ _ ?_
    first
     | exact ⟨j-(h+1),oz,h+1,j,g,rfl,oz,oz,oz,oz,by simp[go_sem,e0],by simp[go_sem,e1],by simp[go_sem,e2],by simp[go_sem,e3],by simp[go_sem,e4],by simp[go_sem,hw1],by simp[go_sem,e11],hbin.trans (qcn hh oz ht),rfl⟩
     | exact ⟨h-i,oz,i,h,g,rfl,oz,oz,oz,oz,by simp[go_sem,e0],by simp[go_sem,e1],by simp[go_sem,e2],by simp[go_sem,e3],by simp[go_sem,e4],by simp[go_sem,e10],gz,hbin.trans (qco hh oz ht),rfl⟩
   ·skip
    have ht:ltC cs l h a=false:=hltq.trans hb
    refine qo (fun K12 hK12=>?_)
    refine qi kz ?_
    simp[go_sem,e0]
    refine hK12 _ _ ?_
    first
     | exact ⟨j-(h+1),oz,h+1,j,g,rfl,oz,oz,oz,oz,by simp[go_sem,e0],by simp[go_sem,e1],by simp[go_sem,e2],by simp[go_sem,e3],by simp[go_sem,e4],by simp[go_sem,hw1],by simp[go_sem,e11],hbin.trans (qcn hh oz ht),rfl⟩
     | exact ⟨h-i,oz,i,h,g,rfl,oz,oz,oz,oz,by simp[go_sem,e0],by simp[go_sem,e1],by simp[go_sem,e2],by simp[go_sem,e3],by simp[go_sem,e4],by simp[go_sem,e10],gz,hbin.trans (qco hh oz ht),rfl⟩
  ·skip
   simp only[decide_eq_false_iff_not] at hb
   obtain rfl:i=j:=oz
   rw[qcm] at hbin
   obtain ⟨y,rfl⟩ : ∃ y,i=y+1:=⟨i-1,oz⟩
   have hwy:IntKind.i64.wrap (y:Int)=(y:Int):=i64in _ oz oz
   refine qy ?_
   refine hK5 _ _ ?_
   try clear hK5 K5
   refine qg (fun K13 hK13=>?_)
   refine qg (fun K14 hK14=>?_)
   refine qi kz ?_
   simp[go_sem,e1]
   refine hK14 _ _ ?_
   try clear hK14 K14
   refine qm ?_
   refine qC (Inv:=fun m0 env H2 => ∃ (k:Nat) (l1:List Nat),m0=y-k/\k<=y/\env 0 = .ms L 0 n 1/\env 1 = .int a/\env 2 = .int m/\env 3 = .int b/\env 4=cmpF cb/\env 10 = .int ((y:Int)+1)/\env 13 = .int k/\upGo (y-a) a l=upGo (y-k) k l1/\l1.length=n/\H2.get L=some (iV l1)/\Step S H H2) ?_ (n:=y-a) (⟨a,l,rfl,oz,by simp[go_sem,e0],by simp[go_sem,e1],by simp[go_sem,e2],by simp[go_sem,e3],by simp[go_sem,e4],by simp[go_sem,e10],gz,rfl,hn,gL,Step.refl _ _⟩)
   clear e0 e1 e2 e3 e4 e10 e11 gL
   rintro m0 env H2 ⟨k,l1,rfl,hk,e0,e1,e2,e3,e4,e10,e13,hup,hl1,gL,hS⟩
   refine qg (fun K15 hK15=>?_)
   refine qg (fun K16 hK16=>?_)
   refine qi kz ?_
   simp[go_sem,e10,e13,hwy]
   refine hK16 _ _ ?_
   try clear hK16 K16
   refine qj (b:=decide (k<y)) gz (fun hb=>?_) (fun hb=>?_)
   ·skip
    simp only[decide_eq_true_eq] at hb
    obtain ⟨ri,di⟩:=qX (l:=l1) (i:=k) oz
    obtain ⟨rj,dj⟩:=qX (l:=l1) (i:=k+1) oz
    have sg:=qdf gL (k) (k+1)
    obtain ⟨vi,hvi⟩ : ∃ v,l1.getD (k) 0=v:=⟨_,rfl⟩
    obtain ⟨vj,hvj⟩ : ∃ v,l1.getD (k+1) 0=v:=⟨_,rfl⟩
    rw[hvi] at di sg
    rw[hvj] at dj sg
    have iv1:=zA l1 (k) oz vj
    have iv2:=zA (l1.set (k) vj) (k+1) (by rw[List.length_set]; omega) vi
    have L1:(iV l1).length=n:=by rw[qK]; omega
    have L2:(iV (l1.set (k) vj)).length=n:=by rw[qK,List.length_set]; omega
    have bi:(((k:Nat)):Int)<n:=oz
    have bj:(((k+1:Nat)):Int)<n:=oz
    have ci:(k)+1<=n:=oz
    have cj:(k+1)+1<=n:=oz
    have hwk:=qF k oz
    have na:((k:Int)+1).toNat=k+1:=oz
    have pa:(0:Int)<=(k:Int)+1:=oz
    push_cast at bi bj hwk
    have iv1b:=iv1
    rw[dj] at iv1b
    have gL9:=sg
    refine ql ?_
    refine hK15 _ _ ?_
    try clear hK15 K15
    refine qg (fun K17 hK17=>?_)
    refine qm ?_
    refine qo (fun K95 hK95=>?_)
    refine qZ mixed kz (bf:=[0,0,0,0,8,0,0,64,224,480,0,0,3072,7168,16355,32739,65535,131071]) kz ?_
    refine jD 10 dz (fun K90 hK90=>?_)
    simp[go_sem,e0,e13,gL,hwk,na,pa,iv1b,di,dj,L1,L2,bi,bj,ci,cj,befL]
    refine hK90 _ _ _ _ ?_
    clear hK90 K90
    refine jD 4 dz (fun K91 hK91=>?_)
    simp[go_sem,e0,e13,gL,hwk,na,pa,iv1b,di,dj,L1,L2,bi,bj,ci,cj,befL]
    refine hK91 _ _ _ _ ?_
    clear hK91 K91
    simp[go_sem,e0,e13,gL,hwk,na,pa,iv1b,di,dj,iv1,iv2,L1,L2,bi,bj,ci,cj,befL]
    refine hK95 _ _ ?_
    refine hK17 _ _ ?_
    try clear hK17 K17
    refine qo (fun K18 hK18=>?_)
    refine qi kz ?_
    simp[go_sem,e13]
    refine hK18 _ _ ?_
    have hw1:=qF k oz
    exact ⟨y-(k+1),oz,k+1,_,rfl,oz,by simp[go_sem,e0],by simp[go_sem,e1],by simp[go_sem,e2],by simp[go_sem,e3],by simp[go_sem,e4],by simp[go_sem,e10],by simp[go_sem,hw1],by rw[hup,show y-k=(y-(k+1))+1 by omega]; rfl,by rw[jJ]; exact hl1,gL9,hS.trans (yX hL)⟩
   ·skip
    simp only[decide_eq_false_iff_not] at hb
    obtain rfl:k=y:=oz
    rw[Nat.sub_self] at hup
    have hup2:upGo (k-a) a l=l1:=hup
    have hf1:symM cs (f+1) a m b l=l1:=by rw[symM_one hma,hbin]; exact hup2
    refine qy ?_
    refine hK13 _ _ ?_
    try clear hK13 K13
    refine qx ?_
    simp only[go_sem]
    refine hR _ _ ?_
    exact hS.retP (r:=.tup []) gz ⟨rfl,by rw[hf1]; exact gL,hS⟩ gz
 ·skip
  have hq1:IntKind.i64.wrap ((m:Int)-a)=((m-a:Nat):Int):=by rw[i64in _ oz oz]; omega
  obtain ⟨d,hd⟩ : ∃ d,m-a=d:=⟨_,rfl⟩
  rw[hd] at hq1
  have hd1 : ¬ ((d:Int)=1):=oz
  have hd2 : ¬ (d=1):=oz
  refine qi kz ?_
  simp[go_sem,hq1,hd1,hd2]
  refine hK2 _ _ ?_
  try clear hK2 K2
  refine qj (b:=false) (by simp[go_sem,hq1,hd1,hd2]) (fun h=>by cases h) (fun _=>?_)
  refine ql ?_
  refine hK1 _ _ ?_
  try clear hK1 K1
  refine qg (fun K19 hK19=>?_)
  refine qg (fun K20 hK20=>?_)
  by_cases hbm:b=m+1
  ·skip
   have hq2:IntKind.i64.wrap ((b:Int)-m)=1:=by rw[i64in _ oz oz]; omega
   refine qi kz ?_
   simp[go_sem,hq2]
   refine hK20 _ _ ?_
   try clear hK20 K20
   refine qj (b:=true) (by simp[go_sem,hq2]) (fun _=>?_) (fun h=>by cases h)
   refine qg (fun K21 hK21=>?_)
   refine qi kz ?_
   simp[go_sem]
   refine hK21 _ _ ?_
   try clear hK21 K21
   refine qg (fun K22 hK22=>?_)
   refine qi kz ?_
   simp[go_sem]
   refine hK22 _ _ ?_
   try clear hK22 K22
   refine qg (fun K23 hK23=>?_)
   refine qm ?_
   refine qC (Inv:=fun m0 env H2 => ∃ i j g:Nat,m0=j-i/\a<=i/\i<=j/\j<=m/\j-i<=g/\env 0 = .ms L 0 n 1/\env 1 = .int a/\env 2 = .int m/\env 3 = .int b/\env 4=cmpF cb/\env 14 = .int i/\env 15 = .int j/\binGo (fun h => !ltC cs l m h) (m-a) a m=binGo (fun h => !ltC cs l m h) g i j/\H=H2) ?_ (n:=m-a) (⟨a,m,m-a,rfl,Nat.le_refl _,oz,Nat.le_refl _,Nat.le_refl _,gz,gz,gz,gz,gz,gz,gz,rfl,rfl⟩)
   rintro m0 env _ ⟨i,j,g,rfl,hlo,hij,hhi,hjg,e0,e1,e2,e3,e4,e14,e15,hbin,rfl⟩
   refine qg (fun K24 hK24=>?_)
   refine qg (fun K25 hK25=>?_)
   refine qi kz ?_
   simp[go_sem,e14,e15]
   refine hK25 _ _ ?_
   try clear hK25 K25
   refine qj (b:=decide (i<j)) gz (fun hb=>?_) (fun hb=>?_)
   ·skip
    simp only[decide_eq_true_eq] at hb
    obtain ⟨h,hh⟩ : ∃ x,(i+j)/2=x:=⟨_,rfl⟩
    have hwh:IntKind.i64.wrap ((i:Int)+(j:Int))=(i:Int)+(j:Int):=i64in _ oz oz
    have huh:IntKind.u64.wrap ((i:Int)+(j:Int))=(i:Int)+(j:Int):=qge i j oz
    have hsh:bshr .u64 ((i:Int)+(j:Int)) 1=(h:Int):=by rw[qgf,hh]
    have hh2:((i:Int)+(j:Int))/2=(h:Int):=oz
    have hbk:IntKind.i64.wrap (h:Int)=(h:Int):=i64in _ oz oz
    obtain ⟨g,rfl⟩ : ∃ g2,g=g2+1:=⟨g-1,oz⟩
    have hw1:=qF h oz
    refine ql ?_
    refine hK24 _ _ ?_
    try clear hK24 K24
    refine qm ?_
    refine qg (fun K26 hK26=>?_)
    refine qi kz ?_
    simp[go_sem,e14,e15,hwh,huh,hsh,hh2,hbk]
    refine hK26 _ _ ?_
    try clear hK26 K26
    refine qg (fun K27 hK27=>?_)
    obtain ⟨ri,di⟩:=qX (l:=l) (i:=m) oz
    obtain ⟨rj,dj⟩:=qX (l:=l) (i:=h) oz
    have xi:=hst.at (i:=m) oz
    have xj:=hst.at (i:=h) oz
    obtain ⟨vi,hvi⟩ : ∃ v,l.getD (m) 0=v:=⟨_,rfl⟩
    obtain ⟨vj,hvj⟩ : ∃ v,l.getD (h) 0=v:=⟨_,rfl⟩
    have hltq:ltC cs l (m) (h)=decide (cs.getD vi 0<cs.getD vj 0):=by unfold ltC; rw[hvi,hvj]
    rw[hvi] at di xi
    rw[hvj] at dj xj
    have L1:(iV l).length=n:=by rw[qK]; omega
    have bi:(((m:Nat)):Int)<n:=oz
    have bj:(((h:Nat)):Int)<n:=oz
    have ci:(m)+1<=n:=oz
    have cj:(h)+1<=n:=oz
    have cc:=cmp_w xi xj hle gc
    obtain ⟨cx,hcx⟩ : ∃ c,cs.getD vi 0=c:=⟨_,rfl⟩
    obtain ⟨cy,hcy⟩ : ∃ c,cs.getD vj 0=c:=⟨_,rfl⟩
    rw[hcx,hcy] at hltq
    rw[hcx,hcy] at cc
    have hdec:=qal cx cy
    refine qJ mixed kz ?_
    refine jS 10 (fun K28 hK28=>?_)
    simp[go_sem,e0,e2,e4,cmpF,gL,di,dj,L1,bi,bj,ci,cj,hdec]
    refine ⟨_,_,cc,rfl,?_⟩
    refine hK28 _ _ ?_
    clear hK28 K28
    simp[go_sem,e0,e2,e4,cmpF,gL,di,dj,L1,bi,bj,ci,cj,hdec]
    refine hK27 _ _ ?_
    try clear hK27 K27
    refine qj (b := !decide (cx<cy)) (by simp[go_sem,hdec]) (fun hb=>?_) (fun hb=>?_)
    ·skip
     have ht:(!ltC cs l m h)=true:=by rw[hltq]; exact hb
     refine qo (fun K29 hK29=>?_)
     refine qi kz ?_
     simp[go_sem,e0,hw1]
     refine hK29 _ _ ?_
     first
      | exact ⟨j-(h+1),oz,h+1,j,g,rfl,oz,oz,oz,oz,by simp[go_sem,e0],by simp[go_sem,e1],by simp[go_sem,e2],by simp[go_sem,e3],by simp[go_sem,e4],by simp[go_sem,hw1],by simp[go_sem,e15],hbin.trans (qcn hh oz ht),rfl⟩
      | exact ⟨h-i,oz,i,h,g,rfl,oz,oz,oz,oz,by simp[go_sem,e0],by simp[go_sem,e1],by simp[go_sem,e2],by simp[go_sem,e3],by simp[go_sem,e4],by simp[go_sem,e14],gz,hbin.trans (qco hh oz ht),rfl⟩
    ·skip
     have ht:(!ltC cs l m h)=false:=by rw[hltq]; exact hb
     refine qo (fun K30 hK30=>?_)
     refine qi kz ?_
     simp[go_sem,e0]
     refine hK30 _ _ ?_
     first
      | exact ⟨j-(h+1),oz,h+1,j,g,rfl,oz,oz,oz,oz,by simp[go_sem,e0],by simp[go_sem,e1],by simp[go_sem,e2],by simp[go_sem,e3],by simp[go_sem,e4],by simp[go_sem,hw1],by simp[go_sem,e15],hbin.trans (qcn hh oz ht),rfl⟩
      | exact ⟨h-i,oz,i,h,g,rfl,oz,oz,oz,oz,by simp[go_sem,e0],by simp[go_sem,e1],by simp[go_sem,e2],by simp[go_sem,e3],by simp[go_sem,e4],by simp[go_sem,e14],gz,hbin.trans (qco hh oz ht),rfl⟩
   ·skip
    simp only[decide_eq_false_iff_not] at hb
    obtain rfl:i=j:=oz
    rw[qcm] at hbin
    refine qy ?_
    refine hK23 _ _ ?_
    try clear hK23 K23
    refine qg (fun K31 hK31=>?_)
    refine qg (fun K32 hK32=>?_)
    refine qi kz ?_
    simp[go_sem,e2]
    refine hK32 _ _ ?_
    try clear hK32 K32
    refine qm ?_
    refine qC (Inv:=fun m0 env H2 => ∃ (j:Nat) (l1:List Nat),m0=j-i/\i<=j/\j<=m/\env 0 = .ms L 0 n 1/\env 1 = .int a/\env 2 = .int m/\env 3 = .int b/\env 4=cmpF cb/\env 14 = .int i/\env 17 = .int j/\downGo (m-i) m l=downGo (j-i) j l1/\l1.length=n/\H2.get L=some (iV l1)/\Step S H H2) ?_ (n:=m-i) (⟨m,l,rfl,oz,Nat.le_refl _,by simp[go_sem,e0],by simp[go_sem,e1],by simp[go_sem,e2],by simp[go_sem,e3],by simp[go_sem,e4],by simp[go_sem,e14],gz,rfl,hn,gL,Step.refl _ _⟩)
    clear e0 e1 e2 e3 e4 e14 e15 gL
    rintro m0 env H2 ⟨j,l1,rfl,hj,hjm,e0,e1,e2,e3,e4,e14,e17,hdn,hl1,gL,hS⟩
    refine qg (fun K33 hK33=>?_)
    refine qg (fun K34 hK34=>?_)
    refine qi kz ?_
    simp[go_sem,e14,e17]
    refine hK34 _ _ ?_
    try clear hK34 K34
    refine qj (b:=decide (i<j)) gz (fun hb=>?_) (fun hb=>?_)
    ·skip
     simp only[decide_eq_true_eq] at hb
     obtain ⟨k,rfl⟩ : ∃ k,j=k+1:=⟨j-1,oz⟩
     obtain ⟨ri,di⟩:=qX (l:=l1) (i:=k+1) oz
     obtain ⟨rj,dj⟩:=qX (l:=l1) (i:=k) oz
     have sg:=qdf gL (k+1) (k)
     obtain ⟨vi,hvi⟩ : ∃ v,l1.getD (k+1) 0=v:=⟨_,rfl⟩
     obtain ⟨vj,hvj⟩ : ∃ v,l1.getD (k) 0=v:=⟨_,rfl⟩
     rw[hvi] at di sg
     rw[hvj] at dj sg
     have iv1:=zA l1 (k+1) oz vj
     have iv2:=zA (l1.set (k+1) vj) (k) (by rw[List.length_set]; omega) vi
     have L1:(iV l1).length=n:=by rw[qK]; omega
     have L2:(iV (l1.set (k+1) vj)).length=n:=by rw[qK,List.length_set]; omega
     have bi:(((k+1:Nat)):Int)<n:=oz
     have bj:(((k:Nat)):Int)<n:=oz
     have ci:(k+1)+1<=n:=oz
     have cj:(k)+1<=n:=oz
     have hwk:IntKind.i64.wrap (k:Int)=(k:Int):=i64in _ oz oz
     have na:((k:Int)+1).toNat=k+1:=oz
     have pa:(0:Int)<=(k:Int)+1:=oz
     push_cast at bi bj
     have gL9:=sg
     refine ql ?_
     refine hK33 _ _ ?_
     try clear hK33 K33
     refine qg (fun K35 hK35=>?_)
     refine qm ?_
     refine qo (fun K95 hK95=>?_)
     refine qZ mixed kz (bf:=[0,0,0,0,8,0,0,64,224,480,0,0,3072,7168,16355,32739,65535,131071]) kz ?_
     refine jD 10 dz (fun K90 hK90=>?_)
     simp[go_sem,e0,e17,gL,hwk,na,pa,di,dj,L1,L2,bi,bj,ci,cj,befL]
     refine hK90 _ _ _ _ ?_
     clear hK90 K90
     refine jD 4 dz (fun K91 hK91=>?_)
     simp[go_sem,e0,e17,gL,hwk,na,pa,di,dj,L1,L2,bi,bj,ci,cj,befL]
     refine hK91 _ _ _ _ ?_
     clear hK91 K91
     simp[go_sem,e0,e17,gL,hwk,na,pa,di,dj,iv1,iv2,L1,L2,bi,bj,ci,cj,befL]
     refine hK95 _ _ ?_
     refine hK35 _ _ ?_
     try clear hK35 K35
     refine qo (fun K36 hK36=>?_)
     refine qi kz ?_
     simp[go_sem,e17,hwk]
     refine hK36 _ _ ?_
     exact ⟨k-i,oz,k,_,rfl,oz,oz,by simp[go_sem,e0],by simp[go_sem,e1],by simp[go_sem,e2],by simp[go_sem,e3],by simp[go_sem,e4],by simp[go_sem,e14],by simp[go_sem,hwk],by rw[hdn,show k+1-i=(k-i)+1 by omega]; rfl,by rw[jJ]; exact hl1,gL9,hS.trans (yX hL)⟩
    ·skip
     simp only[decide_eq_false_iff_not] at hb
     obtain rfl:i=j:=oz
     rw[Nat.sub_self] at hdn
     have hdn2:downGo (m-i) m l=l1:=hdn
     have hf2:symM cs (f+1) a m b l=l1:=by rw[symM_two hma h1 hbm,hbin]; exact hdn2
     refine qy ?_
     refine hK31 _ _ ?_
     try clear hK31 K31
     refine qx ?_
     simp only[go_sem]
     refine hR _ _ ?_
     exact hS.retP (r:=.tup []) gz ⟨rfl,by rw[hf2]; exact gL,hS⟩ gz
  ·skip
   have hq2:IntKind.i64.wrap ((b:Int)-m)=((b-m:Nat):Int):=by rw[i64in _ oz oz]; omega
   obtain ⟨d3,hd3⟩ : ∃ d,b-m=d:=⟨_,rfl⟩
   rw[hd3] at hq2
   have hd4 : ¬ ((d3:Int)=1):=oz
   have hd5 : ¬ (d3=1):=oz
   refine qi kz ?_
   simp[go_sem,hq2,hd4,hd5]
   refine hK20 _ _ ?_
   try clear hK20 K20
   refine qj (b:=false) (by simp[go_sem,hq2,hd4,hd5]) (fun h=>by cases h) (fun _=>?_)
   refine ql ?_
   refine hK19 _ _ ?_
   try clear hK19 K19
   refine qg (fun K37 hK37=>?_)
   obtain ⟨md,hh⟩ : ∃ x,(a+b)/2=x:=⟨_,rfl⟩
   have hwh:IntKind.i64.wrap ((a:Int)+(b:Int))=(a:Int)+(b:Int):=i64in _ oz oz
   have huh:IntKind.u64.wrap ((a:Int)+(b:Int))=(a:Int)+(b:Int):=qge a b oz
   have hsh:bshr .u64 ((a:Int)+(b:Int)) 1=(md:Int):=by rw[qgf,hh]
   have hh2:((a:Int)+(b:Int))/2=(md:Int):=oz
   have hbk:IntKind.i64.wrap (md:Int)=(md:Int):=i64in _ oz oz
   clear hh0
   have hh0:=hh
   refine qi kz ?_
   simp[go_sem,hwh,huh,hsh,hh2,hbk]
   refine hK37 _ _ ?_
   try clear hK37 K37
   refine qg (fun K38 hK38=>?_)
   obtain ⟨nn,hnn⟩ : ∃ x,md+m=x:=⟨_,rfl⟩
   have hwn:IntKind.i64.wrap ((md:Int)+m)=(nn:Int):=by rw[i64in _ oz oz]; omega
   refine qi kz ?_
   simp[go_sem,hwn]
   refine hK38 _ _ ?_
   try clear hK38 K38
   refine qg (fun K39 hK39=>?_)
   refine qi kz ?_
   simp[go_sem]
   refine hK39 _ _ ?_
   try clear hK39 K39
   refine qw (fun env H2 => ∃ s0 r0:Nat,(env 0 = .ms L 0 n 1/\env 1 = .int a/\env 2 = .int m/\env 3 = .int b/\env 4=cmpF cb/\env 18 = .int md/\env 19 = .int nn/\env 20 = .int s0/\env 21 = .int r0)/\a<=s0/\s0<=r0/\r0<=md/\r0<=m/\nn<=s0+b/\symStart cs a m b l=binGo (fun c => !ltC cs l (nn-1-c) c) (r0-s0) s0 r0/\H=H2) ?_ ?_
   ·skip
    refine qg (fun K41 hK41=>?_)
    refine qi kz ?_
    simp[go_sem]
    refine hK41 _ _ ?_
    try clear hK41 K41
    refine qj (b:=decide (md<m)) gz (fun hb=>?_) (fun hb=>?_)
    ·skip
     simp only[decide_eq_true_eq] at hb
     have hws:IntKind.i64.wrap ((nn:Int)-b)=((nn-b:Nat):Int):=by rw[i64in _ oz oz]; omega
     refine qg (fun K42 hK42=>?_)
     refine qi kz ?_
     simp[go_sem,hws]
     refine hK42 _ _ ?_
     try clear hK42 K42
     refine qo (fun K43 hK43=>?_)
     refine qi kz ?_
     simp[go_sem]
     refine hK43 _ _ ?_
     first
      | exact ⟨nn-b,md,⟨gz,gz,gz,gz,gz,gz,gz,gz,gz⟩,oz,oz,oz,oz,oz,by simp only[symStart,hh,hnn,if_pos hb],rfl⟩
      | exact ⟨a,m,⟨gz,gz,gz,gz,gz,gz,gz,gz,gz⟩,oz,oz,oz,oz,oz,by simp only[symStart,hh,hnn,if_neg hb],rfl⟩
    ·skip
     simp only[decide_eq_false_iff_not] at hb
     refine qg (fun K44 hK44=>?_)
     refine qi kz ?_
     simp[go_sem]
     refine hK44 _ _ ?_
     try clear hK44 K44
     refine qo (fun K45 hK45=>?_)
     refine qi kz ?_
     simp[go_sem]
     refine hK45 _ _ ?_
     first
      | exact ⟨nn-b,md,⟨gz,gz,gz,gz,gz,gz,gz,gz,gz⟩,oz,oz,oz,oz,oz,by simp only[symStart,hh,hnn,if_pos hb],rfl⟩
      | exact ⟨a,m,⟨gz,gz,gz,gz,gz,gz,gz,gz,gz⟩,oz,oz,oz,oz,oz,by simp only[symStart,hh,hnn,if_neg hb],rfl⟩
   rintro env _ ⟨s0,r0,⟨e0,e1,e2,e3,e4,e18,e19,e20,e21⟩,ha0,hs0,hr1,hr2,hsb,hsym,rfl⟩
   refine qg (fun K46 hK46=>?_)
   obtain ⟨pp,hpp⟩ : ∃ x,nn-1=x:=⟨_,rfl⟩
   have hwp:IntKind.i64.wrap ((nn:Int)-1)=(pp:Int):=by rw[i64in _ oz oz]; omega
   refine qi kz ?_
   simp[go_sem,e19,hwp]
   refine hK46 _ _ ?_
   try clear hK46 K46
   refine qg (fun K47 hK47=>?_)
   refine qm ?_
   refine qC (Inv:=fun m0 env H2 => ∃ i j g:Nat,m0=j-i/\s0<=i/\i<=j/\j<=r0/\j-i<=g/\env 0 = .ms L 0 n 1/\env 1 = .int a/\env 2 = .int m/\env 3 = .int b/\env 4=cmpF cb/\env 18 = .int md/\env 19 = .int nn/\env 22 = .int pp/\env 20 = .int i/\env 21 = .int j/\symStart cs a m b l=binGo (fun c => !ltC cs l (nn-1-c) c) g i j/\H=H2) ?_ (n:=r0-s0) (⟨s0,r0,r0-s0,rfl,Nat.le_refl _,hs0,Nat.le_refl _,Nat.le_refl _,by simp[go_sem,e0],by simp[go_sem,e1],by simp[go_sem,e2],by simp[go_sem,e3],by simp[go_sem,e4],by simp[go_sem,e18],by simp[go_sem,e19],gz,by simp[go_sem,e20],by simp[go_sem,e21],hsym,rfl⟩)
   clear e0 e1 e2 e3 e4 e18 e19 e20 e21
   rintro m0 env _ ⟨i,j,g,rfl,hlo,hij,hhi,hjg,e0,e1,e2,e3,e4,e18,e19,e22,e20,e21,hbin,rfl⟩
   refine qg (fun K48 hK48=>?_)
   refine qg (fun K49 hK49=>?_)
   refine qi kz ?_
   simp[go_sem,e20,e21]
   refine hK49 _ _ ?_
   try clear hK49 K49
   refine qj (b:=decide (i<j)) gz (fun hb=>?_) (fun hb=>?_)
   ·skip
    clear hh
    simp only[decide_eq_true_eq] at hb
    obtain ⟨h,hh⟩ : ∃ x,(i+j)/2=x:=⟨_,rfl⟩
    have hwh:IntKind.i64.wrap ((i:Int)+(j:Int))=(i:Int)+(j:Int):=i64in _ oz oz
    have huh:IntKind.u64.wrap ((i:Int)+(j:Int))=(i:Int)+(j:Int):=qge i j oz
    have hsh:bshr .u64 ((i:Int)+(j:Int)) 1=(h:Int):=by rw[qgf,hh]
    have hh2:((i:Int)+(j:Int))/2=(h:Int):=oz
    have hbk:IntKind.i64.wrap (h:Int)=(h:Int):=i64in _ oz oz
    obtain ⟨g,rfl⟩ : ∃ g2,g=g2+1:=⟨g-1,oz⟩
    have hw1:=qF h oz
    obtain ⟨q,hq⟩ : ∃ x,pp-h=x:=⟨_,rfl⟩
    have hwq:IntKind.i64.wrap ((pp:Int)-h)=(q:Int):=by rw[i64in _ oz oz]; omega
    have hqe:nn-1-h=q:=oz
    refine ql ?_
    refine hK48 _ _ ?_
    try clear hK48 K48
    refine qm ?_
    refine qg (fun K50 hK50=>?_)
    refine qi kz ?_
    simp[go_sem,e20,e21,hwh,huh,hsh,hh2,hbk]
    refine hK50 _ _ ?_
    try clear hK50 K50
    refine qg (fun K51 hK51=>?_)
    obtain ⟨ri,di⟩:=qX (l:=l) (i:=q) oz
    obtain ⟨rj,dj⟩:=qX (l:=l) (i:=h) oz
    have xi:=hst.at (i:=q) oz
    have xj:=hst.at (i:=h) oz
    obtain ⟨vi,hvi⟩ : ∃ v,l.getD (q) 0=v:=⟨_,rfl⟩
    obtain ⟨vj,hvj⟩ : ∃ v,l.getD (h) 0=v:=⟨_,rfl⟩
    have hltq:ltC cs l (q) (h)=decide (cs.getD vi 0<cs.getD vj 0):=by unfold ltC; rw[hvi,hvj]
    rw[hvi] at di xi
    rw[hvj] at dj xj
    have L1:(iV l).length=n:=by rw[qK]; omega
    have bi:(((q:Nat)):Int)<n:=oz
    have bj:(((h:Nat)):Int)<n:=oz
    have ci:(q)+1<=n:=oz
    have cj:(h)+1<=n:=oz
    have cc:=cmp_w xi xj hle gc
    obtain ⟨cx,hcx⟩ : ∃ c,cs.getD vi 0=c:=⟨_,rfl⟩
    obtain ⟨cy,hcy⟩ : ∃ c,cs.getD vj 0=c:=⟨_,rfl⟩
    rw[hcx,hcy] at hltq
    rw[hcx,hcy] at cc
    have hdec:=qal cx cy
    refine qJ mixed kz ?_
    refine jS 12 (fun K52 hK52=>?_)
    simp[go_sem,e0,e4,e22,cmpF,gL,hwq,di,dj,L1,bi,bj,ci,cj,hdec]
    refine ⟨_,_,cc,rfl,?_⟩
    refine hK52 _ _ ?_
    clear hK52 K52
    simp[go_sem,e0,e4,e22,cmpF,gL,hwq,di,dj,L1,bi,bj,ci,cj,hdec]
    refine hK51 _ _ ?_
    try clear hK51 K51
    refine qj (b := !decide (cx<cy)) (by simp[go_sem,hdec]) (fun hb=>?_) (fun hb=>?_)
    ·skip
     have ht:(!ltC cs l (nn-1-h) h)=true:=by rw[hqe,hltq]; exact hb
     refine qo (fun K53 hK53=>?_)
     refine qi kz ?_
     simp[go_sem,e0,hw1]
     refine hK53 _ _ ?_
     first
      | exact ⟨j-(h+1),oz,h+1,j,g,rfl,oz,oz,oz,oz,by simp[go_sem,e0],by simp[go_sem,e1],by simp[go_sem,e2],by simp[go_sem,e3],by simp[go_sem,e4],by simp[go_sem,e18],by simp[go_sem,e19],by simp[go_sem,e22],by simp[go_sem,hw1],by simp[go_sem,e21],hbin.trans (qcn hh oz ht),rfl⟩
      | exact ⟨h-i,oz,i,h,g,rfl,oz,oz,oz,oz,by simp[go_sem,e0],by simp[go_sem,e1],by simp[go_sem,e2],by simp[go_sem,e3],by simp[go_sem,e4],by simp[go_sem,e18],by simp[go_sem,e19],by simp[go_sem,e22],by simp[go_sem,e20],gz,hbin.trans (qco hh oz ht),rfl⟩
    ·skip
     have ht:(!ltC cs l (nn-1-h) h)=false:=by rw[hqe,hltq]; exact hb
     refine qo (fun K54 hK54=>?_)
     refine qi kz ?_
     simp[go_sem,e0]
     refine hK54 _ _ ?_
     first
      | exact ⟨j-(h+1),oz,h+1,j,g,rfl,oz,oz,oz,oz,by simp[go_sem,e0],by simp[go_sem,e1],by simp[go_sem,e2],by simp[go_sem,e3],by simp[go_sem,e4],by simp[go_sem,e18],by simp[go_sem,e19],by simp[go_sem,e22],by simp[go_sem,hw1],by simp[go_sem,e21],hbin.trans (qcn hh oz ht),rfl⟩
      | exact ⟨h-i,oz,i,h,g,rfl,oz,oz,oz,oz,by simp[go_sem,e0],by simp[go_sem,e1],by simp[go_sem,e2],by simp[go_sem,e3],by simp[go_sem,e4],by simp[go_sem,e18],by simp[go_sem,e19],by simp[go_sem,e22],by simp[go_sem,e20],gz,hbin.trans (qco hh oz ht),rfl⟩
   ·skip
    simp only[decide_eq_false_iff_not] at hb
    obtain rfl:i=j:=oz
    rw[qcm] at hbin
    clear hb
    obtain ⟨ed,hed⟩ : ∃ x,nn-i=x:=⟨_,rfl⟩
    have hwe:IntKind.i64.wrap ((nn:Int)-i)=(ed:Int):=by rw[i64in _ oz oz]; omega
    refine qy ?_
    refine hK47 _ _ ?_
    try clear hK47 K47
    refine qg (fun K55 hK55=>?_)
    refine qi kz ?_
    simp[go_sem,e19,e20,hwe]
    refine hK55 _ _ ?_
    try clear hK55 K55
    refine qw (fun env H2=>(env 0 = .ms L 0 n 1/\env 1 = .int a/\env 2 = .int m/\env 3 = .int b/\env 4=cmpF cb/\env 18 = .int md/\env 20 = .int i/\env 24 = .int ed) /\ ∃ l1,(if i<m/\m<ed then rotM i m ed l else l)=l1/\l1.length=n/\SrtS S H2 L cb cs l1/\Step S H H2) ?_ ?_
    ·skip
     refine qg (fun K57 hK57=>?_)
     rcases (by omega:(i<m/\m<ed)\/(i<m /\ ¬ m<ed) \/ ¬ i<m) with ⟨c1,c2⟩ | ⟨c1,c2⟩ | c1
     ·skip
      have d1:(i:Int)<m:=oz
      have d2:(m:Int)<ed:=oz
      have cr:=rot_p (S:=S) (fv:=cmpF cb) hL hn hnb c1 c2 oz gL
      unfold cmpF at cr
      refine qi kz ?_
      simp[go_sem,e2,e20,d1,d2]
      refine hK57 _ _ ?_
      try clear hK57 K57
      refine qj (b:=true) gz (fun _=>?_) (fun h=>by cases h)
      refine qo (fun K58 hK58=>?_)
      refine qp kz ?_
      simp[go_sem,e0,e2,e4,e20,cmpF]
      refine ⟨_,cr,?_⟩
      rintro _ H3 hn3 ⟨rfl,g3,hS3⟩
      have hl9:(if i<m/\m<ed then rotM i m ed l else l)=rotM i m ed l:=if_pos ⟨c1,c2⟩
      have hpm:=qhx i m ed l c1 c2 oz
      have hn9:(rotM i m ed l).length=n:=by rw[hpm.length_eq]; exact hn
      have hst9:=hst.next hS3 g3 hpm
      have hS9:=hS3
      refine hK58 _ _ ?_
      exact ⟨⟨by simp[go_sem,e0],by simp[go_sem,e1],by simp[go_sem,e2],by simp[go_sem,e3],by simp[go_sem,e4],by simp[go_sem,e18],by simp[go_sem,e20],gz⟩,_,hl9,hn9,hst9,hS9⟩
     ·skip
      have d1:(i:Int)<m:=oz
      have d2 : ¬ ((m:Int)<ed):=oz
      have hl9:(if i<m/\m<ed then rotM i m ed l else l)=l:=if_neg (fun h=>c2 h.2)
      have hn9:=hn
      have hst9:=hst
      have hS9:=Step.refl S H
      refine qi kz ?_
      simp[go_sem,e2,e20,d1,d2]
      refine hK57 _ _ ?_
      try clear hK57 K57
      refine qj (b:=false) gz (fun h=>by cases h) (fun _=>?_)
      refine ql ?_
      exact ⟨⟨by simp[go_sem,e0],by simp[go_sem,e1],by simp[go_sem,e2],by simp[go_sem,e3],by simp[go_sem,e4],by simp[go_sem,e18],by simp[go_sem,e20],gz⟩,_,hl9,hn9,hst9,hS9⟩
     ·skip
      have d1 : ¬ ((i:Int)<m):=oz
      have hl9:(if i<m/\m<ed then rotM i m ed l else l)=l:=if_neg (fun h=>c1 h.1)
      have hn9:=hn
      have hst9:=hst
      have hS9:=Step.refl S H
      refine qi kz ?_
      simp[go_sem,e2,e20,d1]
      refine hK57 _ _ ?_
      try clear hK57 K57
      refine qj (b:=false) gz (fun h=>by cases h) (fun _=>?_)
      refine ql ?_
      exact ⟨⟨by simp[go_sem,e0],by simp[go_sem,e1],by simp[go_sem,e2],by simp[go_sem,e3],by simp[go_sem,e4],by simp[go_sem,e18],by simp[go_sem,e20],gz⟩,_,hl9,hn9,hst9,hS9⟩
    clear e0 e1 e2 e3 e4 e18 e19 e20 e21 e22 hst gL gc
    rintro env H2 ⟨⟨e0,e1,e2,e3,e4,e18,e20,e24⟩,l1,hl1q,hl1,hst,hS⟩
    refine qw (fun env H2=>(env 0 = .ms L 0 n 1/\env 1 = .int a/\env 2 = .int m/\env 3 = .int b/\env 4=cmpF cb/\env 18 = .int md/\env 24 = .int ed) /\ ∃ l2,(if a<i/\i<md then symM cs f a i md l1 else l1)=l2/\l2.length=n/\SrtS S H2 L cb cs l2/\Step S H H2) ?_ ?_
    ·skip
     refine qg (fun K61 hK61=>?_)
     rcases (by omega:(a<i/\i<md)\/(a<i /\ ¬ i<md) \/ ¬ a<i) with ⟨c1,c2⟩ | ⟨c1,c2⟩ | c1
     ·skip
      have d1:(a:Int)<i:=oz
      have d2:(i:Int)<md:=oz
      have cr:=ih a i md l1 H2 oz c1 c2 oz hl1 hst
      unfold cmpF at cr
      refine qi kz ?_
      simp[go_sem,e1,e18,e20,d1,d2]
      refine hK61 _ _ ?_
      try clear hK61 K61
      refine qj (b:=true) gz (fun _=>?_) (fun h=>by cases h)
      refine qo (fun K62 hK62=>?_)
      refine qp kz ?_
      simp[go_sem,e0,e1,e4,e18,e20,cmpF]
      refine ⟨_,cr,?_⟩
      rintro _ H3 hn3 ⟨rfl,g3,hS3⟩
      have hl9:(if a<i/\i<md then symM cs f a i md l1 else l1)=symM cs f a i md l1:=if_pos ⟨c1,c2⟩
      have hpm:=jU cs f a i md l1 c1 c2 oz
      have hn9:(symM cs f a i md l1).length=n:=by rw[hpm.length_eq]; exact hl1
      have hst9:=hst.next hS3 g3 hpm
      have hS9:=hS.trans hS3
      refine hK62 _ _ ?_
      exact ⟨⟨by simp[go_sem,e0],by simp[go_sem,e1],by simp[go_sem,e2],by simp[go_sem,e3],by simp[go_sem,e4],by simp[go_sem,e18],by simp[go_sem,e24]⟩,_,hl9,hn9,hst9,hS9⟩
     ·skip
      have d1:(a:Int)<i:=oz
      have d2 : ¬ ((i:Int)<md):=oz
      have hl9:(if a<i/\i<md then symM cs f a i md l1 else l1)=l1:=if_neg (fun h=>c2 h.2)
      have hn9:=hl1
      have hst9:=hst
      have hS9:=hS
      refine qi kz ?_
      simp[go_sem,e1,e18,e20,d1,d2]
      refine hK61 _ _ ?_
      try clear hK61 K61
      refine qj (b:=false) gz (fun h=>by cases h) (fun _=>?_)
      refine ql ?_
      exact ⟨⟨by simp[go_sem,e0],by simp[go_sem,e1],by simp[go_sem,e2],by simp[go_sem,e3],by simp[go_sem,e4],by simp[go_sem,e18],by simp[go_sem,e24]⟩,_,hl9,hn9,hst9,hS9⟩
     ·skip
      have d1 : ¬ ((a:Int)<i):=oz
      have hl9:(if a<i/\i<md then symM cs f a i md l1 else l1)=l1:=if_neg (fun h=>c1 h.1)
      have hn9:=hl1
      have hst9:=hst
      have hS9:=hS
      refine qi kz ?_
      simp[go_sem,e1,e18,e20,d1]
      refine hK61 _ _ ?_
      try clear hK61 K61
      refine qj (b:=false) gz (fun h=>by cases h) (fun _=>?_)
      refine ql ?_
      exact ⟨⟨by simp[go_sem,e0],by simp[go_sem,e1],by simp[go_sem,e2],by simp[go_sem,e3],by simp[go_sem,e4],by simp[go_sem,e18],by simp[go_sem,e24]⟩,_,hl9,hn9,hst9,hS9⟩
    clear e0 e1 e2 e3 e4 e18 e20 e24 hst hS
    rintro env H2 ⟨⟨e0,e1,e2,e3,e4,e18,e24⟩,l2,hl2q,hl2,hst,hS⟩
    have hrec:=symM_rec (f:=f) hma h1 h2 hbm hh0 hbin (by rw[hnn]; exact hed) hl1q hl2q
    refine qg (fun K64 hK64=>?_)
    rcases (by omega:(md<ed/\ed<b)\/(md<ed /\ ¬ ed<b) \/ ¬ md<ed) with ⟨c1,c2⟩ | ⟨c1,c2⟩ | c1
    ·skip
     have d1:(md:Int)<ed:=oz
     have d2:(ed:Int)<b:=oz
     have cr:=ih md ed b l2 H2 oz c1 c2 h3 hl2 hst
     unfold cmpF at cr
     refine qi kz ?_
     simp[go_sem,e3,e18,e24,d1,d2]
     refine hK64 _ _ ?_
     try clear hK64 K64
     refine qj (b:=true) gz (fun _=>?_) (fun h=>by cases h)
     refine qp kz ?_
     simp[go_sem,e0,e3,e4,e18,e24,cmpF]
     refine ⟨_,cr,?_⟩
     rintro _ H3 hn3 ⟨rfl,g3,hS3⟩
     have hl9:symM cs (f+1) a m b l=symM cs f md ed b l2:=hrec.trans (if_pos ⟨c1,c2⟩)
     have gL9:=g3
     have hS9:=hS.trans hS3
     refine hR _ _ ?_
     exact hS9.retP (r:=.tup []) gz ⟨rfl,by rw[hl9]; exact gL9,hS9⟩ gz
    ·skip
     have d1:(md:Int)<ed:=oz
     have d2 : ¬ ((ed:Int)<b):=oz
     have hl9:symM cs (f+1) a m b l=l2:=hrec.trans (if_neg (fun h=>c2 h.2))
     have gL9:=hst.2.2.1
     have hS9:=hS
     refine qi kz ?_
     simp[go_sem,e3,e18,e24,d1,d2]
     refine hK64 _ _ ?_
     try clear hK64 K64
     refine qj (b:=false) gz (fun h=>by cases h) (fun _=>?_)
     refine ql ?_
     refine hR _ _ ?_
     exact hS9.retP (r:=.tup []) gz ⟨rfl,by rw[hl9]; exact gL9,hS9⟩ gz
    ·skip
     have d1 : ¬ ((md:Int)<ed):=oz
     have hl9:symM cs (f+1) a m b l=l2:=hrec.trans (if_neg (fun h=>c1 h.1))
     have gL9:=hst.2.2.1
     have hS9:=hS
     refine qi kz ?_
     simp[go_sem,e3,e18,e24,d1]
     refine hK64 _ _ ?_
     try clear hK64 K64
     refine qj (b:=false) gz (fun h=>by cases h) (fun _=>?_)
     refine ql ?_
     refine hR _ _ ?_
     exact hS9.retP (r:=.tup []) gz ⟨rfl,by rw[hl9]; exact gL9,hS9⟩ gz
theorem sym_p (S:Nat->Prop) (L cb n:Nat) (cs:List Nat) : ∀ f,SymC S L cb n cs f
 | 0=>fun a m b l H hf h1 h2 _ _ _=>by omega
 | f+1=>fun a m b l H hf h1 h2 h3 hn hst=>sym_step (sym_p S L cb n cs f) a m b l H hf h1 h2 h3 hn hst
end Go.Proofs.YtfokgjhdndnnhaaGreatDoor
