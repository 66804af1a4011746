/- Contracts: the document's table, made. -/
import Derived.Test.YtfokgjhdndnnhaaGreatDoorX2
import Derived.Test.YtfokgjhdndnnhaaGreatDoorD3
import Derived.Test.YtfokgjhdndnnhaaGreatDoorW23
import Derived.Test.YtfokgjhdndnnhaaGreatDoorW44
set_option maxHeartbeats 2000000
set_option linter.unusedVariables false
set_option linter.unusedSimpArgs false
set_option maxRecDepth 20000
noncomputable section X6S
namespace Go.Proofs.YtfokgjhdndnnhaaGreatDoor
open Go Go.Fl Go.Proofs
def lastP (l:List Nat):Nat:=l.foldl (fun a x=>if 0<x then x else a) 0
theorem qmv {l:List Nat} {i:Nat} (h:i<l.length):lastP (l.take (i+1))=if 0<l.getD i 0 then l.getD i 0 else lastP (l.take i):=by
 unfold lastP
 rw[List.take_add_one,List.getElem?_eq_getElem h,List.foldl_append,qU h]
 rfl
theorem qi0 : ∀ (l:List Nat) (a:Nat),nposL l=0->l.foldl (fun a x=>if 0<x then x else a) a=a
 | [],_,_=>rfl
 | x::r,a,h=>by
  simp only[nposL,List.countP_cons] at h
  have hx : ¬ 0<x:=by intro e; simp[e] at h
  simp only[List.foldl_cons,if_neg hx]
  exact qi0 r a (by unfold nposL; omega)
theorem qlk : ∀ (l:List Nat) (a:Nat),nposL l=1->1∈l->l.foldl (fun a x=>if 0<x then x else a) a=1
 | x::r,a,h,hm=>by
  simp only[nposL,List.countP_cons] at h
  simp only[List.foldl_cons]
  by_cases hx:0<x
  ·rw[if_pos hx]
   have hr:nposL r=0:=by
    unfold nposL
    simp[hx] at h
    simpa using h
   have hx1:x=1:=by
    rcases List.mem_cons.1 hm with e | e
    ·exact e.symm
    ·exfalso
     have:0<nposL r:=List.countP_pos_iff.2 ⟨1,e,dz⟩
     omega
   rw[qi0 r x hr,hx1]
  ·rw[if_neg hx]
   refine qlk r a ?_ ?_
   ·unfold nposL
    simp[hx] at h
    exact h
   ·rcases List.mem_cons.1 hm with e | e
    ·omega
    ·exact e
theorem qet : ∀ l:List Nat,(∀ x∈l,x<=15)->asum l 15=nposL l
 | [],_=>by
  have : ∀ n,asum [] n=0:=fun n=>by
   induction n with
   | zero=>rfl
   | succ n ih=>simp[asum,ih,cnt]
  exact this 15
 | x::r,h=>by
  rw[qdr,qet r (fun y hy=>h y (.tail _ hy))]
  have:=h x (.head _)
  simp only[nposL,List.countP_cons,decide_eq_true_eq]
  by_cases hx:0<x
  ·rw[if_pos ⟨oz,this⟩,if_pos hx]
  ·rw[if_neg oz,if_neg hx]
theorem wt_next {l:List Nat} {i:Nat} (h:i<l.length):sumL ((l.take (i+1)).map wtL)=sumL ((l.take i).map wtL)+wtL (l.getD i 0):=by
 rw[List.take_add_one,List.getElem?_eq_getElem h,List.map_append,qbf,qU h]
 rfl
theorem wt_le (x:Nat):wtL x<=32768:=by
 unfold wtL
 split
 ·omega
 ·exact Nat.le_trans (Nat.pow_le_pow_right dz (by omega:15-x<=15)) dz
theorem wt_sum (l:List Nat):sumL (l.map wtL)<=l.length*32768:=by
 induction l with
 | nil=>exact Nat.le_refl _
 | cons x l ih =>
  have:=wt_le x
  simp only[List.map_cons,List.length_cons]
  show wtL x+sumL (l.map wtL)<=_
  omega
theorem qj6 {l:List Nat} (hle : ∀ s,l.getD s 0<=15) (hw:WholeL l):sumL (l.map wtL)<=32768/\(sumL (l.map wtL)=32768\/nposL l=0\/(nposL l=1/\lastP l=1)):=by
 have hm : ∀ x∈l,x<=15:=fun x hx=>by
  obtain ⟨i,hi,rfl⟩:=List.mem_iff_getElem.1 hx
  rw[<- qU hi]
  exact hle i
 have hk:=qeh l hw
 rw[qdq l hm] at hk
 refine ⟨hk,?_⟩
 rcases hw with h | h | ⟨h1,h2⟩
 ·rw[qdq l hm] at h; exact .inl h
 ·rw[qet l hm] at h; exact .inr (.inl h)
 ·rw[qet l hm] at h1
  refine .inr (.inr ⟨h1,qlk l 0 h1 ?_⟩)
  have h3:l.count 1=1:=h2
  exact List.count_pos_iff.1 oz
theorem qpg {H:Heap} {T A C N:Nat} {l:List Nat} {d:Nat->Prop} (hd : ∀ b,d b) (hN:l.length=N) (gT:H.get T=some [.ms A 0 N 1,.ms C 0 N 1]) (gA:H.get A=some (iV l)) (gC:H.get C=some (iV (codesL l))):Froz H d (.ptr T 0) (dtabA l):=by
 refine .ep gT (hd _) (by simp) (by simp) (fun i x y hx hy=>?_)
 rw[Nat.zero_add] at hy
 match i with
 | 0 =>
  cases hx; cases hy
  exact qcd gA hd hN
 | 1 =>
  cases hx; cases hy
  exact qcd gC hd (by rw[zQ,hN])
 | i+2=>simp at hx
theorem NewTab_s (l:List Nat) (hk:LensOk l) (hl:l.length<=320):SCalls Tryz.prog 94 [iA l] Heap.empty (.tup [dtabA l,.int 0]) Heap.empty:=by
 unfold iA
 obtain ⟨N,hN⟩ : ∃ z,l.length=z:=⟨_,rfl⟩
 rw[hN] at hl |-
 have hL1:(iV l).length=N:=by rw[qK,hN]
 have n320 : ¬ ((320:Int)<(N:Int)):=oz
 have n8:(N:Int)*8<=140737488355328:=oz
 have n9:(N:Int)<=140737488355328:=oz
 refine qE (sz:=108) (Tryz.call94) Tryz.func94 rfl (Nat.zero_le _) kz (fun R hR=>?_)
 refine qg (fun K1 hK1=>?_)
 refine qi kz ?_
 simp[go_sem]
 refine hK1 _ _ ?_
 try clear hK1 K1
 refine qg (fun K2 hK2=>?_)
 refine qg (fun K3 hK3=>?_)
 refine qi kz ?_
 simp[go_sem,n320]
 refine hK3 _ _ ?_
 try clear hK3 K3
 refine qj (b:=false) (by simp[go_sem,n320]) (fun h=>by cases h) (fun _=>?_)
 refine ql ?_
 refine hK2 _ _ ?_
 try clear hK2 K2
 refine qg (fun K4 hK4=>?_)
 refine qi kz ?_
 simp[go_sem]
 refine hK4 _ _ ?_
 try clear hK4 K4
 refine qg (fun K5 hK5=>?_)
 refine qi kz ?_
 simp[go_sem]
 refine hK5 _ _ ?_
 try clear hK5 K5
 refine qg (fun K6 hK6=>?_)
 refine qi kz ?_
 simp[go_sem]
 refine hK6 _ _ ?_
 try clear hK6 K6
 refine qg (fun K7 hK7=>?_)
 refine qg (fun K8 hK8=>?_)
 refine qi kz ?_
 simp[go_sem]
 refine hK8 _ _ ?_
 try clear hK8 K8
 refine qm ?_
 refine qC (Inv:=fun m0 env H2 => ∃ i:Nat,m0=N-i/\i<=N/\env 0 = .vs N 1 (iV l)/\env 4 = .int (sumL ((l.take i).map wtL):Nat)/\env 5 = .int (nposL (l.take i):Nat)/\env 6 = .int (lastP (l.take i):Nat)/\env 7 = .int i/\H2=Heap.empty) ?_ (n:=N) (⟨0,rfl,oz,gz,by simp[go_sem,sumL],by simp[go_sem,nposL],by simp[go_sem,lastP],gz,rfl⟩)
 rintro m0 env _ ⟨i,rfl,hi,e0,e4,e5,e6,e7,rfl⟩
 refine qg (fun K9 hK9=>?_)
 refine qg (fun K10 hK10=>?_)
 refine qi kz ?_
 simp[go_sem,e0,e7]
 refine hK10 _ _ ?_
 try clear hK10 K10
 refine qj (b:=decide ((i:Int)<(N:Int))) gz (fun hb9=>?_) (fun hb9=>?_)
 ·skip
  simp only[decide_eq_true_eq] at hb9
  have hb9:i<N:=oz
  have hw:=qF i oz
  obtain ⟨rl,dl⟩:=qX (l:=l) (i:=i) oz
  have li1:(i:Int)<N:=oz
  have li2:i+1<=N:=oz
  have s1:=wt_next (l:=l) (i:=i) oz
  have s2:=qd8 l i oz
  have s3:=qmv (l:=l) (i:=i) oz
  have hL15:=hk.le i
  have swt:=wt_sum (l.take i)
  have snp:=qck (l.take i)
  rw[List.length_take] at swt snp
  obtain ⟨Li,hLi⟩ : ∃ z,l.getD i 0=z:=⟨_,rfl⟩
  rw[hLi] at dl s1 s2 s3 hL15
  obtain ⟨SM,hSM⟩ : ∃ z,sumL ((l.take i).map wtL)=z:=⟨_,rfl⟩
  obtain ⟨MN,hMN⟩ : ∃ z,nposL (l.take i)=z:=⟨_,rfl⟩
  rw[hSM] at e4 s1 swt
  rw[hMN] at e5 s2 snp
  have swt2:SM<=N*32768:=Nat.le_trans swt (Nat.mul_le_mul_right _ oz)
  have l15 : ¬ ((15:Int)<(Li:Int)):=oz
  have l00 : ¬ ((Li:Int)<0):=oz
  have w15:IntKind.i64.wrap (15-(Li:Int))=((15-Li:Nat):Int):=by rw[i64in _ oz oz]; omega
  obtain ⟨kk,hkk⟩ : ∃ z,15-Li=z:=⟨_,rfl⟩
  rw[hkk] at w15
  have wu:=qac kk oz
  have hpk:2^kk<=32768:=Nat.le_trans (Nat.pow_le_pow_right dz (by omega:kk<=15)) dz
  obtain ⟨PK,hPK⟩ : ∃ z,2^kk=z:=⟨_,rfl⟩
  have sh:bshl .i64 1 (kk:Int)=(PK:Int):=by have:=zB 1 kk oz oz; rw[Nat.one_mul,hPK] at this; exact this
  rw[hPK] at hpk
  have wsm:IntKind.i64.wrap ((SM:Int)+(PK:Int))=(SM:Int)+(PK:Int):=i64in _ oz oz
  have wmn:IntKind.i64.wrap ((MN:Int)+1)=(MN:Int)+1:=i64in _ oz oz
  have hwp:0<Li->wtL Li=PK:=fun h=>by unfold wtL; rw[if_neg oz,hkk,hPK]
  have hw0:Li=0->wtL Li=0:=fun h=>by unfold wtL; rw[if_pos h]
  refine ql ?_
  refine hK9 _ _ ?_
  try clear hK9 K9
  refine qg (fun K11 hK11=>?_)
  refine qm ?_
  refine qg (fun K12 hK12=>?_)
  refine qg (fun K13 hK13=>?_)
  refine qi kz ?_
  simp[go_sem,e0,e7,dl,li1,li2,hL1,l15,l00]
  refine hK13 _ _ ?_
  try clear hK13 K13
  refine qj (b:=false) (by simp[go_sem,l15,l00]) (fun h=>by cases h) (fun _=>?_)
  refine ql ?_
  refine hK12 _ _ ?_
  try clear hK12 K12
  refine qg (fun K14 hK14=>?_)
  rcases Nat.eq_zero_or_pos Li with hz | hz
  ·skip
   have p1 : ¬ ((0:Int)<(Li:Int)):=oz
   refine qi kz ?_
   simp[go_sem,e0,e7,dl,li1,li2,hL1,p1,hz]
   refine hK14 _ _ ?_
   try clear hK14 K14
   refine qj (b:=false) (by simp[go_sem,p1,hz]) (fun h=>by cases h) (fun _=>?_)
   refine ql ?_
   refine hK11 _ _ ?_
   try clear hK11 K11
   refine qo (fun K15 hK15=>?_)
   refine qi kz ?_
   simp[go_sem,e7,hw]
   refine hK15 _ _ ?_
   exact ⟨N-(i+1),oz,i+1,rfl,oz,by simp[go_sem,e0],by rw[s1,hw0 hz]; simp[go_sem,e4],by rw[s2,if_neg oz]; simp[go_sem,e5],by rw[s3,if_neg oz]; simp[go_sem,e6],gz,rfl⟩
  ·skip
   have p1:(0:Int)<(Li:Int):=oz
   refine qi kz ?_
   simp[go_sem,e0,e7,dl,li1,li2,hL1,p1,hz]
   refine hK14 _ _ ?_
   try clear hK14 K14
   refine qj (b:=true) (by simp[go_sem,p1,hz]) (fun _=>?_) (fun h=>by cases h)
   refine qg (fun K16 hK16=>?_)
   refine qi kz ?_
   simp[go_sem,e0,e4,e7,dl,li1,li2,hL1,w15,wu,sh,wsm]
   refine hK16 _ _ ?_
   try clear hK16 K16
   refine qg (fun K17 hK17=>?_)
   refine qi kz ?_
   simp[go_sem,e5,wmn]
   refine hK17 _ _ ?_
   try clear hK17 K17
   refine qi kz ?_
   simp[go_sem,e0,e7,dl,li1,li2,hL1]
   refine hK11 _ _ ?_
   try clear hK11 K11
   refine qo (fun K18 hK18=>?_)
   refine qi kz ?_
   simp[go_sem,e7,hw]
   refine hK18 _ _ ?_
   exact ⟨N-(i+1),oz,i+1,rfl,oz,by simp[go_sem,e0],by rw[s1,hwp hz]; simp[go_sem],by rw[s2,if_pos hz]; simp[go_sem],by rw[s3,if_pos hz]; simp[go_sem],gz,rfl⟩
 ·skip
  simp only[decide_eq_false_iff_not] at hb9
  obtain rfl:N=i:=oz
  have htk:l.take N=l:=List.take_of_length_le oz
  rw[htk] at e4 e5 e6
  obtain ⟨hk1,hk2⟩:=qj6 hk.le hk.whole
  obtain ⟨SM,hSM⟩ : ∃ z,sumL (l.map wtL)=z:=⟨_,rfl⟩
  obtain ⟨MN,hMN⟩ : ∃ z,nposL l=z:=⟨_,rfl⟩
  obtain ⟨LP,hLP⟩ : ∃ z,lastP l=z:=⟨_,rfl⟩
  rw[hSM] at e4 hk1 hk2
  rw[hMN] at e5 hk2
  rw[hLP] at e6 hk2
  have f1 : ¬ ((32768:Int)<(SM:Int)):=oz
  have hcs:(¬ SM<32768)\/(SM<32768/\MN=0)\/(SM<32768/\MN=1/\LP=1):=oz
  refine qy ?_
  refine hK7 _ _ ?_
  try clear hK7 K7
  refine qw (fun env H2=>env 0 = .vs N 1 (iV l)/\H2=Heap.empty) ?_ ?_
  ·skip
   refine qg (fun K20 hK20=>?_)
   rcases hcs with hq | ⟨hq,rfl⟩ | ⟨hq,rfl,rfl⟩
   ·skip
    have f2 : ¬ ((SM:Int)<32768):=oz
    refine qi kz ?_
    simp[go_sem,e4,f1,f2]
    refine hK20 _ _ ?_
    try clear hK20 K20
    refine qj (b:=false) gz (fun h=>by cases h) (fun _=>?_)
    refine ql ?_
    exact ⟨by simp[go_sem,e0],rfl⟩
   ·skip
    have f2:(SM:Int)<32768:=oz
    refine qi kz ?_
    simp[go_sem,e4,e5,f1,f2]
    refine hK20 _ _ ?_
    try clear hK20 K20
    refine qj (b:=false) gz (fun h=>by cases h) (fun _=>?_)
    refine ql ?_
    exact ⟨by simp[go_sem,e0],rfl⟩
   ·skip
    have f2:(SM:Int)<32768:=oz
    refine qi kz ?_
    simp[go_sem,e4,e5,e6,f1,f2]
    refine hK20 _ _ ?_
    try clear hK20 K20
    refine qj (b:=false) gz (fun h=>by cases h) (fun _=>?_)
    refine ql ?_
    exact ⟨by simp[go_sem,e0],rfl⟩
  rintro env _ ⟨e0,rfl⟩
  refine qw (fun env H2 => ∃ A C,(A≠C/\A<3/\C<3)/\(env 0 = .vs N 1 (iV l)/\env 8 = .ptr 3 0)/\H2.get 3=some [.ms A 0 N 1,.ms C 0 N 1]/\H2.get A=some (iV l)/\H2.get C=some (iV (List.replicate N 0))/\3<H2.next) ?_ ?_
  ·skip
   refine qo (fun K96 hK96=>?_)
   refine zx mixed ?_
   refine zh 0 5 dz ?_ ?_
   refine zh 2 5 dz ?_ ?_
   ·skip
    have hap:aappend Tryz.prog (Heap.empty.alloc []) 84 84 (.ms 0 0 0 1) (.vs N 1 (iV l))=some (.ms 1 0 N 1,(Heap.empty.alloc []).regrow (some 0) (iV l)):=by have:=qL (P:=Tryz.prog) (H:=Heap.empty.alloc []) (t:=84) (u:=84) (s:=.ms 0 0 0 1) (x:=.vs N 1 (iV l)) (n:=0) (cs:=[]) (bo:=some 0) (k:=N) (new:=iV l) tU84 tS3 tB3 tZ3 rfl (zl tU84 oz) (grown_of (n:=0) (sz:=1) gz rfl) oz oz (qdn l); rw[Nat.zero_add,List.nil_append] at this; exact this
    refine qW (bf:=[0,0,3,0,8,31,63,127,255]) kz kz ?_
    simp[go_sem,befL,addE,permOps,reE,fnL,qR,zrep0,hap,n8,n9,e0]
    refine hK96 _ _ ?_
    refine ⟨1,2,⟨dz,dz,dz⟩,⟨by simp[go_sem,e0],gz⟩,?_,?_,?_,?_⟩
    ·first | (simp[go_sem]; done) | (simp[go_sem,Heap.regrow,Heap.delo]; done)
    ·first | (simp[go_sem]; done) | (simp[go_sem,Heap.regrow,Heap.delo]; done)
    ·first | (simp[go_sem]; done) | (simp[go_sem,Heap.regrow,Heap.delo]; done)
    ·first | (simp[go_sem]; done) | (simp[go_sem,Heap.regrow,Heap.delo]; done)
   ·skip
    have hap:aappend Tryz.prog ((Heap.empty.alloc []).alloc (iV (List.replicate N 0))) 84 84 (.ms 0 0 0 1) (.vs N 1 (iV l))=some (.ms 2 0 N 1,((Heap.empty.alloc []).alloc (iV (List.replicate N 0))).regrow (some 0) (iV l)):=by have:=qL (P:=Tryz.prog) (H:=(Heap.empty.alloc []).alloc (iV (List.replicate N 0))) (t:=84) (u:=84) (s:=.ms 0 0 0 1) (x:=.vs N 1 (iV l)) (n:=0) (cs:=[]) (bo:=some 0) (k:=N) (new:=iV l) tU84 tS3 tB3 tZ3 rfl (zl tU84 oz) (grown_of (n:=0) (sz:=1) gz rfl) oz oz (qdn l); rw[Nat.zero_add,List.nil_append] at this; exact this
    refine zy [0,1,5,2,3,4,6,7,8] [0,1,3,4,5,2,6,7,8] kz ?_
    refine qW (bf:=[0,0,0,4,13,31,63,127,255]) kz kz ?_
    simp[go_sem,befL,addE,permOps,reE,fnL,qR,zrep0,hap,n8,n9,e0]
    refine hK96 _ _ ?_
    refine ⟨2,1,⟨dz,dz,dz⟩,⟨by simp[go_sem,e0],gz⟩,?_,?_,?_,?_⟩
    ·first | (simp[go_sem]; done) | (simp[go_sem,Heap.regrow,Heap.delo]; done)
    ·first | (simp[go_sem]; done) | (simp[go_sem,Heap.regrow,Heap.delo]; done)
    ·first | (simp[go_sem]; done) | (simp[go_sem,Heap.regrow,Heap.delo]; done)
    ·first | (simp[go_sem]; done) | (simp[go_sem,Heap.regrow,Heap.delo]; done)
   ·skip
    have hap:aappend Tryz.prog ((Heap.empty.alloc (iV (List.replicate N 0))).alloc []) 84 84 (.ms 1 0 0 1) (.vs N 1 (iV l))=some (.ms 2 0 N 1,((Heap.empty.alloc (iV (List.replicate N 0))).alloc []).regrow (some 1) (iV l)):=by have:=qL (P:=Tryz.prog) (H:=(Heap.empty.alloc (iV (List.replicate N 0))).alloc []) (t:=84) (u:=84) (s:=.ms 1 0 0 1) (x:=.vs N 1 (iV l)) (n:=0) (cs:=[]) (bo:=some 1) (k:=N) (new:=iV l) tU84 tS3 tB3 tZ3 rfl (zl tU84 oz) (grown_of (n:=0) (sz:=1) gz rfl) oz oz (qdn l); rw[Nat.zero_add,List.nil_append] at this; exact this
    refine zy [3,4,5,0,1,2,6,7,8] [3,4,5,0,1,2,6,7,8] kz ?_
    refine qW (bf:=[0,1,3,7,0,31,63,127,255]) kz kz ?_
    simp[go_sem,befL,addE,permOps,reE,fnL,qR,zrep0,hap,n8,n9,e0]
    refine hK96 _ _ ?_
    refine ⟨2,0,⟨dz,dz,dz⟩,⟨by simp[go_sem,e0],gz⟩,?_,?_,?_,?_⟩
    ·first | (simp[go_sem]; done) | (simp[go_sem,Heap.regrow,Heap.delo]; done)
    ·first | (simp[go_sem]; done) | (simp[go_sem,Heap.regrow,Heap.delo]; done)
    ·first | (simp[go_sem]; done) | (simp[go_sem,Heap.regrow,Heap.delo]; done)
    ·first | (simp[go_sem]; done) | (simp[go_sem,Heap.regrow,Heap.delo]; done)
  rintro env H2 ⟨A,C,⟨hAC,hA3,hC3⟩,⟨e0,e8⟩,gT,gA,gC,hn3⟩
  rw[<- hN,<- qkc] at gC
  refine qg (fun K22 hK22=>?_)
  refine qi kz ?_
  simp[go_sem]
  refine hK22 _ _ ?_
  try clear hK22 K22
  refine qg (fun K23 hK23=>?_)
  refine qg (fun K24 hK24=>?_)
  refine qi kz ?_
  simp[go_sem]
  refine hK24 _ _ ?_
  try clear hK24 K24
  refine qm ?_
  refine qC (Inv:=fun m1 env H2 => ∃ k:Nat,m1=15-k/\k<=15/\env 0 = .vs N 1 (iV l)/\env 8 = .ptr 3 0/\env 9 = .int (fstC l k+cnt l k:Nat)/\env 10 = .int ((k:Int)+1)/\H2.get 3=some [.ms A 0 N 1,.ms C 0 N 1]/\H2.get A=some (iV l)/\H2.get C=some (iV (cdF l k 0))) ?_ (n:=15) (⟨0,rfl,oz,by simp[go_sem,e0],by simp[go_sem,e8],by simp[go_sem,fstC,cnt],gz,gT,gA,gC⟩)
  clear e0 e8 gT gA gC
  rintro m1 env H2 ⟨k,rfl,hk15,e0,e8,e9,e10,gT,gA,gC⟩
  refine qg (fun K25 hK25=>?_)
  refine qg (fun K26 hK26=>?_)
  have k15:((k:Int)+1<=15)=(k<15):=propext ⟨fun h=>by omega,fun h=>by omega⟩
  refine qi kz ?_
  simp[go_sem,e10,k15]
  refine hK26 _ _ ?_
  try clear hK26 K26
  refine qj (b:=decide (k<15)) (by simp[go_sem,k15]) (fun hb9=>?_) (fun hb9=>?_)
  ·skip
   simp only[decide_eq_true_eq] at hb9
   have hcs1:=qb3 hk (n:=k+1) oz
   have hcs0:=qb3 hk (n:=k) oz
   obtain ⟨f0,hf0⟩ : ∃ z,fstC l k+cnt l k=z:=⟨_,rfl⟩
   have hf1:fstC l (k+1)=2*f0:=by rw[<- hf0]; rfl
   rw[hf0] at e9 hcs0
   have sh1:IntKind.i64.wrap ((f0:Int)*2)=((fstC l (k+1):Nat):Int):=by rw[i64in _ oz oz]; omega
   refine ql ?_
   refine hK25 _ _ ?_
   try clear hK25 K25
   refine qg (fun K27 hK27=>?_)
   refine qm ?_
   refine qg (fun K28 hK28=>?_)
   refine qi kz ?_
   simp[go_sem,e9,sh1]
   refine hK28 _ _ ?_
   try clear hK28 K28
   refine qg (fun K29 hK29=>?_)
   refine qi kz ?_
   simp[go_sem]
   refine hK29 _ _ ?_
   try clear hK29 K29
   refine qm ?_
   refine qC (Inv:=fun m2 env H2 => ∃ i:Nat,m2=N-i/\i<=N/\env 0 = .vs N 1 (iV l)/\env 8 = .ptr 3 0/\env 9 = .int (cvF l k i:Nat)/\env 10 = .int ((k:Int)+1)/\env 11 = .int i/\H2.get 3=some [.ms A 0 N 1,.ms C 0 N 1]/\H2.get A=some (iV l)/\H2.get C=some (iV (cdF l k i))) ?_ (n:=N) (⟨0,rfl,oz,by simp[go_sem,e0],by simp[go_sem,e8],by rw[qkf]; simp[go_sem],by simp[go_sem,e10],gz,gT,gA,gC⟩)
   clear e0 e8 e9 e10 gT gA gC
   rintro m2 env H2 ⟨i,rfl,hi,e0,e8,e9,e10,e11,gT,gA,gC⟩
   refine qg (fun K30 hK30=>?_)
   refine qg (fun K31 hK31=>?_)
   refine qi kz ?_
   simp[go_sem,e0,e11]
   refine hK31 _ _ ?_
   try clear hK31 K31
   refine qj (b:=decide ((i:Int)<(N:Int))) gz (fun hb9=>?_) (fun hb9=>?_)
   ·skip
    simp only[decide_eq_true_eq] at hb9
    have hb9:i<N:=oz
    have hw:=qF i oz
    obtain ⟨rl,dl⟩:=qX (l:=l) (i:=i) oz
    have li1:(i:Int)<N:=oz
    have li2:i+1<=N:=oz
    have hcv:=cvF_le l k i
    obtain ⟨cv,hcvq⟩ : ∃ z,cvF l k i=z:=⟨_,rfl⟩
    rw[hcvq] at e9 hcv
    have hdL:(iV (cdF l k i)).length=N:=by rw[qK,qi4,hN]
    have hset:=zA (cdF l k i) i (by rw[qi4]; omega) cv
    have wcv:IntKind.i64.wrap ((cv:Int)+1)=(cv:Int)+1:=i64in _ oz oz
    obtain ⟨Li,hLi⟩ : ∃ z,l.getD i 0=z:=⟨_,rfl⟩
    rw[hLi] at dl
    refine ql ?_
    refine hK30 _ _ ?_
    try clear hK30 K30
    refine qg (fun K32 hK32=>?_)
    refine qm ?_
    refine qg (fun K33 hK33=>?_)
    by_cases hlk0:Li=k+1
    ·skip
     have fq:((Li:Int)==(k:Int)+1)=true:=beq_iff_eq.2 oz
     refine qi kz ?_
     simp[go_sem,e0,e10,e11,dl,li1,li2,hL1,fq]
     refine hK33 _ _ ?_
     try clear hK33 K33
     refine qj (b:=true) (by simp[go_sem,fq]) (fun _=>?_) (fun h=>by cases h)
     refine qg (fun K34 hK34=>?_)
     refine qo (fun K35 hK35=>?_)
     refine qi kz ?_
     simp[go_sem,e8,e9,e11,gT,gC,li1,li2,hdL,hset]
     refine hK35 _ _ ?_
     refine hK34 _ _ ?_
     try clear hK34 K34
     refine qi kz ?_
     simp[go_sem,e9,wcv]
     refine hK32 _ _ ?_
     try clear hK32 K32
     refine qo (fun K36 hK36=>?_)
     refine qi kz ?_
     simp[go_sem,e11,hw]
     refine hK36 _ _ ?_
     have hlk:l.getD i 0=k+1:=by rw[hLi,hlk0]
     have g2:=qm7 l k i hlk
     rw[hcvq] at g2
     have hv:=qm9 l k i oz hlk
     rw[hcvq] at hv
     exact ⟨N-(i+1),oz,i+1,rfl,oz,by simp[go_sem,e0],by simp[go_sem,e8],by rw[hv]; simp[go_sem],by simp[go_sem,e10],gz,by rw[Heap.get_set,if_neg oz]; exact gT,by rw[Heap.get_set,if_neg hAC]; exact gA,by rw[Heap.get_set,if_pos rfl,gC,<- g2]; rfl⟩
    ·skip
     have fq:((Li:Int)==(k:Int)+1)=false:=beq_eq_false_iff_ne.2 oz
     refine qi kz ?_
     simp[go_sem,e0,e10,e11,dl,li1,li2,hL1,fq]
     refine hK33 _ _ ?_
     try clear hK33 K33
     refine qj (b:=false) (by simp[go_sem,fq]) (fun h=>by cases h) (fun _=>?_)
     refine ql ?_
     refine hK32 _ _ ?_
     try clear hK32 K32
     refine qo (fun K37 hK37=>?_)
     refine qi kz ?_
     simp[go_sem,e11,hw]
     refine hK37 _ _ ?_
     have hlk:l.getD i 0≠k+1:=by rw[hLi]; exact hlk0
     have hv:=qkg l k i oz hlk
     rw[hcvq] at hv
     exact ⟨N-(i+1),oz,i+1,rfl,oz,by simp[go_sem,e0],by simp[go_sem,e8],by rw[hv]; simp[go_sem,e9],by simp[go_sem,e10],gz,gT,gA,by rw[qke l k i hlk]; exact gC⟩
   ·skip
    simp only[decide_eq_false_iff_not] at hb9
    obtain rfl:N=i:=oz
    rw[<- hN,qm8] at e9
    rw[<- hN,qkd] at gC
    have wk:IntKind.i64.wrap ((k:Int)+1+1)=(k:Int)+1+1:=i64in _ oz oz
    refine qy ?_
    refine hK27 _ _ ?_
    try clear hK27 K27
    refine qo (fun K38 hK38=>?_)
    refine qi kz ?_
    simp[go_sem,e10,wk]
    refine hK38 _ _ ?_
    exact ⟨15-(k+1),oz,k+1,rfl,oz,by simp[go_sem,e0],by simp[go_sem,e8],by simp[go_sem,e9],gz,gT,gA,gC⟩
  ·skip
   simp only[decide_eq_false_iff_not] at hb9
   obtain rfl:k=15:=oz
   rw[qm6 l hk.le] at gC
   refine qy ?_
   refine hK23 _ _ ?_
   try clear hK23 K23
   refine qg (fun K39 hK39=>?_)
   refine qi kz ?_
   simp[go_sem,e8]
   refine hK39 _ _ ?_
   try clear hK39 K39
   refine qx ?_
   simp only[go_sem]
   refine hR _ _ ?_
   refine zD (v:=.tup [.ptr 3 0,.int 0]) gz (Froz.tupL (.cons (qpg (fun _=>Nat.zero_le _) hN gT gA gC) (.cons (.same _) .nil))) (qP _) (Nat.zero_le _) (by simp[go_sem,yO])
theorem NewTab_H (l:List Nat) (hk:LensOk l) (hl:l.length<=320) (H:Heap):SCalls Tryz.prog 94 [iA l] H (.tup [dtabA l,.int 0]) H:=qO (NewTab_s l hk hl) (by simp[zI]) (by simp[go_sem,yO]) H
end Go.Proofs.YtfokgjhdndnnhaaGreatDoor
end X6S
set_option maxRecDepth 20000
noncomputable section X8S
namespace Go.Proofs.YtfokgjhdndnnhaaGreatDoor
open Go Go.Fl Go.Proofs
theorem qmw:(List.range 288).map fixV=fixS:=by
 unfold fixS fixP
 refine List.map_congr_left fun s hs=>?_
 rw[if_pos (List.mem_range.1 hs)]
theorem qmx:(List.range 32).map (fun _=>5)=fixD:=by
 unfold fixD fixP
 refine List.map_congr_left fun s hs=>?_
 rw[if_pos (List.mem_range.1 hs)]
theorem yG (f:Nat->Nat) (i:Nat):(List.range i).map f ++ [f i]=(List.range (i+1)).map f:=by rw[List.range_succ,List.map_append]; rfl
theorem dfixed_s  : SCalls Tryz.prog 62 [] Heap.empty (.tup [dtabA fixS,dtabA fixD]) Heap.empty:=by
 refine qE (sz:=54) (Tryz.call62) Tryz.func62 rfl (Nat.zero_le _) kz (fun R hR=>?_)
 refine qg (fun K1 hK1=>?_)
 refine qi kz ?_
 simp[go_sem]
 refine hK1 _ _ ?_
 try clear hK1 K1
 refine qg (fun K2 hK2=>?_)
 refine qi kz ?_
 simp[go_sem]
 refine hK2 _ _ ?_
 try clear hK2 K2
 refine qg (fun K3 hK3=>?_)
 refine qg (fun K4 hK4=>?_)
 refine qi kz ?_
 simp[go_sem]
 refine hK4 _ _ ?_
 try clear hK4 K4
 refine qm ?_
 refine qC (Inv:=fun m0 env H2 => ∃ (i:Nat) (x:AV),m0=288-i/\i<=288/\env 2=x/\env 3 = .nil/\env 4 = .int i/\GrN (fun _=>False) H2 x 1 i (iV ((List.range i).map fixV))) ?_ (n:=288) (⟨0,.nil,rfl,oz,gz,gz,gz,GrN.nil _ _ _⟩)
 rintro m0 env H2 ⟨i,x,rfl,hi,e2,e3,e4,hX⟩
 refine qg (fun K5 hK5=>?_)
 refine qg (fun K6 hK6=>?_)
 have h288:((i:Int)<288)=(i<288):=propext ⟨fun h=>by omega,fun h=>by omega⟩
 refine qi kz ?_
 simp[go_sem,e4,h288]
 refine hK6 _ _ ?_
 try clear hK6 K6
 refine qj (b:=decide (i<288)) (by simp[go_sem,h288]) (fun hb9=>?_) (fun hb9=>?_)
 ·skip
  simp only[decide_eq_true_eq] at hb9
  have hw:=qF i oz
  have hcs:i<=143\/(¬ i<=143/\i<=255)\/(¬ i<=255/\i<=279) \/ ¬ i<=279:=oz
  refine ql ?_
  refine hK5 _ _ ?_
  try clear hK5 K5
  refine qg (fun K7 hK7=>?_)
  refine qm ?_
  refine qm ?_
  refine qg (fun K8 hK8=>?_)
  rcases hcs with hq | hq | hq | hq
  ·skip
   have hv:fixV i=8:=by unfold fixV; rw[if_pos oz]
   obtain ⟨H3,hap,hX3,_⟩:=jW (c:=8) hX (fun _ h=>h.elim) oz
   have hrs:=yG fixV i
   rw[hv] at hrs
   rw[hrs] at hX3
   have cst:(((8:Nat):Int))=8:=rfl
   rw[cst] at hap
   have f1:(i:Int)<=143:=oz
   have g1:i<=143:=oz
   refine qi kz ?_
   simp[go_sem,e4,f1,g1]
   refine hK8 _ _ ?_
   try clear hK8 K8
   refine qj (b:=true) (by simp[go_sem,f1,g1]) (fun _=>?_) (fun h=>by cases h)
   refine qi kz ?_
   simp[go_sem,e2,hap]
   refine hK7 _ _ ?_
   try clear hK7 K7
   refine qo (fun K9 hK9=>?_)
   refine qi kz ?_
   simp[go_sem,e4,hw]
   refine hK9 _ _ ?_
   exact ⟨288-(i+1),oz,i+1,_,rfl,oz,gz,by simp[go_sem,e3],gz,hX3⟩
  ·skip
   have hv:fixV i=9:=by unfold fixV; rw[if_neg oz,if_pos oz]
   obtain ⟨H3,hap,hX3,_⟩:=jW (c:=9) hX (fun _ h=>h.elim) oz
   have hrs:=yG fixV i
   rw[hv] at hrs
   rw[hrs] at hX3
   have cst:(((9:Nat):Int))=9:=rfl
   rw[cst] at hap
   have f1 : ¬ ((i:Int)<=143):=oz
   have g1 : ¬ (i<=143):=oz
   have f2:(i:Int)<=255:=oz
   have g2:i<=255:=oz
   refine qi kz ?_
   simp[go_sem,e4,f1,g1]
   refine hK8 _ _ ?_
   try clear hK8 K8
   refine qj (b:=false) (by simp[go_sem,f1,g1]) (fun h=>by cases h) (fun _=>?_)
   refine qg (fun K10 hK10=>?_)
   refine qi kz ?_
   simp[go_sem,e4,f2,g2]
   refine hK10 _ _ ?_
   try clear hK10 K10
   refine qj (b:=true) (by simp[go_sem,f2,g2]) (fun _=>?_) (fun h=>by cases h)
   refine qi kz ?_
   simp[go_sem,e2,hap]
   refine hK7 _ _ ?_
   try clear hK7 K7
   refine qo (fun K11 hK11=>?_)
   refine qi kz ?_
   simp[go_sem,e4,hw]
   refine hK11 _ _ ?_
   exact ⟨288-(i+1),oz,i+1,_,rfl,oz,gz,by simp[go_sem,e3],gz,hX3⟩
  ·skip
   have hv:fixV i=7:=by unfold fixV; rw[if_neg oz,if_neg oz]
   obtain ⟨H3,hap,hX3,_⟩:=jW (c:=7) hX (fun _ h=>h.elim) oz
   have hrs:=yG fixV i
   rw[hv] at hrs
   rw[hrs] at hX3
   have cst:(((7:Nat):Int))=7:=rfl
   rw[cst] at hap
   have f1 : ¬ ((i:Int)<=143):=oz
   have g1 : ¬ (i<=143):=oz
   have f2 : ¬ ((i:Int)<=255):=oz
   have g2 : ¬ (i<=255):=oz
   have f3:(i:Int)<=279:=oz
   have g3:i<=279:=oz
   refine qi kz ?_
   simp[go_sem,e4,f1,g1]
   refine hK8 _ _ ?_
   try clear hK8 K8
   refine qj (b:=false) (by simp[go_sem,f1,g1]) (fun h=>by cases h) (fun _=>?_)
   refine qg (fun K12 hK12=>?_)
   refine qi kz ?_
   simp[go_sem,e4,f2,g2]
   refine hK12 _ _ ?_
   try clear hK12 K12
   refine qj (b:=false) (by simp[go_sem,f2,g2]) (fun h=>by cases h) (fun _=>?_)
   refine qg (fun K13 hK13=>?_)
   refine qi kz ?_
   simp[go_sem,e4,f3,g3]
   refine hK13 _ _ ?_
   try clear hK13 K13
   refine qj (b:=true) (by simp[go_sem,f3,g3]) (fun _=>?_) (fun h=>by cases h)
   refine qi kz ?_
   simp[go_sem,e2,hap]
   refine hK7 _ _ ?_
   try clear hK7 K7
   refine qo (fun K14 hK14=>?_)
   refine qi kz ?_
   simp[go_sem,e4,hw]
   refine hK14 _ _ ?_
   exact ⟨288-(i+1),oz,i+1,_,rfl,oz,gz,by simp[go_sem,e3],gz,hX3⟩
  ·skip
   have hv:fixV i=8:=by unfold fixV; rw[if_pos oz]
   obtain ⟨H3,hap,hX3,_⟩:=jW (c:=8) hX (fun _ h=>h.elim) oz
   have hrs:=yG fixV i
   rw[hv] at hrs
   rw[hrs] at hX3
   have cst:(((8:Nat):Int))=8:=rfl
   rw[cst] at hap
   have f1 : ¬ ((i:Int)<=143):=oz
   have g1 : ¬ (i<=143):=oz
   have f2 : ¬ ((i:Int)<=255):=oz
   have g2 : ¬ (i<=255):=oz
   have f3 : ¬ ((i:Int)<=279):=oz
   have g3 : ¬ (i<=279):=oz
   refine qi kz ?_
   simp[go_sem,e4,f1,g1]
   refine hK8 _ _ ?_
   try clear hK8 K8
   refine qj (b:=false) (by simp[go_sem,f1,g1]) (fun h=>by cases h) (fun _=>?_)
   refine qg (fun K15 hK15=>?_)
   refine qi kz ?_
   simp[go_sem,e4,f2,g2]
   refine hK15 _ _ ?_
   try clear hK15 K15
   refine qj (b:=false) (by simp[go_sem,f2,g2]) (fun h=>by cases h) (fun _=>?_)
   refine qg (fun K16 hK16=>?_)
   refine qi kz ?_
   simp[go_sem,e4,f3,g3]
   refine hK16 _ _ ?_
   try clear hK16 K16
   refine qj (b:=false) (by simp[go_sem,f3,g3]) (fun h=>by cases h) (fun _=>?_)
   refine qi kz ?_
   simp[go_sem,e2,hap]
   refine hK7 _ _ ?_
   try clear hK7 K7
   refine qo (fun K17 hK17=>?_)
   refine qi kz ?_
   simp[go_sem,e4,hw]
   refine hK17 _ _ ?_
   exact ⟨288-(i+1),oz,i+1,_,rfl,oz,gz,by simp[go_sem,e3],gz,hX3⟩
 ·skip
  simp only[decide_eq_false_iff_not] at hb9
  obtain rfl:i=288:=oz
  obtain ⟨bo,hgr,hbo,_⟩:=hX.grown
  refine zG 2 e2 hgr ?_
  rw[qmw]
  generalize H2.delo bo=H4
  refine qy ?_
  refine hK3 _ _ ?_
  try clear hK3 K3
  refine qg (fun K18 hK18=>?_)
  refine qg (fun K19 hK19=>?_)
  refine qi kz ?_
  simp[go_sem]
  refine hK19 _ _ ?_
  try clear hK19 K19
  refine qm ?_
  refine qC (Inv:=fun m1 env H2 => ∃ (i:Nat) (x:AV),m1=32-i/\i<=32/\env 2 = .vs 288 1 (iV fixS)/\env 3=x/\env 5 = .int i/\GrN (fun _=>False) H2 x 1 i (iV ((List.range i).map fun _=>5))) ?_ (n:=32) (⟨0,.nil,rfl,oz,gz,by simp[go_sem,e3],gz,GrN.nil _ _ _⟩)
  clear e2 e3 e4
  rintro m1 env H2 ⟨i,x,rfl,hi,e2,e3,e5,hX⟩
  refine qg (fun K20 hK20=>?_)
  refine qg (fun K21 hK21=>?_)
  have h32:((i:Int)<32)=(i<32):=propext ⟨fun h=>by omega,fun h=>by omega⟩
  refine qi kz ?_
  simp[go_sem,e5,h32]
  refine hK21 _ _ ?_
  try clear hK21 K21
  refine qj (b:=decide (i<32)) (by simp[go_sem,h32]) (fun hb9=>?_) (fun hb9=>?_)
  ·skip
   simp only[decide_eq_true_eq] at hb9
   have hw:=qF i oz
   obtain ⟨H3,hap,hX3,_⟩:=jW (c:=5) hX (fun _ h=>h.elim) oz
   have hrs:=yG (fun _=>5) i
   rw[hrs] at hX3
   have cst:(((5:Nat):Int))=5:=rfl
   rw[cst] at hap
   refine ql ?_
   refine hK20 _ _ ?_
   try clear hK20 K20
   refine qg (fun K22 hK22=>?_)
   refine qm ?_
   refine qi kz ?_
   simp[go_sem,e3,hap]
   refine hK22 _ _ ?_
   try clear hK22 K22
   refine qo (fun K23 hK23=>?_)
   refine qi kz ?_
   simp[go_sem,e5,hw]
   refine hK23 _ _ ?_
   exact ⟨32-(i+1),oz,i+1,_,rfl,oz,by simp[go_sem,e2],gz,gz,hX3⟩
  ·skip
   simp only[decide_eq_false_iff_not] at hb9
   obtain rfl:i=32:=oz
   obtain ⟨bo,hgr,hbo,_⟩:=hX.grown
   refine zG 3 e3 hgr ?_
   rw[qmx]
   generalize H2.delo bo=H4
   have cX:=NewTab_H fixS qgj (by rw[yM]; decide) H4
   have cY:=NewTab_H fixD qgk (by rw[yN]; decide) H4
   have rX:iA fixS = .vs 288 1 (iV fixS):=by unfold iA; rw[yM]
   have rY:iA fixD = .vs 32 1 (iV fixD):=by unfold iA; rw[yN]
   rw[rX] at cX
   rw[rY] at cY
   refine qy ?_
   refine hK18 _ _ ?_
   try clear hK18 K18
   refine qg (fun K24 hK24=>?_)
   refine qi kz ?_
   refine qI 2 (fun K25 hK25=>?_)
   simp[go_sem,e2]
   refine ⟨_,_,cX,?_⟩
   refine hK25 _ _ ?_
   clear hK25 K25
   simp[go_sem,e2]
   refine hK24 _ _ ?_
   try clear hK24 K24
   refine qg (fun K26 hK26=>?_)
   refine qi kz ?_
   refine qI 2 (fun K27 hK27=>?_)
   simp[go_sem]
   refine ⟨_,_,cY,?_⟩
   refine hK27 _ _ ?_
   clear hK27 K27
   simp[go_sem]
   refine hK26 _ _ ?_
   try clear hK26 K26
   refine qg (fun K28 hK28=>?_)
   refine qi kz ?_
   simp[go_sem]
   refine hK28 _ _ ?_
   try clear hK28 K28
   refine qx ?_
   simp only[go_sem]
   refine hR _ _ ?_
   exact qG gz (qP _) (Nat.zero_le _) (by simp[go_sem,yO])
theorem dfixed_H (H:Heap):SCalls Tryz.prog 62 [] H (.tup [dtabA fixS,dtabA fixD]) H:=qO dfixed_s (by simp) (by simp[go_sem,yO]) H
end Go.Proofs.YtfokgjhdndnnhaaGreatDoor
end X8S
