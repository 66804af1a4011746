/- Contracts: a symbol, by the document. -/
import Derived.Test.YtfokgjhdndnnhaaGreatDoorX2
set_option maxHeartbeats 2000000
set_option linter.unusedVariables false
set_option linter.unusedSimpArgs false
set_option maxRecDepth 20000
noncomputable section X3S
namespace Go.Proofs.YtfokgjhdndnnhaaGreatDoor
open Go Go.Fl Go.Proofs
theorem qgt {l:List Nat} {i:Nat} (h:i<l.length):(l.take (i+1)).all (· == 0)=((l.take i).all (· == 0)&&(l.getD i 0==0)):=by
 rw[List.take_add_one,List.getElem?_eq_getElem h,List.all_append,qU h]
 simp
theorem qiz {l:List Nat} {s:Nat} (h:0<l.getD s 0):l.all (· == 0)=false:=by
 rw[Bool.eq_false_iff]
 intro e
 have hs:=zX h
 have:=List.all_eq_true.1 e l[s] (List.getElem_mem hs)
 rw[qU hs] at h
 simp at this
 omega
theorem dsym_p {H:Heap} {rb q p s:Nat} {b:List UInt8} {l:List Nat} (gB:DBits H rb q b p) (hp:p<=8*b.length) (hk:LensOk l) (hl:l.length<=100000) (h:0<l.getD s 0) (hA:Ahead b p (symBits l s)):SCallsP Tryz.prog 114 [dtabA l,.ptr rb 0] H (fun r H'=>r = .tup [.int s,.int 0]/\DBits H' rb q b (p+l.getD s 0)/\Step (fun z=>z≠rb) H H'):=by
 have htf:=fun j hj=>qfp (j:=j) hk h hA hj
 have h15:=hk.le s
 have hrm:=hA.room hp
 rw[qN] at hrm
 have hlen:=zX h
 obtain ⟨v0,hv0⟩:=qlj hk l.length 0 false (.inr oz)
 have cb0:=qgs hk hv0 hl dz
 have hend:=qpd h l.length 0 false (Nat.zero_le _) oz
 have hmid:=fun n h0 h1=>qj4 (l:=l) (s:=s) (n:=n) h0 h1 l.length 0 false (.inr ⟨Nat.zero_le _,oz⟩)
 have hnz:=qiz h
 have hC0:codeOf l s/2^l.getD s 0=0:=Nat.div_eq_of_lt (hk.code h)
 obtain ⟨L,hL⟩ : ∃ z,l.getD s 0=z:=⟨_,rfl⟩
 rw[hL] at htf h15 hrm hend hmid h hC0 |-
 obtain ⟨N,hN⟩ : ∃ z,l.length=z:=⟨_,rfl⟩
 have hL1:(iV l).length=N:=by rw[qK,hN]
 have hdt:dtabA l = .ep [.vs N 1 (iV l),.vs N 1 (iV (codesL l))]:=by unfold dtabA iA; rw[zQ,hN]
 refine qA (sz:=75) (Tryz.call114) Tryz.func114 rfl kz (fun R hR=>?_)
 refine qg (fun K1 hK1=>?_)
 refine qi kz ?_
 simp[go_sem]
 refine hK1 _ _ ?_
 try clear hK1 K1
 refine qg (fun K2 hK2=>?_)
 refine qi kz ?_
 simp[go_sem]
 refine hK2 _ _ ?_
 try clear hK2 K2
 refine qg (fun K3 hK3=>?_)
 refine qg (fun K4 hK4=>?_)
 refine qi kz ?_
 simp[go_sem]
 refine hK4 _ _ ?_
 try clear hK4 K4
 refine qm ?_
 refine qC (Inv:=fun m0 env H2 => ∃ n:Nat,m0=16-n/\n<=L/\env 0=dtabA l/\env 1 = .ptr rb 0/\env 6 = .int (codeOf l s/2^(L-(n-1)):Nat)/\env 7 = .int n/\DBits H2 rb q b (p+(n-1))/\Step (fun z=>z≠rb) H H2) ?_ (n:=16) (⟨0,rfl,oz,gz,gz,by simp[go_sem,hC0],gz,gB,Step.refl _ _⟩)
 rintro m0 env H2 ⟨n,rfl,hnL,e0,e1,e6,e7,gB2,hS⟩
 have f15:(n:Int)<=15:=oz
 refine qg (fun K5 hK5=>?_)
 refine qg (fun K6 hK6=>?_)
 refine qi kz ?_
 simp[go_sem,e7,f15]
 refine hK6 _ _ ?_
 try clear hK6 K6
 refine qj (b:=true) (by simp[go_sem,f15]) (fun _=>?_) (fun h=>by cases h)
 refine ql ?_
 refine hK5 _ _ ?_
 try clear hK5 K5
 refine qg (fun K7 hK7=>?_)
 refine qm ?_
 refine qg (fun K8 hK8=>?_)
 refine qg (fun K9 hK9=>?_)
 rcases (by omega:n=0\/0<n) with rfl | hn0
 ·skip
  refine qi kz ?_
  simp[go_sem,e7]
  refine hK9 _ _ ?_
  try clear hK9 K9
  refine qj (b:=true) gz (fun _=>?_) (fun h=>by cases h)
  refine qg (fun K10 hK10=>?_)
  refine qi kz ?_
  refine qI 2 (fun K11 hK11=>?_)
  simp[go_sem,e0]
  refine ⟨_,_,(cb0 _),?_⟩
  refine hK11 _ _ ?_
  clear hK11 K11
  simp[go_sem,e0]
  refine hK10 _ _ ?_
  try clear hK10 K10
  refine qg (fun K12 hK12=>?_)
  refine qi kz ?_
  simp[go_sem]
  refine hK12 _ _ ?_
  try clear hK12 K12
  refine qg (fun K13 hK13=>?_)
  refine qg (fun K14 hK14=>?_)
  refine qi kz ?_
  simp[go_sem]
  refine hK14 _ _ ?_
  try clear hK14 K14
  refine qm ?_
  refine qC (Inv:=fun m1 env H3 => ∃ i:Nat,m1=N-i/\i<=N/\env 0 = .ep [.vs N 1 (iV l),.vs N 1 (iV (codesL l))]/\env 1 = .ptr rb 0/\env 6 = .int (codeOf l s/2^L:Nat)/\env 7 = .int 0/\env 8 = .bool true/\env 10 = .bool ((l.take i).all (· == 0))/\env 11 = .int i/\H3=H2) ?_ (n:=N) (⟨0,rfl,oz,by simp[go_sem,e0,hdt],by simp[go_sem,e1],by simp[go_sem,e6],by simp[go_sem,e7],gz,gz,gz,rfl⟩)
  clear e0 e1 e6 e7
  rintro m1 env _ ⟨i,rfl,hi,e0,e1,e6,e7,e8,e10,e11,rfl⟩
  refine qg (fun K15 hK15=>?_)
  refine qg (fun K16 hK16=>?_)
  refine qi kz ?_
  simp[go_sem,e0,e11]
  refine hK16 _ _ ?_
  try clear hK16 K16
  refine qj (b:=decide ((i:Int)<(N:Int))) gz (fun hb9=>?_) (fun hb9=>?_)
  ·skip
   simp only[decide_eq_true_eq] at hb9
   have hb9:i<N:=oz
   have hw:=qF i oz
   obtain ⟨rl,dl⟩:=qX (l:=l) (i:=i) oz
   have hst:=qgt (l:=l) (i:=i) oz
   obtain ⟨Li,hLi⟩ : ∃ z,l.getD i 0=z:=⟨_,rfl⟩
   rw[hLi] at dl hst
   have li1:(i:Int)<N:=oz
   have li2:i+1<=N:=oz
   obtain ⟨Z,hZ⟩ : ∃ z,(l.take i).all (· == 0)=z:=⟨_,rfl⟩
   rw[hZ] at hst e10
   refine ql ?_
   refine hK15 _ _ ?_
   try clear hK15 K15
   refine qg (fun K17 hK17=>?_)
   refine qm ?_
   cases Z
   ·skip
    refine qi kz ?_
    simp[go_sem,e10]
    refine hK17 _ _ ?_
    try clear hK17 K17
    refine qo (fun K18 hK18=>?_)
    refine qi kz ?_
    simp[go_sem,e11,hw]
    refine hK18 _ _ ?_
    exact ⟨N-(i+1),oz,i+1,rfl,oz,by simp[go_sem,e0],by simp[go_sem,e1],by simp[go_sem,e6],by simp[go_sem,e7],by simp[go_sem,e8],by rw[hst]; first | (simp[go_sem]; done) | (simp[go_sem,hzz]; done),gz,rfl⟩
   ·skip
    obtain ⟨zz,hzz⟩ : ∃ z,(Li==0)=z:=⟨_,rfl⟩
    have hzi:((Li:Int)==0)=zz:=by
     rw[<- hzz]
     rcases Nat.eq_zero_or_pos Li with h0 | h0
     ·subst h0; rfl
     ·rw[beq_eq_false_iff_ne.2 (show (Li:Int)≠0 by omega),beq_eq_false_iff_ne.2 (show Li≠0 by omega)]
    refine qi kz ?_
    simp[go_sem,e0,e10,e11,dl,li1,li2,hL1,hzi]
    refine hK17 _ _ ?_
    try clear hK17 K17
    refine qo (fun K19 hK19=>?_)
    refine qi kz ?_
    simp[go_sem,e11,hw]
    refine hK19 _ _ ?_
    exact ⟨N-(i+1),oz,i+1,rfl,oz,by simp[go_sem,e0],by simp[go_sem,e1],by simp[go_sem,e6],by simp[go_sem,e7],by simp[go_sem,e8],by rw[hst]; first | (simp[go_sem]; done) | (simp[go_sem,hzz]; done),gz,rfl⟩
  ·skip
   simp only[decide_eq_false_iff_not] at hb9
   obtain rfl:i=N:=oz
   rw[List.take_of_length_le oz,hnz] at e10
   refine qy ?_
   refine hK13 _ _ ?_
   try clear hK13 K13
   refine qg (fun K20 hK20=>?_)
   refine qg (fun K21 hK21=>?_)
   refine qi kz ?_
   simp[go_sem,e8,e10]
   refine hK21 _ _ ?_
   try clear hK21 K21
   refine qj (b:=false) gz (fun h=>by cases h) (fun _=>?_)
   refine ql ?_
   refine hK20 _ _ ?_
   try clear hK20 K20
   refine qy ?_
   refine hK7 _ _ ?_
   try clear hK7 K7
   have kk1:IntKind.i64.wrap 1=1:=rfl
   refine qo (fun K22 hK22=>?_)
   refine qi kz ?_
   simp[go_sem,e7,kk1]
   refine hK22 _ _ ?_
   exact ⟨16-1,oz,1,rfl,oz,by simp[go_sem,e0,hdt],by simp[go_sem,e1],by simp[go_sem,e6],gz,gB2,hS⟩
 ·skip
  obtain ⟨j,rfl⟩ : ∃ j,n=j+1:=⟨n-1,oz⟩
  rw[Nat.add_sub_cancel] at e6 gB2
  have hj:j<L:=hnL
  have f0:(((j+1:Nat):Int)==0)=false:=by simp; omega
  obtain ⟨x,x2,bit,f,f2,a,c,hx,hx2,hbit,hf,hf2,haa,hc,hxb,hb2,hff,hfx,hx3,hfc,hao,ha6,hiff⟩:=htf j hj
  clear hf hf2 haa hc hff hfx hfc hao ha6 hiff
  rw[hx] at e6
  have ct:=qpc gB2 (n:=1) oz dz
  rw[hbit] at ct
  obtain ⟨xx,hxx⟩ : ∃ z,2*x=z:=⟨_,rfl⟩
  have sh1:IntKind.i64.wrap ((x:Int)*2)=(xx:Int):=by rw[i64in _ oz oz]; omega
  have or1:bits .or .i64 (xx:Int) (bit:Int)=(x2:Int):=by have:=qkb xx bit 1 oz oz oz oz; rw[hxx] at hxb; rw[hxb] at this; exact this
  push_cast at e7 f0
  refine qi kz ?_
  simp[go_sem,e7,f0]
  refine hK9 _ _ ?_
  try clear hK9 K9
  refine qj (b:=false) (by simp[go_sem,f0]) (fun h=>by cases h) (fun _=>?_)
  refine ql ?_
  refine hK8 _ _ ?_
  try clear hK8 K8
  refine qg (fun K23 hK23=>?_)
  refine qp kz ?_
  refine qH 2 (fun K24 hK24=>?_)
  simp[go_sem,e1]
  refine ⟨_,ct,?_⟩
  rintro _ H3 hn3 ⟨rfl,gB3,hS3⟩
  refine hK24 _ _ ?_
  clear hK24 K24
  simp[go_sem,e1]
  refine hK23 _ _ ?_
  try clear hK23 K23
  refine qg (fun K25 hK25=>?_)
  refine qg (fun K26 hK26=>?_)
  refine qi kz ?_
  simp[go_sem]
  refine hK26 _ _ ?_
  try clear hK26 K26
  refine qj (b:=false) gz (fun h=>by cases h) (fun _=>?_)
  refine ql ?_
  refine hK25 _ _ ?_
  try clear hK25 K25
  refine qg (fun K27 hK27=>?_)
  refine qi kz ?_
  simp[go_sem,e6,sh1,or1]
  refine hK27 _ _ ?_
  try clear hK27 K27
  refine qg (fun K28 hK28=>?_)
  rcases (by omega:j+1=L\/j+1<L) with hjL | hjL
  ·skip
   rw[hjL,Nat.sub_self,Nat.pow_zero,Nat.div_one] at hx2
   rw[<- hjL,hx2] at hend
   have cb:=qgs hk hend hl oz H3
   push_cast at cb
   have hge:(0:Int)<=(s:Int):=oz
   refine qi kz ?_
   refine qI 4 (fun K29 hK29=>?_)
   simp[go_sem,e0,e7]
   refine ⟨_,_,cb,?_⟩
   refine hK29 _ _ ?_
   clear hK29 K29
   simp[go_sem,e0,e7]
   refine hK28 _ _ ?_
   try clear hK28 K28
   refine qg (fun K30 hK30=>?_)
   refine qg (fun K31 hK31=>?_)
   refine qi kz ?_
   simp[go_sem,hge]
   refine hK31 _ _ ?_
   try clear hK31 K31
   refine qj (b:=true) (by simp[go_sem,hge]) (fun _=>?_) (fun h=>by cases h)
   refine qg (fun K32 hK32=>?_)
   refine qi kz ?_
   simp[go_sem]
   refine hK32 _ _ ?_
   try clear hK32 K32
   refine qx ?_
   simp only[go_sem]
   refine hR _ _ ?_
   have hSS:=hS.trans hS3
   have hpp:p+j+1=p+L:=oz
   rw[hpp] at gB3
   exact hSS.retP (r:=.tup [.int s,.int 0]) gz ⟨rfl,gB3,hSS⟩ gz
  ·skip
   have hm:=hmid (j+1) oz hjL
   rw[hx2] at hm
   have cb:=qgs hk hm hl oz H3
   push_cast at cb
   refine qi kz ?_
   refine qI 4 (fun K33 hK33=>?_)
   simp[go_sem,e0,e7]
   refine ⟨_,_,cb,?_⟩
   refine hK33 _ _ ?_
   clear hK33 K33
   simp[go_sem,e0,e7]
   refine hK28 _ _ ?_
   try clear hK28 K28
   refine qg (fun K34 hK34=>?_)
   refine qg (fun K35 hK35=>?_)
   refine qi kz ?_
   simp[go_sem]
   refine hK35 _ _ ?_
   try clear hK35 K35
   refine qj (b:=false) gz (fun h=>by cases h) (fun _=>?_)
   refine ql ?_
   refine hK34 _ _ ?_
   try clear hK34 K34
   refine qg (fun K36 hK36=>?_)
   refine qi kz ?_
   simp[go_sem]
   refine hK36 _ _ ?_
   try clear hK36 K36
   refine qj (b:=false) gz (fun h=>by cases h) (fun _=>?_)
   refine ql ?_
   refine hK7 _ _ ?_
   try clear hK7 K7
   have wj:IntKind.i64.wrap ((j:Int)+1+1)=(j:Int)+1+1:=i64in _ oz oz
   refine qo (fun K37 hK37=>?_)
   refine qi kz ?_
   simp[go_sem,e7,wj]
   refine hK37 _ _ ?_
   exact ⟨16-(j+2),oz,j+2,rfl,hjL,by simp[go_sem,e0],by simp[go_sem,e1],by rw[show j+2-1=j+1 by omega,hx2]; simp[go_sem],by simp[go_sem]; omega,gB3,hS.trans hS3⟩
end Go.Proofs.YtfokgjhdndnnhaaGreatDoor
end X3S
set_option maxRecDepth 20000
noncomputable section X4S
namespace Go.Proofs.YtfokgjhdndnnhaaGreatDoor
open Go Go.Fl Go.Proofs
def DIn (S:Nat->Prop) (H:Heap) (xb:Nat) (b:List UInt8) (p:Nat) (all:List UInt8) (fr mo:Nat):Prop := ∃ rb q x,¬ S xb /\ ¬ S rb /\ ¬ S q/\rb≠xb/\q≠xb/\H.get xb=some [.ptr rb 0,x,.int fr,.int mo,.int 0]/\DBits H rb q b p/\GrN (fun z=>S z\/z=xb\/z=rb\/z=q) H x 1 all.length (bV all) /\ ∀ z,S z->z<H.next
theorem DIn.rd {S:Nat->Prop} {H H' : Heap} {xb rb q p p2 fr mo:Nat} {x:AV} {b all:List UInt8} (n1 : ¬ S xb) (n2 : ¬ S rb) (n3 : ¬ S q) (ne:rb≠xb) (nq:q≠xb) (gX:H.get xb=some [.ptr rb 0,x,.int fr,.int mo,.int 0]) (gB:DBits H rb q b p) (gG:GrN (fun z=>S z\/z=xb\/z=rb\/z=q) H x 1 all.length (bV all)) (hSn : ∀ z,S z->z<H.next) (g:DBits H' rb q b p2) (hs:Step (fun z=>z≠rb) H H'):DIn S H' xb b p2 all fr mo/\Step S H H' :=
 ⟨⟨rb,q,x,n1,n2,n3,ne,nq,hs.get gX (fun e=>ne e.symm),g,gG.keepN (fun z hz c hc=>hs.get hc (fun e=>hz (.inr (.inr (.inl e))))),fun z hz=>Nat.lt_of_lt_of_le (hSn z hz) hs.le⟩,hs.mono fun z hz e=>n2 (e ▸ hz)⟩
theorem DIn.len {S:Nat->Prop} {H:Heap} {x:AV} {al:Nat} {all:List UInt8} (gG:GrN S H x 1 al (bV all)):alen Tryz.prog 25 x=some (.int al):=by
 rcases gG with ⟨rfl,rfl,_⟩ | ⟨q,_,rfl,_,_⟩ <;> simp[go_sem]
theorem DIn.push {S:Nat->Prop} {H:Heap} {xb rb q p fr mo al c:Nat} {x:AV} {b all:List UInt8} {v:UInt8} (n1 : ¬ S xb) (n2 : ¬ S rb) (n3 : ¬ S q) (ne:rb≠xb) (nq:q≠xb) (gX:H.get xb=some [.ptr rb 0,x,.int fr,.int mo,.int 0]) (gB:DBits H rb q b p) (gG:GrN (fun z=>S z\/z=xb\/z=rb\/z=q) H x 1 all.length (bV all)) (hSn : ∀ z,S z->z<H.next) (hal:all.length=al) (hl:al<=1000000) (hc:v.toNat=c) :
  ∃ H1,aappend Tryz.prog (H.alloc [.sc (.int .u8 c)]) 25 25 x (.ms H.next 0 1 1)=some (.ms (H.next+1) 0 (al+1) 1,H1)/\H1.get xb=some [.ptr rb 0,x,.int fr,.int mo,.int 0] /\
   DIn S (H1.set xb [.ptr rb 0,.ms (H.next+1) 0 (al+1) 1,.int fr,.int mo,.int 0]) xb b p (all ++ [v]) fr mo/\Step S H (H1.set xb [.ptr rb 0,.ms (H.next+1) 0 (al+1) 1,.int fr,.int mo,.int 0]):=by
 have hne:bV [v] = [.sc (.int .u8 c)]:=by rw[<- hc]; rfl
 rw[<- hne]
 have hSa:Step (fun z=>z<H.next) H (H.alloc (bV [v])):=(Step.refl _ _).alloc (ja _ _)
 have gG2:=gG.keep (H':=H.alloc (bV [v])) (fun q cs hq=>hSa.get hq (Heap.lt_of_get hq))
 obtain ⟨bo,hg,hbo,_,hlx⟩:=gG2.grown
 rw[hal] at hg
 have hsrc:source Tryz.prog (H.alloc (bV [v])) 1 25 (.ms H.next 0 1 1)=some (1,bV [v]):=by
  rw[zq tU25 (cs:=bV [v]) (by rw[Heap.get_alloc,if_pos rfl]) (by simp[bV])]
  rfl
 have hap:=qL (P:=Tryz.prog) (H:=H.alloc (bV [v])) (x:=.ms H.next 0 1 1) (u:=25) tU25 tS5 tB5 tZ5 rfl hsrc hg oz oz (yc _)
 rw[<- jF,Heap.next_alloc] at hap
 have hS5:Step (fun z=>(S z\/z=xb\/z=rb\/z=q)/\z<H.next) H ((H.alloc (bV [v])).regrow bo (bV (all ++ [v]))):=(hSa.mono fun z hz=>hz.2).regrow (fun q hq hz=>hbo q hq hz.1) (ja _ _)
 obtain ⟨gR,gQ,hrq,hb⟩:=gB
 have hIl:=Heap.lt_of_get gX
 have hRl:=Heap.lt_of_get gR
 have hQl:=Heap.lt_of_get gQ
 have gX5:=hS5.get gX ⟨.inr (.inl rfl),hIl⟩
 have gR5:=hS5.get gR ⟨.inr (.inr (.inl rfl)),hRl⟩
 have gQ5:=hS5.get gQ ⟨.inr (.inr (.inr rfl)),hQl⟩
 have hnx:((H.alloc (bV [v])).regrow bo (bV (all ++ [v]))).next=H.next+2:=by rw[Heap.next_regrow,Heap.next_alloc]
 have hS6:Step S H (((H.alloc (bV [v])).regrow bo (bV (all ++ [v]))).set xb [.ptr rb 0,.ms (H.next+1) 0 (al+1) 1,.int fr,.int mo,.int 0]):=(hS5.mono fun z hz=>⟨.inl hz,hSn z hz⟩).set n1 (by rw[hnx]; simp[go_sem]; omega)
 have hlen:(all ++ [v]).length=al+1:=by rw[List.length_append,hal]; rfl
 refine ⟨_,hap,gX5,⟨rb,q,_,n1,n2,n3,ne,nq,by rw[Heap.get_set,if_pos rfl,gX5]; rfl,⟨by rw[Heap.get_set,if_neg ne]; exact gR5,by rw[Heap.get_set,if_neg nq]; exact gQ5,hrq,hb⟩,?_,fun z hz=>Nat.lt_of_lt_of_le (hSn z hz) hS6.le⟩,hS6⟩
 rw[hlen]
 refine GrN.ms (fun h=>?_) ?_ (by rw[qQ,hlen]; omega)
 ·rcases h with h | h | h | h
  ·have:=hSn _ h; omega
  ·omega
  ·omega
  ·omega
 ·rw[Heap.get_set,if_neg oz]
  have:=zf (H:=H.alloc (bV [v])) (bo:=bo) (v:=bV (all ++ [v]))
  rw[Heap.next_alloc] at this
  exact this
theorem jZ {S:Nat->Prop} {H:Heap} {xb p fr mo:Nat} {b all:List UInt8} (hI:DIn S H xb b p all fr mo) {n:Nat} (hp:p+n<=8*b.length) (hn:n<=32):SCallsP Tryz.prog 60 [.ptr xb 0,.int n] H (fun r H'=>r = .int (bitsAt b p n:Nat)/\DIn S H' xb b (p+n) all fr mo/\Step S H H'):=by
 obtain ⟨rb,q,x,n1,n2,n3,ne,nq,gX,gB,gG,hSn⟩:=hI
 have ct:=qpc gB hp hn
 refine qA (sz:=26) (Tryz.call60) Tryz.func60 rfl kz (fun R hR=>?_)
 refine qg (fun K1 hK1=>?_)
 refine qi kz ?_
 simp[go_sem]
 refine hK1 _ _ ?_
 try clear hK1 K1
 refine qg (fun K2 hK2=>?_)
 refine qg (fun K3 hK3=>?_)
 refine qi kz ?_
 simp[go_sem,gX]
 refine hK3 _ _ ?_
 try clear hK3 K3
 refine qj (b:=false) gz (fun h=>by cases h) (fun _=>?_)
 refine ql ?_
 refine hK2 _ _ ?_
 try clear hK2 K2
 refine qg (fun K4 hK4=>?_)
 refine qp kz ?_
 refine qH 6 (fun K5 hK5=>?_)
 simp[go_sem,gX]
 refine ⟨_,ct,?_⟩
 rintro _ H1 hn1 ⟨rfl,gB1,hS1⟩
 obtain ⟨hI1,hSS⟩:=DIn.rd n1 n2 n3 ne nq gX gB gG hSn gB1 hS1
 refine hK5 _ _ ?_
 clear hK5 K5
 simp[go_sem,gX]
 refine hK4 _ _ ?_
 try clear hK4 K4
 refine qg (fun K6 hK6=>?_)
 refine qg (fun K7 hK7=>?_)
 refine qi kz ?_
 simp[go_sem]
 refine hK7 _ _ ?_
 try clear hK7 K7
 refine qj (b:=false) gz (fun h=>by cases h) (fun _=>?_)
 refine ql ?_
 refine hK6 _ _ ?_
 try clear hK6 K6
 refine qg (fun K8 hK8=>?_)
 refine qi kz ?_
 simp[go_sem]
 refine hK8 _ _ ?_
 try clear hK8 K8
 refine qx ?_
 simp only[go_sem]
 refine hR _ _ ?_
 exact hSS.retP (r:=.int (bitsAt b p n:Nat)) gz ⟨rfl,hI1,hSS⟩ gz
theorem qb8 {S:Nat->Prop} {H:Heap} {xb p fr mo:Nat} {b all:List UInt8} (hI:DIn S H xb b p all fr mo) {s:Nat} {l:List Nat} (hp:p<=8*b.length) (hk:LensOk l) (hl:l.length<=100000) (h:0<l.getD s 0) (hA:Ahead b p (symBits l s)):SCallsP Tryz.prog 95 [.ptr xb 0,dtabA l] H (fun r H'=>r = .int s/\DIn S H' xb b (p+l.getD s 0) all fr mo/\Step S H H'):=by
 obtain ⟨rb,q,x,n1,n2,n3,ne,nq,gX,gB,gG,hSn⟩:=hI
 have ct:=dsym_p gB hp hk hl h hA
 refine qA (sz:=27) (Tryz.call95) Tryz.func95 rfl kz (fun R hR=>?_)
 refine qg (fun K1 hK1=>?_)
 refine qi kz ?_
 simp[go_sem]
 refine hK1 _ _ ?_
 try clear hK1 K1
 refine qg (fun K2 hK2=>?_)
 refine qg (fun K3 hK3=>?_)
 refine qi kz ?_
 simp[go_sem,gX]
 refine hK3 _ _ ?_
 try clear hK3 K3
 refine qj (b:=false) gz (fun h=>by cases h) (fun _=>?_)
 refine ql ?_
 refine hK2 _ _ ?_
 try clear hK2 K2
 refine qg (fun K4 hK4=>?_)
 refine qp kz ?_
 refine qH 6 (fun K5 hK5=>?_)
 simp[go_sem,gX]
 refine ⟨_,ct,?_⟩
 rintro _ H1 hn1 ⟨rfl,gB1,hS1⟩
 obtain ⟨hI1,hSS⟩:=DIn.rd n1 n2 n3 ne nq gX gB gG hSn gB1 hS1
 refine hK5 _ _ ?_
 clear hK5 K5
 simp[go_sem,gX]
 refine hK4 _ _ ?_
 try clear hK4 K4
 refine qg (fun K6 hK6=>?_)
 refine qg (fun K7 hK7=>?_)
 refine qi kz ?_
 simp[go_sem]
 refine hK7 _ _ ?_
 try clear hK7 K7
 refine qj (b:=false) gz (fun h=>by cases h) (fun _=>?_)
 refine ql ?_
 refine hK6 _ _ ?_
 try clear hK6 K6
 refine qg (fun K8 hK8=>?_)
 refine qi kz ?_
 simp[go_sem]
 refine hK8 _ _ ?_
 try clear hK8 K8
 refine qx ?_
 simp only[go_sem]
 refine hR _ _ ?_
 exact hSS.retP (r:=.int s) gz ⟨rfl,hI1,hSS⟩ gz
theorem qpe {S:Nat->Prop} {H:Heap} {xb p fr mo:Nat} {b all:List UInt8} (hI:DIn S H xb b p all fr mo) (v:UInt8) (h1:fr<=all.length) (h2:all.length<=900000) (h3:all.length+1<=fr+mo) (h4:mo<=1000000):SCallsP Tryz.prog 93 [.ptr xb 0,.sc (.int .u8 v.toNat)] H (fun r H'=>r = .tup []/\DIn S H' xb b p (all ++ [v]) fr mo/\Step S H H'):=by
 obtain ⟨rb,q,x,n1,n2,n3,ne,nq,gX,gB,gG,hSn⟩:=hI
 obtain ⟨al,hal⟩ : ∃ z,all.length=z:=⟨_,rfl⟩
 have hpush:=DIn.push (v:=v) n1 n2 n3 ne nq gX gB gG hSn hal oz rfl
 rw[hal] at gG h1 h2 h3
 have hln:=DIn.len gG
 obtain ⟨H4,hap,gX1,hI4,hS4⟩:=hpush
 have w1:IntKind.i64.wrap ((al:Int)-(fr:Int))=(al:Int)-(fr:Int):=i64in _ oz oz
 have lt : ¬ ((mo:Int)<=(al:Int)-(fr:Int)):=oz
 refine qA (sz:=31) (Tryz.call93) Tryz.func93 rfl kz (fun R hR=>?_)
 refine qg (fun K1 hK1=>?_)
 refine qg (fun K2 hK2=>?_)
 refine qJ mixed kz ?_
 simp[go_sem,gX,hln,w1,lt]
 refine hK2 _ _ ?_
 try clear hK2 K2
 refine qj (b:=false) (by simp[go_sem,lt]) (fun h=>by cases h) (fun _=>?_)
 refine ql ?_
 refine hK1 _ _ ?_
 try clear hK1 K1
 refine qo (fun K3 hK3=>?_)
 refine qi kz ?_
 simp[go_sem,gX,hap,gX1]
 refine hK3 _ _ ?_
 refine hR _ _ ?_
 exact hS4.retP (r:=.tup []) gz ⟨rfl,hI4,hS4⟩ gz
theorem dlen_a (H:Heap) (xb:Nat):SCalls Tryz.prog 96 [.ptr xb 0,.int 285] H (.int 258) H:=by
 refine qE (sz:=29) (Tryz.call96) Tryz.func96 rfl (Nat.le_refl _) kz (fun R hR=>?_)
 refine qg (fun K1 hK1=>?_)
 refine qi kz ?_
 simp[go_sem]
 refine hK1 _ _ ?_
 try clear hK1 K1
 refine qg (fun K2 hK2=>?_)
 refine qm ?_
 refine qg (fun K3 hK3=>?_)
 refine qi kz ?_
 simp[go_sem]
 refine hK3 _ _ ?_
 try clear hK3 K3
 refine qj (b:=false) gz (fun h=>by cases h) (fun _=>?_)
 refine qg (fun K4 hK4=>?_)
 refine qi kz ?_
 simp[go_sem]
 refine hK4 _ _ ?_
 try clear hK4 K4
 refine qj (b:=true) gz (fun _=>?_) (fun h=>by cases h)
 refine qg (fun K5 hK5=>?_)
 refine qi kz ?_
 simp[go_sem]
 refine hK5 _ _ ?_
 try clear hK5 K5
 refine qx ?_
 simp only[go_sem]
 refine hR _ _ ?_
 exact qG gz (Heap.le_refl _) (Nat.le_refl _) gz
theorem dlen_b (H:Heap) (xb n:Nat) (h:n<11):SCalls Tryz.prog 96 [.ptr xb 0,.int (n+254:Nat)] H (.int n) H:=by
 obtain ⟨y,hy⟩ : ∃ z,n+254=z:=⟨_,rfl⟩
 rw[hy]
 have f1:(y:Int)<=264:=oz
 have w:IntKind.i64.wrap ((y:Int)-254)=(n:Int):=by rw[i64in _ oz oz]; omega
 refine qE (sz:=29) (Tryz.call96) Tryz.func96 rfl (Nat.le_refl _) kz (fun R hR=>?_)
 refine qg (fun K1 hK1=>?_)
 refine qi kz ?_
 simp[go_sem]
 refine hK1 _ _ ?_
 try clear hK1 K1
 refine qg (fun K2 hK2=>?_)
 refine qm ?_
 refine qg (fun K3 hK3=>?_)
 refine qi kz ?_
 simp[go_sem,f1]
 refine hK3 _ _ ?_
 try clear hK3 K3
 refine qj (b:=true) gz (fun _=>?_) (fun h=>by cases h)
 refine qg (fun K4 hK4=>?_)
 refine qi kz ?_
 simp[go_sem,w]
 refine hK4 _ _ ?_
 try clear hK4 K4
 refine qx ?_
 simp only[go_sem]
 refine hR _ _ ?_
 exact qG gz (Heap.le_refl _) (Nat.le_refl _) gz
theorem dlen_c {S:Nat->Prop} {H:Heap} {xb p fr mo:Nat} {b all:List UInt8} (hI:DIn S H xb b p all fr mo) {e q x:Nat} (hp:p<=8*b.length) (he1:1<=e) (he5:e<=5) (hq4:4<=q) (hq7:q<=7) (hx:x<2^e) (haw:Ahead b p (natBits e x)):SCallsP Tryz.prog 96 [.ptr xb 0,.int (265+4*(e-1)+(q-4):Nat)] H (fun r H'=>r = .int (q*2^e+3+x:Nat)/\DIn S H' xb b (p+e) all fr mo/\Step S H H'):=by
 have hp1:=haw.room hp
 rw[qB] at hp1
 have ct:=jZ hI (n:=e) hp1 oz
 rw[haw.bits hx] at ct
 have hpe:2^e<=32:=Nat.le_trans (Nat.pow_le_pow_right dz he5) dz
 obtain ⟨Q,hQ⟩ : ∃ z,q*2^e=z:=⟨_,rfl⟩
 have hQl:Q<=224:=by rw[<- hQ]; exact Nat.le_trans (Nat.mul_le_mul hq7 hpe) dz
 have sl:bshl .i64 (q:Int) (e:Int)=(Q:Int):=by rw[<- hQ]; exact zB q e oz oz
 rw[hQ]
 have hx32:x<32:=Nat.lt_of_lt_of_le hx hpe
 obtain ⟨y,hy⟩ : ∃ z,265+4*(e-1)+(q-4)=z:=⟨_,rfl⟩
 rw[hy]
 have f1 : ¬ ((y:Int)<=264):=oz
 have f2:((y:Int)==285)=false:=by simp; omega
 obtain ⟨z,hz⟩ : ∃ z,y-261=z:=⟨_,rfl⟩
 have w1:IntKind.i64.wrap ((y:Int)-261)=(z:Int):=by rw[i64in _ oz oz]; omega
 have d4:(z:Int).tdiv 4=(e:Int):=by have:=tdivN z 4; rw[show z/4=e by omega] at this; exact this
 have w2:IntKind.i64.wrap (e:Int)=(e:Int):=i64in _ oz oz
 have wu:=qac e oz
 obtain ⟨u,hu⟩ : ∃ z,y-265=z:=⟨_,rfl⟩
 have w3:IntKind.i64.wrap ((y:Int)-265)=(u:Int):=by rw[i64in _ oz oz]; omega
 obtain ⟨q4,hq4⟩ : ∃ z,q-4=z:=⟨_,rfl⟩
 have m4:(u:Int).tmod 4=(q4:Int):=by have:=tmodN u 4; rw[show u%4=q4 by omega] at this; exact this
 have w4:IntKind.i64.wrap (4+(q4:Int))=(q:Int):=by rw[i64in _ oz oz]; omega
 have w5:IntKind.i64.wrap ((Q:Int)+3)=(Q:Int)+3:=i64in _ oz oz
 have w6:IntKind.i64.wrap ((Q:Int)+3+(x:Int))=(Q:Int)+3+(x:Int):=i64in _ oz oz
 refine qA (sz:=29) (Tryz.call96) Tryz.func96 rfl kz (fun R hR=>?_)
 refine qg (fun K1 hK1=>?_)
 refine qi kz ?_
 simp[go_sem]
 refine hK1 _ _ ?_
 try clear hK1 K1
 refine qg (fun K2 hK2=>?_)
 refine qm ?_
 refine qg (fun K3 hK3=>?_)
 refine qi kz ?_
 simp[go_sem,f1]
 refine hK3 _ _ ?_
 try clear hK3 K3
 refine qj (b:=false) (by simp[go_sem,f1]) (fun h=>by cases h) (fun _=>?_)
 refine qg (fun K4 hK4=>?_)
 refine qi kz ?_
 simp[go_sem,f2]
 refine hK4 _ _ ?_
 try clear hK4 K4
 refine qj (b:=false) gz (fun h=>by cases h) (fun _=>?_)
 refine ql ?_
 refine hK2 _ _ ?_
 try clear hK2 K2
 refine qg (fun K5 hK5=>?_)
 refine qi kz ?_
 simp[go_sem,w1,d4,w2]
 refine hK5 _ _ ?_
 try clear hK5 K5
 refine qg (fun K6 hK6=>?_)
 refine qp kz ?_
 refine qH 11 (fun K7 hK7=>?_)
 simp[go_sem,w3,m4,w4,wu,sl,w5,w6]
 refine ⟨_,ct,?_⟩
 rintro _ H2 hn2 ⟨rfl,hI2,hS2⟩
 refine hK7 _ _ ?_
 clear hK7 K7
 simp[go_sem,w3,m4,w4,wu,sl,w5,w6]
 refine hK6 _ _ ?_
 try clear hK6 K6
 refine qx ?_
 simp only[go_sem]
 refine hR _ _ ?_
 refine hS2.retP (r:=.int (Q+3+x:Nat)) gz ⟨rfl,hI2,hS2⟩ gz
theorem qpf {S:Nat->Prop} {H:Heap} {xb p fr mo:Nat} {b all:List UInt8} (hI:DIn S H xb b p all fr mo) (hp:p<=8*b.length) {n:Nat} (h3:3<=n) (h258:n<=258) (haw:Ahead b p (natBits (lenPart n).bits (lenPart n).more)):SCallsP Tryz.prog 96 [.ptr xb 0,.int ((lenPart n).sym:Nat)] H (fun r H'=>r = .int n/\DIn S H' xb b (p+(lenPart n).bits) all fr mo/\Step S H H'):=by
 rcases jv h3 h258 with ⟨hn,hr⟩ | ⟨hn,hr⟩ | ⟨e,q,hn11,hn258,h1e,he5,hq4,hq7,hq,hpe,hqe,hme,hr⟩
 ·rw[hr]
  subst hn
  exact (dlen_a H xb).p.mono fun r H' _ ⟨h1,h2⟩=>by rw[h1,h2]; exact ⟨rfl,hI,Step.refl _ _⟩
 ·rw[hr]
  exact (dlen_b H xb n hn).p.mono fun r H' _ ⟨h1,h2⟩=>by rw[h1,h2]; exact ⟨rfl,hI,Step.refl _ _⟩
 ·rw[hr] at haw |-
  have hc:=dlen_c hI hp h1e he5 hq4 hq7 hme haw
  have e1:q*2^e+3+(n-3)%2^e=n:=oz
  rw[e1] at hc
  exact hc
theorem ddist_b (H:Heap) (xb:Nat) {y:Nat} (hy4:y<4):SCalls Tryz.prog 97 [.ptr xb 0,.int y] H (.int (y+1:Nat)) H:=by
 have f1:(y:Int)<=3:=oz
 have w:IntKind.i64.wrap ((y:Int)+1)=((y+1:Nat):Int):=by rw[i64in _ oz oz]; omega
 push_cast at w
 refine qE (sz:=24) (Tryz.call97) Tryz.func97 rfl (Nat.le_refl _) kz (fun R hR=>?_)
 refine qg (fun K1 hK1=>?_)
 refine qi kz ?_
 simp[go_sem]
 refine hK1 _ _ ?_
 try clear hK1 K1
 refine qg (fun K2 hK2=>?_)
 refine qg (fun K3 hK3=>?_)
 refine qi kz ?_
 simp[go_sem,f1]
 refine hK3 _ _ ?_
 try clear hK3 K3
 refine qj (b:=true) gz (fun _=>?_) (fun h=>by cases h)
 refine qg (fun K4 hK4=>?_)
 refine qi kz ?_
 simp[go_sem,w]
 refine hK4 _ _ ?_
 try clear hK4 K4
 refine qx ?_
 simp only[go_sem]
 refine hR _ _ ?_
 exact qG gz (Heap.le_refl _) (Nat.le_refl _) gz
theorem ddist_c {S:Nat->Prop} {H:Heap} {xb p fr mo:Nat} {b all:List UInt8} (hI:DIn S H xb b p all fr mo) {e q x:Nat} (hp:p<=8*b.length) (he1:1<=e) (he5:e<=13) (hq2:2<=q) (hq3:q<=3) (hx:x<2^e) (haw:Ahead b p (natBits e x)):SCallsP Tryz.prog 97 [.ptr xb 0,.int (2*(e+1)+(q-2):Nat)] H (fun r H'=>r = .int (q*2^e+1+x:Nat)/\DIn S H' xb b (p+e) all fr mo/\Step S H H'):=by
 have hp1:=haw.room hp
 rw[qB] at hp1
 have ct:=jZ hI (n:=e) hp1 oz
 rw[haw.bits hx] at ct
 obtain ⟨y,hy⟩ : ∃ z,2*(e+1)+(q-2)=z:=⟨_,rfl⟩
 rw[hy]
 have hpe:2^e<=8192:=Nat.le_trans (Nat.pow_le_pow_right dz he5) dz
 obtain ⟨Q,hQ⟩ : ∃ z,q*2^e=z:=⟨_,rfl⟩
 have hQl:Q<=24576:=by rw[<- hQ]; exact Nat.le_trans (Nat.mul_le_mul hq3 hpe) dz
 have sl:bshl .i64 (q:Int) (e:Int)=(Q:Int):=by rw[<- hQ]; exact zB q e oz oz
 rw[hQ]
 have hx32:x<8192:=Nat.lt_of_lt_of_le hx hpe
 have f1 : ¬ ((y:Int)<=3):=oz
 obtain ⟨e1,he1q⟩ : ∃ z,e+1=z:=⟨_,rfl⟩
 have d2:(y:Int).tdiv 2=(e1:Int):=by have:=tdivN y 2; rw[show y/2=e1 by omega] at this; exact this
 have w1:IntKind.i64.wrap (e1:Int)=(e1:Int):=i64in _ oz oz
 have w2:IntKind.i64.wrap ((e1:Int)-1)=(e:Int):=by rw[i64in _ oz oz]; omega
 obtain ⟨q2,hq2q⟩ : ∃ z,q-2=z:=⟨_,rfl⟩
 have m2:(y:Int).tmod 2=(q2:Int):=by have:=tmodN y 2; rw[show y%2=q2 by omega] at this; exact this
 have w4:IntKind.i64.wrap (2+(q2:Int))=(q:Int):=by rw[i64in _ oz oz]; omega
 have wu:=qac e oz
 have w5:IntKind.i64.wrap ((Q:Int)+1)=(Q:Int)+1:=i64in _ oz oz
 have w6:IntKind.i64.wrap ((Q:Int)+1+(x:Int))=(Q:Int)+1+(x:Int):=i64in _ oz oz
 refine qA (sz:=24) (Tryz.call97) Tryz.func97 rfl kz (fun R hR=>?_)
 refine qg (fun K1 hK1=>?_)
 refine qi kz ?_
 simp[go_sem]
 refine hK1 _ _ ?_
 try clear hK1 K1
 refine qg (fun K2 hK2=>?_)
 refine qg (fun K3 hK3=>?_)
 refine qi kz ?_
 simp[go_sem,f1]
 refine hK3 _ _ ?_
 try clear hK3 K3
 refine qj (b:=false) (by simp[go_sem,f1]) (fun h=>by cases h) (fun _=>?_)
 refine ql ?_
 refine hK2 _ _ ?_
 try clear hK2 K2
 refine qg (fun K4 hK4=>?_)
 refine qi kz ?_
 simp[go_sem,d2,w1,w2]
 refine hK4 _ _ ?_
 try clear hK4 K4
 refine qg (fun K5 hK5=>?_)
 refine qp kz ?_
 refine qH 10 (fun K6 hK6=>?_)
 simp[go_sem,m2,w4,wu,sl,w5,w6]
 refine ⟨_,ct,?_⟩
 rintro _ H2 hn2 ⟨rfl,hI2,hS2⟩
 refine hK6 _ _ ?_
 clear hK6 K6
 simp[go_sem,m2,w4,wu,sl,w5,w6]
 refine hK5 _ _ ?_
 try clear hK5 K5
 refine qx ?_
 simp only[go_sem]
 refine hR _ _ ?_
 refine hS2.retP (r:=.int (Q+1+x:Nat)) gz ⟨rfl,hI2,hS2⟩ gz
theorem qj5 {S:Nat->Prop} {H:Heap} {xb p fr mo:Nat} {b all:List UInt8} (hI:DIn S H xb b p all fr mo) (hp:p<=8*b.length) {d:Nat} (h1:1<=d) (h2:d<=32768) (haw:Ahead b p (natBits (distPart d).bits (distPart d).more)):SCallsP Tryz.prog 97 [.ptr xb 0,.int ((distPart d).sym:Nat)] H (fun r H'=>r = .int d/\DIn S H' xb b (p+(distPart d).bits) all fr mo/\Step S H H'):=by
 rcases jH h1 h2 with ⟨hn,hr⟩ | ⟨e,q,hn5,h1e,he5,hq2,hq3,hq,hpe,hqe,hme,hr⟩
 ·rw[hr]
  refine (ddist_b H xb (y:=d-1) oz).p.mono fun r H' _ ⟨k1,k2⟩=>?_
  rw[k1,k2,show d-1+1=d by omega]
  exact ⟨rfl,hI,Step.refl _ _⟩
 ·rw[hr] at haw |-
  have hc:=ddist_c hI hp h1e he5 hq2 hq3 hme haw
  have e1:q*2^e+1+(d-1)%2^e=d:=oz
  rw[e1] at hc
  exact hc
end Go.Proofs.YtfokgjhdndnnhaaGreatDoor
end X4S
