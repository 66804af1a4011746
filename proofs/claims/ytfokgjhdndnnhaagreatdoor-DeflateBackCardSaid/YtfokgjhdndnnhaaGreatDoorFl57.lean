/- Contracts: the codes that were told, read. -/
import Derived.Test.YtfokgjhdndnnhaaGreatDoorW49
import Derived.Test.YtfokgjhdndnnhaaGreatDoorFl56
set_option maxHeartbeats 2000000
set_option linter.unusedVariables false
set_option linter.unusedSimpArgs false
set_option maxRecDepth 20000
noncomputable section W50S
namespace Go.Proofs.YtfokgjhdndnnhaaGreatDoor
open Go Go.Fl Go.Proofs
theorem codes_p {S:Nat->Prop} {H:Heap} {ib p fr mo:Nat} {b all:List UInt8} (hI:InR S H ib b p all fr mo) (hb:b.length<=100000) (hp:p<=8*b.length) {x y:List Nat} (hxl:x.length=286) (hyl:y.length=30) (hx:LensOk x) (hy:LensOk y) (h256:0<x.getD 256 0) (hA:Ahead b p (toldBits x y)):SCallsP Tryz.prog 53 [.ptr ib 0] H (fun r H'=>r = .tup [tabA (trimL x 257),tabA (trimL y 1),.sc .nilIface]/\InR S H' ib b (p+(toldBits x y).length) all fr mo/\Step S H H'):=by
 obtain ⟨rb,xa,nI,nR,ne,gI,gR,gX,hSn⟩:=hI
 have hIl:=Heap.lt_of_get gI
 have hRl:=Heap.lt_of_get gR
 have tX:=zW (l:=x) (n:=257) oz
 have tY:=zW (l:=y) (n:=1) oz
 obtain ⟨m,hm⟩ : ∃ z,metaL x y=z:=⟨_,rfl⟩
 have mg:=zC (most:=7) (counts:=cntL (allL x y)) dz dz (npos19 _)
 have mok:=qbu (most:=7) (counts:=cntL (allL x y)) dz dz (npos19 _) (by rw[zN]; decide)
 have ale:=qjm hx.le hy.le
 have mpos : ∀ s∈allL x y,s<=15/\0<(lensOf 7 (cntL (allL x y))).getD s 0:=fun s hs=>⟨ale s hs,jO (most:=7) dz dz (npos19 _) (qgi (fun v hv=>by have:=ale v hv; omega) s hs)⟩
 rw[show lensOf 7 (cntL (allL x y))=m from hm] at mg mok mpos
 have mlen:m.length=19:=by rw[mg.len,zN]
 have mle:=mg.le
 clear mg ale
 have hxo:=yZ (n:=257) hx
 have hyo:=yZ (n:=1) hy
 have a256:(allL x y).getD 256 0=x.getD 256 0:=by
  rw[<- jr x 257 256]
  unfold allL
  rw[List.getD_eq_getElem?_getD,List.getElem?_append_left oz,<- List.getD_eq_getElem?_getD]
 obtain ⟨V,hV⟩ : ∃ z,x.getD 256 0=z:=⟨_,rfl⟩
 rw[hV] at a256 h256
 have tk:(allL x y).take (trimL x 257).length=trimL x 257:=by unfold allL; exact List.take_left
 have td:(allL x y).drop (trimL x 257).length=trimL y 1:=by unfold allL; exact List.drop_left
 have tl:(allL x y).length=(trimL x 257).length+(trimL y 1).length:=by unfold allL; rw[List.length_append]
 have ht:toldBits x y=(natBits 5 ((trimL x 257).length-257)++(natBits 5 ((trimL y 1).length-1)++natBits 4 15))++((ordL.flatMap fun k=>natBits 3 (m.getD k 0))++(allL x y).flatMap (symBits m)):=by
  unfold toldBits
  rw[hm]
  simp only[List.append_assoc]
 rw[ht] at hA
 have hT:(toldBits x y).length=14+(57+((allL x y).flatMap (symBits m)).length):=by
  rw[ht,List.length_append,List.length_append,List.length_append,List.length_append,qB,qB,qB]
  rfl
 rw[hT]
 clear ht hT
 obtain ⟨tx,htx⟩ : ∃ z,trimL x 257=z:=⟨_,rfl⟩
 obtain ⟨ty,hty⟩ : ∃ z,trimL y 1=z:=⟨_,rfl⟩
 obtain ⟨al,hal⟩ : ∃ z,allL x y=z:=⟨_,rfl⟩
 rw[htx] at tX tk td tl hA hxo |-
 rw[hty] at tY td tl hA hyo |-
 rw[hal] at tk td tl hA mpos a256 |-
 obtain ⟨X,hX⟩ : ∃ z,tx.length=z:=⟨_,rfl⟩
 obtain ⟨Y,hY⟩ : ∃ z,ty.length=z:=⟨_,rfl⟩
 rw[hX] at tX tk td tl hA
 rw[hY] at tY tl hA
 have hlh:(natBits 5 (X-257)++(natBits 5 (Y-1)++natBits 4 15)).length=14:=by rw[List.length_append,List.length_append,qB,qB,qB]
 have hrh:=hA.fst.room hp
 have hA2:=hA.next
 rw[hlh] at hrh hA2
 have ch:=heads_p ne gI gR hb hp (n0:=X-257) (n1:=Y-1) (n2:=15) oz oz dz hA.fst
 rw[show ((X-257:Nat):Int)+257=(X:Int) by omega,show ((Y-1:Nat):Int)+1=(Y:Int) by omega] at ch
 clear hA hlh
 have hI14:p+5+5+4=p+14:=rfl
 rw[hI14] at ch
 obtain ⟨T1,hT1⟩ : ∃ z,tabA tx=z:=⟨_,rfl⟩
 obtain ⟨T2,hT2⟩ : ∃ z,tabA ty=z:=⟨_,rfl⟩
 have T1l : ∀ n,T1.Lt n:=fun n=>by rw[<- hT1,zT]; trivial
 have T2l : ∀ n,T2.Lt n:=fun n=>by rw[<- hT2,zT]; trivial
 have cX:=fun H=>New_H tx oz oz hxo.le hxo.whole H
 have cY:=fun H=>New_H ty oz oz hyo.le hyo.whole H
 rw[hT1] at cX |-
 rw[hT2] at cY |-
 unfold iA at cX cY
 rw[hX] at cX
 rw[hY] at cY
 have hTk:(iV al).take X=iV tx:=by rw[qfy,tk]
 have hDr:(iV al).drop X=iV ty:=by rw[qm0,td]
 have hTy:(iV ty).take Y=iV ty:=List.take_of_length_le (by rw[qK]; omega)
 have hLa:(iV al).length=X+Y:=by rw[qK,tl]
 obtain ⟨r256,d256⟩:=qX (l:=al) (i:=256) oz
 rw[a256] at d256
 have hV0:((V:Int)==0)=false:=by simp; omega
 have nX : ¬ ((286:Int)<X):=oz
 have nY : ¬ ((30:Int)<Y):=oz
 have wXY:IntKind.i64.wrap ((X:Int)+(Y:Int))=(X:Int)+(Y:Int):=i64in _ oz oz
 have iX:(0:Int)<=(X:Int):=oz
 have jX:(256:Int)<(X:Int)+(Y:Int):=oz
 have kX:X<=X+Y:=oz
 have sX:X+Y-X=Y:=oz
 have co:=order_H
 obtain ⟨cc,hcc⟩ : ∃ z,iV ordL=z:=⟨_,rfl⟩
 have hcL:cc.length=19:=by rw[<- hcc]; rfl
 have hcT:cc.take 19=cc:=List.take_of_length_le oz
 have cAt : ∀ j,j<19 -> ∃ r,cc.drop j = .int (ordL.getD j 0:Nat)::r:=fun j hj=>by rw[<- hcc]; exact qo5 hj
 have hoA:iA ordL = .vs 19 1 cc:=by rw[<- hcc]; rfl
 rw[hoA] at co
 clear hoA
 refine qA (sz:=109) (Tryz.call53) Tryz.func53 rfl kz (fun R hR=>?_)
 refine qg (fun K1 hK1=>?_)
 refine qi kz ?_
 simp[go_sem]
 refine hK1 _ _ ?_
 try clear hK1 K1
 refine qw (fun env H2 => ∃ L,(env 0 = .ptr ib 0/\env 5 = .ptr L 0/\env 6 = .sc .nilIface)/\H2.get L=some [.int X,.int Y,.int 19]/\H.next<=L/\H2.get rb=some (rdC b (p+14))/\Step (fun z=>z<H.next/\z≠rb) H H2) ?_ ?_
 ·skip
  refine qo (fun K3 hK3=>?_)
  refine qp kz ?_
  refine qH 2 (fun K4 hK4=>?_)
  simp[go_sem]
  refine ⟨_,ch,?_⟩
  rintro _ H1 hn1 ⟨rfl,gR1,hS1⟩
  refine hK4 _ _ ?_
  clear hK4 K4
  simp[go_sem]
  refine hK3 _ _ ?_
  exact ⟨H1.next,⟨gz,gz,gz⟩,gz,hS1.le,by rw[Heap.get_set,if_neg (by have:=Heap.lt_of_get gR1; omega),Heap.get_alloc,if_neg (by have:=Heap.lt_of_get gR1; omega)]; exact gR1,(hS1.alloc gz).set (fun hz=>by have:=hS1.le; have h9:H1.next<H.next/\_:=hz; omega) gz⟩
 rintro env H2 ⟨L,⟨e0,e5,e6⟩,gL,hL,gR2,hS2⟩
 have hLl:=Heap.lt_of_get gL
 refine qg (fun K5 hK5=>?_)
 refine qg (fun K6 hK6=>?_)
 refine qi kz ?_
 simp[go_sem,e6]
 refine hK6 _ _ ?_
 try clear hK6 K6
 refine qj (b:=false) gz (fun h=>by cases h) (fun _=>?_)
 refine ql ?_
 refine hK5 _ _ ?_
 try clear hK5 K5
 refine qg (fun K7 hK7=>?_)
 refine qg (fun K8 hK8=>?_)
 refine qi kz ?_
 simp[go_sem,e5,gL,nX,nY]
 refine hK8 _ _ ?_
 try clear hK8 K8
 refine qj (b:=false) (by simp[go_sem,nX,nY]) (fun h=>by cases h) (fun _=>?_)
 refine ql ?_
 refine hK7 _ _ ?_
 try clear hK7 K7
 refine qw (fun env H3 => ∃ Q,(env 0 = .ptr ib 0/\env 5 = .ptr L 0/\env 7 = .ms Q 0 19 1)/\H3.get Q=some (iV (List.replicate 19 0))/\H3.get L=some [.int X,.int Y,.int 19]/\H.next<=Q/\Q≠L/\H3.get rb=some (rdC b (p+14))/\Step (fun z=>z<H.next/\z≠rb) H H3) ?_ ?_
 ·skip
  refine qo (fun K10 hK10=>?_)
  refine qi kz ?_
  simp[go_sem,qR]
  refine hK10 _ _ ?_
  exact ⟨H2.next,⟨by simp[go_sem,e0],by simp[go_sem,e5],gz⟩,by rw[Heap.get_alloc,if_pos rfl]; rfl,by rw[Heap.get_alloc,if_neg oz]; exact gL,hS2.le,oz,by rw[Heap.get_alloc,if_neg (by have:=Heap.lt_of_get gR2; omega)]; exact gR2,hS2.alloc (fun y hy=>jb (List.replicate 19 0) _ y hy)⟩
 clear e0 e5 e6
 rintro env H2q ⟨Q,⟨e0,e5,e7⟩,gQ,gL,hQ,hQL,gR2q,hS2q⟩
 clear hS2 gR2
 refine qg (fun K11 hK11=>?_)
 refine qg (fun K12 hK12=>?_)
 refine qJ mixed kz ?_
 refine jS 1 (fun K13 hK13=>?_)
 simp[go_sem,e5,gL,hcT,hcL]
 refine ⟨_,_,(co _),rfl,?_⟩
 refine hK13 _ _ ?_
 clear hK13 K13
 simp[go_sem,e5,gL,hcT,hcL]
 refine hK12 _ _ ?_
 try clear hK12 K12
 refine qm ?_
 refine qC (Inv:=fun m0 env H3 => ∃ (j p2:Nat) (l:List Nat),m0=19-j/\j<=19/\l=lenG m j/\Ahead b p2 (((ordL.drop j).flatMap fun k=>natBits 3 (m.getD k 0))++al.flatMap (symBits m))/\p2<=8*b.length/\p2=p+14+3*j/\env 0 = .ptr ib 0/\env 5 = .ptr L 0/\env 7 = .ms Q 0 19 1/\env 38 = .vs 19 1 cc/\env 39 = .int 19/\env 40 = .int j/\H3.get Q=some (iV l)/\H3.get L=some [.int X,.int Y,.int 19]/\H3.get rb=some (rdC b p2)/\Step (fun z=>z<H.next/\z≠rb) H H3) ?_ (n:=19) (⟨0,p+14,_,rfl,oz,rfl,hA2,hrh,rfl,by simp[go_sem,e0],by simp[go_sem,e5],by simp[go_sem,e7],gz,gz,gz,gQ,gL,gR2q,hS2q⟩)
 clear e0 e5 e7
 rintro m0 env H3 ⟨j,p2,l,rfl,hj,hl,hA3,hp2,hpq,e0,e5,e7,e38,e39,e40,gQ,gL3,gR3,hS3⟩
 refine qg (fun K14 hK14=>?_)
 refine qi kz ?_
 simp[go_sem,e39,e40]
 refine hK14 _ _ ?_
 try clear hK14 K14
 refine qg (fun K15 hK15=>?_)
 refine qj (b:=decide ((j:Int)<19)) gz (fun hb9=>?_) (fun hb9=>?_)
 ·skip
  simp only[decide_eq_true_eq] at hb9
  have hb9:j<19:=oz
  obtain ⟨rr,dk⟩:=cAt j hb9
  have hkl:=ord_lt j
  have hA3b:=hA3
  rw[qlc hb9,List.flatMap_cons,List.append_assoc] at hA3b
  obtain ⟨k,hk⟩ : ∃ z,ordL.getD j 0=z:=⟨_,rfl⟩
  rw[hk] at dk hkl hA3b
  have hv8:m.getD k 0<2^3:=by have:=mle k; omega
  obtain ⟨v,hv⟩ : ∃ z,m.getD k 0=z:=⟨_,rfl⟩
  rw[hv] at hA3b hv8
  have hvb:=hA3b.fst.bits hv8
  have hp3:=hA3b.fst.room hp2
  have hA4:=hA3b.next
  rw[qB] at hp3 hA4
  clear hA3b
  have gI3:=hS3.get gI ⟨hIl,fun e=>ne e.symm⟩
  have ct:=qep gI3 gR3 hb (n:=3) hp3 dz
  rw[hvb] at ct
  have hll:l.length=19:=by rw[hl]; exact qgp m j
  have iv1:=zA l k oz v
  have iL:(iV l).length=19:=by rw[qK,hll]
  have ki:(k:Int)<19:=oz
  have ji:(j:Int)<19:=oz
  have wj:IntKind.i64.wrap ((j:Int)+1)=((j+1:Nat):Int):=qF j oz
  have k19:k+1<=19:=oz
  have j19:j+1<=19:=oz
  refine ql ?_
  refine hK15 _ _ ?_
  try clear hK15 K15
  refine qg (fun K16 hK16=>?_)
  refine qm ?_
  refine qg (fun K17 hK17=>?_)
  refine qi kz ?_
  simp[go_sem,e38,e40,dk,ji,hcL,j19]
  refine hK17 _ _ ?_
  try clear hK17 K17
  refine qg (fun K18 hK18=>?_)
  refine qp kz ?_
  refine qH 2 (fun K19 hK19=>?_)
  simp[go_sem,e0]
  refine ⟨_,ct,?_⟩
  rintro _ H4 hn4 ⟨rfl,gR4,hS4⟩
  have hQr:Q≠rb:=oz
  have gQ4:=hS4.get gQ hQr
  have gL4:=hS4.get gL3 (by show _≠_; omega)
  refine hK19 _ _ ?_
  clear hK19 K19
  simp[go_sem,e0]
  refine hK18 _ _ ?_
  try clear hK18 K18
  refine qg (fun K20 hK20=>?_)
  refine qg (fun K21 hK21=>?_)
  refine qi kz ?_
  simp[go_sem]
  refine hK21 _ _ ?_
  try clear hK21 K21
  refine qj (b:=false) gz (fun h=>by cases h) (fun _=>?_)
  refine ql ?_
  refine hK20 _ _ ?_
  try clear hK20 K20
  refine qo (fun K22 hK22=>?_)
  refine qi kz ?_
  simp[go_sem,e7,gQ4,ki,iv1,iL,k19]
  refine hK22 _ _ ?_
  refine hK16 _ _ ?_
  try clear hK16 K16
  refine qo (fun K23 hK23=>?_)
  refine qi kz ?_
  simp[go_sem,e40,wj]
  refine hK23 _ _ ?_
  exact ⟨19-(j+1),oz,j+1,p2+3,l.set k v,rfl,oz,by rw[hl,qik m hb9,hk,hv],hA4,hp3,oz,by simp[go_sem,e0],by simp[go_sem,e5],by simp[go_sem,e7],by simp[go_sem,e38],by simp[go_sem,e39],gz,by rw[Heap.get_set,if_pos rfl,gQ4]; rfl,by rw[Heap.get_set,if_neg oz]; exact gL4,by rw[Heap.get_set,if_neg oz]; exact gR4,(hS3.trans (hS4.mono fun z hz=>hz.2)).set (fun hz=>by have h9:Q<H.next/\_:=hz; omega) (fun y hy=>jb _ _ y hy)⟩
 ·skip
  simp only[decide_eq_false_iff_not] at hb9
  obtain rfl:j=19:=oz
  have hl2:l=m:=by rw[hl]; exact qle m mlen
  rw[hl2] at gQ
  have hA5:Ahead b p2 (al.flatMap (symBits m)):=hA3
  have cn:=qby gQ mlen dz dz (fun s=>mok.le s) mok.whole
  obtain ⟨T0,hT0⟩ : ∃ z,tabA m=z:=⟨_,rfl⟩
  rw[hT0] at cn
  refine qy ?_
  refine hK11 _ _ ?_
  try clear hK11 K11
  refine qw (fun env H4=>(env 0 = .ptr ib 0/\env 5 = .ptr L 0/\env 12=T0/\env 13 = .int 0)/\H4.get L=some [.int X,.int Y,.int 19]/\H4.get rb=some (rdC b p2)/\Step (fun z=>z<H.next/\z≠rb) H H4) ?_ ?_
  ·skip
   refine qo (fun K25 hK25=>?_)
   refine qp kz ?_
   refine qH 2 (fun K26 hK26=>?_)
   simp[go_sem,e7]
   refine ⟨_,(cn).p,?_⟩
   rintro _ _ hn0 ⟨rfl,rfl⟩
   refine hK26 _ _ ?_
   clear hK26 K26
   simp[go_sem,e7]
   refine hK25 _ _ ?_
   exact ⟨⟨by simp[go_sem,e0],by simp[go_sem,e5],gz,gz⟩,by rw[Heap.get_del,if_neg oz]; exact gL3,by rw[Heap.get_del,if_neg oz]; exact gR3,hS3.del (bo:=some Q) (fun z hz hq=>by cases hz; have h9:Q<H.next/\_:=hq; omega)⟩
  clear e0 e5 e7 e38 e39 e40
  rintro env H4 ⟨⟨e0,e5,e12,e13⟩,gL4,gR4,hS4⟩
  have gI4:=hS4.get gI ⟨hIl,fun e=>ne e.symm⟩
  have cr:=row_p ne gI4 gR4 hb hp2 mok al oz mpos hA5
  rw[hT0] at cr
  unfold iA at cr
  rw[tl] at cr
  push_cast at cr
  obtain ⟨PE,hPE⟩ : ∃ z,p2+(al.flatMap (symBits m)).length=z:=⟨_,rfl⟩
  rw[hPE] at cr
  refine qg (fun K27 hK27=>?_)
  refine qg (fun K28 hK28=>?_)
  refine qi kz ?_
  simp[go_sem,e13]
  refine hK28 _ _ ?_
  try clear hK28 K28
  refine qj (b:=false) gz (fun h=>by cases h) (fun _=>?_)
  refine ql ?_
  refine hK27 _ _ ?_
  try clear hK27 K27
  refine qg (fun K29 hK29=>?_)
  refine qp kz ?_
  refine qH 8 (fun K30 hK30=>?_)
  simp[go_sem,e0,e5,e12,gL4,wXY]
  refine ⟨_,cr,?_⟩
  rintro _ H5 hn5 ⟨rfl,gR5,hS5⟩
  have gL5:=hS5.get gL4 ⟨Heap.lt_of_get gL4,oz⟩
  have hSf:=hS4.trans (hS5.mono fun z (hz:z<H.next/\z≠rb)=>⟨Nat.lt_of_lt_of_le hz.1 hS4.le,hz.2⟩)
  refine hK30 _ _ ?_
  clear hK30 K30
  simp[go_sem,e0,e5,e12,gL4,wXY]
  refine hK29 _ _ ?_
  try clear hK29 K29
  refine qg (fun K31 hK31=>?_)
  refine qg (fun K32 hK32=>?_)
  refine qi kz ?_
  simp[go_sem]
  refine hK32 _ _ ?_
  try clear hK32 K32
  refine qj (b:=false) gz (fun h=>by cases h) (fun _=>?_)
  refine ql ?_
  refine hK31 _ _ ?_
  try clear hK31 K31
  refine qg (fun K33 hK33=>?_)
  refine qi kz ?_
  refine qI 5 (fun K34 hK34=>?_)
  simp[go_sem,e5,gL5,iX,kX,hTk,hLa]
  refine ⟨_,_,(cX _),?_⟩
  refine hK34 _ _ ?_
  clear hK34 K34
  simp[go_sem,e5,gL5,iX,kX,hTk,hLa]
  refine hK33 _ _ ?_
  try clear hK33 K33
  refine qg (fun K35 hK35=>?_)
  refine qg (fun K36 hK36=>?_)
  refine qi kz ?_
  simp[go_sem,d256,hV0,jX,hLa]
  refine hK36 _ _ ?_
  try clear hK36 K36
  refine qj (b:=false) (by simp[go_sem,hV0]) (fun h=>by cases h) (fun _=>?_)
  refine ql ?_
  refine hK35 _ _ ?_
  try clear hK35 K35
  refine qg (fun K37 hK37=>?_)
  refine qi kz ?_
  refine qI 5 (fun K38 hK38=>?_)
  simp[go_sem,e5,gL5,iX,kX,hDr,hLa,sX,hTy]
  refine ⟨_,_,(cY _),?_⟩
  refine hK38 _ _ ?_
  clear hK38 K38
  simp[go_sem,e5,gL5,iX,kX,hDr,hLa,sX,hTy]
  refine hK37 _ _ ?_
  try clear hK37 K37
  refine qg (fun K39 hK39=>?_)
  refine qg (fun K40 hK40=>?_)
  refine qi kz ?_
  simp[go_sem]
  refine hK40 _ _ ?_
  try clear hK40 K40
  refine qj (b:=false) gz (fun h=>by cases h) (fun _=>?_)
  refine ql ?_
  refine hK39 _ _ ?_
  try clear hK39 K39
  refine qg (fun K41 hK41=>?_)
  refine qi kz ?_
  simp[go_sem]
  refine hK41 _ _ ?_
  try clear hK41 K41
  refine qx ?_
  simp only[go_sem]
  refine hR _ _ ?_
  obtain ⟨hI9,hS9⟩:=InR.rd nI nR ne gI gX hSn gR5 hSf
  have hPE2:PE=p+(14+(57+(al.flatMap (symBits m)).length)):=oz
  rw[hPE2] at hI9
  exact hS9.retP (r:=.tup [T1,T2,.sc .nilIface]) gz ⟨rfl,hI9,hS9⟩ (.tup fun z hz=>by
   simp only[List.mem_cons,List.not_mem_nil,or_false] at hz
   rcases hz with rfl | rfl | rfl
   ·exact T1l _
   ·exact T2l _
   ·exact .sc _)
end Go.Proofs.YtfokgjhdndnnhaaGreatDoor
end W50S
set_option maxRecDepth 20000
noncomputable section W51S
namespace Go.Proofs.YtfokgjhdndnnhaaGreatDoor
open Go Go.Fl Go.Proofs
theorem qnu {S:Nat->Prop} {H:Heap} {ib p fr mo:Nat} {b all:List UInt8} (hI:InR S H ib b p all fr mo) (hb:b.length<=100000) (hp:p<=8*b.length) {f:Nat} (hf:f<2) (toks:List Tok) {x y:List Nat} (hxl:x.length=286) (hyl:y.length=30) (hx:LensOk x) (hy:LensOk y) (h256:0<x.getD 256 0) (hA:Ahead b p (natBits 1 f++(natBits 2 2++(toldBits x y++(toksBits x y toks++symBits x 256))))) (hto : ∀ t∈toks,TokOk x y t) (hok:okT toks all.length) (h4:fr<=all.length) (h5:(Go.Fl.runT toks all).length<=900000) (h6:(Go.Fl.runT toks all).length<=fr+mo) (h7:mo<=1000000):SCallsP Tryz.prog 27 [.ptr ib 0] H (fun r H'=>r = .tup [.bool (decide (f=1)),.bool false,.sc .nilIface]/\InR S H' ib b (p+1+2+(toldBits x y).length+(toksBits x y toks++symBits x 256).length) (Go.Fl.runT toks all) fr mo/\Step S H H'):=by
 have hA2:=hA.next
 have hrm:=hA.fst.room hp
 rw[qB] at hA2 hrm
 have hA3:=hA2.next
 have hrm2:=hA2.fst.room hrm
 rw[qB] at hA3 hrm2
 have hA4:=hA3.next
 have hrm3:=hA3.fst.room hrm2
 have c1:=yh hI hb (n:=1) hrm dz
 have hf2:f<2^1:=hf
 rw[hA.fst.bits hf2] at c1
 rw[<- qb5 x y,<- yg x 257] at hA4 |-
 obtain ⟨BL,hBL⟩ : ∃ z,(toksBits (trimL x 257) (trimL y 1) toks++symBits (trimL x 257) 256).length=z:=⟨_,rfl⟩
 rw[hBL]
 have h256t:0<(trimL x 257).getD 256 0:=by rw[jr]; exact h256
 obtain ⟨TL,hTL⟩ : ∃ z,(toldBits x y).length=z:=⟨_,rfl⟩
 rw[hTL] at hA4 hrm3 |-
 refine qA (sz:=61) (Tryz.call27) Tryz.func27 rfl kz (fun R hR=>?_)
 refine qg (fun K1 hK1=>?_)
 refine qi kz ?_
 simp[go_sem]
 refine hK1 _ _ ?_
 try clear hK1 K1
 refine qg (fun K2 hK2=>?_)
 refine qp kz ?_
 refine qH 2 (fun K3 hK3=>?_)
 simp[go_sem]
 refine ⟨_,c1,?_⟩
 rintro _ H1 hn1 ⟨rfl,hI1,hS1⟩
 have c2:=yh hI1 hb (n:=2) hrm2 dz
 rw[hA2.fst.bits dz] at c2
 refine hK3 _ _ ?_
 clear hK3 K3
 simp[go_sem]
 refine hK2 _ _ ?_
 try clear hK2 K2
 refine qg (fun K4 hK4=>?_)
 refine qg (fun K5 hK5=>?_)
 refine qi kz ?_
 simp[go_sem]
 refine hK5 _ _ ?_
 try clear hK5 K5
 refine qj (b:=false) gz (fun h=>by cases h) (fun _=>?_)
 refine ql ?_
 refine hK4 _ _ ?_
 try clear hK4 K4
 refine qg (fun K6 hK6=>?_)
 refine qp kz ?_
 refine qH 2 (fun K7 hK7=>?_)
 simp[go_sem]
 refine ⟨_,c2,?_⟩
 rintro _ H2 hn2 ⟨rfl,hI2,hS2⟩
 have c4:=codes_p hI2 hb hrm2 hxl hyl hx hy h256 hA3.fst
 rw[hTL] at c4
 refine hK7 _ _ ?_
 clear hK7 K7
 simp[go_sem]
 refine hK6 _ _ ?_
 try clear hK6 K6
 refine qg (fun K8 hK8=>?_)
 refine qg (fun K9 hK9=>?_)
 refine qi kz ?_
 simp[go_sem]
 refine hK9 _ _ ?_
 try clear hK9 K9
 refine qj (b:=false) gz (fun h=>by cases h) (fun _=>?_)
 refine ql ?_
 refine hK8 _ _ ?_
 try clear hK8 K8
 refine qg (fun K10 hK10=>?_)
 refine qi kz ?_
 simp[go_sem]
 refine hK10 _ _ ?_
 try clear hK10 K10
 refine qg (fun K11 hK11=>?_)
 refine qi kz ?_
 simp[go_sem]
 refine hK11 _ _ ?_
 try clear hK11 K11
 refine qg (fun K12 hK12=>?_)
 refine qg (fun K13 hK13=>?_)
 refine qi kz ?_
 simp[go_sem]
 refine hK13 _ _ ?_
 try clear hK13 K13
 refine qm ?_
 refine qg (fun K14 hK14=>?_)
 refine qm ?_
 refine qg (fun K15 hK15=>?_)
 refine qm ?_
 refine qg (fun K16 hK16=>?_)
 refine qm ?_
 refine qg (fun K17 hK17=>?_)
 refine qm ?_
 refine qg (fun K18 hK18=>?_)
 refine qg (fun K19 hK19=>?_)
 refine qg (fun K20 hK20=>?_)
 refine qi kz ?_
 simp[go_sem]
 refine hK20 _ _ ?_
 try clear hK20 K20
 refine qj (b:=false) gz (fun h=>by cases h) (fun _=>?_)
 refine ql ?_
 refine hK19 _ _ ?_
 try clear hK19 K19
 refine qg (fun K21 hK21=>?_)
 refine qg (fun K22 hK22=>?_)
 refine qi kz ?_
 simp[go_sem]
 refine hK22 _ _ ?_
 try clear hK22 K22
 refine qj (b:=true) gz (fun _=>?_) (fun h=>by cases h)
 refine qy ?_
 refine hK16 _ _ ?_
 try clear hK16 K16
 refine qg (fun K23 hK23=>?_)
 refine qp kz ?_
 refine qH 2 (fun K24 hK24=>?_)
 simp[go_sem]
 refine ⟨_,c4,?_⟩
 rintro _ H4 hn4 ⟨rfl,hI4,hS4⟩
 have c3:=qif hI4 hb hrm3 (yZ hx) (yZ hy) toks (fun t ht=>qfr (hto t ht)) hok h256t hA4 h4 h5 h6 h7
 rw[hBL] at c3
 refine hK24 _ _ ?_
 clear hK24 K24
 simp[go_sem]
 refine hK23 _ _ ?_
 try clear hK23 K23
 refine qg (fun K25 hK25=>?_)
 refine qi kz ?_
 simp[go_sem]
 refine hK25 _ _ ?_
 try clear hK25 K25
 refine qj (b:=false) gz (fun h=>by cases h) (fun _=>?_)
 refine ql ?_
 refine hK15 _ _ ?_
 try clear hK15 K15
 refine qg (fun K26 hK26=>?_)
 refine qg (fun K27 hK27=>?_)
 refine qg (fun K28 hK28=>?_)
 refine qi kz ?_
 simp[go_sem]
 refine hK28 _ _ ?_
 try clear hK28 K28
 refine qj (b:=false) gz (fun h=>by cases h) (fun _=>?_)
 refine ql ?_
 refine hK27 _ _ ?_
 try clear hK27 K27
 refine qp kz ?_
 refine qH 4 (fun K29 hK29=>?_)
 simp[go_sem]
 refine ⟨_,c3,?_⟩
 rintro _ H3 hn3 ⟨rfl,hI3,hS3⟩
 have hS:=((hS1.trans hS2).trans hS4).trans hS3
 refine hK29 _ _ ?_
 clear hK29 K29
 simp[go_sem]
 refine hK26 _ _ ?_
 try clear hK26 K26
 refine qy ?_
 refine hK12 _ _ ?_
 try clear hK12 K12
 refine qg (fun K30 hK30=>?_)
 refine qi kz ?_
 simp[go_sem]
 refine hK30 _ _ ?_
 try clear hK30 K30
 refine qx ?_
 simp only[go_sem]
 refine hR _ _ ?_
 refine hS.retP (r:=.tup [.bool (decide (f=1)),.bool false,.sc .nilIface]) (by simp[go_sem]; rw[Bool.eq_iff_iff]; simp; omega) ⟨rfl,hI3,hS⟩ gz
end Go.Proofs.YtfokgjhdndnnhaaGreatDoor
end W51S
noncomputable section Fl57S
namespace Go.Fl
open Go
def waitsB (ops:Array Oper) (j i:Nat):Bool:=match ops[j]? with
 | some o=>o.after.toList.any fun e=>Region.binds .any e&&decide (e.on=i)
 | none=>false
def cutB (ops:Array Oper) (n:Nat):Bool :=
 decide (n<ops.size) &&
 (List.range ops.size).all (fun j=>match ops[j]? with
  | some o=>o.after.toList.all (fun e => !Region.binds .any e||decide (e.on<j))&&(decide (n<=j)||o.guard.isNone)
  | none=>false) &&
 (List.range n).all (fun i=>(List.range (n+1)).any fun j=>decide (i<j)&&waitsB ops j i) &&
 (List.range (ops.size-(n+1))).all (fun k=>waitsB ops (n+1+k) (n+k))
structure CutOk (ops:Array Oper) (n:Nat):Prop where
 lt:n<ops.size
 back : ∀ (j:Nat) o,ops[j]? = some o -> ∀ e∈o.after,Region.binds .any e=true->e.on<j
 free : ∀ (j:Nat) o,ops[j]? = some o->j<n->o.guard=none
 all : ∀ i,i<n -> ∃ j,i<j/\j<=n/\waitsB ops j i=true
 rest : ∀ k,n+1+k<ops.size->waitsB ops (n+1+k) (n+k)=true
theorem cut_ok {ops:Array Oper} {n:Nat} (h:cutB ops n=true):CutOk ops n:=by
 unfold cutB at h
 simp only[Bool.and_eq_true,decide_eq_true_eq,List.all_eq_true,List.mem_range,List.any_eq_true] at h
 obtain ⟨⟨⟨h1,h2⟩,h3⟩,h4⟩:=h
 refine ⟨h1,?_,?_,?_,fun k hk=>h4 k oz⟩
 ·intro j o ho e he hb
  have hj:j<ops.size:=(Array.getElem?_eq_some_iff.1 ho).1
  have:=h2 j hj
  rw[ho] at this
  simp only[Bool.and_eq_true,List.all_eq_true] at this
  have:=this.1 e (Array.mem_toList_iff.2 he)
  simpa [hb] using this
 ·intro j o ho hjn
  have hj:j<ops.size:=(Array.getElem?_eq_some_iff.1 ho).1
  have:=h2 j hj
  rw[ho] at this
  simp only[Bool.and_eq_true,Bool.or_eq_true,decide_eq_true_eq] at this
  rcases this.2 with h5 | h5
  ·omega
  ·simpa using h5
 ·intro i hi
  obtain ⟨j,hj,hw⟩:=h3 i hi
  exact ⟨j,hw.1,oz,hw.2⟩
theorem qf7 {ops:Array Oper} {j i:Nat} (h:waitsB ops j i=true) : ∃ o,ops[j]? = some o /\ ∃ e∈o.after,Region.binds .any e=true/\e.on=i:=by
 unfold waitsB at h
 cases ho:ops[j]? with
 | none=>rw[ho] at h; cases h
 | some o =>
  rw[ho] at h
  simp only[List.any_eq_true,Bool.and_eq_true,decide_eq_true_eq] at h
  obtain ⟨e,he,hb,hi⟩:=h
  exact ⟨o,rfl,e,Array.mem_toList_iff.1 he,hb,hi⟩
def DownC (ops:Array Oper) (listed:Array Bool):Prop := ∀ (j:Nat) o,ops[j]? = some o->listed.getD j false=true -> ∀ e∈o.after,Region.binds .any e=true->listed.getD e.on false=true
theorem qdd (l:Array Bool) (i j:Nat) (v b:Bool) (h:i<l.size):(l.setIfInBounds i v).getD j b=if j=i then v else l.getD j b:=by
 simp only[Array.getD_eq_getD_getElem?,Array.getElem?_setIfInBounds]
 by_cases hj:i=j
 ·subst hj; simp[h]
 ·rw[if_neg hj,if_neg (fun e=>hj e.symm)]
theorem qaj {ops:Array Oper} {listed:Array Bool} {k:Nat} (h:k∈Region.ready .any ops listed):k<ops.size:=by
 obtain ⟨_,o,ho,_⟩:=zu.1 h
 exact (Array.getElem?_eq_some_iff.1 ho).1
theorem DownC.step {ops:Array Oper} {listed:Array Bool} (h:DownC ops listed) {k:Nat} (hs:listed.size=ops.size) (hk:k∈Region.ready .any ops listed):DownC ops (listed.setIfInBounds k true):=by
 have hks:=qaj hk
 obtain ⟨_,o2,ho2,h2⟩:=zu.1 hk
 intro j o ho hj e he hb
 refine qft ?_
 rw[qdd _ _ _ _ _ oz] at hj
 split at hj
 ·rename_i hjk
  subst hjk
  rw[ho] at ho2; cases ho2
  exact h2 e he hb
 ·exact h j o ho hj e he hb
section
variable {P:Program} {sz:Nat} {ops:Array Oper} {n:Nat}
theorem qnv (K:CutOk ops n) {listed:Array Bool} (hd:DownC ops listed) (hn:n∈Region.ready .any ops listed\/listed.getD n false=true) : ∀ d i,i<n->n<=i+d->listed.getD i false=true
 | 0,i,h1,h2=>by omega
 | d+1,i,h1,h2=>by
  obtain ⟨j,hij,hjn,hw⟩:=K.all i h1
  obtain ⟨o,ho,e,he,hb,rfl⟩:=qf7 hw
  rcases Nat.lt_or_ge j n with h3 | h3
  ·exact hd j o ho (qnv K hd hn d j h3 oz) e he hb
  ·obtain rfl:j=n:=oz
   rcases hn with hn | hn
   ·obtain ⟨_,o2,ho2,h4⟩:=zu.1 hn
    rw[ho] at ho2; cases ho2
    exact h4 e he hb
   ·exact hd _ o ho hn e he hb
theorem qkv (K:CutOk ops n) {listed:Array Bool} (hd:DownC ops listed) : ∀ k,n+k<ops.size->listed.getD (n+k) false=true->listed.getD n false=true
 | 0,_,h=>h
 | k+1,hk,h=>by
  obtain ⟨o,ho,e,he,hb,hon⟩:=qf7 (K.rest k oz)
  refine qkv K hd k oz ?_
  rw[<- hon]
  exact hd (n+1+k) o ho (by rw[show n+1+k=n+(k+1) by omega]; exact h) e he hb
theorem qnw (K:CutOk ops n) {listed:Array Bool} (hd:DownC ops listed) {k:Nat} (hk:k∈Region.ready .any ops listed) (hnk:n<=k) : ∀ i,i<n->listed.getD i false=true:=by
 have hks:=qaj hk
 intro i hi
 rcases Nat.lt_or_ge n k with h | h
 ·obtain ⟨t,rfl⟩ : ∃ t,k=n+1+t:=⟨k-(n+1),oz⟩
  obtain ⟨o,ho,e,he,hb,hon⟩:=qf7 (K.rest t hks)
  obtain ⟨_,o2,ho2,h4⟩:=zu.1 hk
  rw[ho] at ho2; cases ho2
  have h5:=h4 e he hb
  rw[hon] at h5
  exact qnv K hd (.inr (qkv K hd t oz h5)) n i hi oz
 ·obtain rfl:k=n:=oz
  exact qnv K hd (.inl hk) k i hi oz
theorem qkw (K:CutOk ops n) {listed:Array Bool} (hs:listed.size=ops.size) (h:Region.ready .any ops listed = []) : ∀ d k,k<d->k<ops.size->listed.getD k false=true
 | 0,k,h1,_=>by omega
 | d+1,k,h1,h2=>by
  cases hk:listed.getD k false with
  | true=>rfl
  | false =>
   exfalso
   have hm:k∈Region.ready .any ops listed:=by
    refine zu.2 ⟨?_,ops[k],by simp[h2],fun e he hb=>?_⟩
    ·simp only[Array.getD_eq_getD_getElem?] at hk |-
     rw[Array.getElem?_eq_getElem oz] at hk |-
     exact hk
    ·have:=K.back k ops[k] (by simp[h2]) e he hb
     exact qkw K hs h d e.on oz oz
   rw[h] at hm
   cases hm
def fullA (m n:Nat):Array Bool:=Array.replicate n true++Array.replicate (m-n) false
theorem qnx {i:Nat} (h:i<n) (hn:n<=ops.size):(ops.extract 0 n)[i]? = ops[i]?:=by
 rw[Array.getElem?_extract,if_pos oz,Nat.zero_add]
theorem qny (K:CutOk ops n) : ∀ {L:List Nat} {listed l2:Array Bool},listed.size=ops.size->l2.size=n->(∀ i b,i<n->l2.getD i b=listed.getD i b)->(∀ k,n<=k->k<ops.size->listed.getD k true=false)->DownC ops listed->Lin ops listed L ->
  ∃ L1 L2,L=L1++L2/\(∀ i∈L1,i<n)/\Lin (ops.extract 0 n) l2 L1/\Lin ops (fullA ops.size n) L2
 | _,listed,l2,hs,hs2,he,hf,hd,.nil h=>by
  have h1:=qkw K hs h (n+1) n oz K.lt
  have h2:=hf n (Nat.le_refl _) K.lt
  have hn:=K.lt
  simp only[Array.getD_eq_getD_getElem?] at h1 h2
  rw[Array.getElem?_eq_getElem oz] at h1 h2
  simp only[Option.getD_some] at h1 h2
  rw[h1] at h2; cases h2
 | _,listed,l2,hs,hs2,he,hf,hd,.cons (i:=i) (rest:=rest) hi hl=>by
  have his:=qaj hi
  rcases Nat.lt_or_ge i n with h | h
  ·obtain ⟨L1,L2,h1,h2,h3,h4⟩:=qny K (l2:=l2.setIfInBounds i true) (by simp[hs]) (by simp[hs2])
    (fun k b hk=>by rw[qdd _ _ _ _ _ oz,qdd _ _ _ _ _ oz,he k b hk]) (fun k hk hks=>by rw[qdd _ _ _ _ _ oz,if_neg oz]; exact hf k hk hks) (hd.step hs hi) hl
   refine ⟨i::L1,L2,by rw[h1]; rfl,fun k hk=>by rcases List.mem_cons.1 hk with rfl | hk; exact h; exact h2 k hk,.cons ?_ h3,h4⟩
   obtain ⟨k1,o,ho,k2⟩:=zu.1 hi
   refine zu.2 ⟨by rw[he i _ h]; exact k1,o,by rw[qnx h (by have:=K.lt; omega)]; exact ho,fun e hee hb=>?_⟩
   have:=K.back i o ho e hee hb
   rw[he _ _ oz]
   exact k2 e hee hb
  ·have ha:=qnw K hd hi h
   refine ⟨[],i::rest,rfl,by simp,.nil ?_,?_⟩
   ·cases hr:Region.ready .any (ops.extract 0 n) l2 with
    | nil=>rfl
    | cons k r =>
     exfalso
     have hm:k∈Region.ready .any (ops.extract 0 n) l2:=by rw[hr]; exact List.mem_cons_self
     have hk:k<n:=by have:=qaj hm; rw[Array.size_extract] at this; omega
     obtain ⟨k1,_⟩:=zu.1 hm
     have h9:=ha k hk
     rw[<- he k _ hk] at h9
     simp only[Array.getD_eq_getD_getElem?] at k1 h9
     rw[Array.getElem?_eq_getElem oz] at k1 h9
     simp only[Option.getD_some] at k1 h9
     rw[h9] at k1; cases k1
   ·have hfull:Array.replicate n true++Array.replicate (ops.size-n) false=listed:=by
     have hn:=K.lt
     refine Array.ext (by simp[hs]; omega) fun k h1 h2=>?_
     rw[Array.getElem_append]
     split
     ·rename_i h3
      simp only[Array.size_replicate] at h3
      rw[Array.getElem_replicate]
      have:=ha k h3
      simp only[Array.getD_eq_getD_getElem?] at this
      rw[Array.getElem?_eq_getElem h2] at this
      exact this.symm
     ·rename_i h3
      simp only[Array.size_replicate] at h3
      rw[Array.getElem_replicate]
      have:=hf k oz oz
      simp only[Array.getD_eq_getD_getElem?] at this
      rw[Array.getElem?_eq_getElem h2] at this
      exact this.symm
    show Lin ops (Array.replicate n true++Array.replicate (ops.size-n) false) _
    rw[hfull]
    exact .cons hi hl
theorem Oper.wp_both {o:Oper} {a:Act} {w:World} {K K' : Act->World->Prop} {Q Q' : Exit->Act->World->Prop} (h : ∀ a w,K a w->K' a w) (hq : ∀ e a w,e ≠ .normal->Q e a w->Q' e a w)
  (hh:o.wp P a w K Q):o.wp P a w K' Q':=by
 unfold Oper.wp at *
 generalize (execOp a.eval o).run P w=r at *
 cases r with
 | ok n w' =>
  cases n <;> simp only[Oper.upon] at hh |- <;>
   first
    | exact h _ _ hh
    | exact Calls.mono hh (fun e w'' he=>by cases e <;> first | exact h _ _ he | exact hq _ _ _ (by simp) he | exact he.imp fun a he=>he.imp fun w he=>hq _ _ _ (by simp) he)
    | exact Rows.mono hh (fun _ _ he=>h _ _ he)
 | halt x w'=>cases x <;> simp only[Oper.upon] at hh |- <;> exact hq _ _ _ (by simp) hh
theorem qnz (K:CutOk ops n) {Q Q' : Exit->Act->World->Prop} {L2:List Nat} (hn : ∀ a w,Q .normal a w->wpOps P ops Q' L2 a w) (hq : ∀ e a w,e ≠ .normal->Q e a w->Q' e a w) :
  ∀ (L1:List Nat) (a:Act) (w:World),(∀ i∈L1,i<n)->wpOps P (ops.extract 0 n) Q L1 a w->wpOps P ops Q' (L1++L2) a w
 | [],a,w,_,h=>hn a w h
 | i::L1,a,w,hi,h=>by
  have hin:=hi i List.mem_cons_self
  have hns:=K.lt
  rw[List.cons_append,wpOps_cons]
  rw[wpOps_cons] at h
  unfold wpOp at h |-
  rw[qnx hin oz] at h
  have ho:ops[i]? = some ops[i]:=by simp
  rw[ho] at h |-
  have hg:=K.free i _ ho hin
  have hw : ∀ y,Region.wanted ops[i] y=true:=fun y=>by unfold Region.wanted; rw[hg]
  simp only[hw,if_true] at h |-
  refine h.imp (fun h=>Oper.wp_both (fun a w hk=>qnz K hn hq L1 a w (fun k hk=>hi k (.tail _ hk)) hk) hq h) (fun h=>⟨h.1,h.2.imp fun a he=>he.imp fun w he=>hq _ _ _ (by simp) he⟩)
def CutQ (P:Program) (sz:Nat) (ops:Array Oper) (Q:Exit->Env->Heap->Prop) (n:Nat):Exit->Env->Heap->Prop:=fun e env H=>(e = .normal->SLinAt P sz ops Q (fullA ops.size n) env H)/\(e ≠ .normal->Q e env H)
theorem qf8 (n:Nat) (hc:cutB ops n=true) {Q:Exit->Env->Heap->Prop} {env:Env} {H:Heap} (h:SLin P sz (ops.extract 0 n) (CutQ P sz ops Q n) env H):SLin P sz ops Q env H:=by
 have K:=cut_ok hc
 have hns:=K.lt
 intro ρ I w a Q' hr he hQ L hL
 have hno : ∀ k,(Array.replicate ops.size false).getD k false=false:=by
  intro k
  simp only[Array.getD_eq_getD_getElem?,Array.getElem?_replicate]
  split <;> simp
 obtain ⟨L1,L2,rfl,h1,h2,h3⟩:=qny K (listed:=Array.replicate ops.size false) (l2:=Array.replicate (ops.extract 0 n).size false) (by simp) (by simp; omega)
  (fun i b hi=>by simp only[Array.getD_eq_getD_getElem?,Array.getElem?_replicate,Array.size_extract]; rw[if_pos oz,if_pos oz])
  (fun k hk hks=>by simp only[Array.getD_eq_getD_getElem?,Array.getElem?_replicate]; rw[if_pos hks]; rfl)
  (fun j o ho hj=>by rw[hno] at hj; cases hj) hL
 refine qnz K (Q:=fun e a w=>(e = .normal->wpOps P ops Q' L2 a w)/\(e ≠ .normal->Q' e a w)) (fun a w h=>h.1 rfl) (fun e a w hne h=>h.2 hne) L1 a w h1 (h ρ I w a _ hr he ?_ L1 h2)
 rintro e a' w' ⟨env',H',ρ',I',⟨hq1,hq2⟩,hr',he',hx⟩
 refine ⟨fun hn=>?_,fun hne=>hQ e a' w' ⟨env',H',ρ',I',hq2 hne,hr',he',hx⟩⟩
 exact hq1 hn ρ' I' w' a' Q' hr' he' (fun e a2 w2 hp=>hQ e a2 w2 (hp.ext hx (fun _ _ _ h=>h))) L2 h3
end
end Go.Fl
end Fl57S
