/- Contracts: told codes, by the document. -/
import Derived.Test.YtfokgjhdndnnhaaGreatDoorX9
import Derived.Test.YtfokgjhdndnnhaaGreatDoorW49
import Derived.Test.YtfokgjhdndnnhaaGreatDoorW26
set_option maxHeartbeats 4000000
set_option linter.unusedVariables false
set_option linter.unusedSimpArgs false
set_option maxRecDepth 20000
noncomputable section
namespace Go.Proofs.YtfokgjhdndnnhaaGreatDoor
open Go Go.Fl Go.Proofs
theorem DIn.rdx {S:Nat->Prop} {H H' : Heap} {xb rb q p p2 fr mo:Nat} {x:AV} {b all:List UInt8} (n1 : ¬ S xb) (n2 : ¬ S rb) (n3 : ¬ S q) (ne:rb≠xb) (nq:q≠xb) (gX:H.get xb=some [.ptr rb 0,x,.int fr,.int mo,.int 0]) (gB:DBits H rb q b p) (gG:GrN (fun z=>S z\/z=xb\/z=rb\/z=q) H x 1 all.length (bV all)) (hSn : ∀ z,S z->z<H.next) (g:DBits H' rb q b p2) (hs:Step (fun z=>z<H.next/\z≠rb) H H'):DIn S H' xb b p2 all fr mo/\Step S H H' :=
 ⟨⟨rb,q,x,n1,n2,n3,ne,nq,hs.get gX ⟨Heap.lt_of_get gX,fun e=>ne e.symm⟩,g,gG.keep (fun k cs hk=>hk) |> fun h=>by
  rcases h with h | ⟨k,h1,h2,h3,h4⟩
  ·exact .inl h
  ·exact .inr ⟨k,h1,h2,hs.get h3 ⟨Heap.lt_of_get h3,fun e=>h1 (.inr (.inr (.inl e)))⟩,h4⟩,fun z hz=>Nat.lt_of_lt_of_le (hSn z hz) hs.le⟩,hs.mono fun z hz=>⟨hSn z hz,fun e=>n2 (e ▸ hz)⟩⟩
theorem ddyn_p {S:Nat->Prop} {H:Heap} {xb p fr mo:Nat} {b all:List UInt8} (hI:DIn S H xb b p all fr mo) (hp:p<=8*b.length) {x y:List Nat} (hxl:x.length=286) (hyl:y.length=30) (hx:LensOk x) (hy:LensOk y) (h256:0<x.getD 256 0) (hA:Ahead b p (toldBits x y)):SCallsP Tryz.prog 64 [.ptr xb 0] H (fun r H'=>r = .tup [dtabA (trimL x 257),dtabA (trimL y 1)]/\DIn S H' xb b (p+(toldBits x y).length) all fr mo/\Step S H H'):=by
 obtain ⟨rb,q0,xa,nX,nR,nQ0,ne,nq0,gX,gBt,gG,hSn⟩:=hI
 have hIl:=Heap.lt_of_get gX
 have hRl:rb<H.next:=Heap.lt_of_get gBt.1
 have tX:=zW (l:=x) (n:=257) oz
 have tY:=zW (l:=y) (n:=1) oz
 obtain ⟨m,hm⟩ : ∃ z,metaL x y=z:=⟨_,rfl⟩
 have mg:=zC (most:=7) (counts:=cntL (allL x y)) dz dz (npos19 _)
 have mok:=qbu (most:=7) (counts:=cntL (allL x y)) dz dz (npos19 _) (by rw[zN]; decide)
 have ale:=qjm hx.le hy.le
 have mpos : ∀ s∈allL x y,s<=15/\0<(lensOf 7 (cntL (allL x y))).getD s 0:=fun s hs=>⟨ale s hs,jO (most:=7) dz dz (npos19 _) (qgi (fun v hv=>by have:=ale v hv; omega) s hs)⟩
 rw[show lensOf 7 (cntL (allL x y))=m from hm] at mg mok mpos
 have mlen:m.length=19:=by rw[mg.len,zN]
 have mle:=mg.le
 clear mg ale
 have hxo:=yZ (n:=257) hx
 have hyo:=yZ (n:=1) hy
 have a256:(allL x y).getD 256 0=x.getD 256 0:=by
  rw[<- jr x 257 256]
  unfold allL
  rw[List.getD_eq_getElem?_getD,List.getElem?_append_left oz,<- List.getD_eq_getElem?_getD]
 obtain ⟨V,hV⟩ : ∃ z,x.getD 256 0=z:=⟨_,rfl⟩
 rw[hV] at a256 h256
 have tk:(allL x y).take (trimL x 257).length=trimL x 257:=by unfold allL; exact List.take_left
 have td:(allL x y).drop (trimL x 257).length=trimL y 1:=by unfold allL; exact List.drop_left
 have tl:(allL x y).length=(trimL x 257).length+(trimL y 1).length:=by unfold allL; rw[List.length_append]
 have ht:toldBits x y=(natBits 5 ((trimL x 257).length-257)++(natBits 5 ((trimL y 1).length-1)++natBits 4 15))++((ordL.flatMap fun k=>natBits 3 (m.getD k 0))++(allL x y).flatMap (symBits m)):=by
  unfold toldBits
  rw[hm]
  simp only[List.append_assoc]
 rw[ht] at hA
 have hT:(toldBits x y).length=14+(57+((allL x y).flatMap (symBits m)).length):=by
  rw[ht,List.length_append,List.length_append,List.length_append,List.length_append,qB,qB,qB]
  rfl
 rw[hT]
 clear ht hT
 obtain ⟨tx,htx⟩ : ∃ z,trimL x 257=z:=⟨_,rfl⟩
 obtain ⟨ty,hty⟩ : ∃ z,trimL y 1=z:=⟨_,rfl⟩
 obtain ⟨al,hal⟩ : ∃ z,allL x y=z:=⟨_,rfl⟩
 rw[htx] at tX tk td tl hA hxo |-
 rw[hty] at tY td tl hA hyo |-
 rw[hal] at tk td tl hA mpos a256 |-
 obtain ⟨X,hX⟩ : ∃ z,tx.length=z:=⟨_,rfl⟩
 obtain ⟨Y,hY⟩ : ∃ z,ty.length=z:=⟨_,rfl⟩
 rw[hX] at tX tk td tl hA
 rw[hY] at tY tl hA
 have hlh:(natBits 5 (X-257)++(natBits 5 (Y-1)++natBits 4 15)).length=14:=by rw[List.length_append,List.length_append,qB,qB,qB]
 have hAh:=hA.fst
 have hrh:=hA.fst.room hp
 have hA2:=hA.next
 rw[hlh] at hrh hA2
 have b0:=hAh.fst.bits (by show X-257<32; omega)
 have a1:=hAh.next
 rw[qB] at a1
 have b1:=a1.fst.bits (by show Y-1<32; omega)
 have a2:=a1.next
 rw[qB] at a2
 have b2:=a2.bits dz
 clear hA hAh a1 a2 hlh
 obtain ⟨X2,hX2⟩ : ∃ z,X-257=z:=⟨_,rfl⟩
 obtain ⟨Y2,hY2⟩ : ∃ z,Y-1=z:=⟨_,rfl⟩
 rw[hX2] at b0
 rw[hY2] at b1
 have w0:IntKind.i64.wrap ((X2:Int)+257)=(X:Int):=by rw[i64in _ oz oz]; omega
 have w1:IntKind.i64.wrap ((Y2:Int)+1)=(Y:Int):=by rw[i64in _ oz oz]; omega
 have k19:IntKind.i64.wrap 19=19:=rfl
 obtain ⟨T1,hT1⟩ : ∃ z,dtabA tx=z:=⟨_,rfl⟩
 obtain ⟨T2,hT2⟩ : ∃ z,dtabA ty=z:=⟨_,rfl⟩
 have T1l : ∀ n,T1.Lt n:=fun n=>by rw[<- hT1,yO]; trivial
 have T2l : ∀ n,T2.Lt n:=fun n=>by rw[<- hT2,yO]; trivial
 have cX:=fun H=>NewTab_H tx hxo oz H
 have cY:=fun H=>NewTab_H ty hyo oz H
 rw[hT1] at cX |-
 rw[hT2] at cY |-
 unfold iA at cX cY
 rw[hX] at cX
 rw[hY] at cY
 have hTk:(iV al).take X=iV tx:=by rw[qfy,tk]
 have hDr:(iV al).drop X=iV ty:=by rw[qm0,td]
 have hTy:(iV ty).take Y=iV ty:=List.take_of_length_le (by rw[qK]; omega)
 have hLa:(iV al).length=X+Y:=by rw[qK,tl]
 obtain ⟨r256,d256⟩:=qX (l:=al) (i:=256) oz
 rw[a256] at d256
 have hV0:((V:Int)==0)=false:=by simp; omega
 have nX9 : ¬ ((286:Int)<X):=oz
 have nY9 : ¬ ((30:Int)<Y):=oz
 have wXY:IntKind.i64.wrap ((X:Int)+(Y:Int))=(X:Int)+(Y:Int):=i64in _ oz oz
 have iX:(0:Int)<=(X:Int):=oz
 have jX:(256:Int)<(X:Int)+(Y:Int):=oz
 have kX:X<=X+Y:=oz
 have sX:X+Y-X=Y:=oz
 obtain ⟨cc,hcc⟩ : ∃ z,iV ordL=z:=⟨_,rfl⟩
 have hcL:cc.length=19:=by rw[<- hcc]; rfl
 have hcT:cc.take 19=cc:=List.take_of_length_le oz
 have cAt : ∀ j,j<19 -> ∃ r,cc.drop j = .int (ordL.getD j 0:Nat)::r:=fun j hj=>by rw[<- hcc]; exact qo5 hj
 have hQl:q0<H.next:=Heap.lt_of_get gBt.2.1
 refine qA (sz:=192) (Tryz.call64) Tryz.func64 rfl kz (fun R hR=>?_)
 refine qg (fun K1 hK1=>?_)
 refine qi kz ?_
 simp[go_sem]
 refine hK1 _ _ ?_
 try clear hK1 K1
 refine qg (fun K2 hK2=>?_)
 refine qp kz ?_
 refine qH 2 (fun K3 hK3=>?_)
 simp[go_sem,w0]
 refine ⟨_,(qj8 ne gX gBt (n:=5) oz dz),?_⟩
 rintro _ H1 hn1 ⟨rfl,gB1,hS1⟩
 rw[b0]
 have gX1:=hS1.get gX (fun e=>ne e.symm)
 refine hK3 _ _ ?_
 clear hK3 K3
 simp[go_sem,w0]
 refine hK2 _ _ ?_
 try clear hK2 K2
 refine qg (fun K4 hK4=>?_)
 refine qp kz ?_
 refine qH 2 (fun K5 hK5=>?_)
 simp[go_sem,w1]
 refine ⟨_,(qj8 ne gX1 gB1 (n:=5) oz dz),?_⟩
 rintro _ H2 hn2 ⟨rfl,gB2,hS2⟩
 rw[b1]
 have gX2:=hS2.get gX1 (fun e=>ne e.symm)
 refine hK5 _ _ ?_
 clear hK5 K5
 simp[go_sem,w1]
 refine hK4 _ _ ?_
 try clear hK4 K4
 refine qg (fun K6 hK6=>?_)
 refine qp kz ?_
 refine qH 2 (fun K7 hK7=>?_)
 simp[go_sem,k19]
 refine ⟨_,(qj8 ne gX2 gB2 (n:=4) oz dz),?_⟩
 rintro _ H3 hn3 ⟨rfl,gB3,hS3⟩
 rw[b2]
 have gX3:=hS3.get gX2 (fun e=>ne e.symm)
 have hS03:Step (fun z=>z<H.next/\z≠rb) H H3:=((hS1.trans hS2).trans hS3).mono fun z hz=>hz.2
 refine hK7 _ _ ?_
 clear hK7 K7
 simp[go_sem,k19]
 refine hK6 _ _ ?_
 try clear hK6 K6
 refine qg (fun K8 hK8=>?_)
 refine qg (fun K9 hK9=>?_)
 refine qi kz ?_
 simp[go_sem,gX3,nX9,nY9]
 refine hK9 _ _ ?_
 try clear hK9 K9
 refine qj (b:=false) (by simp[go_sem,nX9,nY9]) (fun h=>by cases h) (fun _=>?_)
 refine ql ?_
 refine hK8 _ _ ?_
 try clear hK8 K8
 refine qg (fun K10 hK10=>?_)
 refine qo (fun K99 hK99=>?_)
 refine qM kz ?_
 refine jE (.vs 19 1 (iV ordL)) (((H3.alloc (iV ordL)).del H3.next)) rfl (jM kz rfl) ?_
 refine zJ ?_
 simp[go_sem]
 refine hK99 _ _ ?_
 refine hK10 _ _ ?_
 try clear hK10 K10
 refine qw (fun env H5 => ∃ Q,(env 0 = .ptr xb 0/\env 4 = .int X/\env 5 = .int Y/\env 6 = .int 19/\env 7 = .vs 19 1 cc/\env 8 = .ms Q 0 19 1)/\H5.get Q=some (iV (List.replicate 19 0))/\(H.next<=Q/\Q≠q0)/\DBits H5 rb q0 b (p+14)/\Step (fun z=>z<H.next/\z≠rb) H H5) ?_ ?_
 ·skip
  refine qo (fun K12 hK12=>?_)
  refine qi kz ?_
  simp[go_sem,qR]
  refine hK12 _ _ ?_
  have h34:Step (fun z=>z<H3.next) H3 ((H3.alloc (iV ordL)).del H3.next):=zH ((Step.refl _ _).alloc (fun y hy=>jb ordL _ y hy)) (Nat.lt_irrefl _)
  have hne:H3.next+1=((H3.alloc (iV ordL)).del H3.next).next:=by rw[Heap.next_del,Heap.next_alloc]
  generalize (H3.alloc (iV ordL)).del H3.next=H4 at *
  have h45:Step (fun z=>z<H4.next) H4 (H4.alloc (iV (List.replicate 19 0))):=(Step.refl _ _).alloc (fun y hy=>jb (List.replicate 19 0) _ y hy)
  have hl3:=hS03.le
  refine ⟨H4.next,⟨gz,gz,gz,gz,by rw[<- hcc]; simp[go_sem],by simp[go_sem]; exact hne⟩,by rw[Heap.get_alloc,if_pos rfl]; rfl,⟨oz,oz⟩,⟨h45.get (h34.get gB3.1 (by show _<_; omega)) (by show _<_; omega),h45.get (h34.get gB3.2.1 (by show _<_; omega)) (by show _<_; omega),gB3.2.2⟩,?_⟩
  exact (hS03.trans (h34.mono fun z hz=>Nat.lt_of_lt_of_le hz.1 hl3)).trans (h45.mono fun z hz=>by have h9:z<H.next:=hz.1; show _<_; omega)
 rintro env H5 ⟨Q,⟨e0,e4,e5,e6,e7,e8⟩,gQ,⟨hQn,hQq⟩,gB5,hS5⟩
 clear gX1 gX2 gX3 gB1 gB2 gB3 hS1 hS2 hS3 hS03 b0 b1 b2
 refine qg (fun K13 hK13=>?_)
 refine qg (fun K14 hK14=>?_)
 refine qi kz ?_
 simp[go_sem]
 refine hK14 _ _ ?_
 try clear hK14 K14
 refine qm ?_
 refine qC (Inv:=fun m0 env H5 => ∃ (j p2:Nat) (l:List Nat),m0=19-j/\j<=19/\l=lenG m j/\Ahead b p2 (((ordL.drop j).flatMap fun k=>natBits 3 (m.getD k 0))++al.flatMap (symBits m))/\p2<=8*b.length/\p2=p+14+3*j/\env 0 = .ptr xb 0/\env 4 = .int X/\env 5 = .int Y/\env 6 = .int 19/\env 7 = .vs 19 1 cc/\env 8 = .ms Q 0 19 1/\env 9 = .int j/\H5.get Q=some (iV l)/\DBits H5 rb q0 b p2/\Step (fun z=>z<H.next/\z≠rb) H H5) ?_ (n:=19) (⟨0,p+14,_,rfl,oz,rfl,hA2,hrh,rfl,by simp[go_sem,e0],by simp[go_sem,e4],by simp[go_sem,e5],by simp[go_sem,e6],by simp[go_sem,e7],by simp[go_sem,e8],gz,gQ,gB5,hS5⟩)
 clear e0 e4 e5 e6 e7 e8 gQ gB5 hS5
 rintro m0 env H5 ⟨j,p2,l,rfl,hj,hl,hA3,hp2,hpq,e0,e4,e5,e6,e7,e8,e9,gQ,gB5,hS5⟩
 have gX5:=hS5.get gX ⟨hIl,fun e=>ne e.symm⟩
 refine qg (fun K15 hK15=>?_)
 refine qg (fun K16 hK16=>?_)
 refine qi kz ?_
 simp[go_sem,e6,e9]
 refine hK16 _ _ ?_
 try clear hK16 K16
 refine qj (b:=decide ((j:Int)<19)) gz (fun hb9=>?_) (fun hb9=>?_)
 ·skip
  simp only[decide_eq_true_eq] at hb9
  have hb9:j<19:=oz
  obtain ⟨rr,dk⟩:=cAt j hb9
  have hkl:=ord_lt j
  have hA3b:=hA3
  rw[qlc hb9,List.flatMap_cons,List.append_assoc] at hA3b
  obtain ⟨k,hk⟩ : ∃ z,ordL.getD j 0=z:=⟨_,rfl⟩
  rw[hk] at dk hkl hA3b
  have hv8:m.getD k 0<2^3:=by have:=mle k; omega
  obtain ⟨v,hv⟩ : ∃ z,m.getD k 0=z:=⟨_,rfl⟩
  rw[hv] at hA3b hv8
  have hvb:=hA3b.fst.bits hv8
  have hp3:=hA3b.fst.room hp2
  have hA4:=hA3b.next
  rw[qB] at hp3 hA4
  clear hA3b
  have cbs:=qpj ne gX5 gB5 (n:=3) hp3 dz
  rw[hvb] at cbs
  obtain ⟨gB6,hS6⟩:=dset gB5 3
  have hQr:Q≠rb:=oz
  have hQr2 : ¬ rb=Q:=oz
  have gQ6:=hS6.get gQ hQr
  obtain ⟨H6,hH6⟩ : ∃ z,H5.set rb [.ms q0 0 (8*b.length) 1,.int ((p2:Int)+(3:Nat)),.bool false]=z:=⟨_,rfl⟩
  rw[hH6] at cbs gB6 hS6 gQ6
  have hll:l.length=19:=by rw[hl]; exact qgp m j
  have iv1:=zA l k oz v
  have iL:(iV l).length=19:=by rw[qK,hll]
  have ki:(k:Int)<19:=oz
  have ji:(j:Int)<19:=oz
  have wj:IntKind.i64.wrap ((j:Int)+1)=((j+1:Nat):Int):=qF j oz
  have k19b:k+1<=19:=oz
  have j19:j+1<=19:=oz
  refine ql ?_
  refine hK15 _ _ ?_
  try clear hK15 K15
  refine qg (fun K17 hK17=>?_)
  refine qm ?_
  refine qo (fun K18 hK18=>?_)
  refine qZ mixed kz (bf:=[0,0,0,6,14,0,32,127,255]) kz ?_
  refine jD 7 dz (fun K19 hK19=>?_)
  simp[go_sem,e0,e7,e8,e9,dk,ji,hcL,j19,gQ6,ki,iv1,iL,k19b,befL]
  refine ⟨_,_,cbs,?_⟩
  refine hK19 _ _ _ _ ?_
  clear hK19 K19
  simp[go_sem,e0,e7,e8,e9,dk,ji,hcL,j19,gQ6,ki,iv1,iL,k19b,befL]
  refine hK18 _ _ ?_
  refine hK17 _ _ ?_
  try clear hK17 K17
  refine qo (fun K20 hK20=>?_)
  refine qi kz ?_
  simp[go_sem,e9,wj]
  refine hK20 _ _ ?_
  exact ⟨19-(j+1),oz,j+1,p2+3,l.set k v,rfl,oz,by rw[hl,qik m hb9,hk,hv],hA4,hp3,oz,by simp[go_sem,e0],by simp[go_sem,e4],by simp[go_sem,e5],by simp[go_sem,e6],by simp[go_sem,e7],by simp[go_sem,e8],gz,by rw[Heap.get_set,if_pos rfl,gQ6]; rfl,⟨by rw[Heap.get_set,if_neg hQr2]; exact gB6.1,by rw[Heap.get_set,if_neg (fun e=>hQq e.symm)]; exact gB6.2.1,gB6.2.2⟩,(hS5.trans (hS6.mono fun z hz=>hz.2)).set (fun hz=>by have h9:Q<H.next:=hz.1; omega) (fun y hy=>jb _ _ y hy)⟩
 ·skip
  simp only[decide_eq_false_iff_not] at hb9
  obtain rfl:j=19:=oz
  have hl2:l=m:=by rw[hl]; exact qle m mlen
  rw[hl2] at gQ
  have hA5:Ahead b p2 (al.flatMap (symBits m)):=hA3
  have cn:=qj9 gQ mlen mok dz
  obtain ⟨T0,hT0⟩ : ∃ z,dtabA m=z:=⟨_,rfl⟩
  rw[hT0] at cn
  refine qy ?_
  refine hK13 _ _ ?_
  try clear hK13 K13
  refine qg (fun K21 hK21=>?_)
  refine qg (fun K22 hK22=>?_)
  refine qi kz ?_
  simp[go_sem,e0,gX5]
  refine hK22 _ _ ?_
  try clear hK22 K22
  refine qj (b:=false) gz (fun h=>by cases h) (fun _=>?_)
  refine ql ?_
  refine hK21 _ _ ?_
  try clear hK21 K21
  refine qw (fun env H4=>(env 0 = .ptr xb 0/\env 4 = .int X/\env 5 = .int Y/\env 10=T0/\env 11 = .int 0)/\DBits H4 rb q0 b p2/\Step (fun z=>z<H.next/\z≠rb) H H4) ?_ ?_
  ·skip
   refine qo (fun K24 hK24=>?_)
   refine qi kz ?_
   refine qI 2 (fun K25 hK25=>?_)
   simp[go_sem,e8]
   refine ⟨_,_,cn,?_⟩
   refine hK25 _ _ ?_
   clear hK25 K25
   simp[go_sem,e8]
   refine hK24 _ _ ?_
   exact ⟨⟨by simp[go_sem,e0],by simp[go_sem,e4],by simp[go_sem,e5],gz,gz⟩,⟨by rw[Heap.get_del,if_neg oz]; exact gB5.1,by rw[Heap.get_del,if_neg (fun e=>hQq e.symm)]; exact gB5.2.1,gB5.2.2⟩,hS5.del (bo:=some Q) (fun z hz hq=>by cases hz; have h9:Q<H.next:=hq.1; omega)⟩
  clear e0 e4 e5 e6 e7 e8 e9
  rintro env H4 ⟨⟨e0,e4,e5,e10,e11⟩,gB4,hS4⟩
  obtain ⟨PE,hPE⟩ : ∃ z,p2+(al.flatMap (symBits m)).length=z:=⟨_,rfl⟩
  refine qg (fun K26 hK26=>?_)
  refine qg (fun K27 hK27=>?_)
  refine qi kz ?_
  simp[go_sem,e11]
  refine hK27 _ _ ?_
  try clear hK27 K27
  refine qj (b:=false) gz (fun h=>by cases h) (fun _=>?_)
  refine ql ?_
  refine hK26 _ _ ?_
  try clear hK26 K26
  refine qg (fun K28 hK28=>?_)
  refine qi kz ?_
  simp[go_sem]
  refine hK28 _ _ ?_
  try clear hK28 K28
  refine qg (fun K29 hK29=>?_)
  refine qm ?_
  refine qC (Inv:=fun m1 env H5 => ∃ (ds r:List Nat) (p3:Nat) (x2:AV),m1=r.length/\ds++r=al/\(∀ s∈r,s<=15/\0<m.getD s 0)/\Ahead b p3 (r.flatMap (symBits m))/\p3<=8*b.length/\p3+(r.flatMap (symBits m)).length=PE/\env 0 = .ptr xb 0/\env 4 = .int X/\env 5 = .int Y/\env 10=T0/\env 12=x2/\GrN (fun z=>z<H.next) H5 x2 1 ds.length (iV ds)/\DBits H5 rb q0 b p3/\Step (fun z=>z<H.next/\z≠rb) H H5) ?_ (n:=al.length) (⟨[],al,p2,.nil,rfl,rfl,mpos,hA5,hp2,hPE,by simp[go_sem,e0],by simp[go_sem,e4],by simp[go_sem,e5],by simp[go_sem,e10],gz,GrN.nil _ _ _,gB4,hS4⟩)
  clear e0 e4 e5 e10 e11
  rintro m1 env H5 ⟨ds,r,p3,x2,rfl,hds,hr,hA5,hp3,hpe,e0,e4,e5,e10,e12,hG,gB5,hS5⟩
  have hlen:=congrArg List.length hds
  rw[List.length_append,tl] at hlen
  obtain ⟨k,hk0⟩ : ∃ z,ds.length=z:=⟨_,rfl⟩
  rw[hk0] at hlen hG
  have hkl:alen Tryz.prog 84 x2=some (.int k):=by
   rcases hG with ⟨rfl,rfl,_⟩ | ⟨q,_,rfl,_,_⟩ <;> simp[go_sem]
  have gX5:=hS5.get gX ⟨hIl,fun e=>ne e.symm⟩
  refine qg (fun K30 hK30=>?_)
  refine qg (fun K31 hK31=>?_)
  obtain rfl | ⟨s,r,rfl⟩:r = [] \/ ∃ s r2,r=s::r2:=by cases r <;> simp
  ·skip
   simp only[List.length_nil] at hlen
   have klt : ¬ ((k:Int)<(X:Int)+(Y:Int)):=oz
   refine qi kz ?_
   simp[go_sem,e0,e4,e5,e12,hkl,wXY,klt,gX5]
   refine hK31 _ _ ?_
   try clear hK31 K31
   refine qj (b:=false) (by simp[go_sem,klt]) (fun h=>by cases h) (fun _=>?_)
   refine qy ?_
   refine hK29 _ _ ?_
   try clear hK29 K29
   refine qg (fun K32 hK32=>?_)
   refine qg (fun K33 hK33=>?_)
   have hkXY:k=X+Y:=oz
   rw[List.append_nil] at hds
   rw[hds,hkXY] at hG
   obtain ⟨bo,hgr,hbo,_⟩:=hG.grown
   refine zG 12 e12 hgr ?_
   have hSd:Step (fun z=>z<H.next/\z≠rb) H (H5.delo bo):=hS5.del (fun z hz e=>hbo z hz e.1)
   have hSd5:Step (fun z=>z<H.next) H5 (H5.delo bo):=(Step.refl _ _).del (fun z hz e=>hbo z hz e)
   have gX5:=hSd5.get gX5 hIl
   have gB5:DBits (H5.delo bo) rb q0 b p3:=⟨hSd5.get gB5.1 hRl,hSd5.get gB5.2.1 hQl,gB5.2.2⟩
   generalize H5.delo bo=H9 at *
   refine qi kz ?_
   simp[go_sem,e0,gX5]
   refine hK33 _ _ ?_
   try clear hK33 K33
   refine qj (b:=false) gz (fun h=>by cases h) (fun _=>?_)
   refine ql ?_
   refine hK32 _ _ ?_
   try clear hK32 K32
   refine qg (fun K34 hK34=>?_)
   refine qi kz ?_
   refine qI 4 (fun K35 hK35=>?_)
   simp[go_sem,e4,iX,kX,hTk,hLa]
   refine ⟨_,_,(cX _),?_⟩
   refine hK35 _ _ ?_
   clear hK35 K35
   simp[go_sem,e4,iX,kX,hTk,hLa]
   refine hK34 _ _ ?_
   try clear hK34 K34
   refine qg (fun K36 hK36=>?_)
   refine qi kz ?_
   refine qI 4 (fun K37 hK37=>?_)
   simp[go_sem,e4,iX,kX,hDr,hLa,sX,hTy]
   refine ⟨_,_,(cY _),?_⟩
   refine hK37 _ _ ?_
   clear hK37 K37
   simp[go_sem,e4,iX,kX,hDr,hLa,sX,hTy]
   refine hK36 _ _ ?_
   try clear hK36 K36
   refine qg (fun K38 hK38=>?_)
   refine qg (fun K39 hK39=>?_)
   refine qi kz ?_
   simp[go_sem,d256,hV0,jX,hLa]
   refine hK39 _ _ ?_
   try clear hK39 K39
   refine qj (b:=false) (by simp[go_sem,hV0]) (fun h=>by cases h) (fun _=>?_)
   refine ql ?_
   refine hK38 _ _ ?_
   try clear hK38 K38
   refine qg (fun K40 hK40=>?_)
   refine qi kz ?_
   simp[go_sem]
   refine hK40 _ _ ?_
   try clear hK40 K40
   refine qx ?_
   simp only[go_sem]
   refine hR _ _ ?_
   have hpe4:p3=PE:=hpe
   rw[hpe4] at gB5
   have hPE2:PE=p+(14+(57+(al.flatMap (symBits m)).length)):=oz
   rw[hPE2] at gB5
   obtain ⟨hI9,hS9⟩:=DIn.rdx nX nR nQ0 ne nq0 gX gBt gG hSn gB5 hSd
   exact hS9.retP (r:=.tup [T1,T2]) gz ⟨rfl,hI9,hS9⟩ (.tup fun z hz=>by
    simp only[List.mem_cons,List.not_mem_nil,or_false] at hz
    rcases hz with rfl | rfl
    ·exact T1l _
    ·exact T2l _)
  ·skip
   obtain ⟨hs15,hs0⟩:=hr s (.head _)
   have hA2b:Ahead b p3 (symBits m s++r.flatMap (symBits m)):=hA5
   have hA3:=hA2b.next
   have hp4:=hA2b.fst.room hp3
   have hpe3:p3+(symBits m s++r.flatMap (symBits m)).length=PE:=hpe
   rw[List.length_append,<- Nat.add_assoc] at hpe3
   rw[qN] at hA3 hp4 hpe3
   clear hpe
   have ct:=dsym_x ne gX5 gB5 hp3 mok oz hs0 hA2b.fst
   rw[hT0] at ct
   obtain ⟨p4,hp4q⟩ : ∃ z,p3+m.getD s 0=z:=⟨_,rfl⟩
   rw[hp4q] at ct hA3 hp4 hpe3
   have hpe:=hpe3
   simp only[List.length_cons] at hlen
   have klt:(k:Int)<(X:Int)+(Y:Int):=oz
   have c15:(s:Int)<=15:=oz
   have c1 : ¬ ((X:Int)+(Y:Int)<(k:Int)+1):=oz
   have wk1:=qF k oz
   push_cast at wk1
   have hdl:(ds ++ [s]).length=k+1:=by rw[List.length_append,hk0]; rfl
   have kk1:IntKind.i64.wrap 1=1:=rfl
   refine qi kz ?_
   simp[go_sem,e0,e4,e5,e12,hkl,wXY,klt,gX5]
   refine hK31 _ _ ?_
   try clear hK31 K31
   refine qj (b:=true) (by simp[go_sem,klt]) (fun _=>?_) (fun h=>by cases h)
   refine ql ?_
   refine hK30 _ _ ?_
   try clear hK30 K30
   refine qm ?_
   refine qg (fun K41 hK41=>?_)
   refine qp kz ?_
   refine qH 3 (fun K42 hK42=>?_)
   simp[go_sem,e0,e10]
   refine ⟨_,ct,?_⟩
   rintro _ H6 hn6 ⟨rfl,gB6,hS6⟩
   have hSf:=hS5.trans (hS6.mono fun z (hz:z<H.next/\z≠rb)=>hz.2)
   have gX6:=hSf.get gX ⟨hIl,fun e=>ne e.symm⟩
   have hG6:GrN (fun z=>z<H.next) H6 x2 1 k (iV ds):=by
    rcases hG with h | ⟨q,h1,h2,h3,h4⟩
    ·exact .inl h
    ·exact .inr ⟨q,h1,h2,hS6.get h3 (fun e=>h1 (by rw[e]; exact hRl)),h4⟩
   obtain ⟨H7,hap,hG7,hS67⟩:=jW (c:=s) hG6 (fun z hz=>Nat.lt_of_lt_of_le hz hSf.le) oz
   have hS7:=hSf.trans (hS67.mono fun z (hz:z<H.next/\z≠rb)=>hz.1)
   have gB7:DBits H7 rb q0 b p4:=⟨hS67.get gB6.1 hRl,hS67.get gB6.2.1 hQl,gB6.2.2⟩
   have gX7:=hS7.get gX ⟨hIl,fun e=>ne e.symm⟩
   refine hK42 _ _ ?_
   clear hK42 K42
   simp[go_sem,e0,e10]
   refine hK41 _ _ ?_
   try clear hK41 K41
   refine qg (fun K43 hK43=>?_)
   refine qg (fun K44 hK44=>?_)
   refine qi kz ?_
   simp[go_sem,e0,gX6]
   refine hK44 _ _ ?_
   try clear hK44 K44
   refine qj (b:=false) gz (fun h=>by cases h) (fun _=>?_)
   refine ql ?_
   refine hK43 _ _ ?_
   try clear hK43 K43
   refine qg (fun K45 hK45=>?_)
   refine qi kz ?_
   simp[go_sem]
   refine hK45 _ _ ?_
   try clear hK45 K45
   refine qg (fun K46 hK46=>?_)
   refine qm ?_
   refine qg (fun K47 hK47=>?_)
   refine qi kz ?_
   simp[go_sem,c15]
   refine hK47 _ _ ?_
   try clear hK47 K47
   refine qj (b:=true) (by simp[go_sem,c15]) (fun _=>?_) (fun h=>by cases h)
   refine qi kz ?_
   simp[go_sem]
   refine hK46 _ _ ?_
   try clear hK46 K46
   refine qg (fun K48 hK48=>?_)
   refine qg (fun K49 hK49=>?_)
   refine qi kz ?_
   simp[go_sem,e0,e4,e5,e12,hkl,wXY,wk1,c1,gX6]
   refine hK49 _ _ ?_
   try clear hK49 K49
   refine qj (b:=false) (by simp[go_sem,c1]) (fun h=>by cases h) (fun _=>?_)
   refine ql ?_
   refine hK48 _ _ ?_
   try clear hK48 K48
   refine qg (fun K50 hK50=>?_)
   refine qi kz ?_
   simp[go_sem]
   refine hK50 _ _ ?_
   try clear hK50 K50
   refine qm ?_
   refine qC (Inv:=fun m2 env H8 => ∃ j:Nat,m2=1-j/\j<=1/\env 0 = .ptr xb 0/\env 4 = .int X/\env 5 = .int Y/\env 10=T0/\env 14 = .int s/\env 15 = .int 1/\env 16 = .int j/\((j=0/\env 12=x2/\H8=H6)\/(j=1/\env 12 = .ms (H6.next+1) 0 (k+1) 1/\H8=H7))) ?_ (n:=1) (⟨0,rfl,oz,by simp[go_sem,e0],by simp[go_sem,e4],by simp[go_sem,e5],by simp[go_sem,e10],gz,gz,gz,.inl ⟨rfl,by simp[go_sem,e12],rfl⟩⟩)
   clear e0 e4 e5 e10 e12
   rintro m2 env H8 ⟨j,rfl,hj1,e0,e4,e5,e10,e14,e15,e16,hj⟩
   refine qg (fun K51 hK51=>?_)
   refine qg (fun K52 hK52=>?_)
   rcases hj with ⟨rfl,e12,rfl⟩ | ⟨rfl,e12,rfl⟩
   ·skip
    refine qi kz ?_
    simp[go_sem,e0,e15,e16,gX6]
    refine hK52 _ _ ?_
    try clear hK52 K52
    refine qj (b:=true) gz (fun _=>?_) (fun h=>by cases h)
    refine ql ?_
    refine hK51 _ _ ?_
    try clear hK51 K51
    refine qg (fun K53 hK53=>?_)
    refine qm ?_
    refine qi kz ?_
    simp[go_sem,e12,e14,hap]
    refine hK53 _ _ ?_
    try clear hK53 K53
    refine qo (fun K54 hK54=>?_)
    refine qi kz ?_
    simp[go_sem,e16,kk1]
    refine hK54 _ _ ?_
    exact ⟨0,oz,1,rfl,oz,by simp[go_sem,e0],by simp[go_sem,e4],by simp[go_sem,e5],by simp[go_sem,e10],by simp[go_sem,e14],by simp[go_sem,e15],gz,.inr ⟨rfl,gz,rfl⟩⟩
   ·skip
    refine qi kz ?_
    simp[go_sem,e0,e15,e16,gX7]
    refine hK52 _ _ ?_
    try clear hK52 K52
    refine qj (b:=false) gz (fun h=>by cases h) (fun _=>?_)
    refine qy ?_
    exact ⟨r.length,by simp,ds ++ [s],r,p4,_,rfl,by rw[List.append_assoc]; exact hds,fun u hu=>hr u (.tail _ hu),hA3,hp4,hpe,e0,e4,e5,e10,e12,by rw[hdl]; exact hG7,gB7,hS7⟩
end Go.Proofs.YtfokgjhdndnnhaaGreatDoor
