/- Contracts: the document's reader, made. -/
import Derived.Test.YtfokgjhdndnnhaaGreatDoorX12
set_option maxHeartbeats 4000000
set_option linter.unusedVariables false
set_option linter.unusedSimpArgs false
set_option maxRecDepth 20000
noncomputable section X13S
namespace Go.Proofs.YtfokgjhdndnnhaaGreatDoor
open Go Go.Fl Go.Proofs
theorem qo9 {S:Nat->Prop} {H:Heap} {x:AV} {n:Nat} {c:Int} {cs:List AV} (h:GrN S H x 1 n cs) (hSn : ∀ z,S z->z<H.next) (hl:n<=1000000) (hc : ∀ y∈cs,∀ k,y.Lt k) : ∃ H1,aappend Tryz.prog (H.alloc [.sc (.int .u8 c)]) 25 25 x (.ms H.next 0 1 1)=some (.ms (H.next+1) 0 (n+1) 1,H1)/\GrN S H1 (.ms (H.next+1) 0 (n+1) 1) 1 (n+1) (cs ++ [.sc (.int .u8 c)])/\Step S H H1:=by
 obtain ⟨bo,hg,hbo,_,_⟩:=h.grown
 obtain ⟨ha,hg2⟩:=appB c hg oz
 exact ⟨_,ha,GrN.one hg2 hSn,GrN.step hg hbo (fun y hy=>hc y hy _) gz⟩
theorem bshr_u8 (a b:Nat) (hb:b<=8):bshr .u8 (a:Int) (b:Int)=((a/2^b:Nat):Int):=by
 unfold bshr
 have e:min ((b:Int).toNat) IntKind.u8.bits=b:=by
  have:IntKind.u8.bits=8:=rfl
  rw[this,Int.toNat_natCast]; omega
 rw[e]
 have:(2:Int)^b=((2^b:Nat):Int):=by simp
 rw[this,qf0]
theorem qj2 (a:Nat) (ha:a<256):bits .and .u8 (a:Int) 1=((a%2:Nat):Int):=by
 have:=(bits_nat .u8 8 dz wraps_u8 a 1 ha dz).1
 rw[Nat.and_one_is_mod] at this
 exact this
theorem bit_snoc {b:List UInt8} {i k:Nat} (hi:i<b.length) (hk:k<8):bitV ((unpack b).take (8*i+k+1))=bitV ((unpack b).take (8*i+k)) ++ [.sc (.int .u8 (((gB b i).toNat/2^k%2:Nat):Int))]:=by
 rw[List.take_add_one,qaq b (8*i+k) oz,show (8*i+k)/8=i by omega,show (8*i+k)%8=k by omega]
 unfold bitV
 rw[List.map_append]
 congr 1
 generalize (gB b i).toNat/2^k=y
 rcases (by omega:y%2=0\/y%2=1) with h | h <;> simp[h]
theorem dopen_p {b:List UInt8} {n:Nat} (hn:b.length=n) (h0:0<n) (hb:n<=100000) (H:Heap):SCallsP Tryz.prog 59 [.vs n 1 (bV b),.bool false] H (fun r H' => ∃ rb q,r = .ptr rb 0/\H.next<=rb/\H.next<=q/\DBits H' rb q b 0/\Step (fun z=>z<H.next) H H'):=by
 refine qA (sz:=58) (Tryz.call59) Tryz.func59 rfl kz (fun R hR=>?_)
 refine qg (fun K1 hK1=>?_)
 refine qi kz ?_
 simp[go_sem]
 refine hK1 _ _ ?_
 try clear hK1 K1
 refine qg (fun K2 hK2=>?_)
 refine qi kz ?_
 simp[go_sem]
 refine hK2 _ _ ?_
 try clear hK2 K2
 refine qg (fun K3 hK3=>?_)
 refine qg (fun K4 hK4=>?_)
 refine qi kz ?_
 simp[go_sem]
 refine hK4 _ _ ?_
 try clear hK4 K4
 refine qm ?_
 refine qC (Inv:=fun m0 env H2 => ∃ (i:Nat) (x:AV),m0=n-i/\i<=n/\env 0 = .vs n 1 (bV b)/\env 1 = .bool false/\env 5 = .ptr H.next 0/\env 6 = .int i/\H2.get H.next=some [x,.int 0,.bool false]/\GrN (fun z=>z<H.next\/z=H.next) H2 x 1 (8*i) (bitV ((unpack b).take (8*i)))/\Step (fun z=>z<H.next) H H2) ?_ (n:=n) (⟨0,.nil,rfl,oz,gz,gz,gz,gz,gz,GrN.nil _ _ _,(Step.refl _ _).alloc gz⟩)
 rintro m0 env H2 ⟨i,x,rfl,hi,e0,e1,e5,e6,gR,hX,hS⟩
 refine qg (fun K5 hK5=>?_)
 refine qg (fun K6 hK6=>?_)
 refine qi kz ?_
 simp[go_sem,e0,e6]
 refine hK6 _ _ ?_
 try clear hK6 K6
 refine qj (b:=decide ((i:Int)<(n:Int))) gz (fun hb9=>?_) (fun hb9=>?_)
 ·skip
  simp only[decide_eq_true_eq] at hb9
  have hb9:i<n:=oz
  have hwi:=qF i oz
  obtain ⟨r,dr⟩:=yA (l:=b) (i:=i) oz
  have hcl:=(gB b i).toNat_lt
  have li1:(i:Int)<n:=oz
  have li2:i+1<=n:=oz
  have hL:(bV b).length=n:=by rw[qQ,hn]
  refine ql ?_
  refine hK5 _ _ ?_
  try clear hK5 K5
  refine qg (fun K7 hK7=>?_)
  refine qm ?_
  refine qg (fun K8 hK8=>?_)
  refine qi kz ?_
  simp[go_sem]
  refine hK8 _ _ ?_
  try clear hK8 K8
  refine qm ?_
  refine qC (Inv:=fun m1 env H2 => ∃ (k:Nat) (x:AV),m1=8-k/\k<=8/\env 0 = .vs n 1 (bV b)/\env 1 = .bool false/\env 5 = .ptr H.next 0/\env 6 = .int i/\env 7 = .int k/\H2.get H.next=some [x,.int 0,.bool false]/\GrN (fun z=>z<H.next\/z=H.next) H2 x 1 (8*i+k) (bitV ((unpack b).take (8*i+k)))/\Step (fun z=>z<H.next) H H2) ?_ (n:=8) (⟨0,x,rfl,oz,by simp[go_sem,e0],by simp[go_sem,e1],by simp[go_sem,e5],by simp[go_sem,e6],gz,gR,hX,hS⟩)
  clear e0 e1 e5 e6 gR hX hS
  rintro m1 env H2 ⟨k,x,rfl,hk,e0,e1,e5,e6,e7,gR,hX,hS⟩
  refine qg (fun K9 hK9=>?_)
  refine qg (fun K10 hK10=>?_)
  refine qi kz ?_
  simp[go_sem,e7]
  refine hK10 _ _ ?_
  try clear hK10 K10
  refine qj (b:=decide ((k:Int)<8)) gz (fun hb9=>?_) (fun hb9=>?_)
  ·skip
   simp only[decide_eq_true_eq] at hb9
   have hb8:k<8:=oz
   have hw:=qF k oz
   have wu:=qac k oz
   have sh:=bshr_u8 (gB b i).toNat k oz
   have hyl:(gB b i).toNat/2^k<256:=Nat.lt_of_le_of_lt (Nat.div_le_self _ _) hcl
   have an:=qj2 _ hyl
   have hsn:=bit_snoc (b:=b) (i:=i) (k:=k) oz hb8
   obtain ⟨y,hy⟩ : ∃ z,(gB b i).toNat/2^k=z:=⟨_,rfl⟩
   rw[hy] at sh an hsn
   obtain ⟨bt,hbt⟩ : ∃ z,y%2=z:=⟨_,rfl⟩
   rw[hbt] at an hsn
   have hRl:=Heap.lt_of_get gR
   obtain ⟨H3,hap,hX3,hS3⟩:=qo9 (c:=(bt:Int)) hX (fun z hz=>by rcases hz with h | h <;> omega) oz (fun y hy k=>bitV_lt _ k y hy)
   rw[<- hsn] at hX3
   have gR3:=hS3.get gR (.inr rfl)
   have gRa:(H2.alloc [.sc (.int .u8 (bt:Int))]).get H.next=some [x,.int 0,.bool false]:=by rw[Heap.get_alloc,if_neg oz]; exact gR
   have hS4:Step (fun z=>z<H.next) H (H3.set H.next [.ms (H2.next+1) 0 (8*i+k+1) 1,.int 0,.bool false]):=by
    refine ((hS.trans (hS3.mono fun z hz=>.inl hz))).set (Nat.lt_irrefl _) ?_
    obtain ⟨_,_,_,_,hlt⟩:=hX3.grown
    simp[go_sem] at hlt |-
    exact hlt
   have hX4:GrN (fun z=>z<H.next\/z=H.next) (H3.set H.next [.ms (H2.next+1) 0 (8*i+k+1) 1,.int 0,.bool false]) (.ms (H2.next+1) 0 (8*i+k+1) 1) 1 (8*i+(k+1)) (bitV ((unpack b).take (8*i+(k+1)))):=hX3.keepN (fun z hz c hc=>by rw[Heap.get_set,if_neg (fun e=>hz (.inr e))]; exact hc)
   refine ql ?_
   refine hK9 _ _ ?_
   try clear hK9 K9
   refine qg (fun K11 hK11=>?_)
   refine qm ?_
   refine qg (fun K12 hK12=>?_)
   refine qi kz ?_
   simp[go_sem,e1]
   refine hK12 _ _ ?_
   try clear hK12 K12
   refine qj (b:=false) (by simp[go_sem,e1]) (fun h=>by cases h) (fun _=>?_)
   refine qo (fun K13 hK13=>?_)
   refine qZ mixed kz (bf:=[0,0,2,6,14,0,0,96,224,0,512,2016,4064,8160,16382,32767,65535,131071]) kz ?_
   simp[go_sem,e0,e5,e6,e7,gR,gRa,gR3,dr,li1,li2,hL,wu,sh,an,hap,befL]
   refine hK13 _ _ ?_
   refine hK11 _ _ ?_
   try clear hK11 K11
   refine qo (fun K14 hK14=>?_)
   refine qi kz ?_
   simp[go_sem,e7,hw]
   refine hK14 _ _ ?_
   exact ⟨8-(k+1),oz,k+1,_,rfl,oz,by simp[go_sem,e0],by simp[go_sem,e1],by simp[go_sem,e5],by simp[go_sem,e6],gz,by rw[Heap.get_set,if_pos rfl,gR3]; rfl,hX4,hS4⟩
  ·skip
   simp only[decide_eq_false_iff_not] at hb9
   obtain rfl:k=8:=oz
   rw[show 8*i+8=8*(i+1) by omega] at hX
   refine qy ?_
   refine hK7 _ _ ?_
   try clear hK7 K7
   refine qo (fun K15 hK15=>?_)
   refine qi kz ?_
   simp[go_sem,e6,hwi]
   refine hK15 _ _ ?_
   exact ⟨n-(i+1),oz,i+1,x,rfl,oz,by simp[go_sem,e0],by simp[go_sem,e1],by simp[go_sem,e5],gz,gR,hX,hS⟩
 ·skip
  simp only[decide_eq_false_iff_not] at hb9
  obtain rfl:n=i:=oz
  rw[List.take_of_length_le (by rw[zo]; omega)] at hX
  refine qy ?_
  refine hK3 _ _ ?_
  try clear hK3 K3
  refine qg (fun K16 hK16=>?_)
  refine qi kz ?_
  simp[go_sem,e5]
  refine hK16 _ _ ?_
  try clear hK16 K16
  refine qx ?_
  simp only[go_sem]
  refine hR _ _ ?_
  obtain ⟨q,rfl,hq0,gq⟩ : ∃ q,x = .ms q 0 (8*n) 1 /\ ¬ (q<H.next\/q=H.next)/\H2.get q=some (bitV (unpack b)):=by
   rcases hX with ⟨_,hz,_⟩ | ⟨q,k1,k2,k3,_⟩
   ·omega
   ·exact ⟨q,k2,k1,k3⟩
  have hRl:=Heap.lt_of_get gR
  exact hS.retP (r:=.ptr H.next 0) gz ⟨H.next,q,rfl,Nat.le_refl _,oz,⟨by rw[hn]; exact gR,gq,fun e=>hq0 (.inr e.symm),oz⟩,hS⟩ (by simp[go_sem]; exact hRl)
theorem dstart_p {S:Nat->Prop} {x:AV} {h b:List UInt8} {n mo:Nat} (hn:b.length=n) (h0:0<n) (hb:n<=100000) (hh:h.length<=1000000) {H:Heap} (hx:HistB S H x h):SCallsP Tryz.prog 31 [.vs n 1 (bV b),x,.int mo] H (fun r H' => ∃ xb,r = .ptr xb 0/\DIn (fun z=>z<H.next) H' xb b 0 (lastW h) (lastW h).length mo/\Step (fun z=>z<H.next) H H'):=by
 have cl:=qo8 hh hx
 generalize lastW h=lw at *
 refine qA (sz:=18) (Tryz.call31) Tryz.func31 rfl kz (fun R hR=>?_)
 refine qg (fun K1 hK1=>?_)
 refine qi kz ?_
 simp[go_sem]
 refine hK1 _ _ ?_
 try clear hK1 K1
 refine qg (fun K2 hK2=>?_)
 refine qp kz ?_
 refine qH 2 (fun K3 hK3=>?_)
 simp[go_sem]
 refine ⟨_,cl,?_⟩
 rintro y H1 hn1 ⟨hG,hS1⟩
 have co:=dopen_p hn h0 hb H1
 have hln:=DIn.len hG
 refine hK3 _ _ ?_
 clear hK3 K3
 simp[go_sem]
 refine hK2 _ _ ?_
 try clear hK2 K2
 refine qg (fun K4 hK4=>?_)
 rcases id hG with ⟨rfl,hz1,hz2⟩ | ⟨k9,k91,rfl,k93,k94⟩
 ·skip
  refine qo (fun K5 hK5=>?_)
  refine qp kz ?_
  refine qH 2 (fun K6 hK6=>?_)
  simp[go_sem,hln]
  refine ⟨_,co,?_⟩
  rintro _ H2 hn2 ⟨rb,q,rfl,hrb,hq,gB2,hS2⟩
  refine hK6 _ _ ?_
  clear hK6 K6
  simp[go_sem,hln]
  refine hK5 _ _ ?_
  refine hK4 _ _ ?_
  try clear hK4 K4
  refine qx ?_
  simp only[go_sem]
  refine hR _ _ ?_
  have hS12:=hS1.trans (hS2.mono fun z (hz:z<H.next)=>Nat.lt_of_lt_of_le hz hS1.le)
  have hG2:=hG.keep (H':=H2) (fun k cs hk=>hS2.get hk (Heap.lt_of_get hk))
  obtain ⟨bo,hg2,hbo2,_,hlt2⟩:=hG2.grown
  have hRl:=Heap.lt_of_get gB2.1
  have hQl:=Heap.lt_of_get gB2.2.1
  obtain ⟨L,hL⟩ : ∃ z,lw.length=z:=⟨_,rfl⟩
  rw[hL] at hG hG2 |-
  have h1l:=hS1.le
  have h2l:=hS2.le
  have hS3 : ∀ v,(∀ z∈v,AV.Lt (H2.next+1) z)->Step (fun z=>z<H.next) H (H2.alloc v):=fun v hv=>hS12.alloc hv
  refine (hS3 _ ?_).retP (r:=.ptr H2.next 0) gz ⟨H2.next,rfl,⟨rb,q,_,by show ¬ _<_; omega,by show ¬ _<_; omega,by show ¬ _<_; omega,oz,oz,by rw[Heap.get_alloc,if_pos rfl],⟨by rw[Heap.get_alloc,if_neg oz]; exact gB2.1,by rw[Heap.get_alloc,if_neg oz]; exact gB2.2.1,gB2.2.2⟩,?_,fun z hz=>by rw[Heap.next_alloc]; have h9:z<H.next:=hz; omega⟩,hS3 _ ?_⟩ gz
  rotate_left
  ·rw[hL]
   rcases hG with k | ⟨k,k1,k2,k3,k4⟩
   ·exact .inl k
   ·have hkl:=Heap.lt_of_get k3
    exact .inr ⟨k,fun e=>by rcases e with e | e | e | e; exact k1 e; omega; omega; omega,k2,by rw[Heap.get_alloc,if_neg oz]; exact hS2.get k3 hkl,k4⟩
  all_goals (intro z hz; simp only[List.mem_cons,List.not_mem_nil,or_false] at hz; rcases hz with rfl | rfl | rfl | rfl | rfl <;> first | exact .sc _ | exact .ptr oz | exact (hL ▸ hlt2).mono (Nat.le_succ _) | exact hlt2.mono (Nat.le_succ _))
 ·skip
  refine qo (fun K7 hK7=>?_)
  refine qp kz ?_
  refine qH 2 (fun K8 hK8=>?_)
  simp[go_sem,hln]
  refine ⟨_,co,?_⟩
  rintro _ H2 hn2 ⟨rb,q,rfl,hrb,hq,gB2,hS2⟩
  refine hK8 _ _ ?_
  clear hK8 K8
  simp[go_sem,hln]
  refine hK7 _ _ ?_
  refine hK4 _ _ ?_
  try clear hK4 K4
  refine qx ?_
  simp only[go_sem]
  refine hR _ _ ?_
  have hS12:=hS1.trans (hS2.mono fun z (hz:z<H.next)=>Nat.lt_of_lt_of_le hz hS1.le)
  have hG2:=hG.keep (H':=H2) (fun k cs hk=>hS2.get hk (Heap.lt_of_get hk))
  obtain ⟨bo,hg2,hbo2,_,hlt2⟩:=hG2.grown
  have hRl:=Heap.lt_of_get gB2.1
  have hQl:=Heap.lt_of_get gB2.2.1
  obtain ⟨L,hL⟩ : ∃ z,lw.length=z:=⟨_,rfl⟩
  rw[hL] at hG hG2 |-
  have h1l:=hS1.le
  have h2l:=hS2.le
  have hS3 : ∀ v,(∀ z∈v,AV.Lt (H2.next+1) z)->Step (fun z=>z<H.next) H (H2.alloc v):=fun v hv=>hS12.alloc hv
  refine (hS3 _ ?_).retP (r:=.ptr H2.next 0) gz ⟨H2.next,rfl,⟨rb,q,_,by show ¬ _<_; omega,by show ¬ _<_; omega,by show ¬ _<_; omega,oz,oz,by rw[Heap.get_alloc,if_pos rfl],⟨by rw[Heap.get_alloc,if_neg oz]; exact gB2.1,by rw[Heap.get_alloc,if_neg oz]; exact gB2.2.1,gB2.2.2⟩,?_,fun z hz=>by rw[Heap.next_alloc]; have h9:z<H.next:=hz; omega⟩,hS3 _ ?_⟩ gz
  rotate_left
  ·rw[hL]
   rcases hG with k | ⟨k,k1,k2,k3,k4⟩
   ·exact .inl k
   ·have hkl:=Heap.lt_of_get k3
    exact .inr ⟨k,fun e=>by rcases e with e | e | e | e; exact k1 e; omega; omega; omega,k2,by rw[Heap.get_alloc,if_neg oz]; exact hS2.get k3 hkl,k4⟩
  all_goals (intro z hz; simp only[List.mem_cons,List.not_mem_nil,or_false] at hz; rcases hz with rfl | rfl | rfl | rfl | rfl <;> first | exact .sc _ | exact .ptr oz | exact (hL ▸ hlt2).mono (Nat.le_succ _) | exact hlt2.mono (Nat.le_succ _))
end Go.Proofs.YtfokgjhdndnnhaaGreatDoor
end X13S
set_option maxRecDepth 20000
noncomputable section X14S
namespace Go.Proofs.YtfokgjhdndnnhaaGreatDoor
open Go Go.Fl Go.Proofs
theorem qlg {l:List UInt8} {n:Nat} (hn:l.length=n) (h1:0<n) (hl:n<=1000000) (H:Heap) : ∃ H' q,SCalls Tryz.prog 32 [.vs n 1 (bV l)] H (.ms q 0 n 1) H' /\ H'.get q=some (bV l)/\H.next<=q/\Step (fun z=>z<H.next) H H':=by
 have hc:=dcopy_v hn hl H
 obtain ⟨hG,hS⟩:=zt H l oz n oz
 rw[List.take_of_length_le oz] at hG
 rcases hG with ⟨_,hz,_⟩ | ⟨q,k1,k2,k3,_⟩
 ·omega
 ·rw[k2] at hc
  exact ⟨_,q,hc,k3,Nat.le_of_not_lt k1,hS⟩
theorem qlh {H:Heap} {x:AV} {h b:List UInt8} {mo q n:Nat} (gq:H.get q=some (bV b)) (hn:b.length=n) (h0:0<n) (hx:HistB (fun z=>z=q) H x h) (hh:h.length<=1000000) (hb:n<=100000):SCallsP Tryz.prog 31 [.ms q 0 n 1,x,.int mo] H (fun r H' => ∃ xb,r = .ptr xb 0/\DIn (fun z=>z<H.next/\z≠q) H' xb b 0 (lastW h) (lastW h).length mo/\Step (fun z=>z<H.next/\z≠q) H H'):=by
 have hd:Step (fun z=>z<H.next/\z≠q) H (H.del q):=(Step.refl _ H).del (bo:=some q) (fun z hz e=>by cases hz; exact e.2 rfl)
 have hx2:HistB (fun _=>False) (H.del q) x h:=by
  rcases hx with k | ⟨q2,pre,k1,k2,k3⟩
  ·exact .inl k
  ·exact .inr ⟨q2,pre,id,k2,by rw[Heap.get_del,if_neg (fun e=>k1 e)]; exact k3⟩
 refine qat (H':=H.del q) (args':=[.vs n 1 (bV b),x,.int mo]) (fun k cs hk=>by rw[Heap.get_del] at hk; split at hk; cases hk; exact hk) rfl (.cons (jh (grown_of gq (by rw[qQ]; omega)) fun k hk=>by cases hk; rw[Heap.get_del,if_pos rfl]) (.cons (.same _) (.cons (.same _) .nil))) ?_
 refine (dstart_p hn h0 hb hh hx2).mono fun r H' _ ⟨xb,h1,h3,h4⟩=>⟨xb,h1,?_,hd.trans (h4.mono fun z hz=>hz.1)⟩
 obtain ⟨rb,q2,x,k1,k2,k3,k4,k5,k6,k7,k8,k9⟩:=h3
 exact ⟨rb,q2,x,fun e=>k1 e.1,fun e=>k2 e.1,fun e=>k3 e.1,k4,k5,k6,k7,k8.mono (fun z hz=>hz.elim (fun e=>.inl e.1) .inr),fun z hz=>k9 z hz.1⟩
theorem DIn.mono {S S' : Nat->Prop} {H:Heap} {xb p fr mo:Nat} {b all:List UInt8} (h:DIn S H xb b p all fr mo) (hs : ∀ z,S' z->S z):DIn S' H xb b p all fr mo:=by
 obtain ⟨rb,q2,x,k1,k2,k3,k4,k5,k6,k7,k8,k9⟩:=h
 exact ⟨rb,q2,x,fun e=>k1 (hs _ e),fun e=>k2 (hs _ e),fun e=>k3 (hs _ e),k4,k5,k6,k7,k8.mono (fun z hz=>hz.elim (fun e=>.inl (hs _ e)) .inr),fun z hz=>k9 z (hs _ hz)⟩
def OwnM (O:Nat->Prop) (H:Heap) (M:Nat) (h:List UInt8):Prop := ∃ x,O M/\H.get M=some [x]/\((x = .nil/\h = []) \/ ∃ q,O q/\q≠M/\x = .ms q 0 h.length 1/\H.get q=some (bV h))/\h.length<=100000 /\ ∀ z,O z->z<H.next
theorem OwnM.keep {O S:Nat->Prop} {H H' : Heap} {M:Nat} {h:List UInt8} (k:OwnM O H M h) (hs:Step S H H') (ho : ∀ z,O z->S z):OwnM O H' M h:=by
 obtain ⟨x,h1,h2,h3,h4,h5⟩:=k
 refine ⟨x,h1,hs.get h2 (ho _ h1),?_,h4,fun z hz=>Nat.lt_of_lt_of_le (h5 z hz) hs.le⟩
 rcases h3 with h3 | ⟨q,k1,k2,k3,k4⟩
 ·exact .inl h3
 ·exact .inr ⟨q,k1,k2,k3,hs.get k4 (ho _ k1)⟩
theorem OwnM.lt {O:Nat->Prop} {H:Heap} {M:Nat} {h:List UInt8} (k:OwnM O H M h) : ∀ z,O z->z<H.next:=by
 obtain ⟨_,_,_,_,_,k⟩:=k
 exact k
theorem OStep.otherM {O O' O2:Nat->Prop} {H H' : Heap} {M:Nat} {h:List UInt8} (s:OStep O O' H H') (k:OwnM O2 H M h) (hd : ∀ z,O z -> ¬ O2 z):OwnM O2 H' M h /\ ∀ z,O' z -> ¬ O2 z :=
 ⟨k.keep s.step fun z hz=>⟨k.lt z hz,fun e=>hd z e hz⟩,fun z h1 h2=>hd z (s.own z h1 (k.lt z h2)) h2⟩
theorem qpa {O:Nat->Prop} {M:Nat} {h hm b:List UInt8} (hlw:lastW hm=h) (h0:0<b.length) (hb:b.length<=10000) {mo:Nat} (hm9:b.length<=mo) (h7:mo<=1000000) {H:Heap} (hk:OwnM O H M hm):SCallsP Tryz.prog 21 [.ptr M 0,bA (packOf h b),.int mo] H (fun r H'=>r = .tup [bA b,.int 0] /\ ∃ O',OwnM O' H' M (lastW (h++b))/\OStep O O' H H'):=by
 subst hlw
 obtain ⟨x,hOM,gD,hx,hh,hOl⟩:=id hk
 have hDl:=Heap.lt_of_get gD
 have nD0 : ¬ M=H.next:=oz
 generalize hlq:lastW hm=h at *
 have hbl:=qa5 h b
 have hpl:=qci h b
 have h0p:0<(packOf h b).length:=by unfold packOf; rw[zF,List.length_append,qB]; unfold bytesOf; omega
 have hpk:pktOf h b=packOf h b++tailP:=rfl
 have hpl2:(pktOf h b).length=(packOf h b).length+4:=by rw[hpk,List.length_append]; rfl
 have hbv:bV (pktOf h b)=bV (packOf h b) ++ [.sc (.int .u8 0),.sc (.int .u8 0),.sc (.int .u8 255),.sc (.int .u8 255)]:=by rw[hpk,jF]; rfl
 have hhl:h.length<=32768:=by rw[<- hlq,yD]; omega
 obtain ⟨n,hn⟩ : ∃ z,(packOf h b).length=z:=⟨_,rfl⟩
 have hbA:bA (packOf h b) = .vs n 1 (bV (packOf h b)):=by unfold bA; rw[hn]
 rw[hn] at h0p hpl2
 rw[hbA]
 obtain ⟨pk,hpq⟩ : ∃ z,packOf h b=z:=⟨_,rfl⟩
 rw[hpq] at hn hbv |-
 clear hpk hbA
 obtain ⟨bl,hbq⟩ : ∃ z,(bestBits h b).length=z:=⟨_,rfl⟩
 obtain ⟨B,hB⟩ : ∃ z,b.length=z:=⟨_,rfl⟩
 refine qA (sz:=75) (Tryz.call21) Tryz.func21 rfl kz (fun R hR=>?_)
 refine qg (fun K1 hK1=>?_)
 refine qi kz ?_
 simp[go_sem]
 refine hK1 _ _ ?_
 try clear hK1 K1
 refine qw (fun env H2 => ∃ xb,(env 0 = .ptr M 0/\env 8 = .ptr xb 0)/\DIn (fun z=>z<H.next) H2 xb (pktOf h b) 0 h h.length mo/\Step (fun z=>z<H.next) H H2) ?_ ?_
 ·skip
  refine qo (fun K96 hK96=>?_)
  refine zx mixed ?_
  refine qf8 9 kz ?_
  refine zh 1 2 dz ?_ ?_
  ·skip
   obtain ⟨Hc,qc,cc,gc,hqc,hSc⟩:=qlg hn h0p oz H
   have gDc:=hSc.get gD hDl
   have hcle:=hSc.le
   have hqcl:=Heap.lt_of_get gc
   have nDc : ¬ M=Hc.next:=oz
   obtain ⟨Hl,hHl⟩ : ∃ z,Hc.alloc [.sc (.int .u8 0),.sc (.int .u8 0),.sc (.int .u8 255),.sc (.int .u8 255)]=z:=⟨_,rfl⟩
   have hln:Hl.next=Hc.next+1:=by rw[<- hHl,Heap.next_alloc]
   have gl:Hl.get Hc.next=some [.sc (.int .u8 0),.sc (.int .u8 0),.sc (.int .u8 255),.sc (.int .u8 255)]:=by rw[<- hHl,Heap.get_alloc,if_pos rfl]
   have gcl:Hl.get qc=some (bV pk):=by rw[<- hHl,Heap.get_alloc,if_neg oz]; exact gc
   have gDl:Hl.get M=some [x]:=by rw[<- hHl,Heap.get_alloc,if_neg oz]; exact gDc
   have hSl:Step (fun z=>z<H.next) H Hl:=by rw[<- hHl]; exact hSc.alloc gz
   have happ:=qL (P:=Tryz.prog) (H:=Hl) (t:=25) (u:=25) (s:=.ms qc 0 n 1) (x:=.ms Hc.next 0 4 1) (n:=n) (cs:=bV pk) (bo:=some qc) (k:=4) (new:=[.sc (.int .u8 0),.sc (.int .u8 0),.sc (.int .u8 255),.sc (.int .u8 255)]) tU25 tS5 tB5 tZ5 rfl (by rw[zq tU25 gl (Nat.le_refl _)]; rfl) (grown_of gcl (by rw[qQ]; omega)) oz oz rfl
   obtain ⟨H6,hH6⟩ : ∃ z,Hl.regrow (some qc) (bV pk ++ [.sc (.int .u8 0),.sc (.int .u8 0),.sc (.int .u8 255),.sc (.int .u8 255)])=z:=⟨_,rfl⟩
   rw[hH6] at happ
   have hn6:H6.next=Hl.next+1:=by rw[<- hH6,Heap.next_regrow]
   have gq:H6.get Hl.next=some (bV (pktOf h b)):=by rw[<- hH6,hbv]; exact zf
   have hlle:H.next<=Hl.next:=hSl.le
   have hS6:Step (fun z=>z<H.next) H H6:=by
    rw[<- hH6]
    refine hSl.regrow (fun z hz e=>by cases hz; have h9:qc<H.next:=e; omega) ?_
    intro y hy
    rw[<- hbv] at hy
    exact ja _ _ y hy
   have gD6:=hS6.get gD hDl
   have hx6:HistB (fun z=>z=Hl.next) H6 x hm:=by
    rcases hx with k | ⟨q2,k1,k2,k3,k4⟩
    ·exact .inl k
    ·exact .inr ⟨q2,[],fun e=>by have:=Heap.lt_of_get k4; omega,k3,hS6.get k4 (Heap.lt_of_get k4)⟩
   rw[hln] at happ gq hx6 hn6
   refine qW (bf:=[0,1,3,7,0,16,48,112,0]) kz kz ?_
   simp[go_sem,befL,addE,permOps,reE,fnL]
   refine ⟨_,_,cc,?_⟩
   simp[go_sem,befL,addE,permOps,reE,fnL,hHl,happ,gD,gDc,gDl,gD6,nD0,nDc]
   refine ⟨fun _=>?_,fun h=>absurd rfl h⟩
   refine qV (l:=[9]) kz kz dz (fun k hk=>?_)
   simp only[List.mem_cons,List.not_mem_nil,or_false] at hk
   subst hk
   refine ⟨_,rfl,?_⟩
   simp[go_sem]
   refine ⟨_,qlh gq hpl2 oz hx6 oz oz,?_⟩
   rw[hlq]
   rintro _ H7 hn7 ⟨xb,rfl,hI7,hS7⟩
   refine qV (l:=[10]) kz kz dz (fun k hk=>?_)
   simp only[List.mem_cons,List.not_mem_nil,or_false] at hk
   subst hk
   refine ⟨_,rfl,?_⟩
   simp[go_sem]
   refine jd kz ?_
   refine hK96 _ _ ?_
   exact ⟨xb,⟨gz,gz⟩,hI7.mono (fun z hz=>⟨by have h9:z<H.next:=hz; omega,by have h9:z<H.next:=hz; omega⟩),hS6.trans (hS7.mono fun z hz=>⟨by have h9:z<H.next:=hz; omega,by have h9:z<H.next:=hz; omega⟩)⟩
  ·skip
   obtain ⟨Ha,hHa⟩ : ∃ z,H.alloc [.sc (.int .u8 0),.sc (.int .u8 0),.sc (.int .u8 255),.sc (.int .u8 255)]=z:=⟨_,rfl⟩
   have han:Ha.next=H.next+1:=by rw[<- hHa,Heap.next_alloc]
   obtain ⟨Hl,qc,cc,gcl,hqc,hScl⟩:=qlg hn h0p oz Ha
   have gDa:Ha.get M=some [x]:=by rw[<- hHa,Heap.get_alloc,if_neg oz]; exact gD
   have gDl:=hScl.get gDa (by show _<_; omega)
   have gl:Hl.get H.next=some [.sc (.int .u8 0),.sc (.int .u8 0),.sc (.int .u8 255),.sc (.int .u8 255)]:=hScl.get (by rw[<- hHa,Heap.get_alloc,if_pos rfl]) (by show _<_; omega)
   have hSl:Step (fun z=>z<H.next) H Hl:=by
    refine Step.trans (H1:=Ha) ?_ (hScl.mono fun z hz=>by have h9:z<H.next:=hz; show _<_; omega)
    rw[<- hHa]
    exact (Step.refl _ H).alloc gz
   have happ:=qL (P:=Tryz.prog) (H:=Hl) (t:=25) (u:=25) (s:=.ms qc 0 n 1) (x:=.ms H.next 0 4 1) (n:=n) (cs:=bV pk) (bo:=some qc) (k:=4) (new:=[.sc (.int .u8 0),.sc (.int .u8 0),.sc (.int .u8 255),.sc (.int .u8 255)]) tU25 tS5 tB5 tZ5 rfl (by rw[zq tU25 gl (Nat.le_refl _)]; rfl) (grown_of gcl (by rw[qQ]; omega)) oz oz rfl
   obtain ⟨H6,hH6⟩ : ∃ z,Hl.regrow (some qc) (bV pk ++ [.sc (.int .u8 0),.sc (.int .u8 0),.sc (.int .u8 255),.sc (.int .u8 255)])=z:=⟨_,rfl⟩
   rw[hH6] at happ
   have hn6:H6.next=Hl.next+1:=by rw[<- hH6,Heap.next_regrow]
   have gq:H6.get Hl.next=some (bV (pktOf h b)):=by rw[<- hH6,hbv]; exact zf
   have hlle:H.next<=Hl.next:=hSl.le
   have hS6:Step (fun z=>z<H.next) H H6:=by
    rw[<- hH6]
    refine hSl.regrow (fun z hz e=>by cases hz; have h9:qc<H.next:=e; omega) ?_
    intro y hy
    rw[<- hbv] at hy
    exact ja _ _ y hy
   have gD6:=hS6.get gD hDl
   have hx6:HistB (fun z=>z=Hl.next) H6 x hm:=by
    rcases hx with k | ⟨q2,k1,k2,k3,k4⟩
    ·exact .inl k
    ·exact .inr ⟨q2,[],fun e=>by have:=Heap.lt_of_get k4; omega,k3,hS6.get k4 (Heap.lt_of_get k4)⟩
   refine zy [0,2,1,3,4,5,6,7,8] [0,2,1,3,4,5,6,7,8] kz ?_
   refine qW (bf:=[0,0,3,7,0,16,48,112,0]) kz kz ?_
   simp[go_sem,befL,addE,permOps,reE,fnL,hHa]
   refine ⟨_,_,cc,?_⟩
   simp[go_sem,befL,addE,permOps,reE,fnL,hHa,happ,gD,gDa,gDl,gD6,nD0]
   refine ⟨fun _=>?_,fun h=>absurd rfl h⟩
   refine qV (l:=[9]) kz kz dz (fun k hk=>?_)
   simp only[List.mem_cons,List.not_mem_nil,or_false] at hk
   subst hk
   refine ⟨_,rfl,?_⟩
   simp[go_sem]
   refine ⟨_,qlh gq hpl2 oz hx6 oz oz,?_⟩
   rw[hlq]
   rintro _ H7 hn7 ⟨xb,rfl,hI7,hS7⟩
   refine qV (l:=[10]) kz kz dz (fun k hk=>?_)
   simp only[List.mem_cons,List.not_mem_nil,or_false] at hk
   subst hk
   refine ⟨_,rfl,?_⟩
   simp[go_sem]
   refine jd kz ?_
   refine hK96 _ _ ?_
   exact ⟨xb,⟨gz,gz⟩,hI7.mono (fun z hz=>⟨by have h9:z<H.next:=hz; omega,by have h9:z<H.next:=hz; omega⟩),hS6.trans (hS7.mono fun z hz=>⟨by have h9:z<H.next:=hz; omega,by have h9:z<H.next:=hz; omega⟩)⟩
 rintro env H2 ⟨xb,⟨e0,e8⟩,hI2,hS2⟩
 refine qg (fun K3 hK3=>?_)
 refine qi kz ?_
 simp[go_sem]
 refine hK3 _ _ ?_
 try clear hK3 K3
 refine qg (fun K4 hK4=>?_)
 refine qm ?_
 refine qC (Inv:=fun m0 env H2 => ∃ (j pos:Nat) (al:List UInt8) (e:Bool),((j=0/\pos=0/\h=al)\/(j=1/\bl=pos/\al=h++b)\/(j=2/\pos=8*(pktOf h b).length/\al=h++b/\e=true))/\m0=2-j/\env 0 = .ptr M 0/\env 8 = .ptr xb 0/\env 9 = .bool e/\DIn (fun z=>z<H.next) H2 xb (pktOf h b) pos al h.length mo/\Step (fun z=>z<H.next) H H2) ?_ (n:=2) (⟨0,0,h,false,.inl ⟨rfl,rfl,rfl⟩,rfl,by simp[go_sem,e0],by simp[go_sem,e8],gz,hI2,hS2⟩)
 clear e0 e8 hI2 hS2
 rintro m0 env H2 ⟨j,pos,al,e,hj,rfl,e0,e8,e9,hI2,hS2⟩
 refine qg (fun K5 hK5=>?_)
 refine qg (fun K6 hK6=>?_)
 rcases hj with ⟨rfl,rfl,rfl⟩ | ⟨rfl,rfl,rfl⟩ | ⟨rfl,rfl,rfl,rfl⟩
 ·skip
  obtain ⟨rb2,q2,x2,_,_,_,_,_,gX2,gB2,gG2,_⟩:=id hI2
  have cl:=qes gB2 oz
  obtain ⟨lf,hlf⟩ : ∃ z,8*(pktOf h b).length-0=z:=⟨_,rfl⟩
  rw[hlf] at cl
  have lf1:(0:Int)<(lf:Int):=oz
  have lf2:0<lf:=oz
  have cb1:=qis hI2 oz hb hm9 h7
  rw[hbq] at cb1
  refine qi kz ?_
  refine qI 5 (fun K7 hK7=>?_)
  simp[go_sem,e8,gX2,lf1,lf2]
  refine ⟨_,_,cl,?_⟩
  refine hK7 _ _ ?_
  clear hK7 K7
  simp[go_sem,e8,gX2,lf1,lf2]
  refine hK6 _ _ ?_
  try clear hK6 K6
  refine qj (b:=true) (by simp[go_sem,lf1,lf2]) (fun _=>?_) (fun h=>by cases h)
  refine ql ?_
  refine hK5 _ _ ?_
  try clear hK5 K5
  refine qm ?_
  refine qg (fun K8 hK8=>?_)
  refine qp kz ?_
  refine qH 2 (fun K9 hK9=>?_)
  simp[go_sem,e8]
  refine ⟨_,cb1,?_⟩
  rintro _ H3 hn3 ⟨⟨ee,rfl⟩,hI3,hS3⟩
  obtain ⟨rb3,q3,x3,_,_,_,_,_,gX3,gB3,gG3,_⟩:=id hI3
  refine hK9 _ _ ?_
  clear hK9 K9
  simp[go_sem,e8]
  refine hK8 _ _ ?_
  try clear hK8 K8
  refine qg (fun K10 hK10=>?_)
  refine qg (fun K11 hK11=>?_)
  refine qi kz ?_
  simp[go_sem,e8,gX3]
  refine hK11 _ _ ?_
  try clear hK11 K11
  refine qj (b:=false) gz (fun h=>by cases h) (fun _=>?_)
  refine ql ?_
  refine hK10 _ _ ?_
  try clear hK10 K10
  refine qg (fun K12 hK12=>?_)
  refine qg (fun K13 hK13=>?_)
  refine qi kz ?_
  simp[go_sem,e8,gX3]
  refine hK13 _ _ ?_
  try clear hK13 K13
  refine qj (b:=false) gz (fun h=>by cases h) (fun _=>?_)
  refine ql ?_
  refine hK12 _ _ ?_
  try clear hK12 K12
  refine qo (fun K14 hK14=>?_)
  refine qi kz ?_
  simp[go_sem]
  refine hK14 _ _ ?_
  exact ⟨1,oz,1,bl,h++b,ee,.inr (.inl ⟨rfl,rfl,rfl⟩),rfl,by simp[go_sem,e0],by simp[go_sem,e8],gz,hI3,hS2.trans hS3⟩
 ·skip
  obtain ⟨rb2,q2,x2,_,_,_,_,_,gX2,gB2,gG2,_⟩:=id hI2
  have cl:=qes gB2 oz
  obtain ⟨lf,hlf⟩ : ∃ z,8*(pktOf h b).length-bl=z:=⟨_,rfl⟩
  rw[hlf] at cl
  have lf1:(0:Int)<(lf:Int):=oz
  have lf2:0<lf:=oz
  rw[<- hbq] at hI2
  have cb2:=qgr hI2 hb (by rw[List.length_append]; omega) (by rw[List.length_append]; omega) (by rw[List.length_append]; omega) h7
  refine qi kz ?_
  refine qI 5 (fun K15 hK15=>?_)
  simp[go_sem,e8,gX2,lf1,lf2]
  refine ⟨_,_,cl,?_⟩
  refine hK15 _ _ ?_
  clear hK15 K15
  simp[go_sem,e8,gX2,lf1,lf2]
  refine hK6 _ _ ?_
  try clear hK6 K6
  refine qj (b:=true) (by simp[go_sem,lf1,lf2]) (fun _=>?_) (fun h=>by cases h)
  refine ql ?_
  refine hK5 _ _ ?_
  try clear hK5 K5
  refine qm ?_
  refine qg (fun K16 hK16=>?_)
  refine qp kz ?_
  refine qH 2 (fun K17 hK17=>?_)
  simp[go_sem,e8]
  refine ⟨_,cb2,?_⟩
  rintro _ H3 hn3 ⟨rfl,hI3,hS3⟩
  obtain ⟨rb3,q3,x3,_,_,_,_,_,gX3,gB3,gG3,_⟩:=id hI3
  refine hK17 _ _ ?_
  clear hK17 K17
  simp[go_sem,e8]
  refine hK16 _ _ ?_
  try clear hK16 K16
  refine qg (fun K18 hK18=>?_)
  refine qg (fun K19 hK19=>?_)
  refine qi kz ?_
  simp[go_sem,e8,gX3]
  refine hK19 _ _ ?_
  try clear hK19 K19
  refine qj (b:=false) gz (fun h=>by cases h) (fun _=>?_)
  refine ql ?_
  refine hK18 _ _ ?_
  try clear hK18 K18
  refine qg (fun K20 hK20=>?_)
  refine qg (fun K21 hK21=>?_)
  refine qi kz ?_
  simp[go_sem,e8,gX3]
  refine hK21 _ _ ?_
  try clear hK21 K21
  refine qj (b:=false) gz (fun h=>by cases h) (fun _=>?_)
  refine ql ?_
  refine hK20 _ _ ?_
  try clear hK20 K20
  refine qo (fun K22 hK22=>?_)
  refine qi kz ?_
  simp[go_sem]
  refine hK22 _ _ ?_
  exact ⟨0,oz,2,_,h++b,true,.inr (.inr ⟨rfl,rfl,rfl,rfl⟩),rfl,by simp[go_sem,e0],by simp[go_sem,e8],gz,hI3,hS2.trans hS3⟩
 ·skip
  obtain ⟨rb2,q2,x2,_,_,_,_,_,gX2,gB2,gG2,_⟩:=id hI2
  have cl:=qes gB2 (Nat.le_refl _)
  rw[Nat.sub_self] at cl
  refine qi kz ?_
  refine qI 5 (fun K23 hK23=>?_)
  simp[go_sem,e8,gX2]
  refine ⟨_,_,cl,?_⟩
  refine hK23 _ _ ?_
  clear hK23 K23
  simp[go_sem,e8,gX2]
  refine hK6 _ _ ?_
  try clear hK6 K6
  refine qj (b:=false) gz (fun h=>by cases h) (fun _=>?_)
  refine qy ?_
  refine hK4 _ _ ?_
  try clear hK4 K4
  refine qg (fun K24 hK24=>?_)
  refine qg (fun K25 hK25=>?_)
  refine qi kz ?_
  simp[go_sem,e9]
  refine hK25 _ _ ?_
  try clear hK25 K25
  refine qj (b:=false) gz (fun h=>by cases h) (fun _=>?_)
  refine ql ?_
  refine hK24 _ _ ?_
  try clear hK24 K24
  refine qw (fun env H5 => ∃ y,(env 0 = .ptr M 0/\env 8 = .ptr xb 0/\env 12=y)/\GrN (fun z=>z<H2.next) H5 y 1 B (bV b)/\Step (fun z=>z<H2.next) H2 H5) ?_ ?_
  ·skip
   have hcl:(h++b).length=h.length+B:=by rw[List.length_append,hB]
   obtain ⟨hl,hhq⟩ : ∃ z,h.length=z:=⟨_,rfl⟩
   rw[hhq] at hcl hI2 gX2 hhl
   rw[hcl] at gG2
   obtain ⟨q5,rfl,gq5⟩ : ∃ q5,x2 = .ms q5 0 (hl+B) 1/\H2.get q5=some (bV (h++b)):=by
    rcases gG2 with ⟨_,hz,_⟩ | ⟨q,_,k2,k3,_⟩
    ·omega
    ·exact ⟨q,k2,k3⟩
   have hll:hl<=hl+B:=oz
   have h00:(0:Int)<=(hl:Int):=oz
   have cc:=qj1 (l:=b) (n:=B) (pre:=bV h) (q:=q5) (off:=hl) hB (by rw[qQ,hhq]) oz (H:=H2) (by rw[<- jF]; exact gq5)
   have hsub:hl+B-hl=B:=oz
   refine yU (bf:=[0,1,3,7,0,16,48,112,255,511,1023]) 9 mixed kz kz kz (fun K99 hK99=>?_)
   simp[go_sem,e8,gX2,hll,hsub]
   refine hK99 _ _ ?_
   simp[go_sem]
   refine ⟨_,_,cc,?_⟩
   try simp[go_sem]
   have hff:=zt H2 b oz B oz
   rw[List.take_of_length_le oz] at hff
   exact ⟨_,⟨by simp[go_sem,e0],by simp[go_sem,e8],gz⟩,hff⟩
  clear e0 e8 e9
  rintro env H5 ⟨y,⟨e0,e8,e12⟩,hG5,hS5⟩
  obtain ⟨bo,hgr,hbo,_⟩:=hG5.grown
  refine zG 12 e12 hgr ?_
  have hS6:Step (fun z=>z<H2.next) H2 (H5.delo bo):=hS5.del hbo
  generalize H5.delo bo=H6 at *
  have gX6:=hS6.get gX2 (Heap.lt_of_get gX2)
  have hS06:=hS2.trans (hS6.mono fun z (hz:z<H.next)=>Nat.lt_of_lt_of_le hz hS2.le)
  have gM6:=hS06.get gD hDl
  have hI6:DIn (fun z=>z<H.next) H6 xb (pktOf h b) (8*(pktOf h b).length) (h++b) h.length mo:=by
   obtain ⟨rb,q,x,k1,k2,k3,k4,k5,k6,k7,k8,k9⟩:=hI2
   exact ⟨rb,q,x,k1,k2,k3,k4,k5,hS6.get k6 (Heap.lt_of_get k6),⟨hS6.get k7.1 (Heap.lt_of_get k7.1),hS6.get k7.2.1 (Heap.lt_of_get k7.2.1),k7.2.2⟩,k8.keep (fun k cs hk=>hS6.get hk (Heap.lt_of_get hk)),fun z hz=>Nat.lt_of_lt_of_le (k9 z hz) hS6.le⟩
  clear gX6
  obtain ⟨rb6,q6,x6,_,_,_,_,_,gX6,gB6,gG6,_⟩:=id hI6
  have hx36:HistB (fun _=>False) H6 x6 (h++b):=by
   rcases gG6 with ⟨k1,k2,k3⟩ | ⟨q,_,k2,k3,_⟩
   ·exact .inl ⟨k1,List.eq_nil_of_length_eq_zero k2⟩
   ·exact .inr ⟨q,[],id,k2,k3⟩
  have cl36:=qo8 (by rw[List.length_append]; omega) hx36
  have hLl:(lastW (h++b)).length=min (h.length+B) 32768:=by rw[yD,List.length_append,hB]
  refine qg (fun K27 hK27=>?_)
  generalize lastW (h++b)=lw at *
  have hxl:x6.leaf=true:=by obtain ⟨_,_,_,h9,_⟩:=gG6.grown; exact h9
  obtain ⟨N9,hN9⟩ : ∃ z,(h++b).length=z:=⟨_,rfl⟩
  rw[hN9] at gG6
  rw[List.length_append] at hN9
  obtain ⟨q9,rfl⟩ : ∃ q9,x6 = .ms q9 0 N9 1:=by
   rcases gG6 with ⟨_,hz,_⟩ | ⟨q,_,k2,_,_⟩
   ·omega
   ·exact ⟨q,k2⟩
  obtain ⟨LL,hLL⟩ : ∃ z,lw.length=z:=⟨_,rfl⟩
  rw[hLL] at cl36 hLl
  refine qo (fun K28 hK28=>?_)
  refine qp kz ?_
  refine qH 6 (fun K29 hK29=>?_)
  simp[go_sem,e0,e8,gX6]
  refine ⟨_,cl36,?_⟩
  rintro y7 H7 hn7 ⟨hG7,hS7⟩
  obtain ⟨q3,k91,rfl,gq7,_⟩ : ∃ q3,¬ q3<H6.next/\y7 = .ms q3 0 LL 1/\H7.get q3=some (bV lw)/\True:=by
   rcases hG7 with ⟨_,hz,_⟩ | ⟨q3,k1,k2,k3,k4⟩
   ·omega
   ·exact ⟨q3,k1,k2,k3,trivial⟩
  have gM7:=hS7.get gM6 (Heap.lt_of_get gM6)
  refine hK29 _ _ ?_
  clear hK29 K29
  simp[go_sem,gM7]
  refine hK28 _ _ ?_
  refine hK27 _ _ ?_
  try clear hK27 K27
  refine qg (fun K30 hK30=>?_)
  refine qi kz ?_
  simp[go_sem]
  refine hK30 _ _ ?_
  try clear hK30 K30
  refine qx ?_
  simp only[go_sem]
  refine hR _ _ ?_
  have hS07:=hS06.trans (hS7.mono fun z (hz:z<H.next)=>Nat.lt_of_lt_of_le hz hS06.le)
  have hq7l:=Heap.lt_of_get gq7
  have h6l:=hS06.le
  have hS8:Step (fun z=>z<H.next /\ ¬ O z) H (H7.set M [.ms q3 0 LL 1]):=(hS07.mono fun z hz=>hz.1).set (fun e=>e.2 hOM) (by simp[go_sem]; exact hq7l)
  have hn8:(H7.set M [.ms q3 0 LL 1]).next=H7.next:=Heap.next_set _ _ _
  refine hS8.retP (r:=.tup [bA b,.int 0]) (by simp[go_sem,bA,hB]) ⟨rfl,fun z=>(O z\/H.next<=z)/\z<H7.next,⟨_,⟨.inl hOM,oz⟩,by rw[Heap.get_set,if_pos rfl,gM7]; rfl,.inr ⟨q3,⟨.inr oz,hq7l⟩,oz,by rw[hLL],by rw[Heap.get_set,if_neg oz]; exact gq7⟩,oz,fun z hz=>by rw[hn8]; exact hz.2⟩,⟨hS8,fun z hz hl=>hz.1.elim id (fun e=>by omega)⟩⟩ (.tup fun z hz=>by
   simp only[List.mem_cons,List.not_mem_nil,or_false] at hz
   rcases hz with rfl | rfl
   ·rw[qgu]; trivial
   ·exact .sc _)
end Go.Proofs.YtfokgjhdndnnhaaGreatDoor
end X14S
