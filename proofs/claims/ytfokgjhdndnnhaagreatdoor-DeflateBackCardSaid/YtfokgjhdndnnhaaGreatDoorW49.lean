/- Contracts: a block, read. -/
import Derived.Test.YtfokgjhdndnnhaaGreatDoorW44
import Derived.Test.YtfokgjhdndnnhaaGreatDoorW26
set_option maxHeartbeats 1000000
set_option linter.unusedVariables false
set_option linter.unusedSimpArgs false
set_option maxRecDepth 20000
noncomputable section W45S
namespace Go.Proofs.YtfokgjhdndnnhaaGreatDoor
open Go Go.Fl Go.Proofs
theorem qda {S:Nat->Prop} {H:Heap} {ib p fr mo:Nat} {b all:List UInt8} (hI:InR S H ib b p all fr mo) (hb:b.length<=100000) (hp:p<=8*b.length) {f n q:Nat} (hf:f<2) (hA:Ahead b p (natBits 1 f++natBits 2 0)) (hq:(p+1+2+7)/8*8=8*q) (hn:bitsAt b (8*q) 16=n) (hm:bitsAt b (8*q+16) 16=n ^^^ 65535) (hl:q+4+n<=b.length) (h1:fr<=all.length) (h2:all.length<=1000000) (h3:all.length+n<=fr+mo) (h4:mo<=1000000):SCallsP Tryz.prog 27 [.ptr ib 0] H (fun r H'=>r = .tup [.bool (decide (f=1)),.bool (decide (n=0)),.sc .nilIface]/\InR S H' ib b (8*(q+4+n)) (all++(b.drop (q+4)).take n) fr mo/\Step S H H'):=by
 have hA2:=hA.next
 have hrm:=hA.fst.room hp
 have hrm2:=hA2.room hrm
 rw[qB] at hA2 hrm hrm2
 rw[qB] at hrm2
 have c1:=yh hI hb (n:=1) hrm dz
 have hf2:f<2^1:=hf
 rw[hA.fst.bits hf2] at c1
 refine qA (sz:=61) (Tryz.call27) Tryz.func27 rfl kz (fun R hR=>?_)
 refine qg (fun K1 hK1=>?_)
 refine qi kz ?_
 simp[go_sem]
 refine hK1 _ _ ?_
 try clear hK1 K1
 refine qg (fun K2 hK2=>?_)
 refine qp kz ?_
 refine qH 2 (fun K3 hK3=>?_)
 simp[go_sem]
 refine ⟨_,c1,?_⟩
 rintro _ H1 hn1 ⟨rfl,hI1,hS1⟩
 have c2:=yh hI1 hb (n:=2) hrm2 dz
 rw[hA2.bits dz] at c2
 refine hK3 _ _ ?_
 clear hK3 K3
 simp[go_sem]
 refine hK2 _ _ ?_
 try clear hK2 K2
 refine qg (fun K4 hK4=>?_)
 refine qg (fun K5 hK5=>?_)
 refine qi kz ?_
 simp[go_sem]
 refine hK5 _ _ ?_
 try clear hK5 K5
 refine qj (b:=false) gz (fun h=>by cases h) (fun _=>?_)
 refine ql ?_
 refine hK4 _ _ ?_
 try clear hK4 K4
 refine qg (fun K6 hK6=>?_)
 refine qp kz ?_
 refine qH 2 (fun K7 hK7=>?_)
 simp[go_sem]
 refine ⟨_,c2,?_⟩
 rintro _ H2 hn2 ⟨rfl,hI2,hS2⟩
 have c3:=plain_p hI2 hb hrm2 hq hn hm hl h1 h2 h3 h4
 refine hK7 _ _ ?_
 clear hK7 K7
 simp[go_sem]
 refine hK6 _ _ ?_
 try clear hK6 K6
 refine qg (fun K8 hK8=>?_)
 refine qg (fun K9 hK9=>?_)
 refine qi kz ?_
 simp[go_sem]
 refine hK9 _ _ ?_
 try clear hK9 K9
 refine qj (b:=false) gz (fun h=>by cases h) (fun _=>?_)
 refine ql ?_
 refine hK8 _ _ ?_
 try clear hK8 K8
 refine qg (fun K10 hK10=>?_)
 refine qi kz ?_
 simp[go_sem]
 refine hK10 _ _ ?_
 try clear hK10 K10
 refine qg (fun K11 hK11=>?_)
 refine qi kz ?_
 simp[go_sem]
 refine hK11 _ _ ?_
 try clear hK11 K11
 refine qg (fun K12 hK12=>?_)
 refine qg (fun K13 hK13=>?_)
 refine qi kz ?_
 simp[go_sem]
 refine hK13 _ _ ?_
 try clear hK13 K13
 refine qm ?_
 refine qg (fun K14 hK14=>?_)
 refine qm ?_
 refine qg (fun K15 hK15=>?_)
 refine qm ?_
 refine qg (fun K16 hK16=>?_)
 refine qm ?_
 refine qg (fun K17 hK17=>?_)
 refine qm ?_
 refine qg (fun K18 hK18=>?_)
 refine qg (fun K19 hK19=>?_)
 refine qg (fun K20 hK20=>?_)
 refine qi kz ?_
 simp[go_sem]
 refine hK20 _ _ ?_
 try clear hK20 K20
 refine qj (b:=true) gz (fun _=>?_) (fun h=>by cases h)
 refine qy ?_
 refine hK17 _ _ ?_
 try clear hK17 K17
 refine qg (fun K21 hK21=>?_)
 refine qp kz ?_
 refine qH 2 (fun K22 hK22=>?_)
 simp[go_sem]
 refine ⟨_,c3,?_⟩
 rintro _ H3 hn3 ⟨rfl,hI3,hS3⟩
 have hS:=(hS1.trans hS2).trans hS3
 refine hK22 _ _ ?_
 clear hK22 K22
 simp[go_sem]
 refine hK21 _ _ ?_
 try clear hK21 K21
 refine qy ?_
 refine hK12 _ _ ?_
 try clear hK12 K12
 refine qg (fun K23 hK23=>?_)
 refine qi kz ?_
 simp[go_sem]
 refine hK23 _ _ ?_
 try clear hK23 K23
 refine qx ?_
 simp only[go_sem]
 refine hR _ _ ?_
 refine hS.retP (r:=.tup [.bool (decide (f=1)),.bool (decide (n=0)),.sc .nilIface]) (by simp[go_sem]; rw[Bool.eq_iff_iff]; simp; omega) ⟨rfl,hI3,hS⟩ gz
end Go.Proofs.YtfokgjhdndnnhaaGreatDoor
end W45S
set_option maxRecDepth 20000
noncomputable section W46S
namespace Go.Proofs.YtfokgjhdndnnhaaGreatDoor
open Go Go.Fl Go.Proofs
theorem qig (H:Heap):SCalls Tryz.prog 54 [] H (.tup [tabA fixS,tabA fixD]) H:=qO qh9 (by simp) (by simp[go_sem,zT]) H
theorem qjt {S:Nat->Prop} {H:Heap} {ib p fr mo:Nat} {b all:List UInt8} (hI:InR S H ib b p all fr mo) (hb:b.length<=100000) (hp:p<=8*b.length) {f:Nat} (hf:f<2) (toks:List Tok) (hA:Ahead b p (natBits 1 f++(natBits 2 1++(toksBits fixS fixD toks++symBits fixS 256)))) (hto : ∀ t∈toks,TokOk fixS fixD t) (hok:okT toks all.length) (h4:fr<=all.length) (h5:(Go.Fl.runT toks all).length<=900000) (h6:(Go.Fl.runT toks all).length<=fr+mo) (h7:mo<=1000000):SCallsP Tryz.prog 27 [.ptr ib 0] H (fun r H'=>r = .tup [.bool (decide (f=1)),.bool false,.sc .nilIface]/\InR S H' ib b (p+1+2+(toksBits fixS fixD toks++symBits fixS 256).length) (Go.Fl.runT toks all) fr mo/\Step S H H'):=by
 have hA2:=hA.next
 have hrm:=hA.fst.room hp
 rw[qB] at hA2 hrm
 have hA3:=hA2.next
 have hrm2:=hA2.fst.room hrm
 rw[qB] at hA3 hrm2
 have c1:=yh hI hb (n:=1) hrm dz
 have hf2:f<2^1:=hf
 rw[hA.fst.bits hf2] at c1
 obtain ⟨BL,hBL⟩ : ∃ z,(toksBits fixS fixD toks++symBits fixS 256).length=z:=⟨_,rfl⟩
 rw[hBL]
 have c4:=qig
 refine qA (sz:=61) (Tryz.call27) Tryz.func27 rfl kz (fun R hR=>?_)
 refine qg (fun K1 hK1=>?_)
 refine qi kz ?_
 simp[go_sem]
 refine hK1 _ _ ?_
 try clear hK1 K1
 refine qg (fun K2 hK2=>?_)
 refine qp kz ?_
 refine qH 2 (fun K3 hK3=>?_)
 simp[go_sem]
 refine ⟨_,c1,?_⟩
 rintro _ H1 hn1 ⟨rfl,hI1,hS1⟩
 have c2:=yh hI1 hb (n:=2) hrm2 dz
 rw[hA2.fst.bits dz] at c2
 refine hK3 _ _ ?_
 clear hK3 K3
 simp[go_sem]
 refine hK2 _ _ ?_
 try clear hK2 K2
 refine qg (fun K4 hK4=>?_)
 refine qg (fun K5 hK5=>?_)
 refine qi kz ?_
 simp[go_sem]
 refine hK5 _ _ ?_
 try clear hK5 K5
 refine qj (b:=false) gz (fun h=>by cases h) (fun _=>?_)
 refine ql ?_
 refine hK4 _ _ ?_
 try clear hK4 K4
 refine qg (fun K6 hK6=>?_)
 refine qp kz ?_
 refine qH 2 (fun K7 hK7=>?_)
 simp[go_sem]
 refine ⟨_,c2,?_⟩
 rintro _ H2 hn2 ⟨rfl,hI2,hS2⟩
 have c3:=qif hI2 hb hrm2 qgj qgk toks hto hok (qbx dz) hA3 h4 h5 h6 h7
 rw[hBL] at c3
 refine hK7 _ _ ?_
 clear hK7 K7
 simp[go_sem]
 refine hK6 _ _ ?_
 try clear hK6 K6
 refine qg (fun K8 hK8=>?_)
 refine qg (fun K9 hK9=>?_)
 refine qi kz ?_
 simp[go_sem]
 refine hK9 _ _ ?_
 try clear hK9 K9
 refine qj (b:=false) gz (fun h=>by cases h) (fun _=>?_)
 refine ql ?_
 refine hK8 _ _ ?_
 try clear hK8 K8
 refine qg (fun K10 hK10=>?_)
 refine qi kz ?_
 simp[go_sem]
 refine hK10 _ _ ?_
 try clear hK10 K10
 refine qg (fun K11 hK11=>?_)
 refine qi kz ?_
 simp[go_sem]
 refine hK11 _ _ ?_
 try clear hK11 K11
 refine qg (fun K12 hK12=>?_)
 refine qg (fun K13 hK13=>?_)
 refine qi kz ?_
 simp[go_sem]
 refine hK13 _ _ ?_
 try clear hK13 K13
 refine qm ?_
 refine qg (fun K14 hK14=>?_)
 refine qm ?_
 refine qg (fun K15 hK15=>?_)
 refine qm ?_
 refine qg (fun K16 hK16=>?_)
 refine qm ?_
 refine qg (fun K17 hK17=>?_)
 refine qm ?_
 refine qg (fun K18 hK18=>?_)
 refine qg (fun K19 hK19=>?_)
 refine qg (fun K20 hK20=>?_)
 refine qi kz ?_
 simp[go_sem]
 refine hK20 _ _ ?_
 try clear hK20 K20
 refine qj (b:=false) gz (fun h=>by cases h) (fun _=>?_)
 refine ql ?_
 refine hK19 _ _ ?_
 try clear hK19 K19
 refine qg (fun K21 hK21=>?_)
 refine qg (fun K22 hK22=>?_)
 refine qi kz ?_
 simp[go_sem]
 refine hK22 _ _ ?_
 try clear hK22 K22
 refine qj (b:=false) gz (fun h=>by cases h) (fun _=>?_)
 refine ql ?_
 refine hK21 _ _ ?_
 try clear hK21 K21
 refine qg (fun K23 hK23=>?_)
 refine qi kz ?_
 simp[go_sem]
 refine hK23 _ _ ?_
 try clear hK23 K23
 refine qj (b:=true) gz (fun _=>?_) (fun h=>by cases h)
 refine qy ?_
 refine hK15 _ _ ?_
 try clear hK15 K15
 refine qg (fun K24 hK24=>?_)
 refine qg (fun K25 hK25=>?_)
 refine qg (fun K26 hK26=>?_)
 refine qi kz ?_
 simp[go_sem]
 refine hK26 _ _ ?_
 try clear hK26 K26
 refine qj (b:=true) gz (fun _=>?_) (fun h=>by cases h)
 refine qi kz ?_
 refine qI 1 (fun K27 hK27=>?_)
 simp[go_sem]
 refine ⟨_,_,(c4 _),?_⟩
 refine hK27 _ _ ?_
 clear hK27 K27
 simp[go_sem]
 refine hK25 _ _ ?_
 try clear hK25 K25
 refine qp kz ?_
 refine qH 4 (fun K28 hK28=>?_)
 simp[go_sem]
 refine ⟨_,c3,?_⟩
 rintro _ H3 hn3 ⟨rfl,hI3,hS3⟩
 have hS:=(hS1.trans hS2).trans hS3
 refine hK28 _ _ ?_
 clear hK28 K28
 simp[go_sem]
 refine hK24 _ _ ?_
 try clear hK24 K24
 refine qy ?_
 refine hK12 _ _ ?_
 try clear hK12 K12
 refine qg (fun K29 hK29=>?_)
 refine qi kz ?_
 simp[go_sem]
 refine hK29 _ _ ?_
 try clear hK29 K29
 refine qx ?_
 simp only[go_sem]
 refine hR _ _ ?_
 refine hS.retP (r:=.tup [.bool (decide (f=1)),.bool false,.sc .nilIface]) (by simp[go_sem]; rw[Bool.eq_iff_iff]; simp; omega) ⟨rfl,hI3,hS⟩ gz
end Go.Proofs.YtfokgjhdndnnhaaGreatDoor
end W46S
set_option maxRecDepth 20000
noncomputable section W47S
namespace Go.Proofs.YtfokgjhdndnnhaaGreatDoor
open Go Go.Fl Go.Proofs
theorem order_s  : SCalls Tryz.prog 83 [] Heap.empty (iA ordL) Heap.empty:=by
 refine qE (sz:=2) (Tryz.call83) Tryz.func83 rfl (Nat.zero_le _) kz (fun R hR=>?_)
 refine qg (fun K1 hK1=>?_)
 refine qi kz ?_
 simp[go_sem]
 refine hK1 _ _ ?_
 try clear hK1 K1
 refine qg (fun K2 hK2=>?_)
 refine qo (fun K99 hK99=>?_)
 refine qM kz ?_
 refine jE (.ms 0 0 19 1) (Heap.empty.alloc (iV ordL)) rfl (qd3 kz) ?_
 refine zJ ?_
 simp[go_sem]
 refine hK99 _ _ ?_
 refine hK2 _ _ ?_
 try clear hK2 K2
 refine qx ?_
 simp only[go_sem]
 refine hR _ _ ?_
 have hlt : ∀ y∈iV ordL,∀ k,y.Lt k:=fun y hy k=>jb ordL k y hy
 have hln:19*1=(iV ordL).length:=rfl
 clear hR
 have hq:iA ordL = .vs 19 1 (iV ordL):=rfl
 rw[hq]
 generalize iV ordL=cx at *
 have g:(Heap.empty.alloc cx).get 0=some cx:=by rw[Heap.get_alloc]; exact if_pos rfl
 refine zD (v:=.ms 0 0 19 1) gz (jh (grown_of g hln) (fun b _=>Nat.zero_le _)) (qP _) (Nat.zero_le _) (.vs fun y hy=>hlt y hy _)
theorem order_H (H:Heap):SCalls Tryz.prog 83 [] H (iA ordL) H:=qO order_s (by simp) (by rw[zI]; trivial) H
end Go.Proofs.YtfokgjhdndnnhaaGreatDoor
end W47S
set_option maxRecDepth 20000
noncomputable section W48S
namespace Go.Proofs.YtfokgjhdndnnhaaGreatDoor
open Go Go.Fl Go.Proofs
@[go_sem] theorem tU140:Tryz.prog.underlying 140=some (.array 3 3):=kz
theorem heads_p {H:Heap} {ib rb p:Nat} {x:AV} {fr mo:Int} {b:List UInt8} (ne:rb≠ib) (gI:H.get ib=some [.ptr rb 0,x,.int fr,.int mo]) (gR:H.get rb=some (rdC b p)) (hb:b.length<=100000) (hp:p<=8*b.length) {n0 n1 n2:Nat} (h0:n0<2^5) (h1:n1<2^5) (h2:n2<2^4) (hA:Ahead b p (natBits 5 n0++(natBits 5 n1++natBits 4 n2))):SCallsP Tryz.prog 82 [.ptr ib 0] H (fun r H'=>r = .tup [.agg [.int ((n0:Int)+257),.int ((n1:Int)+1),.int ((n2:Int)+4)],.sc .nilIface]/\H'.get rb=some (rdC b (p+5+5+4))/\Step (fun z=>z<H.next/\z≠rb) H H'):=by
 have b0:=hA.fst.bits h0
 have q0:=hA.fst.room hp
 have hA1:=hA.next
 rw[qB] at hA1 q0
 have b1:=hA1.fst.bits h1
 have q1:=hA1.fst.room q0
 have hA2:=hA1.next
 rw[qB] at hA2 q1
 have b2:=hA2.bits h2
 have q2:=hA2.room q1
 rw[qB] at q2
 clear hA hA1 hA2
 have hIl:=Heap.lt_of_get gI
 have hRl:=Heap.lt_of_get gR
 have l0:n0<32:=h0
 have l1:n1<32:=h1
 have l2:n2<16:=h2
 have w0:IntKind.i64.wrap ((n0:Int)+257)=(n0:Int)+257:=i64in _ oz oz
 have w1:IntKind.i64.wrap ((n1:Int)+1)=(n1:Int)+1:=i64in _ oz oz
 have w2:IntKind.i64.wrap ((n2:Int)+4)=(n2:Int)+4:=i64in _ oz oz
 have k1:IntKind.i64.wrap 1=1:=rfl
 have k2:IntKind.i64.wrap 2=2:=rfl
 have k3:IntKind.i64.wrap 3=3:=rfl
 refine qA (sz:=33) (Tryz.call82) Tryz.func82 rfl kz (fun R hR=>?_)
 refine qg (fun K1 hK1=>?_)
 refine qi kz ?_
 simp[go_sem]
 refine hK1 _ _ ?_
 try clear hK1 K1
 refine qg (fun K2 hK2=>?_)
 refine qi kz ?_
 simp[go_sem]
 refine hK2 _ _ ?_
 try clear hK2 K2
 refine qg (fun K3 hK3=>?_)
 refine qg (fun K4 hK4=>?_)
 refine qi kz ?_
 simp[go_sem]
 refine hK4 _ _ ?_
 try clear hK4 K4
 refine qm ?_
 refine qC (Inv:=fun m0 env H2 => ∃ (i p2:Nat) (cs:List AV),((i=0/\cs = [.int 0,.int 0,.int 0]/\p2=p)\/(i=1/\cs = [.int ((n0:Int)+257),.int 0,.int 0]/\p2=p+5)\/(i=2/\cs = [.int ((n0:Int)+257),.int ((n1:Int)+1),.int 0]/\p2=p+5+5)\/(i=3/\cs = [.int ((n0:Int)+257),.int ((n1:Int)+1),.int ((n2:Int)+4)]/\p2=p+5+5+4))/\m0=3-i/\env 0 = .ptr ib 0/\env 2 = .ptr H.next 0/\env 4 = .ptr (H.next+1) 0/\env 9 = .agg [.int 5,.int 5,.int 4]/\env 10 = .int i/\H2.get (H.next+1)=some cs/\H2.get H.next=some [.int 0,.int 0,.int 0]/\H2.get rb=some (rdC b p2)/\Step (fun z=>z<H.next/\z≠rb) H H2) ?_ (n:=3) (⟨0,p,_,.inl ⟨rfl,rfl,rfl⟩,rfl,gz,gz,gz,gz,gz,gz,gz,by rw[Heap.get_alloc,Heap.get_alloc,if_neg (by rw[Heap.next_alloc]; omega),if_neg oz]; exact gR,((Step.refl _ _).alloc gz).alloc gz⟩)
 rintro m0 env H2 ⟨i,p2,cs,hc,rfl,e0,e2,e4,e9,e10,gL,gA,gR2,hS⟩
 refine qg (fun K5 hK5=>?_)
 rcases hc with ⟨rfl,rfl,rfl⟩ | ⟨rfl,rfl,rfl⟩ | ⟨rfl,rfl,rfl⟩ | ⟨rfl,rfl,rfl⟩
 ·skip
  have gI2:=hS.get gI ⟨hIl,fun e=>ne e.symm⟩
  have hL2:=Heap.lt_of_get gL
  refine qi kz ?_
  simp[go_sem,e10]
  refine hK5 _ _ ?_
  try clear hK5 K5
  refine qg (fun K6 hK6=>?_)
  refine qj (b:=true) gz (fun _=>?_) (fun h=>by cases h)
  refine ql ?_
  refine hK6 _ _ ?_
  try clear hK6 K6
  refine qg (fun K7 hK7=>?_)
  refine qm ?_
  refine qg (fun K8 hK8=>?_)
  refine qi kz ?_
  simp[go_sem,e9,e10]
  refine hK8 _ _ ?_
  try clear hK8 K8
  refine qg (fun K9 hK9=>?_)
  have ct:=qep gI2 gR2 hb (n:=5) oz dz
  rw[b0] at ct
  refine qp kz ?_
  refine qH 3 (fun K10 hK10=>?_)
  simp[go_sem,e0]
  refine ⟨_,ct,?_⟩
  rintro _ H3 hn3 ⟨rfl,gR3,hS3⟩
  have gL3:=hS3.get gL (by show _≠_; omega)
  have gA3:=hS3.get gA (by show _≠_; omega)
  refine hK10 _ _ ?_
  clear hK10 K10
  simp[go_sem,e0]
  refine hK9 _ _ ?_
  try clear hK9 K9
  refine qg (fun K11 hK11=>?_)
  refine qg (fun K12 hK12=>?_)
  refine qi kz ?_
  simp[go_sem]
  refine hK12 _ _ ?_
  try clear hK12 K12
  refine qj (b:=false) gz (fun h=>by cases h) (fun _=>?_)
  refine ql ?_
  refine hK11 _ _ ?_
  try clear hK11 K11
  refine qo (fun K13 hK13=>?_)
  refine qi kz ?_
  simp[go_sem,e4,gL3,w0]
  refine hK13 _ _ ?_
  refine hK7 _ _ ?_
  try clear hK7 K7
  refine qo (fun K14 hK14=>?_)
  refine qi kz ?_
  simp[go_sem,e10,k1,k2,k3]
  refine hK14 _ _ ?_
  exact ⟨2,oz,1,_,_,(.inr (.inl ⟨rfl,rfl,rfl⟩)),rfl,by simp[go_sem,e0],by simp[go_sem,e2],by simp[go_sem,e4],by simp[go_sem,e9],gz,by simp[go_sem,gL3],by rw[Heap.get_set,if_neg oz]; exact gA3,by rw[Heap.get_set,if_neg oz]; exact gR3,(hS.trans (hS3.mono fun z hz=>hz.2)).set (fun hz=>by have h9:H.next+1<H.next/\H.next+1≠rb:=hz; omega) gz⟩
 ·skip
  have gI2:=hS.get gI ⟨hIl,fun e=>ne e.symm⟩
  have hL2:=Heap.lt_of_get gL
  refine qi kz ?_
  simp[go_sem,e10]
  refine hK5 _ _ ?_
  try clear hK5 K5
  refine qg (fun K15 hK15=>?_)
  refine qj (b:=true) gz (fun _=>?_) (fun h=>by cases h)
  refine ql ?_
  refine hK15 _ _ ?_
  try clear hK15 K15
  refine qg (fun K16 hK16=>?_)
  refine qm ?_
  refine qg (fun K17 hK17=>?_)
  refine qi kz ?_
  simp[go_sem,e9,e10]
  refine hK17 _ _ ?_
  try clear hK17 K17
  refine qg (fun K18 hK18=>?_)
  have ct:=qep gI2 gR2 hb (n:=5) oz dz
  rw[b1] at ct
  refine qp kz ?_
  refine qH 3 (fun K19 hK19=>?_)
  simp[go_sem,e0]
  refine ⟨_,ct,?_⟩
  rintro _ H3 hn3 ⟨rfl,gR3,hS3⟩
  have gL3:=hS3.get gL (by show _≠_; omega)
  have gA3:=hS3.get gA (by show _≠_; omega)
  refine hK19 _ _ ?_
  clear hK19 K19
  simp[go_sem,e0]
  refine hK18 _ _ ?_
  try clear hK18 K18
  refine qg (fun K20 hK20=>?_)
  refine qg (fun K21 hK21=>?_)
  refine qi kz ?_
  simp[go_sem]
  refine hK21 _ _ ?_
  try clear hK21 K21
  refine qj (b:=false) gz (fun h=>by cases h) (fun _=>?_)
  refine ql ?_
  refine hK20 _ _ ?_
  try clear hK20 K20
  refine qo (fun K22 hK22=>?_)
  refine qi kz ?_
  simp[go_sem,e4,gL3,w1]
  refine hK22 _ _ ?_
  refine hK16 _ _ ?_
  try clear hK16 K16
  refine qo (fun K23 hK23=>?_)
  refine qi kz ?_
  simp[go_sem,e10,k1,k2,k3]
  refine hK23 _ _ ?_
  exact ⟨1,oz,2,_,_,(.inr (.inr (.inl ⟨rfl,rfl,rfl⟩))),rfl,by simp[go_sem,e0],by simp[go_sem,e2],by simp[go_sem,e4],by simp[go_sem,e9],gz,by simp[go_sem,gL3],by rw[Heap.get_set,if_neg oz]; exact gA3,by rw[Heap.get_set,if_neg oz]; exact gR3,(hS.trans (hS3.mono fun z hz=>hz.2)).set (fun hz=>by have h9:H.next+1<H.next/\H.next+1≠rb:=hz; omega) gz⟩
 ·skip
  have gI2:=hS.get gI ⟨hIl,fun e=>ne e.symm⟩
  have hL2:=Heap.lt_of_get gL
  refine qi kz ?_
  simp[go_sem,e10]
  refine hK5 _ _ ?_
  try clear hK5 K5
  refine qg (fun K24 hK24=>?_)
  refine qj (b:=true) gz (fun _=>?_) (fun h=>by cases h)
  refine ql ?_
  refine hK24 _ _ ?_
  try clear hK24 K24
  refine qg (fun K25 hK25=>?_)
  refine qm ?_
  refine qg (fun K26 hK26=>?_)
  refine qi kz ?_
  simp[go_sem,e9,e10]
  refine hK26 _ _ ?_
  try clear hK26 K26
  refine qg (fun K27 hK27=>?_)
  have ct:=qep gI2 gR2 hb (n:=4) oz dz
  rw[b2] at ct
  refine qp kz ?_
  refine qH 3 (fun K28 hK28=>?_)
  simp[go_sem,e0]
  refine ⟨_,ct,?_⟩
  rintro _ H3 hn3 ⟨rfl,gR3,hS3⟩
  have gL3:=hS3.get gL (by show _≠_; omega)
  have gA3:=hS3.get gA (by show _≠_; omega)
  refine hK28 _ _ ?_
  clear hK28 K28
  simp[go_sem,e0]
  refine hK27 _ _ ?_
  try clear hK27 K27
  refine qg (fun K29 hK29=>?_)
  refine qg (fun K30 hK30=>?_)
  refine qi kz ?_
  simp[go_sem]
  refine hK30 _ _ ?_
  try clear hK30 K30
  refine qj (b:=false) gz (fun h=>by cases h) (fun _=>?_)
  refine ql ?_
  refine hK29 _ _ ?_
  try clear hK29 K29
  refine qo (fun K31 hK31=>?_)
  refine qi kz ?_
  simp[go_sem,e4,gL3,w2]
  refine hK31 _ _ ?_
  refine hK25 _ _ ?_
  try clear hK25 K25
  refine qo (fun K32 hK32=>?_)
  refine qi kz ?_
  simp[go_sem,e10,k1,k2,k3]
  refine hK32 _ _ ?_
  exact ⟨0,oz,3,_,_,(.inr (.inr (.inr ⟨rfl,rfl,rfl⟩))),rfl,by simp[go_sem,e0],by simp[go_sem,e2],by simp[go_sem,e4],by simp[go_sem,e9],gz,by simp[go_sem,gL3],by rw[Heap.get_set,if_neg oz]; exact gA3,by rw[Heap.get_set,if_neg oz]; exact gR3,(hS.trans (hS3.mono fun z hz=>hz.2)).set (fun hz=>by have h9:H.next+1<H.next/\H.next+1≠rb:=hz; omega) gz⟩
 ·skip
  refine qi kz ?_
  simp[go_sem,e10]
  refine hK5 _ _ ?_
  try clear hK5 K5
  refine qg (fun K33 hK33=>?_)
  refine qj (b:=false) gz (fun h=>by cases h) (fun _=>?_)
  refine qy ?_
  refine hK3 _ _ ?_
  try clear hK3 K3
  refine qg (fun K34 hK34=>?_)
  refine qo (fun K35 hK35=>?_)
  refine qi kz ?_
  simp[go_sem,e2,e4,gL,gA]
  refine hK35 _ _ ?_
  refine hK34 _ _ ?_
  try clear hK34 K34
  refine qx ?_
  simp only[go_sem]
  refine hR _ _ ?_
  have hSf:Step (fun z=>z<H.next/\z≠rb) H (H2.set H.next [.int ((n0:Int)+257),.int ((n1:Int)+1),.int ((n2:Int)+4)]):=hS.set (fun hz=>absurd hz.1 (Nat.lt_irrefl _)) gz
  have gA2:(H2.set H.next [.int ((n0:Int)+257),.int ((n1:Int)+1),.int ((n2:Int)+4)]).get H.next=some [.int ((n0:Int)+257),.int ((n1:Int)+1),.int ((n2:Int)+4)]:=by rw[Heap.get_set,if_pos rfl,gA]; rfl
  refine hSf.retP (r:=.tup [.agg [.int ((n0:Int)+257),.int ((n1:Int)+1),.int ((n2:Int)+4)],.sc .nilIface]) (by simp[go_sem,e2,gA2]) ⟨rfl,?_,hSf⟩ gz
  rw[Heap.get_set,if_neg oz]
  exact gR2
end Go.Proofs.YtfokgjhdndnnhaaGreatDoor
end W48S
set_option maxRecDepth 20000
noncomputable section W49S
namespace Go.Proofs.YtfokgjhdndnnhaaGreatDoor
open Go Go.Fl Go.Proofs
theorem qgo (l:List Nat) (k n:Nat):cnt (l++List.replicate k 0) n=cnt l n:=by
 unfold cnt
 split
 ·rfl
 ·rename_i h
  rw[List.count_append,List.count_replicate]
  have h2:((0:Nat)==n)=false:=by simp; omega
  rw[h2]; rfl
theorem qih (l:List Nat) (k:Nat) : ∀ n,asum (l++List.replicate k 0) n=asum l n
 | 0=>rfl
 | n+1=>by simp only[asum,qih l k n,qgo]
theorem qii (l:List Nat) (k:Nat) : ∀ n,ksum (l++List.replicate k 0) n=ksum l n
 | 0=>rfl
 | n+1=>by simp only[ksum,qii l k n,qgo]
theorem qij (l:List Nat) (k:Nat) : ∀ n,fstC (l++List.replicate k 0) n=fstC l n
 | 0=>rfl
 | n+1=>by simp only[fstC,qij l k n,qgo]
theorem qfq (x:List Nat) (n:Nat) : ∃ k,x=trimL x n++List.replicate k 0:=by
 refine ⟨x.length-trimE x n x.length,?_⟩
 obtain ⟨h1,_,h3⟩:=qam x n x.length
 unfold trimL
 refine List.ext_getElem? fun i=>?_
 rcases Nat.lt_or_ge i (trimE x n x.length) with h | h
 ·rw[List.getElem?_append_left (by rw[List.length_take]; omega),List.getElem?_take_of_lt h]
 ·rw[List.getElem?_append_right (by rw[List.length_take]; omega),List.length_take,Nat.min_eq_left h1,List.getElem?_replicate]
  rcases Nat.lt_or_ge i x.length with h2 | h2
  ·rw[if_pos oz,List.getElem?_eq_getElem h2,<- qU h2,h3 i h h2]
  ·rw[if_neg oz,List.getElem?_eq_none h2]
theorem qms {x:List Nat} {n:Nat} (h:WholeL x):WholeL (trimL x n):=by
 obtain ⟨k,hk⟩:=qfq x n
 unfold WholeL at h |-
 rw[hk,qii,qih,qgo] at h
 exact h
theorem yZ {x:List Nat} {n:Nat} (h:LensOk x):LensOk (trimL x n):=by
 refine ⟨?_,fun s=>by rw[jr]; exact h.le s,qms h.whole⟩
 have:=h.len
 unfold trimL
 rw[List.length_take]
 omega
theorem yg (x:List Nat) (n:Nat):symBits (trimL x n)=symBits x:=by
 funext s
 unfold symBits
 rw[jr]
 rcases Nat.eq_zero_or_pos (x.getD s 0) with h | h
 ·rw[h]; rfl
 ·have h2:s<(trimL x n).length:=zX (by rw[jr]; exact h)
  congr 1
  unfold codeOf idxL
  rw[jr]
  obtain ⟨k,hk⟩:=qfq x n
  have h3:x.take s=(trimL x n).take s:=by
   conv=>lhs; rw[hk]
   rw[List.take_append_of_le_length oz]
  have h4 : ∀ m,fstC x m=fstC (trimL x n) m:=fun m=>by
   conv=>lhs; rw[hk]
   exact qij _ _ _
  rw[h3,h4]
theorem qb5 (x y:List Nat) (l:List Tok):toksBits (trimL x 257) (trimL y 1) l=toksBits x y l:=by
 unfold toksBits
 congr 1
 funext t
 unfold tokBits
 rw[yg,yg]
theorem qfr {x y:List Nat} {t:Tok} (h:TokOk x y t):TokOk (trimL x 257) (trimL y 1) t:=by
 unfold TokOk at h |-
 simp only[jr]
 exact h
def lenG (m:List Nat) (j:Nat):List Nat:=(ordL.take j).foldl (fun l k=>l.set k (m.getD k 0)) (List.replicate 19 0)
theorem ord_lt (j:Nat):ordL.getD j 0<19:=of_decide_eq_true (qcq 19 ordL rfl (fun v=>decide (v<19)) rfl rfl j)
theorem qlc {j:Nat} (h:j<19):ordL.drop j=ordL.getD j 0::ordL.drop (j+1):=by
 have h2:j<ordL.length:=h
 rw[List.drop_eq_getElem_cons h2,<- qU h2]
theorem qik (m:List Nat) {j:Nat} (h:j<19):lenG m (j+1)=(lenG m j).set (ordL.getD j 0) (m.getD (ordL.getD j 0) 0):=by
 unfold lenG
 rw[List.take_add_one,List.getElem?_eq_getElem (show j<ordL.length from h),List.foldl_append,qU (l:=ordL) h]
 rfl
theorem qgp (m:List Nat) (j:Nat):(lenG m j).length=19:=by
 unfold lenG
 have h : ∀ (o l:List Nat),(o.foldl (fun l k=>l.set k (m.getD k 0)) l).length=l.length:=by
  intro o
  induction o with
  | nil=>intro l; rfl
  | cons k o ih=>intro l; simp only[List.foldl_cons]; rw[ih,List.length_set]
 rw[h,List.length_replicate]
theorem qld (m:List Nat) : ∀ (o l:List Nat) (i:Nat),i<l.length->(o.foldl (fun l k=>l.set k (m.getD k 0)) l).getD i 0=if i∈o then m.getD i 0 else l.getD i 0
 | [],_,_,_=>rfl
 | k::o,l,i,h=>by
  simp only[List.foldl_cons]
  rw[qld m o _ i (by rw[List.length_set]; exact h),jm]
  by_cases h1:i∈o
  ·rw[if_pos h1,if_pos (.tail _ h1)]
  ·rw[if_neg h1]
   by_cases h2:k=i
   ·subst h2
    rw[if_pos ⟨rfl,h⟩,if_pos (.head _)]
   ·rw[if_neg (fun e=>h2 e.1),if_neg (by simp only[List.mem_cons]; rintro (e | e); exact h2 e.symm; exact h1 e)]
theorem ord_mem (i:Nat) (h:i<19):i∈ordL:=by
 have h2:(List.range 19).all (fun i=>ordL.contains i)=true:=rfl
 have:=List.all_eq_true.1 h2 i (List.mem_range.2 h)
 simpa using this
theorem qle (m:List Nat) (hm:m.length=19):lenG m 19=m:=by
 refine List.ext_getElem (by rw[qgp,hm]) fun i h1 h2=>?_
 rw[<- qU h1,<- qU h2]
 unfold lenG
 rw[show ordL.take 19=ordL from rfl,qld m ordL _ i (by simp; omega),if_pos (ord_mem i oz)]
theorem qo5 {j:Nat} (h:j<19) : ∃ r,(iV ordL).drop j = .int (ordL.getD j 0:Nat)::r:=qX h
end Go.Proofs.YtfokgjhdndnnhaaGreatDoor
end W49S
