/- Contracts: the blocks of a packet, by the document. -/
import Derived.Test.YtfokgjhdndnnhaaGreatDoorX10
import Derived.Test.YtfokgjhdndnnhaaGreatDoorFl58
import Derived.Test.YtfokgjhdndnnhaaGreatDoorX2
set_option maxHeartbeats 1000000
set_option linter.unusedVariables false
set_option linter.unusedSimpArgs false
set_option maxRecDepth 20000
noncomputable section X11S
namespace Go.Proofs.YtfokgjhdndnnhaaGreatDoor
open Go Go.Fl Go.Proofs
theorem qb6 {S:Nat->Prop} {H:Heap} {xb p fr mo:Nat} {b all:List UInt8} (hI:DIn S H xb b p all fr mo) (hb:b.length<=100000) (hp:p<=8*b.length) {f n q:Nat} (hf:f<2) (hA:Ahead b p (natBits 1 f++natBits 2 0)) (hq:(p+1+2+7)/8*8=8*q) (hn:bitsAt b (8*q) 16=n) (hm:bitsAt b (8*q+16) 16=n ^^^ 65535) (hl:q+4+n<=b.length) (h1:fr<=all.length) (h2:all.length<=700000) (h3:all.length+n<=fr+mo) (h4:mo<=1000000):SCallsP Tryz.prog 34 [.ptr xb 0] H (fun r H'=>r = .tup [.bool (decide (f=1)),.bool (decide (n=0))]/\DIn S H' xb b (8*(q+4+n)) (all++(b.drop (q+4)).take n) fr mo/\Step S H H'):=by
 have hA2:=hA.next
 have hrm:=hA.fst.room hp
 rw[qB] at hA2 hrm
 have hrm2:=hA2.room hrm
 rw[qB] at hrm2
 have hf2:f<2^1:=hf
 have c1:=jZ hI (n:=1) hrm dz
 rw[hA.fst.bits hf2] at c1
 refine qA (sz:=71) (Tryz.call34) Tryz.func34 rfl kz (fun R hR=>?_)
 refine qg (fun K1 hK1=>?_)
 refine qi kz ?_
 simp[go_sem]
 refine hK1 _ _ ?_
 try clear hK1 K1
 refine qg (fun K2 hK2=>?_)
 refine qp kz ?_
 refine qH 2 (fun K3 hK3=>?_)
 simp[go_sem]
 refine ⟨_,c1,?_⟩
 rintro _ H1 hn1 ⟨rfl,hI1,hS1⟩
 have c2:=jZ hI1 (n:=2) hrm2 dz
 rw[hA2.bits dz] at c2
 refine hK3 _ _ ?_
 clear hK3 K3
 simp[go_sem]
 refine hK2 _ _ ?_
 try clear hK2 K2
 refine qg (fun K4 hK4=>?_)
 refine qp kz ?_
 refine qH 2 (fun K5 hK5=>?_)
 simp[go_sem]
 refine ⟨_,c2,?_⟩
 rintro _ H2 hn2 ⟨rfl,hI2,hS2⟩
 have hSt2:=hS1.trans hS2
 obtain ⟨rb2,q2,x2,_,_,_,_,_,gX2,gB2,gG2,_⟩:=id hI2
 obtain ⟨al,hal⟩ : ∃ z,all.length=z:=⟨_,rfl⟩
 rw[hal] at gG2
 have hln2:=DIn.len gG2
 have c3:=qpi hI2 hb oz hq hn hm hl h1 h2 h3 h4
 refine hK5 _ _ ?_
 clear hK5 K5
 simp[go_sem]
 refine hK4 _ _ ?_
 try clear hK4 K4
 refine qg (fun K6 hK6=>?_)
 refine qg (fun K7 hK7=>?_)
 refine qi kz ?_
 simp[go_sem,gX2]
 refine hK7 _ _ ?_
 try clear hK7 K7
 refine qj (b:=false) gz (fun h=>by cases h) (fun _=>?_)
 refine ql ?_
 refine hK6 _ _ ?_
 try clear hK6 K6
 refine qg (fun K8 hK8=>?_)
 refine qi kz ?_
 simp[go_sem,gX2,hln2]
 refine hK8 _ _ ?_
 try clear hK8 K8
 refine qg (fun K9 hK9=>?_)
 refine qg (fun K10 hK10=>?_)
 refine qi kz ?_
 simp[go_sem]
 refine hK10 _ _ ?_
 try clear hK10 K10
 refine qm ?_
 refine qg (fun K11 hK11=>?_)
 refine qi kz ?_
 simp[go_sem]
 refine hK11 _ _ ?_
 try clear hK11 K11
 refine qj (b:=true) gz (fun _=>?_) (fun h=>by cases h)
 refine qp kz ?_
 simp[go_sem]
 refine ⟨_,c3,?_⟩
 rintro _ H3 hn3 ⟨rfl,hI3,hS3⟩
 have hSt:=hSt2.trans hS3
 obtain ⟨rb3,q3,x3,_,_,_,_,_,gX3,gB3,gG3,_⟩:=id hI3
 have hal3:(all++(b.drop (q+4)).take n).length=al+n:=by rw[List.length_append,List.length_take,List.length_drop,hal]; omega
 rw[hal3] at gG3
 have hln3:=DIn.len gG3
 obtain ⟨a3,ha3⟩ : ∃ z,al+n=z:=⟨_,rfl⟩
 rw[ha3] at hln3
 have heq:((a3:Int)==(al:Int))=decide (n=0):=by rw[Bool.eq_iff_iff]; simp; omega
 refine hK9 _ _ ?_
 try clear hK9 K9
 refine qg (fun K13 hK13=>?_)
 refine qJ mixed kz ?_
 simp[go_sem,gX3,hln3,heq]
 refine hK13 _ _ ?_
 try clear hK13 K13
 refine qx ?_
 simp only[go_sem]
 refine hR _ _ ?_
 have hfq:(((f:Int))==1)=decide (f=1):=by rw[Bool.eq_iff_iff]; simp; omega
 exact hSt.retP (r:=.tup [.bool (decide (f=1)),.bool (decide (n=0))]) (by simp[go_sem,hfq]) ⟨rfl,hI3,hSt⟩ gz
theorem qir {S:Nat->Prop} {H:Heap} {xb p fr mo:Nat} {b all:List UInt8} (hI:DIn S H xb b p all fr mo) (hp:p<=8*b.length) {f:Nat} (hf:f<2) (toks:List Tok) (hA:Ahead b p (natBits 1 f++(natBits 2 1++(toksBits fixS fixD toks++symBits fixS 256)))) (hto : ∀ t∈toks,TokOk fixS fixD t) (hok:okT toks all.length) (h4:fr<=all.length) (h5:(Go.Fl.runT toks all).length<=900000) (h6:(Go.Fl.runT toks all).length<=fr+mo) (h7:mo<=1000000):SCallsP Tryz.prog 34 [.ptr xb 0] H (fun r H'=>r = .tup [.bool (decide (f=1)),.bool false]/\DIn S H' xb b (p+1+2+(toksBits fixS fixD toks++symBits fixS 256).length) (Go.Fl.runT toks all) fr mo/\Step S H H'):=by
 have hA2:=hA.next
 have hrm:=hA.fst.room hp
 rw[qB] at hA2 hrm
 have hrm2:=hA2.fst.room hrm
 rw[qB] at hrm2
 have hf2:f<2^1:=hf
 have c1:=jZ hI (n:=1) hrm dz
 rw[hA.fst.bits hf2] at c1
 have hA3:=hA2.next
 rw[qB] at hA3
 obtain ⟨BL,hBL⟩ : ∃ z,(toksBits fixS fixD toks++symBits fixS 256).length=z:=⟨_,rfl⟩
 rw[hBL]
 refine qA (sz:=71) (Tryz.call34) Tryz.func34 rfl kz (fun R hR=>?_)
 refine qg (fun K1 hK1=>?_)
 refine qi kz ?_
 simp[go_sem]
 refine hK1 _ _ ?_
 try clear hK1 K1
 refine qg (fun K2 hK2=>?_)
 refine qp kz ?_
 refine qH 2 (fun K3 hK3=>?_)
 simp[go_sem]
 refine ⟨_,c1,?_⟩
 rintro _ H1 hn1 ⟨rfl,hI1,hS1⟩
 have c2:=jZ hI1 (n:=2) hrm2 dz
 rw[hA2.fst.bits dz] at c2
 refine hK3 _ _ ?_
 clear hK3 K3
 simp[go_sem]
 refine hK2 _ _ ?_
 try clear hK2 K2
 refine qg (fun K4 hK4=>?_)
 refine qp kz ?_
 refine qH 2 (fun K5 hK5=>?_)
 simp[go_sem]
 refine ⟨_,c2,?_⟩
 rintro _ H2 hn2 ⟨rfl,hI2,hS2⟩
 have hSt2:=hS1.trans hS2
 obtain ⟨rb2,q2,x2,_,_,_,_,_,gX2,gB2,gG2,_⟩:=id hI2
 obtain ⟨al,hal⟩ : ∃ z,all.length=z:=⟨_,rfl⟩
 rw[hal] at gG2
 have hln2:=DIn.len gG2
 have c3:=qll hI2 hrm2 qgj qgk (by rw[yM]; decide) (by rw[yN]; decide) toks hto hok (qbx dz) hA3 h4 h5 h6 h7
 rw[hBL] at c3
 refine hK5 _ _ ?_
 clear hK5 K5
 simp[go_sem]
 refine hK4 _ _ ?_
 try clear hK4 K4
 refine qg (fun K6 hK6=>?_)
 refine qg (fun K7 hK7=>?_)
 refine qi kz ?_
 simp[go_sem,gX2]
 refine hK7 _ _ ?_
 try clear hK7 K7
 refine qj (b:=false) gz (fun h=>by cases h) (fun _=>?_)
 refine ql ?_
 refine hK6 _ _ ?_
 try clear hK6 K6
 refine qg (fun K8 hK8=>?_)
 refine qi kz ?_
 simp[go_sem,gX2,hln2]
 refine hK8 _ _ ?_
 try clear hK8 K8
 refine qg (fun K9 hK9=>?_)
 refine qg (fun K10 hK10=>?_)
 refine qi kz ?_
 simp[go_sem]
 refine hK10 _ _ ?_
 try clear hK10 K10
 refine qm ?_
 refine qg (fun K11 hK11=>?_)
 refine qi kz ?_
 simp[go_sem]
 refine hK11 _ _ ?_
 try clear hK11 K11
 refine qj (b:=false) gz (fun h=>by cases h) (fun _=>?_)
 refine qg (fun K12 hK12=>?_)
 refine qi kz ?_
 simp[go_sem]
 refine hK12 _ _ ?_
 try clear hK12 K12
 refine qj (b:=true) gz (fun _=>?_) (fun h=>by cases h)
 refine qg (fun K13 hK13=>?_)
 refine qi kz ?_
 refine qI 1 (fun K14 hK14=>?_)
 simp[go_sem]
 refine ⟨_,_,(dfixed_H _),?_⟩
 refine hK14 _ _ ?_
 clear hK14 K14
 simp[go_sem]
 refine hK13 _ _ ?_
 try clear hK13 K13
 refine qp kz ?_
 simp[go_sem]
 refine ⟨_,c3,?_⟩
 rintro _ H3 hn3 ⟨rfl,hI3,hS3⟩
 have hSt:=hSt2.trans hS3
 refine hK9 _ _ ?_
 try clear hK9 K9
 refine qg (fun K16 hK16=>?_)
 refine qJ mixed kz ?_
 simp[go_sem]
 refine hK16 _ _ ?_
 try clear hK16 K16
 refine qx ?_
 simp only[go_sem]
 refine hR _ _ ?_
 have hfq:(((f:Int))==1)=decide (f=1):=by rw[Bool.eq_iff_iff]; simp; omega
 exact hSt.retP (r:=.tup [.bool (decide (f=1)),.bool false]) (by simp[go_sem,hfq]) ⟨rfl,hI3,hSt⟩ gz
theorem qmt {S:Nat->Prop} {H:Heap} {xb p fr mo:Nat} {b all:List UInt8} (hI:DIn S H xb b p all fr mo) (hp:p<=8*b.length) {f:Nat} (hf:f<2) (toks:List Tok) {x y:List Nat} (hxl:x.length=286) (hyl:y.length=30) (hx:LensOk x) (hy:LensOk y) (h256:0<x.getD 256 0) (hA:Ahead b p (natBits 1 f++(natBits 2 2++(toldBits x y++(toksBits x y toks++symBits x 256))))) (hto : ∀ t∈toks,TokOk x y t) (hok:okT toks all.length) (h4:fr<=all.length) (h5:(Go.Fl.runT toks all).length<=900000) (h6:(Go.Fl.runT toks all).length<=fr+mo) (h7:mo<=1000000):SCallsP Tryz.prog 34 [.ptr xb 0] H (fun r H'=>r = .tup [.bool (decide (f=1)),.bool false]/\DIn S H' xb b (p+1+2+(toldBits x y).length+(toksBits x y toks++symBits x 256).length) (Go.Fl.runT toks all) fr mo/\Step S H H'):=by
 have hA2:=hA.next
 have hrm:=hA.fst.room hp
 rw[qB] at hA2 hrm
 have hrm2:=hA2.fst.room hrm
 rw[qB] at hrm2
 have hf2:f<2^1:=hf
 have c1:=jZ hI (n:=1) hrm dz
 rw[hA.fst.bits hf2] at c1
 have hA3:=hA2.next
 rw[qB] at hA3
 have hA4:=hA3.next
 have hrm3:=hA3.fst.room hrm2
 rw[<- qb5 x y,<- yg x 257] at hA4 |-
 obtain ⟨BL,hBL⟩ : ∃ z,(toksBits (trimL x 257) (trimL y 1) toks++symBits (trimL x 257) 256).length=z:=⟨_,rfl⟩
 rw[hBL]
 have h256t:0<(trimL x 257).getD 256 0:=by rw[jr]; exact h256
 obtain ⟨TL,hTL⟩ : ∃ z,(toldBits x y).length=z:=⟨_,rfl⟩
 rw[hTL] at hA4 hrm3 |-
 have hlx:(trimL x 257).length<=100000:=by have:=zW (l:=x) (n:=257) oz; omega
 have hly:(trimL y 1).length<=100000:=by have:=zW (l:=y) (n:=1) oz; omega
 refine qA (sz:=71) (Tryz.call34) Tryz.func34 rfl kz (fun R hR=>?_)
 refine qg (fun K1 hK1=>?_)
 refine qi kz ?_
 simp[go_sem]
 refine hK1 _ _ ?_
 try clear hK1 K1
 refine qg (fun K2 hK2=>?_)
 refine qp kz ?_
 refine qH 2 (fun K3 hK3=>?_)
 simp[go_sem]
 refine ⟨_,c1,?_⟩
 rintro _ H1 hn1 ⟨rfl,hI1,hS1⟩
 have c2:=jZ hI1 (n:=2) hrm2 dz
 rw[hA2.fst.bits dz] at c2
 refine hK3 _ _ ?_
 clear hK3 K3
 simp[go_sem]
 refine hK2 _ _ ?_
 try clear hK2 K2
 refine qg (fun K4 hK4=>?_)
 refine qp kz ?_
 refine qH 2 (fun K5 hK5=>?_)
 simp[go_sem]
 refine ⟨_,c2,?_⟩
 rintro _ H2 hn2 ⟨rfl,hI2,hS2⟩
 have hSt2:=hS1.trans hS2
 obtain ⟨rb2,q2,x2,_,_,_,_,_,gX2,gB2,gG2,_⟩:=id hI2
 obtain ⟨al,hal⟩ : ∃ z,all.length=z:=⟨_,rfl⟩
 rw[hal] at gG2
 have hln2:=DIn.len gG2
 have c4:=ddyn_p hI2 hrm2 hxl hyl hx hy h256 hA3.fst
 rw[hTL] at c4
 refine hK5 _ _ ?_
 clear hK5 K5
 simp[go_sem]
 refine hK4 _ _ ?_
 try clear hK4 K4
 refine qg (fun K6 hK6=>?_)
 refine qg (fun K7 hK7=>?_)
 refine qi kz ?_
 simp[go_sem,gX2]
 refine hK7 _ _ ?_
 try clear hK7 K7
 refine qj (b:=false) gz (fun h=>by cases h) (fun _=>?_)
 refine ql ?_
 refine hK6 _ _ ?_
 try clear hK6 K6
 refine qg (fun K8 hK8=>?_)
 refine qi kz ?_
 simp[go_sem,gX2,hln2]
 refine hK8 _ _ ?_
 try clear hK8 K8
 refine qg (fun K9 hK9=>?_)
 refine qg (fun K10 hK10=>?_)
 refine qi kz ?_
 simp[go_sem]
 refine hK10 _ _ ?_
 try clear hK10 K10
 refine qm ?_
 refine qg (fun K11 hK11=>?_)
 refine qi kz ?_
 simp[go_sem]
 refine hK11 _ _ ?_
 try clear hK11 K11
 refine qj (b:=false) gz (fun h=>by cases h) (fun _=>?_)
 refine qg (fun K12 hK12=>?_)
 refine qi kz ?_
 simp[go_sem]
 refine hK12 _ _ ?_
 try clear hK12 K12
 refine qj (b:=false) gz (fun h=>by cases h) (fun _=>?_)
 refine qg (fun K13 hK13=>?_)
 refine qi kz ?_
 simp[go_sem]
 refine hK13 _ _ ?_
 try clear hK13 K13
 refine qj (b:=true) gz (fun _=>?_) (fun h=>by cases h)
 refine qg (fun K14 hK14=>?_)
 refine qp kz ?_
 refine qH 2 (fun K15 hK15=>?_)
 simp[go_sem]
 refine ⟨_,c4,?_⟩
 rintro _ H4 hn4 ⟨rfl,hI4,hS4⟩
 obtain ⟨rb4,q4,x4,_,_,_,_,_,gX4,gB4,gG4,_⟩:=id hI4
 have c3:=qll hI4 hrm3 (yZ hx) (yZ hy) hlx hly toks (fun t ht=>qfr (hto t ht)) hok h256t hA4 h4 h5 h6 h7
 rw[hBL] at c3
 refine hK15 _ _ ?_
 clear hK15 K15
 simp[go_sem]
 refine hK14 _ _ ?_
 try clear hK14 K14
 refine qg (fun K16 hK16=>?_)
 refine qi kz ?_
 simp[go_sem,gX4]
 refine hK16 _ _ ?_
 try clear hK16 K16
 refine qj (b:=true) gz (fun _=>?_) (fun h=>by cases h)
 refine qp kz ?_
 simp[go_sem]
 refine ⟨_,c3,?_⟩
 rintro _ H3 hn3 ⟨rfl,hI3,hS3⟩
 have hSt:=(hSt2.trans hS4).trans hS3
 refine hK9 _ _ ?_
 try clear hK9 K9
 refine qg (fun K18 hK18=>?_)
 refine qJ mixed kz ?_
 simp[go_sem]
 refine hK18 _ _ ?_
 try clear hK18 K18
 refine qx ?_
 simp only[go_sem]
 refine hR _ _ ?_
 have hfq:(((f:Int))==1)=decide (f=1):=by rw[Bool.eq_iff_iff]; simp; omega
 exact hSt.retP (r:=.tup [.bool (decide (f=1)),.bool false]) (by simp[go_sem,hfq]) ⟨rfl,hI3,hSt⟩ gz
theorem qis {S:Nat->Prop} {H:Heap} {xb mo:Nat} {h b:List UInt8} (hI:DIn S H xb (pktOf h b) 0 h h.length mo) (hh:h.length<=40000) (hb:b.length<=10000) (hm:b.length<=mo) (h7:mo<=1000000):SCallsP Tryz.prog 34 [.ptr xb 0] H (fun r H'=>(∃ e,r = .tup [.bool false,.bool e])/\DIn S H' xb (pktOf h b) (bestBits h b).length (h++b) h.length mo/\Step S H H'):=by
 have hbl:=qa5 h b
 have hpl:=qci h b
 have hA:Ahead (pktOf h b) 0 (bestBits h b):=⟨_,by rw[List.drop_zero]; exact qde h b⟩
 have hrun:=runT_own h b
 have hok:=(yJ h b).1
 have hl:(h++b).length=h.length+b.length:=List.length_append
 rcases qfc h b with hc | hc | hc
 ·rw[hc] at hA hpl hbl |-
  rw[qap] at hpl hbl |-
  unfold storedBits at hA
  have a1:=hA.next
  have a2:=a1.next
  have a3:=a2.next
  have a4:=a3.next
  have a5:=a4.next
  simp only[qB,List.length_replicate] at a1 a2 a3 a4 a5
  have hx:b.length ^^^ 65535<2^16:=Nat.xor_lt_two_pow oz dz
  have hA0:Ahead (pktOf h b) 0 (natBits 1 0++natBits 2 0):=by rw[<- List.append_assoc] at hA; exact hA.fst
  have hby:=Ahead.bytes (q:=5) a5
  refine (qb6 hI oz (Nat.zero_le _) (f:=0) (n:=b.length) (q:=1) dz hA0 rfl (a3.fst.bits oz) (a4.fst.bits hx) oz (Nat.le_refl _) oz oz h7).mono fun r H' _ ⟨h1,h2,h3⟩=>⟨⟨_,h1⟩,?_,h3⟩
  rw[hby] at h2
  rw[show 40+8*b.length=8*(1+4+b.length) by omega]
  exact h2
 ·rw[hc] at hA hpl hbl |-
  have hf:=jV h b
  unfold fixedBits at hA
  refine (qir hI (Nat.zero_le _) (f:=0) dz (tokensL h b) hA (fun t ht=>qel (hf t ht)) hok (Nat.le_refl _) (by rw[hrun]; omega) (by rw[hrun]; omega) h7).mono fun r H' _ ⟨h1,h2,h3⟩=>⟨⟨false,h1⟩,?_,h3⟩
  rw[hrun] at h2
  have e:(fixedBits (tokensL h b)).length=0+1+2+(toksBits fixS fixD (tokensL h b)++symBits fixS 256).length:=by
   unfold fixedBits
   rw[List.length_append,List.length_append,qB,qB]
   omega
  rw[e]
  exact h2
 ·rw[hc] at hA hpl hbl |-
  have hf:=jV h b
  unfold ownBits at hA
  refine (qmt hI (Nat.zero_le _) (f:=0) dz (tokensL h b) (jA _).len (jB _).len (qa8 _) (qa9 _) (qjq _) hA (qjp hf) hok (Nat.le_refl _) (by rw[hrun]; omega) (by rw[hrun]; omega) h7).mono fun r H' _ ⟨h1,h2,h3⟩=>⟨⟨false,h1⟩,?_,h3⟩
  rw[hrun] at h2
  have e:(ownBits (tokensL h b)).length=0+1+2+(toldBits (ownX (tokensL h b)) (ownY (tokensL h b))).length+(toksBits (ownX (tokensL h b)) (ownY (tokensL h b)) (tokensL h b)++symBits (ownX (tokensL h b)) 256).length:=by
   unfold ownBits
   rw[List.length_append,List.length_append,List.length_append,qB,qB]
   omega
  rw[e]
  exact h2
theorem qgr {S:Nat->Prop} {H:Heap} {xb fr mo:Nat} {h b all:List UInt8} (hI:DIn S H xb (pktOf h b) (bestBits h b).length all fr mo) (hb:b.length<=10000) (h1:fr<=all.length) (h2:all.length<=700000) (h3:all.length<=fr+mo) (h7:mo<=1000000):SCallsP Tryz.prog 34 [.ptr xb 0] H (fun r H'=>r = .tup [.bool false,.bool true]/\DIn S H' xb (pktOf h b) (8*(pktOf h b).length) all fr mo/\Step S H H'):=by
 have hbl:=qa5 h b
 have hpl:=qci h b
 have hA:Ahead (pktOf h b) (bestBits h b).length ((natBits 1 0++natBits 2 0)++(List.replicate (padN ((bestBits h b).length+3)) false++(natBits 16 0++natBits 16 65535))):=⟨[],by rw[qde,List.drop_left,List.append_nil,List.append_assoc]⟩
 obtain ⟨bl,hbq⟩ : ∃ z,(bestBits h b).length=z:=⟨_,rfl⟩
 rw[hbq] at hA hI hbl hpl
 have a1:=hA.next
 have a2:=a1.next
 have a3:=a2.next
 simp only[List.length_append,qB,List.length_replicate] at a1 a2 a3
 have hq:bl+(1+2)+padN (bl+3)=8*((bl+10)/8):=by unfold padN bytesOf; omega
 rw[hq] at a2 a3
 refine (qb6 hI oz oz (f:=0) (n:=0) (q:=(bl+10)/8) dz hA.fst oz (a2.fst.bits dz) (a3.bits dz) oz h1 h2 oz h7).mono fun r H' _ ⟨k1,k2,k3⟩=>⟨k1,?_,k3⟩
 rw[List.take_zero,List.append_nil] at k2
 rw[hpl]
 exact k2
end Go.Proofs.YtfokgjhdndnnhaaGreatDoor
end X11S
set_option maxRecDepth 20000
noncomputable section W55S
namespace Go.Proofs.YtfokgjhdndnnhaaGreatDoor
open Go Go.Fl Go.Proofs
def awL:List UInt8:=[97,98,99,97,98,99,97,98,99,97,98,99]
theorem aw_A:bA awL = .vs 12 1 (bV awL):=rfl
theorem aw_step {H:Heap} {n:Nat} {l:List UInt8} (hn:n=H.next):Step (fun z=>z<n) H ((H.alloc (bV l)).del H.next):=zH ((Step.refl _ _).alloc (ja _ _)) (fun h=>by omega)
theorem awake_s  : SCalls Tryz.prog 8 [] Heap.empty (.bool true) Heap.empty:=by
 have hEq:=aw_A
 refine qE (sz:=29) (Tryz.call8) Tryz.func8 rfl (Nat.zero_le _) kz (fun R hR=>?_)
 refine qg (fun K1 hK1=>?_)
 refine qi kz ?_
 simp[go_sem]
 refine hK1 _ _ ?_
 try clear hK1 K1
 refine qg (fun K2 hK2=>?_)
 refine qp kz ?_
 refine qH 1 (fun K3 hK3=>?_)
 simp[go_sem]
 refine ⟨_,(dNew_o _),?_⟩
 rintro _ H1 ⟨D,O1,rfl,k1,l1,s1⟩
 refine hK3 _ _ ?_
 clear hK3 K3
 simp[go_sem]
 refine hK2 _ _ ?_
 try clear hK2 K2
 refine qg (fun K4 hK4=>?_)
 refine qp kz ?_
 refine qH 1 (fun K5 hK5=>?_)
 simp[go_sem]
 refine ⟨_,(fNew_o H1),?_⟩
 rintro _ H2 hn2 ⟨F,O2,rfl,k2,l2,s2⟩
 have d12 : ∀ z,O1 z -> ¬ O2 z:=fun z h1 h2=>by have:=k1.lt z h1; have:=l2 z h2; omega
 have k1:=k1.new s2
 refine hK5 _ _ ?_
 clear hK5 K5
 simp[go_sem]
 refine hK4 _ _ ?_
 try clear hK4 K4
 refine qg (fun K6 hK6=>?_)
 refine qg (fun K7 hK7=>?_)
 refine qi kz ?_
 simp[go_sem]
 refine hK7 _ _ ?_
 try clear hK7 K7
 refine qj (b:=false) gz (fun h=>by cases h) (fun _=>?_)
 refine ql ?_
 refine hK6 _ _ ?_
 try clear hK6 K6
 refine qg (fun K8 hK8=>?_)
 refine qM kz ?_
 refine jf 2 (fun K90 hK90=>?_)
 simp[go_sem]
 refine hK90 _ _ ?_
 clear hK90 K90
 refine jE (.ms H2.next 0 12 1) (H2.alloc (bV awL)) rfl (qd3 kz) ?_
 refine jE (.vs 12 1 (bV awL)) ((H2.alloc (bV awL)).del H2.next) rfl (qjc tU25 tU5 gz (by rw[Heap.get_alloc,if_pos rfl]) rfl dz) ?_
 have s3:=aw_step (l:=awL) (H:=H2) rfl
 have k1:=k1.new s3
 have k2:=k2.new s3
 have cp:=qiv (b:=awL) dz dz k1
 rw[aw_A] at cp
 refine jf 1 (fun K94 hK94=>?_)
 simp[go_sem]
 refine ⟨_,cp,?_⟩
 rintro _ H4 hn4 ⟨rfl,O1b,k1,s4⟩
 obtain ⟨k2,d12⟩:=s4.other k2 d12
 have cq:=qiw (b:=awL) dz (mo:=99) dz dz k2
 rw[show ((99:Nat):Int)=99 from rfl] at cq
 refine hK94 _ _ ?_
 clear hK94 K94
 refine jf 1 (fun K95 hK95=>?_)
 simp[go_sem]
 refine ⟨_,cq,?_⟩
 rintro _ H5 hn5 ⟨rfl,O2b,k2,s5⟩
 refine hK95 _ _ ?_
 clear hK95 K95
 refine zJ ?_
 simp[go_sem]
 refine hK8 _ _ ?_
 try clear hK8 K8
 refine qg (fun K9 hK9=>?_)
 refine qi kz ?_
 simp[go_sem,aw_A,u8s_bV,strOf_bs,hEq]
 refine hK9 _ _ ?_
 try clear hK9 K9
 refine qx ?_
 simp only[go_sem]
 refine hR _ _ ?_
 exact qG (by simp[go_sem]; kernel_rfl) (qP _) (Nat.zero_le _) gz
end Go.Proofs.YtfokgjhdndnnhaaGreatDoor
end W55S
set_option maxRecDepth 20000
noncomputable section W56S
namespace Go.Proofs.YtfokgjhdndnnhaaGreatDoor
open Go Go.Fl Go.Proofs
theorem row_A {l:List UInt8} {n:Nat} (h:l.length=n):bA l = .vs n 1 (bV l):=by unfold bA; rw[h]
end Go.Proofs.YtfokgjhdndnnhaaGreatDoor
end W56S
set_option maxRecDepth 20000
noncomputable section W57S
namespace Go.Proofs.YtfokgjhdndnnhaaGreatDoor
open Go Go.Fl Go.Proofs
theorem pack_le (h b:List UInt8):(packOf h b).length<=b.length+6:=by
 have:=qa5 h b
 unfold packOf
 rw[zF,List.length_append,qB]
 unfold bytesOf
 omega
end Go.Proofs.YtfokgjhdndnnhaaGreatDoor
end W57S
set_option maxRecDepth 20000
noncomputable section W58S
namespace Go.Proofs.YtfokgjhdndnnhaaGreatDoor
open Go Go.Fl Go.Proofs
theorem qit {S:Nat->Prop} {H:Heap} {x:AV} {n:Nat} {c:UInt8} {l:List UInt8} (h:GrN S H x 1 n (bV l)) (hSn : ∀ z,S z->z<H.next) (hl:n<=1000000) : ∃ H1,aappend Tryz.prog (H.alloc [.sc (.int .u8 c.toNat)]) 25 25 x (.ms H.next 0 1 1)=some (.ms (H.next+1) 0 (n+1) 1,H1)/\GrN S H1 (.ms (H.next+1) 0 (n+1) 1) 1 (n+1) (bV (l ++ [c]))/\Step S H H1:=by
 obtain ⟨bo,hg,hbo,_,_⟩:=h.grown
 obtain ⟨ha,hg2⟩:=appB (c.toNat:Int) hg oz
 refine ⟨_,ha,?_,GrN.step hg hbo (fun y hy=>ja l _ y hy) gz⟩
 rw[jF]
 exact GrN.one hg2 hSn
end Go.Proofs.YtfokgjhdndnnhaaGreatDoor
end W58S
set_option maxRecDepth 20000
noncomputable section X12S
namespace Go.Proofs.YtfokgjhdndnnhaaGreatDoor
open Go Go.Fl Go.Proofs
def copyS (H:Heap) (l:List UInt8):Nat->AV × Heap
 | 0=>(.nil,H)
 | i+1=>match aappend Tryz.prog ((copyS H l i).2.alloc [.sc (.int .u8 (gB l i).toNat)]) 25 25 (copyS H l i).1 (.ms (copyS H l i).2.next 0 1 1) with
  | some r=>r
  | none=>copyS H l i
theorem zt (H:Heap) (l:List UInt8) (hl:l.length<=1000000) : ∀ i,i<=l.length->GrN (fun z=>z<H.next) (copyS H l i).2 (copyS H l i).1 1 i (bV (l.take i))/\Step (fun z=>z<H.next) H (copyS H l i).2
 | 0,_=>⟨GrN.nil _ _ _,Step.refl _ _⟩
 | i+1,h=>by
  obtain ⟨h1,h2⟩:=zt H l hl i oz
  obtain ⟨H3,hap,hX,hS⟩:=qit (c:=gB l i) h1 (fun z hz=>Nat.lt_of_lt_of_le hz h2.le) oz
  have e:copyS H l (i+1)=(.ms ((copyS H l i).2.next+1) 0 (i+1) 1,H3):=by simp only[copyS,hap]
  rw[e,qph oz]
  exact ⟨hX,h2.trans hS⟩
theorem qiu {H:Heap} {l:List UInt8} (hl:l.length<=1000000) {i:Nat} (h:i<l.length) : ∃ x H3,aappend Tryz.prog ((copyS H l i).2.alloc [.sc (.int .u8 (gB l i).toNat)]) 25 25 (copyS H l i).1 (.ms (copyS H l i).2.next 0 1 1)=some (x,H3)/\copyS H l (i+1)=(x,H3):=by
 obtain ⟨h1,h2⟩:=zt H l hl i oz
 obtain ⟨H3,hap,_⟩:=qit (c:=gB l i) h1 (fun z hz=>Nat.lt_of_lt_of_le hz h2.le) oz
 exact ⟨_,H3,hap,by simp only[copyS,hap]⟩
theorem qb7 (P:Program) (tys:Array TypeId) (t:TypeId) (n:Int):srun P (Builtin.max_ tys t #[.int .i64 n,.int .i64 0])=some (.int .i64 (n.toNat:Int)):=by
 have h:(if (0:Int)>n then (0:Int) else n)=(n.toNat:Int):=by split <;> omega
 show some (Value.int .i64 (if (0:Int)>n then (0:Int) else n))=_
 rw[h]
theorem qo7 (H:Heap):SCalls Tryz.prog 32 [.nil] H .nil H:=by
 refine qE (sz:=19) (Tryz.call32) Tryz.func32 rfl (Nat.le_refl _) kz (fun R hR=>?_)
 refine qg (fun K1 hK1=>?_)
 refine qi kz ?_
 simp[go_sem]
 refine hK1 _ _ ?_
 try clear hK1 K1
 refine qg (fun K2 hK2=>?_)
 refine qi kz ?_
 simp[go_sem]
 refine hK2 _ _ ?_
 try clear hK2 K2
 refine qg (fun K3 hK3=>?_)
 refine qg (fun K4 hK4=>?_)
 refine qi kz ?_
 simp[go_sem]
 refine hK4 _ _ ?_
 try clear hK4 K4
 refine qm ?_
 refine qC (Inv:=fun m0 env H2=>env 0 = .nil/\env 3 = .nil/\env 4 = .int 0/\H2=H) ?_ (n:=0) (⟨gz,gz,gz,rfl⟩)
 rintro m0 env _ ⟨e0,e3,e4,rfl⟩
 refine qg (fun K5 hK5=>?_)
 refine qg (fun K6 hK6=>?_)
 refine qi kz ?_
 simp[go_sem,e0,e4]
 refine hK6 _ _ ?_
 try clear hK6 K6
 refine qj (b:=false) gz (fun h=>by cases h) (fun _=>?_)
 refine qy ?_
 refine hK3 _ _ ?_
 try clear hK3 K3
 refine qg (fun K7 hK7=>?_)
 refine qi kz ?_
 simp[go_sem,e3]
 refine hK7 _ _ ?_
 try clear hK7 K7
 refine qx ?_
 simp only[go_sem]
 refine hR _ _ ?_
 exact qG gz (Heap.le_refl _) (Nat.le_refl _) gz
theorem dcopy_v {l:List UInt8} {n:Nat} (hn:l.length=n) (hl:n<=1000000) (H:Heap):SCalls Tryz.prog 32 [.vs n 1 (bV l)] H (copyS H l n).1 (copyS H l n).2:=by
 refine qE (sz:=19) (Tryz.call32) Tryz.func32 rfl ((zt H l oz n oz).2.le) kz (fun R hR=>?_)
 refine qg (fun K1 hK1=>?_)
 refine qi kz ?_
 simp[go_sem]
 refine hK1 _ _ ?_
 try clear hK1 K1
 refine qg (fun K2 hK2=>?_)
 refine qi kz ?_
 simp[go_sem]
 refine hK2 _ _ ?_
 try clear hK2 K2
 refine qg (fun K3 hK3=>?_)
 refine qg (fun K4 hK4=>?_)
 refine qi kz ?_
 simp[go_sem]
 refine hK4 _ _ ?_
 try clear hK4 K4
 refine qm ?_
 refine qC (Inv:=fun m0 env H2 => ∃ i:Nat,m0=n-i/\i<=n/\env 0 = .vs n 1 (bV l)/\env 3=(copyS H l i).1/\env 4 = .int i/\H2=(copyS H l i).2) ?_ (n:=n) (⟨0,rfl,oz,gz,by simp[go_sem,copyS],gz,rfl⟩)
 rintro m0 env H2 ⟨i,rfl,hi,e0,e3,e4,hH2⟩
 refine qg (fun K5 hK5=>?_)
 refine qg (fun K6 hK6=>?_)
 refine qi kz ?_
 simp[go_sem,e0,e4]
 refine hK6 _ _ ?_
 try clear hK6 K6
 refine qj (b:=decide ((i:Int)<(n:Int))) gz (fun hb9=>?_) (fun hb9=>?_)
 ·skip
  simp only[decide_eq_true_eq] at hb9
  have hb9:i<n:=oz
  have hw:=qF i oz
  obtain ⟨x3,H3,hap,hnx⟩:=qiu (H:=H) (l:=l) oz (i:=i) oz
  have hf2:=(zt H l oz i oz).2
  obtain ⟨xi,hxi⟩ : ∃ z,(copyS H l i).1=z:=⟨_,rfl⟩
  rw[hxi] at e3 hap
  rw[<- hH2] at hap hf2
  obtain ⟨r,dr⟩:=yA (l:=l) (i:=i) oz
  have li1:(i:Int)<n:=oz
  have li2:i+1<=n:=oz
  have hL:(bV l).length=n:=by rw[qQ,hn]
  refine ql ?_
  refine hK5 _ _ ?_
  try clear hK5 K5
  refine qg (fun K7 hK7=>?_)
  refine qm ?_
  refine qi kz ?_
  simp[go_sem,e0,e3,e4,dr,hL,li1,li2,hap]
  refine hK7 _ _ ?_
  try clear hK7 K7
  refine qo (fun K8 hK8=>?_)
  refine qi kz ?_
  simp[go_sem,e4,hw]
  refine hK8 _ _ ?_
  exact ⟨n-(i+1),oz,i+1,rfl,oz,by simp[go_sem,e0],by rw[hnx]; simp[go_sem],gz,by rw[hnx]⟩
 ·skip
  simp only[decide_eq_false_iff_not] at hb9
  obtain rfl:n=i:=oz
  refine qy ?_
  refine hK3 _ _ ?_
  try clear hK3 K3
  refine qg (fun K9 hK9=>?_)
  refine qi kz ?_
  simp[go_sem,e3]
  refine hK9 _ _ ?_
  try clear hK9 K9
  refine qx ?_
  simp only[go_sem]
  refine hR _ _ ?_
  subst hH2
  have hff:=zt H l oz n oz
  obtain ⟨bo,_,_,_,hlt⟩:=hff.1.grown
  refine je gz hff.2.le hlt hff.2.cont
theorem qj1 {l:List UInt8} {n:Nat} {pre:List AV} {q off:Nat} (hn:l.length=n) (ho:pre.length=off) (hl:n<=1000000) {H:Heap} (gq:H.get q=some (pre++bV l)):SCalls Tryz.prog 32 [.ms q off n 1] H (copyS H l n).1 (copyS H l n).2:=by
 have hql:=Heap.lt_of_get gq
 refine qE (sz:=19) (Tryz.call32) Tryz.func32 rfl ((zt H l oz n oz).2.le) kz (fun R hR=>?_)
 refine qg (fun K1 hK1=>?_)
 refine qi kz ?_
 simp[go_sem]
 refine hK1 _ _ ?_
 try clear hK1 K1
 refine qg (fun K2 hK2=>?_)
 refine qi kz ?_
 simp[go_sem]
 refine hK2 _ _ ?_
 try clear hK2 K2
 refine qg (fun K3 hK3=>?_)
 refine qg (fun K4 hK4=>?_)
 refine qi kz ?_
 simp[go_sem]
 refine hK4 _ _ ?_
 try clear hK4 K4
 refine qm ?_
 refine qC (Inv:=fun m0 env H2 => ∃ i:Nat,m0=n-i/\i<=n/\env 0 = .ms q off n 1/\env 3=(copyS H l i).1/\env 4 = .int i/\H2=(copyS H l i).2) ?_ (n:=n) (⟨0,rfl,oz,gz,by simp[go_sem,copyS],gz,rfl⟩)
 rintro m0 env H2 ⟨i,rfl,hi,e0,e3,e4,hH2⟩
 refine qg (fun K5 hK5=>?_)
 refine qg (fun K6 hK6=>?_)
 refine qi kz ?_
 simp[go_sem,e0,e4]
 refine hK6 _ _ ?_
 try clear hK6 K6
 refine qj (b:=decide ((i:Int)<(n:Int))) gz (fun hb9=>?_) (fun hb9=>?_)
 ·skip
  simp only[decide_eq_true_eq] at hb9
  have hb9:i<n:=oz
  have hw:=qF i oz
  obtain ⟨x3,H3,hap,hnx⟩:=qiu (H:=H) (l:=l) oz (i:=i) oz
  have hf2:=(zt H l oz i oz).2
  obtain ⟨xi,hxi⟩ : ∃ z,(copyS H l i).1=z:=⟨_,rfl⟩
  rw[hxi] at e3 hap
  rw[<- hH2] at hap hf2
  obtain ⟨r,dr⟩:=yA (l:=l) (i:=i) oz
  have li1:(i:Int)<n:=oz
  have li2:i+1<=n:=oz
  have hL:(bV l).length=n:=by rw[qQ,hn]
  have gq2:=hf2.get gq hql
  have dq:(pre++bV l).drop (off+i) = .sc (.int .u8 ((gB l i).toNat:Nat))::r:=by rw[<- ho,List.drop_append,List.drop_of_length_le oz,List.nil_append,Nat.add_sub_cancel_left,dr]
  have hLL:(pre++bV l).length=off+n:=by rw[List.length_append,hL,ho]
  have li3:off+i+1<=off+n:=oz
  refine ql ?_
  refine hK5 _ _ ?_
  try clear hK5 K5
  refine qg (fun K7 hK7=>?_)
  refine qm ?_
  refine qi kz ?_
  simp[go_sem,e0,e3,e4,gq2,dq,hLL,li3,li1,li2,hap]
  refine hK7 _ _ ?_
  try clear hK7 K7
  refine qo (fun K8 hK8=>?_)
  refine qi kz ?_
  simp[go_sem,e4,hw]
  refine hK8 _ _ ?_
  exact ⟨n-(i+1),oz,i+1,rfl,oz,by simp[go_sem,e0],by rw[hnx]; simp[go_sem],gz,by rw[hnx]⟩
 ·skip
  simp only[decide_eq_false_iff_not] at hb9
  obtain rfl:n=i:=oz
  refine qy ?_
  refine hK3 _ _ ?_
  try clear hK3 K3
  refine qg (fun K9 hK9=>?_)
  refine qi kz ?_
  simp[go_sem,e3]
  refine hK9 _ _ ?_
  try clear hK9 K9
  refine qx ?_
  simp only[go_sem]
  refine hR _ _ ?_
  subst hH2
  have hff:=zt H l oz n oz
  obtain ⟨bo,_,_,_,hlt⟩:=hff.1.grown
  refine je gz hff.2.le hlt hff.2.cont
theorem dcopy_p {S:Nat->Prop} {x:AV} {h:List UInt8} (hl:h.length<=1000000) {H:Heap} (hx:HistB S H x h):SCallsP Tryz.prog 32 [x] H (fun r H'=>GrN (fun z=>z<H.next) H' r 1 h.length (bV h)/\Step (fun z=>z<H.next) H H'):=by
 rcases hx with ⟨rfl,rfl⟩ | ⟨q,pre,_,rfl,gq⟩
 ·exact (qo7 H).p.mono fun r H' _ ⟨h1,h2⟩=>by rw[h1,h2]; exact ⟨GrN.nil _ _ _,Step.refl _ _⟩
 ·refine (qj1 rfl rfl hl gq).p.mono fun r H' _ ⟨h1,h2⟩=>?_
  rw[h1,h2]
  have:=zt H h hl h.length (Nat.le_refl _)
  rw[List.take_of_length_le (Nat.le_refl _)] at this
  exact this
theorem qo8 {S:Nat->Prop} {x:AV} {h:List UInt8} (hh:h.length<=1000000) {H:Heap} (hx:HistB S H x h):SCallsP Tryz.prog 36 [x,.int 32768] H (fun r H'=>GrN (fun z=>z<H.next) H' r 1 (lastW h).length (bV (lastW h))/\Step (fun z=>z<H.next) H H'):=by
 refine qA (sz:=13) (Tryz.call36) Tryz.func36 rfl kz (fun R hR=>?_)
 refine qg (fun K1 hK1=>?_)
 refine qi kz ?_
 simp[go_sem]
 refine hK1 _ _ ?_
 try clear hK1 K1
 refine qg (fun K2 hK2=>?_)
 rcases hx with ⟨rfl,rfl⟩ | ⟨q,pre,_,rfl,gq⟩
 ·skip
  have w0:IntKind.i64.wrap (-32768) = -32768:=rfl
  have cc:SCallsP Tryz.prog 32 [.nil] H _:=dcopy_p (S:=fun _=>False) (h:=[]) (by simp) (.inl ⟨rfl,rfl⟩)
  refine qp kz ?_
  refine qH 8 (fun K3 hK3=>?_)
  simp[go_sem,w0,qb7]
  refine ⟨_,cc,?_⟩
  rintro y H1 hn1 ⟨hG,hS1⟩
  refine hK3 _ _ ?_
  clear hK3 K3
  simp[go_sem,w0,qb7]
  refine hK2 _ _ ?_
  try clear hK2 K2
  refine qx ?_
  simp only[go_sem]
  refine hR _ _ ?_
  exact hS1.retP (r:=y) gz ⟨hG,hS1⟩ (by obtain ⟨_,_,_,_,hlt⟩:=hG.grown; exact hlt)
 ·skip
  obtain ⟨N,hN⟩ : ∃ z,h.length=z:=⟨_,rfl⟩
  rw[hN] at hh
  obtain ⟨d,hd⟩ : ∃ z,N-32768=z:=⟨_,rfl⟩
  have w0:IntKind.i64.wrap ((N:Int)-32768)=(N:Int)-32768:=i64in _ oz oz
  have tn:((N:Int)-32768).toNat=d:=oz
  have d0:d<=N:=oz
  have hlw:lastW h=h.drop d:=by unfold lastW; rw[hN,hd]
  have hdl:(h.drop d).length=N-d:=by rw[List.length_drop,hN]
  have cc:=qj1 (l:=h.drop d) (n:=N-d) (pre:=pre++bV (h.take d)) (q:=q) (off:=pre.length+d) hdl (by rw[List.length_append,qQ,List.length_take]; omega) oz (H:=H) (by rw[List.append_assoc,<- jF,List.take_append_drop]; exact gq)
  have hff:=zt H (h.drop d) oz (N-d) oz
  rw[List.take_of_length_le oz] at hff
  rw[hN]
  refine qi kz ?_
  refine qI 8 (fun K4 hK4=>?_)
  simp[go_sem,w0,tn,qb7,d0]
  refine ⟨_,_,cc,?_⟩
  refine hK4 _ _ ?_
  clear hK4 K4
  simp[go_sem,w0,tn,qb7,d0]
  refine hK2 _ _ ?_
  try clear hK2 K2
  refine qx ?_
  simp only[go_sem]
  refine hR _ _ ?_
  obtain ⟨_,_,_,_,hlt⟩:=hff.1.grown
  rw[hlw,hdl]
  exact hff.2.retP (r:=(copyS H (h.drop d) (N-d)).1) gz hff hlt
end Go.Proofs.YtfokgjhdndnnhaaGreatDoor
end X12S
