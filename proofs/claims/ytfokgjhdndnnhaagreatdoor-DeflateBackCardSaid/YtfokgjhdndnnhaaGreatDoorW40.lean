/- Contracts: a length, read. -/
import Derived.Test.YtfokgjhdndnnhaaGreatDoorW37
import Derived.Test.YtfokgjhdndnnhaaGreatDoorD6
set_option maxHeartbeats 1000000
set_option linter.unusedVariables false
set_option linter.unusedSimpArgs false
set_option maxRecDepth 20000
noncomputable section W38S
namespace Go.Proofs.YtfokgjhdndnnhaaGreatDoor
open Go Go.Fl Go.Proofs
theorem tdivN (a b:Nat):((a:Int)).tdiv (b:Int)=((a/b:Nat):Int):=rfl
theorem tmodN (a b:Nat):((a:Int)).tmod (b:Int)=((a%b:Nat):Int):=rfl
theorem len_a (H:Heap) (ib:Nat):SCalls Tryz.prog 108 [.ptr ib 0,.int 285] H (.tup [.int 258,.sc .nilIface]) H:=by
 refine qE (sz:=40) (Tryz.call108) Tryz.func108 rfl (Nat.le_refl _) kz (fun R hR=>?_)
 refine qg (fun K1 hK1=>?_)
 refine qi kz ?_
 simp[go_sem]
 refine hK1 _ _ ?_
 try clear hK1 K1
 refine qg (fun K2 hK2=>?_)
 refine qm ?_
 refine qg (fun K3 hK3=>?_)
 refine qi kz ?_
 simp[go_sem]
 refine hK3 _ _ ?_
 try clear hK3 K3
 refine qj (b:=false) gz (fun h=>by cases h) (fun _=>?_)
 refine qg (fun K4 hK4=>?_)
 refine qi kz ?_
 simp[go_sem]
 refine hK4 _ _ ?_
 try clear hK4 K4
 refine qj (b:=true) gz (fun _=>?_) (fun h=>by cases h)
 refine qg (fun K5 hK5=>?_)
 refine qi kz ?_
 simp[go_sem]
 refine hK5 _ _ ?_
 try clear hK5 K5
 refine qx ?_
 simp only[go_sem]
 refine hR _ _ ?_
 exact qG gz (Heap.le_refl _) (Nat.le_refl _) gz
theorem len_b (H:Heap) (ib n:Nat) (h:n<11):SCalls Tryz.prog 108 [.ptr ib 0,.int (n+254:Nat)] H (.tup [.int n,.sc .nilIface]) H:=by
 obtain ⟨y,hy⟩ : ∃ z,n+254=z:=⟨_,rfl⟩
 rw[hy]
 have n1 : ¬ (286<=(y:Int)):=oz
 have n2:((y:Int)==285)=false:=by simp; omega
 have n3:(y:Int)<265:=oz
 have w:IntKind.i64.wrap ((y:Int)-254)=(n:Int):=by rw[i64in _ oz oz]; omega
 refine qE (sz:=40) (Tryz.call108) Tryz.func108 rfl (Nat.le_refl _) kz (fun R hR=>?_)
 refine qg (fun K1 hK1=>?_)
 refine qi kz ?_
 simp[go_sem]
 refine hK1 _ _ ?_
 try clear hK1 K1
 refine qg (fun K2 hK2=>?_)
 refine qm ?_
 refine qg (fun K3 hK3=>?_)
 refine qi kz ?_
 simp[go_sem,n1]
 refine hK3 _ _ ?_
 try clear hK3 K3
 refine qj (b:=false) gz (fun h=>by cases h) (fun _=>?_)
 refine qg (fun K4 hK4=>?_)
 refine qi kz ?_
 simp[go_sem,n2]
 refine hK4 _ _ ?_
 try clear hK4 K4
 refine qj (b:=false) gz (fun h=>by cases h) (fun _=>?_)
 refine qg (fun K5 hK5=>?_)
 refine qi kz ?_
 simp[go_sem,n3]
 refine hK5 _ _ ?_
 try clear hK5 K5
 refine qj (b:=true) gz (fun _=>?_) (fun h=>by cases h)
 refine qg (fun K6 hK6=>?_)
 refine qi kz ?_
 simp[go_sem,w]
 refine hK6 _ _ ?_
 try clear hK6 K6
 refine qx ?_
 simp only[go_sem]
 refine hR _ _ ?_
 exact qG gz (Heap.le_refl _) (Nat.le_refl _) gz
theorem len_c {S:Nat->Prop} {H:Heap} {ib p fr mo:Nat} {b all:List UInt8} (hI:InR S H ib b p all fr mo) (hb:b.length<=100000) {e q x:Nat} (hp:p<=8*b.length) (he1:1<=e) (he5:e<=5) (hq4:4<=q) (hq7:q<=7) (hx:x<2^e) (haw:Ahead b p (natBits e x)):SCallsP Tryz.prog 108 [.ptr ib 0,.int (265+4*(e-1)+(q-4):Nat)] H (fun r H'=>r = .tup [.int (q*2^e+3+x:Nat),.sc .nilIface]/\InR S H' ib b (p+e) all fr mo/\Step S H H'):=by
 have hp1:=haw.room hp
 rw[qB] at hp1
 have ct:=yh hI hb (n:=e) hp1 oz
 rw[haw.bits hx] at ct
 have hpe:2^e<=32:=Nat.le_trans (Nat.pow_le_pow_right dz he5) dz
 obtain ⟨Q,hQ⟩ : ∃ z,q*2^e=z:=⟨_,rfl⟩
 have hQl:Q<=224:=by rw[<- hQ]; exact Nat.le_trans (Nat.mul_le_mul hq7 hpe) dz
 have sl:bshl .i64 (q:Int) (e:Int)=(Q:Int):=by rw[<- hQ]; exact zB q e oz oz
 rw[hQ]
 have hx32:x<32:=Nat.lt_of_lt_of_le hx hpe
 obtain ⟨y,hy⟩ : ∃ z,265+4*(e-1)+(q-4)=z:=⟨_,rfl⟩
 rw[hy]
 have n1 : ¬ (286<=(y:Int)):=oz
 have n2:((y:Int)==285)=false:=by simp; omega
 have n3 : ¬ ((y:Int)<265):=oz
 obtain ⟨z,hz⟩ : ∃ z,y-261=z:=⟨_,rfl⟩
 have w1:IntKind.i64.wrap ((y:Int)-261)=(z:Int):=by rw[i64in _ oz oz]; omega
 have d4:(z:Int).tdiv 4=(e:Int):=by have:=tdivN z 4; rw[show z/4=e by omega] at this; exact this
 have w2:IntKind.i64.wrap (e:Int)=(e:Int):=i64in _ oz oz
 obtain ⟨u,hu⟩ : ∃ z,y-265=z:=⟨_,rfl⟩
 have w3:IntKind.i64.wrap ((y:Int)-265)=(u:Int):=by rw[i64in _ oz oz]; omega
 obtain ⟨q4,hq4⟩ : ∃ z,q-4=z:=⟨_,rfl⟩
 have m4:(u:Int).tmod 4=(q4:Int):=by have:=tmodN u 4; rw[show u%4=q4 by omega] at this; exact this
 have w4:IntKind.i64.wrap (4+(q4:Int))=(q:Int):=by rw[i64in _ oz oz]; omega
 have w5:IntKind.i64.wrap ((Q:Int)+3)=(Q:Int)+3:=i64in _ oz oz
 have w6:IntKind.i64.wrap ((Q:Int)+3+(x:Int))=(Q:Int)+3+(x:Int):=i64in _ oz oz
 refine qA (sz:=40) (Tryz.call108) Tryz.func108 rfl kz (fun R hR=>?_)
 refine qg (fun K1 hK1=>?_)
 refine qi kz ?_
 simp[go_sem]
 refine hK1 _ _ ?_
 try clear hK1 K1
 refine qg (fun K2 hK2=>?_)
 refine qm ?_
 refine qg (fun K3 hK3=>?_)
 refine qi kz ?_
 simp[go_sem,n1]
 refine hK3 _ _ ?_
 try clear hK3 K3
 refine qj (b:=false) gz (fun h=>by cases h) (fun _=>?_)
 refine qg (fun K4 hK4=>?_)
 refine qi kz ?_
 simp[go_sem,n2]
 refine hK4 _ _ ?_
 try clear hK4 K4
 refine qj (b:=false) gz (fun h=>by cases h) (fun _=>?_)
 refine qg (fun K5 hK5=>?_)
 refine qi kz ?_
 simp[go_sem,n3]
 refine hK5 _ _ ?_
 try clear hK5 K5
 refine qj (b:=false) gz (fun h=>by cases h) (fun _=>?_)
 refine ql ?_
 refine hK2 _ _ ?_
 try clear hK2 K2
 refine qg (fun K6 hK6=>?_)
 refine qi kz ?_
 simp[go_sem,w1,d4,w2]
 refine hK6 _ _ ?_
 try clear hK6 K6
 refine qg (fun K7 hK7=>?_)
 refine qp kz ?_
 refine qH 3 (fun K8 hK8=>?_)
 simp[go_sem]
 refine ⟨_,ct,?_⟩
 rintro _ H2 hn2 ⟨rfl,hI2,hS2⟩
 refine hK8 _ _ ?_
 clear hK8 K8
 simp[go_sem]
 refine hK7 _ _ ?_
 try clear hK7 K7
 refine qg (fun K9 hK9=>?_)
 refine qi kz ?_
 simp[go_sem,w3,m4,w4,sl,w5,w6]
 refine hK9 _ _ ?_
 try clear hK9 K9
 refine qx ?_
 simp only[go_sem]
 refine hR _ _ ?_
 refine hS2.retP (r:=.tup [.int (Q+3+x:Nat),.sc .nilIface]) gz ⟨rfl,hI2,hS2⟩ gz
theorem length_p {S:Nat->Prop} {H:Heap} {ib p fr mo:Nat} {b all:List UInt8} (hI:InR S H ib b p all fr mo) (hb:b.length<=100000) (hp:p<=8*b.length) {n:Nat} (h3:3<=n) (h258:n<=258) (haw:Ahead b p (natBits (lenPart n).bits (lenPart n).more)):SCallsP Tryz.prog 108 [.ptr ib 0,.int ((lenPart n).sym:Nat)] H (fun r H'=>r = .tup [.int n,.sc .nilIface]/\InR S H' ib b (p+(lenPart n).bits) all fr mo/\Step S H H'):=by
 rcases jv h3 h258 with ⟨hn,hr⟩ | ⟨hn,hr⟩ | ⟨e,q,hn11,hn258,h1e,he5,hq4,hq7,hq,hpe,hqe,hme,hr⟩
 ·rw[hr]
  subst hn
  exact (len_a H ib).p.mono fun r H' _ ⟨h1,h2⟩=>by rw[h1,h2]; exact ⟨rfl,hI,Step.refl _ _⟩
 ·rw[hr]
  exact (len_b H ib n hn).p.mono fun r H' _ ⟨h1,h2⟩=>by rw[h1,h2]; exact ⟨rfl,hI,Step.refl _ _⟩
 ·rw[hr] at haw |-
  have hc:=len_c hI hb hp h1e he5 hq4 hq7 hme haw
  have e1:q*2^e+3+(n-3)%2^e=n:=oz
  rw[e1] at hc
  exact hc
end Go.Proofs.YtfokgjhdndnnhaaGreatDoor
end W38S
set_option maxRecDepth 20000
noncomputable section W39S
namespace Go.Proofs.YtfokgjhdndnnhaaGreatDoor
open Go Go.Fl Go.Proofs
theorem dist_b {S:Nat->Prop} {H:Heap} {ib p fr mo:Nat} {b all:List UInt8} (hI:InR S H ib b p all fr mo) (hb:b.length<=100000) {l:List Nat} (hp:p<=8*b.length) (hk:LensOk l) {y:Nat} (hy4:y<4) (h:0<l.getD y 0) (haw:Ahead b p (symBits l y)):SCallsP Tryz.prog 109 [.ptr ib 0,tabA l] H (fun r H'=>r = .tup [.int (y+1:Nat),.sc .nilIface]/\InR S H' ib b (p+l.getD y 0) all fr mo/\Step S H H'):=by
 obtain ⟨rb,x,nI,nR,ne,gI,gR,gX,hSn⟩:=hI
 have ct:=yE gR hb hp hk h haw
 have n1 : ¬ (30<=(y:Int)):=oz
 have n2:(y:Int)<4:=oz
 have w:IntKind.i64.wrap ((y:Int)+1)=((y+1:Nat):Int):=by rw[i64in _ oz oz]; omega
 push_cast at w
 refine qA (sz:=52) (Tryz.call109) Tryz.func109 rfl kz (fun R hR=>?_)
 refine qg (fun K1 hK1=>?_)
 refine qi kz ?_
 simp[go_sem]
 refine hK1 _ _ ?_
 try clear hK1 K1
 refine qg (fun K2 hK2=>?_)
 refine qp kz ?_
 refine qH 6 (fun K3 hK3=>?_)
 simp[go_sem,gI]
 refine ⟨_,ct,?_⟩
 rintro _ H1 hn1 ⟨rfl,gR1,hS1⟩
 have hI1:=InR.rd nI nR ne gI gX hSn gR1 (hS1.mono fun z hz=>hz.2)
 refine hK3 _ _ ?_
 clear hK3 K3
 simp[go_sem,gI]
 refine hK2 _ _ ?_
 try clear hK2 K2
 refine qg (fun K4 hK4=>?_)
 refine qm ?_
 refine qg (fun K5 hK5=>?_)
 refine qi kz ?_
 simp[go_sem]
 refine hK5 _ _ ?_
 try clear hK5 K5
 refine qj (b:=false) gz (fun h=>by cases h) (fun _=>?_)
 refine qg (fun K6 hK6=>?_)
 refine qi kz ?_
 simp[go_sem,n1]
 refine hK6 _ _ ?_
 try clear hK6 K6
 refine qj (b:=false) gz (fun h=>by cases h) (fun _=>?_)
 refine qg (fun K7 hK7=>?_)
 refine qi kz ?_
 simp[go_sem,n2]
 refine hK7 _ _ ?_
 try clear hK7 K7
 refine qj (b:=true) gz (fun _=>?_) (fun h=>by cases h)
 refine qg (fun K8 hK8=>?_)
 refine qi kz ?_
 simp[go_sem,w]
 refine hK8 _ _ ?_
 try clear hK8 K8
 refine qx ?_
 simp only[go_sem]
 refine hR _ _ ?_
 refine hI1.2.retP (r:=.tup [.int (y+1:Nat),.sc .nilIface]) gz ⟨rfl,hI1.1,hI1.2⟩ gz
theorem dist_c {S:Nat->Prop} {H:Heap} {ib p fr mo:Nat} {b all:List UInt8} (hI:InR S H ib b p all fr mo) (hb:b.length<=100000) {l:List Nat} (hp:p<=8*b.length) (hk:LensOk l) {e q x:Nat} (he1:1<=e) (he5:e<=13) (hq2:2<=q) (hq3:q<=3) (hx:x<2^e) (h:0<l.getD (2*(e+1)+(q-2)) 0) (haw:Ahead b p (symBits l (2*(e+1)+(q-2))++natBits e x)):SCallsP Tryz.prog 109 [.ptr ib 0,tabA l] H (fun r H'=>r = .tup [.int (q*2^e+1+x:Nat),.sc .nilIface]/\InR S H' ib b (p+l.getD (2*(e+1)+(q-2)) 0+e) all fr mo/\Step S H H'):=by
 have hrm:=haw.room hp
 rw[List.length_append,qN,qB] at hrm
 have haw2:=haw.next
 rw[qN] at haw2
 obtain ⟨rb,x0,nI,nR,ne,gI,gR,gX,hSn⟩:=hI
 have ct:=yE gR hb hp hk h haw.fst
 obtain ⟨y,hy⟩ : ∃ z,2*(e+1)+(q-2)=z:=⟨_,rfl⟩
 rw[hy] at ct hrm haw2 |-
 obtain ⟨p2,hp2⟩ : ∃ z,p+l.getD y 0=z:=⟨_,rfl⟩
 rw[hp2] at ct haw2 |-
 have hbt:=haw2.bits hx
 have hpe:2^e<=8192:=Nat.le_trans (Nat.pow_le_pow_right dz he5) dz
 obtain ⟨Q,hQ⟩ : ∃ z,q*2^e=z:=⟨_,rfl⟩
 have hQl:Q<=24576:=by rw[<- hQ]; exact Nat.le_trans (Nat.mul_le_mul hq3 hpe) dz
 have sl:bshl .i64 (q:Int) (e:Int)=(Q:Int):=by rw[<- hQ]; exact zB q e oz oz
 rw[hQ]
 have hx32:x<8192:=Nat.lt_of_lt_of_le hx hpe
 have n1 : ¬ (30<=(y:Int)):=oz
 have n2 : ¬ ((y:Int)<4):=oz
 obtain ⟨e1,he1q⟩ : ∃ z,e+1=z:=⟨_,rfl⟩
 have d2:(y:Int).tdiv 2=(e1:Int):=by have:=tdivN y 2; rw[show y/2=e1 by omega] at this; exact this
 have w1:IntKind.i64.wrap (e1:Int)=(e1:Int):=i64in _ oz oz
 have w2:IntKind.i64.wrap ((e1:Int)-1)=(e:Int):=by rw[i64in _ oz oz]; omega
 obtain ⟨q2,hq2q⟩ : ∃ z,q-2=z:=⟨_,rfl⟩
 have m2:(y:Int).tmod 2=(q2:Int):=by have:=tmodN y 2; rw[show y%2=q2 by omega] at this; exact this
 have w4:IntKind.i64.wrap (2+(q2:Int))=(q:Int):=by rw[i64in _ oz oz]; omega
 have w5:IntKind.i64.wrap ((Q:Int)+1)=(Q:Int)+1:=i64in _ oz oz
 have w6:IntKind.i64.wrap ((Q:Int)+1+(x:Int))=(Q:Int)+1+(x:Int):=i64in _ oz oz
 refine qA (sz:=52) (Tryz.call109) Tryz.func109 rfl kz (fun R hR=>?_)
 refine qg (fun K1 hK1=>?_)
 refine qi kz ?_
 simp[go_sem]
 refine hK1 _ _ ?_
 try clear hK1 K1
 refine qg (fun K2 hK2=>?_)
 refine qp kz ?_
 refine qH 6 (fun K3 hK3=>?_)
 simp[go_sem,gI]
 refine ⟨_,ct,?_⟩
 rintro _ H1 hn1 ⟨rfl,gR1,hS1⟩
 have hI1:=InR.rd nI nR ne gI gX hSn gR1 (hS1.mono fun z hz=>hz.2)
 have ct2:=yh hI1.1 hb (n:=e) oz oz
 rw[hbt] at ct2
 refine hK3 _ _ ?_
 clear hK3 K3
 simp[go_sem,gI]
 refine hK2 _ _ ?_
 try clear hK2 K2
 refine qg (fun K4 hK4=>?_)
 refine qm ?_
 refine qg (fun K5 hK5=>?_)
 refine qi kz ?_
 simp[go_sem]
 refine hK5 _ _ ?_
 try clear hK5 K5
 refine qj (b:=false) gz (fun h=>by cases h) (fun _=>?_)
 refine qg (fun K6 hK6=>?_)
 refine qi kz ?_
 simp[go_sem,n1]
 refine hK6 _ _ ?_
 try clear hK6 K6
 refine qj (b:=false) gz (fun h=>by cases h) (fun _=>?_)
 refine qg (fun K7 hK7=>?_)
 refine qi kz ?_
 simp[go_sem,n2]
 refine hK7 _ _ ?_
 try clear hK7 K7
 refine qj (b:=false) gz (fun h=>by cases h) (fun _=>?_)
 refine ql ?_
 refine hK4 _ _ ?_
 try clear hK4 K4
 refine qg (fun K8 hK8=>?_)
 refine qi kz ?_
 simp[go_sem,d2,w1,w2]
 refine hK8 _ _ ?_
 try clear hK8 K8
 refine qg (fun K9 hK9=>?_)
 refine qp kz ?_
 refine qH 3 (fun K10 hK10=>?_)
 simp[go_sem]
 refine ⟨_,ct2,?_⟩
 rintro _ H2 hn2 ⟨rfl,hI2,hS2⟩
 have hS3:=hI1.2.trans hS2
 refine hK10 _ _ ?_
 clear hK10 K10
 simp[go_sem]
 refine hK9 _ _ ?_
 try clear hK9 K9
 refine qg (fun K11 hK11=>?_)
 refine qi kz ?_
 simp[go_sem,m2,w4,sl,w5,w6]
 refine hK11 _ _ ?_
 try clear hK11 K11
 refine qx ?_
 simp only[go_sem]
 refine hR _ _ ?_
 refine hS3.retP (r:=.tup [.int (Q+1+x:Nat),.sc .nilIface]) gz ⟨rfl,hI2,hS3⟩ gz
theorem qmq {S:Nat->Prop} {H:Heap} {ib p fr mo:Nat} {b all:List UInt8} (hI:InR S H ib b p all fr mo) (hb:b.length<=100000) {l:List Nat} (hp:p<=8*b.length) (hk:LensOk l) {d:Nat} (h1:1<=d) (h2:d<=32768) (h:0<l.getD (distPart d).sym 0) (haw:Ahead b p (symBits l (distPart d).sym++natBits (distPart d).bits (distPart d).more)):SCallsP Tryz.prog 109 [.ptr ib 0,tabA l] H (fun r H'=>r = .tup [.int d,.sc .nilIface]/\InR S H' ib b (p+l.getD (distPart d).sym 0+(distPart d).bits) all fr mo/\Step S H H'):=by
 rcases jH h1 h2 with ⟨hn,hr⟩ | ⟨e,q,hn5,h1e,he5,hq2,hq3,hq,hpe,hqe,hme,hr⟩
 ·rw[hr] at h haw |-
  have hc:=dist_b hI hb hp hk (y:=d-1) oz h haw.fst
  have e1:d-1+1=d:=oz
  rw[e1] at hc
  exact hc
 ·rw[hr] at h haw |-
  have hc:=dist_c hI hb hp hk h1e he5 hq2 hq3 hme h haw
  have e1:q*2^e+1+(d-1)%2^e=d:=oz
  rw[e1] at hc
  exact hc
end Go.Proofs.YtfokgjhdndnnhaaGreatDoor
end W39S
set_option maxRecDepth 20000
noncomputable section W40S
namespace Go.Proofs.YtfokgjhdndnnhaaGreatDoor
open Go Go.Fl Go.Proofs
theorem InR.push {S:Nat->Prop} {H:Heap} {ib rb p fr mo al c:Nat} {x:AV} {b all:List UInt8} {v:UInt8} (nI : ¬ S ib) (nR : ¬ S rb) (ne:rb≠ib) (gI:H.get ib=some [.ptr rb 0,x,.int fr,.int mo]) (gR:H.get rb=some (rdC b p)) (gX:GrN (fun z=>S z\/z=ib\/z=rb) H x 1 all.length (bV all)) (hSn : ∀ z,S z->z<H.next) (hal:all.length=al) (hl:al<=1000000) (hc:v.toNat=c) :
  ∃ H1,aappend Tryz.prog (H.alloc [.sc (.int .u8 c)]) 25 25 x (.ms H.next 0 1 1)=some (.ms (H.next+1) 0 (al+1) 1,H1)/\H1.get ib=some [.ptr rb 0,x,.int fr,.int mo] /\
   InR S (H1.set ib [.ptr rb 0,.ms (H.next+1) 0 (al+1) 1,.int fr,.int mo]) ib b p (all ++ [v]) fr mo/\Step S H (H1.set ib [.ptr rb 0,.ms (H.next+1) 0 (al+1) 1,.int fr,.int mo]):=by
 have hne:bV [v] = [.sc (.int .u8 c)]:=by rw[<- hc]; rfl
 rw[<- hne]
 have hSa:Step (fun z=>z<H.next) H (H.alloc (bV [v])):=(Step.refl _ _).alloc (ja _ _)
 have gX2:=gX.keep (H':=H.alloc (bV [v])) (fun q cs hq=>hSa.get hq (Heap.lt_of_get hq))
 obtain ⟨bo,hg,hbo,_,hlx⟩:=gX2.grown
 rw[hal] at hg
 have hsrc:source Tryz.prog (H.alloc (bV [v])) 1 25 (.ms H.next 0 1 1)=some (1,bV [v]):=by
  rw[zq tU25 (cs:=bV [v]) (by rw[Heap.get_alloc,if_pos rfl]) (by simp[bV])]
  rfl
 have hap:=qL (P:=Tryz.prog) (H:=H.alloc (bV [v])) (x:=.ms H.next 0 1 1) (u:=25) tU25 tS5 tB5 tZ5 rfl hsrc hg oz oz (yc _)
 rw[<- jF,Heap.next_alloc] at hap
 have hS5:Step (fun z=>(S z\/z=ib\/z=rb)/\z<H.next) H ((H.alloc (bV [v])).regrow bo (bV (all ++ [v]))):=(hSa.mono fun z hz=>hz.2).regrow (fun q hq hz=>hbo q hq hz.1) (ja _ _)
 have hIl:=Heap.lt_of_get gI
 have hRl:=Heap.lt_of_get gR
 have gI5:=hS5.get gI ⟨.inr (.inl rfl),hIl⟩
 have gR5:=hS5.get gR ⟨.inr (.inr rfl),hRl⟩
 have hnx:((H.alloc (bV [v])).regrow bo (bV (all ++ [v]))).next=H.next+2:=by rw[Heap.next_regrow,Heap.next_alloc]
 have hS6:Step S H (((H.alloc (bV [v])).regrow bo (bV (all ++ [v]))).set ib [.ptr rb 0,.ms (H.next+1) 0 (al+1) 1,.int fr,.int mo]):=(hS5.mono fun z hz=>⟨.inl hz,hSn z hz⟩).set nI (by rw[hnx]; simp[go_sem]; omega)
 have hlen:(all ++ [v]).length=al+1:=by rw[List.length_append,hal]; rfl
 refine ⟨_,hap,gI5,⟨rb,_,nI,nR,ne,by rw[Heap.get_set,if_pos rfl,gI5]; rfl,by rw[Heap.get_set,if_neg ne]; exact gR5,?_,fun z hz=>Nat.lt_of_lt_of_le (hSn z hz) hS6.le⟩,hS6⟩
 rw[hlen]
 refine GrN.ms (fun h=>?_) ?_ (by rw[qQ,hlen]; omega)
 ·rcases h with h | h | h
  ·have:=hSn _ h; omega
  ·omega
  ·omega
 ·rw[Heap.get_set,if_neg oz]
  have:=zf (H:=H.alloc (bV [v])) (bo:=bo) (v:=bV (all ++ [v]))
  rw[Heap.next_alloc] at this
  exact this
theorem qct (back:Nat) : ∀ (n:Nat) (acc:List UInt8),copyN back (n+1) acc=copyN back n acc ++ [gB (copyN back n acc) ((copyN back n acc).length-back)]
 | 0,_=>rfl
 | n+1,acc=>by
  have:=qct back n (acc ++ [gB acc (acc.length-back)])
  exact this
theorem qb4 (back:Nat) : ∀ (n:Nat) (acc:List UInt8),(copyN back n acc).length=acc.length+n
 | 0,_=>rfl
 | n+1,acc=>by
  show (copyN back n (acc ++ [gB acc (acc.length-back)])).length=_
  rw[qb4 back n,List.length_append]
  simp
  omega
theorem copies_p {S:Nat->Prop} {H:Heap} {ib p fr mo:Nat} {b all:List UInt8} (hI:InR S H ib b p all fr mo) (hb:b.length<=100000) (hp:p<=8*b.length) {l:List Nat} (hk:LensOk l) {n d:Nat} (h3:3<=n) (h258:n<=258) (h1:1<=d) (h2:d<=32768) (hal:Ahead b p (natBits (lenPart n).bits (lenPart n).more)) (hp2:p+(lenPart n).bits<=8*b.length) (h0:0<l.getD (distPart d).sym 0) (had:Ahead b (p+(lenPart n).bits) (symBits l (distPart d).sym++natBits (distPart d).bits (distPart d).more)) (hda:d<=all.length) (h4:fr<=all.length) (h5:all.length<=900000) (h6:all.length+n<=fr+mo) (h7:mo<=1000000):SCallsP Tryz.prog 86 [.ptr ib 0,.int ((lenPart n).sym:Nat),tabA l] H (fun r H'=>r = .sc .nilIface/\InR S H' ib b (p+(lenPart n).bits+l.getD (distPart d).sym 0+(distPart d).bits) (copyN d n all) fr mo/\Step S H H'):=by
 obtain ⟨p1,hp1⟩ : ∃ z,p+(lenPart n).bits=z:=⟨_,rfl⟩
 have cl:=length_p hI hb hp h3 h258 hal
 rw[hp1] at cl hp2 had
 obtain ⟨pe,hpe⟩ : ∃ z,p1+l.getD (distPart d).sym 0+(distPart d).bits=z:=⟨_,rfl⟩
 have hpp:p+(lenPart n).bits+l.getD (distPart d).sym 0+(distPart d).bits=pe:=by rw[hp1,hpe]
 rw[hpp]
 obtain ⟨A,hA⟩ : ∃ z,all.length=z:=⟨_,rfl⟩
 refine qA (sz:=69) (Tryz.call86) Tryz.func86 rfl kz (fun R hR=>?_)
 refine qg (fun K1 hK1=>?_)
 refine qi kz ?_
 simp[go_sem]
 refine hK1 _ _ ?_
 try clear hK1 K1
 refine qg (fun K2 hK2=>?_)
 refine qp kz ?_
 refine qH 3 (fun K3 hK3=>?_)
 simp[go_sem]
 refine ⟨_,cl,?_⟩
 rintro _ H1 hn1 ⟨rfl,hI1,hS1⟩
 have cd:=qmq hI1 hb hp2 hk h1 h2 h0 had
 rw[hpe] at cd
 refine hK3 _ _ ?_
 clear hK3 K3
 simp[go_sem]
 refine hK2 _ _ ?_
 try clear hK2 K2
 refine qg (fun K4 hK4=>?_)
 refine qg (fun K5 hK5=>?_)
 refine qi kz ?_
 simp[go_sem]
 refine hK5 _ _ ?_
 try clear hK5 K5
 refine qj (b:=false) gz (fun h=>by cases h) (fun _=>?_)
 refine ql ?_
 refine hK4 _ _ ?_
 try clear hK4 K4
 refine qw (fun env H2=>env 0 = .ptr ib 0/\env 7 = .int n/\env 8 = .sc .nilIface/\env 9 = .int d/\InR S H2 ib b pe all fr mo/\Step S H H2) ?_ ?_
 ·skip
  refine qp kz ?_
  refine qH 3 (fun K7 hK7=>?_)
  simp[go_sem]
  refine ⟨_,cd,?_⟩
  rintro _ H2 hn2 ⟨rfl,hI2,hS2⟩
  have hS12:=hS1.trans hS2
  refine hK7 _ _ ?_
  clear hK7 K7
  simp[go_sem]
  exact ⟨hI2,hS12⟩
 rintro env H2 ⟨e0,e7,e8,e9,hI2,hS2⟩
 have cr:=qo3 hI2 hb (n:=n) h4 oz h6 h7
 obtain ⟨rb,x,nI,nR,ne,gI,gR,gX,hSn⟩:=hI2
 have hdA : ¬ ((A:Int)<(d:Int)):=oz
 have hx : ∃ q,x = .ms q 0 A 1:=by
  rcases gX with ⟨_,hz,_⟩ | ⟨q,_,hq,_,_⟩
  ·omega
  ·rw[hA] at hq; exact ⟨q,hq⟩
 obtain ⟨q0,rfl⟩:=hx
 have hI2:InR S H2 ib b pe all fr mo:=⟨rb,_,nI,nR,ne,gI,gR,gX,hSn⟩
 refine qg (fun K8 hK8=>?_)
 refine qg (fun K9 hK9=>?_)
 refine qi kz ?_
 simp[go_sem,e8]
 refine hK9 _ _ ?_
 try clear hK9 K9
 refine qj (b:=false) gz (fun h=>by cases h) (fun _=>?_)
 refine ql ?_
 refine hK8 _ _ ?_
 try clear hK8 K8
 refine qg (fun K10 hK10=>?_)
 refine qg (fun K11 hK11=>?_)
 refine qi kz ?_
 simp[go_sem,e0,e9,gI,hdA]
 refine hK11 _ _ ?_
 try clear hK11 K11
 refine qj (b:=false) gz (fun h=>by cases h) (fun _=>?_)
 refine ql ?_
 refine hK10 _ _ ?_
 try clear hK10 K10
 refine qg (fun K12 hK12=>?_)
 refine qg (fun K13 hK13=>?_)
 refine qi kz ?_
 refine qI 3 (fun K14 hK14=>?_)
 simp[go_sem,e0,e7]
 refine ⟨_,_,cr,?_⟩
 refine hK14 _ _ ?_
 clear hK14 K14
 simp[go_sem,e0,e7]
 refine hK13 _ _ ?_
 try clear hK13 K13
 refine qg (fun K15 hK15=>?_)
 refine qi kz ?_
 simp[go_sem]
 refine hK15 _ _ ?_
 try clear hK15 K15
 refine qj (b:=false) gz (fun h=>by cases h) (fun _=>?_)
 refine ql ?_
 refine hK12 _ _ ?_
 try clear hK12 K12
 refine qg (fun K16 hK16=>?_)
 refine qg (fun K17 hK17=>?_)
 refine qi kz ?_
 simp[go_sem,e7]
 refine hK17 _ _ ?_
 try clear hK17 K17
 refine qm ?_
 refine qC (Inv:=fun m0 env H2 => ∃ k:Nat,m0=n-k/\k<=n/\env 0 = .ptr ib 0/\env 9 = .int d/\env 43 = .int n/\env 44 = .int k/\InR S H2 ib b pe (copyN d k all) fr mo/\Step S H H2) ?_ (n:=n) (⟨0,rfl,oz,by simp[go_sem,e0],by simp[go_sem,e9],gz,gz,hI2,hS2⟩)
 clear gI gR gX hSn nI nR ne hI2 hS2 cr e0 e7 e8 e9
 rintro m0 env H3 ⟨k,rfl,hk1,e0,e9,e43,e44,hI3,hS3⟩
 have hcl:=qb4 d k all
 have hcs:=qct d k all
 obtain ⟨ac,hac⟩ : ∃ z,copyN d k all=z:=⟨_,rfl⟩
 rw[hac] at hI3 hcl hcs
 refine qg (fun K18 hK18=>?_)
 refine qi kz ?_
 simp[go_sem,e43,e44]
 refine hK18 _ _ ?_
 try clear hK18 K18
 refine qg (fun K19 hK19=>?_)
 refine qj (b:=decide (k<n)) gz (fun hb9=>?_) (fun hb9=>?_)
 ·skip
  simp only[decide_eq_true_eq] at hb9
  obtain ⟨rb,x,nI,nR,ne,gI,gR,gX,hSn⟩:=hI3
  obtain ⟨al,hall⟩ : ∃ z,ac.length=z:=⟨_,rfl⟩
  have hx : ∃ q,x = .ms q 0 al 1/\H3.get q=some (bV ac):=by
   rcases gX with ⟨_,hz,_⟩ | ⟨q,_,hq,gq,_⟩
   ·omega
   ·rw[hall] at hq; exact ⟨q,hq,gq⟩
  obtain ⟨q,rfl,gq⟩:=hx
  obtain ⟨ix,hix⟩ : ∃ z,al-d=z:=⟨_,rfl⟩
  rw[hall,hix] at hcs
  have hpush:=InR.push (v:=gB ac ix) nI nR ne gI gR gX hSn hall oz rfl
  rw[<- hcs] at hpush
  obtain ⟨r,dr⟩:=yA (l:=ac) (i:=ix) oz
  obtain ⟨c,hc⟩ : ∃ z,(gB ac ix).toNat=z:=⟨_,rfl⟩
  rw[hc] at hpush dr
  obtain ⟨H4,hap,gI1,hI4,hS4⟩:=hpush
  have wl:IntKind.i64.wrap ((al:Int)-(d:Int))=(ix:Int):=by rw[i64in _ oz oz]; omega
  have il:(ix:Int)<al:=oz
  have i0:(0:Int)<=(ix:Int):=oz
  have i1:ix+1<=al:=oz
  have haL:(bV ac).length=al:=by rw[qQ,hall]
  have wk:=qF k oz
  have gIa:(H3.alloc [.sc (.int .u8 (c:Int))]).get ib=some [.ptr rb 0,.ms q 0 al 1,.int fr,.int mo]:=by rw[Heap.get_alloc,if_neg (by have:=Heap.lt_of_get gI; omega)]; exact gI
  refine ql ?_
  refine hK19 _ _ ?_
  try clear hK19 K19
  refine qg (fun K20 hK20=>?_)
  refine qm ?_
  refine qZ mixed kz (bf:=[0,0,2,6,14,0,32,96,224,0,512,1536,3584,7680,0,32256,65504,131040,262112,524286,1048575,2097151,4194303]) kz ?_
  simp[go_sem,e0,e9,gI,gq,wl,il,i0,i1,dr,haL,hap,gI1,gIa,befL]
  refine hK20 _ _ ?_
  try clear hK20 K20
  refine qo (fun K21 hK21=>?_)
  refine qi kz ?_
  simp[go_sem,e44,wk]
  refine hK21 _ _ ?_
  exact ⟨n-(k+1),oz,k+1,rfl,oz,by simp[go_sem,e0],by simp[go_sem,e9],by simp[go_sem,e43],by simp[go_sem,wk],hI4,hS3.trans hS4⟩
 ·skip
  simp only[decide_eq_false_iff_not] at hb9
  obtain rfl:n=k:=oz
  refine qy ?_
  refine hK16 _ _ ?_
  try clear hK16 K16
  refine qg (fun K22 hK22=>?_)
  refine qi kz ?_
  simp[go_sem]
  refine hK22 _ _ ?_
  try clear hK22 K22
  refine qx ?_
  simp only[go_sem]
  refine hR _ _ ?_
  rw[<- hac] at hI3
  refine hS3.retP (r:=.sc .nilIface) gz ⟨rfl,hI3,hS3⟩ gz
end Go.Proofs.YtfokgjhdndnnhaaGreatDoor
end W40S
