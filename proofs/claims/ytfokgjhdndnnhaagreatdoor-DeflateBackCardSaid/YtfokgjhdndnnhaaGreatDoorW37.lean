/- Contracts: bytes; the reader of inflate. -/
import Derived.Test.YtfokgjhdndnnhaaGreatDoorW33
set_option maxHeartbeats 1000000
set_option linter.unusedVariables false
set_option linter.unusedSimpArgs false
set_option maxRecDepth 20000
noncomputable section W34S
namespace Go.Proofs.YtfokgjhdndnnhaaGreatDoor
open Go Go.Fl Go.Proofs
theorem bV_part (b:List UInt8) (q n:Nat):((bV b).drop q).take n=bV ((b.drop q).take n):=by
 unfold bV
 rw[List.map_take,List.map_drop]
def InR (S:Nat->Prop) (H:Heap) (ib:Nat) (b:List UInt8) (p:Nat) (all:List UInt8) (fr mo:Nat):Prop := ∃ rb x,¬ S ib /\ ¬ S rb/\rb≠ib/\H.get ib=some [.ptr rb 0,x,.int fr,.int mo]/\H.get rb=some (rdC b p)/\GrN (fun z=>S z\/z=ib\/z=rb) H x 1 all.length (bV all) /\ ∀ z,S z->z<H.next
theorem bytes_r {H:Heap} {rb q n:Nat} {b:List UInt8} (gR:H.get rb=some (rdC b (8*q))) (hb:b.length<=100000) (hq:q+n<=b.length):SCallsP Tryz.prog 80 [.ptr rb 0,.int n] H (fun r H'=>r = .tup [bA ((b.drop q).take n),.bool true]/\H'.get rb=some (rdC b (8*(q+n)))/\Step (fun z=>z<H.next/\z≠rb) H H'):=by
 obtain ⟨v,hv⟩ : ∃ z,(b.drop q).take n=z:=⟨_,rfl⟩
 rw[hv]
 have hc0:(8*q+7)/8*8=8*q:=oz
 have ca:=qo2 gR hb oz
 rw[hc0] at ca
 obtain ⟨p,hp⟩ : ∃ z,8*q=z:=⟨_,rfl⟩
 have hp2:8*(q+n)=p+8*n:=oz
 rw[hp2]
 rw[hp] at ca gR
 refine qA (sz:=47) (Tryz.call80) Tryz.func80 rfl kz (fun R hR=>?_)
 refine qg (fun K1 hK1=>?_)
 refine qi kz ?_
 simp[go_sem]
 refine hK1 _ _ ?_
 try clear hK1 K1
 refine qg (fun K2 hK2=>?_)
 refine qo (fun K3 hK3=>?_)
 refine qp kz ?_
 simp[go_sem]
 refine ⟨_,ca,?_⟩
 rintro _ H1 hn1 ⟨rfl,gR1,hS1⟩
 have cl:=qlb gR1 hb oz
 unfold rdC bA atF at gR1
 obtain ⟨bl,hbl⟩ : ∃ k,b.length=k:=⟨_,rfl⟩
 rw[hbl] at gR1 hq hb cl
 have cm:=qid gR1
 have hbL:(bV b).length=bl:=by rw[qQ,hbl]
 obtain ⟨lf,hlf⟩ : ∃ z,8*bl-p=z:=⟨_,rfl⟩
 rw[hlf] at cl
 have dl:(lf:Int).tdiv 8=((lf/8:Nat):Int):=tdiv8 lf
 obtain ⟨l8,hl8⟩ : ∃ z,lf/8=z:=⟨_,rfl⟩
 rw[hl8] at dl
 have wl:IntKind.i64.wrap (l8:Int)=(l8:Int):=i64in _ oz oz
 have nl : ¬ ((l8:Int)<(n:Int)):=oz
 have n0 : ¬ ((n:Int)<0):=oz
 have dq:(p:Int).tdiv 8=(q:Int):=by rw[tdiv8]; omega
 have wq:IntKind.i64.wrap (q:Int)=(q:Int):=i64in _ oz oz
 have w8:IntKind.i64.wrap (8*(n:Int))=8*(n:Int):=i64in _ oz oz
 have wp:IntKind.i64.wrap ((p:Int)+8*(n:Int))=(p:Int)+8*(n:Int):=i64in _ oz oz
 have wqn:IntKind.i64.wrap ((q:Int)+(n:Int))=((q+n:Nat):Int):=by rw[i64in _ oz oz]; omega
 push_cast at wqn
 have hvl:v.length=n:=by rw[<- hv,List.length_take,List.length_drop]; omega
 have hvL:(bV v).length=n:=by rw[qQ,hvl]
 have qh:q+n<=bl:=hq
 have e1:(0:Int)<=(q:Int)+(n:Int):=oz
 have e2:((q:Int)+(n:Int)).toNat=q+n:=oz
 have hpv:=bV_part b q n
 rw[hv] at hpv
 have hc : [AV.vs bl 1 (bV b),AV.int ((p:Int)+8*(n:Int)),AV.fn (.func 70) [.agg [.bool false]] []]=rdC b (p+8*n):=by unfold rdC bA atF; rw[hbl]; push_cast; rfl
 have ge : ∀ H9:Heap,aappend Tryz.prog H9 25 25 .nil (.vs n 1 (bV v))=some (.ms H9.next 0 n 1,H9.regrow none (bV v)):=by
  intro H9
  have ha:=qL (P:=Tryz.prog) (H:=H9) (s:=.nil) (x:=.vs n 1 (bV v)) (u:=25) tU25 tS5 tB5 tZ5 rfl (zl tU25 oz) (qbp (sz:=1)) oz oz (yc v)
  rw[Nat.zero_add,List.nil_append] at ha
  exact ha
 refine hK3 _ _ ?_
 refine hK2 _ _ ?_
 try clear hK2 K2
 refine qg (fun K5 hK5=>?_)
 refine qg (fun K6 hK6=>?_)
 refine qi kz ?_
 refine qI 6 (fun K7 hK7=>?_)
 simp[go_sem,n0,nl,dl,wl]
 refine ⟨_,_,cl,?_⟩
 refine hK7 _ _ ?_
 clear hK7 K7
 refine qI 6 (fun K8 hK8=>?_)
 simp[go_sem,n0,nl,dl,wl]
 refine ⟨_,_,cm,?_⟩
 refine hK8 _ _ ?_
 clear hK8 K8
 simp[go_sem,n0,nl,dl,wl]
 refine hK6 _ _ ?_
 try clear hK6 K6
 refine qj (b:=false) gz (fun h=>by cases h) (fun _=>?_)
 refine ql ?_
 refine hK5 _ _ ?_
 try clear hK5 K5
 refine qg (fun K9 hK9=>?_)
 refine qi kz ?_
 simp[go_sem,gR1,dq,wq]
 refine hK9 _ _ ?_
 try clear hK9 K9
 refine qg (fun K10 hK10=>?_)
 refine qo (fun K11 hK11=>?_)
 refine qi kz ?_
 simp[go_sem,gR1,w8,wp]
 refine hK11 _ _ ?_
 refine hK10 _ _ ?_
 try clear hK10 K10
 refine qg (fun K12 hK12=>?_)
 refine qo (fun K99 hK99=>?_)
 refine qM kz ?_
 refine jf 9 (fun K90 hK90=>?_)
 simp[go_sem,wqn,hpv,hbL,gR1,qh,e1,e2]
 refine hK90 _ _ ?_
 clear hK90 K90
 refine jE (.vs n 1 (bV v)) (((H1.set rb [AV.vs bl 1 (bV b),AV.int ((p:Int)+8*(n:Int)),AV.fn (.func 70) [.agg [.bool false]] []]).alloc (bV v)).del (H1.set rb [AV.vs bl 1 (bV b),AV.int ((p:Int)+8*(n:Int)),AV.fn (.func 70) [.agg [.bool false]] []]).next) rfl (jM (by simp[go_sem,ge]; rfl) (by rw[qQ,hvl]; omega)) ?_
 refine zJ ?_
 simp[go_sem]
 refine hK99 _ _ ?_
 refine hK12 _ _ ?_
 try clear hK12 K12
 refine qx ?_
 simp only[go_sem]
 refine hR _ _ ?_
 rw[hc]
 have hS2:Step (fun z=>z≠rb) H (H1.set rb (rdC b (p+8*n))):=hS1.set (fun h=>h rfl) (qka _ _ _)
 have g2:(H1.set rb (rdC b (p+8*n))).get rb=some (rdC b (p+8*n)):=by rw[Heap.get_set,if_pos rfl,gR1]; rfl
 have lt2:=Heap.lt_of_get g2
 have hS3:Step (fun z=>z<H.next/\z≠rb) H (((H1.set rb (rdC b (p+8*n))).alloc (bV v)).del (H1.set rb (rdC b (p+8*n))).next):=zH ((hS2.mono fun z hz=>hz.2).alloc (ja _ _)) (fun h=>absurd (Nat.lt_of_lt_of_le h.1 hS2.le) (Nat.lt_irrefl _))
 refine hS3.retP (r:=.tup [bA v,.bool true]) (by simp[go_sem,bA,hvl]) ⟨rfl,?_,hS3⟩ (by simp[go_sem,qgu])
 rw[Heap.get_del,if_neg oz,Heap.get_alloc,if_neg oz]
 exact g2
theorem yh {S:Nat->Prop} {H:Heap} {ib p fr mo:Nat} {b all:List UInt8} (hI:InR S H ib b p all fr mo) (hb:b.length<=100000) {n:Nat} (hp:p+n<=8*b.length) (hn:n<=32):SCallsP Tryz.prog 51 [.ptr ib 0,.int n] H (fun r H'=>r = .tup [.int (bitsAt b p n:Nat),.sc .nilIface]/\InR S H' ib b (p+n) all fr mo/\Step S H H'):=by
 obtain ⟨rb,x,nI,nR,ne,gI,gR,gX,hSn⟩:=hI
 have ct:=qo1 gR hb hp hn
 refine qA (sz:=21) (Tryz.call51) Tryz.func51 rfl kz (fun R hR=>?_)
 refine qg (fun K1 hK1=>?_)
 refine qi kz ?_
 simp[go_sem]
 refine hK1 _ _ ?_
 try clear hK1 K1
 refine qg (fun K2 hK2=>?_)
 refine qp kz ?_
 refine qH 6 (fun K3 hK3=>?_)
 simp[go_sem,gI]
 refine ⟨_,ct,?_⟩
 rintro _ H1 hn1 ⟨rfl,gR1,hS1⟩
 refine hK3 _ _ ?_
 clear hK3 K3
 simp[go_sem,gI]
 refine hK2 _ _ ?_
 try clear hK2 K2
 refine qg (fun K4 hK4=>?_)
 refine qg (fun K5 hK5=>?_)
 refine qi kz ?_
 simp[go_sem]
 refine hK5 _ _ ?_
 try clear hK5 K5
 refine qj (b:=false) gz (fun h=>by cases h) (fun _=>?_)
 refine ql ?_
 refine hK4 _ _ ?_
 try clear hK4 K4
 refine qg (fun K6 hK6=>?_)
 refine qi kz ?_
 simp[go_sem]
 refine hK6 _ _ ?_
 try clear hK6 K6
 refine qx ?_
 simp only[go_sem]
 refine hR _ _ ?_
 have hSS:Step S H H1:=hS1.mono fun z hz e=>nR (e ▸ hz)
 refine hSS.retP (r:=.tup [.int (bitsAt b p n:Nat),.sc .nilIface]) gz ⟨rfl,⟨rb,x,nI,nR,ne,hS1.get gI (fun e=>ne e.symm),gR1,gX.keepN (fun z hz c hc=>hS1.get hc (fun e=>hz (.inr (.inr e)))),fun z hz=>Nat.lt_of_lt_of_le (hSn z hz) hS1.le⟩,hSS⟩ gz
theorem qo3 {S:Nat->Prop} {H:Heap} {ib p fr mo:Nat} {b all:List UInt8} (hI:InR S H ib b p all fr mo) (hb:b.length<=100000) {n:Nat} (h1:fr<=all.length) (h2:all.length<=1000000) (h3:all.length+n<=fr+mo) (h4:mo<=1000000):SCalls Tryz.prog 81 [.ptr ib 0,.int n] H (.sc .nilIface) H:=by
 obtain ⟨rb,x,nI,nR,ne,gI,gR,gX,hSn⟩:=hI
 obtain ⟨al,hal⟩ : ∃ z,all.length=z:=⟨_,rfl⟩
 rw[hal] at gX h1 h2 h3
 have w1:IntKind.i64.wrap ((al:Int)-(fr:Int))=(al:Int)-(fr:Int):=i64in _ oz oz
 have w2:IntKind.i64.wrap ((mo:Int)-((al:Int)-(fr:Int)))=(mo:Int)-((al:Int)-(fr:Int)):=i64in _ oz oz
 have lt : ¬ ((mo:Int)-((al:Int)-(fr:Int))<(n:Int)):=oz
 refine qE (sz:=23) (Tryz.call81) Tryz.func81 rfl (Nat.le_refl _) kz (fun R hR=>?_)
 refine qg (fun K1 hK1=>?_)
 refine qi kz ?_
 simp[go_sem]
 refine hK1 _ _ ?_
 try clear hK1 K1
 refine qg (fun K2 hK2=>?_)
 refine qg (fun K3 hK3=>?_)
 rcases gX with ⟨rfl,hz,_⟩ | ⟨q,_,rfl,gq,_⟩
 ·skip
  subst hz
  obtain rfl:fr=0:=oz
  have w0:IntKind.i64.wrap 0=0:=rfl
  have w3:IntKind.i64.wrap (mo:Int)=mo:=i64in _ oz oz
  have l3:n<=mo:=oz
  refine qJ mixed kz ?_
  simp[go_sem,gI,w0,w3,l3]
  refine hK3 _ _ ?_
  try clear hK3 K3
  refine qj (b:=false) (by simp[go_sem,l3]) (fun h=>by cases h) (fun _=>?_)
  refine ql ?_
  refine hK2 _ _ ?_
  try clear hK2 K2
  refine qg (fun K4 hK4=>?_)
  refine qi kz ?_
  simp[go_sem]
  refine hK4 _ _ ?_
  try clear hK4 K4
  refine qx ?_
  simp only[go_sem]
  refine hR _ _ ?_
  exact qG gz (Heap.le_refl _) (Nat.le_refl _) gz
 ·skip
  refine qJ mixed kz ?_
  simp[go_sem,gI,w1,w2,lt]
  refine hK3 _ _ ?_
  try clear hK3 K3
  refine qj (b:=false) gz (fun h=>by cases h) (fun _=>?_)
  refine ql ?_
  refine hK2 _ _ ?_
  try clear hK2 K2
  refine qg (fun K5 hK5=>?_)
  refine qi kz ?_
  simp[go_sem]
  refine hK5 _ _ ?_
  try clear hK5 K5
  refine qx ?_
  simp only[go_sem]
  refine hR _ _ ?_
  exact qG gz (Heap.le_refl _) (Nat.le_refl _) gz
end Go.Proofs.YtfokgjhdndnnhaaGreatDoor
end W34S
set_option maxRecDepth 20000
noncomputable section W35S
namespace Go.Proofs.YtfokgjhdndnnhaaGreatDoor
open Go Go.Fl Go.Proofs
theorem InR.rd {S:Nat->Prop} {H H' : Heap} {ib rb p2 fr mo:Nat} {x:AV} {b all:List UInt8} (nI : ¬ S ib) (nR : ¬ S rb) (ne:rb≠ib) (gI:H.get ib=some [.ptr rb 0,x,.int fr,.int mo]) (gX:GrN (fun z=>S z\/z=ib\/z=rb) H x 1 all.length (bV all)) (hSn : ∀ z,S z->z<H.next) (g:H'.get rb=some (rdC b p2)) (hs:Step (fun z=>z<H.next/\z≠rb) H H'):InR S H' ib b p2 all fr mo/\Step S H H':=by
 refine ⟨⟨rb,x,nI,nR,ne,hs.get gI ⟨Heap.lt_of_get gI,fun e=>ne e.symm⟩,g,gX.keepN (fun z hz c hc=>hs.get hc ⟨Heap.lt_of_get hc,fun e=>hz (.inr (.inr e))⟩),fun z hz=>Nat.lt_of_lt_of_le (hSn z hz) hs.le⟩,hs.mono fun z hz=>⟨hSn z hz,fun e=>nR (e ▸ hz)⟩⟩
theorem plain_p {S:Nat->Prop} {H:Heap} {ib p fr mo:Nat} {b all:List UInt8} (hI:InR S H ib b p all fr mo) (hb:b.length<=100000) {n q:Nat} (hp:p<=8*b.length) (hq:(p+7)/8*8=8*q) (hn:bitsAt b (8*q) 16=n) (hm:bitsAt b (8*q+16) 16=n ^^^ 65535) (hl:q+4+n<=b.length) (h1:fr<=all.length) (h2:all.length<=1000000) (h3:all.length+n<=fr+mo) (h4:mo<=1000000):SCallsP Tryz.prog 52 [.ptr ib 0] H (fun r H'=>r = .tup [.bool (decide (n=0)),.sc .nilIface]/\InR S H' ib b (8*(q+4+n)) (all++(b.drop (q+4)).take n) fr mo/\Step S H H'):=by
 obtain ⟨v,hv⟩ : ∃ z,(b.drop (q+4)).take n=z:=⟨_,rfl⟩
 rw[hv]
 have hvl:v.length=n:=by rw[<- hv,List.length_take,List.length_drop]; omega
 obtain ⟨rb,x,nI,nR,ne,gI,gR,gX,hSn⟩:=hI
 have ca:=qo2 gR hb hp
 rw[hq] at ca
 have hn6:n<65536:=by rw[<- hn]; exact qbz _ _ _
 obtain ⟨m,hm0⟩ : ∃ z,n ^^^ 65535=z:=⟨_,rfl⟩
 have hm6:m<65536:=by rw[<- hm0]; exact Nat.xor_lt_two_pow (n:=16) oz dz
 have hxx:n ^^^ m=65535:=by rw[<- hm0,<- Nat.xor_assoc,Nat.xor_self,Nat.zero_xor]
 rw[hm0] at hm
 have hx:bits .xor .i64 (n:Int) (m:Int)=65535:=by have:=qbe n m oz oz; rw[hxx] at this; exact this
 have hq4:8*q+16+16=8*(q+4):=oz
 refine qA (sz:=77) (Tryz.call52) Tryz.func52 rfl kz (fun R hR=>?_)
 refine qg (fun K1 hK1=>?_)
 refine qi kz ?_
 simp[go_sem]
 refine hK1 _ _ ?_
 try clear hK1 K1
 refine qg (fun K2 hK2=>?_)
 refine qp kz ?_
 simp[go_sem,gI]
 refine ⟨_,ca,?_⟩
 rintro _ H1 hn1 ⟨rfl,gR1,hS1⟩
 have hI1:=InR.rd nI nR ne gI gX hSn gR1 (hS1.mono fun z hz=>hz.2)
 have ct:=yh hI1.1 hb (n:=16) oz dz
 rw[hn] at ct
 refine hK2 _ _ ?_
 try clear hK2 K2
 refine qw (fun env H2=>env 0 = .ptr ib 0/\env 4 = .int n/\env 5 = .sc .nilIface/\InR S H2 ib b (8*q+16) all fr mo/\Step S H H2) ?_ ?_
 ·skip
  refine qp kz ?_
  refine qH 2 (fun K5 hK5=>?_)
  simp[go_sem]
  refine ⟨_,ct,?_⟩
  rintro _ H2 hn2 ⟨rfl,hI2,hS2⟩
  refine hK5 _ _ ?_
  clear hK5 K5
  simp[go_sem]
  exact ⟨hI2,hI1.2.trans hS2⟩
 clear gI gR gX ca hSn nI nR ne
 rintro env H2 ⟨e0,e4,e5,hI2,hS2⟩
 have ct:=yh hI2 hb (n:=16) oz dz
 rw[hm,hq4] at ct
 refine qg (fun K6 hK6=>?_)
 refine qg (fun K7 hK7=>?_)
 refine qi kz ?_
 simp[go_sem,e5]
 refine hK7 _ _ ?_
 try clear hK7 K7
 refine qj (b:=false) gz (fun h=>by cases h) (fun _=>?_)
 refine ql ?_
 refine hK6 _ _ ?_
 try clear hK6 K6
 refine qw (fun env H2=>env 0 = .ptr ib 0/\env 4 = .int n/\env 5 = .sc .nilIface/\env 6 = .int m/\InR S H2 ib b (8*(q+4)) all fr mo/\Step S H H2) ?_ ?_
 ·skip
  refine qp kz ?_
  refine qH 2 (fun K9 hK9=>?_)
  simp[go_sem,e0]
  refine ⟨_,ct,?_⟩
  rintro _ H3 hn3 ⟨rfl,hI3,hS3⟩
  refine hK9 _ _ ?_
  clear hK9 K9
  simp[go_sem,e0]
  exact ⟨e4,hI3,hS2.trans hS3⟩
 clear hI2 hS2 e0 e4 e5
 rintro env H2 ⟨e0,e4,e5,e6,hI2,hS2⟩
 obtain ⟨rb,x,nI,nR,ne,gI,gR,gX,hSn⟩:=hI2
 have cb:=bytes_r gR hb hl
 rw[hv] at cb
 refine qg (fun K10 hK10=>?_)
 refine qg (fun K11 hK11=>?_)
 refine qi kz ?_
 simp[go_sem,e5]
 refine hK11 _ _ ?_
 try clear hK11 K11
 refine qj (b:=false) gz (fun h=>by cases h) (fun _=>?_)
 refine ql ?_
 refine hK10 _ _ ?_
 try clear hK10 K10
 refine qg (fun K12 hK12=>?_)
 refine qg (fun K13 hK13=>?_)
 refine qi kz ?_
 simp[go_sem,e4,e6,hx]
 refine hK13 _ _ ?_
 try clear hK13 K13
 refine qj (b:=false) gz (fun h=>by cases h) (fun _=>?_)
 refine ql ?_
 refine hK12 _ _ ?_
 try clear hK12 K12
 refine qw (fun env H2=>env 0 = .ptr ib 0/\env 4 = .int n/\env 7=bA v/\env 8 = .sc (.bool true)/\InR S H2 ib b (8*(q+4+n)) all fr mo/\Step S H H2) ?_ ?_
 ·skip
  refine qp kz ?_
  refine qH 6 (fun K15 hK15=>?_)
  simp[go_sem,e0,e4,gI]
  refine ⟨_,cb,?_⟩
  rintro _ H4 hn4 ⟨rfl,gR4,hS4⟩
  have hI4:=InR.rd nI nR ne gI gX hSn gR4 hS4
  refine hK15 _ _ ?_
  clear hK15 K15
  simp[go_sem,e0,e4,gI]
  exact ⟨hI4.1,hS2.trans hI4.2⟩
 clear gI gR gX hSn nI nR ne hS2 e0 e4 e5 e6 cb
 rintro env H2 ⟨e0,e4,e7,e8,hI2,hS2⟩
 have cr:=qo3 hI2 hb (n:=n) h1 h2 h3 h4
 obtain ⟨rb,x,nI,nR,ne,gI,gR,gX,hSn⟩:=hI2
 obtain ⟨bo,hg,hbo,_,hlx⟩:=gX.grown
 obtain ⟨al,hal⟩ : ∃ z,all.length=z:=⟨_,rfl⟩
 rw[hal] at hg h2
 have hvL:(bV v).length=n:=by rw[qQ,hvl]
 have hap:=qL (P:=Tryz.prog) (H:=H2) (x:=.vs n 1 (bV v)) (u:=25) tU25 tS5 tB5 tZ5 rfl (zl tU25 oz) hg oz oz (yc v)
 rw[<- jF] at hap
 unfold bA at e7
 rw[hvl] at e7
 have hS5:Step (fun z=>S z\/z=ib\/z=rb) H2 (H2.regrow bo (bV (all++v))):=(Step.refl _ _).regrow hbo (ja _ _)
 have gI5:=hS5.get gI (.inr (.inl rfl))
 have gR5:=hS5.get gR (.inr (.inr rfl))
 refine qg (fun K16 hK16=>?_)
 refine qg (fun K17 hK17=>?_)
 refine qi kz ?_
 simp[go_sem,e8]
 refine hK17 _ _ ?_
 try clear hK17 K17
 refine qj (b:=false) gz (fun h=>by cases h) (fun _=>?_)
 refine ql ?_
 refine hK16 _ _ ?_
 try clear hK16 K16
 refine qg (fun K18 hK18=>?_)
 refine qg (fun K19 hK19=>?_)
 refine qi kz ?_
 refine qI 3 (fun K20 hK20=>?_)
 simp[go_sem,e0,e4]
 refine ⟨_,_,cr,?_⟩
 refine hK20 _ _ ?_
 clear hK20 K20
 simp[go_sem,e0,e4]
 refine hK19 _ _ ?_
 try clear hK19 K19
 refine qg (fun K21 hK21=>?_)
 refine qi kz ?_
 simp[go_sem]
 refine hK21 _ _ ?_
 try clear hK21 K21
 refine qj (b:=false) gz (fun h=>by cases h) (fun _=>?_)
 refine ql ?_
 refine hK18 _ _ ?_
 try clear hK18 K18
 refine qg (fun K22 hK22=>?_)
 refine qi kz ?_
 simp[go_sem,e0,e7,gI,hap,gI5]
 refine hK22 _ _ ?_
 try clear hK22 K22
 refine qg (fun K23 hK23=>?_)
 refine qi kz ?_
 simp[go_sem,e4]
 refine hK23 _ _ ?_
 try clear hK23 K23
 refine qx ?_
 simp only[go_sem]
 refine hR _ _ ?_
 have hnx:(H2.regrow bo (bV (all++v))).next=H2.next+1:=by rw[Heap.next_regrow]
 have hS6:Step S H2 ((H2.regrow bo (bV (all++v))).set ib [.ptr rb 0,.ms H2.next 0 (al+n) 1,.int fr,.int mo]):=(hS5.mono fun z hz=>.inl hz).set nI (by rw[hnx]; have:=Heap.lt_of_get gR; simp[go_sem]; omega)
 have hS7:=hS2.trans hS6
 refine hS7.retP (r:=.tup [.bool (decide (n=0)),.sc .nilIface]) (by simp[go_sem]; rw[Bool.eq_iff_iff]; simp) ⟨rfl,⟨rb,_,nI,nR,ne,by rw[Heap.get_set,if_pos rfl,gI5]; rfl,by rw[Heap.get_set,if_neg ne]; exact gR5,?_,fun z hz=>Nat.lt_of_lt_of_le (hSn z hz) hS6.le⟩,hS7⟩ gz
 have hlen:(all++v).length=al+n:=by rw[List.length_append,hal,hvl]
 rw[hlen]
 have hIl:=Heap.lt_of_get gI
 have hRl:=Heap.lt_of_get gR
 refine GrN.ms (fun h=>?_) ?_ (by rw[qQ,hlen]; omega)
 ·rcases h with h | h | h
  ·exact absurd (hSn _ h) (Nat.lt_irrefl _)
  ·omega
  ·omega
 ·rw[Heap.get_set,if_neg oz]
  exact zf
end Go.Proofs.YtfokgjhdndnnhaaGreatDoor
end W35S
set_option maxRecDepth 20000
noncomputable section W36S
namespace Go.Proofs.YtfokgjhdndnnhaaGreatDoor
open Go Go.Fl Go.Proofs
theorem msb_get : ∀ (n x i:Nat),i<n->(msb n x)[i]? = some (x/2^(n-1-i)%2==1):=by
 intro n
 induction n with
 | zero=>intro x i h; omega
 | succ n ih =>
  intro x i h
  cases i with
  | zero=>simp[msb]
  | succ i =>
   simp only[msb,List.getElem?_cons_succ]
   rw[ih x i oz]
   have e:n+1-1-(i+1)=n-1-i:=oz
   rw[e]
def Ahead (b:List UInt8) (p:Nat) (l:List Bool):Prop := ∃ r,(unpack b).drop p=l++r
theorem Ahead.room {b:List UInt8} {p:Nat} {l:List Bool} (h:Ahead b p l) (hp:p<=8*b.length):p+l.length<=8*b.length:=by
 obtain ⟨r,h⟩:=h
 have:=congrArg List.length h
 rw[List.length_drop,zo,List.length_append] at this
 omega
theorem Ahead.next {b:List UInt8} {p:Nat} {l m:List Bool} (h:Ahead b p (l++m)):Ahead b (p+l.length) m:=by
 obtain ⟨r,h⟩:=h
 refine ⟨r,?_⟩
 rw[<- List.drop_drop,h,List.append_assoc,List.drop_left]
theorem Ahead.fst {b:List UInt8} {p:Nat} {l m:List Bool} (h:Ahead b p (l++m)):Ahead b p l:=by
 obtain ⟨r,h⟩:=h
 exact ⟨m++r,by rw[h,List.append_assoc]⟩
theorem Ahead.bits {b:List UInt8} {p n x:Nat} (h:Ahead b p (natBits n x)) (hx:x<2^n):bitsAt b p n=x:=by
 obtain ⟨r,h⟩:=h
 unfold bitsAt
 rw[h,List.take_append_of_le_length (by rw[qB]; exact Nat.le_refl _),List.take_of_length_le (by rw[qB]; exact Nat.le_refl _)]
 exact qb9 _ _ hx
theorem Ahead.bit {b:List UInt8} {p n x j:Nat} (h:Ahead b p (msb n x)) (hj:j<n):bitsAt b (p+j) 1=x/2^(n-1-j)%2:=by
 obtain ⟨r,h⟩:=h
 unfold bitsAt
 have hg:((unpack b).drop (p+j))[0]? = some (x/2^(n-1-j)%2==1):=by
  rw[<- List.drop_drop,h,List.getElem?_drop,Nat.add_zero,List.getElem?_append_left (by rw[qgn]; exact hj)]
  exact msb_get n x j hj
 rw[List.take_add_one,hg,List.take_zero]
 generalize x/2^(n-1-j)=y
 rcases (by omega:y%2=0\/y%2=1) with h0 | h0 <;> simp[h0,ofBits]
theorem qb3 {l:List Nat} (hk:LensOk l) {n:Nat} (hn:n<=15):fstC l n+cnt l n<=32768:=Nat.le_trans (qou l (qeh l hk.whole) n hn) (Nat.le_trans (Nat.pow_le_pow_right dz hn) dz)
theorem qfo {l:List Nat} (hk:LensOk l) : ∀ n,n<=15->asum l n<=n*32768
 | 0,_=>Nat.le_refl _
 | n+1,h=>by
  have h1:=qfo hk n oz
  have h2:=qb3 hk h
  show asum l n+cnt l (n+1)<=_
  omega
theorem qfp {l:List Nat} {s p:Nat} {b:List UInt8} (hk:LensOk l) (h:0<l.getD s 0) (ha:Ahead b p (symBits l s)) {j:Nat} (hj:j<l.getD s 0) : ∃ x x2 bit f f2 a c:Nat,
  codeOf l s/2^(l.getD s 0-j)=x/\codeOf l s/2^(l.getD s 0-(j+1))=x2/\bitsAt b (p+j) 1=bit/\fstC l j+cnt l j=f/\fstC l (j+1)=f2/\asum l j=a/\cnt l (j+1)=c /\
  2*x+bit=x2/\bit<2/\2*f=f2/\f2<=x2/\x2<32768/\f2+c<=32768/\a<(ordU l 15).length/\a<=1000000/\(x2-f2<c↔j+1=l.getD s 0):=by
 have h15:=hk.le s
 have hC:=hk.code h
 have hC15:codeOf l s<32768:=Nat.lt_of_lt_of_le hC (Nat.le_trans (Nat.pow_le_pow_right dz h15) dz)
 have hbit:=ha.bit (j:=j) hj
 have hcs:=qb3 hk (n:=j+1) oz
 have has:=qfo hk j oz
 have hat:=at_lt l s j h h15 oz
 have hxx:codeOf l s/2^(l.getD s 0-j)=codeOf l s/2^(l.getD s 0-(j+1))/2:=by
  rw[Nat.div_div_eq_div_mul,<- Nat.pow_succ]
  congr 2
  omega
 have he:l.getD s 0-1-j=l.getD s 0-(j+1):=oz
 rw[he] at hbit
 have hd:codeOf l s/2^(l.getD s 0-(j+1))<=codeOf l s:=Nat.div_le_self _ _
 refine ⟨_,_,_,_,_,_,_,rfl,rfl,rfl,rfl,rfl,rfl,rfl,?_,?_,rfl,?_,oz,hcs,hat,oz,?_⟩
 ·rw[hbit,hxx]; omega
 ·rw[hbit]; omega
 ·rcases Nat.lt_or_ge (j+1) (l.getD s 0) with h1 | h1
  ·have:=qgm l s (j+1) h1
   omega
  ·have e1:j+1=l.getD s 0:=oz
   rw[e1,Nat.sub_self,Nat.pow_zero,Nat.div_one]
   exact Nat.le_add_right _ _
 ·constructor
  ·intro h2
   rcases Nat.lt_or_ge (j+1) (l.getD s 0) with h1 | h1
   ·have:=qgm l s (j+1) h1
    omega
   ·omega
  ·intro e1
   rw[e1,Nat.sub_self,Nat.pow_zero,Nat.div_one]
   have:=qei l s h
   unfold codeOf
   omega
theorem qo4 {l:List Nat} {s j:Nat} (hk:LensOk l) (h:0<l.getD s 0) (hj:j+1=l.getD s 0) : ∃ r,(iV (ordU l 15)).drop (asum l j+(codeOf l s/2^(l.getD s 0-(j+1))-fstC l (j+1))) = .int (s:Int)::r:=by
 have ho:=ord_at l s h (hk.le s)
 have e:asum l j+(codeOf l s/2^(l.getD s 0-(j+1))-fstC l (j+1))=asum l (l.getD s 0-1)+idxL l s:=by
  rw[hj,Nat.sub_self,Nat.pow_zero,Nat.div_one]
  have e2:l.getD s 0-1=j:=oz
  rw[e2]
  unfold codeOf
  omega
 rw[e]
 exact qlm ho
theorem tabC_cnt (l:List Nat) (n:Nat) (hn:n<=15):List.take 1 (List.drop (3+n) (tabC l)) = [.int (cnt l n:Nat)]:=by
 rcases (by omega:n=0\/n=1\/n=2\/n=3\/n=4\/n=5\/n=6\/n=7\/n=8\/n=9\/n=10\/n=11\/n=12\/n=13\/n=14\/n=15) with h | h | h | h | h | h | h | h | h | h | h | h | h | h | h | h <;> subst h <;> rfl
end Go.Proofs.YtfokgjhdndnnhaaGreatDoor
end W36S
set_option maxRecDepth 20000
noncomputable section W37S
namespace Go.Proofs.YtfokgjhdndnnhaaGreatDoor
open Go Go.Fl Go.Proofs
theorem yE {H:Heap} {rb p s:Nat} {b:List UInt8} {l:List Nat} (gR:H.get rb=some (rdC b p)) (hb:b.length<=100000) (hp:p<=8*b.length) (hk:LensOk l) (h:0<l.getD s 0) (ha:Ahead b p (symBits l s)):SCallsP Tryz.prog 85 [tabA l,.ptr rb 0] H (fun r H'=>r = .tup [.int s,.int 0]/\H'.get rb=some (rdC b (p+l.getD s 0))/\Step (fun z=>z≠rb) H H'):=by
 have htf:=fun j hj=>qfp (j:=j) hk h ha hj
 have htl:=fun j hj=>qo4 (j:=j) hk h hj
 have h15:=hk.le s
 have hC:=hk.code h
 have hrm:=ha.room hp
 rw[qN] at hrm
 obtain ⟨L,hL⟩ : ∃ z,l.getD s 0=z:=⟨_,rfl⟩
 rw[hL] at htf htl h15 hC hrm h |-
 have hz:codeOf l s/2^L=0:=Nat.div_eq_of_lt hC
 have hf0:fstC l 0+cnt l 0=0:=rfl
 have hct:=tabC_cnt l
 have ht1:=qmn l
 have hord:=tabC_ord l
 have htl20:=jK l
 unfold tabA
 obtain ⟨cx,hcx⟩ : ∃ z,tabC l=z:=⟨_,rfl⟩
 rw[hcx] at hct ht1 hord htl20 |-
 unfold iA at hord
 obtain ⟨ol,hol⟩ : ∃ z,(ordU l 15).length=z:=⟨_,rfl⟩
 have hoL:(iV (ordU l 15)).length=ol:=by rw[qK,hol]
 rw[hol] at hord htf
 refine qA (sz:=84) (Tryz.call85) Tryz.func85 rfl kz (fun R hR=>?_)
 refine qg (fun K1 hK1=>?_)
 refine qi kz ?_
 simp[go_sem]
 refine hK1 _ _ ?_
 try clear hK1 K1
 refine qg (fun K2 hK2=>?_)
 refine qg (fun K3 hK3=>?_)
 refine qi kz ?_
 simp[go_sem,ht1,htl20]
 refine hK3 _ _ ?_
 try clear hK3 K3
 refine qj (b:=false) gz (fun h=>by cases h) (fun _=>?_)
 refine ql ?_
 refine hK2 _ _ ?_
 try clear hK2 K2
 refine qg (fun K4 hK4=>?_)
 refine qi kz ?_
 simp[go_sem]
 refine hK4 _ _ ?_
 try clear hK4 K4
 refine qg (fun K5 hK5=>?_)
 refine qg (fun K6 hK6=>?_)
 refine qi kz ?_
 simp[go_sem]
 refine hK6 _ _ ?_
 try clear hK6 K6
 refine qm ?_
 refine qC (Inv:=fun m0 env H2 => ∃ j:Nat,m0=L-j/\j<L/\env 0 = .ep cx/\env 1 = .ptr rb 0/\env 6 = .int (codeOf l s/2^(L-j):Nat)/\env 7 = .int (fstC l j+cnt l j:Nat)/\env 8 = .int (asum l j:Nat)/\env 9 = .int ((j:Int)+1)/\H2.get rb=some (rdC b (p+j))/\Step (fun z=>z≠rb) H H2) ?_ (n:=L) (⟨0,rfl,h,gz,gz,by simp[go_sem,hz],by rw[hf0]; simp[go_sem],by simp[go_sem,asum],gz,gR,Step.refl _ _⟩)
 rintro m0 env H2 ⟨j,rfl,hj,e0,e1,e6,e7,e8,e9,gR,hS⟩
 obtain ⟨x,x2,bit,f,f2,a,c,hx,hx2,hbit,hf,hf2,haa,hc,hxb,hb2,hff,hfx,hx3,hfc,hao,ha6,hiff⟩:=htf j hj
 rw[hx] at e6
 rw[hf] at e7
 rw[haa] at e8
 have ct:=qo1 gR hb (n:=1) oz dz
 rw[hbit] at ct
 have hct1:=hct (j+1) oz
 rw[hc] at hct1
 obtain ⟨xx,hxx⟩ : ∃ z,2*x=z:=⟨_,rfl⟩
 have sh1:IntKind.i64.wrap ((x:Int)*2)=(xx:Int):=by rw[i64in _ oz oz]; omega
 have or1:bits .or .i64 (xx:Int) (bit:Int)=(x2:Int):=by have:=qkb xx bit 1 oz oz oz oz; rw[hxx] at hxb; rw[hxb] at this; exact this
 have sh2:IntKind.i64.wrap ((f:Int)*2)=(f2:Int):=by rw[i64in _ oz oz]; omega
 obtain ⟨d0,hd0⟩ : ∃ z,x2-f2=z:=⟨_,rfl⟩
 have wd:IntKind.i64.wrap ((x2:Int)-(f2:Int))=(d0:Int):=by rw[i64in _ oz oz]; omega
 have htlj:=htl j
 rw[hx2,hf2,haa,hd0] at htlj
 rw[hd0] at hiff
 have n15:(j:Int)+1<=15:=oz
 have n16:(j:Int)+1<16:=oz
 have n17:j<=16:=oz
 have n20:1<=20-(3+(j+1)):=oz
 have n00:(0:Int)<=(j:Int)+1:=oz
 have wj:IntKind.i64.wrap ((j:Int)+1)=(j:Int)+1:=i64in _ oz oz
 refine qg (fun K7 hK7=>?_)
 refine qg (fun K8 hK8=>?_)
 refine qi kz ?_
 simp[go_sem,e9,e8,e0,n15,hord,htl20,hao]
 refine hK8 _ _ ?_
 try clear hK8 K8
 refine qj (b:=true) gz (fun _=>?_) (fun h=>by cases h)
 refine ql ?_
 refine hK7 _ _ ?_
 try clear hK7 K7
 refine qg (fun K9 hK9=>?_)
 refine qm ?_
 refine qg (fun K10 hK10=>?_)
 refine qp kz ?_
 refine qH 2 (fun K11 hK11=>?_)
 simp[go_sem,e1]
 refine ⟨_,ct,?_⟩
 rintro _ H3 hn3 ⟨rfl,gR1,hS1⟩
 have hS2:=hS.trans hS1
 refine hK11 _ _ ?_
 clear hK11 K11
 simp[go_sem,e1]
 refine hK10 _ _ ?_
 try clear hK10 K10
 refine qg (fun K12 hK12=>?_)
 refine qg (fun K13 hK13=>?_)
 refine qi kz ?_
 simp[go_sem]
 refine hK13 _ _ ?_
 try clear hK13 K13
 refine qj (b:=false) gz (fun h=>by cases h) (fun _=>?_)
 refine ql ?_
 refine hK12 _ _ ?_
 try clear hK12 K12
 refine qg (fun K14 hK14=>?_)
 refine qi kz ?_
 simp[go_sem,e6,sh1,or1]
 refine hK14 _ _ ?_
 try clear hK14 K14
 refine qg (fun K15 hK15=>?_)
 refine qi kz ?_
 simp[go_sem,e7,sh2]
 refine hK15 _ _ ?_
 try clear hK15 K15
 refine qg (fun K16 hK16=>?_)
 refine qg (fun K17 hK17=>?_)
 refine qi kz ?_
 simp[go_sem,e0,e9,wd,n15,n16,n17,n20,n00,wj,htl20,hct1]
 refine hK17 _ _ ?_
 try clear hK17 K17
 refine qj (b:=decide (d0<c)) gz (fun hb9=>?_) (fun hb9=>?_)
 ·skip
  simp only[decide_eq_true_eq] at hb9
  have hjL:=hiff.1 hb9
  obtain ⟨ro,dro⟩:=htlj hjL
  have wa:IntKind.i64.wrap ((a:Int)+(x2:Int))=(a:Int)+(x2:Int):=i64in _ oz oz
  obtain ⟨ix,hix⟩ : ∃ z,a+d0=z:=⟨_,rfl⟩
  rw[hix] at dro
  have wi:IntKind.i64.wrap ((a:Int)+(x2:Int)-(f2:Int))=(ix:Int):=by rw[i64in _ oz oz]; omega
  have hixl:ix<ol:=by
   have:=congrArg List.length dro
   rw[List.length_drop,hoL,List.length_cons] at this
   omega
  have hixl2:(ix:Int)<ol:=oz
  have hix1:ix+1<=ol:=hixl
  refine qg (fun K18 hK18=>?_)
  refine qi kz ?_
  simp[go_sem,e0,e8,hord,htl20,wa,wi,dro,hixl2,hix1,hoL]
  refine hK18 _ _ ?_
  try clear hK18 K18
  refine qx ?_
  simp only[go_sem]
  refine hR _ _ ?_
  have hpL:p+j+1=p+L:=oz
  rw[hpL] at gR1
  refine hS2.retP (r:=.tup [.int s,.int 0]) gz ⟨rfl,gR1,hS2⟩ gz
 ·skip
  simp only[decide_eq_false_iff_not] at hb9
  have hjL:j+1<L:=by
   rcases Nat.lt_or_ge (j+1) L with h | h
   ·exact h
   ·exact absurd (hiff.2 oz) hb9
  have wac:IntKind.i64.wrap ((a:Int)+(c:Int))=((asum l (j+1):Nat):Int):=by rw[i64in _ oz oz]; show _=((asum l j+cnt l (j+1):Nat):Int); rw[haa,hc]; push_cast; rfl
  have wfc:IntKind.i64.wrap ((f2:Int)+(c:Int))=((fstC l (j+1)+cnt l (j+1):Nat):Int):=by rw[i64in _ oz oz,hf2,hc]; push_cast; rfl
  have wj2:IntKind.i64.wrap ((j:Int)+1+1)=(j:Int)+1+1:=i64in _ oz oz
  refine ql ?_
  refine hK16 _ _ ?_
  try clear hK16 K16
  refine qg (fun K19 hK19=>?_)
  refine qi kz ?_
  simp[go_sem,e8,e0,e9,n15,n16,n17,n20,n00,htl20,hct1,wac]
  refine hK19 _ _ ?_
  try clear hK19 K19
  refine qi kz ?_
  simp[go_sem,e0,e9,n15,n16,n17,n20,n00,htl20,hct1,wfc]
  refine hK9 _ _ ?_
  try clear hK9 K9
  refine qo (fun K20 hK20=>?_)
  refine qi kz ?_
  simp[go_sem,e9,wj2]
  refine hK20 _ _ ?_
  exact ⟨L-(j+1),oz,j+1,rfl,hjL,by simp[go_sem,e0],by simp[go_sem,e1],by rw[hx2]; simp[go_sem],gz,gz,gz,gR1,hS2⟩
end Go.Proofs.YtfokgjhdndnnhaaGreatDoor
end W37S
