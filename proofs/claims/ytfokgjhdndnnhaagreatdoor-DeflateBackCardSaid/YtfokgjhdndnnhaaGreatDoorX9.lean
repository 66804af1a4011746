/- Contracts: the symbols of a block, by the document. -/
import Derived.Test.YtfokgjhdndnnhaaGreatDoorX4
import Derived.Test.YtfokgjhdndnnhaaGreatDoorX8
set_option maxHeartbeats 2000000
set_option linter.unusedVariables false
set_option linter.unusedSimpArgs false
set_option maxRecDepth 20000
noncomputable section X5S
namespace Go.Proofs.YtfokgjhdndnnhaaGreatDoor
open Go Go.Fl Go.Proofs
theorem qll {S:Nat->Prop} {H:Heap} {xb p fr mo:Nat} {b all:List UInt8} (hI:DIn S H xb b p all fr mo) (hp:p<=8*b.length) {lx ly:List Nat} (hx:LensOk lx) (hy0:LensOk ly) (hlx:lx.length<=100000) (hly:ly.length<=100000) (toks:List Tok) (hto : ∀ t∈toks,TokOk lx ly t) (hok:okT toks all.length) (h256:0<lx.getD 256 0) (hA:Ahead b p (toksBits lx ly toks++symBits lx 256)) (h4:fr<=all.length) (h5:(Go.Fl.runT toks all).length<=900000) (h6:(Go.Fl.runT toks all).length<=fr+mo) (h7:mo<=1000000):SCallsP Tryz.prog 63 [.ptr xb 0,dtabA lx,dtabA ly] H (fun r H'=>r = .tup []/\DIn S H' xb b (p+(toksBits lx ly toks++symBits lx 256).length) (Go.Fl.runT toks all) fr mo/\Step S H H'):=by
 obtain ⟨R0,hR0⟩ : ∃ z,Go.Fl.runT toks all=z:=⟨_,rfl⟩
 obtain ⟨PE,hPE⟩ : ∃ z,p+(toksBits lx ly toks++symBits lx 256).length=z:=⟨_,rfl⟩
 rw[hR0] at h5 h6 |-
 rw[hPE]
 refine qA (sz:=106) (Tryz.call63) Tryz.func63 rfl kz (fun R hR=>?_)
 refine qm ?_
 refine qC (Inv:=fun m0 env H2 => ∃ (r:List Tok) (acc:List UInt8) (p2:Nat),m0=r.length/\(∀ t∈r,TokOk lx ly t)/\okT r acc.length/\Ahead b p2 (toksBits lx ly r++symBits lx 256)/\p2<=8*b.length/\Go.Fl.runT r acc=R0/\fr<=acc.length/\p2+(toksBits lx ly r++symBits lx 256).length=PE/\env 0 = .ptr xb 0/\env 1=dtabA lx/\env 2=dtabA ly/\DIn S H2 xb b p2 acc fr mo/\Step S H H2) ?_ (n:=toks.length) (⟨toks,all,p,rfl,hto,hok,hA,hp,hR0,h4,hPE,gz,gz,gz,hI,Step.refl _ _⟩)
 rintro m0 env H2 ⟨r,acc,p2,rfl,hto2,hok2,hA2,hp2,hrt,hfr,hpe2,e0,e1,e2,hI2,hS⟩
 obtain ⟨rb2,q2,x2,_,_,_,_,_,gX2,_,gG2,_⟩:=id hI2
 refine qg (fun K1 hK1=>?_)
 refine qg (fun K2 hK2=>?_)
 refine qi kz ?_
 simp[go_sem,e0,gX2]
 refine hK2 _ _ ?_
 try clear hK2 K2
 refine qj (b:=true) gz (fun _=>?_) (fun h=>by cases h)
 refine ql ?_
 refine hK1 _ _ ?_
 try clear hK1 K1
 refine qm ?_
 refine qg (fun K3 hK3=>?_)
 rcases qie r with rfl | ⟨t,r,rfl,hb0⟩ | ⟨t,r,rfl,hb0⟩
 ·skip
  have ha0:Ahead b p2 (symBits lx 256):=hA2
  have hpe:p2+lx.getD 256 0=PE:=by rw[<- hpe2]; show _=p2+(symBits lx 256).length; rw[qN]
  have ct:=qb8 hI2 hp2 hx hlx (s:=256) h256 ha0
  refine qp kz ?_
  refine qH 3 (fun K4 hK4=>?_)
  simp[go_sem,e0,e1]
  refine ⟨_,ct,?_⟩
  rintro _ H3 hn3 ⟨rfl,hI3,hS3⟩
  have hSt3:=hS.trans hS3
  obtain ⟨rb3,q3,x3,_,_,_,_,_,gX3,_,gG3,_⟩:=id hI3
  refine hK4 _ _ ?_
  clear hK4 K4
  simp[go_sem,e0,e1]
  refine hK3 _ _ ?_
  try clear hK3 K3
  refine qg (fun K5 hK5=>?_)
  refine qg (fun K6 hK6=>?_)
  refine qi kz ?_
  simp[go_sem,e0,gX3]
  refine hK6 _ _ ?_
  try clear hK6 K6
  refine qj (b:=true) gz (fun _=>?_) (fun h=>by cases h)
  refine qx ?_
  simp only[go_sem]
  refine hR _ _ ?_
  have hrt2:acc=R0:=hrt
  rw[hpe,hrt2] at hI3
  exact hSt3.retP (r:=.tup []) gz ⟨rfl,hI3,hSt3⟩ gz
 ·skip
  have htk:=hto2 t (.head _)
  have hok1:=hok2.1
  have hc0:0<lx.getD t.c.toNat 0:=by
   rcases htk with h | h
   ·exact h.2
   ·omega
  have htb:tokBits lx ly t=symBits lx t.c.toNat:=by unfold tokBits; rw[if_pos hb0]
  have hsp:toksBits lx ly (t::r)++symBits lx 256=symBits lx t.c.toNat++(toksBits lx ly r++symBits lx 256):=by rw[<- List.append_assoc,<- htb]; rfl
  rw[hsp] at hA2 hpe2
  have hA3:=hA2.next
  have hrm:=hA2.fst.room hp2
  rw[qN] at hA3 hrm
  rw[List.length_append,qN,<- Nat.add_assoc] at hpe2
  have hrl:=qen (acc:=acc) hok1
  have hge:=qeo r (t.run acc) (by rw[hrl]; exact hok2.2)
  have htl1:t.len=1:=by
   rcases hok1 with h | h
   ·exact h.2
   ·omega
  have hrun:t.run acc=acc ++ [t.c]:=by unfold Tok.run; rw[if_pos hb0]
  rw[yY] at hrt
  rw[hrt,hrl,htl1] at hge
  have hcl:=t.c.toNat_lt
  have c1:((t.c.toNat:Int)==256)=false:=by simp; omega
  have c2:(t.c.toNat:Int)<256:=oz
  have wc:IntKind.u8.wrap (t.c.toNat:Int)=(t.c.toNat:Int):=wraps_u8 _ oz oz
  obtain ⟨c,hc⟩ : ∃ z,t.c.toNat=z:=⟨_,rfl⟩
  rw[hc] at hc0 hA3 hrm hpe2 hA2 c1 c2 wc
  have ct:=qb8 hI2 hp2 hx hlx (s:=c) hc0 hA2.fst
  refine qp kz ?_
  refine qH 3 (fun K7 hK7=>?_)
  simp[go_sem,e0,e1]
  refine ⟨_,ct,?_⟩
  rintro _ H3 hn3 ⟨rfl,hI3,hS3⟩
  have hSt3:=hS.trans hS3
  obtain ⟨rb3,q3,x3,_,_,_,_,_,gX3,_,gG3,_⟩:=id hI3
  have cp:=qpe hI3 t.c hfr oz oz h7
  rw[hc,<- hrun] at cp
  refine hK7 _ _ ?_
  clear hK7 K7
  simp[go_sem,e0,e1]
  refine hK3 _ _ ?_
  try clear hK3 K3
  refine qg (fun K8 hK8=>?_)
  refine qg (fun K9 hK9=>?_)
  refine qi kz ?_
  simp[go_sem,e0,gX3,c1]
  refine hK9 _ _ ?_
  try clear hK9 K9
  refine qj (b:=false) gz (fun h=>by cases h) (fun _=>?_)
  refine ql ?_
  refine hK8 _ _ ?_
  try clear hK8 K8
  refine qg (fun K10 hK10=>?_)
  refine qg (fun K11 hK11=>?_)
  refine qi kz ?_
  simp[go_sem,c2]
  refine hK11 _ _ ?_
  try clear hK11 K11
  refine qj (b:=true) (by simp[go_sem,c2]) (fun _=>?_) (fun h=>by cases h)
  refine qg (fun K12 hK12=>?_)
  refine qp kz ?_
  simp[go_sem,e0,wc]
  refine ⟨_,cp,?_⟩
  rintro _ H4 hn4 ⟨rfl,hI4,hS4⟩
  refine hK12 _ _ ?_
  try clear hK12 K12
  refine qy ?_
  exact ⟨r.length,by simp,r,t.run acc,p2+lx.getD c 0,rfl,fun u hu=>hto2 u (.tail _ hu),by rw[hrl]; exact hok2.2,hA3,hrm,hrt,oz,hpe2,by simp[go_sem,e0],by simp[go_sem,e1],by simp[go_sem,e2],hI4,hSt3.trans hS4⟩
 ·skip
  have htk:=hto2 t (.head _)
  have hok1:=hok2.1
  have hkc:3<=t.len/\t.len<=258/\1<=t.back/\t.back<=32768/\0<lx.getD (lenPart t.len).sym 0/\0<ly.getD (distPart t.back).sym 0:=by
   rcases htk with h | h
   ·exact absurd h.1 hb0
   ·exact h
  obtain ⟨k1,k2,k3,k4,k5,k6⟩:=hkc
  have hda:t.back<=acc.length:=by
   rcases hok1 with h | h
   ·exact absurd h.1 hb0
   ·exact h.2.2.2.2
  have htb:tokBits lx ly t=symBits lx (lenPart t.len).sym++natBits (lenPart t.len).bits (lenPart t.len).more++(symBits ly (distPart t.back).sym++natBits (distPart t.back).bits (distPart t.back).more):=by unfold tokBits; rw[if_neg hb0]
  have hsp:toksBits lx ly (t::r)++symBits lx 256=symBits lx (lenPart t.len).sym++(natBits (lenPart t.len).bits (lenPart t.len).more++(symBits ly (distPart t.back).sym++(natBits (distPart t.back).bits (distPart t.back).more++(toksBits lx ly r++symBits lx 256)))):=by
   show (tokBits lx ly t++toksBits lx ly r)++symBits lx 256=_
   rw[htb]
   simp only[List.append_assoc]
  rw[hsp] at hA2 hpe2
  have hA3:=hA2.next
  have hA4:=hA3.next
  have hA5:=hA4.next
  have hA6:=hA5.next
  have hrm:=hA2.fst.room hp2
  have hrm2:=hA3.fst.room hrm
  have hrm3:=hA4.fst.room hrm2
  have hrm4:=hA5.fst.room hrm3
  simp only[List.length_append,qN,qB] at hA3 hA4 hA5 hA6 hrm hrm2 hrm3 hrm4 hpe2
  have hrl:=qen (acc:=acc) hok1
  have hge:=qeo r (t.run acc) (by rw[hrl]; exact hok2.2)
  have hrun:t.run acc=copyN t.back t.len acc:=by unfold Tok.run; rw[if_neg hb0]
  rw[yY] at hrt
  rw[hrt,hrl] at hge
  have hys:=lenSym k1 k2
  have hyl:=(zZ k1 k2).2.2
  have hdl:=(zS k3 k4).2.2
  obtain ⟨ys,hysq⟩ : ∃ z,(lenPart t.len).sym=z:=⟨_,rfl⟩
  obtain ⟨ds,hdsq⟩ : ∃ z,(distPart t.back).sym=z:=⟨_,rfl⟩
  obtain ⟨yb,hybq⟩ : ∃ z,(lenPart t.len).bits=z:=⟨_,rfl⟩
  obtain ⟨db,hdbq⟩ : ∃ z,(distPart t.back).bits=z:=⟨_,rfl⟩
  obtain ⟨n,hnq⟩ : ∃ z,t.len=z:=⟨_,rfl⟩
  obtain ⟨d,hdq⟩ : ∃ z,t.back=z:=⟨_,rfl⟩
  have cl:=fun H (h:DIn S H xb b (p2+lx.getD ys 0) acc fr mo)=>qpf h (by rw[<- hysq]; exact hrm) k1 k2 (by rw[<- hysq]; exact hA3.fst)
  have cd:=fun H (h:DIn S H xb b (p2+lx.getD ys 0+yb+ly.getD ds 0) acc fr mo)=>qj5 h (by rw[<- hysq,<- hybq,<- hdsq]; exact hrm3) k3 k4 (by rw[<- hysq,<- hybq,<- hdsq]; exact hA5.fst)
  rw[hysq,hybq,hnq] at cl
  rw[hdsq,hdbq,hdq] at cd
  rw[hysq] at hys hyl k5 hA2
  rw[hdsq] at hdl k6
  rw[hnq,hdq] at hrun
  rw[hnq] at hge hrl k1 k2
  rw[hdq] at hda k3 k4
  have c1:((ys:Int)==256)=false:=by simp; omega
  have c2 : ¬ ((ys:Int)<256):=oz
  have c3 : ¬ ((285:Int)<(ys:Int)):=oz
  have c4 : ¬ ((29:Int)<(ds:Int)):=oz
  have ct:=qb8 hI2 hp2 hx hlx (s:=ys) k5 hA2.fst
  refine qp kz ?_
  refine qH 3 (fun K14 hK14=>?_)
  simp[go_sem,e0,e1]
  refine ⟨_,ct,?_⟩
  rintro _ H3 hn3 ⟨rfl,hI3,hS3⟩
  have hSt3:=hS.trans hS3
  obtain ⟨rb3,q3,x3,_,_,_,_,_,gX3,_,gG3,_⟩:=id hI3
  have c96:=cl _ hI3
  refine hK14 _ _ ?_
  clear hK14 K14
  simp[go_sem,e0,e1]
  refine hK3 _ _ ?_
  try clear hK3 K3
  refine qg (fun K15 hK15=>?_)
  refine qg (fun K16 hK16=>?_)
  refine qi kz ?_
  simp[go_sem,e0,gX3,c1]
  refine hK16 _ _ ?_
  try clear hK16 K16
  refine qj (b:=false) gz (fun h=>by cases h) (fun _=>?_)
  refine ql ?_
  refine hK15 _ _ ?_
  try clear hK15 K15
  refine qg (fun K17 hK17=>?_)
  refine qg (fun K18 hK18=>?_)
  refine qi kz ?_
  simp[go_sem,c2]
  refine hK18 _ _ ?_
  try clear hK18 K18
  refine qj (b:=false) (by simp[go_sem,c2]) (fun h=>by cases h) (fun _=>?_)
  refine ql ?_
  refine hK17 _ _ ?_
  try clear hK17 K17
  refine qg (fun K19 hK19=>?_)
  refine qg (fun K20 hK20=>?_)
  refine qi kz ?_
  simp[go_sem,c3]
  refine hK20 _ _ ?_
  try clear hK20 K20
  refine qj (b:=false) (by simp[go_sem,c3]) (fun h=>by cases h) (fun _=>?_)
  refine ql ?_
  refine hK19 _ _ ?_
  try clear hK19 K19
  refine qg (fun K21 hK21=>?_)
  refine qp kz ?_
  refine qH 3 (fun K22 hK22=>?_)
  simp[go_sem,e0]
  refine ⟨_,c96,?_⟩
  rintro _ H4 hn4 ⟨rfl,hI4,hS4⟩
  have hSt4:=hSt3.trans hS4
  have c95:=qb8 hI4 (by rw[<- hysq,<- hybq]; exact hrm2) hy0 hly (s:=ds) k6 (by rw[<- hysq,<- hybq,<- hdsq]; exact hA4.fst)
  refine hK22 _ _ ?_
  clear hK22 K22
  simp[go_sem,e0]
  refine hK21 _ _ ?_
  try clear hK21 K21
  refine qg (fun K23 hK23=>?_)
  refine qp kz ?_
  refine qH 3 (fun K24 hK24=>?_)
  simp[go_sem,e0,e2]
  refine ⟨_,c95,?_⟩
  rintro _ H5 hn5 ⟨rfl,hI5,hS5⟩
  have hSt5:=hSt4.trans hS5
  have c97:=cd _ hI5
  obtain ⟨rb5,q5,x5,_,_,_,_,_,gX5,_,gG5,_⟩:=id hI5
  refine hK24 _ _ ?_
  clear hK24 K24
  simp[go_sem,e0,e2]
  refine hK23 _ _ ?_
  try clear hK23 K23
  refine qg (fun K25 hK25=>?_)
  refine qg (fun K26 hK26=>?_)
  refine qi kz ?_
  simp[go_sem,e0,gX5,c4]
  refine hK26 _ _ ?_
  try clear hK26 K26
  refine qj (b:=false) (by simp[go_sem,c4]) (fun h=>by cases h) (fun _=>?_)
  refine ql ?_
  refine hK25 _ _ ?_
  try clear hK25 K25
  refine qg (fun K27 hK27=>?_)
  refine qg (fun K28 hK28=>?_)
  refine qi kz ?_
  simp[go_sem,e0,gX5]
  refine hK28 _ _ ?_
  try clear hK28 K28
  refine qj (b:=false) gz (fun h=>by cases h) (fun _=>?_)
  refine ql ?_
  refine hK27 _ _ ?_
  try clear hK27 K27
  refine qg (fun K29 hK29=>?_)
  refine qp kz ?_
  refine qH 3 (fun K30 hK30=>?_)
  simp[go_sem,e0]
  refine ⟨_,c97,?_⟩
  rintro _ H6 hn6 ⟨rfl,hI6,hS6⟩
  have hSt6:=hSt5.trans hS6
  obtain ⟨rb6,q6,x6,_,_,_,_,_,gX6,_,gG6,_⟩:=id hI6
  obtain ⟨al,hal⟩ : ∃ z,acc.length=z:=⟨_,rfl⟩
  rw[hal] at gG6
  have hln:=DIn.len gG6
  have c5 : ¬ ((al:Int)<(d:Int)):=oz
  refine hK30 _ _ ?_
  clear hK30 K30
  simp[go_sem,e0]
  refine hK29 _ _ ?_
  try clear hK29 K29
  refine qg (fun K31 hK31=>?_)
  refine qg (fun K32 hK32=>?_)
  refine qi kz ?_
  simp[go_sem,e0,gX6,hln,c5]
  refine hK32 _ _ ?_
  try clear hK32 K32
  refine qj (b:=false) (by simp[go_sem,c5]) (fun h=>by cases h) (fun _=>?_)
  refine ql ?_
  refine hK31 _ _ ?_
  try clear hK31 K31
  refine qg (fun K33 hK33=>?_)
  refine qi kz ?_
  simp[go_sem]
  refine hK33 _ _ ?_
  try clear hK33 K33
  refine qm ?_
  refine qC (Inv:=fun m1 env H7 => ∃ k:Nat,m1=n-k/\k<=n/\env 0 = .ptr xb 0/\env 1=dtabA lx/\env 2=dtabA ly/\env 7 = .int n/\env 9 = .int d/\env 10 = .int k/\DIn S H7 xb b (p2+lx.getD ys 0+yb+ly.getD ds 0+db) (copyN d k acc) fr mo/\Step S H H7) ?_ (n:=n) (⟨0,rfl,oz,by simp[go_sem,e0],by simp[go_sem,e1],by simp[go_sem,e2],gz,gz,gz,hI6,hSt6⟩)
  clear e0 e1 e2
  rintro m1 env H7 ⟨k,rfl,hk1,e0,e1,e2,e7,e9,e10,hI7,hSt7⟩
  have hcl:=qb4 d k acc
  have hcs:=qct d k acc
  obtain ⟨rb7,q7,x7,_,_,_,_,_,gX7,_,gG7,_⟩:=id hI7
  refine qg (fun K34 hK34=>?_)
  refine qg (fun K35 hK35=>?_)
  rcases Nat.lt_or_ge k n with hkn | hkn
  ·skip
   have klt:(k:Int)<n:=oz
   obtain ⟨ac,hac⟩ : ∃ z,copyN d k acc=z:=⟨_,rfl⟩
   rw[hac] at hI7 hcl hcs gG7
   obtain ⟨al,hall⟩ : ∃ z,ac.length=z:=⟨_,rfl⟩
   have hxq : ∃ q,x7 = .ms q 0 al 1/\H7.get q=some (bV ac):=by
    rcases gG7 with ⟨_,hz,_⟩ | ⟨q,_,hq,gq,_⟩
    ·omega
    ·rw[hall] at hq; exact ⟨q,hq,gq⟩
   obtain ⟨q,rfl,gq⟩:=hxq
   obtain ⟨ix,hix⟩ : ∃ z,al-d=z:=⟨_,rfl⟩
   rw[hall,hix] at hcs
   obtain ⟨r9,dr⟩:=yA (l:=ac) (i:=ix) oz
   have cpt:=qpe hI7 (gB ac ix) oz oz oz h7
   have wl:IntKind.i64.wrap ((al:Int)-(d:Int))=(ix:Int):=by rw[i64in _ oz oz]; omega
   have il:(ix:Int)<al:=oz
   have i0:(0:Int)<=(ix:Int):=oz
   have i1:ix+1<=al:=oz
   have haL:(bV ac).length=al:=by rw[qQ,hall]
   have wk:=qF k oz
   refine qi kz ?_
   simp[go_sem,e0,e7,e10,gX7,klt]
   refine hK35 _ _ ?_
   try clear hK35 K35
   refine qj (b:=true) (by simp[go_sem,klt]) (fun _=>?_) (fun h=>by cases h)
   refine ql ?_
   refine hK34 _ _ ?_
   try clear hK34 K34
   refine qg (fun K36 hK36=>?_)
   refine qm ?_
   refine qo (fun K96 hK96=>?_)
   refine zx mixed ?_
   refine qf8 14 kz ?_
   refine qW (bf:=[0,0,2,6,14,0,32,96,224,480,0,2016,4094,8190]) kz kz ?_
   simp[go_sem,befL,e0,e9,gX7,gq,wl,il,i0,i1,dr,haL]
   refine ⟨fun _=>?_,fun h=>absurd rfl h⟩
   refine qV (l:=[14]) kz kz dz (fun k hk=>?_)
   simp only[List.mem_cons,List.not_mem_nil,or_false] at hk
   subst hk
   refine ⟨_,rfl,?_⟩
   simp[go_sem]
   refine ⟨_,cpt,?_⟩
   rintro _ H8 hn8 ⟨rfl,hI8,hS8⟩
   refine jd kz ?_
   refine hK96 _ _ ?_
   refine hK36 _ _ ?_
   try clear hK36 K36
   refine qo (fun K37 hK37=>?_)
   refine qi kz ?_
   simp[go_sem,e10,wk]
   refine hK37 _ _ ?_
   exact ⟨n-(k+1),oz,k+1,rfl,oz,by simp[go_sem,e0],by simp[go_sem,e1],by simp[go_sem,e2],by simp[go_sem,e7],by simp[go_sem,e9],gz,by rw[hcs]; exact hI8,hSt7.trans hS8⟩
  ·skip
   have klt : ¬ ((k:Int)<n):=oz
   obtain rfl:k=n:=oz
   rw[<- hrun] at hI7
   refine qi kz ?_
   simp[go_sem,e7,e10,klt]
   refine hK35 _ _ ?_
   try clear hK35 K35
   refine qj (b:=false) (by simp[go_sem,klt]) (fun h=>by cases h) (fun _=>?_)
   refine qy ?_
   exact ⟨r.length,by simp,r,t.run acc,_,rfl,fun u hu=>hto2 u (.tail _ hu),by rw[hrl,<- hnq]; exact hok2.2,hA6,hrm4,hrt,oz,by rw[List.length_append,qN]; omega,by simp[go_sem,e0],by simp[go_sem,e1],by simp[go_sem,e2],by rw[hysq,hybq,hdsq,hdbq]; exact hI7,hSt7⟩
end Go.Proofs.YtfokgjhdndnnhaaGreatDoor
end X5S
set_option maxRecDepth 20000
noncomputable section X7S
namespace Go.Proofs.YtfokgjhdndnnhaaGreatDoor
open Go Go.Fl Go.Proofs
theorem qj7 {b:List UInt8} {k:Nat} (h:k<b.length):bitsAt b (8*k) 8=(gB b k).toNat:=by
 unfold bitsAt
 rw[<- qa4,List.drop_eq_getElem_cons h]
 have e:unpack (b[k]::b.drop (k+1))=byteBits b[k]++unpack (b.drop (k+1)):=rfl
 rw[e,List.take_append_of_le_length (by unfold byteBits; rw[qB]; exact Nat.le_refl _),List.take_of_length_le (by unfold byteBits; rw[qB]; exact Nat.le_refl _)]
 unfold byteBits
 rw[qb9 8 _ (by have:=b[k].toNat_lt; omega)]
 unfold gB
 rw[List.getD_eq_getElem?_getD,List.getElem?_eq_getElem h]
 rfl
theorem qph {l:List UInt8} {i:Nat} (h:i<l.length):l.take (i+1)=l.take i ++ [gB l i]:=take_snoc l i h
theorem gB_drop (b:List UInt8) (k i:Nat):gB (b.drop k) i=gB b (k+i):=by
 unfold gB
 rw[List.getD_eq_getElem?_getD,List.getD_eq_getElem?_getD,List.getElem?_drop]
theorem qpi {S:Nat->Prop} {H:Heap} {xb p fr mo:Nat} {b all:List UInt8} (hI:DIn S H xb b p all fr mo) (hb:b.length<=100000) {n q0:Nat} (hp:p<=8*b.length) (hq:(p+7)/8*8=8*q0) (hn:bitsAt b (8*q0) 16=n) (hm:bitsAt b (8*q0+16) 16=n ^^^ 65535) (hl:q0+4+n<=b.length) (h1:fr<=all.length) (h2:all.length<=700000) (h3:all.length+n<=fr+mo) (h4:mo<=1000000):SCallsP Tryz.prog 61 [.ptr xb 0] H (fun r H'=>r = .tup []/\DIn S H' xb b (8*(q0+4+n)) (all++(b.drop (q0+4)).take n) fr mo/\Step S H H'):=by
 obtain ⟨rb,q,x,n1,n2,n3,ne,nq,gX,gBq,gG,hSn⟩:=id hI
 have ca:=dalign_p gBq hp
 have hn16:n<65536:=by rw[<- hn]; exact qbz b (8*q0) 16
 have hxr:bits .xor .i64 ((n ^^^ 65535:Nat):Int) 65535=((n:Nat):Int):=by have:=qbe (n ^^^ 65535) 65535 (by have:n ^^^ 65535<2^16:=Nat.xor_lt_two_pow oz dz; omega) dz; rw[Nat.xor_assoc,Nat.xor_self,Nat.xor_zero] at this; exact this
 have hbn:((n:Int) != (n:Int))=false:=by simp
 refine qA (sz:=51) (Tryz.call61) Tryz.func61 rfl kz (fun R hR=>?_)
 refine qg (fun K1 hK1=>?_)
 refine qp kz ?_
 simp[go_sem,gX]
 refine ⟨_,ca,?_⟩
 rintro _ H1 hn1 ⟨rfl,gB1,hS1⟩
 obtain ⟨hI1,hSS1⟩:=DIn.rd n1 n2 n3 ne nq gX gBq gG hSn gB1 hS1
 rw[hq] at hI1
 have c1:=jZ hI1 (n:=16) oz dz
 rw[hn] at c1
 refine hK1 _ _ ?_
 try clear hK1 K1
 refine qg (fun K3 hK3=>?_)
 refine qp kz ?_
 refine qH 2 (fun K4 hK4=>?_)
 simp[go_sem]
 refine ⟨_,c1,?_⟩
 rintro _ H2 hn2 ⟨rfl,hI2,hS2⟩
 have c2:=jZ hI2 (n:=16) oz dz
 rw[hm] at c2
 refine hK4 _ _ ?_
 clear hK4 K4
 simp[go_sem]
 refine hK3 _ _ ?_
 try clear hK3 K3
 refine qg (fun K5 hK5=>?_)
 refine qp kz ?_
 refine qH 2 (fun K6 hK6=>?_)
 simp[go_sem]
 refine ⟨_,c2,?_⟩
 rintro _ H3 hn3 ⟨rfl,hI3,hS3⟩
 have hSt3:=(hSS1.trans hS2).trans hS3
 obtain ⟨rb3,q3,x3,_,_,_,_,_,gX3,_,gG3,_⟩:=id hI3
 refine hK6 _ _ ?_
 clear hK6 K6
 simp[go_sem]
 refine hK5 _ _ ?_
 try clear hK5 K5
 refine qg (fun K7 hK7=>?_)
 refine qg (fun K8 hK8=>?_)
 refine qi kz ?_
 simp[go_sem,gX3,hxr,hbn]
 refine hK8 _ _ ?_
 try clear hK8 K8
 refine qj (b:=false) (by simp[go_sem,hbn]) (fun h=>by cases h) (fun _=>?_)
 refine ql ?_
 refine hK7 _ _ ?_
 try clear hK7 K7
 refine qg (fun K9 hK9=>?_)
 refine qi kz ?_
 simp[go_sem]
 refine hK9 _ _ ?_
 try clear hK9 K9
 refine qm ?_
 refine qC (Inv:=fun m0 env H5 => ∃ i:Nat,m0=n-i/\i<=n/\env 0 = .ptr xb 0/\env 2 = .int n/\env 4 = .int i/\DIn S H5 xb b (8*(q0+4+i)) (all++(b.drop (q0+4)).take i) fr mo/\Step S H H5) ?_ (n:=n) (⟨0,rfl,oz,gz,gz,gz,by rw[List.take_zero,List.append_nil,show 8*(q0+4+0)=8*q0+16+16 by omega]; exact hI3,hSt3⟩)
 rintro m0 env H5 ⟨i,rfl,hi,e0,e2,e4,hI5,hS5⟩
 obtain ⟨rb5,q5,x5,_,_,_,_,_,gX5,_,gG5,_⟩:=id hI5
 refine qg (fun K10 hK10=>?_)
 refine qg (fun K11 hK11=>?_)
 rcases Nat.lt_or_ge i n with hin | hin
 ·skip
  have klt:(i:Int)<n:=oz
  have hw:=qF i oz
  have htk:=qph (l:=b.drop (q0+4)) (i:=i) (by rw[List.length_drop]; omega)
  rw[gB_drop] at htk
  have c3:=jZ hI5 (n:=8) oz dz
  rw[qj7 oz] at c3
  have hcl:=(gB b (q0+4+i)).toNat_lt
  have wc:IntKind.u8.wrap (((gB b (q0+4+i)).toNat:Nat):Int)=(((gB b (q0+4+i)).toNat:Nat):Int):=wraps_u8 _ oz oz
  have hall:(all++(b.drop (q0+4)).take i).length=all.length+i:=by rw[List.length_append,List.length_take,List.length_drop]; omega
  refine qi kz ?_
  simp[go_sem,e0,e2,e4,gX5,klt,hin]
  refine hK11 _ _ ?_
  try clear hK11 K11
  refine qj (b:=true) (by simp[go_sem,klt,hin]) (fun _=>?_) (fun h=>by cases h)
  refine ql ?_
  refine hK10 _ _ ?_
  try clear hK10 K10
  refine qg (fun K12 hK12=>?_)
  refine qm ?_
  refine qg (fun K13 hK13=>?_)
  refine qp kz ?_
  refine qH 2 (fun K14 hK14=>?_)
  simp[go_sem,e0]
  refine ⟨_,c3,?_⟩
  rintro _ H6 hn6 ⟨rfl,hI6,hS6⟩
  obtain ⟨rb6,q6,x6,_,_,_,_,_,gX6,_,gG6,_⟩:=id hI6
  have c4:=qpe hI6 (gB b (q0+4+i)) oz oz oz h4
  refine hK14 _ _ ?_
  clear hK14 K14
  simp[go_sem,e0]
  refine hK13 _ _ ?_
  try clear hK13 K13
  refine qg (fun K15 hK15=>?_)
  refine qi kz ?_
  simp[go_sem,e0,gX6]
  refine hK15 _ _ ?_
  try clear hK15 K15
  refine qj (b:=true) gz (fun _=>?_) (fun h=>by cases h)
  refine qp kz ?_
  simp[go_sem,e0,wc]
  refine ⟨_,c4,?_⟩
  rintro _ H7 hn7 ⟨rfl,hI7,hS7⟩
  refine hK12 _ _ ?_
  try clear hK12 K12
  refine qo (fun K17 hK17=>?_)
  refine qi kz ?_
  simp[go_sem,e4,hw]
  refine hK17 _ _ ?_
  exact ⟨n-(i+1),oz,i+1,rfl,oz,by simp[go_sem,e0],by simp[go_sem,e2],gz,by rw[htk,<- List.append_assoc,show 8*(q0+4+(i+1))=8*(q0+4+i)+8 by omega]; exact hI7,(hS5.trans hS6).trans hS7⟩
 ·skip
  have klt : ¬ ((i:Int)<n):=oz
  have hin2 : ¬ i<n:=oz
  obtain rfl:n=i:=oz
  refine qi kz ?_
  simp[go_sem,e2,e4,klt,hin2]
  refine hK11 _ _ ?_
  try clear hK11 K11
  refine qj (b:=false) (by simp[go_sem,klt,hin2]) (fun h=>by cases h) (fun _=>?_)
  refine qy ?_
  refine hR _ _ ?_
  exact hS5.retP (r:=.tup []) gz ⟨rfl,hI5,hS5⟩ gz
end Go.Proofs.YtfokgjhdndnnhaaGreatDoor
end X7S
set_option maxRecDepth 20000
noncomputable section X9S
namespace Go.Proofs.YtfokgjhdndnnhaaGreatDoor
open Go Go.Fl Go.Proofs
theorem iA_froz' {H:Heap} {A n:Nat} {lens:List Nat} (g:H.get A=some (iV lens)) (hn:lens.length=n):Froz H (fun k=>(H.del A).get k=none) (.ms A 0 n 1) (iA lens):=by
 subst hn
 exact jh (grown_of g (by rw[qK]; omega)) fun k hk=>by cases hk; rw[Heap.get_del,if_pos rfl]
theorem dtake_s {H:Heap} {rb q p:Nat} {b:List UInt8} (gBt:DBits H rb q b p) {n:Nat} (hp:p+n<=8*b.length) (hn:n<=32):SCalls Tryz.prog 91 [.ptr rb 0,.int n] H (.tup [.int (bitsAt b p n:Nat),.bool true]) (H.set rb [.ms q 0 (8*b.length) 1,.int ((p:Int)+n),.bool false]):=by
 have cl:=qes gBt oz
 have cn:=qiy gBt hp hn
 obtain ⟨gR,gQ,nq,hb⟩:=gBt
 obtain ⟨N,hN⟩ : ∃ z,8*b.length=z:=⟨_,rfl⟩
 rw[hN] at gR |-
 have f1 : ¬ ((n:Int)<0):=oz
 have f2 : ¬ ((32:Int)<n):=oz
 obtain ⟨lf,hlf⟩ : ∃ z,8*b.length-p=z:=⟨_,rfl⟩
 rw[hlf] at cl
 have f3 : ¬ ((lf:Int)<n):=oz
 have wp:IntKind.i64.wrap ((p:Int)+n)=(p:Int)+n:=i64in _ oz oz
 refine qE (sz:=32) (Tryz.call91) Tryz.func91 rfl (by rw[Heap.next_set]; exact Nat.le_refl _) kz (fun R hR=>?_)
 refine qg (fun K1 hK1=>?_)
 refine qi kz ?_
 simp[go_sem]
 refine hK1 _ _ ?_
 try clear hK1 K1
 refine qg (fun K2 hK2=>?_)
 refine qg (fun K3 hK3=>?_)
 refine qi kz ?_
 refine qI 10 (fun K4 hK4=>?_)
 simp[go_sem,f1,f2,f3]
 refine ⟨_,_,cl,?_⟩
 refine hK4 _ _ ?_
 clear hK4 K4
 simp[go_sem,f1,f2,f3]
 refine hK3 _ _ ?_
 try clear hK3 K3
 refine qj (b:=false) (by simp[go_sem,f3]) (fun h=>by cases h) (fun _=>?_)
 refine ql ?_
 refine hK2 _ _ ?_
 try clear hK2 K2
 refine qg (fun K5 hK5=>?_)
 refine qi kz ?_
 refine qI 3 (fun K6 hK6=>?_)
 simp[go_sem]
 refine ⟨_,_,cn,?_⟩
 refine hK6 _ _ ?_
 clear hK6 K6
 simp[go_sem]
 refine hK5 _ _ ?_
 try clear hK5 K5
 refine qg (fun K7 hK7=>?_)
 refine qo (fun K8 hK8=>?_)
 refine qi kz ?_
 simp[go_sem,gR,wp]
 refine hK8 _ _ ?_
 refine hK7 _ _ ?_
 try clear hK7 K7
 refine qg (fun K9 hK9=>?_)
 refine qi kz ?_
 simp[go_sem]
 refine hK9 _ _ ?_
 try clear hK9 K9
 refine qx ?_
 simp only[go_sem]
 refine hR _ _ ?_
 refine je gz (by rw[Heap.next_set]; exact Nat.le_refl _) gz (fun b2 cs hb2=>?_)
 rw[Heap.get_set] at hb2
 split at hb2
 ·rename_i e9; subst e9; rw[gR] at hb2; cases hb2; exact .inr (by simp[go_sem]; exact Heap.lt_of_get gQ)
 ·exact .inl hb2
theorem qpj {H:Heap} {xb rb q p:Nat} {x:AV} {fr mo:Int} {b:List UInt8} (ne:rb≠xb) (gX:H.get xb=some [.ptr rb 0,x,.int fr,.int mo,.int 0]) (gBt:DBits H rb q b p) {n:Nat} (hp:p+n<=8*b.length) (hn:n<=32):SCalls Tryz.prog 60 [.ptr xb 0,.int n] H (.int (bitsAt b p n:Nat)) (H.set rb [.ms q 0 (8*b.length) 1,.int ((p:Int)+n),.bool false]):=by
 have ct:=dtake_s gBt hp hn
 obtain ⟨gR,gQ,nq,hb⟩:=gBt
 obtain ⟨N,hN⟩ : ∃ z,8*b.length=z:=⟨_,rfl⟩
 rw[hN] at gR |-
 rw[hN] at ct
 refine qE (sz:=26) (Tryz.call60) Tryz.func60 rfl (by rw[Heap.next_set]; exact Nat.le_refl _) kz (fun R hR=>?_)
 refine qg (fun K1 hK1=>?_)
 refine qi kz ?_
 simp[go_sem]
 refine hK1 _ _ ?_
 try clear hK1 K1
 refine qg (fun K2 hK2=>?_)
 refine qg (fun K3 hK3=>?_)
 refine qi kz ?_
 simp[go_sem,gX]
 refine hK3 _ _ ?_
 try clear hK3 K3
 refine qj (b:=false) gz (fun h=>by cases h) (fun _=>?_)
 refine ql ?_
 refine hK2 _ _ ?_
 try clear hK2 K2
 refine qg (fun K4 hK4=>?_)
 refine qi kz ?_
 refine qI 6 (fun K5 hK5=>?_)
 simp[go_sem,gX]
 refine ⟨_,_,ct,?_⟩
 refine hK5 _ _ ?_
 clear hK5 K5
 simp[go_sem,gX]
 refine hK4 _ _ ?_
 try clear hK4 K4
 refine qg (fun K6 hK6=>?_)
 refine qg (fun K7 hK7=>?_)
 refine qi kz ?_
 simp[go_sem]
 refine hK7 _ _ ?_
 try clear hK7 K7
 refine qj (b:=false) gz (fun h=>by cases h) (fun _=>?_)
 refine ql ?_
 refine hK6 _ _ ?_
 try clear hK6 K6
 refine qg (fun K8 hK8=>?_)
 refine qi kz ?_
 simp[go_sem]
 refine hK8 _ _ ?_
 try clear hK8 K8
 refine qx ?_
 simp only[go_sem]
 refine hR _ _ ?_
 refine je gz (by rw[Heap.next_set]; exact Nat.le_refl _) gz (fun b2 cs hb2=>?_)
 rw[Heap.get_set] at hb2
 split at hb2
 ·rename_i e9; subst e9; rw[gR] at hb2; cases hb2; exact .inr (by simp[go_sem]; exact Heap.lt_of_get gQ)
 ·exact .inl hb2
theorem dset {H:Heap} {rb q p:Nat} {b:List UInt8} (gBt:DBits H rb q b p) (n:Nat):DBits (H.set rb [.ms q 0 (8*b.length) 1,.int ((p:Int)+n),.bool false]) rb q b (p+n)/\Step (fun z=>z≠rb) H (H.set rb [.ms q 0 (8*b.length) 1,.int ((p:Int)+n),.bool false]):=by
 obtain ⟨gR,gQ,nq,hb⟩:=gBt
 refine ⟨⟨by rw[Heap.get_set,if_pos rfl,gR]; push_cast; rfl,by rw[Heap.get_set,if_neg (fun e=>nq e.symm)]; exact gQ,nq,hb⟩,(Step.refl _ _).set (fun h=>h rfl) (by simp[go_sem]; exact Heap.lt_of_get gQ)⟩
theorem qj8 {H:Heap} {xb rb q p:Nat} {x:AV} {fr mo:Int} {b:List UInt8} (ne:rb≠xb) (gX:H.get xb=some [.ptr rb 0,x,.int fr,.int mo,.int 0]) (gBt:DBits H rb q b p) {n:Nat} (hp:p+n<=8*b.length) (hn:n<=32):SCallsP Tryz.prog 60 [.ptr xb 0,.int n] H (fun r H'=>r = .int (bitsAt b p n:Nat)/\DBits H' rb q b (p+n)/\Step (fun z=>z≠rb) H H') :=
 (qpj ne gX gBt hp hn).p.mono fun r H' _ ⟨h1,h2⟩=>by rw[h1,h2]; exact ⟨rfl,dset gBt n⟩
theorem qj9 {H:Heap} {A n:Nat} {lens:List Nat} (g:H.get A=some (iV lens)) (hn:lens.length=n) (hk:LensOk lens) (hl:n<=320):SCalls Tryz.prog 94 [.ms A 0 n 1] H (.tup [dtabA lens,.int 0]) (H.del A) :=
 qaz (NewTab_s lens hk oz) (by simp[zI]) (by simp[go_sem,yO]) (.cons (iA_froz' g hn) .nil)
theorem dsym_x {H:Heap} {xb rb q p:Nat} {x:AV} {fr mo:Int} {b:List UInt8} (ne:rb≠xb) (gX:H.get xb=some [.ptr rb 0,x,.int fr,.int mo,.int 0]) (gBt:DBits H rb q b p) {s:Nat} {l:List Nat} (hp:p<=8*b.length) (hk:LensOk l) (hl:l.length<=100000) (h:0<l.getD s 0) (hA:Ahead b p (symBits l s)):SCallsP Tryz.prog 95 [.ptr xb 0,dtabA l] H (fun r H'=>r = .int s/\DBits H' rb q b (p+l.getD s 0)/\Step (fun z=>z≠rb) H H'):=by
 have ct:=dsym_p gBt hp hk hl h hA
 refine qA (sz:=27) (Tryz.call95) Tryz.func95 rfl kz (fun R hR=>?_)
 refine qg (fun K1 hK1=>?_)
 refine qi kz ?_
 simp[go_sem]
 refine hK1 _ _ ?_
 try clear hK1 K1
 refine qg (fun K2 hK2=>?_)
 refine qg (fun K3 hK3=>?_)
 refine qi kz ?_
 simp[go_sem,gX]
 refine hK3 _ _ ?_
 try clear hK3 K3
 refine qj (b:=false) gz (fun h=>by cases h) (fun _=>?_)
 refine ql ?_
 refine hK2 _ _ ?_
 try clear hK2 K2
 refine qg (fun K4 hK4=>?_)
 refine qp kz ?_
 refine qH 6 (fun K5 hK5=>?_)
 simp[go_sem,gX]
 refine ⟨_,ct,?_⟩
 rintro _ H1 hn1 ⟨rfl,gB1,hS1⟩
 refine hK5 _ _ ?_
 clear hK5 K5
 simp[go_sem,gX]
 refine hK4 _ _ ?_
 try clear hK4 K4
 refine qg (fun K6 hK6=>?_)
 refine qg (fun K7 hK7=>?_)
 refine qi kz ?_
 simp[go_sem]
 refine hK7 _ _ ?_
 try clear hK7 K7
 refine qj (b:=false) gz (fun h=>by cases h) (fun _=>?_)
 refine ql ?_
 refine hK6 _ _ ?_
 try clear hK6 K6
 refine qg (fun K8 hK8=>?_)
 refine qi kz ?_
 simp[go_sem]
 refine hK8 _ _ ?_
 try clear hK8 K8
 refine qx ?_
 simp only[go_sem]
 refine hR _ _ ?_
 exact hS1.retP (r:=.int s) gz ⟨rfl,gB1,hS1⟩ gz
end Go.Proofs.YtfokgjhdndnnhaaGreatDoor
end X9S
