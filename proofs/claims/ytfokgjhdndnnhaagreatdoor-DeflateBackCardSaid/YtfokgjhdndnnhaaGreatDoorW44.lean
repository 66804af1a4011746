/- Contracts: the symbols of a block, read. -/
import Derived.Test.YtfokgjhdndnnhaaGreatDoorW40
import Derived.Test.YtfokgjhdndnnhaaGreatDoorW33
set_option maxHeartbeats 1000000
set_option linter.unusedVariables false
set_option linter.unusedSimpArgs false
set_option maxRecDepth 20000
noncomputable section W41S
namespace Go.Proofs.YtfokgjhdndnnhaaGreatDoor
open Go Go.Fl Go.Proofs
theorem qen {t:Tok} {acc:List UInt8} {n:Nat} (h:t.ok n):(t.run acc).length=acc.length+t.len:=by
 unfold Tok.run
 rcases h with ⟨h1,h2⟩ | ⟨h1,_,h2,_⟩
 ·rw[if_pos h1,List.length_append,h2]; rfl
 ·rw[if_neg oz,qb4]
theorem yY (t:Tok) (r:List Tok) (acc:List UInt8):Go.Fl.runT (t::r) acc=Go.Fl.runT r (t.run acc):=rfl
theorem qeo : ∀ (r:List Tok) (acc:List UInt8),okT r acc.length->acc.length<=(Go.Fl.runT r acc).length
 | [],_,_=>Nat.le_refl _
 | t::r,acc,h=>by
  have h1:=qen (acc:=acc) h.1
  have h2:=qeo r (t.run acc) (by rw[h1]; exact h.2)
  rw[yY]
  omega
theorem qie : ∀ r:List Tok,r = []\/(∃ t r2,r=t::r2/\t.back=0) \/ ∃ t r2,r=t::r2 /\ ¬ t.back=0
 | []=>.inl rfl
 | t::r=>by
  by_cases h:t.back=0
  ·exact .inr (.inl ⟨t,r,rfl,h⟩)
  ·exact .inr (.inr ⟨t,r,rfl,h⟩)
theorem lenSym {n:Nat} (h3:3<=n) (h258:n<=258):257<=(lenPart n).sym:=by
 rcases jv h3 h258 with ⟨hn,hr⟩ | ⟨hn,hr⟩ | ⟨e,q,_,_,_,_,_,_,_,_,_,_,hr⟩ <;> rw[hr] <;> simp <;> omega
theorem qif {S:Nat->Prop} {H:Heap} {ib p fr mo:Nat} {b all:List UInt8} (hI:InR S H ib b p all fr mo) (hb:b.length<=100000) (hp:p<=8*b.length) {lx ly:List Nat} (hx:LensOk lx) (hy0:LensOk ly) (toks:List Tok) (hto : ∀ t∈toks,TokOk lx ly t) (hok:okT toks all.length) (h256:0<lx.getD 256 0) (hA:Ahead b p (toksBits lx ly toks++symBits lx 256)) (h4:fr<=all.length) (h5:(Go.Fl.runT toks all).length<=900000) (h6:(Go.Fl.runT toks all).length<=fr+mo) (h7:mo<=1000000):SCallsP Tryz.prog 55 [.ptr ib 0,tabA lx,tabA ly] H (fun r H'=>r = .sc .nilIface/\InR S H' ib b (p+(toksBits lx ly toks++symBits lx 256).length) (Go.Fl.runT toks all) fr mo/\Step S H H'):=by
 obtain ⟨R0,hR0⟩ : ∃ z,Go.Fl.runT toks all=z:=⟨_,rfl⟩
 obtain ⟨PE,hPE⟩ : ∃ z,p+(toksBits lx ly toks++symBits lx 256).length=z:=⟨_,rfl⟩
 rw[hR0] at h5 h6 |-
 rw[hPE]
 refine qA (sz:=54) (Tryz.call55) Tryz.func55 rfl kz (fun R hR=>?_)
 refine qg (fun K1 hK1=>?_)
 refine qi kz ?_
 simp[go_sem]
 refine hK1 _ _ ?_
 try clear hK1 K1
 refine qm ?_
 refine qC (Inv:=fun m0 env H2 => ∃ (r:List Tok) (acc:List UInt8) (p2:Nat),m0=r.length/\(∀ t∈r,TokOk lx ly t)/\okT r acc.length/\Ahead b p2 (toksBits lx ly r++symBits lx 256)/\p2<=8*b.length/\Go.Fl.runT r acc=R0/\fr<=acc.length/\p2+(toksBits lx ly r++symBits lx 256).length=PE/\env 0 = .ptr ib 0/\env 1=tabA lx/\env 2=tabA ly/\InR S H2 ib b p2 acc fr mo/\Step S H H2) ?_ (n:=toks.length) (⟨toks,all,p,rfl,hto,hok,hA,hp,hR0,h4,hPE,gz,gz,gz,hI,Step.refl _ _⟩)
 rintro m0 env H2 ⟨r,acc,p2,rfl,hto2,hok2,hA2,hp2,hrt,hfr,hpe2,e0,e1,e2,hI2,hS⟩
 refine qm ?_
 refine qg (fun K2 hK2=>?_)
 rcases qie r with rfl | ⟨t,r,rfl,hb0⟩ | ⟨t,r,rfl,hb0⟩
 ·skip
  have ha0:Ahead b p2 (symBits lx 256):=hA2
  have hpe:p2+lx.getD 256 0=PE:=by rw[<- hpe2]; show _=p2+(symBits lx 256).length; rw[qN]
  obtain ⟨rb,x,nI,nR,ne,gI,gR,gX,hSn⟩:=hI2
  have ct:SCallsP Tryz.prog 85 [tabA lx,.ptr rb 0] H2 _:=yE (s:=256) gR hb hp2 hx h256 ha0
  refine qp kz ?_
  refine qH 6 (fun K3 hK3=>?_)
  simp[go_sem,e0,e1,gI]
  refine ⟨_,ct,?_⟩
  rintro _ H3 hn3 ⟨rfl,gR3,hS3⟩
  have hI3:=InR.rd nI nR ne gI gX hSn gR3 (hS3.mono fun z hz=>hz.2)
  have hSt3:=hS.trans hI3.2
  refine hK3 _ _ ?_
  clear hK3 K3
  simp[go_sem,e0,e1,gI]
  refine hK2 _ _ ?_
  try clear hK2 K2
  refine qm ?_
  refine qg (fun K4 hK4=>?_)
  refine qi kz ?_
  simp[go_sem]
  refine hK4 _ _ ?_
  try clear hK4 K4
  refine qj (b:=false) gz (fun h=>by cases h) (fun _=>?_)
  refine qg (fun K5 hK5=>?_)
  refine qi kz ?_
  simp[go_sem]
  refine hK5 _ _ ?_
  try clear hK5 K5
  refine qj (b:=true) gz (fun _=>?_) (fun h=>by cases h)
  refine qg (fun K6 hK6=>?_)
  refine qi kz ?_
  simp[go_sem]
  refine hK6 _ _ ?_
  try clear hK6 K6
  refine qx ?_
  simp only[go_sem]
  refine hR _ _ ?_
  have hrt2:acc=R0:=hrt
  rw[hpe,hrt2] at hI3
  refine hSt3.retP (r:=.sc .nilIface) gz ⟨rfl,hI3.1,hSt3⟩ gz
 ·skip
  have htk:=hto2 t (.head _)
  have hok1:=hok2.1
  have hc0:0<lx.getD t.c.toNat 0:=by
   rcases htk with h | h
   ·exact h.2
   ·omega
  have htb:tokBits lx ly t=symBits lx t.c.toNat:=by unfold tokBits; rw[if_pos hb0]
  have hsp:toksBits lx ly (t::r)++symBits lx 256=symBits lx t.c.toNat++(toksBits lx ly r++symBits lx 256):=by rw[<- List.append_assoc,<- htb]; rfl
  rw[hsp] at hA2 hpe2
  have hA3:=hA2.next
  have hrm:=hA2.fst.room hp2
  rw[qN] at hA3 hrm
  rw[List.length_append,qN,<- Nat.add_assoc] at hpe2
  have hrl:=qen (acc:=acc) hok1
  have hge:=qeo r (t.run acc) (by rw[hrl]; exact hok2.2)
  have htl1:t.len=1:=by
   rcases hok1 with h | h
   ·exact h.2
   ·omega
  have hrun:t.run acc=acc ++ [t.c]:=by unfold Tok.run; rw[if_pos hb0]
  rw[yY] at hrt
  rw[hrt,hrl,htl1] at hge
  have hcl:=t.c.toNat_lt
  obtain ⟨c,hc⟩ : ∃ z,t.c.toNat=z:=⟨_,rfl⟩
  rw[hc] at hc0 hA3 hrm hpe2 hcl hA2
  have c1:((c:Int)==256)=false:=by simp; omega
  have c2 : ¬ (256<(c:Int)):=oz
  have wc:IntKind.u8.wrap (c:Int)=(c:Int):=wraps_u8 _ oz oz
  obtain ⟨rb,x,nI,nR,ne,gI,gR,gX,hSn⟩:=hI2
  have ct:SCallsP Tryz.prog 85 [tabA lx,.ptr rb 0] H2 _:=yE (s:=c) gR hb hp2 hx hc0 hA2.fst
  refine qp kz ?_
  refine qH 6 (fun K7 hK7=>?_)
  simp[go_sem,e0,e1,gI]
  refine ⟨_,ct,?_⟩
  rintro _ H3 hn3 ⟨rfl,gR3,hS3⟩
  have hI3:=InR.rd nI nR ne gI gX hSn gR3 (hS3.mono fun z hz=>hz.2)
  have hSt3:=hS.trans hI3.2
  have cr:=qo3 hI3.1 hb (n:=1) hfr oz oz h7
  obtain ⟨rb9,x9,nI9,nR9,ne9,gI9,gR9,gX9,hSn9⟩:=hI3.1
  obtain ⟨al,hall⟩ : ∃ z,acc.length=z:=⟨_,rfl⟩
  obtain ⟨H4,hap,gI4,hI4,hS4⟩:=InR.push (v:=t.c) nI9 nR9 ne9 gI9 gR9 gX9 hSn9 hall oz hc
  rw[<- hrun] at hI4
  refine hK7 _ _ ?_
  clear hK7 K7
  simp[go_sem,e0,e1,gI]
  refine hK2 _ _ ?_
  try clear hK2 K2
  refine qm ?_
  refine qg (fun K8 hK8=>?_)
  refine qi kz ?_
  simp[go_sem]
  refine hK8 _ _ ?_
  try clear hK8 K8
  refine qj (b:=false) gz (fun h=>by cases h) (fun _=>?_)
  refine qg (fun K9 hK9=>?_)
  refine qi kz ?_
  simp[go_sem,c1]
  refine hK9 _ _ ?_
  try clear hK9 K9
  refine qj (b:=false) gz (fun h=>by cases h) (fun _=>?_)
  refine qg (fun K10 hK10=>?_)
  refine qi kz ?_
  simp[go_sem,c2]
  refine hK10 _ _ ?_
  try clear hK10 K10
  refine qj (b:=false) gz (fun h=>by cases h) (fun _=>?_)
  refine qg (fun K11 hK11=>?_)
  refine qg (fun K12 hK12=>?_)
  refine qi kz ?_
  refine qI 2 (fun K13 hK13=>?_)
  simp[go_sem,e0]
  refine ⟨_,_,cr,?_⟩
  refine hK13 _ _ ?_
  clear hK13 K13
  simp[go_sem,e0]
  refine hK12 _ _ ?_
  try clear hK12 K12
  refine qg (fun K14 hK14=>?_)
  refine qi kz ?_
  simp[go_sem]
  refine hK14 _ _ ?_
  try clear hK14 K14
  refine qj (b:=false) gz (fun h=>by cases h) (fun _=>?_)
  refine ql ?_
  refine hK11 _ _ ?_
  try clear hK11 K11
  refine qo (fun K15 hK15=>?_)
  refine qi kz ?_
  simp[go_sem,e0,gI9,wc,hap,gI4]
  refine hK15 _ _ ?_
  exact ⟨r.length,by simp,r,t.run acc,p2+lx.getD c 0,rfl,fun u hu=>hto2 u (.tail _ hu),by rw[hrl]; exact hok2.2,hA3,hrm,hrt,oz,hpe2,by simp[go_sem,e0],by simp[go_sem,e1],by simp[go_sem,e2],hI4,hSt3.trans hS4⟩
 ·skip
  have htk:=hto2 t (.head _)
  have hok1:=hok2.1
  have hkc:3<=t.len/\t.len<=258/\1<=t.back/\t.back<=32768/\0<lx.getD (lenPart t.len).sym 0/\0<ly.getD (distPart t.back).sym 0:=by
   rcases htk with h | h
   ·exact absurd h.1 hb0
   ·exact h
  obtain ⟨k1,k2,k3,k4,k5,k6⟩:=hkc
  have hda:t.back<=acc.length:=by
   rcases hok1 with h | h
   ·exact absurd h.1 hb0
   ·exact h.2.2.2.2
  have htb:tokBits lx ly t=symBits lx (lenPart t.len).sym++natBits (lenPart t.len).bits (lenPart t.len).more++(symBits ly (distPart t.back).sym++natBits (distPart t.back).bits (distPart t.back).more):=by unfold tokBits; rw[if_neg hb0]
  have hsp:toksBits lx ly (t::r)++symBits lx 256=symBits lx (lenPart t.len).sym++(natBits (lenPart t.len).bits (lenPart t.len).more++((symBits ly (distPart t.back).sym++natBits (distPart t.back).bits (distPart t.back).more)++(toksBits lx ly r++symBits lx 256))):=by
   show (tokBits lx ly t++toksBits lx ly r)++symBits lx 256=_
   rw[htb]
   simp only[List.append_assoc]
  rw[hsp] at hA2 hpe2
  have hA3:=hA2.next
  have hA4:=hA3.next
  have hA5:=hA4.next
  have hrm:=hA2.fst.room hp2
  have hrm2:=hA3.fst.room hrm
  have hrm3:=hA4.fst.room hrm2
  simp only[List.length_append,qN,qB] at hA3 hA4 hA5 hrm hrm2 hrm3 hpe2
  have hrl:=qen (acc:=acc) hok1
  have hge:=qeo r (t.run acc) (by rw[hrl]; exact hok2.2)
  have hrun:t.run acc=copyN t.back t.len acc:=by unfold Tok.run; rw[if_neg hb0]
  rw[yY] at hrt
  rw[hrt,hrl] at hge
  have hys:=lenSym k1 k2
  have c1:(((lenPart t.len).sym:Int)==256)=false:=by simp; omega
  have c2:(256:Int)<((lenPart t.len).sym:Int):=oz
  have hyA:=hA2.fst
  obtain ⟨rb,x,nI,nR,ne,gI,gR,gX,hSn⟩:=hI2
  have ct:SCallsP Tryz.prog 85 [tabA lx,.ptr rb 0] H2 _:=yE (s:=(lenPart t.len).sym) gR hb hp2 hx k5 hyA
  refine qp kz ?_
  refine qH 6 (fun K16 hK16=>?_)
  simp[go_sem,e0,e1,gI]
  refine ⟨_,ct,?_⟩
  rintro _ H3 hn3 ⟨rfl,gR3,hS3⟩
  have hI3:=InR.rd nI nR ne gI gX hSn gR3 (hS3.mono fun z hz=>hz.2)
  have hSt3:=hS.trans hI3.2
  have cc:=copies_p hI3.1 hb hrm hy0 k1 k2 k3 k4 hA3.fst hrm2 k6 hA4.fst hda hfr oz oz h7
  rw[<- hrun] at cc
  refine hK16 _ _ ?_
  clear hK16 K16
  simp[go_sem,e0,e1,gI]
  refine hK2 _ _ ?_
  try clear hK2 K2
  refine qm ?_
  refine qg (fun K17 hK17=>?_)
  refine qi kz ?_
  simp[go_sem]
  refine hK17 _ _ ?_
  try clear hK17 K17
  refine qj (b:=false) gz (fun h=>by cases h) (fun _=>?_)
  refine qg (fun K18 hK18=>?_)
  refine qi kz ?_
  simp[go_sem,c1]
  refine hK18 _ _ ?_
  try clear hK18 K18
  refine qj (b:=false) gz (fun h=>by cases h) (fun _=>?_)
  refine qg (fun K19 hK19=>?_)
  refine qi kz ?_
  simp[go_sem,c2]
  refine hK19 _ _ ?_
  try clear hK19 K19
  refine qj (b:=true) gz (fun _=>?_) (fun h=>by cases h)
  refine qg (fun K20 hK20=>?_)
  refine qp kz ?_
  refine qH 4 (fun K21 hK21=>?_)
  simp[go_sem,e0,e2]
  refine ⟨_,cc,?_⟩
  rintro _ H5 hn5 ⟨rfl,hI5,hS5⟩
  refine hK21 _ _ ?_
  clear hK21 K21
  simp[go_sem,e0,e2]
  refine hK20 _ _ ?_
  try clear hK20 K20
  refine qg (fun K22 hK22=>?_)
  refine qi kz ?_
  simp[go_sem]
  refine hK22 _ _ ?_
  try clear hK22 K22
  refine qj (b:=false) gz (fun h=>by cases h) (fun _=>?_)
  refine ql ?_
  exact ⟨r.length,by simp,r,t.run acc,_,rfl,fun u hu=>hto2 u (.tail _ hu),by rw[hrl]; exact hok2.2,hA5,oz,hrt,oz,by rw[List.length_append,qN]; omega,by simp[go_sem,e0],by simp[go_sem,e1],by simp[go_sem,e2],by simpa only [Nat.add_assoc] using hI5,hSt3.trans hS5⟩
end Go.Proofs.YtfokgjhdndnnhaaGreatDoor
end W41S
set_option maxRecDepth 20000
noncomputable section W42S
namespace Go.Proofs.YtfokgjhdndnnhaaGreatDoor
open Go Go.Fl Go.Proofs
theorem qep {H:Heap} {ib rb p:Nat} {x:AV} {fr mo:Int} {b:List UInt8} (gI:H.get ib=some [.ptr rb 0,x,.int fr,.int mo]) (gR:H.get rb=some (rdC b p)) (hb:b.length<=100000) {n:Nat} (hp:p+n<=8*b.length) (hn:n<=32):SCallsP Tryz.prog 51 [.ptr ib 0,.int n] H (fun r H'=>r = .tup [.int (bitsAt b p n:Nat),.sc .nilIface]/\H'.get rb=some (rdC b (p+n))/\Step (fun z=>z≠rb) H H'):=by
 have ct:=qo1 gR hb hp hn
 refine qA (sz:=21) (Tryz.call51) Tryz.func51 rfl kz (fun R hR=>?_)
 refine qg (fun K1 hK1=>?_)
 refine qi kz ?_
 simp[go_sem]
 refine hK1 _ _ ?_
 try clear hK1 K1
 refine qg (fun K2 hK2=>?_)
 refine qp kz ?_
 refine qH 6 (fun K3 hK3=>?_)
 simp[go_sem,gI]
 refine ⟨_,ct,?_⟩
 rintro _ H1 hn1 ⟨rfl,gR1,hS1⟩
 refine hK3 _ _ ?_
 clear hK3 K3
 simp[go_sem,gI]
 refine hK2 _ _ ?_
 try clear hK2 K2
 refine qg (fun K4 hK4=>?_)
 refine qg (fun K5 hK5=>?_)
 refine qi kz ?_
 simp[go_sem]
 refine hK5 _ _ ?_
 try clear hK5 K5
 refine qj (b:=false) gz (fun h=>by cases h) (fun _=>?_)
 refine ql ?_
 refine hK4 _ _ ?_
 try clear hK4 K4
 refine qg (fun K6 hK6=>?_)
 refine qi kz ?_
 simp[go_sem]
 refine hK6 _ _ ?_
 try clear hK6 K6
 refine qx ?_
 simp only[go_sem]
 refine hR _ _ ?_
 refine hS1.retP (r:=.tup [.int (bitsAt b p n:Nat),.sc .nilIface]) gz ⟨rfl,gR1,hS1⟩ gz
theorem qmr {P:Program} {fn:Func} {S S' : Nat->Prop} {H:Heap} {env:Env} {H1:Heap} {x:AV} {sz n:Nat} {cs:List AV} {post:AV->Heap->Prop} (h:Step S H H1) (hg:GrN S' H1 x sz n cs) (hs : ∀ z,S z->S' z) (h1:aresults P fn env H1=some (.tup [x,.sc .nilIface])) (hc : ∀ y∈cs,∀ k,y.Lt k) (hp : ∀ H',Step S H H' -> Step S' H1 H' -> post (.tup [.vs n sz cs,.sc .nilIface]) H'):RetP P fn H env H1 post:=by
 obtain ⟨bo,hgr,hbo,_⟩:=hg.grown
 have hs1:Step S H (H1.delo bo):=h.del fun b hb e=>hbo b hb (hs b e)
 refine ⟨_,H1.delo bo,hp _ hs1 ((Step.refl _ _).del hbo),⟨_,h1,Froz.tupL (.cons (jh hgr fun b hb=>?_) (.cons (.same _) .nil))⟩,H1.delo_le bo,hs1.le,by rw[Heap.delo_next]; exact Nat.le_refl _,.tup fun y hy=>?_,hs1.cont⟩
 ·subst hb
  show (H1.del b).get b=none
  rw[Heap.get_del,if_pos rfl]
 ·simp only[List.mem_cons,List.not_mem_nil,or_false] at hy
  rcases hy with rfl | rfl
  ·exact .vs fun y hy=>hc y hy _
  ·exact .sc _
theorem qjs (b:List UInt8) (p:Nat):bitsAt b p 0=0:=rfl
theorem jW {S:Nat->Prop} {H:Heap} {x:AV} {n c:Nat} {l:List Nat} (h:GrN S H x 1 n (iV l)) (hSn : ∀ z,S z->z<H.next) (hl:n<=1000000) : ∃ H1,aappend Tryz.prog (H.alloc [.int c]) 84 84 x (.ms H.next 0 1 1)=some (.ms (H.next+1) 0 (n+1) 1,H1)/\GrN S H1 (.ms (H.next+1) 0 (n+1) 1) 1 (n+1) (iV (l ++ [c]))/\Step S H H1:=by
 obtain ⟨bo,hg,hbo,_,_⟩:=h.grown
 obtain ⟨ha,hg2⟩:=appI (c:Int) hg oz
 refine ⟨_,ha,?_,GrN.step hg hbo (fun y hy=>jb l _ y hy) gz⟩
 rw[qgv]
 exact GrN.one hg2 hSn
theorem row_p {H:Heap} {ib rb p:Nat} {x:AV} {fr mo:Int} {b:List UInt8} (ne:rb≠ib) (gI:H.get ib=some [.ptr rb 0,x,.int fr,.int mo]) (gR:H.get rb=some (rdC b p)) (hb:b.length<=100000) (hp:p<=8*b.length) {m:List Nat} (hm:LensOk m) (ls:List Nat) (hll:ls.length<=1000) (hls : ∀ s∈ls,s<=15/\0<m.getD s 0) (hA:Ahead b p (ls.flatMap (symBits m))):SCallsP Tryz.prog 84 [.ptr ib 0,tabA m,.int ls.length] H (fun r H'=>r = .tup [iA ls,.sc .nilIface]/\H'.get rb=some (rdC b (p+(ls.flatMap (symBits m)).length))/\Step (fun z=>z<H.next/\z≠rb) H H'):=by
 obtain ⟨N,hN⟩ : ∃ z,ls.length=z:=⟨_,rfl⟩
 rw[hN]
 obtain ⟨PE,hPE⟩ : ∃ z,p+(ls.flatMap (symBits m)).length=z:=⟨_,rfl⟩
 rw[hPE]
 have hIl:=Heap.lt_of_get gI
 have hRl:=Heap.lt_of_get gR
 refine qA (sz:=79) (Tryz.call84) Tryz.func84 rfl kz (fun R hR=>?_)
 refine qg (fun K1 hK1=>?_)
 refine qi kz ?_
 simp[go_sem]
 refine hK1 _ _ ?_
 try clear hK1 K1
 refine qg (fun K2 hK2=>?_)
 refine qi kz ?_
 simp[go_sem]
 refine hK2 _ _ ?_
 try clear hK2 K2
 refine qg (fun K3 hK3=>?_)
 refine qm ?_
 refine qC (Inv:=fun m0 env H2 => ∃ (ds r:List Nat) (p2:Nat) (x2:AV),m0=r.length/\ds++r=ls/\(∀ s∈r,s<=15/\0<m.getD s 0)/\Ahead b p2 (r.flatMap (symBits m))/\p2<=8*b.length/\p2+(r.flatMap (symBits m)).length=PE/\env 0 = .ptr ib 0/\env 1=tabA m/\env 2 = .int N/\env 8=x2/\GrN (fun z=>z<H.next) H2 x2 1 ds.length (iV ds)/\H2.get rb=some (rdC b p2)/\Step (fun z=>z<H.next/\z≠rb) H H2) ?_ (n:=ls.length) (⟨[],ls,p,.nil,rfl,rfl,hls,hA,hp,hPE,gz,gz,gz,gz,GrN.nil _ _ _,gR,Step.refl _ _⟩)
 rintro m0 env H2 ⟨ds,r,p2,x2,rfl,hds,hr,hA2,hp2,hpe,e0,e1,e2,e8,hX,gR2,hS⟩
 have hlen:=congrArg List.length hds
 rw[List.length_append,hN] at hlen
 obtain ⟨k,hk0⟩ : ∃ z,ds.length=z:=⟨_,rfl⟩
 rw[hk0] at hlen hX
 have hkl:alen Tryz.prog 84 x2=some (.int k):=by
  rcases hX with ⟨rfl,rfl,_⟩ | ⟨q,_,rfl,_,_⟩ <;> simp[go_sem]
 have gI2:=hS.get gI ⟨hIl,fun e=>ne e.symm⟩
 refine qg (fun K4 hK4=>?_)
 refine qg (fun K5 hK5=>?_)
 refine qi kz ?_
 simp[go_sem,e2,e8,hkl]
 refine hK5 _ _ ?_
 try clear hK5 K5
 refine qj (b:=decide (k<N)) gz (fun hb9=>?_) (fun hb9=>?_)
 ·skip
  simp only[decide_eq_true_eq] at hb9
  obtain ⟨s,r,rfl⟩ : ∃ s r2,r=s::r2:=by
   cases r with
   | nil=>simp at hlen; omega
   | cons s r2=>exact ⟨s,r2,rfl⟩
  obtain ⟨hs15,hs0⟩:=hr s (.head _)
  have hA2b:Ahead b p2 (symBits m s++r.flatMap (symBits m)):=hA2
  have hA3:=hA2b.next
  have hp3:=hA2b.fst.room hp2
  have hpe3:p2+(symBits m s++r.flatMap (symBits m)).length=PE:=hpe
  rw[List.length_append,<- Nat.add_assoc] at hpe3
  rw[qN] at hA3 hp3 hpe3
  clear hpe
  have ct:=yE gR2 hb hp2 hm hs0 hA2b.fst
  obtain ⟨p3,hp3q⟩ : ∃ z,p2+m.getD s 0=z:=⟨_,rfl⟩
  rw[hp3q] at ct hA3 hp3 hpe3
  have hpe:=hpe3
  have c16:((s:Int)==16)=false:=by simp; omega
  have c17:((s:Int)==17)=false:=by simp; omega
  have c18:((s:Int)==18)=false:=by simp; omega
  have hdl:(ds ++ [s]).length=k+1:=by rw[List.length_append,hk0]; rfl
  have w1:IntKind.i64.wrap ((N:Int)-(k:Int))=(N:Int)-(k:Int):=i64in _ oz oz
  have c1:(1:Int)<=(N:Int)-(k:Int):=oz
  have w11:IntKind.i64.wrap 1=1:=rfl
  refine ql ?_
  refine hK4 _ _ ?_
  try clear hK4 K4
  refine qm ?_
  refine qg (fun K6 hK6=>?_)
  refine qp kz ?_
  refine qH 6 (fun K7 hK7=>?_)
  simp[go_sem,e0,e1,gI2]
  refine ⟨_,ct,?_⟩
  rintro _ H3 hn3 ⟨rfl,gR3,hS3⟩
  have gI3:=hS3.get gI2 (fun e=>ne e.symm)
  have ct0:=qep gI3 gR3 hb (n:=0) oz dz
  rw[qjs,Nat.add_zero] at ct0
  refine hK7 _ _ ?_
  clear hK7 K7
  simp[go_sem,e0,e1,gI2]
  refine hK6 _ _ ?_
  try clear hK6 K6
  refine qg (fun K8 hK8=>?_)
  refine qg (fun K9 hK9=>?_)
  refine qi kz ?_
  simp[go_sem]
  refine hK9 _ _ ?_
  try clear hK9 K9
  refine qj (b:=false) gz (fun h=>by cases h) (fun _=>?_)
  refine ql ?_
  refine hK8 _ _ ?_
  try clear hK8 K8
  refine qg (fun K10 hK10=>?_)
  refine qi kz ?_
  simp[go_sem]
  refine hK10 _ _ ?_
  try clear hK10 K10
  refine qg (fun K11 hK11=>?_)
  refine qg (fun K12 hK12=>?_)
  refine qi kz ?_
  simp[go_sem]
  refine hK12 _ _ ?_
  try clear hK12 K12
  refine qm ?_
  refine qg (fun K13 hK13=>?_)
  refine qi kz ?_
  simp[go_sem,c16]
  refine hK13 _ _ ?_
  try clear hK13 K13
  refine qj (b:=false) gz (fun h=>by cases h) (fun _=>?_)
  refine qg (fun K14 hK14=>?_)
  refine qi kz ?_
  simp[go_sem,c17]
  refine hK14 _ _ ?_
  try clear hK14 K14
  refine qj (b:=false) gz (fun h=>by cases h) (fun _=>?_)
  refine qg (fun K15 hK15=>?_)
  refine qi kz ?_
  simp[go_sem,c18]
  refine hK15 _ _ ?_
  try clear hK15 K15
  refine qj (b:=false) gz (fun h=>by cases h) (fun _=>?_)
  refine ql ?_
  refine hK11 _ _ ?_
  try clear hK11 K11
  refine qg (fun K16 hK16=>?_)
  refine qp kz ?_
  refine qH 3 (fun K17 hK17=>?_)
  simp[go_sem,e0]
  refine ⟨_,ct0,?_⟩
  rintro _ H4 hn4 ⟨rfl,gR4,hS4⟩
  have hS24:=hS3.trans hS4
  have hX4:GrN (fun z=>z<H.next) H4 x2 1 k (iV ds):=by
   rcases hX with h | ⟨q,h1,h2,h3,h4⟩
   ·exact .inl h
   ·exact .inr ⟨q,h1,h2,hS24.get h3 (fun e=>h1 (by rw[e]; exact hRl)),h4⟩
  have hSf:=hS.trans (hS24.mono fun z (hz:z<H.next/\z≠rb)=>hz.2)
  obtain ⟨H5,hap,hX5,hS45⟩:=jW (c:=s) hX4 (fun z hz=>Nat.lt_of_lt_of_le hz hSf.le) oz
  have hS5:=hSf.trans (hS45.mono fun z (hz:z<H.next/\z≠rb)=>hz.1)
  have gR5:=hS45.get gR4 hRl
  refine hK17 _ _ ?_
  clear hK17 K17
  simp[go_sem,e0]
  refine hK16 _ _ ?_
  try clear hK16 K16
  refine qg (fun K18 hK18=>?_)
  refine qg (fun K19 hK19=>?_)
  refine qi kz ?_
  simp[go_sem]
  refine hK19 _ _ ?_
  try clear hK19 K19
  refine qj (b:=false) gz (fun h=>by cases h) (fun _=>?_)
  refine ql ?_
  refine hK18 _ _ ?_
  try clear hK18 K18
  refine qg (fun K20 hK20=>?_)
  refine qg (fun K21 hK21=>?_)
  refine qi kz ?_
  simp[go_sem,w11]
  refine hK21 _ _ ?_
  try clear hK21 K21
  refine qg (fun K22 hK22=>?_)
  refine qi kz ?_
  simp[go_sem,e2,e8,hkl,w1,c1,w11]
  refine hK22 _ _ ?_
  try clear hK22 K22
  refine qj (b:=false) (by simp[go_sem,c1,w11]) (fun h=>by cases h) (fun _=>?_)
  refine ql ?_
  refine hK20 _ _ ?_
  try clear hK20 K20
  refine qg (fun K23 hK23=>?_)
  refine qi kz ?_
  simp[go_sem]
  refine hK23 _ _ ?_
  try clear hK23 K23
  refine qm ?_
  refine qC (Inv:=fun m1 env H6 => ∃ j:Nat,m1=1-j/\j<=1/\env 0 = .ptr ib 0/\env 1=tabA m/\env 2 = .int N/\env 11 = .int s/\env 70 = .int 1/\env 71 = .int j/\((j=0/\env 8=x2/\H6=H4)\/(j=1/\env 8 = .ms (H4.next+1) 0 (k+1) 1/\H6=H5))) ?_ (n:=1) (⟨0,rfl,oz,by simp[go_sem,e0],by simp[go_sem,e1],by simp[go_sem,e2],gz,gz,gz,.inl ⟨rfl,by simp[go_sem,e8],rfl⟩⟩)
  clear e0 e1 e2 e8
  rintro m1 env H6 ⟨j,rfl,hj1,e0,e1,e2,e11,e70,e71,hj⟩
  refine qg (fun K24 hK24=>?_)
  refine qi kz ?_
  simp[go_sem,e70,e71]
  refine hK24 _ _ ?_
  try clear hK24 K24
  refine qg (fun K25 hK25=>?_)
  refine qj (b:=decide ((j:Int)<1)) gz (fun hb9=>?_) (fun hb9=>?_)
  ·skip
   simp only[decide_eq_true_eq] at hb9
   obtain rfl:j=0:=oz
   rcases hj with ⟨_,e8,rfl⟩ | ⟨h,_⟩
   rotate_left
   ·omega
   refine ql ?_
   refine hK25 _ _ ?_
   try clear hK25 K25
   refine qg (fun K26 hK26=>?_)
   refine qm ?_
   refine qi kz ?_
   simp[go_sem,e8,e11,hap]
   refine hK26 _ _ ?_
   try clear hK26 K26
   refine qo (fun K27 hK27=>?_)
   refine qi kz ?_
   simp[go_sem,e71,w11]
   refine hK27 _ _ ?_
   exact ⟨0,oz,1,rfl,oz,by simp[go_sem,e0],by simp[go_sem,e1],by simp[go_sem,e2],by simp[go_sem,e11],by simp[go_sem,e70],gz,.inr ⟨rfl,gz,rfl⟩⟩
  ·skip
   simp only[decide_eq_false_iff_not] at hb9
   obtain ⟨e8,rfl⟩:env 8 = .ms (H4.next+1) 0 (k+1) 1/\H6=H5:=by
    rcases hj with ⟨h,_⟩ | ⟨_,h⟩
    ·omega
    ·exact h
   refine qy ?_
   exact ⟨r.length,by simp,ds ++ [s],r,p3,_,rfl,by rw[List.append_assoc]; exact hds,fun u hu=>hr u (.tail _ hu),hA3,hp3,hpe,e0,e1,e2,e8,by rw[hdl]; exact hX5,gR5,hS5⟩
 ·skip
  simp only[decide_eq_false_iff_not] at hb9
  obtain rfl:r = []:=by
   cases r with
   | nil=>rfl
   | cons s r2=>simp only[List.length_cons] at hlen; omega
  rw[List.append_nil] at hds
  have hkN:k=N:=by simp at hlen; omega
  refine qy ?_
  refine hK3 _ _ ?_
  try clear hK3 K3
  refine qg (fun K28 hK28=>?_)
  refine qi kz ?_
  simp[go_sem,e8]
  refine hK28 _ _ ?_
  try clear hK28 K28
  refine qx ?_
  simp only[go_sem]
  refine hR _ _ ?_
  rw[hkN,hds] at hX
  have hpe4:p2=PE:=hpe
  rw[hpe4] at gR2
  exact qmr hS hX (fun z hz=>hz.1) gz (fun y hy k=>jb ls k y hy) (fun H9 h9 h10=>⟨by unfold iA; rw[hN],h10.get gR2 hRl,h9⟩)
end Go.Proofs.YtfokgjhdndnnhaaGreatDoor
end W42S
set_option maxRecDepth 20000
noncomputable section W43S
namespace Go.Proofs.YtfokgjhdndnnhaaGreatDoor
open Go Go.Fl Go.Proofs
theorem start_p {S:Nat->Prop} {H:Heap} {x:AV} {h b:List UInt8} {mo:Nat} (hx:HistB S H x h) (hh:h.length<=32768) (hb:b.length<=100000):SCallsP Tryz.prog 26 [bA b,x,.int mo] H (fun r H' => ∃ ib,r = .ptr ib 0/\H.next<=ib/\InR (fun z=>z<H.next) H' ib b 0 h h.length mo/\Step (fun z=>z<H.next) H H'):=by
 have cc:=qdk (H:=H) (h:=h) oz hx
 obtain ⟨n,hn⟩ : ∃ z,h.length=z:=⟨_,rfl⟩
 rw[hn] at hh cc
 have wN:IntKind.i64.wrap ((n:Int)-32768)=(n:Int)-32768:=i64in _ oz oz
 have hmx:max ((n:Int)-32768) 0=0:=oz
 have hto:((n:Int)-32768).toNat=0:=oz
 have h00 : ∀ k:Nat,(0:Int)<=(k:Int):=fun k=>Int.natCast_nonneg k
 have hlc:=hx.len_cases
 rw[hn] at hlc
 refine qA (sz:=23) (Tryz.call26) Tryz.func26 rfl kz (fun R hR=>?_)
 refine qg (fun K1 hK1=>?_)
 refine qi kz ?_
 simp[go_sem]
 refine hK1 _ _ ?_
 try clear hK1 K1
 refine qg (fun K2 hK2=>?_)
 rcases hlc with ⟨rfl,hn0⟩ | ⟨q,o,rfl⟩
 ·skip
  have w0:IntKind.i64.wrap (-32768) = -32768:=rfl
  refine qp kz ?_
  refine qH 7 (fun K3 hK3=>?_)
  simp[go_sem,wN,hmx,hto,yC,w0]
  refine ⟨_,cc,?_⟩
  rintro y H1 hn1 ⟨hgr,hS1⟩
  have hgr0:=hgr
  have cr:=newR_p (H:=H1) hb
  refine hK3 _ _ ?_
  clear hK3 K3
  simp[go_sem,wN,hmx,hto,yC,w0]
  refine hK2 _ _ ?_
  try clear hK2 K2
  refine qg (fun K4 hK4=>?_)
  rcases hgr with ⟨rfl,hz,hz2⟩ | ⟨q9,hq1,rfl,hq2,hq3⟩
  ·skip
   refine qp kz ?_
   refine qH 2 (fun K5 hK5=>?_)
   simp[go_sem,hz]
   refine ⟨_,cr,?_⟩
   rintro _ H2 hn2 ⟨rb,rfl,hrb,gR,hS2⟩
   refine hK5 _ _ ?_
   clear hK5 K5
   simp[go_sem,hz]
   refine hK4 _ _ ?_
   try clear hK4 K4
   refine qx ?_
   simp only[go_sem]
   refine hR _ _ ?_
   have hS12:=hS1.trans (hS2.mono fun z hz=>Nat.lt_of_lt_of_le hz hS1.le)
   have hRl:=Heap.lt_of_get gR
   have hy1:=hgr0.fresh hrb
   have hy2:=hy1.keep (H':=H2) (fun q cs hq=>hS2.get hq (Heap.lt_of_get hq))
   obtain ⟨_,_,_,_,hylt⟩:=hy2.grown
   have hy3:=hy2.fresh (Nat.le_refl H2.next)
   have hv : ∀ v,(∀ z∈v,AV.Lt (H2.next+1) z)->Step (fun z=>z<H.next) H (H2.alloc v):=fun v hv=>hS12.alloc hv
   refine (hv _ ?_).retP (r:=.ptr H2.next 0) gz ⟨H2.next,rfl,hS12.le,⟨rb,_,by have:=hS12.le; omega,by have:=hS1.le; omega,oz,by rw[Heap.get_alloc,if_pos rfl,hn] <;> first | rfl | (rw[hz]; rfl),by rw[Heap.get_alloc,if_neg oz]; exact gR,?_,fun z hz=>by have:=hS12.le; rw[Heap.next_alloc]; omega⟩,hv _ ?_⟩ gz
   rotate_left
   ·try rw[hn]
    refine (hy3.keep (fun q cs hq=>by rw[Heap.get_alloc,if_neg (by have:=Heap.lt_of_get hq; omega)]; exact hq)).mono (fun z hz=>hz.elim (fun h=>.inl (.inl h)) (fun h=>h.elim (fun h=>.inr h) (fun h=>.inl (.inr h))))
   all_goals first | (simp[go_sem] at hylt |-; omega) | (simp[go_sem]; omega)
  ·skip
   refine qp kz ?_
   refine qH 2 (fun K6 hK6=>?_)
   simp[go_sem]
   refine ⟨_,cr,?_⟩
   rintro _ H2 hn2 ⟨rb,rfl,hrb,gR,hS2⟩
   refine hK6 _ _ ?_
   clear hK6 K6
   simp[go_sem]
   refine hK4 _ _ ?_
   try clear hK4 K4
   refine qx ?_
   simp only[go_sem]
   refine hR _ _ ?_
   have hS12:=hS1.trans (hS2.mono fun z hz=>Nat.lt_of_lt_of_le hz hS1.le)
   have hRl:=Heap.lt_of_get gR
   have hy1:=hgr0.fresh hrb
   have hy2:=hy1.keep (H':=H2) (fun q cs hq=>hS2.get hq (Heap.lt_of_get hq))
   obtain ⟨_,_,_,_,hylt⟩:=hy2.grown
   have hy3:=hy2.fresh (Nat.le_refl H2.next)
   have hv : ∀ v,(∀ z∈v,AV.Lt (H2.next+1) z)->Step (fun z=>z<H.next) H (H2.alloc v):=fun v hv=>hS12.alloc hv
   refine (hv _ ?_).retP (r:=.ptr H2.next 0) gz ⟨H2.next,rfl,hS12.le,⟨rb,_,by have:=hS12.le; omega,by have:=hS1.le; omega,oz,by rw[Heap.get_alloc,if_pos rfl,hn] <;> first | rfl | (rw[hz]; rfl),by rw[Heap.get_alloc,if_neg oz]; exact gR,?_,fun z hz=>by have:=hS12.le; rw[Heap.next_alloc]; omega⟩,hv _ ?_⟩ gz
   rotate_left
   ·try rw[hn]
    refine (hy3.keep (fun q cs hq=>by rw[Heap.get_alloc,if_neg (by have:=Heap.lt_of_get hq; omega)]; exact hq)).mono (fun z hz=>hz.elim (fun h=>.inl (.inl h)) (fun h=>h.elim (fun h=>.inr h) (fun h=>.inl (.inr h))))
   all_goals first | (simp[go_sem] at hylt |-; omega) | (simp[go_sem]; omega)
 ·skip
  refine qp kz ?_
  refine qH 7 (fun K7 hK7=>?_)
  simp[go_sem,wN,hmx,hto,yC]
  refine ⟨_,cc,?_⟩
  rintro y H1 hn1 ⟨hgr,hS1⟩
  have hgr0:=hgr
  have cr:=newR_p (H:=H1) hb
  refine hK7 _ _ ?_
  clear hK7 K7
  simp[go_sem,wN,hmx,hto,yC]
  refine hK2 _ _ ?_
  try clear hK2 K2
  refine qg (fun K8 hK8=>?_)
  rcases hgr with ⟨rfl,hz,hz2⟩ | ⟨q9,hq1,rfl,hq2,hq3⟩
  ·skip
   refine qp kz ?_
   refine qH 2 (fun K9 hK9=>?_)
   simp[go_sem,hz]
   refine ⟨_,cr,?_⟩
   rintro _ H2 hn2 ⟨rb,rfl,hrb,gR,hS2⟩
   refine hK9 _ _ ?_
   clear hK9 K9
   simp[go_sem,hz]
   refine hK8 _ _ ?_
   try clear hK8 K8
   refine qx ?_
   simp only[go_sem]
   refine hR _ _ ?_
   have hS12:=hS1.trans (hS2.mono fun z hz=>Nat.lt_of_lt_of_le hz hS1.le)
   have hRl:=Heap.lt_of_get gR
   have hy1:=hgr0.fresh hrb
   have hy2:=hy1.keep (H':=H2) (fun q cs hq=>hS2.get hq (Heap.lt_of_get hq))
   obtain ⟨_,_,_,_,hylt⟩:=hy2.grown
   have hy3:=hy2.fresh (Nat.le_refl H2.next)
   have hv : ∀ v,(∀ z∈v,AV.Lt (H2.next+1) z)->Step (fun z=>z<H.next) H (H2.alloc v):=fun v hv=>hS12.alloc hv
   refine (hv _ ?_).retP (r:=.ptr H2.next 0) gz ⟨H2.next,rfl,hS12.le,⟨rb,_,by have:=hS12.le; omega,by have:=hS1.le; omega,oz,by rw[Heap.get_alloc,if_pos rfl,hn] <;> first | rfl | (rw[hz]; rfl),by rw[Heap.get_alloc,if_neg oz]; exact gR,?_,fun z hz=>by have:=hS12.le; rw[Heap.next_alloc]; omega⟩,hv _ ?_⟩ gz
   rotate_left
   ·try rw[hn]
    refine (hy3.keep (fun q cs hq=>by rw[Heap.get_alloc,if_neg (by have:=Heap.lt_of_get hq; omega)]; exact hq)).mono (fun z hz=>hz.elim (fun h=>.inl (.inl h)) (fun h=>h.elim (fun h=>.inr h) (fun h=>.inl (.inr h))))
   all_goals first | (simp[go_sem] at hylt |-; omega) | (simp[go_sem]; omega)
  ·skip
   refine qp kz ?_
   refine qH 2 (fun K10 hK10=>?_)
   simp[go_sem]
   refine ⟨_,cr,?_⟩
   rintro _ H2 hn2 ⟨rb,rfl,hrb,gR,hS2⟩
   refine hK10 _ _ ?_
   clear hK10 K10
   simp[go_sem]
   refine hK8 _ _ ?_
   try clear hK8 K8
   refine qx ?_
   simp only[go_sem]
   refine hR _ _ ?_
   have hS12:=hS1.trans (hS2.mono fun z hz=>Nat.lt_of_lt_of_le hz hS1.le)
   have hRl:=Heap.lt_of_get gR
   have hy1:=hgr0.fresh hrb
   have hy2:=hy1.keep (H':=H2) (fun q cs hq=>hS2.get hq (Heap.lt_of_get hq))
   obtain ⟨_,_,_,_,hylt⟩:=hy2.grown
   have hy3:=hy2.fresh (Nat.le_refl H2.next)
   have hv : ∀ v,(∀ z∈v,AV.Lt (H2.next+1) z)->Step (fun z=>z<H.next) H (H2.alloc v):=fun v hv=>hS12.alloc hv
   refine (hv _ ?_).retP (r:=.ptr H2.next 0) gz ⟨H2.next,rfl,hS12.le,⟨rb,_,by have:=hS12.le; omega,by have:=hS1.le; omega,oz,by rw[Heap.get_alloc,if_pos rfl,hn] <;> first | rfl | (rw[hz]; rfl),by rw[Heap.get_alloc,if_neg oz]; exact gR,?_,fun z hz=>by have:=hS12.le; rw[Heap.next_alloc]; omega⟩,hv _ ?_⟩ gz
   rotate_left
   ·try rw[hn]
    refine (hy3.keep (fun q cs hq=>by rw[Heap.get_alloc,if_neg (by have:=Heap.lt_of_get hq; omega)]; exact hq)).mono (fun z hz=>hz.elim (fun h=>.inl (.inl h)) (fun h=>h.elim (fun h=>.inr h) (fun h=>.inl (.inr h))))
   all_goals first | (simp[go_sem] at hylt |-; omega) | (simp[go_sem]; omega)
end Go.Proofs.YtfokgjhdndnnhaaGreatDoor
end W43S
set_option maxRecDepth 20000
noncomputable section W44S
namespace Go.Proofs.YtfokgjhdndnnhaaGreatDoor
open Go Go.Fl Go.Proofs
theorem told_v {S:Nat->Prop} {H:Heap} {ib p fr mo:Nat} {b all:List UInt8} (hI:InR S H ib b p all fr mo) (hf:fr<=all.length) (hl:all.length<=1000000):SCallsP Tryz.prog 30 [.ptr ib 0] H (fun r H'=>r=bA (all.drop fr)/\Step (fun z=>z<H.next) H H'):=by
 obtain ⟨rb,x,nI,nR,ne,gI,gR,gX,hSn⟩:=hI
 obtain ⟨N,hN⟩ : ∃ z,all.length=z:=⟨_,rfl⟩
 rw[hN] at gX hf hl
 have h0:(0:Int)<=(fr:Int):=oz
 refine qA (sz:=13) (Tryz.call30) Tryz.func30 rfl kz (fun R hR=>?_)
 refine qg (fun K1 hK1=>?_)
 refine qi kz ?_
 simp[go_sem]
 refine hK1 _ _ ?_
 try clear hK1 K1
 refine qg (fun K2 hK2=>?_)
 rcases gX with ⟨rfl,hz,hz2⟩ | ⟨q,hq,rfl,gq,hq4⟩
 ·skip
  obtain rfl:fr=0:=oz
  refine yU (bf:=[0,1,3,7,0,16,48,112,255,511,1023]) 9 mixed kz kz kz (fun K99 hK99=>?_)
  simp[go_sem,gI,hf]
  refine hK99 _ _ ?_
  simp[go_sem]
  refine ⟨_,_,qfm _,?_⟩
  try simp[go_sem]
  refine hK2 _ _ ?_
  try clear hK2 K2
  refine qx ?_
  simp only[go_sem]
  refine hR _ _ ?_
  have hn0:all = []:=List.map_eq_nil_iff.1 hz2
  subst hn0
  exact qd4 (S:=fun z=>z<H.next) (Step.refl _ H) (GrN.nil _ _ 1) gz (by simp) (fun H9 h9=>⟨rfl,h9⟩)
 ·skip
  have hdl:(all.drop fr).length=N-fr:=by rw[List.length_drop,hN]
  have hpl:(bV (all.take fr)).length=fr:=by rw[qQ,List.length_take]; omega
  have gq2:H.get q=some (bV (all.take fr)++bV (all.drop fr)):=by rw[<- jF,List.take_append_drop]; exact gq
  have hcl:SCalls Tryz.prog 25 [.ms q fr (N-fr) 1] H (.ms (H.next+1) 0 (N-fr) 1) ((H.alloc []).regrow (some H.next) (bV (all.drop fr))):=by
   rcases Nat.eq_zero_or_pos (N-fr) with h | h
   ·have hd:all.drop fr = []:=List.eq_nil_of_length_eq_zero (by rw[hdl,h])
    rw[hd] at gq2 |-
    rw[h]
    exact qeg hpl gq2
   ·exact qfn hdl hpl h oz gq2
  refine yU (bf:=[0,1,3,7,0,16,48,112,255,511,1023]) 9 mixed kz kz kz (fun K99 hK99=>?_)
  simp[go_sem,gI,hf]
  refine hK99 _ _ ?_
  simp[go_sem]
  refine ⟨_,_,hcl,?_⟩
  try simp[go_sem]
  refine hK2 _ _ ?_
  try clear hK2 K2
  refine qx ?_
  simp only[go_sem]
  refine hR _ _ ?_
  have hS:Step (fun z=>z<H.next) H ((H.alloc []).regrow (some H.next) (bV (all.drop fr))):=((Step.refl (fun z=>z<H.next) H).alloc (by simp)).regrow (fun b hb=>by cases hb; exact Nat.lt_irrefl _) (ja _ _)
  have hg:=zf (H:=H.alloc []) (bo:=some H.next) (v:=bV (all.drop fr))
  rw[Heap.next_alloc] at hg
  exact qd4 (sz:=1) (n:=N-fr) hS (GrN.ms oz hg (by rw[qQ,hdl]; omega)) gz (fun y hy k=>ja _ k y hy) (fun H9 h9=>⟨by unfold bA; rw[hdl],h9⟩)
end Go.Proofs.YtfokgjhdndnnhaaGreatDoor
end W44S
