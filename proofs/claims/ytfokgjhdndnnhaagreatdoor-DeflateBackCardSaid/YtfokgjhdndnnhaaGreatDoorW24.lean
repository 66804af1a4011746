/- Contract: the lengths of own codes, written. -/
import Derived.Test.YtfokgjhdndnnhaaGreatDoorW23
set_option maxHeartbeats 2000000
set_option linter.unusedVariables false
set_option linter.unusedSimpArgs false
set_option maxRecDepth 20000
noncomputable section
namespace Go.Proofs.YtfokgjhdndnnhaaGreatDoor
open Go Go.Fl Go.Proofs
def allL (x y:List Nat):List Nat:=trimL x 257++trimL y 1
def cntL (l:List Nat):List Nat:=l.foldl bump1 (List.replicate 19 0)
def metaL (x y:List Nat):List Nat:=lensOf 7 (cntL (allL x y))
def ordL:List Nat:=[16,17,18,0,8,7,9,6,10,5,11,4,12,3,13,2,14,1,15]
def toldBits (x y:List Nat):List Bool:=natBits 5 ((trimL x 257).length-257)++(natBits 5 ((trimL y 1).length-1)++(natBits 4 15++((ordL.flatMap fun k=>natBits 3 ((metaL x y).getD k 0))++(allL x y).flatMap (symBits (metaL x y)))))
theorem zW {l:List Nat} {n:Nat} (h:n<=l.length):n<=(trimL l n).length/\(trimL l n).length<=l.length:=by
 unfold trimL
 obtain ⟨h1,h2,_⟩:=qam l n l.length
 have:=h2 h
 rw[List.length_take]
 omega
theorem qk2 {l:List Nat} {n B:Nat} (h : ∀ s,l.getD s 0<=B) : ∀ v∈trimL l n,v<=B:=by
 intro v hv
 obtain ⟨i,hi,rfl⟩:=List.mem_iff_getElem.1 hv
 have:=h i
 rw[<- jr l n i,qU hi] at this
 exact this
theorem qjm {x y:List Nat} {B:Nat} (hx : ∀ s,x.getD s 0<=B) (hy : ∀ s,y.getD s 0<=B) : ∀ v∈allL x y,v<=B:=by
 intro v hv
 rcases List.mem_append.1 hv with h | h
 ·exact qk2 hx v h
 ·exact qk2 hy v h
theorem qh6 : ∀ (l p:List Nat),(l.foldl bump1 p).length=p.length
 | [],_=>rfl
 | i::l,p=>by show (l.foldl bump1 (bump1 p i)).length=_; rw[qh6 l,qee]
theorem qk3 : ∀ (l p:List Nat) (j:Nat),p.getD j 0<=(l.foldl bump1 p).getD j 0
 | [],_,_=>Nat.le_refl _
 | i::l,p,j=>Nat.le_trans (qdh p i j) (qk3 l (bump1 p i) j)
theorem qk4 : ∀ (l p:List Nat) (j:Nat),(l.foldl bump1 p).getD j 0<=p.getD j 0+l.length
 | [],_,_=>Nat.le_refl _
 | i::l,p,j=>by
  have h1:=qk4 l (bump1 p i) j
  have h2:=qdi p i j
  simp only[List.foldl_cons,List.length_cons]
  omega
theorem qh7 : ∀ (l p:List Nat),(∀ v∈l,v<p.length) -> ∀ v∈l,0<(l.foldl bump1 p).getD v 0
 | [],_,_=>fun _ h=>by cases h
 | i::l,p,h=>by
  intro v hv
  rcases List.mem_cons.1 hv with rfl | hv
  ·refine Nat.lt_of_lt_of_le ?_ (qk3 l (bump1 p v) v)
   rw[qdg p v v (h v List.mem_cons_self),if_pos rfl]
   omega
  ·exact qh7 l (bump1 p i) (fun z hz=>by rw[qee]; exact h z (List.mem_cons_of_mem _ hz)) v hv
theorem zN (l:List Nat):(cntL l).length=19:=by unfold cntL; rw[qh6]; simp
theorem qol (l:List Nat) (j:Nat):(cntL l).getD j 0<=l.length:=by
 have:=qk4 l (List.replicate 19 0) j
 rw[jo] at this
 unfold cntL
 omega
theorem qom {l:List Nat} {i:Nat} (h:i<l.length):cntL (l.take (i+1))=bump1 (cntL (l.take i)) (l.getD i 0):=by
 unfold cntL
 rw[List.take_add_one,List.getElem?_eq_getElem h,List.foldl_append,qU h]
 rfl
theorem qgi {l:List Nat} (h : ∀ v∈l,v<19) : ∀ v∈l,0<(cntL l).getD v 0:=qh7 l _ (fun v hv=>by simpa using h v hv)
theorem qbu {most:Nat} {counts:List Nat} (h1:1<=most) (h2:most<=15) (h:nposL counts<=2^most) (hl:counts.length<=320):LensOk (lensOf most counts):=by
 have g:=zC h1 h2 h
 exact ⟨by rw[g.len]; omega,fun s=>Nat.le_trans (g.le s) h2,g.whole⟩
theorem jO {most:Nat} {counts:List Nat} (h1:1<=most) (h2:most<=15) (h:nposL counts<=2^most) {s:Nat} (hs:0<counts.getD s 0):0<(lensOf most counts).getD s 0 :=
 (zC h1 h2 h).pos s (qne.2 hs)
theorem npos19 (l:List Nat):nposL (cntL l)<=2^7:=by
 have:=qck (cntL l)
 rw[zN] at this
 omega
theorem New_H (lens:List Nat) (h0:0<lens.length) (hl:lens.length<=320) (hle : ∀ s,lens.getD s 0<=15) (hwh:WholeL lens) (H:Heap):SCalls Tryz.prog 71 [iA lens] H (.tup [tabA lens,.int 0]) H:=qO (New_s lens h0 hl hle hwh) (by simp[zI]) (by simp[go_sem,zT]) H
theorem Lengths_H (counts:List Nat) (most:Nat) (h0:0<counts.length) (hl:counts.length<=320) (hm1:1<=most) (hm2:most<=15) (hle : ∀ i,counts.getD i 0<=1073741824) (hnp:nposL counts<=2^most) (H:Heap):SCalls Tryz.prog 76 [iA counts,.int most] H (.tup [iA (lensOf most counts),.int 0]) H:=qO (Lengths_s counts most h0 hl hm1 hm2 hle hnp) (by simp[zI,go_sem]) (by simp[go_sem,zI]) H
theorem qh8 (l:List Nat) (k:Nat) (hk:0<k) (hkl:k<=l.length) (hl:l.length<=1000) (H:Heap):SCalls Tryz.prog 77 [iA l,.int k] H (iA (trimL l k)) H:=qO (qok l k hk hkl hl) (by simp[zI,go_sem]) (by simp[zI]) H
theorem qbv (f:Nat->List Bool) {l:List Nat} {i:Nat} (h:i<l.length):(l.take (i+1)).flatMap f=(l.take i).flatMap f++f (l.getD i 0):=by
 rw[List.take_add_one,List.getElem?_eq_getElem h,List.flatMap_append,qU h]
 simp
theorem jl (f:Nat->List Bool) (B:Nat) : ∀ (l:List Nat),(∀ v∈l,(f v).length<=B)->(l.flatMap f).length<=B*l.length
 | [],_=>by simp
 | x::l,h=>by
  rw[List.flatMap_cons,List.length_append,List.length_cons]
  have h1:=h x List.mem_cons_self
  have h2:=jl f B l fun v hv=>h v (List.mem_cons_of_mem _ hv)
  rw[Nat.mul_add]
  omega
theorem told_p {S:Nat->Prop} {w:Nat} {l:List Bool} {x y:List Nat} (hx:x.length=286) (hy:y.length=30) (hx15 : ∀ s,x.getD s 0<=15) (hy15 : ∀ s,y.getD s 0<=15) (hl:l.length+6000<=1073741824) {H:Heap} (hW:WrN S H w l):SCallsP Tryz.prog 47 [.ptr w 0,iA x,iA y] H (fun r H'=>r = .tup []/\WrN S H' w (l++toldBits x y)/\Step S H H'):=by
 have hgt:=zW (l:=x) (n:=257) oz
 have hgy:=zW (l:=y) (n:=1) oz
 have cx:=fun H=>qh8 x 257 oz oz oz H
 have cy:=fun H=>qh8 y 1 oz oz oz H
 have hav:=qjm hx15 hy15
 have hall:allL x y=trimL x 257++trimL y 1:=rfl
 have htb:toldBits x y=natBits 5 ((trimL x 257).length-257)++(natBits 5 ((trimL y 1).length-1)++(natBits 4 15++((ordL.flatMap fun k=>natBits 3 ((metaL x y).getD k 0))++(allL x y).flatMap (symBits (metaL x y))))):=rfl
 have hmq:metaL x y=lensOf 7 (cntL (allL x y)):=rfl
 obtain ⟨x1,hx1⟩ : ∃ z,trimL x 257=z:=⟨_,rfl⟩
 obtain ⟨y1,hy1⟩ : ∃ z,trimL y 1=z:=⟨_,rfl⟩
 obtain ⟨al,hal⟩ : ∃ z,allL x y=z:=⟨_,rfl⟩
 rw[hx1] at hgt cx hall htb
 rw[hy1] at hgy cy hall htb
 rw[hal] at hav hall htb hmq
 obtain ⟨n1,hn1⟩ : ∃ k,x1.length=k:=⟨_,rfl⟩
 obtain ⟨n2,hn2⟩ : ∃ k,y1.length=k:=⟨_,rfl⟩
 have hn:al.length=n1+n2:=by rw[hall,List.length_append,hn1,hn2]
 obtain ⟨n,hnq⟩ : ∃ k,n1+n2=k:=⟨_,rfl⟩
 rw[hnq] at hn
 rw[hn1] at hgt htb
 rw[hn2] at hgy htb
 unfold iA at cx cy
 rw[hx] at cx
 rw[hy] at cy
 rw[hn1] at cx
 rw[hn2] at cy
 have hgood:=zC (most:=7) (counts:=cntL al) dz dz (npos19 al)
 have hok:=qbu (most:=7) (counts:=cntL al) dz dz (npos19 al) (by rw[zN]; decide)
 have hpos:=fun v (hv:v∈al)=>jO (most:=7) (counts:=cntL al) dz dz (npos19 al) (qgi (fun z hz=>by have:=hav z hz; omega) v hv)
 have cL:=fun H=>Lengths_H (cntL al) 7 (by rw[zN]; decide) (by rw[zN]; decide) dz dz (fun i=>by have:=qol al i; omega) (npos19 al) H
 rw[<- hmq] at hgood hok hpos cL
 obtain ⟨ml,hml⟩ : ∃ z,metaL x y=z:=⟨_,rfl⟩
 rw[hml] at hgood hok hpos cL htb
 have hmll:ml.length=19:=by rw[hgood.len,zN]
 have cN:=fun H=>New_H ml oz oz hok.le hok.whole H
 unfold iA at cL cN
 rw[zN,hmll] at cL
 rw[hmll] at cN
 have hiL:(iV al).length=n:=by rw[qK,hn]
 have hmL:(iV ml).length=19:=by rw[qK,hmll]
 rw[htb]
 have hx1L:(iV x1).length=n1:=by rw[qK,hn1]
 have hy1L:(iV y1).length=n2:=by rw[qK,hn2]
 have ha1:=qL (P:=Tryz.prog) (H:=H) (s:=.nil) (x:=.vs n1 1 (iV x1)) (u:=84) tU84 tS3 tB3 tZ3 rfl (zl tU84 (by rw[qK]; omega)) (qbp (sz:=1)) oz oz (qdn x1)
 rw[Nat.zero_add,List.nil_append] at ha1
 have g1:(H.regrow none (iV x1)).get H.next=some (iV x1):=zf
 have ha2:=qL (P:=Tryz.prog) (H:=H.regrow none (iV x1)) (s:=.ms H.next 0 n1 1) (x:=.vs n2 1 (iV y1)) (u:=84) tU84 tS3 tB3 tZ3 rfl (zl tU84 (by rw[qK]; omega)) (grown_of (n:=n1) (sz:=1) g1 (by rw[qK]; omega)) oz oz (qdn y1)
 rw[hnq,<- qgv,<- hall,Heap.next_regrow] at ha2
 refine qA (sz:=86) (Tryz.call47) Tryz.func47 rfl kz (fun R hR=>?_)
 refine qg (fun K1 hK1=>?_)
 refine qi kz ?_
 refine qI 2 (fun K2 hK2=>?_)
 simp[go_sem,iA,hx,hy]
 refine ⟨_,_,cx _,?_⟩
 refine hK2 _ _ ?_
 clear hK2 K2
 refine qI 2 (fun K3 hK3=>?_)
 simp[go_sem,iA,hx,hy]
 refine ⟨_,_,cy _,?_⟩
 refine hK3 _ _ ?_
 clear hK3 K3
 simp[go_sem,iA,hx,hy]
 refine hK1 _ _ ?_
 try clear hK1 K1
 refine qw (fun env H2=>(env 0 = .ptr w 0/\env 1 = .vs n1 1 (iV x1)/\env 2 = .vs n2 1 (iV y1)/\env 6 = .ms (H.next+1) 0 n 1)/\H2.next=H.next+2/\H2.get (H.next+1)=some (iV al)/\Step (fun z=>z<H.next) H H2) ?_ ?_
 ·skip
  refine qo (fun K5 hK5=>?_)
  refine qi kz ?_
  simp[go_sem,ha1,ha2]
  refine hK5 _ _ ?_
  refine ⟨⟨gz,gz,gz,gz⟩,by rw[Heap.next_regrow,Heap.next_regrow],?_,?_⟩
  ·have:=zf (H:=H.regrow none (iV x1)) (bo:=some H.next) (v:=iV al)
   rw[Heap.next_regrow] at this
   exact this
  ·exact ((Step.refl _ _).regrow (fun b hb=>by cases hb) (jb _ _)).regrow (fun b hb=>by cases hb; exact Nat.lt_irrefl _) (jb _ _)
 rintro env H2 ⟨⟨e0,e1,e2,e6⟩,nH2,gal,hS⟩
 obtain ⟨Cn,hCn⟩ : ∃ z,H.next+2=z:=⟨_,rfl⟩
 rw[hCn] at nH2
 refine yu 6 (H.next+1) n 1 gal e6 (by rw[qK,hn]; omega) ?_
 refine qw (fun env H3=>(env 0 = .ptr w 0/\env 1 = .vs n1 1 (iV x1)/\env 2 = .vs n2 1 (iV y1)/\env 6 = .vs n 1 (iV al)/\env 7 = .ms Cn 0 19 1)/\H3.get Cn=some (iV (cntL []))/\Step (fun z=>z<H.next) H H3) ?_ ?_
 ·skip
  refine qo (fun K7 hK7=>?_)
  refine qi kz ?_
  simp[go_sem,qR]
  refine hK7 _ _ ?_
  have hdn:(H2.del (H.next+1)).next=Cn:=nH2
  refine ⟨⟨by simp[go_sem,e0],by simp[go_sem,e1],by simp[go_sem,e2],gz,by simp[go_sem,nH2]⟩,?_,?_⟩
  ·rw[Heap.get_alloc,if_pos hdn.symm]; first | rfl | (rw[qR]; rfl)
  ·exact (zH hS (by show ¬ (_<_); omega)).alloc (by first | exact jb _ _ | (rw[qR]; exact jb _ _))
 clear e0 e1 e2 e6 gal hS nH2
 rintro env H2 ⟨⟨e0,e1,e2,e6,e7⟩,gC,hS⟩
 refine qg (fun K8 hK8=>?_)
 refine qg (fun K9 hK9=>?_)
 refine qi kz ?_
 simp[go_sem,e6]
 refine hK9 _ _ ?_
 try clear hK9 K9
 refine qm ?_
 refine qC (Inv:=fun m0 env H2 => ∃ i:Nat,m0=n-i/\i<=n/\env 0 = .ptr w 0/\env 1 = .vs n1 1 (iV x1)/\env 2 = .vs n2 1 (iV y1)/\env 6 = .vs n 1 (iV al)/\env 7 = .ms Cn 0 19 1/\env 27 = .vs n 1 (iV al)/\env 28 = .int n/\env 29 = .int i/\H2.get Cn=some (iV (cntL (al.take i)))/\Step (fun z=>z<H.next) H H2) ?_ (n:=n) (⟨0,rfl,oz,by simp[go_sem,e0],by simp[go_sem,e1],by simp[go_sem,e2],by simp[go_sem,e6],by simp[go_sem,e7],gz,gz,gz,gC,hS⟩)
 clear e0 e1 e2 e6 e7 gC hS
 rintro m0 env H2 ⟨i,rfl,hi,e0,e1,e2,e6,e7,e27,e28,e29,gC,hS⟩
 refine qg (fun K10 hK10=>?_)
 refine qi kz ?_
 simp[go_sem,e28,e29]
 refine hK10 _ _ ?_
 try clear hK10 K10
 refine qg (fun K11 hK11=>?_)
 refine qj (b:=decide (i<n)) gz (fun hb=>?_) (fun hb=>?_)
 ·skip
  simp only[decide_eq_true_eq] at hb
  have hil:i<al.length:=oz
  obtain ⟨r,hdr⟩:=qX hil
  have hin:(i:Int)<n:=oz
  have hnx:=qom hil
  have hvm:al.getD i 0∈al:=by rw[qU hil]; exact List.getElem_mem hil
  have hv15:=hav _ hvm
  have hcl:=zN (al.take i)
  obtain ⟨v,hv⟩ : ∃ v,al.getD i 0=v:=⟨_,rfl⟩
  rw[hv] at hdr hnx hv15
  have hcb:=qol (al.take i) v
  rw[List.length_take] at hcb
  obtain ⟨cc,hcc⟩ : ∃ x,cntL (al.take i)=x:=⟨_,rfl⟩
  rw[hcc] at gC hnx hcl hcb
  have hs_a:v<cc.length:=oz
  obtain ⟨r_a,hd_a⟩:=qX hs_a
  obtain ⟨v_a,hv_a⟩ : ∃ z,cc.getD v 0=z:=⟨_,rfl⟩
  rw[hv_a] at hd_a hcb
  have hiv_a:=zA cc v hs_a (v_a+1)
  have hoL_a:(iV cc).length=19:=by rw[qK]; omega
  have hsi_a:(v:Int)<19:=oz
  have hs1_a:v+1<=19:=oz
  have hwv_a:=qF v_a oz
  push_cast at hiv_a
  have gC9:(H2.set Cn (iV (cc.set v (v_a+1)))).get Cn=some (iV (cntL (al.take (i+1)))):=by rw[Heap.get_set,if_pos rfl,gC,hnx]; unfold bump1; rw[hv_a]; rfl
  have hS9:=hS.set (b:=Cn) (v:=iV (cc.set v (v_a+1))) (by show ¬ (_<_); omega) (jb _ _)
  refine ql ?_
  refine hK11 _ _ ?_
  try clear hK11 K11
  refine qg (fun K12 hK12=>?_)
  refine qm ?_
  refine qg (fun K13 hK13=>?_)
  refine qi kz ?_
  simp[go_sem,e27,e29,hdr,hiL,hin]
  refine hK13 _ _ ?_
  try clear hK13 K13
  refine qi kz ?_
  simp[go_sem,e7,gC,hd_a,hoL_a,hsi_a,hs1_a,hwv_a,hiv_a]
  refine hK12 _ _ ?_
  try clear hK12 K12
  refine qo (fun K14 hK14=>?_)
  refine qi kz ?_
  simp[go_sem,e29]
  refine hK14 _ _ ?_
  have hw1:=qF i oz
  exact ⟨n-(i+1),oz,i+1,rfl,oz,by simp[go_sem,e0],by simp[go_sem,e1],by simp[go_sem,e2],by simp[go_sem,e6],by simp[go_sem,e7],by simp[go_sem,e27],by simp[go_sem,e28],by simp[go_sem,hw1],gC9,hS9⟩
 ·skip
  simp only[decide_eq_false_iff_not] at hb
  obtain rfl:n=i:=oz
  rw[List.take_of_length_le oz] at gC
  refine qy ?_
  refine hK8 _ _ ?_
  try clear hK8 K8
  refine qg (fun K15 hK15=>?_)
  refine yu 7 Cn 19 1 gC e7 (by rw[qK,zN]) ?_
  refine qi kz ?_
  refine qI 2 (fun K16 hK16=>?_)
  simp[go_sem]
  refine ⟨_,_,cL _,?_⟩
  refine hK16 _ _ ?_
  clear hK16 K16
  simp[go_sem]
  refine hK15 _ _ ?_
  try clear hK15 K15
  refine qw (fun env H2=>(env 0 = .ptr w 0/\env 6 = .vs n 1 (iV al)/\env 10 = .vs 19 1 (iV ml)/\env 12=tabA ml/\env 1 = .vs n1 1 (iV x1)/\env 2 = .vs n2 1 (iV y1))/\WrN S H2 w l/\Step S H H2) ?_ ?_
  ·skip
   refine qo (fun K18 hK18=>?_)
   refine qi kz ?_
   refine qI 2 (fun K19 hK19=>?_)
   simp[go_sem]
   refine ⟨_,_,cN _,?_⟩
   refine hK19 _ _ ?_
   clear hK19 K19
   simp[go_sem]
   refine hK18 _ _ ?_
   have hSn:=hW.choose_spec.2.2.2.2
   have hSd:=zH hS (b:=Cn) (by show ¬ (_<_); omega)
   exact ⟨⟨by simp[go_sem,e0],by simp[go_sem,e6],gz,by simp[go_sem,tabA],by simp[go_sem,e1],by simp[go_sem,e2]⟩,hW.keep hSd (fun b hb=>hb),hSd.mono hSn⟩
  clear e0 e1 e2 e6 e7 gC hS
  rintro env H2 ⟨⟨e0,e6,e10,e12,e1,e2⟩,hW2,hS⟩
  have cp1:=qar S w 5 (n1-257) l oz oz oz hW2
  have hw1:IntKind.i64.wrap ((n1:Int)-257)=((n1-257:Nat):Int):=by rw[i64in _ oz oz]; omega
  have hw2:IntKind.i64.wrap ((n2:Int)-1)=((n2-1:Nat):Int):=by rw[i64in _ oz oz]; omega
  refine qg (fun K20 hK20=>?_)
  refine qp kz ?_
  simp[go_sem,e0,e1,hw1]
  refine ⟨_,cp1,?_⟩
  rintro _ H3 hn3 ⟨rfl,hW3,hS3⟩
  obtain ⟨l3,hl3⟩ : ∃ z,l++natBits 5 (n1-257)=z:=⟨_,rfl⟩
  have hl3l:l3.length=l.length+5:=by rw[<- hl3,List.length_append,qB]
  rw[hl3] at hW3
  have cp2:=qar S w 5 (n2-1) l3 oz oz oz hW3
  refine hK20 _ _ ?_
  try clear hK20 K20
  refine qg (fun K22 hK22=>?_)
  refine qp kz ?_
  simp[go_sem,e0,e2,hw2]
  refine ⟨_,cp2,?_⟩
  rintro _ H4 hn4 ⟨rfl,hW4,hS4⟩
  obtain ⟨l4,hl4⟩ : ∃ z,l3++natBits 5 (n2-1)=z:=⟨_,rfl⟩
  have hl4l:l4.length=l.length+10:=by rw[<- hl4,List.length_append,qB] <;> omega
  rw[hl4] at hW4
  have cp3:=qar S w 4 15 l4 dz oz oz hW4
  refine hK22 _ _ ?_
  try clear hK22 K22
  refine qw (fun env H6=>(env 0 = .ptr w 0/\env 6 = .vs n 1 (iV al)/\env 10 = .vs 19 1 (iV ml)/\env 12=tabA ml)/\WrN S H6 w (l++(natBits 5 (n1-257)++(natBits 5 (n2-1)++natBits 4 15)))/\Step S H H6) ?_ ?_
  ·skip
   refine qo (fun K25 hK25=>?_)
   refine qp kz ?_
   simp[go_sem,e0]
   refine ⟨_,cp3,?_⟩
   rintro _ H5 hn5 ⟨rfl,hW5,hS5⟩
   obtain ⟨l5,hl5⟩ : ∃ z,l4++natBits 4 15=z:=⟨_,rfl⟩
   have hl5l:l5.length=l.length+14:=by rw[<- hl5,List.length_append,qB] <;> omega
   rw[hl5] at hW5
   refine hK25 _ _ ?_
   refine ⟨⟨by simp[go_sem,e0],by simp[go_sem,e6],by simp[go_sem,e10],by simp[go_sem,e12]⟩,?_,((hS.trans hS3).trans hS4).trans hS5⟩
   rw[<- hl5,<- hl4,<- hl3] at hW5
   simpa only [List.append_assoc] using hW5
  clear e0 e6 e10 e12 hS hW2
  rintro env H2 ⟨⟨e0,e6,e10,e12⟩,hW2,hS⟩
  obtain ⟨l6,hl6⟩ : ∃ z,l++(natBits 5 (n1-257)++(natBits 5 (n2-1)++natBits 4 15))=z:=⟨_,rfl⟩
  have hl6l:l6.length=l.length+14:=by rw[<- hl6]; simp only[List.length_append,qB] <;> omega
  rw[hl6] at hW2
  have hoL:(iV ordL).length=19:=rfl
  have hO19 : ∀ i,i<19->ordL.getD i 0<19:=dz
  have hSn:=hW.choose_spec.2.2.2.2
  refine qw (fun env H2=>(env 0 = .ptr w 0/\env 6 = .vs n 1 (iV al)/\env 10 = .vs 19 1 (iV ml)/\env 12=tabA ml)/\WrN S H2 w (l6++ordL.flatMap (fun k=>natBits 3 (ml.getD k 0)))/\Step S H H2) ?_ ?_
  ·skip
   refine qg (fun K28 hK28=>?_)
   refine qo (fun K99 hK99=>?_)
   refine qM kz ?_
   refine jE (.vs 19 1 (iV ordL)) ((H2.alloc (iV ordL)).del H2.next) rfl (jM kz rfl) ?_
   refine zJ ?_
   simp[go_sem]
   refine hK99 _ _ ?_
   refine hK28 _ _ ?_
   try clear hK28 K28
   refine qm ?_
   have hW2a:WrN S ((H2.alloc (iV ordL)).del H2.next) w (l6++(ordL.take 0).flatMap (fun k=>natBits 3 (ml.getD k 0))):=by simp only[List.take_zero,List.flatMap_nil,List.append_nil]; exact hW2.keep (zH ((Step.refl (fun z=>z<H2.next) _).alloc (jb _ _)) (Nat.lt_irrefl _)) (fun b hb=>hb)
   have hSa:Step S H ((H2.alloc (iV ordL)).del H2.next):=hS.trans ((zH ((Step.refl (fun z=>z<H2.next) _).alloc (jb _ _)) (Nat.lt_irrefl _)).mono fun b hb=>by have:=hSn b hb; have:=hS.le; show b<_; omega)
   refine qC (Inv:=fun m0 env H2 => ∃ i:Nat,m0=19-i/\i<=19/\env 0 = .ptr w 0/\env 6 = .vs n 1 (iV al)/\env 10 = .vs 19 1 (iV ml)/\env 12=tabA ml/\env 62 = .vs 19 1 (iV ordL)/\env 63 = .int 19/\env 64 = .int i/\WrN S H2 w (l6++(ordL.take i).flatMap (fun k=>natBits 3 (ml.getD k 0)))/\Step S H H2) ?_ (n:=19) (⟨0,rfl,oz,by simp[go_sem,e0],by simp[go_sem,e6],by simp[go_sem,e10],by simp[go_sem,e12],gz,gz,gz,hW2a,hSa⟩)
   clear e0 e6 e10 e12 hS hW2
   rintro m0 env H2 ⟨i,rfl,hi,e0,e6,e10,e12,e62,e63,e64,hW2,hS⟩
   refine qg (fun K29 hK29=>?_)
   refine qi kz ?_
   simp[go_sem,e63,e64]
   refine hK29 _ _ ?_
   try clear hK29 K29
   refine qg (fun K30 hK30=>?_)
   have h19i:((i:Int)<19)=(i<19):=propext ⟨fun h=>by omega,fun h=>by omega⟩
   refine qj (b:=decide (i<19)) (by simp[go_sem,h19i]) (fun hb=>?_) (fun hb=>?_)
   ·skip
    simp only[decide_eq_true_eq] at hb
    have hil:i<ordL.length:=hb
    obtain ⟨r,hdr⟩:=qX hil
    have hin:(i:Int)<19:=oz
    have hfx:=qbv (fun k=>natBits 3 (ml.getD k 0)) hil
    have hk19:=hO19 i hb
    obtain ⟨k,hk⟩ : ∃ v,ordL.getD i 0=v:=⟨_,rfl⟩
    rw[hk] at hdr hfx hk19
    obtain ⟨r2,hdm⟩:=qX (l:=ml) (i:=k) oz
    have hki:(k:Int)<19:=oz
    have hm7:=hgood.le k
    obtain ⟨v,hv⟩ : ∃ v,ml.getD k 0=v:=⟨_,rfl⟩
    rw[hv] at hdm hm7 hfx
    obtain ⟨lz,hlz⟩ : ∃ z,l6++(ordL.take i).flatMap (fun k=>natBits 3 (ml.getD k 0))=z:=⟨_,rfl⟩
    have hlzl:lz.length<=l.length+80:=by
     rw[<- hlz,List.length_append]
     have:=jl (fun k=>natBits 3 (ml.getD k 0)) 3 (ordL.take i) (fun v _=>by rw[qB]; omega)
     have h19:(ordL.take i).length<=19:=by rw[List.length_take]; omega
     omega
    have cp:=qar S w 3 v lz oz oz oz (by rw[<- hlz]; exact hW2)
    rw[<- hlz] at cp
    refine ql ?_
    refine hK30 _ _ ?_
    try clear hK30 K30
    refine qg (fun K31 hK31=>?_)
    refine qm ?_
    refine qg (fun K32 hK32=>?_)
    refine qi kz ?_
    simp[go_sem,e62,e64,hdr,hoL,hin]
    refine hK32 _ _ ?_
    try clear hK32 K32
    refine qp kz ?_
    simp[go_sem,e0,e10,hdm,hmL,hki]
    refine ⟨_,cp,?_⟩
    rintro _ H3 hn3 ⟨rfl,hW3,hS3⟩
    refine hK31 _ _ ?_
    try clear hK31 K31
    refine qo (fun K34 hK34=>?_)
    refine qi kz ?_
    simp[go_sem,e64]
    refine hK34 _ _ ?_
    have hw1:=qF i oz
    exact ⟨19-(i+1),oz,i+1,rfl,oz,by simp[go_sem,e0],by simp[go_sem,e6],by simp[go_sem,e10],by simp[go_sem,e12],by simp[go_sem,e62],by simp[go_sem,e63],by simp[go_sem,hw1],by rw[hfx,<- List.append_assoc]; exact hW3,hS.trans hS3⟩
   ·skip
    simp only[decide_eq_false_iff_not] at hb
    obtain rfl:i=19:=oz
    have hW7:WrN S H2 w (l6++ordL.flatMap (fun k=>natBits 3 (ml.getD k 0))):=hW2
    refine qy ?_
    exact ⟨⟨by simp[go_sem,e0],by simp[go_sem,e6],by simp[go_sem,e10],by simp[go_sem,e12]⟩,hW7,hS⟩
  clear e0 e6 e10 e12 hS hW2
  rintro env H2 ⟨⟨e0,e6,e10,e12⟩,hW2,hS⟩
  obtain ⟨l7,hl7⟩ : ∃ z,l6++ordL.flatMap (fun k=>natBits 3 (ml.getD k 0))=z:=⟨_,rfl⟩
  have hl7l:l7.length<=l.length+80:=by
   rw[<- hl7,List.length_append]
   have:=jl (fun k=>natBits 3 (ml.getD k 0)) 3 ordL (fun v _=>by rw[qB]; omega)
   have h19:ordL.length=19:=rfl
   omega
  rw[hl7] at hW2
  refine qg (fun K35 hK35=>?_)
  refine qi kz ?_
  simp[go_sem,e6]
  refine hK35 _ _ ?_
  try clear hK35 K35
  refine qm ?_
  refine qC (Inv:=fun m0 env H2 => ∃ i:Nat,m0=n-i/\i<=n/\env 0 = .ptr w 0/\env 12=tabA ml/\env 75 = .vs n 1 (iV al)/\env 76 = .int n/\env 77 = .int i/\WrN S H2 w (l7++(al.take i).flatMap (symBits ml))/\Step S H H2) ?_ (n:=n) (⟨0,rfl,oz,by simp[go_sem,e0],by simp[go_sem,e12],by simp[go_sem,e6],gz,gz,by simpa using hW2,hS⟩)
  clear e0 e6 e10 e12 hS hW2
  rintro m0 env H2 ⟨i,rfl,hi,e0,e12,e75,e76,e77,hW2,hS⟩
  refine qg (fun K36 hK36=>?_)
  refine qi kz ?_
  simp[go_sem,e76,e77]
  refine hK36 _ _ ?_
  try clear hK36 K36
  refine qg (fun K37 hK37=>?_)
  refine qj (b:=decide (i<n)) gz (fun hb=>?_) (fun hb=>?_)
  ·skip
   simp only[decide_eq_true_eq] at hb
   have hil:i<al.length:=oz
   obtain ⟨r,hdr⟩:=qX hil
   have hin:(i:Int)<n:=oz
   have hfx:=qbv (symBits ml) hil
   have hvm:al.getD i 0∈al:=by rw[qU hil]; exact List.getElem_mem hil
   have hvp:=hpos _ hvm
   obtain ⟨v,hv⟩ : ∃ v,al.getD i 0=v:=⟨_,rfl⟩
   rw[hv] at hdr hfx hvp
   obtain ⟨lz,hlz⟩ : ∃ z,l7++(al.take i).flatMap (symBits ml)=z:=⟨_,rfl⟩
   have hlzl:lz.length<=l.length+4900:=by
    rw[<- hlz,List.length_append]
    have:=jl (symBits ml) 15 (al.take i) (fun v _=>by rw[qN]; exact hok.le v)
    have h19:(al.take i).length<=n:=by rw[List.length_take]; omega
    omega
   have cp:=qg5 (s:=v) hok hvp (l:=lz) oz (by rw[<- hlz]; exact hW2)
   rw[<- hlz] at cp
   refine ql ?_
   refine hK37 _ _ ?_
   try clear hK37 K37
   refine qg (fun K38 hK38=>?_)
   refine qm ?_
   refine qg (fun K39 hK39=>?_)
   refine qi kz ?_
   simp[go_sem,e75,e77,hdr,hiL,hin]
   refine hK39 _ _ ?_
   try clear hK39 K39
   refine qp kz ?_
   simp[go_sem,e0,e12]
   refine ⟨_,cp,?_⟩
   rintro _ H3 hn3 ⟨rfl,hW3,hS3⟩
   refine hK38 _ _ ?_
   try clear hK38 K38
   refine qo (fun K41 hK41=>?_)
   refine qi kz ?_
   simp[go_sem,e77]
   refine hK41 _ _ ?_
   have hw1:=qF i oz
   exact ⟨n-(i+1),oz,i+1,rfl,oz,by simp[go_sem,e0],by simp[go_sem,e12],by simp[go_sem,e75],by simp[go_sem,e76],by simp[go_sem,hw1],by rw[hfx,<- List.append_assoc]; exact hW3,hS.trans hS3⟩
  ·skip
   simp only[decide_eq_false_iff_not] at hb
   obtain rfl:n=i:=oz
   rw[List.take_of_length_le oz] at hW2
   refine qy ?_
   refine hR _ _ ?_
   refine hS.retP (r:=.tup []) gz ⟨rfl,?_,hS⟩ gz
   rw[<- hl7,<- hl6] at hW2
   simpa only [List.append_assoc] using hW2
end Go.Proofs.YtfokgjhdndnnhaaGreatDoor
