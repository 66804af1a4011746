/- Contract: tokens. -/
import Derived.Test.YtfokgjhdndnnhaaGreatDoorW28
import Derived.Test.YtfokgjhdndnnhaaGreatDoorW8
set_option maxHeartbeats 2000000
set_option linter.unusedVariables false
set_option linter.unusedSimpArgs false
set_option maxRecDepth 20000
noncomputable section W29S
namespace Go.Proofs.YtfokgjhdndnnhaaGreatDoor
open Go Go.Fl Go.Proofs
theorem qch (all:Byt) : ∀ (n a:Nat) (seen:Seen),noteR all a (n+1) seen=noteS all (a+n) (noteR all a n seen)
 | 0,_,_=>rfl
 | n+1,a,seen=>by
  show noteR all (a+1) (n+1) (noteS all a seen)=noteS all (a+(n+1)) (noteR all (a+1) n (noteS all a seen))
  rw[qch all n (a+1) (noteS all a seen),show a+1+n=a+(n+1) by omega]
theorem ql3 {all:Byt} {f k:Nat} {seen:Seen} (h : ¬ k<all.length):tokGo all f k seen = []:=by
 cases f with
 | zero=>rfl
 | succ f=>simp only[tokGo]; rw[if_neg h]
theorem ql4 {all:Byt} {f k:Nat} {seen:Seen} (h:k<all.length):tokGo all (f+1) k seen=tokAt all k seen::tokGo all f (k+(tokAt all k seen).len) (noteR all k (tokAt all k seen).len seen):=by simp only[tokGo]; rw[if_pos h]
theorem ql5 {all:Byt} {k:Nat} {seen:Seen} {p n:Nat} (h1:k+3<=all.length) (h2:seen (hashAt all k)=p+1) (h3:k-p<=32768) (h4:sameN all p k=n) (h5:3<=n):tokAt all k seen=⟨0,n,k-p⟩:=by
 unfold tokAt
 have e:seen (hashAt all k)-1=p:=oz
 rw[e,h4,if_pos ⟨h1,oz,h3,h5⟩]
theorem qbq {all:Byt} {k:Nat} {seen:Seen} (h : ¬ (k+3<=all.length/\1<=seen (hashAt all k)/\k-(seen (hashAt all k)-1)<=32768/\3<=sameN all (seen (hashAt all k)-1) k)):tokAt all k seen=⟨gB all k,1,0⟩:=by
 unfold tokAt
 rw[if_neg h]
theorem appT {H:Heap} {x:AV} {n:Nat} {cs:List AV} {bo:Option Nat} (t:Tok) (hg:grown H 3 x=some (n,cs,bo)) (hn:n<=100000000):aappend Tryz.prog (H.alloc (tokC t)) 73 73 x (.ms H.next 0 1 3)=some (.ms (H.next+1) 0 (n+1) 3,(H.alloc (tokC t)).regrow bo (cs++tokC t)) /\
  grown ((H.alloc (tokC t)).regrow bo (cs++tokC t)) 3 (.ms (H.next+1) 0 (n+1) 3)=some (n+1,cs++tokC t,some (H.next+1)) :=
 qf2 (P:=Tryz.prog) (new:=tokC t) tU73 tS121 tB121 tZ121 rfl rfl rfl hg oz oz
theorem tV_snoc (l:List Tok) (t:Tok):tV (l ++ [t])=tV l++tokC t:=by simp[tV]
theorem qd3 {P:Program} {o:Oper} {env:Env} {H:Heap} {x:AV} {H1:Heap} (h:aop P o (aev env) H=some (x,H1)):OpSem P o env H x H1:=by
 intro ρ I w a hr hv K Q hK
 have key:StepP P o env H (fun z Z=>z=x/\Z=H1):=by
  unfold StepP
  split
  ·rename_i f args argTypes hop
   unfold aop at h
   rw[hop] at h
   simp at h
  ·exact ⟨x,H1,h,rfl,rfl⟩
 refine StepP_run key hr hv ?_
 rintro _ _ v w' ρ' I' _ ⟨he1,he2⟩ h2 h3 h4
 rw[he1] at h2
 rw[he2] at h3
 exact hK v w' ρ' I' h2 h3 h4
theorem TkH.keepS {S:Nat->Prop} {H H' : Heap} {AB SB PB Q SN:Nat} {all:List UInt8} {seen:Seen} (h:TkH H AB SB PB Q SN all seen) (hk:Step S H H') (hs:S AB/\S SB/\S PB/\S Q/\S SN):TkH H' AB SB PB Q SN all seen:=by
 obtain ⟨SL,h1,h2,h3⟩:=h.sn
 exact ⟨hk.get h.ab hs.1,hk.get h.sb hs.2.1,hk.get h.pb hs.2.2.1,hk.get h.q hs.2.2.2.1,⟨SL,hk.get h1 hs.2.2.2.2,h2,h3⟩,h.ne,h.bound,h.len⟩
theorem GrN.keepN {S:Nat->Prop} {H H' : Heap} {x:AV} {sz n:Nat} {cs:List AV} (h:GrN S H x sz n cs) (hk : ∀ q,¬ S q -> ∀ c,H.get q=some c->H'.get q=some c):GrN S H' x sz n cs:=by
 rcases h with h | ⟨q,h1,h2,h3,h4⟩
 ·exact .inl h
 ·exact .inr ⟨q,h1,h2,hk q h1 _ h3,h4⟩
theorem GrN.fresh {S:Nat->Prop} {H:Heap} {x:AV} {sz n:Nat} {cs:List AV} (h:GrN S H x sz n cs) {T:Nat} (hT:H.next<=T):GrN (fun z=>S z\/z=T) H x sz n cs:=by
 rcases h with h | ⟨q,h1,h2,h3,h4⟩
 ·exact .inl h
 ·exact .inr ⟨q,fun e=>e.elim h1 (fun e=>by have:=Heap.lt_of_get h3; omega),h2,h3,h4⟩
theorem GrN.mono {S S' : Nat->Prop} {H:Heap} {x:AV} {sz n:Nat} {cs:List AV} (h:GrN S H x sz n cs) (hs : ∀ z,S' z->S z):GrN S' H x sz n cs:=by
 rcases h with h | ⟨q,h1,h2,h3,h4⟩
 ·exact .inl h
 ·exact .inr ⟨q,fun e=>h1 (hs _ e),h2,h3,h4⟩
theorem qd4 {P:Program} {fn:Func} {S:Nat->Prop} {H:Heap} {env:Env} {H1:Heap} {x:AV} {sz n:Nat} {cs:List AV} {post:AV->Heap->Prop} (h:Step S H H1) (hg:GrN S H1 x sz n cs) (h1:aresults P fn env H1=some x) (hc : ∀ y∈cs,∀ k,y.Lt k) (hp : ∀ H',Step S H H' -> post (.vs n sz cs) H'):RetP P fn H env H1 post:=by
 obtain ⟨bo,hgr,hbo,_⟩:=hg.grown
 have hs:Step S H (H1.delo bo):=h.del hbo
 refine ⟨.vs n sz cs,H1.delo bo,hp _ hs,⟨x,h1,?_⟩,H1.delo_le bo,hs.le,by rw[Heap.delo_next]; exact Nat.le_refl _,.vs fun y hy=>hc y hy _,hs.cont⟩
 refine jh hgr fun b hb=>?_
 subst hb
 show (H1.del b).get b=none
 rw[Heap.get_del,if_pos rfl]
theorem tokens_p {S:Nat->Prop} {x:AV} {h b:List UInt8} (h0:0<b.length) (hh:h.length<=40000) (hb:b.length<=10000) {H:Heap} (hx:HistB S H x h):SCallsP Tryz.prog 37 [x,bA b] H (fun r H'=>r=tA (tokensL h b)/\Step (fun b=>b<H.next) H H'):=by
 obtain ⟨bn,hbn⟩ : ∃ k,b.length=k:=⟨_,rfl⟩
 obtain ⟨hn,hhn⟩ : ∃ k,h.length=k:=⟨_,rfl⟩
 have cc:=qdk (H:=H) (S:=S) (h:=h) oz hx
 have hbL:(bV b).length=bn:=by rw[qQ,hbn]
 obtain ⟨all,hall⟩ : ∃ z,h++b=z:=⟨_,rfl⟩
 have hal:bV h++bV b=bV all:=by rw[<- jF,hall]
 obtain ⟨N,hN⟩ : ∃ k,hn+bn=k:=⟨_,rfl⟩
 have halll:all.length=N:=by rw[<- hall,List.length_append,hhn,hbn,hN]
 have htk:tokensL h b=tokGo all bn hn (noteR all 0 hn fun _=>0):=by unfold tokensL; rw[hall,hhn,hbn]
 rw[htk]
 have haL:(bV all).length=N:=by rw[qQ,halll]
 have hxlen:(x = .nil/\hn=0) \/ ∃ q o,x = .ms q o hn 1:=by
  rcases hx with ⟨e1,e2⟩ | ⟨q,pre,_,e1,_⟩
  ·exact .inl ⟨e1,by rw[<- hhn,e2]; rfl⟩
  ·exact .inr ⟨q,pre.length,by rw[e1,hhn]⟩
 obtain ⟨Z,hZ⟩ : ∃ Z,zrep [.int 0] 32768=Z:=⟨_,rfl⟩
 have hZ2:iV (List.replicate 32768 0)=Z:=by rw[<- hZ,qR]
 refine qA (sz:=89) (Tryz.call37) Tryz.func37 rfl kz (fun R hR=>?_)
 refine qg (fun K1 hK1=>?_)
 refine qi kz ?_
 simp[go_sem]
 refine hK1 _ _ ?_
 try clear hK1 K1
 refine qw (fun env H2 => ∃ AB Q,(env 0=x/\env 5 = .ptr AB 0)/\H2.get AB=some [.ms Q 0 N 1]/\H2.get Q=some (bV all)/\Q<AB/\H.next<=Q/\Step (fun b=>b<H.next) H H2) ?_ ?_
 ·skip
  refine qo (fun K3 hK3=>?_)
  refine qp kz ?_
  refine qH 2 (fun K4 hK4=>?_)
  simp[go_sem,bA,hbn]
  refine ⟨_,cc,?_⟩
  rintro r1 H1 hn1 ⟨hgr,hS1⟩
  obtain ⟨bo,hg,hbo,_,hlt1⟩:=hgr.grown
  rw[hhn] at hg
  have ha:=qL (P:=Tryz.prog) (H:=H1) (x:=.vs b.length 1 (bV b)) (u:=25) tU25 tS5 tB5 tZ5 rfl (zl tU25 (by rw[qQ]; omega)) hg oz oz (yc b)
  rw[hbn,hal,hN] at ha
  refine hK4 _ _ ?_
  clear hK4 K4
  simp[go_sem,bA,hbn]
  rw[ha]
  simp[go_sem]
  refine hK3 _ _ ?_
  refine ⟨H1.next+1,H1.next,⟨gz,gz⟩,gz,?_,oz,hn1,?_⟩
  ·have:=zf (H:=H1) (bo:=bo) (v:=bV all)
   simp[go_sem]
   exact this
  ·exact ((hS1.regrow hbo (ja _ _)).alloc gz).set (by show ¬ (_<_); omega) (by simp[go_sem]; omega)
 rintro env H2 ⟨AB,Q,⟨e0,e5⟩,gA,gQ,hQA,hQ0,hS⟩
 refine qw (fun env H3 => ∃ SB SN,(env 0=x/\env 5 = .ptr AB 0/\env 6 = .ptr SB 0)/\H3.get AB=some [.ms Q 0 N 1]/\H3.get Q=some (bV all)/\H3.get SB=some [.ms SN 0 32768 1]/\H3.get SN=some Z/\AB<SN/\SN<SB/\SB<H3.next/\Step (fun b=>b<H.next) H H3) ?_ ?_
 ·skip
  refine qo (fun K99 hK99=>?_)
  refine qM kz ?_
  refine jE (.ms H2.next 0 32768 1) (H2.alloc Z) rfl (by rw[<- hZ]; exact qd3 kz) ?_
  refine zJ ?_
  simp[go_sem]
  refine hK99 _ _ ?_
  have hAn:=Heap.lt_of_get gA
  have hQn:=Heap.lt_of_get gQ
  have hSl:=hS.le
  refine ⟨H2.next+1,H2.next,⟨by simp[go_sem,e0],by simp[go_sem,e5],gz⟩,?_,?_,gz,?_,oz,oz,gz,?_⟩
  ·rw[Heap.get_set,if_neg oz,Heap.get_alloc,if_neg (by rw[Heap.next_alloc]; omega),Heap.get_alloc,if_neg oz]; exact gA
  ·rw[Heap.get_set,if_neg oz,Heap.get_alloc,if_neg (by rw[Heap.next_alloc]; omega),Heap.get_alloc,if_neg oz]; exact gQ
  ·rw[Heap.get_set,if_neg oz,Heap.get_alloc,if_neg (by rw[Heap.next_alloc]; omega),Heap.get_alloc,if_pos rfl]
  ·exact ((hS.alloc (by rw[<- hZ2]; exact jb _ _)).alloc gz).set (by show ¬ (_<_); omega) (by simp[go_sem]; omega)
 clear e0 e5 gA gQ hS
 rintro env H2 ⟨SB,SN,⟨e0,e5,e6⟩,gA,gQ,gS,gN,o1,o2,o3,hS⟩
 refine qw (fun env H3 => ∃ PB,(env 0=x/\env 5 = .ptr AB 0/\env 7 = .ptr PB 0)/\TkH H3 AB SB PB Q SN all (fun _=>0)/\SB<PB/\Step (fun b=>b<H.next) H H3) ?_ ?_
 ·skip
  refine qo (fun K7 hK7=>?_)
  refine qi kz ?_
  simp[go_sem,e5,e6]
  refine hK7 _ _ ?_
  have hSl:=hS.le
  refine ⟨H2.next,⟨by simp[go_sem,e0],by simp[go_sem,e5],gz⟩,⟨?_,?_,gz,?_,⟨List.replicate 32768 0,?_,by rw[List.length_replicate],fun y hy=>jo _ _⟩,⟨oz,oz,oz,oz⟩,fun y=>Nat.zero_le _,oz⟩,o3,?_⟩
  ·rw[Heap.get_set,if_neg oz,Heap.get_alloc,if_neg oz,halll]; exact gA
  ·rw[Heap.get_set,if_neg oz,Heap.get_alloc,if_neg oz]; exact gS
  ·rw[Heap.get_set,if_neg oz,Heap.get_alloc,if_neg oz]; exact gQ
  ·rw[Heap.get_set,if_neg oz,Heap.get_alloc,if_neg oz,hZ2]; exact gN
  ·exact (hS.alloc gz).set (by show ¬ (_<_); omega) (by simp[go_sem]; omega)
 have hRSN:H.next<=SN:=oz
 clear e0 e5 e6 gA gQ gS gN hS
 rintro env H2 ⟨PB,⟨e0,e5,e7⟩,hT,o4,hS⟩
 refine qg (fun K8 hK8=>?_)
 refine qi kz ?_
 simp[go_sem,e5,e7]
 refine hK8 _ _ ?_
 try clear hK8 K8
 refine qw (fun env H3=>(env 5 = .ptr AB 0/\env 7 = .ptr PB 0/\env 8 = .fn (.func 66) [] [.ptr AB 0,.ptr PB 0]/\env 9 = .fn (.func 67) [] [.ptr AB 0]/\env 0=x)/\H2=H3) ?_ ?_
 ·skip
  refine qo (fun K10 hK10=>?_)
  refine qi kz ?_
  simp[go_sem,e5]
  refine hK10 _ _ ?_
  exact ⟨⟨by simp[go_sem,e5],by simp[go_sem,e7],gz,gz,by simp[go_sem,e0]⟩,rfl⟩
 clear e0 e5 e7
 rintro env _ ⟨⟨e5,e7,e8,e9,e0⟩,rfl⟩
 refine qw (fun env H3=>(env 5 = .ptr AB 0/\env 7 = .ptr PB 0/\env 8 = .fn (.func 66) [] [.ptr AB 0,.ptr PB 0]/\env 9 = .fn (.func 67) [] [.ptr AB 0]/\env 0=x)/\TkH H3 AB SB PB Q SN all (noteR all 0 hn fun _=>0)/\Step (fun b=>b<H.next) H H3) ?_ ?_
 ·skip
  refine qw (fun env H3=>(env 5 = .ptr AB 0/\env 7 = .ptr PB 0/\env 8 = .fn (.func 66) [] [.ptr AB 0,.ptr PB 0]/\env 9 = .fn (.func 67) [] [.ptr AB 0]/\env 0=x/\env 25 = .int hn/\env 26 = .int 0)/\H2=H3) ?_ ?_
  ·skip
   rcases hxlen with ⟨rfl,rfl⟩ | ⟨q,o,rfl⟩
   skip
   ·skip
    refine qo (fun K13 hK13=>?_)
    refine qi kz ?_
    simp[go_sem,e0]
    refine hK13 _ _ ?_
    exact ⟨⟨by simp[go_sem,e5],by simp[go_sem,e7],by simp[go_sem,e8],by simp[go_sem,e9],by simp[go_sem,e0],gz,gz⟩,rfl⟩
   ·skip
    refine qo (fun K14 hK14=>?_)
    refine qi kz ?_
    simp[go_sem,e0]
    refine hK14 _ _ ?_
    exact ⟨⟨by simp[go_sem,e5],by simp[go_sem,e7],by simp[go_sem,e8],by simp[go_sem,e9],by simp[go_sem,e0],gz,gz⟩,rfl⟩
  clear e5 e7 e8 e9 e0
  rintro env _ ⟨⟨e5,e7,e8,e9,e0,e25,e26⟩,rfl⟩
  refine qm ?_
  refine qC (Inv:=fun m0 env H2 => ∃ i:Nat,m0=hn-i/\i<=hn/\env 5 = .ptr AB 0/\env 7 = .ptr PB 0/\env 8 = .fn (.func 66) [] [.ptr AB 0,.ptr PB 0]/\env 9 = .fn (.func 67) [] [.ptr AB 0]/\env 0=x/\env 25 = .int hn/\env 26 = .int i/\TkH H2 AB SB PB Q SN all (noteR all 0 i fun _=>0)/\Step (fun b=>b<H.next) H H2) ?_ (n:=hn) (⟨0,rfl,oz,by simp[go_sem,e5],by simp[go_sem,e7],by simp[go_sem,e8],by simp[go_sem,e9],e0,e25,e26,hT,hS⟩)
  clear e5 e7 e8 e9 e0 e25 e26 hT hS
  rintro m0 env H2 ⟨i,rfl,hi,e5,e7,e8,e9,e0,e25,e26,hT,hS⟩
  refine qg (fun K15 hK15=>?_)
  refine qi kz ?_
  simp[go_sem,e25,e26]
  refine hK15 _ _ ?_
  try clear hK15 K15
  refine qg (fun K16 hK16=>?_)
  refine qj (b:=decide (i<hn)) gz (fun hb=>?_) (fun hb=>?_)
  ·skip
   simp only[decide_eq_true_eq] at hb
   have cp:=note_p (k:=i) hT oz
   refine ql ?_
   refine hK16 _ _ ?_
   try clear hK16 K16
   refine qg (fun K17 hK17=>?_)
   refine qm ?_
   refine qg (fun K18 hK18=>?_)
   refine qi kz ?_
   simp[go_sem,e26]
   refine hK18 _ _ ?_
   try clear hK18 K18
   refine qp kz ?_
   simp[go_sem,e8]
   refine ⟨_,cp,?_⟩
   rintro _ H3 hn3 ⟨rfl,hT3,hS3⟩
   have hS9:Step (fun b=>b<H.next) H H3:=hS.trans (hS3.mono fun z hz=>by show z≠SN; have h9:z<H.next:=hz; omega)
   refine hK17 _ _ ?_
   try clear hK17 K17
   refine qo (fun K20 hK20=>?_)
   refine qi kz ?_
   simp[go_sem,e26]
   refine hK20 _ _ ?_
   have hw1:=qF i oz
   exact ⟨hn-(i+1),oz,i+1,rfl,oz,by simp[go_sem,e5],by simp[go_sem,e7],by simp[go_sem,e8],by simp[go_sem,e9],by simp[go_sem,e0],by simp[go_sem,e25],by simp[go_sem,hw1],by rw[qch,Nat.zero_add]; exact hT3,hS9⟩
  ·skip
   simp only[decide_eq_false_iff_not] at hb
   obtain rfl:hn=i:=oz
   refine qy ?_
   exact ⟨⟨by simp[go_sem,e5],by simp[go_sem,e7],by simp[go_sem,e8],by simp[go_sem,e9],by simp[go_sem,e0]⟩,hT,hS⟩
 clear e5 e7 e8 e9 e0 hT hS
 rintro env H2 ⟨⟨e5,e7,e8,e9,e0⟩,hT,hS⟩
 refine qg (fun K21 hK21=>?_)
 refine qi kz ?_
 simp[go_sem]
 refine hK21 _ _ ?_
 try clear hK21 K21
 refine qg (fun K22 hK22=>?_)
 refine qw (fun env H3=>(env 5 = .ptr AB 0/\env 7 = .ptr PB 0/\env 8 = .fn (.func 66) [] [.ptr AB 0,.ptr PB 0]/\env 9 = .fn (.func 67) [] [.ptr AB 0]/\env 11 = .nil/\env 12 = .int hn)/\H2=H3) ?_ ?_
 ·skip
  rcases hxlen with ⟨rfl,rfl⟩ | ⟨q,o,rfl⟩
  skip
  ·skip
   refine qo (fun K24 hK24=>?_)
   refine qi kz ?_
   simp[go_sem,e0]
   refine hK24 _ _ ?_
   exact ⟨⟨by simp[go_sem,e5],by simp[go_sem,e7],by simp[go_sem,e8],by simp[go_sem,e9],gz,gz⟩,rfl⟩
  ·skip
   refine qo (fun K25 hK25=>?_)
   refine qi kz ?_
   simp[go_sem,e0]
   refine hK25 _ _ ?_
   exact ⟨⟨by simp[go_sem,e5],by simp[go_sem,e7],by simp[go_sem,e8],by simp[go_sem,e9],gz,gz⟩,rfl⟩
 clear e5 e7 e8 e9 e0
 rintro env _ ⟨⟨e5,e7,e8,e9,e11,e12⟩,rfl⟩
 refine qm ?_
 refine qC (Inv:=fun m0 env H2 => ∃ (k f:Nat) (seen:Seen) (l:List Tok) (xr:AV),m0=N-k/\hn<=k/\k<=N/\N<=k+f/\env 5 = .ptr AB 0/\env 7 = .ptr PB 0/\env 8 = .fn (.func 66) [] [.ptr AB 0,.ptr PB 0]/\env 9 = .fn (.func 67) [] [.ptr AB 0]/\env 11=xr/\env 12 = .int k/\GrN (fun z=>z<H.next\/z=AB\/z=SB\/z=PB\/z=Q\/z=SN) H2 xr 3 l.length (tV l)/\tokGo all bn hn (noteR all 0 hn fun _=>0)=l++tokGo all f k seen/\TkH H2 AB SB PB Q SN all seen/\(∀ y,seen y<=k)/\Step (fun b=>b<H.next) H H2/\l.length<=k) ?_ (n:=N-hn) (⟨hn,bn,_,[],.nil,rfl,Nat.le_refl _,oz,oz,e5,e7,e8,e9,e11,e12,GrN.nil _ _ _,rfl,hT,fun y=>by have:=qbh all hn 0 (fun _=>0) (fun _=>Nat.le_refl _) y; omega,hS,Nat.zero_le _⟩)
 clear e5 e7 e8 e9 e11 e12 hT hS
 rintro m0 env H2 ⟨k,f,seen,l,xr,rfl,hhk,hkN,hkf,e5,e7,e8,e9,e11,e12,hgr,htg,hT,hsk,hS,hlk⟩
 have hT0:=hT
 obtain ⟨gA,gS,gP,gQ,⟨SL,gN,hSL,hSLv⟩,_,_,_⟩:=hT0
 rw[halll] at gA
 refine qg (fun K26 hK26=>?_)
 refine qg (fun K27 hK27=>?_)
 refine qi kz ?_
 simp[go_sem,e5,e12,gA]
 refine hK27 _ _ ?_
 try clear hK27 K27
 refine qj (b:=decide (k<N)) gz (fun hb=>?_) (fun hb=>?_)
 ·skip
  simp only[decide_eq_true_eq] at hb
  obtain ⟨f,rfl⟩ : ∃ z,f=z+1:=⟨f-1,oz⟩
  obtain ⟨r_0,d_0⟩:=yA (l:=all) (i:=k) oz
  have hki:(k:Int)<N:=oz
  have hk1:k+1<=N:=oz
  have htg2:=ql4 (f:=f) (seen:=seen) (show k<all.length by omega)
  have htsp:=qe3 all k seen oz hsk
  obtain ⟨tk,htkq⟩ : ∃ z,tokAt all k seen=z:=⟨_,rfl⟩
  rw[htkq] at htg2 htsp
  obtain ⟨hok,htN,_,ht1⟩:=htsp
  rw[halll] at htN
  obtain ⟨c0,hc0⟩ : ∃ z,gB all k=z:=⟨_,rfl⟩
  rw[hc0] at d_0
  have hSl:=hS.le
  refine ql ?_
  refine hK26 _ _ ?_
  try clear hK26 K26
  refine qm ?_
  refine qw (fun env H3 => ∃ TB,(env 5 = .ptr AB 0/\env 7 = .ptr PB 0/\env 8 = .fn (.func 66) [] [.ptr AB 0,.ptr PB 0]/\env 9 = .fn (.func 67) [] [.ptr AB 0]/\env 11=xr/\env 12 = .int k/\env 13 = .ptr TB 0)/\H3.get TB=some (tokC ⟨c0,1,0⟩)/\TkH H3 AB SB PB Q SN all seen/\GrN (fun z=>(z<H.next\/z=AB\/z=SB\/z=PB\/z=Q\/z=SN)\/z=TB) H3 xr 3 l.length (tV l)/\Step (fun b=>b<H.next) H H3/\(TB≠AB/\TB≠SB/\TB≠PB/\TB≠Q/\TB≠SN)/\H.next<=TB) ?_ ?_
  ·skip
   refine qo (fun K29 hK29=>?_)
   refine qi kz ?_
   simp[go_sem,e5,e12,gA,gQ,d_0,haL,hki,hk1]
   refine hK29 _ _ ?_
   have kk : ∀ z c,H2.get z=some c->((H2.alloc [.sc (.int .u8 0),.int 0,.int 0]).set H2.next (tokC ⟨c0,1,0⟩)).get z=some c:=fun z c hz=>by rw[Heap.get_set,if_neg (by have:=Heap.lt_of_get hz; omega),Heap.get_alloc,if_neg (by have:=Heap.lt_of_get hz; omega)]; exact hz
   have l1:=Heap.lt_of_get gA
   have l2:=Heap.lt_of_get gS
   have l3:=Heap.lt_of_get gP
   have l4:=Heap.lt_of_get gQ
   have l5:=Heap.lt_of_get gN
   exact ⟨H2.next,⟨by simp[go_sem,e5],by simp[go_sem,e7],by simp[go_sem,e8],by simp[go_sem,e9],by simp[go_sem,e11],by simp[go_sem,e12],gz⟩,by simp[go_sem,tokC],hT.keep kk,(hgr.fresh (Nat.le_refl _)).keep kk,(hS.alloc gz).set (by show ¬ (_<_); omega) gz,⟨oz,oz,oz,oz,oz⟩,hSl⟩
  clear e5 e7 e8 e9 e11 e12 hT hgr hS gA gS gP gQ gN hSLv
  rintro env H2 ⟨TB,⟨e5,e7,e8,e9,e11,e12,e13⟩,gT,hT,hgr,hS,hTne,hTBn⟩
  have hT1:=hT
  obtain ⟨gA,gS,gP,gQ,⟨SL,gN,hSL,hSLv⟩,_,_,_⟩:=hT1
  rw[halll] at gA
  refine qw (fun env H3=>(env 5 = .ptr AB 0/\env 7 = .ptr PB 0/\env 8 = .fn (.func 66) [] [.ptr AB 0,.ptr PB 0]/\env 9 = .fn (.func 67) [] [.ptr AB 0]/\env 11=xr/\env 12 = .int k/\env 13 = .ptr TB 0)/\H3.get TB=some (tokC tk)/\TkH H3 AB SB PB Q SN all seen/\GrN (fun z=>(z<H.next\/z=AB\/z=SB\/z=PB\/z=Q\/z=SN)\/z=TB) H3 xr 3 l.length (tV l)/\Step (fun b=>b<H.next) H H3) ?_ ?_
  ·skip
   refine qg (fun K31 hK31=>?_)
   have w3:IntKind.i64.wrap ((k:Int)+3)=(k:Int)+3:=i64in _ oz oz
   have h3:((k:Int)+3<=(N:Int))=(k+3<=N):=propext ⟨fun h=>by omega,fun h=>by omega⟩
   refine qi kz ?_
   simp[go_sem,e5,e12,gA,w3,h3]
   refine hK31 _ _ ?_
   try clear hK31 K31
   refine qj (b:=decide (k+3<=N)) (by simp[go_sem,w3,h3]) (fun hb=>?_) (fun hb=>?_)
   ·skip
    simp only[decide_eq_true_eq] at hb
    have cp:=qop (k:=k) hT oz
    have hlt:=qoo all k
    have hsv:=hSLv _ hlt
    have hsk2:=hsk (hashAt all k)
    obtain ⟨sv,hsvq⟩ : ∃ z,seen (hashAt all k)=z:=⟨_,rfl⟩
    have hsvk:sv<=k:=oz
    rw[hsvq] at hsv
    obtain ⟨hv,hhv⟩ : ∃ z,hashAt all k=z:=⟨_,rfl⟩
    rw[hhv] at cp hlt hsv hsvq
    obtain ⟨r_s,d_s⟩:=qX (l:=SL) (i:=hv) oz
    rw[hsv] at d_s
    have hoL:(iV SL).length=32768:=by rw[qK,hSL]
    have hv1:hv+1<=32768:=oz
    have hwsv:IntKind.i64.wrap ((sv:Int)-1)=(sv:Int)-1:=i64in _ oz oz
    refine qg (fun K32 hK32=>?_)
    refine qi kz ?_
    refine qI 3 (fun K33 hK33=>?_)
    simp[go_sem,e7,e12,gP,gN,hoL,hv1,d_s,hwsv]
    refine ⟨_,_,cp,?_⟩
    refine hK33 _ _ ?_
    clear hK33 K33
    simp[go_sem,e7,e12,gP,gN,hoL,hv1,d_s,hwsv]
    refine hK32 _ _ ?_
    try clear hK32 K32
    refine qg (fun K34 hK34=>?_)
    rcases (by omega:sv=0\/(0<sv/\k-(sv-1)<=32768)\/(0<sv /\ ¬ k-(sv-1)<=32768)) with h0 | ⟨h0,h32⟩ | ⟨h0,h32⟩
    ·skip
     have d0 : ¬ ((1:Int)<=(sv:Int)):=oz
     have d0b : ¬ ((0:Int)<=(sv:Int)-1):=oz
     have hlit:tk=⟨c0,1,0⟩:=by rw[<- htkq,<- hc0]; exact qbq (fun h=>by have:=h.2.1; rw[hhv] at this; omega)
     have gT9:H2.get TB=some (tokC tk):=by rw[hlit]; exact gT
     have hT9:=hT
     have hgr9:=hgr
     have hS9:=hS
     refine qi kz ?_
     simp[go_sem,e12,d0,d0b,h0]
     refine hK34 _ _ ?_
     try clear hK34 K34
     refine qj (b:=false) (by simp[go_sem,d0,d0b,h0]) (fun h=>by cases h) (fun _=>?_)
     refine ql ?_
     exact ⟨⟨by simp[go_sem,e5],by simp[go_sem,e7],by simp[go_sem,e8],by simp[go_sem,e9],by simp[go_sem,e11],by simp[go_sem,e12],by simp[go_sem,e13]⟩,gT9,hT9,hgr9,hS9⟩
    ·skip
     obtain ⟨p,rfl⟩ : ∃ z,sv=z+1:=⟨sv-1,oz⟩
     have hp32:k-p<=32768:=oz
     have d0:(0:Int)<=(p:Int):=oz
     have wkp:IntKind.i64.wrap ((k:Int)-p)=((k-p:Nat):Int):=by rw[i64in _ oz oz]; omega
     obtain ⟨bk,hbk⟩ : ∃ z,k-p=z:=⟨_,rfl⟩
     rw[hbk] at wkp hp32
     have d1:(bk:Int)<=32768:=oz
     have cs:=same_w (fr:=p) (k:=k) hT oz oz
     obtain ⟨nn,hnn⟩ : ∃ z,sameN all p k=z:=⟨_,rfl⟩
     rw[hnn] at cs
     refine qi kz ?_
     simp[go_sem,e12,d0,wkp,d1]
     refine hK34 _ _ ?_
     try clear hK34 K34
     refine qj (b:=true) (by simp[go_sem,d0,wkp,d1]) (fun _=>?_) (fun h=>by cases h)
     refine qg (fun K35 hK35=>?_)
     refine qi kz ?_
     refine qI 4 (fun K36 hK36=>?_)
     simp[go_sem,e9,e12]
     refine ⟨_,_,cs,?_⟩
     refine hK36 _ _ ?_
     clear hK36 K36
     simp[go_sem,e9,e12]
     refine hK35 _ _ ?_
     try clear hK35 K35
     refine qg (fun K37 hK37=>?_)
     have h3n:((3:Int)<=(nn:Int))=(3<=nn):=propext ⟨fun h=>by omega,fun h=>by omega⟩
     refine qi kz ?_
     simp[go_sem,h3n]
     refine hK37 _ _ ?_
     try clear hK37 K37
     refine qj (b:=decide (3<=nn)) (by simp[go_sem,h3n]) (fun hb=>?_) (fun hb=>?_)
     ·skip
      simp only[decide_eq_true_eq] at hb
      have hcopy:tk=⟨0,nn,bk⟩:=by rw[<- htkq,<- hbk]; exact ql5 oz (by rw[hhv]; exact hsvq) oz hnn hb
      have gT9:(H2.set TB (tokC ⟨0,nn,bk⟩)).get TB=some (tokC tk):=by rw[hcopy,Heap.get_set,if_pos rfl,gT]; rfl
      have hTn:=Heap.lt_of_get gT
      have hS8:Step (fun z=>z≠TB) H2 (H2.set TB (tokC ⟨0,nn,bk⟩)):=(Step.refl _ _).set (fun h=>h rfl) (by simp[go_sem,tokC])
      have hT9:=hT.keepS hS8 ⟨Ne.symm hTne.1,Ne.symm hTne.2.1,Ne.symm hTne.2.2.1,Ne.symm hTne.2.2.2.1,Ne.symm hTne.2.2.2.2⟩
      have hgr9:GrN (fun z=>(z<H.next\/z=AB\/z=SB\/z=PB\/z=Q\/z=SN)\/z=TB) (H2.set TB (tokC ⟨0,nn,bk⟩)) xr 3 l.length (tV l):=hgr.keepN (fun q hq c hc=>hS8.get hc (fun e=>hq (.inr e)))
      have hS9:Step (fun b=>b<H.next) H (H2.set TB (tokC ⟨0,nn,bk⟩)):=hS.set (by show ¬ (_<_); omega) (by simp[go_sem,tokC])
      refine qo (fun K38 hK38=>?_)
      refine qi kz ?_
      simp[go_sem,e12,e13,gT,tokC,wkp]
      refine hK38 _ _ ?_
      exact ⟨⟨by simp[go_sem,e5],by simp[go_sem,e7],by simp[go_sem,e8],by simp[go_sem,e9],by simp[go_sem,e11],by simp[go_sem,e12],by simp[go_sem,e13]⟩,gT9,hT9,hgr9,hS9⟩
     ·skip
      simp only[decide_eq_false_iff_not] at hb
      have hlit:tk=⟨c0,1,0⟩:=by rw[<- htkq,<- hc0]; exact qbq (fun h=>by have:=h.2.2.2; rw[hhv,hsvq] at this; rw[show p+1-1=p by omega,hnn] at this; omega)
      have gT9:H2.get TB=some (tokC tk):=by rw[hlit]; exact gT
      have hT9:=hT
      have hgr9:=hgr
      have hS9:=hS
      refine ql ?_
      exact ⟨⟨by simp[go_sem,e5],by simp[go_sem,e7],by simp[go_sem,e8],by simp[go_sem,e9],by simp[go_sem,e11],by simp[go_sem,e12],by simp[go_sem,e13]⟩,gT9,hT9,hgr9,hS9⟩
    ·skip
     obtain ⟨p,rfl⟩ : ∃ z,sv=z+1:=⟨sv-1,oz⟩
     have d0:(0:Int)<=(p:Int):=oz
     have wkp:IntKind.i64.wrap ((k:Int)-p)=((k-p:Nat):Int):=by rw[i64in _ oz oz]; omega
     obtain ⟨bk,hbk⟩ : ∃ z,k-p=z:=⟨_,rfl⟩
     rw[hbk] at wkp
     have d1 : ¬ ((bk:Int)<=32768):=oz
     have d2 : ¬ (bk<=32768):=oz
     have hlit:tk=⟨c0,1,0⟩:=by rw[<- htkq,<- hc0]; exact qbq (fun h=>by have:=h.2.2.1; rw[hhv,hsvq] at this; omega)
     have gT9:H2.get TB=some (tokC tk):=by rw[hlit]; exact gT
     have hT9:=hT
     have hgr9:=hgr
     have hS9:=hS
     refine qi kz ?_
     simp[go_sem,e12,d0,wkp,d1,d2]
     refine hK34 _ _ ?_
     try clear hK34 K34
     refine qj (b:=false) (by simp[go_sem,d0,wkp,d1,d2]) (fun h=>by cases h) (fun _=>?_)
     refine ql ?_
     exact ⟨⟨by simp[go_sem,e5],by simp[go_sem,e7],by simp[go_sem,e8],by simp[go_sem,e9],by simp[go_sem,e11],by simp[go_sem,e12],by simp[go_sem,e13]⟩,gT9,hT9,hgr9,hS9⟩
   ·skip
    simp only[decide_eq_false_iff_not] at hb
    have hlit:tk=⟨c0,1,0⟩:=by rw[<- htkq,<- hc0]; exact qbq (fun h=>by have:=h.1; omega)
    have gT9:H2.get TB=some (tokC tk):=by rw[hlit]; exact gT
    have hT9:=hT
    have hgr9:=hgr
    have hS9:=hS
    refine ql ?_
    exact ⟨⟨by simp[go_sem,e5],by simp[go_sem,e7],by simp[go_sem,e8],by simp[go_sem,e9],by simp[go_sem,e11],by simp[go_sem,e12],by simp[go_sem,e13]⟩,gT9,hT9,hgr9,hS9⟩
  clear e5 e7 e8 e9 e11 e12 e13 hT hgr hS gA gS gP gQ gN hSLv gT
  rintro env H2 ⟨⟨e5,e7,e8,e9,e11,e12,e13⟩,gT,hT,hgr,hS⟩
  obtain ⟨bo,hg,hbo,_,_⟩:=hgr.grown
  obtain ⟨ha,hga⟩:=appT tk hg oz
  have hTn:=Heap.lt_of_get gT
  have hSl2:=hS.le
  have hSK : ∀ z,(z<H.next\/z=AB\/z=SB\/z=PB\/z=Q\/z=SN)\/z=TB->z<H2.next:=by
   have l1:=Heap.lt_of_get hT.ab
   have l2:=Heap.lt_of_get hT.sb
   have l3:=Heap.lt_of_get hT.pb
   have l4:=Heap.lt_of_get hT.q
   obtain ⟨_,g5,_,_⟩:=hT.sn
   have l5:=Heap.lt_of_get g5
   intro z hz
   omega
  have hau:=ha
  unfold tokC at hau
  have gTu:H2.get TB=some [.sc (.int .u8 tk.c.toNat),.int tk.len,.int tk.back]:=gT
  refine qw (fun env H3 => ∃ x9,(env 5 = .ptr AB 0/\env 7 = .ptr PB 0/\env 8 = .fn (.func 66) [] [.ptr AB 0,.ptr PB 0]/\env 9 = .fn (.func 67) [] [.ptr AB 0]/\env 11=x9/\env 12 = .int k/\env 13 = .ptr TB 0)/\H3.get TB=some (tokC tk)/\TkH H3 AB SB PB Q SN all seen/\GrN (fun z=>z<H.next\/z=AB\/z=SB\/z=PB\/z=Q\/z=SN) H3 x9 3 (l.length+1) (tV l++tokC tk)/\Step (fun b=>b<H.next) H H3) ?_ ?_
  ·skip
   refine qo (fun K40 hK40=>?_)
   refine qi kz ?_
   simp[go_sem,e11,e13,gTu,zrep3,hau]
   refine hK40 _ _ ?_
   have hSt:Step (fun z=>(z<H.next\/z=AB\/z=SB\/z=PB\/z=Q\/z=SN)\/z=TB) H2 ((H2.alloc (tokC tk)).regrow bo (tV l++tokC tk)):=GrN.step hg hbo (tV_lt _ _) (by simp[go_sem,tokC])
   exact ⟨.ms (H2.next+1) 0 (l.length+1) 3,⟨by simp[go_sem,e5],by simp[go_sem,e7],by simp[go_sem,e8],by simp[go_sem,e9],gz,by simp[go_sem,e12],by simp[go_sem,e13]⟩,hSt.get gT (.inr rfl),hT.keepS hSt ⟨.inl (.inr (.inl rfl)),.inl (.inr (.inr (.inl rfl))),.inl (.inr (.inr (.inr (.inl rfl)))),.inl (.inr (.inr (.inr (.inr (.inl rfl))))),.inl (.inr (.inr (.inr (.inr (.inr rfl)))))⟩,(GrN.one (S:=(fun z=>(z<H.next\/z=AB\/z=SB\/z=PB\/z=Q\/z=SN)\/z=TB)) hga hSK).mono (fun z hz=>.inl hz),hS.trans (hSt.mono fun z hz=>.inl (.inl hz))⟩
  clear e5 e7 e8 e9 e11 e12 e13 hT hgr hS gT hg hbo ha hga hau gTu hSK
  rintro env H2 ⟨x9,⟨e5,e7,e8,e9,e11,e12,e13⟩,gT,hT,hgr,hS⟩
  have gTu:H2.get TB=some [.sc (.int .u8 tk.c.toNat),.int tk.len,.int tk.back]:=gT
  refine qg (fun K41 hK41=>?_)
  refine qi kz ?_
  simp[go_sem,e13,gTu]
  refine hK41 _ _ ?_
  try clear hK41 K41
  refine qm ?_
  refine qC (Inv:=fun m0 env H2 => ∃ j:Nat,m0=tk.len-j/\j<=tk.len/\env 5 = .ptr AB 0/\env 7 = .ptr PB 0/\env 8 = .fn (.func 66) [] [.ptr AB 0,.ptr PB 0]/\env 9 = .fn (.func 67) [] [.ptr AB 0]/\env 11=x9/\env 12 = .int ((k+j:Nat):Int)/\env 79 = .int tk.len/\env 80 = .int j/\TkH H2 AB SB PB Q SN all (noteR all k j seen)/\GrN (fun z=>z<H.next\/z=AB\/z=SB\/z=PB\/z=Q\/z=SN) H2 x9 3 (l.length+1) (tV l++tokC tk)/\Step (fun b=>b<H.next) H H2) ?_ (n:=tk.len) (⟨0,rfl,Nat.zero_le _,by simp[go_sem,e5],by simp[go_sem,e7],by simp[go_sem,e8],by simp[go_sem,e9],by simp[go_sem,e11],by simp[go_sem,e12],gz,gz,hT,hgr,hS⟩)
  clear e5 e7 e8 e9 e11 e12 e13 hT hgr hS gT gTu
  rintro m0 env H2 ⟨j,rfl,hj,e5,e7,e8,e9,e11,e12,e79,e80,hT,hgr,hS⟩
  refine qg (fun K42 hK42=>?_)
  refine qi kz ?_
  simp[go_sem,e79,e80]
  refine hK42 _ _ ?_
  try clear hK42 K42
  refine qg (fun K43 hK43=>?_)
  refine qj (b:=decide (j<tk.len)) gz (fun hb=>?_) (fun hb=>?_)
  ·skip
   simp only[decide_eq_true_eq] at hb
   have cp:=note_p (k:=k+j) hT oz
   have hw2k:IntKind.i64.wrap ((k:Int)+(j:Int)+1)=(k:Int)+((j:Int)+1):=by rw[i64in _ oz oz]; omega
   have e12k:env 12 = .int ((k:Int)+(j:Int)):=by rw[e12]; push_cast; rfl
   push_cast at cp
   have hSN0:H.next<=SN:=hRSN
   refine ql ?_
   refine hK43 _ _ ?_
   try clear hK43 K43
   refine qg (fun K44 hK44=>?_)
   refine qm ?_
   refine qg (fun K45 hK45=>?_)
   refine qp kz ?_
   simp[go_sem,e8,e12k]
   refine ⟨_,cp,?_⟩
   rintro _ H3 hn3 ⟨rfl,hT3,hS3⟩
   have hS9:Step (fun b=>b<H.next) H H3:=hS.trans (hS3.mono fun z hz=>by show z≠SN; have h9:z<H.next:=hz; omega)
   refine hK45 _ _ ?_
   try clear hK45 K45
   refine qi kz ?_
   simp[go_sem,e12k,hw2k]
   refine hK44 _ _ ?_
   try clear hK44 K44
   refine qo (fun K47 hK47=>?_)
   refine qi kz ?_
   simp[go_sem,e80]
   refine hK47 _ _ ?_
   have hw1:=qF j oz
   have hw2:=qF (k+j) oz
   exact ⟨tk.len-(j+1),oz,j+1,rfl,oz,by simp[go_sem,e5],by simp[go_sem,e7],by simp[go_sem,e8],by simp[go_sem,e9],by simp[go_sem,e11],by simp[go_sem,e12k,hw2k],by simp[go_sem,e79],by simp[go_sem,hw1],by rw[qch]; exact hT3,hgr.keepN (fun q hq c hc=>hS3.get hc (fun e=>hq (.inr (.inr (.inr (.inr (.inr e))))))),hS9⟩
  ·skip
   simp only[decide_eq_false_iff_not] at hb
   refine qy ?_
   have hjl:j=tk.len:=oz
   subst hjl
   exact ⟨N-(k+tk.len),oz,k+tk.len,f,noteR all k tk.len seen,l ++ [tk],x9,rfl,oz,oz,oz,by simp[go_sem,e5],by simp[go_sem,e7],by simp[go_sem,e8],by simp[go_sem,e9],by simp[go_sem,e11],by simp[go_sem,e12],by rw[tV_snoc,List.length_append]; exact hgr,by rw[htg,htg2,List.append_assoc]; rfl,hT,fun y=>qbh all tk.len k seen hsk y,hS,by rw[List.length_append]; simp only[List.length_cons,List.length_nil]; omega⟩
 ·skip
  simp only[decide_eq_false_iff_not] at hb
  rw[ql3 (f:=f) (k:=k) (seen:=seen) oz,List.append_nil] at htg
  rw[htg]
  refine qy ?_
  refine hK22 _ _ ?_
  try clear hK22 K22
  refine qg (fun K48 hK48=>?_)
  refine qi kz ?_
  simp[go_sem,e11]
  refine hK48 _ _ ?_
  try clear hK48 K48
  refine qx ?_
  simp only[go_sem]
  refine hR _ _ ?_
  skip
  refine qd4 (cs:=tV l) hS (hgr.mono (fun z hz=>.inl hz)) gz (fun y hy k=>tV_lt l k y hy) (fun H9 h9=>⟨by rw[htg]; rfl,h9⟩)
end Go.Proofs.YtfokgjhdndnnhaaGreatDoor
end W29S
noncomputable section Fl56S
namespace Go.Fl
open Go
def SLinAt (P:Program) (sz:Nat) (ops:Array Oper) (Q:Exit->Env->Heap->Prop) (listed:Array Bool) (env:Env) (H:Heap):Prop :=
 ∀ ρ I w a (Q' : Exit->Act->World->Prop),Rel ρ I H w.heap->ERel sz ρ I w.heap env a->(∀ e a' w',SPost sz ρ I w Q e a' w' -> Q' e a' w') -> ∀ L,Lin ops listed L->wpOps P ops Q' L a w
section
variable {P:Program} {sz:Nat} {ops:Array Oper} {Q:Exit->Env->Heap->Prop} {env:Env} {H:Heap} {listed:Array Bool}
theorem ql6 {id:Nat} (hm:P.follows .mixedOrders=true) (h:SLinAt P sz ops Q (Array.replicate ops.size false) env H):SCode P sz (.region id ops true) Q env H:=zx hm h
theorem jd (hrd:Region.ready .any ops listed = []) (h:Q .normal env H):SLinAt P sz ops Q listed env H:=by
 intro ρ I w a Q' hr he hQ L hL
 cases hL with
 | nil _=>exact hQ _ _ _ ⟨env,H,ρ,I,h,hr,he,Ext.refl _ _ _⟩
 | cons hi _=>rw[hrd] at hi; cases hi
theorem qV {l:List Nat} (hd:dstsB sz ops=true) (hrd:Region.ready .any ops listed=l) (hne:l ≠ []) (h : ∀ k∈l,∃ o,ops[k]? = some o/\WPOp P ops o (fun env H=>SLinAt P sz ops Q (listed.setIfInBounds k true) env H) env H):SLinAt P sz ops Q listed env H:=by
 intro ρ I w a Q' hr he hQ L hL
 cases hL with
 | nil h0=>rw[hrd] at h0; exact absurd h0 hne
 | cons hi hl =>
  rename_i i rest
  rw[hrd] at hi
  obtain ⟨o,ho,hw⟩:=h i hi
  have hds : ∀ d,o.dst=some d->d<sz:=fun d hod=>by
   have:=List.all_eq_true.1 hd o (List.mem_of_getElem? (by rw[Array.getElem?_toList]; exact ho))
   rw[hod] at this
   simpa using this
  rw[wpOps_cons]
  unfold wpOp
  rw[ho]
  simp only
  rcases WPOp_cases hw with ⟨ha,hk⟩ | ⟨ha,hst⟩
  ·rw[if_neg (by rw[zi ha he (yK hd)]; simp)]
   exact hk ρ I w _ Q' hr (he.put hds (.sc _)) hQ rest hl
  ·rw[if_pos (zi ha he (yK hd))]
   refine .inl (StepP_run hst hr he.eval ?_)
   intro x H' v w' ρ' I' _ hk h2 h3 h4
   exact hk ρ' I' w' _ Q' h3 ((he.mono h4).put hds h2) (fun e a' w2 hp=>hQ e a' w2 (hp.ext h4 (fun _ _ _ h=>h))) rest hl
end
end Go.Fl
end Fl56S
