/- Contracts: a table is numbered, all. -/
import Derived.Test.YtfokgjhdndnnhaaGreatDoorW8
import Derived.Test.YtfokgjhdndnnhaaGreatDoorW3
set_option maxHeartbeats 1000000
set_option linter.unusedVariables false
set_option linter.unusedSimpArgs false
set_option maxRecDepth 20000
noncomputable section W9S
namespace Go.Proofs.YtfokgjhdndnnhaaGreatDoor
open Go Go.Fl Go.Proofs
def cdF (l:List Nat) (k i:Nat):List Nat:=(List.range l.length).map fun s=>if 0<l.getD s 0/\(l.getD s 0<=k\/(l.getD s 0=k+1/\s<i)) then codeOf l s else 0
def odF (l:List Nat) (k i:Nat):List Nat:=ordU l k++(List.range i).filter fun s=>l.getD s 0==k+1
def cvF (l:List Nat) (k i:Nat):Nat:=fstC l (k+1)+(l.take i).count (k+1)
theorem qi4 (l:List Nat) (k i:Nat):(cdF l k i).length=l.length:=by simp[cdF]
theorem qkc (l:List Nat):cdF l 0 0=List.replicate l.length 0:=by
 apply List.ext_getElem
 ·simp[cdF]
 ·intro i h1 h2
  simp only[cdF,List.getElem_map,List.getElem_range,List.getElem_replicate]
  rw[if_neg oz]
theorem qkd (l:List Nat) (k:Nat):cdF l k l.length=cdF l (k+1) 0:=by
 apply List.ext_getElem
 ·simp[cdF]
 ·intro i h1 h2
  simp only[qi4] at h1
  simp only[cdF,List.getElem_map,List.getElem_range]
  congr 1
  apply propext
  constructor
  ·rintro ⟨h3,h4⟩; exact ⟨h3,.inl oz⟩
  ·rintro ⟨h3,h4⟩
   refine ⟨h3,?_⟩
   rcases h4 with h4 | h4
   ·rcases Nat.lt_or_ge k (l.getD i 0) with h5 | h5
    ·exact .inr ⟨oz,h1⟩
    ·exact .inl h5
   ·omega
theorem qm6 (l:List Nat) (h : ∀ s,l.getD s 0<=15):cdF l 15 0=codesL l:=by
 apply List.ext_getElem
 ·simp[cdF,codesL]
 ·intro i h1 h2
  simp only[cdF,codesL,List.getElem_map,List.getElem_range]
  by_cases h0:l.getD i 0=0
  ·rw[if_neg oz,if_pos h0]
  ·rw[if_pos ⟨oz,.inl (h i)⟩,if_neg h0]
theorem qke (l:List Nat) (k i:Nat) (h:l.getD i 0≠k+1):cdF l k (i+1)=cdF l k i:=by
 apply List.ext_getElem
 ·simp[cdF]
 ·intro s h1 h2
  simp only[cdF,List.getElem_map,List.getElem_range]
  congr 1
  apply propext
  refine and_congr Iff.rfl (or_congr Iff.rfl ?_)
  constructor
  ·rintro ⟨h3,h4⟩
   refine ⟨h3,?_⟩
   rcases Nat.lt_or_ge s i with h5 | h5
   ·exact h5
   ·have:s=i:=oz
    subst this; exact absurd h3 h
  ·rintro ⟨h3,h4⟩; exact ⟨h3,oz⟩
theorem qm7 (l:List Nat) (k i:Nat) (h:l.getD i 0=k+1):(cdF l k i).set i (cvF l k i)=cdF l k (i+1):=by
 have hc:codeOf l i=cvF l k i:=by unfold codeOf cvF idxL; rw[h]
 apply List.ext_getElem
 ·simp[cdF]
 ·intro s h1 h2
  rw[List.getElem_set]
  simp only[cdF,List.getElem_map,List.getElem_range]
  by_cases hs:i=s
  ·subst hs
   rw[if_pos rfl,if_pos ⟨oz,.inr ⟨h,oz⟩⟩,hc]
  ·rw[if_neg hs]
   congr 1
   apply propext
   refine and_congr Iff.rfl (or_congr Iff.rfl ?_)
   constructor
   ·rintro ⟨h3,h4⟩; exact ⟨h3,oz⟩
   ·rintro ⟨h3,h4⟩; exact ⟨h3,oz⟩
theorem odF_zero (l:List Nat) (k:Nat):odF l k 0=ordU l k:=by simp[odF]
theorem odF_next (l:List Nat) (k:Nat):odF l k l.length=ordU l (k+1):=rfl
theorem odF_hit (l:List Nat) (k i:Nat) (h:l.getD i 0=k+1):odF l k (i+1)=odF l k i ++ [i]:=by
 unfold odF
 rw[List.range_succ,List.filter_append,List.append_assoc]
 have hb:(l.getD i 0==k+1)=true:=by rw[h]; simp
 simp only[List.filter_cons,hb,if_true,List.filter_nil]
theorem odF_skip (l:List Nat) (k i:Nat) (h:l.getD i 0≠k+1):odF l k (i+1)=odF l k i:=by
 unfold odF
 rw[List.range_succ,List.filter_append]
 have hb:(l.getD i 0==k+1)=false:=by rw[beq_eq_false_iff_ne]; exact h
 simp only[List.filter_cons,hb,Bool.false_eq_true,if_false,List.filter_nil,List.append_nil]
theorem qkf (l:List Nat) (k:Nat):cvF l k 0=fstC l (k+1):=by simp[cvF]
theorem qm8 (l:List Nat) (k:Nat):cvF l k l.length=fstC l (k+1)+cnt l (k+1):=by simp[cvF,cnt]
theorem qm9 (l:List Nat) (k i:Nat) (hi:i<l.length) (h:l.getD i 0=k+1):cvF l k (i+1)=cvF l k i+1:=by
 unfold cvF
 rw[List.take_add_one,List.getElem?_eq_getElem hi,List.count_append]
 have:l[i]=k+1:=by rw[<- qU hi]; exact h
 simp[this]
 omega
theorem qkg (l:List Nat) (k i:Nat) (hi:i<l.length) (h:l.getD i 0≠k+1):cvF l k (i+1)=cvF l k i:=by
 unfold cvF
 rw[List.take_add_one,List.getElem?_eq_getElem hi,List.count_append]
 have:l[i]≠k+1:=by rw[<- qU hi]; exact h
 simp[this]
theorem cvF_le (l:List Nat) (k i:Nat):cvF l k i<=fstC l (k+1)+cnt l (k+1):=by
 unfold cvF cnt
 rw[if_neg oz]
 have:=(List.take_sublist i l).count_le (k+1)
 omega
theorem odF_len (l:List Nat) (k i:Nat) (h:i<=l.length):(odF l k i).length<=asum l (k+1):=by
 unfold odF
 rw[List.length_append,yf,zO l (k+1) i h]
 have:=(List.take_sublist i l).count_le (k+1)
 simp only[asum,cnt]
 rw[if_neg oz]
 omega
theorem TbS.add {S:Nat->Prop} {H:Heap} {T C:Nat} {lens cd od:List Nat} (h:TbS S H T C lens cd od) (v:List AV):TbS (fun b=>S b\/b=H.next) (H.alloc v) T C lens cd od:=by
 obtain ⟨x,h1,h2,h3,g1,g2,h4,h5,h6,h7⟩:=h
 have n1:=Heap.lt_of_get g1
 have n2:=Heap.lt_of_get g2
 refine ⟨x,fun e=>e.elim h1 oz,fun e=>e.elim h2 oz,h3,by rw[Heap.get_alloc,if_neg oz]; exact g1,by rw[Heap.get_alloc,if_neg oz]; exact g2,h4,h5,?_,fun b hb=>?_⟩
 ·rcases h6 with h6 | ⟨q,q1,q2,q3,q4,q5⟩
  ·exact .inl h6
  ·have hq:=Heap.lt_of_get q5
   exact .inr ⟨q,fun e=>e.elim q1 oz,q2,q3,q4,by rw[Heap.get_alloc,if_neg oz]; exact q5⟩
 ·rw[Heap.next_alloc]
  rcases hb with hb | hb
  ·have:=h7 b hb; omega
  ·omega
theorem TbS.set {S:Nat->Prop} {H:Heap} {T C:Nat} {lens cd od:List Nat} (h:TbS S H T C lens cd od) {b:Nat} (hb:S b) (v:List AV):TbS S (H.set b v) T C lens cd od:=by
 obtain ⟨x,h1,h2,h3,g1,g2,h4,h5,h6,h7⟩:=h
 refine ⟨x,h1,h2,h3,by rw[Heap.get_set,if_neg (by rintro rfl; exact h1 hb)]; exact g1,by rw[Heap.get_set,if_neg (by rintro rfl; exact h2 hb)]; exact g2,h4,h5,?_,h7⟩
 rcases h6 with h6 | ⟨q,q1,q2,q3,q4,q5⟩
 ·exact .inl h6
 ·exact .inr ⟨q,q1,q2,q3,q4,by rw[Heap.get_set,if_neg (by rintro rfl; exact q1 hb)]; exact q5⟩
theorem TbS.mono {S S' : Nat->Prop} {H:Heap} {T C:Nat} {lens cd od:List Nat} (h:TbS S H T C lens cd od) (hs : ∀ b,S' b->S b):TbS S' H T C lens cd od:=by
 obtain ⟨x,h1,h2,h3,g1,g2,h4,h5,h6,h7⟩:=h
 refine ⟨x,fun e=>h1 (hs _ e),fun e=>h2 (hs _ e),h3,g1,g2,h4,h5,?_,fun b hb=>h7 b (hs b hb)⟩
 rcases h6 with h6 | ⟨q,q1,q2,q3,q4,q5⟩
 ·exact .inl h6
 ·exact .inr ⟨q,fun e=>q1 (hs _ e),q2,q3,q4,q5⟩
theorem beq_succ (v k:Nat):((v:Int)==(k:Int)+1)=(v==k+1):=by
 by_cases h:v=k+1
 ·subst h; simp
 ·have h2 : ¬ ((v:Int)=(k:Int)+1):=oz
  rw[beq_eq_false_iff_ne.2 h2,beq_eq_false_iff_ne.2 h]
def NumE (tb cb k:Nat) (env:Env):Prop:=env 1 = .ptr tb 0/\env 2 = .ptr cb 0/\env 3 = .int ((k+1:Nat):Int)
def NumI (tb cb n i:Nat) (lens:List Nat) (env:Env):Prop:=env 4 = .fn (.func 115) [] [.ptr cb 0,.ptr tb 0]/\env 17 = .vs n 1 (iV lens)/\env 18 = .int n/\env 19 = .int i
theorem number_p {S:Nat->Prop} {T C:Nat} {lens:List Nat} (hle : ∀ s,lens.getD s 0<=15) (hwh:WholeL lens) (hll:lens.length<=1000) (hal:asum lens 15<=1000) {H:Heap} (hW:TbS S H T C lens (List.replicate lens.length 0) []):SCallsP Tryz.prog 100 [.ptr T 0] H (fun r H'=>r = .tup []/\TbS S H' T C lens (codesL lens) (ordU lens 15)/\Step S H H'):=by
 obtain ⟨tb,htb⟩ : ∃ t,H.next=t:=⟨_,rfl⟩
 obtain ⟨cb,hcb⟩ : ∃ t,H.next+1=t:=⟨_,rfl⟩
 have hWa:=(hW.add [.ptr T 0]).add [.int 0]
 have hTn:T<H.next:=by obtain ⟨_,_,_,_,g,_⟩:=hW; exact Heap.lt_of_get g
 have hSn : ∀ b,S b->b<H.next:=by obtain ⟨_,_,_,_,_,_,_,_,_,h⟩:=hW; exact h
 have hSa:Step S H (((H.alloc [.ptr T 0]).alloc [.int 0]).set (H.next+1) [.int 0]):=(((Step.refl S H).alloc (by simp[go_sem]; omega)).alloc gz).set (fun h=>by have:=hSn _ h; omega) gz
 have hW1:TbS (fun b=>(S b\/b=tb)\/b=cb) (((H.alloc [.ptr T 0]).alloc [.int 0]).set (H.next+1) [.int 0]) T C lens (List.replicate lens.length 0) []:=by subst htb; subst hcb; exact hWa.set (.inr rfl) _
 have hct:tb≠cb:=oz
 have gtb1:(((H.alloc [.ptr T 0]).alloc [.int 0]).set (H.next+1) [.int 0]).get tb=some [.ptr T 0]:=by rw[Heap.get_set,if_neg oz,Heap.get_alloc,if_neg (by rw[Heap.next_alloc]; omega),Heap.get_alloc,if_pos htb.symm]
 have gcb1:(((H.alloc [.ptr T 0]).alloc [.int 0]).set (H.next+1) [.int 0]).get cb=some [.int 0]:=by rw[Heap.get_set,if_pos hcb.symm,Heap.get_alloc,if_pos (by rw[Heap.next_alloc]; omega)]; rfl
 obtain ⟨H1,hH1⟩ : ∃ X,(((H.alloc [.ptr T 0]).alloc [.int 0]).set (H.next+1) [.int 0])=X:=⟨_,rfl⟩
 have hn1:H1.next=H.next+2:=by rw[<- hH1]; rfl
 obtain ⟨n,hn⟩ : ∃ n,lens.length=n:=⟨_,rfl⟩
 have hab : ∀ k,k<=15->asum lens k<=1000:=fun k hk=>Nat.le_trans (jC lens k 15 hk) hal
 have hfb : ∀ k,k<=15->fstC lens k+cnt lens k<=32768:=fun k hk=>Nat.le_trans (qou lens (qeh lens hwh) k hk) (Nat.pow_le_pow_right dz hk:2^k<=2^15)
 refine qA (sz:=31) (Tryz.call100) Tryz.func100 rfl kz (fun R hR=>?_)
 refine qg (fun K1 hK1=>?_)
 refine qi kz ?_
 simp[go_sem]
 refine hK1 _ _ ?_
 try clear hK1 K1
 refine qw (fun env H2=>env 1 = .ptr tb 0/\env 2 = .ptr cb 0/\H1=H2) ?_ ?_
 ·skip
  refine qo (fun K3 hK3=>?_)
  refine qi kz ?_
  simp[go_sem]
  refine hK3 _ _ ?_
  exact ⟨by simp[go_sem,htb],by simp[go_sem,hcb],hH1.symm⟩
 rintro env _ ⟨e1,e2,rfl⟩
 rw[hH1] at hW1 gtb1 gcb1 hSa
 refine qg (fun K4 hK4=>?_)
 refine qi kz ?_
 simp[go_sem]
 refine hK4 _ _ ?_
 try clear hK4 K4
 refine qm ?_
 refine qC (Inv:=fun m env H2 => ∃ k:Nat,m=15-k/\k<=15/\NumE tb cb k env/\TbS (fun b=>(S b\/b=tb)\/b=cb) H2 T C lens (cdF lens k 0) (ordU lens k)/\H2.get tb=some [.ptr T 0]/\H2.get cb=some [.int ((fstC lens k+cnt lens k:Nat):Int)]/\Step (fun b=>S b) H1 H2) ?_ (n:=15) (⟨0,rfl,oz,⟨by simp[go_sem,e1],by simp[go_sem,e2],gz⟩,by rw[qkc]; exact hW1,gtb1,gcb1,Step.refl _ _⟩)
 rintro m env H2 ⟨k,rfl,hk,⟨e1,e2,e3⟩,hW2,gtb,gcb,hS⟩
 refine qg (fun K5 hK5=>?_)
 refine qg (fun K6 hK6=>?_)
 refine qi kz ?_
 simp[go_sem,e3]
 refine hK6 _ _ ?_
 try clear hK6 K6
 have hlt15:((k:Int)+1<=15)=(k<15):=propext ⟨fun h=>by omega,fun h=>by omega⟩
 refine qj (b:=decide (k<15)) (by simp[go_sem,hlt15]) (fun hb=>?_) (fun hb=>?_)
 ·skip
  simp only[decide_eq_true_eq] at hb
  refine ql ?_
  refine hK5 _ _ ?_
  try clear hK5 K5
  refine qw (fun env H2=>NumE tb cb k env/\TbS (fun b=>(S b\/b=tb)\/b=cb) H2 T C lens (cdF lens (k+1) 0) (ordU lens (k+1))/\H2.get tb=some [.ptr T 0]/\H2.get cb=some [.int ((fstC lens (k+1)+cnt lens (k+1):Nat):Int)]/\Step (fun b=>S b) H1 H2) ?_ ?_
  ·skip
   refine qm ?_
   have hfk:=hfb k hk
   have hfs:fstC lens (k+1)=2*(fstC lens k+cnt lens k):=rfl
   obtain ⟨fv,hfv⟩ : ∃ v,fstC lens k+cnt lens k=v:=⟨_,rfl⟩
   rw[hfv] at gcb hfs hfk
   have hdb:IntKind.i64.wrap ((fv:Int)*2)=(fstC lens (k+1):Nat):=by rw[i64in _ oz oz]; omega
   have hdb2:bshl .i64 (fv:Int) 1=(fstC lens (k+1):Nat):=by have:=zB fv 1 oz oz; rw[show fv*2^1=fstC lens (k+1) by omega] at this; exact this
   refine qw (fun env H2=>NumE tb cb k env/\TbS (fun b=>(S b\/b=tb)\/b=cb) H2 T C lens (cdF lens k 0) (odF lens k 0)/\H2.get tb=some [.ptr T 0]/\H2.get cb=some [.int (cvF lens k 0:Nat)]/\Step (fun b=>S b) H1 H2) ?_ ?_
   ·skip
    refine qo (fun K9 hK9=>?_)
    refine qi kz ?_
    simp[go_sem,e2,gcb,hdb,hdb2]
    refine hK9 _ _ ?_
    refine ⟨⟨by simp[go_sem,e1],by simp[go_sem,e2],by simp[go_sem,e3]⟩,?_,?_,?_,?_⟩
    ·rw[odF_zero]; exact hW2.set (.inr rfl) _
    ·rw[Heap.get_set,if_neg hct]; exact gtb
    ·rw[Heap.get_set,if_pos rfl,gcb,qkf]; rfl
    ·exact hS.set (fun h=>by have:=hSn _ h; omega) gz
   clear e1 e2 e3 hW2 gtb gcb hS hdb
   rintro env H2 ⟨⟨e1,e2,e3⟩,hW2,gtb,gcb,hS⟩
   refine qg (fun K10 hK10=>?_)
   refine qi kz ?_
   simp[go_sem,e1,e2]
   refine hK10 _ _ ?_
   try clear hK10 K10
   refine qg (fun K11 hK11=>?_)
   obtain ⟨xo,_,_,_,gT,_⟩:=id hW2
   obtain ⟨cs,hcs⟩ : ∃ cs,tbC lens lens C xo=cs:=⟨_,rfl⟩
   have hl20:cs.length=20:=by rw[<- hcs,qab]
   have h1:=tbC_1 lens lens C xo
   rw[hcs] at gT h1
   refine qi kz ?_
   simp[go_sem,e1,gtb,gT,h1,hl20,iA,hn]
   refine hK11 _ _ ?_
   try clear hK11 K11
   refine qm ?_
   refine qC (Inv:=fun m env H2 => ∃ i:Nat,m=n-i/\i<=n/\NumE tb cb k env/\NumI tb cb n i lens env/\TbS (fun b=>(S b\/b=tb)\/b=cb) H2 T C lens (cdF lens k i) (odF lens k i)/\H2.get tb=some [.ptr T 0]/\H2.get cb=some [.int (cvF lens k i:Nat)]/\Step (fun b=>S b) H1 H2) ?_ (n:=n) (⟨0,rfl,oz,⟨by simp[go_sem,e1],by simp[go_sem,e2],by simp[go_sem,e3]⟩,⟨by simp[go_sem,e1,e2],gz,gz,gz⟩,hW2,gtb,gcb,hS⟩)
   clear gT h1 e1 e2 e3 hW2 gtb gcb hS
   rintro m env H2 ⟨i,rfl,hi,⟨e1,e2,e3⟩,⟨e4,e17,e18,e19⟩,hW2,gtb,gcb,hS⟩
   refine qg (fun K12 hK12=>?_)
   refine qi kz ?_
   simp[go_sem,e18,e19]
   refine hK12 _ _ ?_
   try clear hK12 K12
   refine qg (fun K13 hK13=>?_)
   refine qj (b:=decide (i<n)) gz (fun hb=>?_) (fun hb=>?_)
   ·skip
    simp only[decide_eq_true_eq] at hb
    have hil:i<lens.length:=oz
    obtain ⟨r,hdr⟩:=qlm (show lens[i]? = some (lens.getD i 0) by rw[qU hil]; exact List.getElem?_eq_getElem hil)
    have hiL:(iV lens).length=n:=by rw[qK,hn]
    have hin:(i:Int)<n:=oz
    obtain ⟨v,hv⟩ : ∃ v,lens.getD i 0=v:=⟨_,rfl⟩
    rw[hv] at hdr
    refine ql ?_
    refine hK13 _ _ ?_
    try clear hK13 K13
    refine qw (fun env H2=>NumE tb cb k env/\NumI tb cb n i lens env/\TbS (fun b=>(S b\/b=tb)\/b=cb) H2 T C lens (cdF lens k (i+1)) (odF lens k (i+1))/\H2.get tb=some [.ptr T 0]/\H2.get cb=some [.int (cvF lens k (i+1):Nat)]/\Step (fun b=>S b) H1 H2) ?_ ?_
    ·skip
     refine qm ?_
     refine qg (fun K15 hK15=>?_)
     refine qi kz ?_
     simp[go_sem,e17,e19,hdr,hiL,hin]
     refine hK15 _ _ ?_
     try clear hK15 K15
     refine qg (fun K16 hK16=>?_)
     refine qi kz ?_
     simp[go_sem,e3]
     refine hK16 _ _ ?_
     try clear hK16 K16
     refine qj (b:=(v==k+1)) (by simp[go_sem,beq_succ]) (fun hb=>?_) (fun hb=>?_)
     ·skip
      have hvq:lens.getD i 0=k+1:=by rw[hv]; simpa using hb
      have hcv:=cvF_le lens k i
      have hfk1:=hfb (k+1) oz
      have hol:=odF_len lens k i oz
      have hak:=hab (k+1) oz
      have cp:=step_p (S:=(fun b=>(S b\/b=tb)\/b=cb)) (cvF lens k i) hil oz oz oz hW2 (.inl (.inr rfl)) (.inr rfl) hct gtb gcb
      refine qp kz ?_
      simp[go_sem,e4]
      refine ⟨_,cp,?_⟩
      rintro _ H3 hn3 ⟨rfl,hW3,gcb3,hS3⟩
      have hW9:TbS (fun b=>(S b\/b=tb)\/b=cb) H3 T C lens (cdF lens k (i+1)) (odF lens k (i+1)):=by rw[<- qm7 lens k i hvq,odF_hit lens k i hvq]; exact hW3
      have gtb9:=hS3.get gtb ⟨.inl (.inr rfl),hct⟩
      have gcb9:H3.get cb=some [.int (cvF lens k (i+1):Nat)]:=by rw[qm9 lens k i hil hvq]; exact gcb3
      have hS9:Step (fun b=>S b) H1 H3:=hS.trans (hS3.mono fun b hb=>⟨.inl (.inl hb),fun e=>by have:=hSn b hb; omega⟩)
      refine ⟨⟨by simp[go_sem,e1],by simp[go_sem,e2],by simp[go_sem,e3]⟩,⟨by simp[go_sem,e4],by simp[go_sem,e17],by simp[go_sem,e18],by simp[go_sem,e19]⟩,hW9,gtb9,gcb9,hS9⟩
     ·skip
      have hvq:lens.getD i 0≠k+1:=by rw[hv]; simpa using hb
      have hW9:TbS (fun b=>(S b\/b=tb)\/b=cb) H2 T C lens (cdF lens k (i+1)) (odF lens k (i+1)):=by rw[qke lens k i hvq,odF_skip lens k i hvq]; exact hW2
      have gtb9:=gtb
      have gcb9:H2.get cb=some [.int (cvF lens k (i+1):Nat)]:=by rw[qkg lens k i hil hvq]; exact gcb
      have hS9:=hS
      refine ql ?_
      refine ⟨⟨by simp[go_sem,e1],by simp[go_sem,e2],by simp[go_sem,e3]⟩,⟨by simp[go_sem,e4],by simp[go_sem,e17],by simp[go_sem,e18],by simp[go_sem,e19]⟩,hW9,gtb9,gcb9,hS9⟩
    clear e1 e2 e3 hW2 gtb gcb hS e4 e17 e18 e19
    rintro env H2 ⟨⟨e1,e2,e3⟩,⟨e4,e17,e18,e19⟩,hW2,gtb,gcb,hS⟩
    refine qo (fun K18 hK18=>?_)
    refine qi kz ?_
    simp[go_sem,e19]
    refine hK18 _ _ ?_
    have hw1:=qF i oz
    exact ⟨n-(i+1),oz,i+1,rfl,oz,⟨by simp[go_sem,e1],by simp[go_sem,e2],by simp[go_sem,e3]⟩,⟨by simp[go_sem,e4],by simp[go_sem,e17],by simp[go_sem,e18],by simp[go_sem,hw1]⟩,hW2,gtb,gcb,hS⟩
   ·skip
    simp only[decide_eq_false_iff_not] at hb
    obtain rfl:i=n:=oz
    have hFIN:NumE tb cb k env/\TbS (fun b=>(S b\/b=tb)\/b=cb) H2 T C lens (cdF lens (k+1) 0) (ordU lens (k+1))/\H2.get tb=some [.ptr T 0]/\H2.get cb=some [.int ((fstC lens (k+1)+cnt lens (k+1):Nat):Int)]/\Step (fun b=>S b) H1 H2:=by
     rw[<- qkd,<- odF_next,<- qm8,hn]
     exact ⟨⟨e1,e2,e3⟩,hW2,gtb,gcb,hS⟩
    refine qy ?_
    exact hFIN
  clear e1 e2 e3 hW2 gtb gcb hS
  rintro env H2 ⟨⟨e1,e2,e3⟩,hW2,gtb,gcb,hS⟩
  refine qo (fun K19 hK19=>?_)
  refine qi kz ?_
  simp[go_sem,e3]
  refine hK19 _ _ ?_
  have hw1:IntKind.i64.wrap ((k:Int)+1+1)=(k:Int)+1+1:=i64in _ oz oz
  exact ⟨15-(k+1),oz,k+1,rfl,oz,⟨by simp[go_sem,e1],by simp[go_sem,e2],by simp[go_sem,e3,hw1]⟩,hW2,gtb,gcb,hS⟩
 ·skip
  simp only[decide_eq_false_iff_not] at hb
  obtain rfl:k=15:=oz
  rw[qm6 lens hle] at hW2
  refine qy ?_
  refine hR _ _ ?_
  have hfin:=hSa.trans hS
  exact hfin.retP (r:=.tup []) gz ⟨rfl,hW2.mono (fun b hb=>.inl (.inl hb)),hfin⟩ gz
end Go.Proofs.YtfokgjhdndnnhaaGreatDoor
end W9S
namespace Go.Fl
def sumL:List Nat->Nat
 | []=>0
 | x::l=>x+sumL l
theorem qbf (a b:List Nat):sumL (a++b)=sumL a+sumL b:=by
 induction a with
 | nil=>simp[sumL]
 | cons x a ih=>simp only[List.cons_append,sumL,ih]; omega
theorem qdp {a b:List Nat} (h:a.Perm b):sumL a=sumL b:=by
 induction h with
 | nil=>rfl
 | cons x _ ih=>simp only[sumL,ih]
 | swap x y l=>simp only[sumL]; omega
 | trans _ _ h1 h2=>exact h1.trans h2
theorem qkh (k:Nat) (l:List Nat):sumL (l.map (k * ·))=k*sumL l:=by
 induction l with
 | nil=>rfl
 | cons x l ih=>simp only[List.map_cons,sumL,ih,Nat.mul_add]
theorem qca {α : Type} (f g : α -> Nat) (l:List α) (h : ∀ x∈l,f x=g x):sumL (l.map f)=sumL (l.map g):=by
 rw[List.map_congr_left h]
def wtL (n:Nat):Nat:=if n=0 then 0 else 2^(15-n)
theorem qki (x:Nat) (l:List Nat) (n:Nat):cnt (x::l) n=cnt l n+(if n≠0/\x=n then 1 else 0):=by
 unfold cnt
 by_cases h:n=0
 ·simp[h]
 ·rw[if_neg h,if_neg h,List.count_cons]
  by_cases h2:x=n
  ·simp[h,h2]
  ·simp[h2]
theorem qg2 (x:Nat) (l:List Nat) : ∀ n,ksum (x::l) n=ksum l n+(if x≠0/\x<=n then 2^(15-x) else 0)
 | 0=>by simp only[ksum]; rw[if_neg oz]
 | n+1=>by
  simp only[ksum]
  rw[qg2 x l n,qki,Nat.add_mul]
  by_cases h0:x=0
  ·rw[if_neg oz,if_neg oz,if_neg oz]; omega
  ·by_cases h1:x<=n
   ·rw[if_pos ⟨h0,h1⟩,if_neg oz,if_pos ⟨h0,oz⟩]; omega
   ·by_cases h2:x=n+1
    ·rw[if_neg oz,if_pos ⟨oz,h2⟩,if_pos ⟨h0,oz⟩,h2]; omega
    ·rw[if_neg oz,if_neg oz,if_neg oz]; omega
theorem qdq : ∀ l:List Nat,(∀ x∈l,x<=15)->ksum l 15=sumL (l.map wtL)
 | [],_=>by
  have : ∀ n,ksum [] n=0:=fun n=>by
   induction n with
   | zero=>rfl
   | succ n ih=>simp[ksum,ih,cnt]
  rw[this]; rfl
 | x::l,h=>by
  rw[qg2,qdq l fun y hy=>h y (List.mem_cons_of_mem _ hy)]
  have hx:=h x List.mem_cons_self
  simp only[List.map_cons,sumL,wtL]
  by_cases h0:x=0
  ·rw[if_neg oz,if_pos h0]; omega
  ·rw[if_pos ⟨h0,hx⟩,if_neg h0]; omega
theorem qna (f:Nat->Nat) (l:List Nat):sumL (l.map f)=sumL ((List.range l.length).map fun s=>f (l.getD s 0)):=by
 congr 1
 apply List.ext_getElem
 ·simp
 ·intro i h1 h2
  simp at h1
  simp[h1]
theorem qkj (l p:List Nat) (f:Nat->Nat) (hf:f 0=0) (hp:p.Perm ((List.range l.length).filter fun s=>decide (0<l.getD s 0))):sumL (l.map f)=sumL (p.map fun s=>f (l.getD s 0)):=by
 rw[qna,qdp (hp.map _)]
 generalize List.range l.length=r
 induction r with
 | nil=>rfl
 | cons s r ih =>
  simp only[List.map_cons,sumL,List.filter_cons]
  by_cases h:0<l.getD s 0
  ·rw[if_pos (by simpa using h)]
   simp only[List.map_cons,sumL,ih]
  ·rw[if_neg (by simpa using h),ih]
   have:l.getD s 0=0:=oz
   rw[this,hf]; omega
def bumpAll (out:List Nat) (s:List Nat):List Nat:=s.foldl (fun o i=>o.set i (o.getD i 0+1)) out
theorem qkk (s:List Nat) : ∀ out:List Nat,(bumpAll out s).length=out.length:=by
 induction s with
 | nil=>intro out; rfl
 | cons i s ih=>intro out; show (bumpAll (out.set i _) s).length=_; rw[ih,List.length_set]
theorem jm (l:List Nat) (i j v:Nat):(l.set i v).getD j 0=if i=j/\i<l.length then v else l.getD j 0:=by
 simp only[List.getD_eq_getElem?_getD,List.getElem?_set]
 by_cases h:i=j
 ·subst h
  by_cases h2:i<l.length
  ·simp[h2]
  ·simp[h2]
 ·simp[h]
theorem bump_at (s:List Nat) : ∀ (out:List Nat),s.Nodup->(∀ i∈s,i<out.length) -> ∀ j,(bumpAll out s).getD j 0=out.getD j 0+(if j∈s then 1 else 0):=by
 induction s with
 | nil=>intro out _ _ j; simp[bumpAll]
 | cons i s ih =>
  intro out hn hb j
  have hi:=hb i List.mem_cons_self
  rw[List.nodup_cons] at hn
  show (bumpAll (out.set i (out.getD i 0+1)) s).getD j 0=_
  rw[ih _ hn.2 (fun k hk=>by rw[List.length_set]; exact hb k (List.mem_cons_of_mem _ hk)),jm]
  by_cases h:i=j
  ·subst h
   rw[if_pos ⟨rfl,hi⟩,if_neg hn.1,if_pos List.mem_cons_self]
  ·rw[if_neg (fun c=>h c.1)]
   by_cases h2:j∈s
   ·rw[if_pos h2,if_pos (List.mem_cons_of_mem _ h2)]
   ·rw[if_neg h2,if_neg (by simp[h2]; omega)]
abbrev NodeL:=Nat × List Nat
def insN (x:NodeL) (r:List NodeL):List NodeL:=r.takeWhile (fun y=>decide (y.1<=x.1))++x::r.dropWhile (fun y=>decide (y.1<=x.1))
theorem zn (x:NodeL) (r:List NodeL):(insN x r).length=r.length+1:=by
 unfold insN
 have:=congrArg List.length (List.takeWhile_append_dropWhile (p:=fun y:NodeL=>decide (y.1<=x.1)) (l:=r))
 rw[List.length_append] at this
 simp only[List.length_append,List.length_cons]
 omega
theorem qbg (x:NodeL) (r:List NodeL):(insN x r).Perm (x::r):=by
 unfold insN
 refine List.perm_middle.trans ?_
 rw[List.takeWhile_append_dropWhile]
def bestGo:Nat->List NodeL->List Nat->List Nat
 | k+1,a::b::r,out=>bestGo k (insN (a.1+b.1,a.2++b.2) r) (bumpAll out (a.2++b.2))
 | _,_,out=>out
def bestL (p counts out:List Nat):List Nat:=bestGo p.length (p.map fun s=>(counts.getD s 0,[s])) out
structure KInv (K n:Nat) (p:List Nat) (nodes:List NodeL) (out:List Nat):Prop where
 len:out.length=n
 perm:(nodes.flatMap (·.2)).Perm p
 sum : ∀ x∈nodes,sumL (x.2.map fun s=>2^(K-out.getD s 0))=2^K
 low : ∀ s∈p,out.getD s 0+nodes.length<=K+1
 zero : ∀ s,s∉p->out.getD s 0=0
theorem KInv.step {K n:Nat} {p:List Nat} {a b:NodeL} {r:List NodeL} {out:List Nat} (hn:p.Nodup) (hb : ∀ s∈p,s<n) (h:KInv K n p (a::b::r) out):KInv K n p (insN (a.1+b.1,a.2++b.2) r) (bumpAll out (a.2++b.2)):=by
 have hp0:((a.2++b.2)++r.flatMap (·.2)).Perm p:=by have:=h.perm; simp only[List.flatMap_cons] at this; rw[List.append_assoc]; exact this
 have hnd:((a.2++b.2)++r.flatMap (·.2)).Nodup:=hp0.nodup_iff.2 hn
 have hin : ∀ i∈a.2++b.2,i∈p:=fun i hi=>hp0.mem_iff.1 (List.mem_append_left _ hi)
 have hat:=bump_at (a.2++b.2) out (List.nodup_append.1 hnd).1 (fun i hi=>by rw[h.len]; exact hb i (hin i hi))
 refine ⟨by rw[qkk,h.len],?_,?_,?_,?_⟩
 ·have:=((qbg (a.1+b.1,a.2++b.2) r).flatMap_right (·.2))
  refine this.trans ?_
  simpa using hp0
 ·intro x hx
  have hx':=(qbg _ r).mem_iff.1 hx
  rcases List.mem_cons.1 hx' with rfl | hx'
  ·have h1:=h.sum a List.mem_cons_self
   have h2:=h.sum b (List.mem_cons_of_mem _ List.mem_cons_self)
   have h3:2*sumL ((a.2++b.2).map fun s=>2^(K-(bumpAll out (a.2++b.2)).getD s 0))=sumL ((a.2++b.2).map fun s=>2^(K-out.getD s 0)):=by
    rw[<- qkh,List.map_map]
    refine qca _ _ _ fun s hs=>?_
    simp only[Function.comp_apply]
    rw[hat s,if_pos hs]
    have:=h.low s (hin s hs)
    simp only[List.length_cons] at this
    rw[<- Nat.pow_succ']
    congr 1
    omega
   have h4:sumL ((a.2++b.2).map fun s=>2^(K-out.getD s 0))=2^K+2^K:=by rw[List.map_append,qbf,h1,h2]
   rw[h4] at h3
   have h5:sumL ((a.2++b.2).map fun s=>2^(K-(bumpAll out (a.2++b.2)).getD s 0))=2^K:=oz
   exact h5
  ·have h1:=h.sum x (List.mem_cons_of_mem _ (List.mem_cons_of_mem _ hx'))
   rw[<- h1]
   refine qca _ _ _ fun s hs=>?_
   rw[hat s,if_neg ?_]
   ·rfl
   ·intro hs2
    exact (List.nodup_append.1 hnd).2.2 s hs2 s (List.mem_flatMap.2 ⟨x,hx',hs⟩) rfl
 ·intro s hs
  rw[hat s,zn]
  have:=h.low s hs
  simp only[List.length_cons] at this
  split <;> omega
 ·intro s hs
  rw[hat s,h.zero s hs,if_neg (fun h2=>hs (hin s h2))]
theorem qe1 {K n:Nat} {p:List Nat} (hn:p.Nodup) (hb : ∀ s∈p,s<n) : ∀ (k:Nat) (nodes:List NodeL) (out:List Nat),nodes.length<=k+1->nodes ≠ []->KInv K n p nodes out -> ∃ x,KInv K n p [x] (bestGo k nodes out)
 | 0,[x],out,_,_,h=>⟨x,h⟩
 | 0,_::_::_,_,hl,_,_=>by simp at hl
 | _+1,[x],out,_,_,h=>⟨x,h⟩
 | k+1,a::b::r,out,hl,_,h=>by
  have hs:=h.step hn hb
  exact qe1 hn hb k _ _ (by rw[zn]; simp only[List.length_cons] at hl; omega) (by intro e; have:=congrArg List.length e; rw[zn] at this; simp at this) hs
 | _,[],_,_,hne,_=>absurd rfl hne
theorem qcb (K n:Nat) (p counts:List Nat) (hn:p.Nodup) (hb : ∀ s∈p,s<n) (hp:p ≠ []) (hK:p.length<=K+1) :
  (bestL p counts (List.replicate n 0)).length=n/\sumL (p.map fun s=>2^(K-(bestL p counts (List.replicate n 0)).getD s 0))=2^K/\(∀ s∈p,(bestL p counts (List.replicate n 0)).getD s 0<=K) /\ ∀ s,s∉p->(bestL p counts (List.replicate n 0)).getD s 0=0:=by
 have hz : ∀ s,(List.replicate n 0).getD s 0=0:=fun s=>by
  rw[List.getD_eq_getElem?_getD,List.getElem?_replicate]
  split <;> rfl
 have h0:KInv K n p (p.map fun s=>(counts.getD s 0,[s])) (List.replicate n 0):=by
  refine ⟨by simp,?_,?_,?_,fun s _=>hz s⟩
  ·rw[List.flatMap_map]
   simp
  ·intro x hx
   obtain ⟨s,_,rfl⟩:=List.mem_map.1 hx
   simp only[List.map_cons,List.map_nil,sumL,hz]
   simp
  ·intro s _
   rw[hz,List.length_map]
   omega
 obtain ⟨x,h⟩:=qe1 hn hb p.length _ _ (by simp) (by simpa using hp) h0
 have hperm:x.2.Perm p:=by have:=h.perm; simpa using this
 refine ⟨h.len,?_,?_,h.zero⟩
 ·have:=h.sum x List.mem_cons_self
  rw[<- this]
  exact (qdp (hperm.map _)).symm
 ·intro s hs
  have:=h.low s hs
  simp only[List.length_cons,List.length_nil] at this
  unfold bestL
  omega
structure GoodL (M n:Nat) (p out:List Nat):Prop where
 len:out.length=n
 pos : ∀ s∈p,1<=out.getD s 0
 le : ∀ s,out.getD s 0<=M
 zero : ∀ s,s∉p->out.getD s 0=0
 whole:WholeL out
theorem qas {n:Nat} {p out:List Nat} (hl:out.length=n) (hn:p.Nodup) (hpos : ∀ s∈p,1<=out.getD s 0) (hz : ∀ s,s∉p->out.getD s 0=0):p.Perm ((List.range out.length).filter fun s=>decide (0<out.getD s 0)):=by
 rw[List.perm_ext_iff_of_nodup hn (List.nodup_range.filter _)]
 intro s
 rw[List.mem_filter,List.mem_range,decide_eq_true_iff]
 constructor
 ·intro h
  have:=hpos s h
  exact ⟨zX oz,oz⟩
 ·rintro ⟨_,h⟩
  by_cases hs:s∈p
  ·exact hs
  ·rw[hz s hs] at h; omega
theorem ge_two {f:Nat->Nat} {p:List Nat} {M:Nat} (h2:2<=p.length) (hpos : ∀ s∈p,1<=f s) (hs:sumL (p.map f)=M) : ∀ s∈p,f s<M:=by
 intro s hs'
 obtain ⟨a,b,rfl⟩:=List.append_of_mem hs'
 rw[List.map_append,qbf,List.map_cons] at hs
 simp only[sumL] at hs
 have hne : ∀ q:List Nat,(∀ s∈q,1<=f s)->q.length<=sumL (q.map f):=by
  intro q
  induction q with
  | nil=>intro _; simp[sumL]
  | cons x q ih =>
   intro h
   have h1:=h x List.mem_cons_self
   have h3:=ih fun y hy=>h y (List.mem_cons_of_mem _ hy)
   simp only[List.map_cons,sumL,List.length_cons]
   omega
 have e1:=hne a fun x hx=>hpos x (List.mem_append_left _ hx)
 have e2:=hne b fun x hx=>hpos x (List.mem_append_right _ (List.mem_cons_of_mem _ hx))
 simp only[List.length_append,List.length_cons] at h2
 omega
theorem qnb (M n:Nat) (hM:M<=15) (p counts:List Nat) (hn:p.Nodup) (hb : ∀ s∈p,s<n) (h2:2<=p.length) (hM2 : ∀ s∈p,(bestL p counts (List.replicate n 0)).getD s 0<=M):GoodL M n p (bestL p counts (List.replicate n 0)):=by
 have hp:p ≠ []:=by intro e; rw[e] at h2; simp at h2
 have h15 : ∀ s∈p,(bestL p counts (List.replicate n 0)).getD s 0<=15:=fun s hs=>Nat.le_trans (hM2 s hs) hM
 obtain ⟨hl,hs,hle,hz⟩:=qcb (p.length+15) n p counts hn hb hp oz
 have hpos : ∀ s∈p,1<=(bestL p counts (List.replicate n 0)).getD s 0:=by
  intro s hs'
  have h1:=ge_two h2 (fun s _=>Nat.pow_pos dz) hs s hs'
  rcases Nat.eq_zero_or_pos ((bestL p counts (List.replicate n 0)).getD s 0) with h0 | h0
  ·rw[h0] at h1; simp at h1
  ·exact h0
 have hle15 : ∀ s,(bestL p counts (List.replicate n 0)).getD s 0<=15:=fun s=>by
  by_cases hs' : s∈p
  ·exact h15 s hs'
  ·rw[hz s hs']; omega
 have hleM : ∀ s,(bestL p counts (List.replicate n 0)).getD s 0<=M:=fun s=>by
  by_cases hs' : s∈p
  ·exact hM2 s hs'
  ·rw[hz s hs']; omega
 refine ⟨hl,hpos,hleM,hz,.inl ?_⟩
 rw[qdq _ fun x hx=>by
  obtain ⟨i,hi,rfl⟩:=List.mem_iff_getElem.1 hx
  have:=hle15 i
  rwa [qU hi] at this]
 rw[qkj _ p wtL rfl (qas hl hn hpos hz)]
 have h3:2^p.length*sumL (p.map fun s=>wtL ((bestL p counts (List.replicate n 0)).getD s 0))=2^(p.length+15):=by
  rw[<- hs,<- qkh,List.map_map]
  refine qca _ _ _ fun s hs'=>?_
  have h1:=hpos s hs'
  have h4:=h15 s hs'
  simp only[Function.comp_apply,wtL]
  rw[if_neg oz,<- Nat.pow_add]
  congr 1
  omega
 rw[Nat.pow_add] at h3
 exact Nat.eq_of_mul_eq_mul_left (Nat.pow_pos dz) h3
end Go.Fl
