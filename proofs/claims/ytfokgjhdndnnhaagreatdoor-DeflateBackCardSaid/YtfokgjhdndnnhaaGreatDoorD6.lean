/- Contract: the lengths. -/
import Derived.Test.YtfokgjhdndnnhaaGreatDoorW21
import Derived.Test.YtfokgjhdndnnhaaGreatDoorW18
import Derived.Test.YtfokgjhdndnnhaaGreatDoorW3
set_option maxHeartbeats 1000000
set_option linter.unusedVariables false
set_option linter.unusedSimpArgs false
set_option maxRecDepth 20000
noncomputable section W22S
namespace Go.Proofs.YtfokgjhdndnnhaaGreatDoor
open Go Go.Fl Go.Proofs
theorem qad (counts:List Nat):(usedL counts).Perm (usedF counts counts.length):=qa6 _ _
theorem qdu (counts:List Nat):(usedL counts).Nodup:=(qad counts).nodup_iff.2 (List.nodup_range.filter _)
theorem qkn (counts:List Nat) : ∀ s∈usedL counts,s<counts.length:=fun s hs=>qky ((qad counts).mem_iff.1 hs)
theorem qe2 (counts:List Nat) : ∀ i,i<=counts.length->(usedF counts i).length=nposL (counts.take i)
 | 0,_=>rfl
 | i+1,h=>by
  rw[qd8 counts i oz,<- qe2 counts i oz]
  by_cases hp:0<counts.getD i 0
  ·rw[qh2 hp,if_pos hp,List.length_append]; rfl
  ·rw[qfk hp,if_neg hp]; rfl
theorem qg4 (counts:List Nat):(usedL counts).length=nposL counts:=by
 rw[(qad counts).length_eq,qe2 counts _ (Nat.le_refl _),List.take_of_length_le (Nat.le_refl _)]
theorem qne {counts:List Nat} {s:Nat} : s∈usedL counts↔0<counts.getD s 0:=by
 rw[(qad counts).mem_iff]
 unfold usedF
 rw[List.mem_filter,List.mem_range,decide_eq_true_iff]
 exact ⟨fun h=>h.2,fun h=>⟨zX h,h⟩⟩
theorem qcd {H:Heap} {O n:Nat} {l:List Nat} {d:Nat->Prop} (g:H.get O=some (iV l)) (hd : ∀ b,d b) (hn:l.length=n):Froz H d (.ms O 0 n 1) (iA l):=by
 subst hn
 exact Froz.row g (hd _) (by rw[qK]; omega) (by rw[List.drop_zero,List.take_of_length_le (by rw[qK]; omega)])
def lensOf (most:Nat) (counts:List Nat):List Nat:=lengthsL most (usedL counts) counts
theorem zC {most:Nat} {counts:List Nat} (h1:1<=most) (h2:most<=15) (h:nposL counts<=2^most):GoodL most counts.length (usedL counts) (lensOf most counts) :=
 qg3 most h1 h2 (usedL counts) counts (qdu counts) (qkn counts) (by rw[qg4]; exact h)
theorem Lengths_s (counts:List Nat) (most:Nat) (h0:0<counts.length) (hl:counts.length<=320) (hm1:1<=most) (hm2:most<=15) (hle : ∀ i,counts.getD i 0<=1073741824) (hnp:nposL counts<=2^most):SCalls Tryz.prog 76 [iA counts,.int most] Heap.empty (.tup [iA (lensOf most counts),.int 0]) Heap.empty:=by
 obtain ⟨n,hn⟩ : ∃ n,counts.length=n:=⟨_,rfl⟩
 have hn8:(n:Int)*8<=140737488355328:=oz
 have hn9:(n:Int)<=140737488355328:=oz
 have cm:=may_s counts most hl hm1 hm2 hle hnp
 have cu:=fun H:Heap=>qO (used_s counts oz hle) (by simp[zI]) (by simp[zI]) H
 obtain ⟨p,hp⟩ : ∃ p,usedL counts=p:=⟨_,rfl⟩
 have hpn:=qdu counts
 have hpl:=qkn counts
 have hpm:p.length<=320:=by rw[<- hp,qg4]; have:=qck counts; omega
 rw[hp] at cu hpn hpl
 obtain ⟨pl,hplq⟩ : ∃ k,p.length=k:=⟨_,rfl⟩
 have hpL:(iV p).length=pl:=by rw[qK,hplq]
 have hlo:lensOf most counts=lengthsL most p counts:=by unfold lensOf; rw[hp]
 rw[hlo]
 unfold iA at cm cu |-
 rw[hn] at cm cu
 rw[hplq] at cu
 refine qE (sz:=43) (Tryz.call76) Tryz.func76 rfl (Nat.zero_le _) kz (fun R hR=>?_)
 refine qg (fun K1 hK1=>?_)
 refine qi kz ?_
 simp[go_sem]
 refine hK1 _ _ ?_
 try clear hK1 K1
 refine qg (fun K2 hK2=>?_)
 refine qg (fun K3 hK3=>?_)
 refine qi kz ?_
 refine qI 3 (fun K4 hK4=>?_)
 simp[go_sem,hn]
 refine ⟨_,_,cm,?_⟩
 refine hK4 _ _ ?_
 clear hK4 K4
 simp[go_sem,hn]
 refine hK3 _ _ ?_
 try clear hK3 K3
 refine qj (b:=false) gz (fun h=>by cases h) (fun _=>?_)
 refine ql ?_
 refine hK2 _ _ ?_
 try clear hK2 K2
 refine qg (fun K5 hK5=>?_)
 refine qi kz ?_
 refine qI 2 (fun K6 hK6=>?_)
 simp[go_sem,hn]
 refine ⟨_,_,cu _,?_⟩
 refine hK6 _ _ ?_
 clear hK6 K6
 simp[go_sem,hn]
 refine hK5 _ _ ?_
 try clear hK5 K5
 refine qw (fun env H=>(env 0 = .vs n 1 (iV counts)/\env 1 = .int most/\env 6 = .vs pl 1 (iV p)/\env 7 = .ms 0 0 n 1)/\H.get 0=some (iV (List.replicate n 0))/\Step (fun _=>False) Heap.empty H) ?_ ?_
 ·skip
  refine qo (fun K8 hK8=>?_)
  refine qi kz ?_
  simp[go_sem,hn8,hn9,qR]
  refine hK8 _ _ ?_
  refine ⟨⟨by simp[go_sem,hn],gz,gz,gz⟩,by simp[go_sem,qR],(Step.refl _ _).alloc (by exact jb _ _)⟩
 rintro env H ⟨⟨e0,e1,e6,e7⟩,gO,hS⟩
 refine qg (fun K9 hK9=>?_)
 refine qg (fun K10 hK10=>?_)
 by_cases h1:pl=1
 ·skip
  subst h1
  refine qi kz ?_
  simp[go_sem,e6]
  refine hK10 _ _ ?_
  try clear hK10 K10
  refine qj (b:=true) gz (fun _=>?_) (fun h=>by cases h)
  refine qw (fun env H=>env 7 = .ms 0 0 n 1/\H.get 0=some (iV (lengthsL most p counts))) ?_ ?_
  ·skip
   obtain ⟨s,rfl⟩ : ∃ s,p = [s]:=by
    match p,hplq with
    | [s],_=>exact ⟨s,rfl⟩
   have hs:=hpl s List.mem_cons_self
   have hsi:(s:Int)<n:=oz
   have hs1:s+1<=n:=oz
   have hiv:=zA (List.replicate n 0) s (by rw[List.length_replicate]; omega) 1
   push_cast at hiv
   have hoL:(iV (List.replicate n 0)).length=n:=by rw[qK,List.length_replicate]
   have hi1:iV [s] = [.int (s:Nat)]:=rfl
   have hll:lengthsL most [s] counts=(List.replicate n 0).set s 1:=by unfold lengthsL; rw[if_pos (by simp),hn]; rfl
   refine qo (fun K12 hK12=>?_)
   refine qi kz ?_
   simp[go_sem,e6,e7,gO,hi1,hoL,hsi,hs1,hiv]
   refine hK12 _ _ ?_
   refine ⟨by simp[go_sem,e7],?_⟩
   rw[hll,Heap.get_set,if_pos rfl,gO]
   rfl
  rintro env H ⟨e7,gO⟩
  refine qg (fun K13 hK13=>?_)
  refine qi kz ?_
  simp[go_sem,e7]
  refine hK13 _ _ ?_
  try clear hK13 K13
  refine qx ?_
  simp only[go_sem]
  refine hR _ _ ?_
  have hll9:(lengthsL most p counts).length=n:=by
   have:=(zC hm1 hm2 hnp).len
   rw[hlo,hn] at this
   exact this
  refine zD (v:=.tup [.ms 0 0 n 1,.int 0]) gz (.tupL (.cons (qcd gO (fun _=>Nat.zero_le _) hll9) (.cons (.same _) .nil))) (qP _) (Nat.zero_le _) (by simp[go_sem]; exact jb _ _)
 ·skip
  have h2 : ¬ ((pl:Int)=1):=oz
  refine qi kz ?_
  simp[go_sem,e6,h1,h2]
  refine hK10 _ _ ?_
  try clear hK10 K10
  refine qj (b:=false) (by simp[go_sem,h1,h2]) (fun h=>by cases h) (fun _=>?_)
  refine ql ?_
  refine hK9 _ _ ?_
  try clear hK9 K9
  refine qw (fun env H=>(env 0 = .vs n 1 (iV counts)/\env 1 = .int most/\env 6 = .vs pl 1 (iV p)/\env 7 = .ms 0 0 n 1)/\H.get 0=some (iV (bestL p counts (List.replicate n 0)))) ?_ ?_
  ·skip
   have cb:=best_p (S:=fun _=>False) (O:=0) (no:=n) p counts id oz hpn hpl hn oz hle gO (fun b h=>h.elim)
   unfold iA at cb
   rw[hn,hplq] at cb
   refine qo (fun K15 hK15=>?_)
   refine qp kz ?_
   simp[go_sem,e0,e6,e7]
   refine ⟨_,cb,?_⟩
   rintro _ H3 hn3 ⟨rfl,gB,hS3⟩
   refine hK15 _ _ ?_
   exact ⟨⟨by simp[go_sem,e0],by simp[go_sem,e1],by simp[go_sem,e6],by simp[go_sem,e7]⟩,gB⟩
  clear e0 e1 e6 e7 gO hS
  rintro env H ⟨⟨e0,e1,e6,e7⟩,gO⟩
  have hbl9:(bestL p counts (List.replicate n 0)).length=n:=by
   rcases Nat.eq_zero_or_pos pl with h0 | h0
   ·have hp0:p = []:=List.length_eq_zero_iff.1 oz
    rw[hp0]
    show (List.replicate n 0).length=n
    simp
   ·exact (qcb p.length n p counts hpn (fun s hs=>by have:=hpl s hs; omega) (by intro e; rw[e] at hplq; simp at hplq; omega) oz).1
  obtain ⟨bl,hbq⟩ : ∃ X,bestL p counts (List.replicate n 0)=X:=⟨_,rfl⟩
  rw[hbq] at gO hbl9
  have hll:lengthsL most p counts=if 0<pl/\most<maxL bl then flatL p bl else bl:=by unfold lengthsL; rw[if_neg oz,hn,hplq,hbq]
  refine qw (fun env H=>env 7 = .ms 0 0 n 1/\H.get 0=some (iV (lengthsL most p counts))) ?_ ?_
  ·skip
   refine qg (fun K18 hK18=>?_)
   rcases (by omega:pl=0\/(0<pl/\most<maxL bl)\/(0<pl /\ ¬ most<maxL bl)) with h0 | ⟨h0,h3⟩ | ⟨h0,h3⟩
   ·skip
    have d1 : ¬ ((0:Int)<(pl:Int)):=oz
    have d2 : ¬ (0<pl):=oz
    have g9:H.get 0=some (iV (if 0<pl/\most<maxL bl then flatL p bl else bl)):=by rw[if_neg (fun h=>d2 h.1)]; exact gO
    refine qi kz ?_
    simp[go_sem,e1,e6,e7,d1,d2]
    refine hK18 _ _ ?_
    try clear hK18 K18
    refine qj (b:=false) gz (fun h=>by cases h) (fun _=>?_)
    refine ql ?_
    exact ⟨by simp[go_sem,e7],by rw[hll]; exact g9⟩
   ·skip
    have d1:((0:Int)<(pl:Int)):=oz
    have cx:=max_w hbl9 oz oz gO
    obtain ⟨mx,hmx⟩ : ∃ m,maxL bl=m:=⟨_,rfl⟩
    rw[hmx] at cx
    have d3:(most:Int)<mx:=oz
    have cf:=flat_p (S:=fun _=>False) (O:=0) p bl id oz oz (fun s hs=>by have:=hpl s hs; omega) oz gO
    unfold iA at cf
    rw[hbl9,hplq] at cf
    refine qi kz ?_
    refine qI 6 (fun K19 hK19=>?_)
    simp[go_sem,e1,e6,e7,d1,h0,d3]
    refine ⟨_,_,cx,?_⟩
    refine hK19 _ _ ?_
    clear hK19 K19
    simp[go_sem,e1,e6,e7,d1,h0,d3]
    refine hK18 _ _ ?_
    try clear hK18 K18
    refine qj (b:=true) gz (fun _=>?_) (fun h=>by cases h)
    refine qo (fun K20 hK20=>?_)
    refine qp kz ?_
    simp[go_sem,e6,e7]
    refine ⟨_,cf,?_⟩
    rintro _ H3 hn3 ⟨rfl,gF,hS3⟩
    have g9:H3.get 0=some (iV (if 0<pl/\most<maxL bl then flatL p bl else bl)):=by rw[if_pos ⟨h0,h3⟩]; exact gF
    refine hK20 _ _ ?_
    exact ⟨by simp[go_sem,e7],by rw[hll]; exact g9⟩
   ·skip
    have d1:((0:Int)<(pl:Int)):=oz
    have cx:=max_w hbl9 oz oz gO
    have g9:H.get 0=some (iV (if 0<pl/\most<maxL bl then flatL p bl else bl)):=by rw[if_neg (fun h=>h3 h.2)]; exact gO
    obtain ⟨mx,hmx⟩ : ∃ m,maxL bl=m:=⟨_,rfl⟩
    rw[hmx] at cx
    have d3 : ¬ ((most:Int)<mx):=oz
    refine qi kz ?_
    refine qI 6 (fun K22 hK22=>?_)
    simp[go_sem,e1,e6,e7,d1,h0,d3]
    refine ⟨_,_,cx,?_⟩
    refine hK22 _ _ ?_
    clear hK22 K22
    simp[go_sem,e1,e6,e7,d1,h0,d3]
    refine hK18 _ _ ?_
    try clear hK18 K18
    refine qj (b:=false) gz (fun h=>by cases h) (fun _=>?_)
    refine ql ?_
    exact ⟨by simp[go_sem,e7],by rw[hll]; exact g9⟩
  clear e0 e1 e6 e7 gO
  rintro env H ⟨e7,gO⟩
  refine qg (fun K23 hK23=>?_)
  refine qi kz ?_
  simp[go_sem,e7]
  refine hK23 _ _ ?_
  try clear hK23 K23
  refine qx ?_
  simp only[go_sem]
  refine hR _ _ ?_
  have hll9:(lengthsL most p counts).length=n:=by
   have:=(zC hm1 hm2 hnp).len
   rw[hlo,hn] at this
   exact this
  refine zD (v:=.tup [.ms 0 0 n 1,.int 0]) gz (.tupL (.cons (qcd gO (fun _=>Nat.zero_le _) hll9) (.cons (.same _) .nil))) (qP _) (Nat.zero_le _) (by simp[go_sem]; exact jb _ _)
end Go.Proofs.YtfokgjhdndnnhaaGreatDoor
end W22S
noncomputable section Fl55S
namespace Go.Fl
open Go
section
variable {P:Program} {env:Env} {H:Heap} {d:Option Tmp} {ty:TypeId} {pos:String} {af:Array Edge}
theorem qcv {x y z:Operand} {t e:TypeId} {len sz h:Nat} {cells:List AV} (ht:P.underlying t=some (.slice e)) (hs:csz P e=some sz) (hx:aev env x = .vs len sz cells) (hy:aev env y = .int (h:Nat)) (hz:aev env z = .int (h:Nat)) (h0:0<h) (hh:h<=len) :
  OpSem P ⟨d,.slice t x none (some y) (some z),ty,pos,af,none⟩ env H (.vs h sz (cells.take (h*sz))) H:=by
 refine zU fun ρ I w cv hr hv=>?_
 have v1:=hv x
 have v2:=hv y
 have v3:=hv z
 rw[hx] at v1
 rw[hy] at v2
 rw[hz] at v3
 have e2:=v2.eq_sc
 have e3:=v3.eq_sc
 generalize hc:cv x=u at v1
 cases v1 with
 | vs0=>omega
 | vs h1 hcp h2 h3 h4 h5 =>
  rename_i cb off cap c e0 fz
  have hb1:=qak (P:=P) (ρ := ρ) (I:=I) (w:=w) (d:=cap) (n:=h) (y:=cap) (lo:=some (.int (h:Nat))) (v:=some (.int .i64 (h:Nat))) (code:=.slice3Acap) (by simp[abound]) (.sc _) oz
  have hb2:=qak (P:=P) (ρ := ρ) (I:=I) (w:=w) (d:=len) (n:=h) (y:=h) (lo:=some (.int (h:Nat))) (v:=some (.int .i64 (h:Nat))) (code:=.slice3B) (by simp[abound]) (.sc _) (Nat.le_refl _)
  simp only at hb1 hb2
  have hbn:(Instr.sliceBounds true len cap none (some (.int .i64 (h:Nat))) (some (.int .i64 (h:Nat)))).run P w = .ok (0,h,h) w:=by
   unfold Instr.sliceBounds
   simp[hb1,hb2]
  have hmul:h*sz<=len*sz:=Nat.mul_le_mul_right _ hh
  have htl:(cells.take (h*sz)).length=h*sz:=by rw[List.length_take,h3]; omega
  refine ⟨.slice (some ⟨cb,off,none⟩) h h,w,ρ,I,?_,.vs (cap:=h) h1 (Nat.le_refl _) h2 htl oz (fun i y hy=>?_),hr,Ext.refl _ _ _⟩
  ·have hz0 : ¬ h=0:=oz
   simp[execOp,hc,Instr.sliceAt,run_underlying ht,Instr.slice,e2,e3,hbn,zk P hs,hz0,add_plain]
  ·have hi:=(List.getElem?_eq_some_iff.1 hy).1
   rw[List.getElem?_take_of_lt oz] at hy
   exact h5 i y hy
end
end Go.Fl
end Fl55S
set_option maxRecDepth 20000
noncomputable section W4S
namespace Go.Proofs.YtfokgjhdndnnhaaGreatDoor
open Go Go.Fl Go.Proofs
theorem Code_H (l:List Nat) (s:Nat) (h:0<l.getD s 0) (hl:l.length<=1000000) (H:Heap):SCalls Tryz.prog 101 [tabA l,.int s] H (.tup [.int (codeOf l s:Nat),.int (l.getD s 0:Nat)]) H:=qO (Code_s l s h hl) (by simp[go_sem,zT]) gz H
theorem nat_bit (b:Nat) (h:b<2):natBits 1 b = [b==1]:=by rcases (by omega:b=0\/b=1) with rfl | rfl <;> rfl
structure LensOk (l:List Nat):Prop where
 len:l.length<=1000000
 le : ∀ s,l.getD s 0<=15
 whole:WholeL l
theorem LensOk.code {l:List Nat} (h:LensOk l) {s:Nat} (hs:0<l.getD s 0):codeOf l s<2^l.getD s 0:=code_lt l s (qeh l h.whole) hs (h.le s)
theorem qN (l:List Nat) (s:Nat):(symBits l s).length=l.getD s 0:=qgn _ _
theorem qg5 {S:Nat->Prop} {w s:Nat} {l:List Bool} {lens:List Nat} (hk:LensOk lens) (h:0<lens.getD s 0) (hl:l.length+15<=1073741824) {H:Heap} (hW0:WrN S H w l):SCallsP Tryz.prog 72 [.ptr w 0,tabA lens,.int s] H (fun r H'=>r = .tup []/\WrN S H' w (l++symBits lens s)/\Step S H H'):=by
 obtain ⟨n,hn⟩ : ∃ n,lens.getD s 0=n:=⟨_,rfl⟩
 obtain ⟨x,hx⟩ : ∃ x,codeOf lens s=x:=⟨_,rfl⟩
 have cc:=fun H=>Code_H lens s h hk.len H
 have hn15:=hk.le s
 have hxl:=hk.code h
 have hsb:symBits lens s=msb n x:=by unfold symBits; rw[hn,hx]
 rw[hsb]
 rw[hn] at cc h hn15 hxl
 rw[hx] at cc hxl
 have hxl2:x<2^15:=Nat.lt_of_lt_of_le hxl (Nat.pow_le_pow_right dz hn15)
 have hwn:IntKind.i64.wrap ((n:Int)-1)=(n:Int)-1:=i64in _ oz oz
 refine qA (sz:=27) (Tryz.call72) Tryz.func72 rfl kz (fun R hR=>?_)
 refine qg (fun K1 hK1=>?_)
 refine qi kz ?_
 refine qI 3 (fun K2 hK2=>?_)
 simp[go_sem,tabA]
 refine ⟨_,_,cc _,?_⟩
 refine hK2 _ _ ?_
 clear hK2 K2
 simp[go_sem,tabA]
 refine hK1 _ _ ?_
 try clear hK1 K1
 refine qg (fun K3 hK3=>?_)
 refine qi kz ?_
 simp[go_sem,hwn]
 refine hK3 _ _ ?_
 try clear hK3 K3
 refine qm ?_
 refine qC (Inv:=fun m env H2 => ∃ (j:Nat) (l2:List Bool),j=m/\j<=n/\l2++msb j x=l++msb n x/\env 0 = .ptr w 0/\env 6 = .int x/\env 8 = .int ((j:Int)-1)/\WrN S H2 w l2/\Step S H H2) ?_ (n:=n) (⟨n,l,rfl,Nat.le_refl _,rfl,gz,gz,gz,hW0,Step.refl _ _⟩)
 rintro m env H2 ⟨j,l2,rfl,hj,hl2,e0,e6,e8,hW,hS⟩
 refine qg (fun K4 hK4=>?_)
 refine qg (fun K5 hK5=>?_)
 refine qi kz ?_
 simp[go_sem,e8]
 refine hK5 _ _ ?_
 try clear hK5 K5
 have hdj:((1:Int)<=(j:Int))=(1<=j):=propext ⟨fun h=>by omega,fun h=>by omega⟩
 refine qj (b:=decide (1<=j)) (by simp[go_sem,hdj]) (fun hb=>?_) (fun hb=>?_)
 ·skip
  simp only[decide_eq_true_eq] at hb
  obtain ⟨i,rfl⟩ : ∃ i,j=i+1:=⟨j-1,oz⟩
  have hw1:IntKind.i64.wrap ((i:Int)-1)=(i:Int)-1:=i64in _ oz oz
  have e8b:env 8 = .int (i:Int):=by rw[e8]; simp
  have hlen2:=congrArg List.length hl2
  rw[List.length_append,List.length_append,qgn,qgn] at hlen2
  obtain ⟨xi,hxi⟩ : ∃ y,x/2^i=y:=⟨_,rfl⟩
  have hsh:bshr .i64 (x:Int) (i:Int)=(xi:Int):=by rw[jG x i oz,hxi]
  have hxil:xi<2^63:=by rw[<- hxi]; exact Nat.lt_of_le_of_lt (Nat.div_le_self _ _) (Nat.lt_of_lt_of_le hxl2 dz)
  obtain ⟨b,hbq⟩ : ∃ b,xi%2=b:=⟨_,rfl⟩
  have hb2:b<2:=oz
  have hba:bits .and .i64 (xi:Int) 1=(b:Int):=by have:=qf1 xi hxil; rw[hbq] at this; exact this
  have cp:=qar S w 1 b l2 oz oz oz hW
  rw[nat_bit b hb2] at cp
  refine ql ?_
  refine hK4 _ _ ?_
  try clear hK4 K4
  refine qg (fun K6 hK6=>?_)
  refine qm ?_
  refine qp kz ?_
  simp[go_sem,e0,e6,e8b,hsh,hba]
  refine ⟨_,cp,?_⟩
  clear hW
  rintro _ H3 hn0 ⟨rfl,hW,hS3⟩
  refine hK6 _ _ ?_
  try clear hK6 K6
  refine qo (fun K8 hK8=>?_)
  refine qi kz ?_
  simp[go_sem,e8b,hw1]
  refine hK8 _ _ ?_
  exact ⟨i,oz,i,l2 ++ [b==1],rfl,oz,by rw[List.append_assoc,<- hl2]; simp[msb,hxi,hbq],by simp[go_sem,e0],by simp[go_sem,e6],by simp[go_sem,hw1],hW,hS.trans hS3⟩
 ·skip
  simp only[decide_eq_false_iff_not] at hb
  obtain rfl:j=0:=oz
  have hfin:l2=l++msb n x:=by rw[<- hl2]; simp[msb]
  subst hfin
  refine qy ?_
  refine hR _ _ ?_
  exact hS.retP (r:=.tup []) gz ⟨rfl,hW,hS⟩ gz
theorem wadd_p {S:Nat->Prop} {w:Nat} {l:List Bool} (b:List UInt8) {H:Heap} (hW:WrN S H w l) (hl:l.length+8*b.length<=1073741816):SCallsP Tryz.prog 69 [.ptr w 0,bA b] H (fun r H'=>r = .tup []/\WrN S H' w (l++List.replicate (padN l.length) false++unpack b)/\Step S H H'):=by
 obtain ⟨x,h1,gw,hlen,hx,hSn⟩:=hW
 have hpl:(pack l).length<=134217727:=by rw[zF]; unfold bytesOf; omega
 have hpl8:8*(pack l).length<=l.length+7:=by rw[zF]; unfold bytesOf; omega
 have hgw:=Heap.lt_of_get gw
 obtain ⟨bo,hg,hbo⟩:=WrN.grown hx
 have ha:=qL (P:=Tryz.prog) (x:=bA b) (u:=25) tU25 tS5 tB5 tZ5 rfl (zl tU25 (by rw[qQ]; omega)) hg oz oz (yc b)
 have gr:(H.regrow bo (bV (pack l)++bV b)).get w=some [x,.int l.length,atF]:=qY gw (fun e=>(hbo w e).2 rfl)
 have h8:IntKind.i64.wrap (8*(((pack l).length:Int)+(b.length:Int)))=8*(((pack l).length:Int)+(b.length:Int)):=i64in _ oz oz
 have hpk:pack (l++List.replicate (padN l.length) false++unpack b)=pack l++b:=by rw[qfz _ _ (by rw[qej]; omega),qk7,yH]
 have hxl:x.leaf=true/\x.Lt H.next:=by
  rcases hx with ⟨rfl,_⟩ | ⟨q,_,_,rfl,gq⟩
  ·exact ⟨rfl,gz⟩
  ·exact ⟨rfl,by have:=Heap.lt_of_get gq; simp[go_sem,this]⟩
 refine qA (sz:=24) (Tryz.call69) Tryz.func69 rfl kz (fun R hR=>?_)
 refine qg (fun K1 hK1=>?_)
 refine qi kz ?_
 simp[go_sem]
 refine ⟨_,_,qg0 (z:=.int 0) gw,?_⟩
 refine hK1 _ _ ?_
 try clear hK1 K1
 refine qj (b:=true) gz (fun _=>?_) (fun h=>by cases h)
 refine qg (fun K3 hK3=>?_)
 refine qi kz ?_
 simp[go_sem,gw,gr,ha]
 refine hK3 _ _ ?_
 try clear hK3 K3
 refine qo (fun K4 hK4=>?_)
 refine qi kz ?_
 simp[go_sem,gr,gw,h8]
 refine hK4 _ _ ?_
 refine hR _ _ ?_
 have hSt:Step S H (((H.regrow bo (bV (pack l)++bV b)).set w [.ms H.next 0 ((pack l).length+b.length) 1,.int l.length,atF]).set w [.ms H.next 0 ((pack l).length+b.length) 1,.int (8*(((pack l).length:Int)+(b.length:Int))),atF]):=by
  refine ((((Step.refl S H).regrow (fun k hk=>(hbo k hk).1) ?_).set h1 (by simp[go_sem,atF])).set h1 (by simp[go_sem,atF]))
  intro y hy
  rcases List.mem_append.1 hy with h | h
  ·exact ja _ _ y h
  ·exact ja _ _ y h
 refine hSt.retP (r:=.tup []) gz ⟨rfl,⟨.ms H.next 0 ((pack l).length+b.length) 1,h1,?_,?_,.inr ⟨H.next,fun e=>by have:=hSn _ e; omega,oz,by rw[hpk,List.length_append],?_⟩,fun b hb=>by have:=hSn b hb; simp[go_sem]; omega⟩,hSt⟩ gz
 ·rw[Heap.get_set,if_pos rfl,Heap.get_set,if_pos rfl,gr,List.length_append,qej,zo]; simp; omega
 ·rw[List.length_append,qej,zo]; omega
 ·rw[Heap.get_set,if_neg oz,Heap.get_set,if_neg oz,hpk,jF]
  unfold Heap.regrow
  rw[Heap.get_alloc,Heap.delo_next,if_pos rfl]
end Go.Proofs.YtfokgjhdndnnhaaGreatDoor
end W4S
namespace Go.Fl
structure Tok where
 c:UInt8
 len:Nat
 back:Nat
abbrev Byt:=List UInt8
def gB (all:Byt) (i:Nat):UInt8:=all.getD i 0
def hashAt (all:Byt) (at_:Nat):Nat:=(((gB all at_).toNat <<< 10) ^^^ ((gB all (at_+1)).toNat <<< 5) ^^^ (gB all (at_+2)).toNat)%32768
abbrev Seen:=Nat->Nat
def noteS (all:Byt) (at_:Nat) (seen:Seen):Seen:=if at_+3<=all.length then fun x=>if x=hashAt all at_ then at_+1 else seen x else seen
def noteR (all:Byt):Nat->Nat->Seen->Seen
 | _,0,seen=>seen
 | at_,k+1,seen=>noteR all (at_+1) k (noteS all at_ seen)
def sameGo (all:Byt) (fr at_:Nat):Nat->Nat->Nat
 | 0,n=>n
 | f+1,n=>if at_+n<all.length/\n<258/\gB all (fr+n)=gB all (at_+n) then sameGo all fr at_ f (n+1) else n
def sameN (all:Byt) (fr at_:Nat):Nat:=sameGo all fr at_ 258 0
def tokAt (all:Byt) (at_:Nat) (seen:Seen):Tok :=
 if at_+3<=all.length/\1<=seen (hashAt all at_)/\at_-(seen (hashAt all at_)-1)<=32768/\3<=sameN all (seen (hashAt all at_)-1) at_ then
  ⟨0,sameN all (seen (hashAt all at_)-1) at_,at_-(seen (hashAt all at_)-1)⟩ else ⟨gB all at_,1,0⟩
def tokGo (all:Byt):Nat->Nat->Seen->List Tok
 | 0,_,_=>[]
 | f+1,at_,seen=>if at_<all.length then tokAt all at_ seen::tokGo all f (at_+(tokAt all at_ seen).len) (noteR all at_ (tokAt all at_ seen).len seen) else []
def tokensL (h b:Byt):List Tok:=tokGo (h++b) b.length h.length (noteR (h++b) 0 h.length fun _=>0)
def copyN (back:Nat):Nat->Byt->Byt
 | 0,acc=>acc
 | n+1,acc=>copyN back n (acc ++ [gB acc (acc.length-back)])
def Tok.run (t:Tok) (acc:Byt):Byt:=if t.back=0 then acc ++ [t.c] else copyN t.back t.len acc
def runT (l:List Tok) (acc:Byt):Byt:=l.foldl (fun a t=>t.run a) acc
def Tok.ok (t:Tok) (n:Nat):Prop:=(t.back=0/\t.len=1)\/(3<=t.len/\t.len<=258/\1<=t.back/\t.back<=32768/\t.back<=n)
def okT:List Tok->Nat->Prop
 | [],_=>True
 | t::r,n=>t.ok n/\okT r (n+t.len)
theorem qdv (all:Byt) (fr at_:Nat) : ∀ f n,n+f=258->n<=sameGo all fr at_ f n/\sameGo all fr at_ f n<=258/\(at_+n<=all.length->at_+sameGo all fr at_ f n<=all.length) /\ ∀ j,n<=j->j<sameGo all fr at_ f n->gB all (fr+j)=gB all (at_+j)
 | 0,n,h=>⟨Nat.le_refl _,by show n<=258; omega,id,fun j h1 h2=>absurd h2 (by show ¬ j<n; omega)⟩
 | f+1,n,h=>by
  simp only[sameGo]
  by_cases hc:at_+n<all.length/\n<258/\gB all (fr+n)=gB all (at_+n)
  ·rw[if_pos hc]
   obtain ⟨h1,h2,h3,h4⟩:=qdv all fr at_ f (n+1) oz
   refine ⟨oz,h2,fun _=>h3 oz,fun j j1 j2=>?_⟩
   rcases Nat.lt_or_ge n j with h5 | h5
   ·exact h4 j h5 j2
   ·have:j=n:=oz
    subst this; exact hc.2.2
  ·rw[if_neg hc]
   exact ⟨Nat.le_refl _,oz,id,fun j h1 h2=>absurd h2 oz⟩
theorem take_snoc (all:Byt) (i:Nat) (h:i<all.length):all.take (i+1)=all.take i ++ [gB all i]:=by
 rw[List.take_add_one,List.getElem?_eq_getElem h]
 unfold gB
 rw[List.getD_eq_getElem?_getD,List.getElem?_eq_getElem h]
 rfl
theorem gB_take (all:Byt) (i n:Nat) (h:i<n):gB (all.take n) i=gB all i:=by
 unfold gB
 rw[List.getD_eq_getElem?_getD,List.getD_eq_getElem?_getD,List.getElem?_take,if_pos h]
theorem qg6 (all:Byt) (fr:Nat) : ∀ (n at_ j:Nat),fr<at_->at_+j+n<=all.length->(∀ i,j<=i->i<j+n->gB all (fr+i)=gB all (at_+i))->copyN (at_-fr) n (all.take (at_+j))=all.take (at_+j+n)
 | 0,_,_,_,_,_=>rfl
 | n+1,at_,j,h1,h2,h3=>by
  have hl:(all.take (at_+j)).length=at_+j:=by rw[List.length_take]; omega
  simp only[copyN]
  rw[hl,gB_take all _ _ oz,show at_+j-(at_-fr)=fr+j by omega,h3 j (Nat.le_refl _) oz,<- take_snoc all (at_+j) oz]
  have:=qg6 all fr n at_ (j+1) h1 oz fun i i1 i2=>h3 i oz oz
  rw[show at_+(j+1)=at_+j+1 by omega] at this
  rw[this]
  congr 1
  omega
theorem noteS_le (all:Byt) (at_:Nat) (seen:Seen) (h : ∀ x,seen x<=at_) : ∀ x,noteS all at_ seen x<=at_+1:=by
 intro x
 unfold noteS
 have:=h x
 split
 ·show (if x=hashAt all at_ then at_+1 else seen x)<=_
  split <;> omega
 ·omega
theorem qbh (all:Byt) : ∀ (k at_:Nat) (seen:Seen),(∀ x,seen x<=at_) -> ∀ x,noteR all at_ k seen x<=at_+k
 | 0,_,_,h=>h
 | k+1,at_,seen,h=>fun x=>by
  have:=qbh all k (at_+1) _ (noteS_le all at_ seen h) x
  simp only[noteR]
  omega
theorem qe3 (all:Byt) (at_:Nat) (seen:Seen) (h:at_<all.length) (hs : ∀ x,seen x<=at_):(tokAt all at_ seen).ok at_/\at_+(tokAt all at_ seen).len<=all.length/\(tokAt all at_ seen).run (all.take at_)=all.take (at_+(tokAt all at_ seen).len)/\1<=(tokAt all at_ seen).len:=by
 unfold tokAt
 split
 ·rename_i hc
  obtain ⟨h1,h2,h3,h4⟩:=hc
  have hle:=hs (hashAt all at_)
  generalize hq:seen (hashAt all at_)=q at *
  obtain ⟨s1,s2,s3,s4⟩:=qdv all (q-1) at_ 258 0 rfl
  have s3':=s3 oz
  refine ⟨.inr ⟨h4,s2,?_,h3,?_⟩,s3',?_,?_⟩
  ·show 1<=at_-(q-1); omega
  ·show at_-(q-1)<=at_; omega
  ·unfold Tok.run
   show (if at_-(q-1)=0 then _ else copyN (at_-(q-1)) (sameN all (q-1) at_) (all.take at_))=_
   rw[if_neg oz]
   have:=qg6 all (q-1) (sameN all (q-1) at_) at_ 0 oz s3' fun i _ i2=>s4 i (Nat.zero_le _) (by rw[Nat.zero_add] at i2; exact i2)
   exact this
  ·show 1<=sameN all (q-1) at_; omega
 ·exact ⟨.inl ⟨rfl,rfl⟩,h,by unfold Tok.run; rw[if_pos rfl]; exact (take_snoc all at_ h).symm,Nat.le_refl _⟩
theorem qe4 (all:Byt) : ∀ (f at_:Nat) (seen:Seen),at_<=all.length->all.length<=at_+f->(∀ x,seen x<=at_)->okT (tokGo all f at_ seen) at_/\runT (tokGo all f at_ seen) (all.take at_)=all
 | 0,at_,seen,h1,h2,hs=>by
  have:at_=all.length:=oz
  subst this
  exact ⟨trivial,by simp[tokGo,runT]⟩
 | f+1,at_,seen,h1,h2,hs=>by
  simp only[tokGo]
  split
  ·rename_i h
   obtain ⟨t1,t2,t3,t4⟩:=qe3 all at_ seen h hs
   obtain ⟨r1,r2⟩:=qe4 all f (at_+(tokAt all at_ seen).len) _ t2 oz (qbh all _ at_ seen hs)
   refine ⟨⟨t1,r1⟩,?_⟩
   show runT _ ((tokAt all at_ seen).run (all.take at_))=all
   rw[t3]
   exact r2
  ·have:at_=all.length:=oz
   subst this
   exact ⟨trivial,by simp[runT]⟩
theorem yJ (h b:Byt):okT (tokensL h b) h.length/\runT (tokensL h b) h=h++b:=by
 have:=qe4 (h++b) b.length h.length (noteR (h++b) 0 h.length fun _=>0) (by simp) (by simp) (fun x=>by
  have:=qbh (h++b) h.length 0 (fun _=>0) (fun _=>Nat.zero_le _) x
  omega)
 rw[List.take_left' rfl] at this
 exact this
end Go.Fl
namespace Go.Fl
def eGo (m c:Nat):Nat->Nat->Nat
 | 0,e=>e
 | f+1,e=>if c*2^e<=m then eGo m c f (e+1) else e
def partE (m c:Nat):Nat:=eGo m c 20 1
theorem eGo_eq (m c e:Nat) (h:m<c*2^e) : ∀ f k,k<=e->e<=k+f->(∀ j,k<=j->j<e->c*2^j<=m)->eGo m c f k=e
 | 0,k,h1,h2,_=>by simp only[eGo]; omega
 | f+1,k,h1,h2,h3=>by
  simp only[eGo]
  rcases Nat.lt_or_ge k e with h4 | h4
  ·rw[if_pos (h3 k (Nat.le_refl _) h4)]
   exact eGo_eq m c e h f (k+1) h4 oz fun j j1 j2=>h3 j oz j2
  ·have:k=e:=oz
   subst this
   rw[if_neg oz]
theorem partE_eq {m c e:Nat} (h1:1<=e) (h20:e<=20) (h:m<c*2^e) (h2:e=1\/c*2^(e-1)<=m):partE m c=e:=by
 refine eGo_eq m c e h 20 1 h1 oz fun j j1 j2=>?_
 rcases h2 with h2 | h2
 ·omega
 ·exact Nat.le_trans (Nat.mul_le_mul_left c (Nat.pow_le_pow_right dz oz)) h2
structure LPart where
 sym:Nat
 more:Nat
 bits:Nat
def lenPart (n:Nat):LPart:=if n=258 then ⟨285,0,0⟩ else if n<11 then ⟨n+254,0,0⟩ else
 ⟨265+4*(partE (n-3) 8-1)+(n-3)/2^partE (n-3) 8-4,(n-3)%2^partE (n-3) 8,partE (n-3) 8⟩
def distPart (b:Nat):LPart:=if b<5 then ⟨b-1,0,0⟩ else
 ⟨2*(partE (b-1) 4+1)+(b-1)/2^partE (b-1) 4-2,(b-1)%2^partE (b-1) 4,partE (b-1) 4⟩
theorem qae {m c M:Nat} (hM:1<=M) (hM2:M<=20) (h:m<c*2^M) : ∃ e,partE m c=e/\1<=e/\e<=M/\m<c*2^e/\(e=1\/c*2^(e-1)<=m):=by
 obtain ⟨e,h1,h2,h3,h4⟩ : ∃ e,1<=e/\e<=M/\m<c*2^e/\(e=1\/c*2^(e-1)<=m):=by
  induction M with
  | zero=>omega
  | succ M ih =>
   rcases Nat.eq_zero_or_pos M with rfl | hp
   ·exact ⟨1,oz,oz,h,.inl rfl⟩
   ·by_cases hc:m<c*2^M
    ·obtain ⟨e,h1,h2,h3⟩:=ih hp oz hc
     exact ⟨e,h1,oz,h3⟩
    ·exact ⟨M+1,oz,oz,h,.inr (by simpa using hc)⟩
 exact ⟨e,partE_eq h1 oz h3 h4,h1,h2,h3,h4⟩
theorem quot_len {m e:Nat} (h:m<8*2^e) (h2:(e=1/\8<=m)\/8*2^(e-1)<=m) (h1:1<=e):4<=m/2^e/\m/2^e<=7:=by
 have hp:0<2^e:=Nat.pow_pos dz
 refine ⟨?_,?_⟩
 ·rw[Nat.le_div_iff_mul_le hp]
  rcases h2 with ⟨rfl,h2⟩ | h2
  ·omega
  ·have:2^e=2*2^(e-1):=by rw[<- Nat.pow_succ']; congr 1; omega
   omega
 ·have:m/2^e<8:=by rw[Nat.div_lt_iff_lt_mul hp]; exact h
  omega
theorem qnf {m e:Nat} (h:m<4*2^e) (h2:(e=1/\4<=m)\/4*2^(e-1)<=m) (h1:1<=e):2<=m/2^e/\m/2^e<=3:=by
 have hp:0<2^e:=Nat.pow_pos dz
 refine ⟨?_,?_⟩
 ·rw[Nat.le_div_iff_mul_le hp]
  rcases h2 with ⟨rfl,h2⟩ | h2
  ·omega
  ·have:2^e=2*2^(e-1):=by rw[<- Nat.pow_succ']; congr 1; omega
   omega
 ·have:m/2^e<4:=by rw[Nat.div_lt_iff_lt_mul hp]; exact h
  omega
theorem jv {n:Nat} (h3:3<=n) (h258:n<=258):(n=258/\lenPart n=⟨285,0,0⟩)\/(n<11/\lenPart n=⟨n+254,0,0⟩) \/
  ∃ e q,11<=n/\n<258/\1<=e/\e<=5/\4<=q/\q<=7/\q=(n-3)/2^e/\partE (n-3) 8=e/\n-3=q*2^e+(n-3)%2^e/\(n-3)%2^e<2^e/\lenPart n=⟨265+4*(e-1)+(q-4),(n-3)%2^e,e⟩:=by
 by_cases h1:n=258
 ·exact .inl ⟨h1,by unfold lenPart; rw[if_pos h1]⟩
 ·by_cases h2:n<11
  ·exact .inr (.inl ⟨h2,by unfold lenPart; rw[if_neg h1,if_pos h2]⟩)
  ·obtain ⟨e,h4,h5,h6,h7,h8⟩:=qae (m:=n-3) (c:=8) (M:=5) oz oz oz
   obtain ⟨q1,q2⟩:=quot_len h7 (by rcases h8 with h | h; exact .inl ⟨h,oz⟩; exact .inr h) h5
   have hp:0<2^e:=Nat.pow_pos dz
   refine .inr (.inr ⟨e,(n-3)/2^e,oz,oz,h5,h6,q1,q2,rfl,h4,?_,Nat.mod_lt _ hp,?_⟩)
   ·have:=Nat.div_add_mod (n-3) (2^e)
    rw[Nat.mul_comm] at this
    exact this.symm
   ·unfold lenPart
    rw[if_neg h1,if_neg h2,h4]
    congr 1
    omega
theorem jH {b:Nat} (h1:1<=b) (h2:b<=32768):(b<5/\distPart b=⟨b-1,0,0⟩) \/
  ∃ e q,5<=b/\1<=e/\e<=13/\2<=q/\q<=3/\q=(b-1)/2^e/\partE (b-1) 4=e/\b-1=q*2^e+(b-1)%2^e/\(b-1)%2^e<2^e/\distPart b=⟨2*(e+1)+(q-2),(b-1)%2^e,e⟩:=by
 by_cases h5:b<5
 ·exact .inl ⟨h5,by unfold distPart; rw[if_pos h5]⟩
 ·obtain ⟨e,h4,h5',h6,h7,h8⟩:=qae (m:=b-1) (c:=4) (M:=13) oz oz oz
  obtain ⟨q1,q2⟩:=qnf h7 (by rcases h8 with h | h; exact .inl ⟨h,oz⟩; exact .inr h) h5'
  have hp:0<2^e:=Nat.pow_pos dz
  refine .inr ⟨e,(b-1)/2^e,oz,h5',h6,q1,q2,rfl,h4,?_,Nat.mod_lt _ hp,?_⟩
  ·have:=Nat.div_add_mod (b-1) (2^e)
   rw[Nat.mul_comm] at this
   exact this.symm
  ·unfold distPart
   rw[if_neg h5,h4]
   congr 1
   omega
end Go.Fl
