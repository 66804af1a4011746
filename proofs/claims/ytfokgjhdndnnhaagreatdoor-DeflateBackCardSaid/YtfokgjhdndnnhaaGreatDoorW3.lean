/- Contracts: bits: Put. -/
import Derived.Test.YtfokgjhdndnnhaaGreatDoorB2
set_option linter.unusedVariables false
set_option linter.unusedSimpArgs false
set_option maxRecDepth 20000
noncomputable section W2S
namespace Go.Proofs.YtfokgjhdndnnhaaGreatDoor
open Go Go.Fl Go.Proofs
theorem qoq (H:Heap):SCallsP Tryz.prog 41 [.bool false] H (fun r H' => ∃ w,r = .ptr w 0/\H.next<=w/\WrN (fun b=>b<H.next) H' w []/\Step (fun b=>b<H.next) H H'):=by
 refine qA (sz:=8) (Tryz.call41) Tryz.func41 rfl kz (fun R hR=>?_)
 refine qg (fun K1 hK1=>?_)
 refine qi kz ?_
 simp[go_sem]
 refine hK1 _ _ ?_
 try clear hK1 K1
 refine qg (fun K2 hK2=>?_)
 refine qo (fun K3 hK3=>?_)
 refine qi kz ?_
 simp[go_sem]
 refine hK3 _ _ ?_
 refine hK2 _ _ ?_
 try clear hK2 K2
 refine qx ?_
 simp only[go_sem]
 refine hR _ _ ?_
 have hS:Step (fun b=>b<H.next) H (H.alloc [.nil,.int 0,atF]):=(Step.refl _ _).alloc (by simp[go_sem,atF])
 refine hS.retP (r:=.ptr H.next 0) gz ⟨H.next,rfl,Nat.le_refl _,⟨.nil,Nat.lt_irrefl _,by simp[go_sem,atF],by simp,.inl ⟨rfl,rfl⟩,fun b hb=>by rw[Heap.next_alloc]; omega⟩,hS⟩ gz
def PutS (w n x k:Nat) (env:Env):Prop:=env 0 = .ptr w 0/\env 1 = .int x/\env 2 = .int n/\env 30 = .int n/\env 31 = .int k
def wholeB (l:List Bool):List UInt8:=pack (l.take (l.length/8*8))
def tailB (l:List Bool):Nat:=ofBits (l.drop (l.length/8*8))
theorem qml (l:List Bool):(wholeB l).length=l.length/8:=by
 unfold wholeB
 rw[zF,List.length_take,Nat.min_eq_left oz]
 unfold bytesOf
 omega
theorem qgl (l:List Bool):tailB l<2^(l.length%8):=by
 unfold tailB
 have:=yS (l.drop (l.length/8*8))
 rwa [show (l.drop (l.length/8*8)).length=l.length%8 by simp; omega] at this
def PutT (S:Nat->Prop) (w q:Nat) (l:List Bool) (H:Heap):Prop := ¬ S w /\ ¬ S q/\q≠w/\H.get w=some [.ms q 0 (l.length/8+1) 1,.int l.length,atF]/\H.get q=some (bV (wholeB l) ++ [.sc (.int .u8 (tailB l))]) /\ ∀ b,S b->b<H.next
theorem putT_old {S:Nat->Prop} {w:Nat} {l:List Bool} {H:Heap} {x:AV} (h1 : ¬ S w) (hS : ∀ b,S b->b<H.next) (gw:H.get w=some [x,.int l.length,atF]) (hx:(x = .nil/\l = []) \/ ∃ q,¬ S q/\q≠w/\x = .ms q 0 (pack l).length 1/\H.get q=some (bV (pack l))) (h8 : ¬ l.length%8=0) : ∃ q,PutT S w q l H:=by
 rcases hx with ⟨_,rfl⟩ | ⟨q,q1,q2,rfl,q4⟩
 ·simp at h8
 ·have hp:=qm4 l oz
  have hl:(pack l).length=l.length/8+1:=by rw[zF]; unfold bytesOf; omega
  refine ⟨q,h1,q1,q2,by rw[gw,hl],?_,hS⟩
  rw[q4,hp,jF]
  have ht:=qgl l
  have:2^(l.length%8)<=2^8:=Nat.pow_le_pow_right dz oz
  have e:(UInt8.ofNat (tailB l)).toNat=tailB l:=by simp; omega
  show some (bV (wholeB l) ++ [.sc (.int .u8 ((UInt8.ofNat (tailB l)).toNat:Nat))])=_
  rw[e]
theorem putT_new {S:Nat->Prop} {w:Nat} {l:List Bool} {H:Heap} {x:AV} {bo:Option Nat} (h1 : ¬ S w) (hN : ∀ b,S b->b<H.next) (gw:H.get w=some [x,.int l.length,atF]) (hbo : ∀ b,bo=some b -> ¬ S b/\b≠w) (h8:l.length%8=0) :
  PutT S w (H.next+1) l (((H.alloc [.sc (.int .u8 0)]).regrow bo (bV (pack l) ++ [.sc (.int .u8 0)])).set w [.ms (H.next+1) 0 ((pack l).length+1) 1,.int l.length,atF]):=by
 have hw:=Heap.lt_of_get gw
 have hl:(pack l).length=l.length/8:=by rw[zF]; unfold bytesOf; omega
 refine ⟨h1,fun e=>by have:=hN _ e; omega,oz,?_,?_,fun b hb=>by have:=hN b hb; simp[go_sem]; omega⟩
 ·rw[Heap.get_set,if_pos rfl,qY (c:=[x,.int l.length,atF]) (by rw[Heap.get_alloc,if_neg oz]; exact gw) (fun e=>(hbo w e).2 rfl),hl]
  rfl
 ·rw[Heap.get_set,if_neg oz]
  unfold Heap.regrow
  rw[Heap.get_alloc,Heap.delo_next,Heap.next_alloc,if_pos rfl]
  have e1:wholeB l=pack l:=(qlp l h8).symm
  have e2:tailB l=0:=by unfold tailB; rw[List.drop_eq_nil_of_le oz]; rfl
  rw[e1,e2]
  rfl
theorem qk5 {S:Nat->Prop} {w:Nat} {H:Heap} {bo:Option Nat} (cs:List AV) (hcs : ∀ n,∀ x∈cs,x.Lt n) (c:List AV) (h1 : ¬ S w) (hbo : ∀ b,bo=some b -> ¬ S b/\b≠w) (hc : ∀ x∈c,x.Lt (H.next+2)):Step S H (((H.alloc [.sc (.int .u8 0)]).regrow bo (cs ++ [.sc (.int .u8 0)])).set w c):=by
 refine (((Step.refl S H).alloc gz).regrow (fun b hb=>(hbo b hb).1) ?_).set h1 (by rw[Heap.next_regrow,Heap.next_alloc]; exact hc)
 intro y hy
 rcases List.mem_append.1 hy with h | h
 ·exact hcs _ y h
 ·simp at h; subst h; simp[go_sem]
theorem wr_next {S:Nat->Prop} {w q:Nat} {l:List Bool} {H:Heap} (b:Nat) (hb:b<2) (h:PutT S w q l H) (hlen:l.length+1<=1073741824):WrN S ((H.set q (bV (wholeB l) ++ [.sc (.int .u8 ((tailB l+b*2^(l.length%8):Nat):Int))])).set w [.ms q 0 (l.length/8+1) 1,.int ((l.length+1:Nat):Int),atF]) w (l ++ [b==1]):=by
 obtain ⟨h1,h2,h3,gw,gq,hSn⟩:=h
 have hb1:(b==1).toNat=b:=by rcases (by omega:b=0\/b=1) with rfl | rfl <;> rfl
 have hps:=qm3 l (b==1)
 rw[hb1] at hps
 have hl:(pack (l ++ [b==1])).length=l.length/8+1:=by rw[zF]; unfold bytesOf; simp; omega
 refine ⟨.ms q 0 (l.length/8+1) 1,h1,?_,by simpa using hlen,.inr ⟨q,h2,h3,by rw[hl],?_⟩,hSn⟩
 ·rw[Heap.get_set,if_pos rfl,Heap.get_set,if_neg (Ne.symm h3),gw]
  simp
 ·rw[Heap.get_set,if_neg h3,Heap.get_set,if_pos rfl,gq]
  have ht:=qgl l
  have hp:2^(l.length%8+1)<=2^8:=Nat.pow_le_pow_right dz oz
  have hv:tailB l+b*2^(l.length%8)<256:=by
   rw[Nat.pow_succ] at hp
   rcases (by omega:b=0\/b=1) with rfl | rfl <;> omega
  have e:(UInt8.ofNat (tailB l+b*2^(l.length%8))).toNat=tailB l+b*2^(l.length%8):=by simp; omega
  rw[hps,jF]
  show _=some (bV (wholeB l) ++ [.sc (.int .u8 ((UInt8.ofNat (tailB l+b*2^(l.length%8))).toNat:Nat))])
  rw[e]
  rfl
theorem qar (S:Nat->Prop) (w n x:Nat) (l:List Bool) (hx:x<2^n) (hn:n<=32) (hl:l.length+n<=1073741824) {H:Heap} (hW0:WrN S H w l):SCallsP Tryz.prog 23 [.ptr w 0,.int x,.int n] H (fun r H'=>r = .bool true/\WrN S H' w (l++natBits n x)/\Step S H H'):=by
 obtain ⟨bx,hw1,gw,hlen0,hbx,hSn⟩:=hW0
 have hnn : ¬ (32<(n:Int)):=oz
 have hx0 : ¬ ((x:Int)<0):=oz
 have hshr:bshr .i64 (x:Int) (n:Int)=0:=by
  rw[jG x n oz,Nat.div_eq_of_lt hx]; rfl
 have hx63:x<2^32:=Nat.lt_of_lt_of_le hx (Nat.pow_le_pow_right dz hn)
 refine qA (sz:=93) (Tryz.call23) Tryz.func23 rfl kz (fun R hR=>?_)
 refine qg (fun K1 hK1=>?_)
 refine qi kz ?_
 simp[go_sem]
 refine hK1 _ _ ?_
 try clear hK1 K1
 refine qg (fun K2 hK2=>?_)
 refine qg (fun K3 hK3=>?_)
 refine qi kz ?_
 refine qI 2 (fun K4 hK4=>?_)
 simp[go_sem,hnn,hx0,hshr]
 refine ⟨_,_,qg0 (z:=.int 0) gw,?_⟩
 refine hK4 _ _ ?_
 clear hK4 K4
 refine qI 2 (fun K5 hK5=>?_)
 simp[go_sem,hnn,hx0,hshr]
 refine hK5 _ _ ?_
 clear hK5 K5
 refine qI 3 (fun K6 hK6=>?_)
 simp[go_sem,hnn,hx0,hshr]
 refine hK6 _ _ ?_
 clear hK6 K6
 refine qI 4 (fun K7 hK7=>?_)
 simp[go_sem,hnn,hx0,hshr]
 refine hK7 _ _ ?_
 clear hK7 K7
 refine qI 4 (fun K8 hK8=>?_)
 simp[go_sem,hnn,hx0,hshr]
 refine hK8 _ _ ?_
 clear hK8 K8
 simp[go_sem,hnn,hx0,hshr]
 refine hK3 _ _ ?_
 try clear hK3 K3
 refine qj (b:=false) gz (fun h=>by cases h) (fun _=>?_)
 refine ql ?_
 refine hK2 _ _ ?_
 try clear hK2 K2
 refine qg (fun K9 hK9=>?_)
 refine qg (fun K10 hK10=>?_)
 refine qi kz ?_
 simp[go_sem]
 refine hK10 _ _ ?_
 try clear hK10 K10
 refine qm ?_
 refine qC (Inv:=fun m env H2 => ∃ k:Nat,m=n-k/\k<=n/\PutS w n x k env/\WrN S H2 w (l++natBits k x)/\Step S H H2) ?_ (n:=n) (⟨0,rfl,oz,⟨gz,gz,gz,gz,gz⟩,by rw[natBits,List.append_nil]; exact ⟨bx,hw1,gw,hlen0,hbx,hSn⟩,Step.refl _ _⟩)
 rintro m env H2 ⟨k,rfl,hk,⟨e0,e1,e2,e30,e31⟩,hW,hS⟩
 refine qg (fun K11 hK11=>?_)
 refine qi kz ?_
 simp[go_sem,e30,e31]
 refine hK11 _ _ ?_
 try clear hK11 K11
 refine qg (fun K12 hK12=>?_)
 refine qj (b:=decide (k<n)) gz (fun hb=>?_) (fun hb=>?_)
 ·skip
  simp only[decide_eq_true_eq] at hb
  clear gw hbx
  refine ql ?_
  refine hK12 _ _ ?_
  try clear hK12 K12
  refine qw (fun env H2=>PutS w n x k env/\WrN S H2 w (l++natBits (k+1) x)/\Step S H H2) ?_ ?_
  ·skip
   refine qm ?_
   refine qg (fun K14 hK14=>?_)
   refine qi kz ?_
   simp[go_sem,e31]
   refine hK14 _ _ ?_
   try clear hK14 K14
   clear hSn
   obtain ⟨bx,_,gw,hlen,hbx,hSn⟩:=hW
   have hlk:(l++natBits k x).length=l.length+k:=by rw[List.length_append,qB]
   have hsucc:=qgx k x
   obtain ⟨l2,hl2⟩ : ∃ l2,l++natBits k x=l2:=⟨_,rfl⟩
   rw[hl2] at gw hlen hbx hlk
   refine qw (fun env H2=>(PutS w n x k env/\env 7 = .int k)/\(∃ q,PutT S w q l2 H2)/\Step S H H2) ?_ ?_
   ·skip
    refine qg (fun K16 hK16=>?_)
    refine qi kz ?_
    simp[go_sem,e0,gw]
    refine hK16 _ _ ?_
    try clear hK16 K16
    refine qj (b:=((l2.length:Int)%8==0)) (by simp[go_sem,tmod8]) (fun hb=>?_) (fun hb=>?_)
    ·skip
     have h80:l2.length%8=0:=by simp at hb; omega
     obtain ⟨bo,hg,hbo⟩ : ∃ bo,grown H2 1 bx=some ((pack l2).length,bV (pack l2),bo) /\ ∀ b,bo=some b -> ¬ S b/\b≠w:=by
      rcases hbx with ⟨rfl,h⟩ | ⟨q,q1,q2,rfl,q4⟩
      ·subst h; exact ⟨none,rfl,by simp⟩
      ·exact ⟨some q,grown_of q4 (by rw[qQ]; omega),fun b hb=>by cases hb; exact ⟨q1,q2⟩⟩
     have hpl:(pack l2).length<=1000000000:=by rw[zF]; unfold bytesOf; omega
     obtain ⟨ha,_⟩:=appB 0 hg hpl
     have hwn:=Heap.lt_of_get gw
     have hwne : ¬ (w=H2.next):=oz
     have gr:((H2.alloc [.sc (.int .u8 0)]).regrow bo (bV (pack l2) ++ [.sc (.int .u8 0)])).get w=some [bx,.int l2.length,atF]:=qY (by rw[Heap.get_alloc,if_neg hwne]; exact gw) (fun e=>(hbo w e).2 rfl)
     have hnew:=putT_new hw1 hSn gw hbo h80
     have hcn : ∀ x ∈ [AV.ms (H2.next+1) 0 ((pack l2).length+1) 1,.int l2.length,atF],x.Lt (H2.next+2):=by simp[go_sem,atF]
     refine qo (fun K17 hK17=>?_)
     refine qi kz ?_
     simp[go_sem,e0,gw,ha,gr]
     refine hK17 _ _ ?_
     refine ⟨⟨⟨by simp[go_sem,e0],by simp[go_sem,e1],by simp[go_sem,e2],by simp[go_sem,e30],by simp[go_sem,e31]⟩,gz⟩,?_⟩
     first
      | exact ⟨⟨_,hnew⟩,hS.trans (qk5 _ (fun n=>ja _ n) _ hw1 hbo hcn)⟩
      | exact ⟨⟨q,hold⟩,hS⟩
    ·skip
     have h80 : ¬ l2.length%8=0:=by simp at hb; omega
     obtain ⟨q,hold⟩:=putT_old hw1 hSn gw hbx h80
     refine ql ?_
     refine ⟨⟨⟨by simp[go_sem,e0],by simp[go_sem,e1],by simp[go_sem,e2],by simp[go_sem,e30],by simp[go_sem,e31]⟩,gz⟩,?_⟩
     first
      | exact ⟨⟨_,hnew⟩,hS.trans (qk5 _ (fun n=>ja _ n) _ hw1 hbo hcn)⟩
      | exact ⟨⟨q,hold⟩,hS⟩
   clear e0 e1 e2 e30 e31 hS gw hbx hSn
   rintro env H2 ⟨⟨⟨e0,e1,e2,e30,e31⟩,e7⟩,⟨q,hT⟩,hS⟩
   have hT0:=hT
   obtain ⟨h1,h2,h3,gw,gq,hSn⟩:=hT
   have hqw : ¬ (w=q):=fun e=>h3 e.symm
   obtain ⟨bit,hbit⟩ : ∃ b:Nat,x/2^k%2=b:=⟨_,rfl⟩
   have hb2:bit<2:=oz
   have hsh:bshr .i64 (x:Int) (k:Int)=((x/2^k:Nat):Int):=jG x k oz
   obtain ⟨xk,hxk⟩ : ∃ b:Nat,x/2^k=b:=⟨_,rfl⟩
   have hxkl:xk<2^63:=by rw[<- hxk]; exact Nat.lt_of_le_of_lt (Nat.div_le_self _ _) (Nat.lt_of_lt_of_le hx63 dz)
   rw[hxk] at hsh hbit
   have hba:=qf1 xk hxkl
   rw[hbit] at hba
   have hba2:bits .and .i64 (xk:Int) 1=(bit:Int):=hba
   obtain ⟨r,hr⟩ : ∃ r,l2.length%8=r:=⟨_,rfl⟩
   obtain ⟨q8,hq8⟩ : ∃ r,l2.length/8=r:=⟨_,rfl⟩
   have hwl:(wholeB l2).length=q8:=by rw[qml,hq8]
   have htl:=qgl l2
   rw[hr] at htl
   have htm:(l2.length:Int).tmod 8=(r:Int):=by rw[tmod8,hr]
   have htd:(l2.length:Int).tdiv 8=(q8:Int):=by rw[tdiv8,hq8]
   have hnx:=wr_next bit hb2 hT0 oz
   rw[hr,hq8] at hnx
   rw[hq8] at gw
   obtain ⟨o,ho⟩ : ∃ o,tailB l2=o:=⟨_,rfl⟩
   obtain ⟨WB,hWB⟩ : ∃ o,wholeB l2=o:=⟨_,rfl⟩
   rw[ho] at gq htl hnx
   rw[hWB] at gq hwl hnx
   have hpr:2^r<=2^7:=Nat.pow_le_pow_right dz oz
   have hbr:bit*2^r<256/\bit*2^r<=2^7:=by rcases (by omega:bit=0\/bit=1) with h | h <;> rw[h] <;> omega
   have hbl:bshl .i64 (bit:Int) (r:Int)=((bit*2^r:Nat):Int):=zB bit r oz oz
   obtain ⟨br,hbrq⟩ : ∃ b,bit*2^r=b:=⟨_,rfl⟩
   have hor:o ||| br=o+br:=by rw[<- hbrq]; exact qm5 o bit r htl
   rw[hbrq] at hbl hnx hbr
   have hw8:IntKind.u8.wrap (br:Int)=br:=wraps_u8 _ oz oz
   have hbo:bor .u8 (o:Int) (br:Int)=((o+br:Nat):Int):=by rw[bor_u8 o br oz oz,hor]
   have hbo2:bits .or .u8 (o:Int) (br:Int)=((o+br:Nat):Int):=hbo
   have hwq:IntKind.i64.wrap (q8:Int)=q8:=qdc q8 oz
   have hlt:(q8:Int)<q8+1:=oz
   have hi1:=qF l2.length oz
   have hbVl:(bV WB).length=q8:=by rw[qQ,hwl]
   have hdr : ∀ c:AV,List.drop (q8+1) (bV WB ++ [c]) = []:=fun c=>List.drop_eq_nil_of_le (by simp[hbVl])
   have hqn:=Heap.lt_of_get gq
   push_cast at hnx
   refine qg (fun K18 hK18=>?_)
   refine qi kz ?_
   refine qI 8 (fun K19 hK19=>?_)
   simp[go_sem,e0,e1,e2,e7,gw,atF,hsh,hba,hba2]
   refine ⟨_,_,at_H _ _ _,?_⟩
   refine hK19 _ _ ?_
   clear hK19 K19
   simp[go_sem,e0,e1,e2,e7,gw,atF,hsh,hba,hba2]
   refine hK18 _ _ ?_
   try clear hK18 K18
   refine qg (fun K20 hK20=>?_)
   refine qZ mixed kz (bf:=[0,1,3,7,0,16,48,112,240,511,1023,0,0,4096,12288,28672,0,65536,196608,458752,983040,2093056,4192256,8386560,16777215,33554431,67108863]) kz ?_
   refine jD 11 dz (fun K90 hK90=>?_)
   simp[go_sem,e0,gw,gq,htm,htd,befL,atF,hbVl,hwq,hlt]
   refine hK90 _ _ _ _ ?_
   clear hK90 K90
   refine jD 11 dz (fun K91 hK91=>?_)
   simp[go_sem,e0,gw,gq,htm,htd,befL,atF,hbVl,hwq,hlt]
   refine ⟨_,_,at_H _ _ _,?_⟩
   simp[go_sem,e0,gw,gq,htm,htd,befL,atF,hbVl,hwq,hlt]
   refine hK91 _ _ _ _ ?_
   clear hK91 K91
   simp[go_sem,e0,gw,gq,htm,htd,befL,hbl,hw8,hbo,hbo2,hbVl,hwq,hlt,hdr]
   refine hK20 _ _ ?_
   try clear hK20 K20
   refine qo (fun K21 hK21=>?_)
   refine qi kz ?_
   simp[go_sem,e0,gw,gq,hqw,hi1]
   refine hK21 _ _ ?_
   refine ⟨⟨by simp[go_sem,e0],by simp[go_sem,e1],by simp[go_sem,e2],by simp[go_sem,e30],by simp[go_sem,e31]⟩,?_,?_⟩
   ·rw[hsucc,<- List.append_assoc,hl2,hxk,hbit]
    exact hnx
   ·refine (hS.set h2 ?_).set h1 (by simp[go_sem,atF,hqn])
    intro y hy
    rcases List.mem_append.1 hy with h | h
    ·exact ja _ _ y h
    ·simp at h; subst h; simp[go_sem]
  clear e0 e1 e2 e30 e31 hW hS
  rintro env H2 ⟨⟨e0,e1,e2,e30,e31⟩,hW,hS⟩
  refine qi kz ?_
  simp[go_sem,e31]
  have hw1:=qF k oz
  exact ⟨n-(k+1),oz,k+1,rfl,oz,⟨by simp[go_sem,e0],by simp[go_sem,e1],by simp[go_sem,e2],by simp[go_sem,e30],by simp[go_sem,hw1]⟩,hW,hS⟩
 ·skip
  simp only[decide_eq_false_iff_not] at hb
  obtain rfl:k=n:=oz
  refine qy ?_
  refine hK9 _ _ ?_
  try clear hK9 K9
  refine qg (fun K22 hK22=>?_)
  refine qi kz ?_
  simp[go_sem]
  refine hK22 _ _ ?_
  try clear hK22 K22
  refine qx ?_
  simp only[go_sem]
  refine hR _ _ ?_
  exact hS.retP (r:=.bool true) gz ⟨rfl,hW,hS⟩ gz
end Go.Proofs.YtfokgjhdndnnhaaGreatDoor
end W2S
namespace Go.Fl
def cnt (l:List Nat) (n:Nat):Nat:=if n=0 then 0 else l.count n
def fstC (l:List Nat):Nat->Nat
 | 0=>0
 | n+1=>2*(fstC l n+cnt l n)
def asum (l:List Nat):Nat->Nat
 | 0=>0
 | n+1=>asum l n+cnt l (n+1)
def ksum (l:List Nat):Nat->Nat
 | 0=>0
 | n+1=>ksum l n+cnt l (n+1)*2^(15-(n+1))
def WholeL (l:List Nat):Prop:=ksum l 15=32768\/asum l 15=0\/(asum l 15=1/\cnt l 1=1)
def idxL (l:List Nat) (s:Nat):Nat:=(l.take s).count (l.getD s 0)
def codeOf (l:List Nat) (s:Nat):Nat:=fstC l (l.getD s 0)+idxL l s
def ordN (l:List Nat) (n:Nat):List Nat:=(List.range l.length).filter fun s=>l.getD s 0==n
def ordU (l:List Nat):Nat->List Nat
 | 0=>[]
 | n+1=>ordU l n++ordN l (n+1)
theorem qor (l:List Nat) : ∀ n,n<=15->(fstC l n+cnt l n)*2^(15-n)=ksum l n
 | 0,_=>by simp[fstC,cnt,ksum]
 | n+1,h=>by
  have ih:=qor l n oz
  simp only[fstC,ksum]
  rw[<- ih,Nat.add_mul]
  congr 1
  have e:2^(15-n)=2^(15-(n+1))*2:=by rw[<- Nat.pow_succ]; congr 1; omega
  rw[e,Nat.mul_comm 2,Nat.mul_assoc,Nat.mul_comm 2]
theorem qia (l:List Nat) : ∀ n m,n<=m->ksum l n<=ksum l m:=by
 intro n m h
 induction m with
 | zero=>simp at h; subst h; exact Nat.le_refl _
 | succ m ih =>
  rcases Nat.lt_or_ge n (m+1) with h1 | h1
  ·exact Nat.le_trans (ih oz) (by simp only[ksum]; omega)
  ·have:n=m+1:=oz
   subst this; exact Nat.le_refl _
theorem jC (l:List Nat) : ∀ n m,n<=m->asum l n<=asum l m:=by
 intro n m h
 induction m with
 | zero=>simp at h; subst h; exact Nat.le_refl _
 | succ m ih =>
  rcases Nat.lt_or_ge n (m+1) with h1 | h1
  ·exact Nat.le_trans (ih oz) (by simp only[asum]; omega)
  ·have:n=m+1:=oz
   subst this; exact Nat.le_refl _
theorem cnt_asum (l:List Nat) (n:Nat):cnt l n<=asum l n:=by
 cases n with
 | zero=>simp[cnt]
 | succ n=>simp only[asum]; omega
theorem qot (l:List Nat) (h:asum l 15=0) (n:Nat) (hn:n<=15):cnt l n=0:=by
 have h1:=cnt_asum l n
 have h2:=jC l n 15 hn
 omega
theorem qeh (l:List Nat) (h:WholeL l):ksum l 15<=32768:=by
 rcases h with h | h | ⟨h,h1⟩
 ·omega
 ·have h0 : ∀ n,n<=15->ksum l n=0:=by
   intro n
   induction n with
   | zero=>intro _; rfl
   | succ n ih =>
    intro hn
    simp only[ksum]
    rw[ih oz,qot l h (n+1) hn]
    simp
  rw[h0 15 oz]; omega
 ·have h0 : ∀ n,1<=n->n<=15->ksum l n=16384:=by
   intro n
   induction n with
   | zero=>intro h; omega
   | succ n ih =>
    intro _ hn
    rcases Nat.eq_zero_or_pos n with rfl | hp
    ·simp[ksum,h1]
    ·simp only[ksum]
     have hc:cnt l (n+1)=0:=by
      have e1:=jC l (n+1) 15 hn
      have e2:asum l (n+1)=asum l n+cnt l (n+1):=rfl
      have e3:=jC l 1 n hp
      have e4:asum l 1=1:=by simp[asum,h1]
      omega
     rw[ih hp oz,hc]
     simp
  rw[h0 15 oz oz]; omega
theorem qou (l:List Nat) (hk:ksum l 15<=32768) (n:Nat) (hn:n<=15):fstC l n+cnt l n<=2^n:=by
 have h1:=qor l n hn
 have h2:=qia l n 15 hn
 have h3:(fstC l n+cnt l n)*2^(15-n)<=2^n*2^(15-n):=by
  rw[h1,<- Nat.pow_add,show n+(15-n)=15 by omega]
  omega
 exact Nat.le_of_mul_le_mul_right h3 (Nat.pow_pos dz)
theorem qU {l:List Nat} {s:Nat} (h:s<l.length):l.getD s 0=l[s]:=by simp[h]
theorem idx_lt (l:List Nat) (s:Nat) (h:s<l.length):idxL l s<l.count (l.getD s 0):=by
 unfold idxL
 have e:=List.take_append_drop s l
 have hc:l.count (l.getD s 0)=(l.take s).count (l.getD s 0)+(l.drop s).count (l.getD s 0):=by rw[<- List.count_append,e]
 have hp:0<(l.drop s).count (l.getD s 0):=by
  rw[List.count_pos_iff,List.drop_eq_getElem_cons h,qU h]
  exact List.mem_cons_self
 omega
theorem zX {l:List Nat} {s:Nat} (h:0<l.getD s 0):s<l.length:=by
 rcases Nat.lt_or_ge s l.length with h1 | h1
 ·exact h1
 ·rw[List.getD_eq_getElem?_getD,List.getElem?_eq_none h1] at h; simp at h
theorem qei (l:List Nat) (s:Nat) (h:0<l.getD s 0):idxL l s<cnt l (l.getD s 0):=by
 unfold cnt
 rw[if_neg oz]
 exact idx_lt l s (zX h)
theorem code_lt (l:List Nat) (s:Nat) (hk:ksum l 15<=32768) (h:0<l.getD s 0) (h15:l.getD s 0<=15):codeOf l s<2^l.getD s 0:=by
 have h1:=qei l s h
 have h2:=qou l hk _ h15
 unfold codeOf
 omega
theorem qk6 (l:List Nat) (n:Nat) : ∀ k,(fstC l n+cnt l n)*2^(k+1)<=fstC l (n+k+1)
 | 0=>by simp[fstC]; omega
 | k+1=>by
  have ih:=qk6 l n k
  have e:fstC l (n+(k+1)+1)=2*(fstC l (n+k+1)+cnt l (n+k+1)):=rfl
  rw[e,Nat.pow_succ,<- Nat.mul_assoc]
  omega
theorem qgm (l:List Nat) (s n:Nat) (h:n<l.getD s 0):fstC l n+cnt l n<=codeOf l s/2^(l.getD s 0-n):=by
 rw[Nat.le_div_iff_mul_le (Nat.pow_pos dz)]
 have h1:=qk6 l n (l.getD s 0-n-1)
 rw[show l.getD s 0-n-1+1=l.getD s 0-n by omega,show n+(l.getD s 0-n-1)+1=l.getD s 0 by omega] at h1
 unfold codeOf
 omega
theorem zO (l:List Nat) (n:Nat) : ∀ k,k<=l.length->((List.range k).filter fun s=>l.getD s 0==n).length=(l.take k).count n
 | 0,_=>by simp
 | k+1,h=>by
  have ih:=zO l n k oz
  rw[List.range_succ,List.filter_append,List.length_append,ih,List.take_add_one,List.count_append,List.getElem?_eq_getElem oz]
  congr 1
  have e:l.getD k 0=l[k]:=qU oz
  rw[List.filter_cons,List.filter_nil,e]
  by_cases hq:l[k]=n
  ·simp[hq]
  ·simp[hq,List.count_cons]
theorem ordN_len (l:List Nat) (n:Nat):(ordN l n).length=l.count n:=by
 unfold ordN
 rw[zO l n l.length (Nat.le_refl _),List.take_length]
theorem ordN_at (l:List Nat) (s:Nat) (h:s<l.length):(ordN l (l.getD s 0))[idxL l s]? = some s:=by
 unfold ordN
 have e:List.range l.length=List.range s++(List.range (l.length-s)).map (s + ·):=by
  have:=List.range_add (n:=s) (m:=l.length-s)
  rw[show s+(l.length-s)=l.length by omega] at this
  exact this
 rw[e,List.filter_append]
 have hl:=zO l (l.getD s 0) s oz
 have hi:idxL l s=((List.range s).filter fun x=>l.getD x 0==l.getD s 0).length:=by rw[hl]; rfl
 rw[hi,List.getElem?_append_right (Nat.le_refl _),Nat.sub_self]
 have e2:List.range (l.length-s)=0::(List.range (l.length-s-1)).map (1 + ·):=by
  have:=List.range_add (n:=1) (m:=l.length-s-1)
  rw[show 1+(l.length-s-1)=l.length-s by omega] at this
  exact this
 rw[e2,List.map_cons,Nat.add_zero,List.filter_cons,if_pos (by simp)]
 rfl
theorem yf (l:List Nat) : ∀ n,(ordU l n).length=asum l n
 | 0=>rfl
 | n+1=>by simp only[ordU,asum,List.length_append,yf l n,ordN_len,cnt]; simp
theorem ordU_get (l:List Nat) (i:Nat) : ∀ n m,n<=m->i<asum l n->(ordU l m)[i]? = (ordU l n)[i]?:=by
 intro n m h hi
 induction m with
 | zero=>simp at h; subst h; rfl
 | succ m ih =>
  rcases Nat.lt_or_ge n (m+1) with h1 | h1
  ·rw[<- ih oz]
   have:=jC l n m oz
   simp only[ordU]
   rw[List.getElem?_append_left (by rw[yf]; omega)]
  ·have:n=m+1:=oz
   subst this; rfl
theorem ord_at (l:List Nat) (s:Nat) (h:0<l.getD s 0) (h15:l.getD s 0<=15):(ordU l 15)[asum l (l.getD s 0-1)+idxL l s]? = some s:=by
 have hs:=zX h
 obtain ⟨k,hk⟩ : ∃ k,l.getD s 0=k+1:=⟨l.getD s 0-1,oz⟩
 have hi:=qei l s h
 have ha:=ordN_at l s hs
 rw[hk] at hi ha h15 |-
 show (ordU l 15)[asum l k+idxL l s]? = _
 rw[ordU_get l _ (k+1) 15 h15 (by simp only[asum]; omega)]
 show (ordU l k++ordN l (k+1))[asum l k+idxL l s]? = _
 rw[List.getElem?_append_right (by rw[yf]; omega),yf]
 rw[show asum l k+idxL l s-asum l k=idxL l s by omega]
 exact ha
theorem at_lt (l:List Nat) (s n:Nat) (h:0<l.getD s 0) (h15:l.getD s 0<=15) (hn:n<=l.getD s 0-1):asum l n<(ordU l 15).length:=by
 rw[yf]
 have h1:=jC l n (l.getD s 0-1) hn
 have h2:=jC l (l.getD s 0) 15 h15
 have h3:=qei l s h
 obtain ⟨k,hk⟩ : ∃ k,l.getD s 0=k+1:=⟨l.getD s 0-1,oz⟩
 rw[hk] at h1 h2 h3
 simp only[Nat.add_sub_cancel] at h1
 have h4:asum l (k+1)=asum l k+cnt l (k+1):=rfl
 omega
def msb:Nat->Nat->List Bool
 | 0,_=>[]
 | n+1,x=>(x/2^n%2==1)::msb n x
theorem qgn (n x:Nat):(msb n x).length=n:=by
 induction n with
 | zero=>rfl
 | succ n ih=>simp[msb,ih]
def symBits (l:List Nat) (s:Nat):List Bool:=msb (l.getD s 0) (codeOf l s)
end Go.Fl
set_option maxRecDepth 20000
noncomputable section W3S
namespace Go.Proofs.YtfokgjhdndnnhaaGreatDoor
open Go Go.Fl Go.Proofs
theorem qk7 (l:List Bool):pack (l++List.replicate (padN l.length) false)=pack l:=by rw[<- unpack_pack,yH]
theorem qej (l:List Bool):(l++List.replicate (padN l.length) false).length=8*(pack l).length:=by
 rw[List.length_append,List.length_replicate,zF]; unfold padN bytesOf; omega
theorem WrN.grown {S:Nat->Prop} {w:Nat} {l:List Bool} {H:Heap} {x:AV} (hx:(x = .nil/\l = []) \/ ∃ q,¬ S q/\q≠w/\x = .ms q 0 (pack l).length 1/\H.get q=some (bV (pack l))) : ∃ bo,grown H 1 x=some ((pack l).length,bV (pack l),bo) /\ ∀ b,bo=some b -> ¬ S b/\b≠w:=by
 rcases hx with ⟨rfl,h⟩ | ⟨q,q1,q2,rfl,q4⟩
 ·subst h; exact ⟨none,rfl,by simp⟩
 ·exact ⟨some q,grown_of q4 (by rw[qQ]; omega),fun b hb=>by cases hb; exact ⟨q1,q2⟩⟩
theorem qov {P:Program} {H:Heap} {sz q n:Nat} {cs:List AV} {u e:TypeId} (hu:P.underlying u=some (.slice e)) (hq:H.get q=some cs) (hl:cs.length=n*sz):source P H sz u (.ms q 0 n sz)=some (n,cs):=by
 unfold source
 rw[hu]
 simp[sliceCells,hq,hl]
 rw[<- hl,List.take_length]
theorem zl {P:Program} {H:Heap} {sz n:Nat} {cs:List AV} {u e:TypeId} (hu:P.underlying u=some (.slice e)) (hl:cs.length=n*sz):source P H sz u (.vs n sz cs)=some (n,cs):=by
 unfold source
 rw[hu]
 simp[sliceCells,hl]
 try (rw[<- hl,List.take_length])
theorem qmm {P:Program} {H:Heap} {sz:Nat} {u e:TypeId} (hu:P.underlying u=some (.slice e)):source P H sz u .nil=some (0,[]):=by
 unfold source
 rw[hu]
 simp[sliceCells]
theorem wbytes_w {S:Nat->Prop} {w:Nat} {l:List Bool} {H:Heap} (hW:WrN S H w l):SCalls Tryz.prog 24 [.ptr w 0] H (bA (pack l)) H:=by
 obtain ⟨x,h1,gw,hlen,hx,hSn⟩:=hW
 have hpl:(pack l).length<=1000000000:=by rw[zF]; unfold bytesOf; omega
 refine qE (sz:=11) (Tryz.call24) Tryz.func24 rfl (Nat.le_refl _) kz (fun R hR=>?_)
 refine qg (fun K1 hK1=>?_)
 refine qi kz ?_
 simp[go_sem]
 refine hK1 _ _ ?_
 try clear hK1 K1
 refine qg (fun K2 hK2=>?_)
 refine qg (fun K3 hK3=>?_)
 refine qi kz ?_
 refine qI 2 (fun K4 hK4=>?_)
 simp[go_sem]
 refine ⟨_,_,qg0 (z:=.int 0) gw,?_⟩
 refine hK4 _ _ ?_
 clear hK4 K4
 simp[go_sem]
 refine hK3 _ _ ?_
 try clear hK3 K3
 refine qj (b:=false) gz (fun h=>by cases h) (fun _=>?_)
 refine ql ?_
 refine hK2 _ _ ?_
 try clear hK2 K2
 refine qg (fun K5 hK5=>?_)
 have hs:source Tryz.prog H 1 25 x=some ((pack l).length,bV (pack l)):=by
  rcases hx with ⟨rfl,rfl⟩ | ⟨q,q1,q2,rfl,gq⟩
  ·exact qmm tU25
  ·exact qov (P:=Tryz.prog) (sz:=1) (n:=(pack l).length) tU25 gq (by rw[qQ]; omega)
 have ha:=qL (n:=0) (cs:=[]) (bo:=none) (s:=.nil) tU25 tS5 tB5 tZ5 rfl hs rfl oz oz (yc _)
 rw[Nat.zero_add,List.nil_append] at ha
 refine qi kz ?_
 simp[go_sem,gw,ha]
 refine hK5 _ _ ?_
 try clear hK5 K5
 refine qx ?_
 simp only[go_sem]
 refine hR _ _ ?_
 refine zD (v:=.ms H.next 0 (pack l).length 1) gz ?_ (Heap.le_alloc (Heap.le_refl _)) (by simp[Heap.regrow,Heap.delo_next,go_sem]) (by simp[qgu])
 exact Froz.row (b:=H.next) (cs:=bV (pack l)) (by simp[Heap.regrow,Heap.delo,go_sem]) (Nat.le_refl _) (by rw[qQ]; omega) (by rw[List.drop_zero,List.take_of_length_le (by rw[qQ]; omega)])
theorem align_p {S:Nat->Prop} {w:Nat} {l:List Bool} {H:Heap} (hW:WrN S H w l) (hl:l.length<=1073741816):SCallsP Tryz.prog 68 [.ptr w 0] H (fun r H'=>r = .tup []/\WrN S H' w (l++List.replicate (padN l.length) false)/\Step S H H'):=by
 obtain ⟨x,h1,gw,hlen,hx,hSn⟩:=hW
 have hpl:(pack l).length<=134217727:=by rw[zF]; unfold bytesOf; omega
 have hgw:=Heap.lt_of_get gw
 have h8:IntKind.i64.wrap (8*((pack l).length:Int))=8*((pack l).length:Int):=i64in _ oz oz
 have hS : ∀ y,y=x->y.leaf=true/\y.Lt H.next:=by
  rintro y rfl
  rcases hx with ⟨rfl,_⟩ | ⟨q,_,_,rfl,gq⟩
  ·exact ⟨rfl,gz⟩
  ·exact ⟨rfl,by have:=Heap.lt_of_get gq; simp[go_sem,this]⟩
 have hlen2:alen Tryz.prog 25 x=some (.int (pack l).length):=by
  rcases hx with ⟨rfl,rfl⟩ | ⟨q,_,_,rfl,gq⟩
  ·simp[go_sem]; rfl
  ·simp[go_sem]
 refine qA (sz:=13) (Tryz.call68) Tryz.func68 rfl kz (fun R hR=>?_)
 refine qg (fun K1 hK1=>?_)
 refine qi kz ?_
 simp[go_sem]
 refine ⟨_,_,qg0 (z:=.int 0) gw,?_⟩
 refine hK1 _ _ ?_
 try clear hK1 K1
 refine qj (b:=true) gz (fun _=>?_) (fun h=>by cases h)
 refine qo (fun K3 hK3=>?_)
 refine qi kz ?_
 simp[go_sem,gw,hlen2,h8]
 refine hK3 _ _ ?_
 refine hR _ _ ?_
 have hSt:Step S H (H.set w [x,.int (8*((pack l).length:Int)),atF]):=(Step.refl S H).set h1 (by simp[go_sem,atF,(hS x rfl).2])
 refine hSt.retP (r:=.tup []) gz ⟨rfl,⟨x,h1,?_,?_,?_,hSn⟩,hSt⟩ gz
 ·rw[Heap.get_set,if_pos rfl,gw,qej]; simp
 ·rw[qej]; omega
 ·rw[qk7]
  rcases hx with ⟨rfl,rfl⟩ | ⟨q,q1,q2,rfl,gq⟩
  ·exact .inl ⟨rfl,rfl⟩
  ·exact .inr ⟨q,q1,q2,rfl,by rw[Heap.get_set,if_neg q2]; exact gq⟩
theorem qow  : SCalls Tryz.prog 42 [.bool false] Heap.empty (.int 0) Heap.empty:=by
 refine qE (sz:=4) (Tryz.call42) Tryz.func42 rfl (Nat.zero_le _) kz (fun R hR=>?_)
 refine qg (fun K1 hK1=>?_)
 refine qi kz ?_
 simp[go_sem]
 refine hK1 _ _ ?_
 try clear hK1 K1
 refine qg (fun K2 hK2=>?_)
 refine qg (fun K3 hK3=>?_)
 refine qi kz ?_
 simp[go_sem]
 refine hK3 _ _ ?_
 try clear hK3 K3
 refine qj (b:=false) gz (fun h=>by cases h) (fun _=>?_)
 refine ql ?_
 refine hK2 _ _ ?_
 try clear hK2 K2
 refine qg (fun K4 hK4=>?_)
 refine qi kz ?_
 simp[go_sem]
 refine hK4 _ _ ?_
 try clear hK4 K4
 refine qx ?_
 simp only[go_sem]
 refine hR _ _ ?_
 exact qG gz (qP _) (Nat.zero_le _) gz
def codesL (l:List Nat):List Nat:=(List.range l.length).map fun s=>if l.getD s 0=0 then 0 else codeOf l s
def cntC (l:List Nat):List AV:=(List.range 16).map fun n=>.int (cnt l n:Nat)
def tabC (l:List Nat):List AV:=[.bool true,iA l,iA (codesL l)]++cntC l ++ [iA (ordU l 15)]
theorem zQ (l:List Nat):(codesL l).length=l.length:=by simp[codesL]
theorem qox (l:List Nat) (s:Nat) (h:0<l.getD s 0):(codesL l)[s]? = some (codeOf l s):=by
 have:=zX h
 unfold codesL
 rw[List.getElem?_map,List.getElem?_range this]
 simp only[Option.map_some]
 rw[if_neg oz]
theorem jK (l:List Nat):(tabC l).length=20:=by simp[tabC,cntC]
theorem tabC_lt (l:List Nat) (n:Nat) : ∀ x∈tabC l,x.Lt n:=by
 intro x hx
 simp only[tabC,List.mem_append,List.mem_cons,List.mem_singleton,List.not_mem_nil,or_false,cntC,List.mem_map] at hx
 rcases hx with ((rfl | rfl | rfl) | ⟨k,_,rfl⟩) | rfl
 ·exact .sc _
 ·rw[zI]; trivial
 ·rw[zI]; trivial
 ·exact .sc _
 ·rw[zI]; trivial
theorem qmn (l:List Nat):(tabC l).take 1 = [.bool true]:=rfl
theorem yB (l:List Nat):List.take 1 (List.drop 1 (tabC l)) = [iA l]:=rfl
theorem tabC_lens' (l:List Nat):List.take 1 (tabC l).tail = [iA l]:=rfl
theorem jP (l:List Nat):List.take 1 (List.drop 2 (tabC l)) = [iA (codesL l)]:=rfl
theorem tabC_ord (l:List Nat):List.take 1 (List.drop 19 (tabC l)) = [iA (ordU l 15)]:=rfl
def tabA (l:List Nat):AV:=.ep (tabC l)
theorem zT (l:List Nat) (n:Nat):(tabA l).Lt n=True:=eq_true (.ep (tabC_lt l n))
theorem Code_s (l:List Nat) (s:Nat) (h:0<l.getD s 0) (hl:l.length<=1000000):SCalls Tryz.prog 101 [tabA l,.int s] Heap.empty (.tup [.int (codeOf l s:Nat),.int (l.getD s 0:Nat)]) Heap.empty:=by
 have hs:=zX h
 have hsi : ¬ ((l.length:Int)<=s):=oz
 have hs0 : ¬ ((s:Int)<0):=oz
 have hsl:(s:Int)<l.length:=oz
 obtain ⟨r1,d1⟩:=qlm (show l[s]? = some (l.getD s 0) by rw[qU hs]; exact List.getElem?_eq_getElem hs)
 obtain ⟨r2,d2⟩:=qlm (qox l s h)
 have hv : ¬ ((l.getD s 0:Int)=0):=oz
 have hcl:=zQ l
 obtain ⟨v,hvq⟩ : ∃ v,l.getD s 0=v:=⟨_,rfl⟩
 rw[hvq] at d1 hv |-
 have hL1:(iV l).length=l.length:=qK l
 have hL2:(iV (codesL l)).length=l.length:=by rw[qK,hcl]
 have hv2:((v:Int)==0)=false:=by simpa using hv
 refine qE (sz:=45) (Tryz.call101) Tryz.func101 rfl (Nat.zero_le _) kz (fun R hR=>?_)
 refine qg (fun K1 hK1=>?_)
 refine qi kz ?_
 simp[go_sem,tabA,jK,yB,tabC_lens',jP,iA,hcl,hsi,hs0,hsl,d1,d2,hv,hv2,hL1,hL2]
 refine hK1 _ _ ?_
 try clear hK1 K1
 refine qg (fun K2 hK2=>?_)
 refine qg (fun K3 hK3=>?_)
 refine qi kz ?_
 refine qI 6 (fun K4 hK4=>?_)
 simp[go_sem,tabA,jK,yB,tabC_lens',jP,iA,hcl,hsi,hs0,hsl,d1,d2,hv,hv2,hL1,hL2]
 refine hK4 _ _ ?_
 clear hK4 K4
 refine qI 8 (fun K5 hK5=>?_)
 simp[go_sem,tabA,jK,yB,tabC_lens',jP,iA,hcl,hsi,hs0,hsl,d1,d2,hv,hv2,hL1,hL2]
 refine hK5 _ _ ?_
 clear hK5 K5
 simp[go_sem,tabA,jK,yB,tabC_lens',jP,iA,hcl,hsi,hs0,hsl,d1,d2,hv,hv2,hL1,hL2]
 refine hK3 _ _ ?_
 try clear hK3 K3
 refine qj (b:=false) (by simp[go_sem,tabA,jK,yB,tabC_lens',jP,iA,hcl,hsi,hs0,hsl,d1,d2,hv,hv2,hL1,hL2]) (fun h=>by cases h) (fun _=>?_)
 refine ql ?_
 refine hK2 _ _ ?_
 try clear hK2 K2
 refine qg (fun K6 hK6=>?_)
 refine qJ mixed kz ?_
 simp[go_sem,tabA,jK,yB,tabC_lens',jP,iA,hcl,hsi,hs0,hsl,d1,d2,hv,hv2,hL1,hL2]
 refine hK6 _ _ ?_
 try clear hK6 K6
 refine qx ?_
 simp only[go_sem]
 refine hR _ _ ?_
 exact qG gz (qP _) (Nat.zero_le _) gz
end Go.Proofs.YtfokgjhdndnnhaaGreatDoor
end W3S
