/- Contracts: the blocks of a packet, read. -/
import Derived.Test.YtfokgjhdndnnhaaGreatDoorFl57
import Derived.Test.YtfokgjhdndnnhaaGreatDoorW33
import Derived.Test.YtfokgjhdndnnhaaGreatDoorD6
set_option maxHeartbeats 2000000
set_option linter.unusedVariables false
set_option linter.unusedSimpArgs false
set_option maxRecDepth 20000
noncomputable section W52S
namespace Go.Proofs.YtfokgjhdndnnhaaGreatDoor
open Go Go.Fl Go.Proofs
def tailP:List UInt8:=[0,0,255,255]
def pktOf (h b:List UInt8):List UInt8:=packOf h b++tailP
theorem qn0:unpack tailP=natBits 16 0++natBits 16 65535:=dz
theorem ql7:natBits 3 0=natBits 1 0++natBits 2 0:=dz
theorem qde (h b:List UInt8):unpack (pktOf h b)=bestBits h b++(natBits 1 0++(natBits 2 0++(List.replicate (padN ((bestBits h b).length+3)) false++(natBits 16 0++natBits 16 65535)))):=by
 unfold pktOf packOf
 rw[qln,unpack_pack,List.length_append,qB,qn0,ql7]
 simp only[List.append_assoc]
theorem qa4 : ∀ (k:Nat) (l:List UInt8),unpack (l.drop k)=(unpack l).drop (8*k)
 | 0,_=>rfl
 | _+1,[]=>by simp[unpack]
 | k+1,x::l=>by
  rw[List.drop_succ_cons,qa4 k l]
  have:unpack (x::l)=byteBits x++unpack l:=rfl
  rw[this,show 8*(k+1)=(byteBits x).length+8*k by unfold byteBits; rw[qB]; omega,<- List.drop_drop,List.drop_left]
theorem qd5 : ∀ (k:Nat) (l:List UInt8),unpack (l.take k)=(unpack l).take (8*k)
 | 0,_=>rfl
 | _+1,[]=>by simp[unpack]
 | k+1,x::l=>by
  have h1:unpack (x::l)=byteBits x++unpack l:=rfl
  have h2:unpack (x::l.take k)=byteBits x++unpack (l.take k):=rfl
  have h3:(byteBits x).length=8:=qB _ _
  rw[List.take_succ_cons,h2,qd5 k l,h1,List.take_append,List.take_of_length_le (l:=byteBits x) oz,h3]
  congr 2
theorem ql8 {a b:List UInt8} (h:unpack a=unpack b):a=b:=by rw[<- yH a,<- yH b,h]
theorem Ahead.bytes {b:List UInt8} {q:Nat} {l:List UInt8} (h:Ahead b (8*q) (unpack l)):(b.drop q).take l.length=l:=by
 obtain ⟨r,h⟩:=h
 refine ql8 ?_
 rw[qd5,qa4,h,<- zo l,List.take_left]
theorem qfc (h b:List UInt8):bestBits h b=storedBits b\/bestBits h b=fixedBits (tokensL h b)\/bestBits h b=ownBits (tokensL h b):=by
 unfold bestBits wayB
 split
 ·exact .inr (.inr rfl)
 ·unfold wayA
  split
  ·exact .inr (.inl rfl)
  ·exact .inl rfl
theorem qa5 (h b:List UInt8):(bestBits h b).length<=40+8*b.length:=by
 have:=(qk9 b (tokensL h b)).1
 rw[qap] at this
 exact this
theorem qci (h b:List UInt8):(pktOf h b).length=((bestBits h b).length+10)/8+4:=by
 unfold pktOf packOf tailP
 rw[List.length_append,zF,List.length_append,qB]
 rfl
theorem runT_own (h b:List UInt8):Go.Fl.runT (tokensL h b) h=h++b:=(yJ h b).2
theorem qja {S:Nat->Prop} {H:Heap} {ib mo:Nat} {h b:List UInt8} (hI:InR S H ib (pktOf h b) 0 h h.length mo) (hh:h.length<=40000) (hb:b.length<=10000) (hm:b.length<=mo) (h7:mo<=1000000):SCallsP Tryz.prog 27 [.ptr ib 0] H (fun r H'=>(∃ e,r = .tup [.bool false,.bool e,.sc .nilIface])/\InR S H' ib (pktOf h b) (bestBits h b).length (h++b) h.length mo/\Step S H H'):=by
 have hbl:=qa5 h b
 have hpl:=qci h b
 have hA:Ahead (pktOf h b) 0 (bestBits h b):=⟨_,by rw[List.drop_zero]; exact qde h b⟩
 have hrun:=runT_own h b
 have hok:=(yJ h b).1
 have hl:(h++b).length=h.length+b.length:=List.length_append
 rcases qfc h b with hc | hc | hc
 ·rw[hc] at hA hpl hbl |-
  rw[qap] at hpl hbl |-
  unfold storedBits at hA
  have a1:=hA.next
  have a2:=a1.next
  have a3:=a2.next
  have a4:=a3.next
  have a5:=a4.next
  simp only[qB,List.length_replicate] at a1 a2 a3 a4 a5
  have hx:b.length ^^^ 65535<2^16:=Nat.xor_lt_two_pow oz dz
  have hA0:Ahead (pktOf h b) 0 (natBits 1 0++natBits 2 0):=by rw[<- List.append_assoc] at hA; exact hA.fst
  have hby:=Ahead.bytes (q:=5) a5
  refine (qda hI oz (Nat.zero_le _) (f:=0) (n:=b.length) (q:=1) dz hA0 rfl (a3.fst.bits oz) (a4.fst.bits hx) oz (Nat.le_refl _) oz oz h7).mono fun r H' _ ⟨h1,h2,h3⟩=>⟨⟨_,h1⟩,?_,h3⟩
  rw[hby] at h2
  rw[show 40+8*b.length=8*(1+4+b.length) by omega]
  exact h2
 ·rw[hc] at hA hpl hbl |-
  have hf:=jV h b
  unfold fixedBits at hA
  refine (qjt hI oz (Nat.zero_le _) (f:=0) dz (tokensL h b) hA (fun t ht=>qel (hf t ht)) hok (Nat.le_refl _) (by rw[hrun]; omega) (by rw[hrun]; omega) h7).mono fun r H' _ ⟨h1,h2,h3⟩=>⟨⟨false,h1⟩,?_,h3⟩
  rw[hrun] at h2
  have e:(fixedBits (tokensL h b)).length=0+1+2+(toksBits fixS fixD (tokensL h b)++symBits fixS 256).length:=by
   unfold fixedBits
   rw[List.length_append,List.length_append,qB,qB]
   omega
  rw[e]
  exact h2
 ·rw[hc] at hA hpl hbl |-
  have hf:=jV h b
  unfold ownBits at hA
  refine (qnu hI oz (Nat.zero_le _) (f:=0) dz (tokensL h b) (jA _).len (jB _).len (qa8 _) (qa9 _) (qjq _) hA (qjp hf) hok (Nat.le_refl _) (by rw[hrun]; omega) (by rw[hrun]; omega) h7).mono fun r H' _ ⟨h1,h2,h3⟩=>⟨⟨false,h1⟩,?_,h3⟩
  rw[hrun] at h2
  have e:(ownBits (tokensL h b)).length=0+1+2+(toldBits (ownX (tokensL h b)) (ownY (tokensL h b))).length+(toksBits (ownX (tokensL h b)) (ownY (tokensL h b)) (tokensL h b)++symBits (ownX (tokensL h b)) 256).length:=by
   unfold ownBits
   rw[List.length_append,List.length_append,List.length_append,qB,qB]
   omega
  rw[e]
  exact h2
theorem qhp {S:Nat->Prop} {H:Heap} {ib fr mo:Nat} {h b all:List UInt8} (hI:InR S H ib (pktOf h b) (bestBits h b).length all fr mo) (hb:b.length<=10000) (h1:fr<=all.length) (h2:all.length<=1000000) (h3:all.length<=fr+mo) (h7:mo<=1000000):SCallsP Tryz.prog 27 [.ptr ib 0] H (fun r H'=>r = .tup [.bool false,.bool true,.sc .nilIface]/\InR S H' ib (pktOf h b) (8*(pktOf h b).length) all fr mo/\Step S H H'):=by
 have hbl:=qa5 h b
 have hpl:=qci h b
 have hA:Ahead (pktOf h b) (bestBits h b).length ((natBits 1 0++natBits 2 0)++(List.replicate (padN ((bestBits h b).length+3)) false++(natBits 16 0++natBits 16 65535))):=⟨[],by rw[qde,List.drop_left,List.append_nil,List.append_assoc]⟩
 obtain ⟨bl,hbq⟩ : ∃ z,(bestBits h b).length=z:=⟨_,rfl⟩
 rw[hbq] at hA hI hbl hpl
 have a1:=hA.next
 have a2:=a1.next
 have a3:=a2.next
 simp only[List.length_append,qB,List.length_replicate] at a1 a2 a3
 have hq:bl+(1+2)+padN (bl+3)=8*((bl+10)/8):=by unfold padN bytesOf; omega
 rw[hq] at a2 a3
 refine (qda hI oz oz (f:=0) (n:=0) (q:=(bl+10)/8) dz hA.fst oz (a2.fst.bits dz) (a3.bits dz) oz h1 h2 oz h7).mono fun r H' _ ⟨k1,k2,k3⟩=>⟨k1,?_,k3⟩
 rw[List.take_zero,List.append_nil] at k2
 rw[hpl]
 exact k2
theorem qat {P:Program} {f:FuncId} {args args' : List AV} {H H' : Heap} {post:AV->Heap->Prop} (hle:H'.le H) (hn:H.next=H'.next) (ha:FrozL H (fun b=>H'.get b=none) args args') (h:SCallsP P f args' H' post):SCallsP P f args H post:=by
 refine ⟨h.1,fun ρ I w cargs hrel hargs=>?_⟩
 have hrel' : Rel ρ (keptBy ρ I H H') H' w.heap:=hrel.keep hle oz
 have hargs' : VRs ρ (keptBy ρ I H H') w.heap args' cargs:=by
  refine ⟨by rw[<- ha.get.1]; exact hargs.1,fun i x hx=>?_⟩
  have hi:i<args.length:=by rw[ha.get.1]; exact (List.getElem?_eq_some_iff.1 hx).1
  have hy:args[i]? = some args[i]:=List.getElem?_eq_getElem hi
  exact (ha.get.2 i x _ hx hy).vr hrel (hargs.2 i _ hy)
 refine (h.2 _ _ w cargs hrel' hargs').mono ?_
 rintro e w' ⟨r,H2,v,ρ',I',hp,hn2,he,hv,hr',hx⟩
 refine ⟨r,H2,v,ρ',I',hp,oz,he,hv,hr',{ hx with imm:=fun cb hcb=>hx.imm cb (.inl hcb),kept:=fun cb hcb=>hx.kept cb (.inl hcb),newI:=fun cb hcb=>?_ }⟩
 rcases hx.newI cb hcb with h1 | h1 | h1
 ·rcases h1 with h1 | ⟨b,cs,base,_,_,h4⟩
  ·exact .inl h1
  ·exact .inr (.inr ⟨_,_,h4⟩)
 ·exact .inr (.inl h1)
 ·exact .inr (.inr h1)
theorem qn1 {H:Heap} {x:AV} {h b:List UInt8} {mo q n:Nat} (gq:H.get q=some (bV b)) (hn:b.length=n) (hx:HistB (fun z=>z=q) H x h) (hh:h.length<=32768) (hb:b.length<=100000):SCallsP Tryz.prog 26 [.ms q 0 n 1,x,.int mo] H (fun r H' => ∃ ib,r = .ptr ib 0/\InR (fun z=>z<H.next/\z≠q) H' ib b 0 h h.length mo/\Step (fun z=>z<H.next/\z≠q) H H'):=by
 subst hn
 have hd:Step (fun z=>z<H.next/\z≠q) H (H.del q):=(Step.refl _ H).del (bo:=some q) (fun z hz e=>by cases hz; exact e.2 rfl)
 have hx2:HistB (fun _=>False) (H.del q) x h:=by
  rcases hx with k | ⟨q2,pre,k1,k2,k3⟩
  ·exact .inl k
  ·exact .inr ⟨q2,pre,id,k2,by rw[Heap.get_del,if_neg (fun e=>k1 e)]; exact k3⟩
 refine qat (H':=H.del q) (args':=[bA b,x,.int mo]) (fun k cs hk=>by rw[Heap.get_del] at hk; split at hk; cases hk; exact hk) rfl (.cons (jh (grown_of gq (by rw[qQ]; omega)) fun k hk=>by cases hk; rw[Heap.get_del,if_pos rfl]) (.cons (.same _) (.cons (.same _) .nil))) ?_
 refine (start_p hx2 hh hb).mono fun r H' _ ⟨ib,h1,_,h3,h4⟩=>⟨ib,h1,?_,hd.trans (h4.mono fun z hz=>hz.1)⟩
 obtain ⟨rb,x,k1,k2,k3,k4,k5,k6,k7⟩:=h3
 exact ⟨rb,x,fun e=>k1 e.1,fun e=>k2 e.1,k3,k4,k5,k6.mono (fun z hz=>hz.elim (fun e=>.inl e.1) .inr),fun z hz=>k7 z hz.1⟩
theorem InR.mono {S S' : Nat->Prop} {H:Heap} {ib p fr mo:Nat} {b all:List UInt8} (h:InR S H ib b p all fr mo) (hs : ∀ z,S' z->S z):InR S' H ib b p all fr mo:=by
 obtain ⟨rb,x,k1,k2,k3,k4,k5,k6,k7⟩:=h
 exact ⟨rb,x,fun e=>k1 (hs _ e),fun e=>k2 (hs _ e),k3,k4,k5,k6.mono (fun z hz=>hz.elim (fun e=>.inl (hs _ e)) .inr),fun z hz=>k7 z (hs _ hz)⟩
theorem qjb {l:List UInt8} {n:Nat} (hn:l.length=n) (h1:0<n) (hl:n<=1000000) (H:Heap):SCalls Tryz.prog 25 [.vs n 1 (bV l)] H (.ms (H.next+1) 0 n 1) ((H.alloc []).regrow (some H.next) (bV l)):=by
 have hsrc:source Tryz.prog (H.alloc []) 1 25 (.vs n 1 (bV l))=some (n,bV l):=zl tU25 (by rw[qQ]; omega)
 have ha:=qL (P:=Tryz.prog) (H:=H.alloc []) (t:=25) (s:=.ms H.next 0 0 1) (n:=0) (cs:=[]) (bo:=some H.next) (k:=n) tU25 tS5 tB5 tZ5 rfl hsrc (grown_of (n:=0) (sz:=1) (by rw[Heap.get_alloc,if_pos rfl]) rfl) oz oz (yc l)
 rw[Nat.zero_add,List.nil_append] at ha
 simp only[Heap.next_alloc] at ha
 refine qE (sz:=8) (Tryz.call25) Tryz.func25 rfl (by rw[Heap.next_regrow,Heap.next_alloc]; omega) kz (fun R hR=>?_)
 refine qg (fun K1 hK1=>?_)
 refine qi kz ?_
 simp[go_sem]
 refine hK1 _ _ ?_
 try clear hK1 K1
 refine qg (fun K2 hK2=>?_)
 refine qg (fun K3 hK3=>?_)
 refine qi kz ?_
 simp[go_sem,h1]
 refine hK3 _ _ ?_
 try clear hK3 K3
 refine qj (b:=false) (by simp[go_sem,h1]) (fun h=>by cases h) (fun _=>?_)
 refine ql ?_
 refine hK2 _ _ ?_
 try clear hK2 K2
 refine qg (fun K4 hK4=>?_)
 refine qi kz ?_
 simp[go_sem,ha,zrep0]
 refine hK4 _ _ ?_
 try clear hK4 K4
 refine qx ?_
 simp only[go_sem]
 refine hR _ _ ?_
 refine je gz (by simp[go_sem]; omega) gz (fun b cs hb=>?_)
 unfold Heap.regrow at hb
 rw[Heap.get_alloc] at hb
 split at hb
 ·cases hb; exact .inr (ja l _)
 ·left
  have h2:=(H.alloc []).delo_le (some H.next) b cs hb
  rw[Heap.get_alloc] at h2
  split at h2
  ·rename_i e; subst e; simp only[Heap.delo] at hb; rw[Heap.get_del,if_pos rfl] at hb; cases hb
  ·exact h2
theorem qhq {l:List UInt8} {n:Nat} (hn:l.length=n) (h1:0<n) (hl:n<=1000000) (H:Heap) : ∃ H',SCalls Tryz.prog 25 [.vs n 1 (bV l)] H (.ms (H.next+1) 0 n 1) H' /\ H'.get (H.next+1)=some (bV l)/\H'.next=H.next+2/\Step (fun z=>z<H.next) H H':=by
 refine ⟨_,qjb hn h1 hl H,?_,by rw[Heap.next_regrow,Heap.next_alloc],((Step.refl _ _).alloc (by simp)).regrow (fun b hb=>by cases hb; exact Nat.lt_irrefl _) (ja _ _)⟩
 have:=zf (H:=H.alloc []) (bo:=some H.next) (v:=bV l)
 rw[Heap.next_alloc] at this
 exact this
end Go.Proofs.YtfokgjhdndnnhaaGreatDoor
end W52S
set_option maxRecDepth 20000
noncomputable section W53S
namespace Go.Proofs.YtfokgjhdndnnhaaGreatDoor
open Go Go.Fl Go.Proofs
theorem qn2 {S:Nat->Prop} {D:Nat} {h b:List UInt8} (hb:b.length<=10000) {mo:Nat} (hm:b.length<=mo) (h7:mo<=1000000) {H:Heap} (hk:KeepS S H D h):SCallsP Tryz.prog 16 [.ptr D 0,bA (packOf h b),.int mo] H (fun r H'=>r = .tup [bA b,.int 0]/\KeepS S H' D (lastW (h++b))/\Step S H H'):=by
 obtain ⟨x,hD,gD,hx,hh,hSn⟩:=id hk
 have hDl:=Heap.lt_of_get gD
 have nD0 : ¬ D=H.next:=oz
 have nD1 : ¬ D=H.next+1:=oz
 have nD2 : ¬ D=H.next+2:=oz
 have hbl:=qa5 h b
 have hpl:=qci h b
 have h0p:0<(packOf h b).length:=by unfold packOf; rw[zF,List.length_append,qB]; unfold bytesOf; omega
 have hpk:pktOf h b=packOf h b++tailP:=rfl
 have hpl2:(pktOf h b).length=(packOf h b).length+4:=by rw[hpk,List.length_append]; rfl
 have hbv:bV (pktOf h b)=bV (packOf h b) ++ [.sc (.int .u8 0),.sc (.int .u8 0),.sc (.int .u8 255),.sc (.int .u8 255)]:=by rw[hpk,jF]; rfl
 obtain ⟨n,hn⟩ : ∃ z,(packOf h b).length=z:=⟨_,rfl⟩
 have hbA:bA (packOf h b) = .vs n 1 (bV (packOf h b)):=by unfold bA; rw[hn]
 rw[hn] at h0p hpl2
 rw[hbA]
 obtain ⟨pk,hpq⟩ : ∃ z,packOf h b=z:=⟨_,rfl⟩
 rw[hpq] at hn hbv |-
 clear hpk hbA
 obtain ⟨bl,hbq⟩ : ∃ z,(bestBits h b).length=z:=⟨_,rfl⟩
 refine qA (sz:=61) (Tryz.call16) Tryz.func16 rfl kz (fun R hR=>?_)
 refine qg (fun K1 hK1=>?_)
 refine qi kz ?_
 simp[go_sem]
 refine hK1 _ _ ?_
 try clear hK1 K1
 refine qg (fun K2 hK2=>?_)
 refine qg (fun K3 hK3=>?_)
 refine qi kz ?_
 simp[go_sem,gD]
 refine hK3 _ _ ?_
 try clear hK3 K3
 refine qj (b:=false) gz (fun h=>by cases h) (fun _=>?_)
 refine ql ?_
 refine hK2 _ _ ?_
 try clear hK2 K2
 refine qw (fun env H2 => ∃ ib,(env 0 = .ptr D 0/\env 8 = .ptr ib 0)/\InR (fun z=>z<H.next) H2 ib (pktOf h b) 0 h h.length mo/\Step (fun z=>z<H.next) H H2) ?_ ?_
 ·skip
  refine qo (fun K96 hK96=>?_)
  refine zx mixed ?_
  refine qf8 9 kz ?_
  refine zh 1 2 dz ?_ ?_
  ·skip
   obtain ⟨Hc,cc,gc,hcn,hSc⟩:=qhq hn h0p oz H
   have gDc:=hSc.get gD hDl
   obtain ⟨Hl,hHl⟩ : ∃ z,Hc.alloc [.sc (.int .u8 0),.sc (.int .u8 0),.sc (.int .u8 255),.sc (.int .u8 255)]=z:=⟨_,rfl⟩
   have hln:Hl.next=H.next+3:=by rw[<- hHl,Heap.next_alloc,hcn]
   have gl:Hl.get (H.next+2)=some [.sc (.int .u8 0),.sc (.int .u8 0),.sc (.int .u8 255),.sc (.int .u8 255)]:=by rw[<- hHl,Heap.get_alloc,if_pos hcn.symm]
   have gcl:Hl.get (H.next+1)=some (bV pk):=by rw[<- hHl,Heap.get_alloc,if_neg oz]; exact gc
   have gDl:Hl.get D=some [.bool true,x]:=by rw[<- hHl,Heap.get_alloc,if_neg oz]; exact gDc
   have hSl:Step (fun z=>z<H.next) H Hl:=by rw[<- hHl]; exact hSc.alloc gz
   have hc1:((H.next+1):Nat)=H.next+1:=rfl
   have happ:=qL (P:=Tryz.prog) (H:=Hl) (t:=25) (u:=25) (s:=.ms (H.next+1) 0 n 1) (x:=.ms (H.next+2) 0 4 1) (n:=n) (cs:=bV pk) (bo:=some (H.next+1)) (k:=4) (new:=[.sc (.int .u8 0),.sc (.int .u8 0),.sc (.int .u8 255),.sc (.int .u8 255)]) tU25 tS5 tB5 tZ5 rfl (by rw[zq tU25 gl (Nat.le_refl _)]; rfl) (grown_of gcl (by rw[qQ]; omega)) oz oz rfl
   rw[hln] at happ
   obtain ⟨H6,hH6⟩ : ∃ z,Hl.regrow (some (H.next+1)) (bV pk ++ [.sc (.int .u8 0),.sc (.int .u8 0),.sc (.int .u8 255),.sc (.int .u8 255)])=z:=⟨_,rfl⟩
   rw[hH6] at happ
   have hn6:H6.next=H.next+4:=by rw[<- hH6,Heap.next_regrow,hln]
   have gq:H6.get (H.next+3)=some (bV (pktOf h b)):=by rw[<- hH6,hbv,<- hln]; exact zf
   have hS6:Step (fun z=>z<H.next) H H6:=by
    rw[<- hH6]
    refine hSl.regrow (fun z hz e=>by cases hz; have h9:_<H.next:=e; omega) ?_
    intro y hy
    rw[<- hbv] at hy
    exact ja _ _ y hy
   have gD6:=hS6.get gD hDl
   have hx6:HistB (fun z=>z=H.next+3) H6 x h:=by
    rcases hx with k | ⟨q2,pre,k1,k2,k3⟩
    ·exact .inl k
    ·exact .inr ⟨q2,pre,fun e=>by have:=Heap.lt_of_get k3; omega,k2,hS6.get k3 (Heap.lt_of_get k3)⟩
   refine qW (bf:=[0,1,3,7,0,16,48,112,0]) kz kz ?_
   simp[go_sem,befL,addE,permOps,reE,fnL]
   refine ⟨_,_,cc,?_⟩
   simp[go_sem,befL,addE,permOps,reE,fnL,hHl,hcn,happ,gD,gDc,gDl,gD6,nD0,nD1,nD2]
   refine ⟨fun _=>?_,fun h=>absurd rfl h⟩
   refine qV (l:=[9]) kz kz dz (fun k hk=>?_)
   simp only[List.mem_cons,List.not_mem_nil,or_false] at hk
   subst hk
   refine ⟨_,rfl,?_⟩
   simp[go_sem]
   refine ⟨_,qn1 gq hpl2 hx6 hh oz,?_⟩
   rintro _ H7 hn7 ⟨ib,rfl,hI7,hS7⟩
   refine qV (l:=[10]) kz kz dz (fun k hk=>?_)
   simp only[List.mem_cons,List.not_mem_nil,or_false] at hk
   subst hk
   refine ⟨_,rfl,?_⟩
   simp[go_sem]
   refine jd kz ?_
   refine hK96 _ _ ?_
   exact ⟨ib,⟨gz,gz⟩,hI7.mono (fun z hz=>⟨by have h9:z<H.next:=hz; omega,by have h9:z<H.next:=hz; omega⟩),hS6.trans (hS7.mono fun z hz=>⟨by have h9:z<H.next:=hz; omega,by have h9:z<H.next:=hz; omega⟩)⟩
  ·skip
   obtain ⟨Ha,hHa⟩ : ∃ z,H.alloc [.sc (.int .u8 0),.sc (.int .u8 0),.sc (.int .u8 255),.sc (.int .u8 255)]=z:=⟨_,rfl⟩
   have han:Ha.next=H.next+1:=by rw[<- hHa,Heap.next_alloc]
   obtain ⟨Hl,cc,gcl,hln,hScl⟩:=qhq hn h0p oz Ha
   rw[han] at cc gcl hln
   have gDa:Ha.get D=some [.bool true,x]:=by rw[<- hHa,Heap.get_alloc,if_neg oz]; exact gD
   have gDl:=hScl.get gDa (by show _<_; omega)
   have gl:Hl.get H.next=some [.sc (.int .u8 0),.sc (.int .u8 0),.sc (.int .u8 255),.sc (.int .u8 255)]:=hScl.get (by rw[<- hHa,Heap.get_alloc,if_pos rfl]) (by show _<_; omega)
   have hSl:Step (fun z=>z<H.next) H Hl:=by
    refine Step.trans (H1:=Ha) ?_ (hScl.mono fun z hz=>by have h9:z<H.next:=hz; show _<_; omega)
    rw[<- hHa]
    exact (Step.refl _ H).alloc gz
   have happ:=qL (P:=Tryz.prog) (H:=Hl) (t:=25) (u:=25) (s:=.ms (H.next+1+1) 0 n 1) (x:=.ms H.next 0 4 1) (n:=n) (cs:=bV pk) (bo:=some (H.next+1+1)) (k:=4) (new:=[.sc (.int .u8 0),.sc (.int .u8 0),.sc (.int .u8 255),.sc (.int .u8 255)]) tU25 tS5 tB5 tZ5 rfl (by rw[zq tU25 gl (Nat.le_refl _)]; rfl) (grown_of gcl (by rw[qQ]; omega)) oz oz rfl
   rw[hln] at happ
   obtain ⟨H6,hH6⟩ : ∃ z,Hl.regrow (some (H.next+1+1)) (bV pk ++ [.sc (.int .u8 0),.sc (.int .u8 0),.sc (.int .u8 255),.sc (.int .u8 255)])=z:=⟨_,rfl⟩
   rw[hH6] at happ
   have hn6:H6.next=H.next+4:=by rw[<- hH6,Heap.next_regrow,hln]
   have gq:H6.get (H.next+3)=some (bV (pktOf h b)):=by rw[<- hH6,hbv,<- hln]; exact zf
   have hS6:Step (fun z=>z<H.next) H H6:=by
    rw[<- hH6]
    refine hSl.regrow (fun z hz e=>by cases hz; have h9:_<H.next:=e; omega) ?_
    intro y hy
    rw[<- hbv] at hy
    exact ja _ _ y hy
   have gD6:=hS6.get gD hDl
   have hx6:HistB (fun z=>z=H.next+3) H6 x h:=by
    rcases hx with k | ⟨q2,pre,k1,k2,k3⟩
    ·exact .inl k
    ·exact .inr ⟨q2,pre,fun e=>by have:=Heap.lt_of_get k3; omega,k2,hS6.get k3 (Heap.lt_of_get k3)⟩
   refine zy [0,2,1,3,4,5,6,7,8] [0,2,1,3,4,5,6,7,8] kz ?_
   refine qW (bf:=[0,0,3,7,0,16,48,112,0]) kz kz ?_
   simp[go_sem,befL,addE,permOps,reE,fnL,hHa]
   refine ⟨_,_,cc,?_⟩
   simp[go_sem,befL,addE,permOps,reE,fnL,hHa,happ,gD,gDa,gDl,gD6,nD0,nD1,nD2]
   refine ⟨fun _=>?_,fun h=>absurd rfl h⟩
   refine qV (l:=[9]) kz kz dz (fun k hk=>?_)
   simp only[List.mem_cons,List.not_mem_nil,or_false] at hk
   subst hk
   refine ⟨_,rfl,?_⟩
   simp[go_sem]
   refine ⟨_,qn1 gq hpl2 hx6 hh oz,?_⟩
   rintro _ H7 hn7 ⟨ib,rfl,hI7,hS7⟩
   refine qV (l:=[10]) kz kz dz (fun k hk=>?_)
   simp only[List.mem_cons,List.not_mem_nil,or_false] at hk
   subst hk
   refine ⟨_,rfl,?_⟩
   simp[go_sem]
   refine jd kz ?_
   refine hK96 _ _ ?_
   exact ⟨ib,⟨gz,gz⟩,hI7.mono (fun z hz=>⟨by have h9:z<H.next:=hz; omega,by have h9:z<H.next:=hz; omega⟩),hS6.trans (hS7.mono fun z hz=>⟨by have h9:z<H.next:=hz; omega,by have h9:z<H.next:=hz; omega⟩)⟩
 rintro env H2 ⟨ib,⟨e0,e8⟩,hI2,hS2⟩
 refine qm ?_
 refine qC (Inv:=fun m0 env H2 => ∃ (j pos:Nat) (al:List UInt8),((j=0/\pos=0/\h=al)\/(j=1/\pos=bl/\al=h++b))/\m0=1-j/\env 0 = .ptr D 0/\env 8 = .ptr ib 0/\InR (fun z=>z<H.next) H2 ib (pktOf h b) pos al h.length mo/\Step (fun z=>z<H.next) H H2) ?_ (n:=1) (⟨0,0,h,.inl ⟨rfl,rfl,rfl⟩,rfl,e0,e8,hI2,hS2⟩)
 clear e0 e8 hI2 hS2
 rintro m0 env H2 ⟨j,pos,al,hj,rfl,e0,e8,hI2,hS2⟩
 refine qm ?_
 refine qg (fun K5 hK5=>?_)
 rcases hj with ⟨rfl,rfl,rfl⟩ | ⟨rfl,rfl,rfl⟩
 ·skip
  have cb1:=qja hI2 oz hb hm h7
  rw[hbq] at cb1
  refine qp kz ?_
  refine qH 2 (fun K6 hK6=>?_)
  simp[go_sem,e8]
  refine ⟨_,cb1,?_⟩
  rintro _ H3 hn3 ⟨⟨ee,rfl⟩,hI3,hS3⟩
  obtain ⟨rb,xx,_,_,_,gI,gR,_,_⟩:=id hI3
  have cl:=qlb gR oz oz
  have hlf:(0:Int)<((8*(pktOf h b).length-bl:Nat):Int):=oz
  obtain ⟨lf,hlq⟩ : ∃ z,8*(pktOf h b).length-bl=z:=⟨_,rfl⟩
  rw[hlq] at cl hlf
  have hlf2:0<lf:=oz
  refine hK6 _ _ ?_
  clear hK6 K6
  simp[go_sem,e8]
  refine hK5 _ _ ?_
  try clear hK5 K5
  refine qg (fun K7 hK7=>?_)
  refine qm ?_
  refine qg (fun K8 hK8=>?_)
  refine qi kz ?_
  simp[go_sem]
  refine hK8 _ _ ?_
  try clear hK8 K8
  refine qj (b:=false) gz (fun h=>by cases h) (fun _=>?_)
  refine qg (fun K9 hK9=>?_)
  refine qi kz ?_
  simp[go_sem]
  refine hK9 _ _ ?_
  try clear hK9 K9
  refine qj (b:=false) gz (fun h=>by cases h) (fun _=>?_)
  refine qg (fun K10 hK10=>?_)
  refine qo (fun K11 hK11=>?_)
  refine qi kz ?_
  refine qI 5 (fun K12 hK12=>?_)
  simp[go_sem,e8,gI,hlf,hlf2]
  refine ⟨_,_,cl,?_⟩
  refine hK12 _ _ ?_
  clear hK12 K12
  simp[go_sem,e8,gI,hlf,hlf2]
  refine hK11 _ _ ?_
  refine hK10 _ _ ?_
  try clear hK10 K10
  refine qj (b:=true) (by simp[go_sem,hlf,hlf2]) (fun _=>?_) (fun h=>by cases h)
  refine qy ?_
  exact ⟨0,oz,1,bl,h++b,.inr ⟨rfl,rfl,rfl⟩,rfl,by simp[go_sem,e0],by simp[go_sem,e8],hI3,hS2.trans hS3⟩
 ·skip
  rw[<- hbq] at hI2
  have cb2:=qhp hI2 hb (by rw[List.length_append]; omega) (by rw[List.length_append]; omega) (by rw[List.length_append]; omega) h7
  refine qp kz ?_
  refine qH 2 (fun K13 hK13=>?_)
  simp[go_sem,e8]
  refine ⟨_,cb2,?_⟩
  rintro _ H3 hn3 ⟨rfl,hI3,hS3⟩
  obtain ⟨rb,xx,_,_,_,gI,gR,_,_⟩:=id hI3
  have cl:=qlb gR oz (Nat.le_refl _)
  rw[Nat.sub_self] at cl
  have ct:=told_v hI3 (by rw[List.length_append]; omega) (by rw[List.length_append]; omega)
  rw[List.drop_left] at ct
  refine hK13 _ _ ?_
  clear hK13 K13
  simp[go_sem,e8]
  refine hK5 _ _ ?_
  try clear hK5 K5
  refine qg (fun K14 hK14=>?_)
  refine qm ?_
  refine qg (fun K15 hK15=>?_)
  refine qi kz ?_
  simp[go_sem]
  refine hK15 _ _ ?_
  try clear hK15 K15
  refine qj (b:=false) gz (fun h=>by cases h) (fun _=>?_)
  refine qg (fun K16 hK16=>?_)
  refine qi kz ?_
  simp[go_sem]
  refine hK16 _ _ ?_
  try clear hK16 K16
  refine qj (b:=false) gz (fun h=>by cases h) (fun _=>?_)
  refine qg (fun K17 hK17=>?_)
  refine qi kz ?_
  refine qI 5 (fun K18 hK18=>?_)
  simp[go_sem,e8,gI]
  refine ⟨_,_,cl,?_⟩
  refine hK18 _ _ ?_
  clear hK18 K18
  simp[go_sem,e8,gI]
  refine hK17 _ _ ?_
  try clear hK17 K17
  refine qj (b:=false) gz (fun h=>by cases h) (fun _=>?_)
  refine qg (fun K19 hK19=>?_)
  refine qi kz ?_
  simp[go_sem]
  refine hK19 _ _ ?_
  try clear hK19 K19
  refine qj (b:=false) gz (fun h=>by cases h) (fun _=>?_)
  refine ql ?_
  refine hK14 _ _ ?_
  try clear hK14 K14
  refine qg (fun K20 hK20=>?_)
  refine qp kz ?_
  refine qH 2 (fun K21 hK21=>?_)
  simp[go_sem,e8]
  refine ⟨_,ct,?_⟩
  rintro _ H4 hn4 ⟨rfl,hS4⟩
  have hSa:=hS2.trans hS3
  have hSb:=hSa.trans (hS4.mono fun z (hz:z<H.next)=>Nat.lt_of_lt_of_le hz hSa.le)
  have ca:=fAdd_p hb (hk.keep hSb (fun z hz=>hz))
  refine hK21 _ _ ?_
  clear hK21 K21
  simp[go_sem,e8]
  refine hK20 _ _ ?_
  try clear hK20 K20
  refine qg (fun K22 hK22=>?_)
  refine qp kz ?_
  simp[go_sem,e0]
  refine ⟨_,ca,?_⟩
  rintro _ H5 hn5 ⟨rfl,hk5,hS5⟩
  refine hK22 _ _ ?_
  try clear hK22 K22
  refine qg (fun K24 hK24=>?_)
  refine qi kz ?_
  simp[go_sem]
  refine hK24 _ _ ?_
  try clear hK24 K24
  refine qx ?_
  simp only[go_sem]
  refine hR _ _ ?_
  have hSf:Step S H H5:=(hSb.mono fun z hz=>hSn z hz).trans hS5
  exact hSf.retP (r:=.tup [bA b,.int 0]) gz ⟨rfl,hk5,hSf⟩ (.tup fun z hz=>by
   simp only[List.mem_cons,List.not_mem_nil,or_false] at hz
   rcases hz with rfl | rfl
   ·rw[qgu]; trivial
   ·exact .sc _)
end Go.Proofs.YtfokgjhdndnnhaaGreatDoor
end W53S
noncomputable section Fl58S
namespace Go.Fl
open Go
section
variable {P:Program} {env:Env} {H:Heap} {d:Option Tmp} {ty:TypeId} {pos:String} {af:Array Edge}
theorem ql9 (w:World) (cb:Nat) (o n:Nat) {c:Array Value} {e:TypeId} {fz:Nat × Nat} (h:w.heap[cb]? = some (.cells c e fz)):(∃ fz',(w.freeze ⟨cb,o,none⟩ n).heap[cb]? = some (.cells c e fz'))/\(∀ k,k≠cb->(w.freeze ⟨cb,o,none⟩ n).heap[k]? = w.heap[k]?)/\(w.freeze ⟨cb,o,none⟩ n).heap.size=w.heap.size:=by
 unfold World.freeze
 split
 ·exact ⟨⟨fz,h⟩,fun _ _=>rfl,rfl⟩
 ·refine ⟨?_,fun k hk=>?_,by simp⟩
  ·simp only[Array.getElem?_modify,if_true,h]
   exact ⟨_,rfl⟩
  ·simp only[Array.getElem?_modify]
   rw[if_neg (fun e=>hk e.symm)]
theorem qjc {x:Operand} {t e:TypeId} {b n:Nat} {cs:List AV} (ht:P.underlying t=some (.slice e)) (he:P.underlying e=some (.int .u8)) (h:aev env x = .ms b 0 n 1) (hb:H.get b=some cs) (hn:cs.length=n) (h0:0<n) :
  OpSem P ⟨d,.convert t t x,ty,pos,af,none⟩ env H (.vs n 1 cs) (H.del b):=by
 refine zU fun ρ I w cv hr hv=>?_
 have h1:=hv x
 rw[h] at h1
 generalize hc:cv x=u at h1
 cases h1 with
 | ms0 _=>omega
 | @ms _ _ _ _ cb base cap c e2 fz k1 k2 k3 k4 =>
  rcases hr.live b cs hb with ⟨m1,_⟩ | ⟨cb',base',c',e',m1,m2,⟨fz',m3,m4⟩,m5,m6⟩
  ·rw[k1] at m1; cases m1
  rw[k1] at m1
  cases m1
  rw[k3] at m4
  cases m4
  obtain ⟨⟨fw,f1⟩,f2,f3⟩:=ql9 w cb c.size 1 k3
  obtain ⟨w',hw⟩ : ∃ z,w.freeze ⟨cb,c.size,none⟩ 1=z:=⟨_,rfl⟩
  have hos:w'.os=w.os/\w'.tape=w.tape/\w'.output=w.output:=by rw[<- hw]; exact ⟨rfl,rfl,rfl⟩
  rw[hw] at f1 f2 f3
  have hblk : ∀ (k:Nat) (c1:Array Value) (e1:TypeId) (z:Nat × Nat),w.heap[k]? = some (Obj.cells c1 e1 z) -> ∃ (c2:Array Value) (z2:Nat × Nat),w'.heap[k]? = some (Obj.cells c2 e1 z2)/\c2.size=c1.size:=by
   intro k c1 e1 z hk
   by_cases hkc:k=cb
   ·subst hkc
    rw[k3] at hk; cases hk
    exact ⟨_,_,f1,rfl⟩
   ·exact ⟨c1,z,by rw[f2 k hkc]; exact hk,rfl⟩
  have hI : ∀ k,I k->k≠cb:=fun k hk e=>m2 (e ▸ hk)
  have up : ∀ {y:AV} {v:Value},VR ρ I w.heap y v->VR ρ (fun k=>I k\/k=cb) w'.heap y v:=fun hy =>
   hy.mono' (fun _ _ h=>h) (fun _ h=>.inl h) (fun k hk=>f2 k (hI k hk)) hblk
  have hlt:cb<w.heap.size:=(Array.getElem?_eq_some_iff.1 k3).1
  refine ⟨.slice (some ⟨cb,base+0,none⟩) n cap,w',ρ,fun k=>I k\/k=cb,?_,?_,?_,?_⟩
  ·have hsh:w.shape? cb=some (e2,c.size):=by unfold World.shape?; rw[k3]
   simp[execOp,convert,hc,run_underlying ht,run_underlying he,markStringish,hsh,hw]
  ·exact .vs (.inr rfl) k2 f1 oz oz (fun i y hy=>up (m6 i y hy))
  ·refine ⟨fun b2 cs2 hb2=>?_,fun b2 b3 cs2 cs3 cb2 o2 o3 q1 q2 q3 q4=>?_,hr.rng,fun b2 cb2 o2 q=>?_,fun k hk=>?_,hr.glob.ext (fun _ h=>.inl h) (fun k hk=>f2 k (hI k hk))⟩
   ·rw[Heap.get_del] at hb2
    split at hb2
    ·cases hb2
    rename_i hne
    rcases hr.live b2 cs2 hb2 with q | ⟨cb2,base2,c2,e3,q1,q2,⟨fz2,q3,q4⟩,q5,q6⟩
    ·exact .inl q
    ·have hcb:cb2≠cb:=by
      rintro rfl
      exact hne (hr.inj _ _ _ _ _ _ _ hb2 hb q1 k1)
     exact .inr ⟨cb2,base2,c2,e3,q1,fun h=>h.elim q2 hcb,⟨fz2,q3,by rw[f2 _ hcb]; exact q4⟩,q5,fun i y hy=>up (q6 i y hy)⟩
   ·rw[Heap.get_del] at q1 q2
    split at q1
    ·cases q1
    split at q2
    ·cases q2
    exact hr.inj _ _ _ _ _ _ _ q1 q2 q3 q4
   ·obtain ⟨c1,e1,z,q1⟩:=hr.at_ _ _ _ q
    obtain ⟨c2,z2,q2,_⟩:=hblk _ _ _ _ q1
    exact ⟨_,_,_,q2⟩
   ·rw[f3]
    rcases hk with hk | rfl
    ·exact hr.irng k hk
    ·exact hlt
  ·exact ⟨fun _ _ h=>h,fun _ h=>.inl h,by rw[f3]; exact Nat.le_refl _,fun k hk=>f2 k (hI k hk),hblk,fun k _ hk=>f2 k (fun e=>hk b base (by rw[e]; exact k1)),fun k hk=>hk.elim .inl (fun e=>.inr (.inr ⟨b,base,by rw[e]; exact k1⟩)),fun _ _ _ h=>.inl h,hos.1,hos.2.1,hos.2.2⟩
end
end Go.Fl
end Fl58S
