/- Contracts: bytes copied; a stored block. -/
import Derived.Test.YtfokgjhdndnnhaaGreatDoorW26
set_option maxHeartbeats 1000000
set_option linter.unusedVariables false
set_option linter.unusedSimpArgs false
set_option maxRecDepth 20000
noncomputable section W27S
namespace Go.Proofs.YtfokgjhdndnnhaaGreatDoor
open Go Go.Fl Go.Proofs
def HistB (S:Nat->Prop) (H:Heap) (x:AV) (h:List UInt8):Prop:=(x = .nil/\h = []) \/ ∃ q pre,¬ S q/\x = .ms q pre.length h.length 1/\H.get q=some (pre++bV h)
theorem HistB.keep {S S' : Nat->Prop} {H H' : Heap} {x:AV} {h:List UInt8} (k:HistB S H x h) (hk:Step S' H H') (hs : ∀ b,b<H.next->S' b):HistB S H' x h:=by
 rcases k with k | ⟨q,pre,h1,h2,h3⟩
 ·exact .inl k
 ·exact .inr ⟨q,pre,h1,h2,hk.get h3 (hs _ (Heap.lt_of_get h3))⟩
theorem HistB.mono {S S' : Nat->Prop} {H:Heap} {x:AV} {h:List UInt8} (k:HistB S H x h) (hm : ∀ b,S' b->S b):HistB S' H x h:=by
 rcases k with k | ⟨q,pre,h1,h2,h3⟩
 ·exact .inl k
 ·exact .inr ⟨q,pre,fun e=>h1 (hm _ e),h2,h3⟩
def storedBits (b:List UInt8):List Bool:=natBits 1 0++(natBits 2 0++(List.replicate 5 false++(natBits 16 b.length++(natBits 16 (b.length ^^^ 65535)++unpack b))))
theorem qfm (H:Heap):SCalls Tryz.prog 25 [.nil] H .nil H:=by
 refine qE (sz:=8) (Tryz.call25) Tryz.func25 rfl (Nat.le_refl _) kz (fun R hR=>?_)
 refine qg (fun K1 hK1=>?_)
 refine qi kz ?_
 simp[go_sem]
 refine hK1 _ _ ?_
 try clear hK1 K1
 refine qg (fun K2 hK2=>?_)
 refine qg (fun K3 hK3=>?_)
 refine qi kz ?_
 simp[go_sem]
 refine hK3 _ _ ?_
 try clear hK3 K3
 refine qj (b:=true) gz (fun _=>?_) (fun h=>by cases h)
 refine qg (fun K4 hK4=>?_)
 refine qi kz ?_
 simp[go_sem]
 refine hK4 _ _ ?_
 try clear hK4 K4
 refine qx ?_
 simp only[go_sem]
 refine hR _ _ ?_
 exact qG gz (Heap.le_refl _) (Nat.le_refl _) gz
theorem qfn {l:List UInt8} {pre:List AV} {q off n:Nat} (hn:l.length=n) (ho:pre.length=off) (h0:0<n) (hl:n<=1000000) {H:Heap} (gq:H.get q=some (pre++bV l)):SCalls Tryz.prog 25 [.ms q off n 1] H (.ms (H.next+1) 0 n 1) ((H.alloc []).regrow (some H.next) (bV l)):=by
 have hsrc:source Tryz.prog (H.alloc []) 1 25 (.ms q off n 1)=some (n,bV l):=by
  rw[zq tU25 (cs:=pre++bV l) (by rw[Heap.get_alloc,if_neg (by have:=Heap.lt_of_get gq; omega)]; exact gq) (by rw[List.length_append,qQ]; omega),<- ho,List.drop_left,List.take_of_length_le (by rw[qQ]; omega)]
 have ha:=qL (P:=Tryz.prog) (H:=H.alloc []) (t:=25) (s:=.ms H.next 0 0 1) (n:=0) (cs:=[]) (bo:=some H.next) (k:=n) tU25 tS5 tB5 tZ5 rfl hsrc (grown_of (n:=0) (sz:=1) (by rw[Heap.get_alloc,if_pos rfl]) rfl) oz oz (yc l)
 rw[Nat.zero_add,List.nil_append] at ha
 simp only[Heap.next_alloc] at ha
 refine qE (sz:=8) (Tryz.call25) Tryz.func25 rfl (by rw[Heap.next_regrow,Heap.next_alloc]; omega) kz (fun R hR=>?_)
 refine qg (fun K1 hK1=>?_)
 refine qi kz ?_
 simp[go_sem]
 refine hK1 _ _ ?_
 try clear hK1 K1
 refine qg (fun K2 hK2=>?_)
 refine qg (fun K3 hK3=>?_)
 refine qi kz ?_
 simp[go_sem,h0]
 refine hK3 _ _ ?_
 try clear hK3 K3
 refine qj (b:=false) (by simp[go_sem,h0]) (fun h=>by cases h) (fun _=>?_)
 refine ql ?_
 refine hK2 _ _ ?_
 try clear hK2 K2
 refine qg (fun K4 hK4=>?_)
 refine qi kz ?_
 simp[go_sem,ha,zrep0]
 refine hK4 _ _ ?_
 try clear hK4 K4
 refine qx ?_
 simp only[go_sem]
 refine hR _ _ ?_
 refine je gz (by simp[go_sem]; omega) gz (fun b cs hb=>?_)
 unfold Heap.regrow at hb
 rw[Heap.get_alloc] at hb
 split at hb
 ·cases hb; exact .inr (ja l _)
 ·left
  have h2:=(H.alloc []).delo_le (some H.next) b cs hb
  rw[Heap.get_alloc] at h2
  split at h2
  ·rename_i e; subst e; simp only[Heap.delo] at hb; rw[Heap.get_del,if_pos rfl] at hb; cases hb
  ·exact h2
theorem qeg {pre:List AV} {q off:Nat} (ho:pre.length=off) {H:Heap} (gq:H.get q=some (pre++bV [])):SCalls Tryz.prog 25 [.ms q off 0 1] H (.ms (H.next+1) 0 0 1) ((H.alloc []).regrow (some H.next) (bV [])):=by
 obtain ⟨l,hlq⟩ : ∃ l:List UInt8,[]=l:=⟨_,rfl⟩
 rw[hlq] at gq |-
 obtain ⟨n,hnq⟩ : ∃ n,0=n:=⟨_,rfl⟩
 have hn:l.length=n:=by rw[<- hlq,<- hnq]; rfl
 have hsrc:source Tryz.prog (H.alloc []) 1 25 (.ms q off n 1)=some (n,bV l):=by
  rw[zq tU25 (cs:=pre++bV l) (by rw[Heap.get_alloc,if_neg (by have:=Heap.lt_of_get gq; omega)]; exact gq) (by rw[List.length_append,qQ]; omega),<- ho,List.drop_left,List.take_of_length_le (by rw[qQ]; omega)]
 have ha:=qL (P:=Tryz.prog) (H:=H.alloc []) (t:=25) (s:=.ms H.next 0 0 1) (n:=0) (cs:=[]) (bo:=some H.next) (k:=n) tU25 tS5 tB5 tZ5 rfl hsrc (grown_of (n:=0) (sz:=1) (by rw[Heap.get_alloc,if_pos rfl]) rfl) oz oz (yc l)
 rw[Nat.zero_add,List.nil_append] at ha
 simp only[Heap.next_alloc] at ha
 rw[<- hnq] at ha
 refine qE (sz:=8) (Tryz.call25) Tryz.func25 rfl (by rw[Heap.next_regrow,Heap.next_alloc]; omega) kz (fun R hR=>?_)
 refine qg (fun K1 hK1=>?_)
 refine qi kz ?_
 simp[go_sem]
 refine hK1 _ _ ?_
 try clear hK1 K1
 refine qg (fun K2 hK2=>?_)
 refine qg (fun K3 hK3=>?_)
 refine qi kz ?_
 simp[go_sem]
 refine hK3 _ _ ?_
 try clear hK3 K3
 refine qha gz ?_ ?_
 ·skip
  refine qg (fun K4 hK4=>?_)
  refine qi kz ?_
  simp[go_sem]
  refine hK4 _ _ ?_
  try clear hK4 K4
  refine qea ?_
  refine qc9 2 1 gz ?_
  refine qx ?_
  simp only[go_sem]
  refine hR _ _ ?_
  refine qk0 gz (fun b cs hb=>?_) (by simp[go_sem]; omega) gz gz (fun b cs hb=>?_)
  ·unfold Heap.regrow at hb
   rw[Heap.get_alloc] at hb
   rw[Heap.get_alloc]
   split at hb
   ·rename_i e; rw[Heap.delo_next] at e; rw[if_pos e]; subst hlq; exact hb
   ·rename_i e; rw[Heap.delo_next] at e; rw[if_neg e]; exact (H.alloc []).delo_le _ b cs hb
  ·unfold Heap.regrow at hb
   rw[Heap.get_alloc] at hb
   split at hb
   ·cases hb; exact .inr (ja l _)
   ·left
    have h2:=(H.alloc []).delo_le (some H.next) b cs hb
    rw[Heap.get_alloc] at h2
    split at h2
    ·rename_i e; subst e; simp only[Heap.delo] at hb; rw[Heap.get_del,if_pos rfl] at hb; cases hb
    ·exact h2
 ·skip
  refine ql ?_
  refine hK2 _ _ ?_
  try clear hK2 K2
  refine qg (fun K5 hK5=>?_)
  refine qi kz ?_
  simp[go_sem,ha,zrep0]
  refine hK5 _ _ ?_
  try clear hK5 K5
  refine qx ?_
  simp only[go_sem]
  refine hR _ _ ?_
  refine je gz (by simp[go_sem]; omega) gz (fun b cs hb=>?_)
  unfold Heap.regrow at hb
  rw[Heap.get_alloc] at hb
  split at hb
  ·cases hb; exact .inr (ja l _)
  ·left
   have h2:=(H.alloc []).delo_le (some H.next) b cs hb
   rw[Heap.get_alloc] at h2
   split at h2
   ·rename_i e; subst e; simp only[Heap.delo] at hb; rw[Heap.get_del,if_pos rfl] at hb; cases hb
   ·exact h2
theorem bclone_s {l:List UInt8} {pre:List AV} {q off n:Nat} (hn:l.length=n) (ho:pre.length=off) (hl:n<=1000000) {H:Heap} (gq:H.get q=some (pre++bV l)):SCalls Tryz.prog 25 [.ms q off n 1] H (.ms (H.next+1) 0 n 1) ((H.alloc []).regrow (some H.next) (bV l)):=by
 rcases Nat.eq_zero_or_pos n with h0 | h0
 ·subst h0
  have hl0:l = []:=List.length_eq_zero_iff.1 hn
  subst hl0
  exact qeg ho gq
 ·exact qfn hn ho h0 hl gq
theorem qdk {S:Nat->Prop} {x:AV} {h:List UInt8} (hl:h.length<=1000000) {H:Heap} (hx:HistB S H x h):SCallsP Tryz.prog 25 [x] H (fun r H'=>GrN (fun b=>b<H.next) H' r 1 h.length (bV h)/\Step (fun b=>b<H.next) H H'):=by
 rcases hx with ⟨rfl,rfl⟩ | ⟨q,pre,_,rfl,gq⟩
 ·exact (qfm H).p.mono fun r H' _ ⟨h1,h2⟩=>by rw[h1,h2]; exact ⟨GrN.nil _ _ _,Step.refl _ _⟩
 ·refine (bclone_s rfl rfl hl gq).p.mono fun r H' _ ⟨h1,h2⟩=>?_
  rw[h1,h2]
  refine ⟨GrN.ms (by show ¬ (_<_); omega) ?_ (by rw[qQ]; omega),((Step.refl _ _).alloc (by simp)).regrow (fun b hb=>by cases hb; exact Nat.lt_irrefl _) (ja _ _)⟩
  have:=zf (H:=H.alloc []) (bo:=some H.next) (v:=bV h)
  rw[Heap.next_alloc] at this
  exact this
theorem qba (H:Heap):SCalls Tryz.prog 42 [.bool false] H (.int 0) H:=qO qow gz gz H
theorem stored_p (b:List UInt8) (h0:0<b.length) (hb:b.length<=65535) (H:Heap):SCallsP Tryz.prog 39 [bA b,.bool false] H (fun r H' => ∃ w,r = .ptr w 0/\WrN (fun b=>b<H.next) H' w (storedBits b)/\Step (fun b=>b<H.next) H H'):=by
 obtain ⟨n,hn⟩ : ∃ n,b.length=n:=⟨_,rfl⟩
 have hmn : ¬ ((65535:Int)<(n:Int)):=oz
 have hmin:min n 65535=n:=oz
 have hmin2:(if (65535:Int)<n then (65535:Int) else (n:Int))=n:=by split <;> omega
 have hsb:storedBits b=natBits 1 0++(natBits 2 0++(List.replicate 5 false++(natBits 16 n++(natBits 16 (n ^^^ 65535)++unpack b)))):=by unfold storedBits; rw[hn]
 have hxr:bits .xor .i64 (n:Int) 65535=((n ^^^ 65535:Nat):Int):=qbe n 65535 oz dz
 have hxl:n ^^^ 65535<2^16:=Nat.xor_lt_two_pow oz dz
 have hbL:(bV b).length=n:=by rw[qQ,hn]
 have htk:(bV b).take n=bV b:=List.take_of_length_le oz
 have hdk:(bV b).drop n = []:=List.drop_of_length_le oz
 rw[hsb]
 refine qA (sz:=44) (Tryz.call39) Tryz.func39 rfl kz (fun R hR=>?_)
 refine qg (fun K1 hK1=>?_)
 refine qi kz ?_
 simp[go_sem,hmn]
 refine hK1 _ _ ?_
 try clear hK1 K1
 refine qw (fun env H1 => ∃ w,(env 0 = .vs n 1 (bV b)/\env 1 = .bool false/\env 5 = .ptr w 0)/\WrN (fun b=>b<H.next) H1 w []/\Step (fun b=>b<H.next) H H1) ?_ ?_
 ·skip
  refine qo (fun K3 hK3=>?_)
  refine qp kz ?_
  refine qH 1 (fun K4 hK4=>?_)
  simp[go_sem,hmn]
  refine ⟨_,(qoq H),?_⟩
  rintro _ H1 hn1 ⟨w,rfl,hw0,hW1,hS1⟩
  refine hK4 _ _ ?_
  clear hK4 K4
  simp[go_sem,hmn]
  refine hK3 _ _ ?_
  exact ⟨w,⟨by simp[go_sem,bA,hn],gz,gz⟩,hW1,hS1⟩
 rintro env H1 ⟨w,⟨e0,e1,e5⟩,hW1,hS1⟩
 refine qm ?_
 refine qC (Inv:=fun m0 env H2=>env 0 = .vs n 1 (bV b)/\env 1 = .bool false/\env 5 = .ptr w 0/\H1=H2) ?_ (n:=0) (⟨e0,e1,e5,rfl⟩)
 clear e0 e1 e5
 rintro m0 env _ ⟨e0,e1,e5,rfl⟩
 have cp1:=qar (fun b=>b<H.next) w 1 0 [] dz dz (by simp) hW1
 refine qm ?_
 refine qg (fun K5 hK5=>?_)
 refine qi kz ?_
 simp[go_sem,hmn,e0,hmin,hmin2]
 refine hK5 _ _ ?_
 try clear hK5 K5
 refine qg (fun K6 hK6=>?_)
 refine qp kz ?_
 refine qH 9 (fun K7 hK7=>?_)
 simp[go_sem,hmn,e0,e1,e5]
 refine ⟨_,(qba _).p,?_⟩
 rintro _ _ hn0 ⟨rfl,rfl⟩
 refine hK7 _ _ ?_
 clear hK7 K7
 simp[go_sem,hmn,e0,e1,e5]
 refine ⟨_,cp1,?_⟩
 rintro _ H3 hn3 ⟨rfl,hW3,hS3⟩
 rw[List.nil_append] at hW3
 have cp2:=qar (fun b=>b<H.next) w 2 0 (natBits 1 0) dz dz dz hW3
 refine hK6 _ _ ?_
 try clear hK6 K6
 refine qg (fun K9 hK9=>?_)
 refine qp kz ?_
 simp[go_sem,hmn,e5]
 refine ⟨_,cp2,?_⟩
 rintro _ H4 hn4 ⟨rfl,hW4,hS4⟩
 have cp3:=align_p hW4 dz
 refine hK9 _ _ ?_
 try clear hK9 K9
 refine qg (fun K11 hK11=>?_)
 refine qp kz ?_
 simp[go_sem,hmn,e5]
 refine ⟨_,cp3,?_⟩
 rintro _ H5 hn5 ⟨rfl,hW5,hS5⟩
 obtain ⟨l5,hl5⟩ : ∃ z,natBits 1 0++natBits 2 0++List.replicate (padN (natBits 1 0++natBits 2 0).length) false=z:=⟨_,rfl⟩
 have hl5l:l5.length=8:=by rw[<- hl5]; rfl
 have hl5q:l5=natBits 1 0++(natBits 2 0++List.replicate 5 false):=by rw[<- hl5]; rfl
 rw[hl5] at hW5
 have cp4:=qar (fun b=>b<H.next) w 16 n l5 oz oz oz hW5
 refine hK11 _ _ ?_
 try clear hK11 K11
 refine qg (fun K13 hK13=>?_)
 refine qp kz ?_
 simp[go_sem,hmn,e5]
 refine ⟨_,cp4,?_⟩
 rintro _ H6 hn6 ⟨rfl,hW6,hS6⟩
 obtain ⟨l6,hl6⟩ : ∃ z,l5++natBits 16 n=z:=⟨_,rfl⟩
 have hl6l:l6.length=24:=by rw[<- hl6,List.length_append,qB,hl5l]
 rw[hl6] at hW6
 have cp5:=qar (fun b=>b<H.next) w 16 (n ^^^ 65535) l6 hxl oz oz hW6
 refine hK13 _ _ ?_
 try clear hK13 K13
 refine qg (fun K15 hK15=>?_)
 refine qp kz ?_
 simp[go_sem,hmn,e5,hxr]
 refine ⟨_,cp5,?_⟩
 rintro _ H7 hn7 ⟨rfl,hW7,hS7⟩
 obtain ⟨l7,hl7⟩ : ∃ z,l6++natBits 16 (n ^^^ 65535)=z:=⟨_,rfl⟩
 have hl7l:l7.length=40:=by rw[<- hl7,List.length_append,qB,hl6l]
 rw[hl7] at hW7
 have cp6:=wadd_p b hW7 oz
 unfold bA at cp6
 rw[hn] at cp6
 refine hK15 _ _ ?_
 try clear hK15 K15
 refine qg (fun K17 hK17=>?_)
 refine qp kz ?_
 simp[go_sem,hmn,e0,e5,hbL,htk]
 refine ⟨_,cp6,?_⟩
 rintro _ H8 hn8 ⟨rfl,hW8,hS8⟩
 refine hK17 _ _ ?_
 try clear hK17 K17
 refine qg (fun K19 hK19=>?_)
 refine qi kz ?_
 simp[go_sem,hmn,e0,hbL,hdk,htk]
 refine hK19 _ _ ?_
 try clear hK19 K19
 refine qg (fun K20 hK20=>?_)
 refine qi kz ?_
 simp[go_sem,hmn]
 refine hK20 _ _ ?_
 try clear hK20 K20
 refine qj (b:=true) (by simp[go_sem,hmn]) (fun _=>?_) (fun h=>by cases h)
 refine qg (fun K21 hK21=>?_)
 refine qi kz ?_
 simp[go_sem,hmn,e5]
 refine hK21 _ _ ?_
 try clear hK21 K21
 refine qx ?_
 simp only[go_sem]
 refine hR _ _ ?_
 have hSf:=(((((hS1.trans hS3).trans hS4).trans hS5).trans hS6).trans hS7).trans hS8
 refine hSf.retP (r:=.ptr w 0) gz ⟨w,rfl,?_,hSf⟩ ?_
 ·have hp:padN l7.length=0:=by rw[hl7l]; rfl
  rw[hp,List.replicate_zero,List.append_nil,<- hl7,<- hl6,hl5q] at hW8
  simpa only [List.append_assoc] using hW8
 ·obtain ⟨x,_,g,_⟩:=hW8
  have:=Heap.lt_of_get g
  simp[go_sem,this]
end Go.Proofs.YtfokgjhdndnnhaaGreatDoor
end W27S
set_option maxRecDepth 20000
noncomputable section W28S
namespace Go.Proofs.YtfokgjhdndnnhaaGreatDoor
open Go Go.Fl Go.Proofs
structure TkH (H:Heap) (AB SB PB Q SN:Nat) (all:List UInt8) (seen:Seen):Prop where
 ab:H.get AB=some [.ms Q 0 all.length 1]
 sb:H.get SB=some [.ms SN 0 32768 1]
 pb:H.get PB=some [.fn (.func 65) [] [.ptr AB 0,.ptr SB 0]]
 q:H.get Q=some (bV all)
 sn : ∃ SL:List Nat,H.get SN=some (iV SL)/\SL.length=32768 /\ ∀ x,x<32768->SL.getD x 0=seen x
 ne:SN≠AB/\SN≠SB/\SN≠PB/\SN≠Q
 bound : ∀ x,seen x<=all.length
 len:all.length<=100000
theorem TkH.keep {H H' : Heap} {AB SB PB Q SN:Nat} {all:List UInt8} {seen:Seen} (h:TkH H AB SB PB Q SN all seen) (hk : ∀ b c,H.get b=some c->H'.get b=some c):TkH H' AB SB PB Q SN all seen:=by
 obtain ⟨SL,h1,h2,h3⟩:=h.sn
 exact ⟨hk _ _ h.ab,hk _ _ h.sb,hk _ _ h.pb,hk _ _ h.q,⟨SL,hk _ _ h1,h2,h3⟩,h.ne,h.bound,h.len⟩
theorem qoo (all:List UInt8) (k:Nat):hashAt all k<32768:=Nat.mod_lt _ dz
theorem yA {l:List UInt8} {i:Nat} (h:i<l.length) : ∃ r,(bV l).drop i = .sc (.int .u8 (gB l i).toNat)::r:=by
 refine bV_at (n:=gB l i) ?_
 unfold gB
 rw[List.getD_eq_getElem?_getD,List.getElem?_eq_getElem h]
 rfl
theorem qop {H:Heap} {AB SB PB Q SN k:Nat} {all:List UInt8} {seen:Seen} (hT:TkH H AB SB PB Q SN all seen) (hk:k+3<=all.length):SCalls Tryz.prog 65 [.int k,.ptr AB 0,.ptr SB 0] H (.ptr SN (hashAt all k)) H:=by
 obtain ⟨SL0,hSNg,_,_⟩:=hT.sn
 obtain ⟨gA,gS,_,gQ,_,_,_,hlen⟩:=hT
 have hh:hashAt all k=(((gB all k).toNat <<< 10) ^^^ ((gB all (k+1)).toNat <<< 5) ^^^ (gB all (k+2)).toNat)%32768:=rfl
 obtain ⟨r_0,d_0⟩:=yA (l:=all) (i:=k) oz
 have lt_0:=(gB all (k)).toNat_lt
 obtain ⟨r_1,d_1⟩:=yA (l:=all) (i:=k+1) oz
 have lt_1:=(gB all (k+1)).toNat_lt
 obtain ⟨r_2,d_2⟩:=yA (l:=all) (i:=k+2) oz
 have lt_2:=(gB all (k+2)).toNat_lt
 obtain ⟨c0,hc0⟩ : ∃ z,(gB all k).toNat=z:=⟨_,rfl⟩
 obtain ⟨c1,hc1⟩ : ∃ z,(gB all (k+1)).toNat=z:=⟨_,rfl⟩
 obtain ⟨c2,hc2⟩ : ∃ z,(gB all (k+2)).toNat=z:=⟨_,rfl⟩
 rw[hc0] at d_0 lt_0 hh
 rw[hc1] at d_1 lt_1 hh
 rw[hc2] at d_2 lt_2 hh
 rw[Nat.shiftLeft_eq,Nat.shiftLeft_eq] at hh
 obtain ⟨N,hN⟩ : ∃ z,all.length=z:=⟨_,rfl⟩
 rw[hN] at gA hlen hk
 have hbL:(bV all).length=N:=by rw[qQ,hN]
 have w0:IntKind.i64.wrap (c0:Int)=c0:=i64in _ oz oz
 have w1:IntKind.i64.wrap (c1:Int)=c1:=i64in _ oz oz
 have w2:IntKind.i64.wrap (c2:Int)=c2:=i64in _ oz oz
 have s0:IntKind.i64.wrap ((c0:Int)*1024)=((c0*2^10:Nat):Int):=by rw[i64in _ oz oz]; omega
 have s1:IntKind.i64.wrap ((c1:Int)*32)=((c1*2^5:Nat):Int):=by rw[i64in _ oz oz]; omega
 obtain ⟨y0,hy0⟩ : ∃ z,c0*2^10=z:=⟨_,rfl⟩
 obtain ⟨y1,hy1⟩ : ∃ z,c1*2^5=z:=⟨_,rfl⟩
 rw[hy0] at s0 hh
 rw[hy1] at s1 hh
 have ly0:y0<2^62:=by rw[<- hy0]; omega
 have ly1:y1<2^62:=by rw[<- hy1]; omega
 have lc2:c2<2^62:=oz
 have x1:bits .xor .i64 (y0:Int) (y1:Int)=((y0 ^^^ y1:Nat):Int):=qbe y0 y1 oz oz
 have lz1:y0 ^^^ y1<2^62:=Nat.xor_lt_two_pow ly0 ly1
 obtain ⟨z1,hz1⟩ : ∃ z,y0 ^^^ y1=z:=⟨_,rfl⟩
 rw[hz1] at x1 lz1 hh
 have x2:bits .xor .i64 (z1:Int) (c2:Int)=((z1 ^^^ c2:Nat):Int):=qbe z1 c2 oz oz
 have lz2:z1 ^^^ c2<2^62:=Nat.xor_lt_two_pow lz1 lc2
 obtain ⟨z2,hz2⟩ : ∃ z,z1 ^^^ c2=z:=⟨_,rfl⟩
 rw[hz2] at x2 lz2 hh
 have an:bits .and .i64 (z2:Int) 32767=((z2%32768:Nat):Int):=qdo z2 15 oz dz
 have lh:z2%32768<32768:=Nat.mod_lt _ dz
 rw[hh]
 obtain ⟨hv,hhv⟩ : ∃ z,z2%32768=z:=⟨_,rfl⟩
 rw[hhv] at an lh |-
 have wk1:=qF k oz
 have wk2:IntKind.i64.wrap ((k:Int)+2)=(k:Int)+2:=i64in _ oz oz
 have b0:(k:Int)<N:=oz
 have b1:(k:Int)+1<N:=oz
 have b2:(k:Int)+2<N:=oz
 have p1:(0:Int)<=(k:Int)+1:=oz
 have p2:(0:Int)<=(k:Int)+2:=oz
 have t1:((k:Int)+1).toNat=k+1:=oz
 have t2:((k:Int)+2).toNat=k+2:=oz
 have q0:k+1<=N:=oz
 have q1:k+1+1<=N:=oz
 have q2:k+2+1<=N:=oz
 have hvi:(hv:Int)<32768:=oz
 refine qE (sz:=31) (Tryz.call65) Tryz.func65 rfl (Nat.le_refl _) kz (fun R hR=>?_)
 refine qg (fun K1 hK1=>?_)
 refine qi kz ?_
 simp[go_sem]
 refine hK1 _ _ ?_
 try clear hK1 K1
 refine qg (fun K2 hK2=>?_)
 refine qJ mixed kz ?_
 simp[go_sem,gA,gQ,hbL,d_0,d_1,d_2,w0,w1,w2,s0,s1,x1,x2,wk1,wk2,b0,b1,b2,p1,p2,t1,t2,q0,q1,q2]
 refine hK2 _ _ ?_
 try clear hK2 K2
 refine qg (fun K3 hK3=>?_)
 refine qi kz ?_
 simp[go_sem,gS,an,hvi]
 refine hK3 _ _ ?_
 try clear hK3 K3
 refine qx ?_
 simp only[go_sem]
 refine hR _ _ ?_
 exact qG gz (Heap.le_refl _) (Nat.le_refl _) (by have:=Heap.lt_of_get hSNg; simp[go_sem,this])
theorem note_p {H:Heap} {AB SB PB Q SN k:Nat} {all:List UInt8} {seen:Seen} (hT:TkH H AB SB PB Q SN all seen) (hk:k<all.length):SCallsP Tryz.prog 66 [.int k,.ptr AB 0,.ptr PB 0] H (fun r H'=>r = .tup []/\TkH H' AB SB PB Q SN all (noteS all k seen)/\Step (fun b=>b≠SN) H H'):=by
 have hT0:=hT
 obtain ⟨gA,gS,gP,gQ,⟨SL,gN,hSL,hSLv⟩,⟨ne1,ne2,ne3,ne4⟩,hbd,hlen⟩:=hT0
 obtain ⟨N,hN⟩ : ∃ z,all.length=z:=⟨_,rfl⟩
 rw[hN] at gA hlen hbd
 have w3:IntKind.i64.wrap ((k:Int)+3)=(k:Int)+3:=i64in _ oz oz
 have h3:((k:Int)+3<=(N:Int))=(k+3<=N):=propext ⟨fun h=>by omega,fun h=>by omega⟩
 refine qA (sz:=15) (Tryz.call66) Tryz.func66 rfl kz (fun R hR=>?_)
 refine qg (fun K1 hK1=>?_)
 refine qi kz ?_
 simp[go_sem,gA,w3,h3]
 refine hK1 _ _ ?_
 try clear hK1 K1
 refine qj (b:=decide (k+3<=N)) (by simp[go_sem,w3,h3]) (fun hb=>?_) (fun hb=>?_)
 ·skip
  simp only[decide_eq_true_eq] at hb
  have cp:=qop (k:=k) hT oz
  have hlt:=qoo all k
  obtain ⟨hv,hhv⟩ : ∃ z,hashAt all k=z:=⟨_,rfl⟩
  rw[hhv] at cp hlt
  have hoL:(iV SL).length=32768:=by rw[qK,hSL]
  have hiv:=zA SL hv oz (k+1)
  push_cast at hiv
  have hv1:hv+1<=32768:=oz
  have hw1:=qF k oz
  have hT9:TkH (H.set SN (iV (SL.set hv (k+1)))) AB SB PB Q SN all (noteS all k seen):=by
   refine ⟨by rw[Heap.get_set,if_neg (Ne.symm ne1),hN]; exact gA,by rw[Heap.get_set,if_neg (Ne.symm ne2)]; exact gS,by rw[Heap.get_set,if_neg (Ne.symm ne3)]; exact gP,by rw[Heap.get_set,if_neg (Ne.symm ne4)]; exact gQ,⟨SL.set hv (k+1),by rw[Heap.get_set,if_pos rfl,gN]; rfl,by rw[List.length_set]; exact hSL,fun x hx=>?_⟩,⟨ne1,ne2,ne3,ne4⟩,fun x=>?_,oz⟩
   ·unfold noteS
    rw[if_pos oz,jm,hhv]
    try simp only[]
    by_cases e:hv=x
    ·rw[if_pos ⟨e,oz⟩,if_pos e.symm]
    ·rw[if_neg (fun c=>e c.1),if_neg (fun c=>e c.symm)]; exact hSLv x hx
   ·unfold noteS
    rw[if_pos oz,hN]
    try simp only[]
    split
    ·omega
    ·exact hbd x
  have hS9:Step (fun b=>b≠SN) H (H.set SN (iV (SL.set hv (k+1)))):=(Step.refl _ _).set (fun h=>h rfl) (jb _ _)
  refine qi kz ?_
  refine qI 3 (fun K2 hK2=>?_)
  simp[go_sem,gP,gN,hoL,hv1,hw1,hiv]
  refine ⟨_,_,cp,?_⟩
  refine hK2 _ _ ?_
  clear hK2 K2
  simp[go_sem,gP,gN,hoL,hv1,hw1,hiv]
  refine hR _ _ ?_
  exact hS9.retP (r:=.tup []) gz ⟨rfl,hT9,hS9⟩ gz
 ·skip
  simp only[decide_eq_false_iff_not] at hb
  have hn9:noteS all k seen=seen:=by unfold noteS; rw[if_neg oz]
  have hT9:TkH H AB SB PB Q SN all (noteS all k seen):=by rw[hn9]; exact hT
  have hS9:=Step.refl (fun b=>b≠SN) H
  refine ql ?_
  refine hR _ _ ?_
  exact hS9.retP (r:=.tup []) gz ⟨rfl,hT9,hS9⟩ gz
theorem qmk {all:Byt} {fr k f n:Nat} (h:k+n<all.length/\n<258/\gB all (fr+n)=gB all (k+n)):sameGo all fr k (f+1) n=sameGo all fr k f (n+1):=by simp only[sameGo]; rw[if_pos h]
theorem qbb {all:Byt} {fr k f n:Nat} (h : ¬ (k+n<all.length/\n<258/\gB all (fr+n)=gB all (k+n))):sameGo all fr k f n=n:=by
 cases f with
 | zero=>rfl
 | succ f=>simp only[sameGo]; rw[if_neg h]
theorem same_w {H:Heap} {AB SB PB Q SN fr k:Nat} {all:List UInt8} {seen:Seen} (hT:TkH H AB SB PB Q SN all seen) (hfk:fr<k) (hk:k<all.length):SCalls Tryz.prog 67 [.int fr,.int k,.ptr AB 0] H (.int (sameN all fr k:Nat)) H:=by
 obtain ⟨gA,_,_,gQ,_,_,_,hlen⟩:=hT
 obtain ⟨N,hN⟩ : ∃ z,all.length=z:=⟨_,rfl⟩
 rw[hN] at gA hlen
 have hbL:(bV all).length=N:=by rw[qQ,hN]
 refine qE (sz:=35) (Tryz.call67) Tryz.func67 rfl (Nat.le_refl _) kz (fun R hR=>?_)
 refine qg (fun K1 hK1=>?_)
 refine qi kz ?_
 simp[go_sem]
 refine hK1 _ _ ?_
 try clear hK1 K1
 refine qg (fun K2 hK2=>?_)
 refine qi kz ?_
 simp[go_sem]
 refine hK2 _ _ ?_
 try clear hK2 K2
 refine qg (fun K3 hK3=>?_)
 refine qm ?_
 refine qC (Inv:=fun m0 env H2 => ∃ n f:Nat,m0=258-n/\n+f=258/\env 0 = .int fr/\env 1 = .int k/\env 2 = .ptr AB 0/\env 6 = .int n/\sameN all fr k=sameGo all fr k f n/\H=H2) ?_ (n:=258) (⟨0,258,rfl,rfl,gz,gz,gz,gz,rfl,rfl⟩)
 rintro m0 env _ ⟨n,f,rfl,hnf,e0,e1,e2,e6,hsn,rfl⟩
 have wn:IntKind.i64.wrap ((k:Int)+(n:Int))=(k:Int)+(n:Int):=i64in _ oz oz
 refine qg (fun K4 hK4=>?_)
 refine qg (fun K5 hK5=>?_)
 rcases (by
  by_cases a1:k+n<N
  ·by_cases a2:n<258
   ·by_cases a3:gB all (fr+n)=gB all (k+n)
    ·exact .inl ⟨a1,a2,a3⟩
    ·exact .inr (.inl ⟨a1,a2,a3⟩)
   ·exact .inr (.inr (.inl ⟨a1,a2⟩))
  ·exact .inr (.inr (.inr a1)):(k+n<N/\n<258/\gB all (fr+n)=gB all (k+n))\/(k+n<N/\n<258 /\ ¬ gB all (fr+n)=gB all (k+n))\/(k+n<N /\ ¬ n<258) \/ ¬ k+n<N) with ⟨a1,a2,a3⟩ | ⟨a1,a2,a3⟩ | ⟨a1,a2⟩ | a1
 ·skip
  have hhit:k+n<all.length/\n<258/\gB all (fr+n)=gB all (k+n):=⟨oz,a2,a3⟩
  obtain ⟨r_0,d_0⟩:=yA (l:=all) (i:=fr+n) oz
  have lt_0:=(gB all (fr+n)).toNat_lt
  obtain ⟨r_1,d_1⟩:=yA (l:=all) (i:=k+n) oz
  have lt_1:=(gB all (k+n)).toNat_lt
  obtain ⟨c0,hc0⟩ : ∃ z,gB all (fr+n)=z:=⟨_,rfl⟩
  obtain ⟨c1,hc1⟩ : ∃ z,gB all (k+n)=z:=⟨_,rfl⟩
  rw[hc0] at d_0
  rw[hc1] at d_1
  have wf:IntKind.i64.wrap ((fr:Int)+(n:Int))=(fr:Int)+(n:Int):=i64in _ oz oz
  have bf:(fr:Int)+n<N:=oz
  have bk:(k:Int)+n<N:=oz
  have pf:(0:Int)<=(fr:Int)+n:=oz
  have pk:(0:Int)<=(k:Int)+n:=oz
  have tf:((fr:Int)+n).toNat=fr+n:=oz
  have tk:((k:Int)+n).toNat=k+n:=oz
  have qf:fr+n+1<=N:=oz
  have qk:k+n+1<=N:=oz
  have b8:(n:Int)<258:=oz
  have hcc:c0=c1:=by rw[<- hc0,<- hc1]; exact a3
  rw[hcc] at d_0
  refine qJ mixed kz ?_
  simp[go_sem,e0,e1,e2,e6,gA,gQ,hbL,wn,d_0,d_1,wf,bf,bk,pf,pk,tf,tk,qf,qk,b8]
  refine hK5 _ _ ?_
  try clear hK5 K5
  refine qj (b:=true) gz (fun _=>?_) (fun h=>by cases h)
  refine ql ?_
  refine hK4 _ _ ?_
  try clear hK4 K4
  refine qm ?_
  refine qo (fun K6 hK6=>?_)
  refine qi kz ?_
  simp[go_sem,e6]
  refine hK6 _ _ ?_
  have hw1:=qF n oz
  obtain ⟨f,rfl⟩ : ∃ x,f=x+1:=⟨f-1,oz⟩
  exact ⟨258-(n+1),oz,n+1,f,rfl,oz,by simp[go_sem,e0],by simp[go_sem,e1],by simp[go_sem,e2],by simp[go_sem,e6,hw1],hsn.trans (qmk hhit),rfl⟩
 ·skip
  have hfin:sameN all fr k=n:=hsn.trans (qbb (fun h=>a3 h.2.2))
  obtain ⟨r_0,d_0⟩:=yA (l:=all) (i:=fr+n) oz
  have lt_0:=(gB all (fr+n)).toNat_lt
  obtain ⟨r_1,d_1⟩:=yA (l:=all) (i:=k+n) oz
  have lt_1:=(gB all (k+n)).toNat_lt
  obtain ⟨c0,hc0⟩ : ∃ z,gB all (fr+n)=z:=⟨_,rfl⟩
  obtain ⟨c1,hc1⟩ : ∃ z,gB all (k+n)=z:=⟨_,rfl⟩
  rw[hc0] at d_0
  rw[hc1] at d_1
  have wf:IntKind.i64.wrap ((fr:Int)+(n:Int))=(fr:Int)+(n:Int):=i64in _ oz oz
  have bf:(fr:Int)+n<N:=oz
  have bk:(k:Int)+n<N:=oz
  have pf:(0:Int)<=(fr:Int)+n:=oz
  have pk:(0:Int)<=(k:Int)+n:=oz
  have tf:((fr:Int)+n).toNat=fr+n:=oz
  have tk:((k:Int)+n).toNat=k+n:=oz
  have qf:fr+n+1<=N:=oz
  have qk:k+n+1<=N:=oz
  have b8:(n:Int)<258:=oz
  have hcc : ¬ (c0.toNat=c1.toNat):=fun e=>a3 (by rw[hc0,hc1]; exact UInt8.toNat_inj.1 e)
  have hcc2 : ¬ ((c0.toNat:Int)=(c1.toNat:Int)):=oz
  refine qJ mixed kz ?_
  simp[go_sem,e0,e1,e2,e6,gA,gQ,hbL,wn,d_0,d_1,wf,bf,bk,pf,pk,tf,tk,qf,qk,b8,hcc,hcc2]
  refine hK5 _ _ ?_
  try clear hK5 K5
  refine qj (b:=false) (by simp[go_sem,hcc,hcc2]) (fun h=>by cases h) (fun _=>?_)
  refine qy ?_
  refine hK3 _ _ ?_
  try clear hK3 K3
  refine qg (fun K7 hK7=>?_)
  refine qi kz ?_
  simp[go_sem,e6]
  refine hK7 _ _ ?_
  try clear hK7 K7
  refine qx ?_
  simp only[go_sem]
  refine hR _ _ ?_
  rw[hfin]
  exact qG gz (Heap.le_refl _) (Nat.le_refl _) gz
 ·skip
  have hfin:sameN all fr k=n:=hsn.trans (qbb (fun h=>a2 h.2.1))
  have bk:(k:Int)+n<N:=oz
  have b8 : ¬ ((n:Int)<258):=oz
  refine qJ mixed kz ?_
  simp[go_sem,e0,e1,e2,e6,gA,gQ,hbL,wn,bk,b8]
  refine hK5 _ _ ?_
  try clear hK5 K5
  refine qj (b:=false) gz (fun h=>by cases h) (fun _=>?_)
  refine qy ?_
  refine hK3 _ _ ?_
  try clear hK3 K3
  refine qg (fun K8 hK8=>?_)
  refine qi kz ?_
  simp[go_sem,e6]
  refine hK8 _ _ ?_
  try clear hK8 K8
  refine qx ?_
  simp only[go_sem]
  refine hR _ _ ?_
  rw[hfin]
  exact qG gz (Heap.le_refl _) (Nat.le_refl _) gz
 ·skip
  have hfin:sameN all fr k=n:=hsn.trans (qbb (fun h=>a1 oz))
  have bk : ¬ ((k:Int)+n<N):=oz
  refine qJ mixed kz ?_
  simp[go_sem,e0,e1,e2,e6,gA,gQ,hbL,wn,bk]
  refine hK5 _ _ ?_
  try clear hK5 K5
  refine qj (b:=false) gz (fun h=>by cases h) (fun _=>?_)
  refine qy ?_
  refine hK3 _ _ ?_
  try clear hK3 K3
  refine qg (fun K9 hK9=>?_)
  refine qi kz ?_
  simp[go_sem,e6]
  refine hK9 _ _ ?_
  try clear hK9 K9
  refine qx ?_
  simp only[go_sem]
  refine hR _ _ ?_
  rw[hfin]
  exact qG gz (Heap.le_refl _) (Nat.le_refl _) gz
end Go.Proofs.YtfokgjhdndnnhaaGreatDoor
end W28S
