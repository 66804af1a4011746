/- Contracts: the deflater; histories. -/
import Derived.Test.YtfokgjhdndnnhaaGreatDoorW31
set_option maxHeartbeats 1000000
set_option linter.unusedVariables false
set_option linter.unusedSimpArgs false
set_option maxRecDepth 20000
noncomputable section W32S
namespace Go.Proofs.YtfokgjhdndnnhaaGreatDoor
open Go Go.Fl Go.Proofs
theorem yC (P:Program) (tys:Array TypeId) (t:TypeId) (n:Int):srun P (Builtin.max_ tys t #[.int .i64 0,.int .i64 n])=some (.int .i64 (n.toNat:Int)):=by
 have h:(if n>(0:Int) then n else (0:Int))=(n.toNat:Int):=by split <;> omega
 show some (Value.int .i64 (if n>(0:Int) then n else (0:Int)))=_
 rw[h]
def lastW (l:List UInt8):List UInt8:=l.drop (l.length-32768)
theorem yD (l:List UInt8):(lastW l).length=min l.length 32768:=by
 unfold lastW
 rw[List.length_drop]
 omega
def KeepS (S:Nat->Prop) (H:Heap) (D:Nat) (h:List UInt8):Prop := ∃ x,¬ S D/\H.get D=some [.bool true,x]/\HistB (fun z=>S z\/z=D) H x h/\h.length<=32768 /\ ∀ b,S b->b<H.next
theorem KeepS.keep {S S' : Nat->Prop} {H H' : Heap} {D:Nat} {h:List UInt8} (k:KeepS S H D h) (hk:Step S' H H') (hs : ∀ b,b<H.next->S' b):KeepS S H' D h:=by
 obtain ⟨x,h1,h2,h3,h4,h5⟩:=k
 exact ⟨x,h1,hk.get h2 (hs _ (Heap.lt_of_get h2)),h3.keep hk hs,h4,fun b hb=>Nat.lt_of_lt_of_le (h5 b hb) hk.le⟩
theorem KeepS.mono {S S' : Nat->Prop} {H:Heap} {D:Nat} {h:List UInt8} (k:KeepS S H D h) (hm : ∀ b,S' b->S b):KeepS S' H D h:=by
 obtain ⟨x,h1,h2,h3,h4,h5⟩:=k
 exact ⟨x,fun e=>h1 (hm _ e),h2,h3.mono (fun z hz=>hz.elim (fun e=>.inl (hm _ e)) .inr),h4,fun b hb=>h5 b (hm b hb)⟩
theorem KeepS.lt {S:Nat->Prop} {H:Heap} {D:Nat} {h:List UInt8} (k:KeepS S H D h):D<H.next:=by
 obtain ⟨x,_,h2,_⟩:=k
 exact Heap.lt_of_get h2
theorem HistB.len_cases {S:Nat->Prop} {H:Heap} {x:AV} {h:List UInt8} (k:HistB S H x h):(x = .nil/\h.length=0) \/ ∃ q o,x = .ms q o h.length 1:=by
 rcases k with ⟨e1,e2⟩ | ⟨q,pre,_,e1,_⟩
 ·exact .inl ⟨e1,by rw[e2]; rfl⟩
 ·exact .inr ⟨q,_,e1⟩
theorem dNew_p (H:Heap):SCallsP Tryz.prog 9 [] H (fun r H' => ∃ D,r = .ptr D 0/\KeepS (fun z=>z<H.next) H' D []/\Step (fun z=>z<H.next) H H'):=by
 refine qA (sz:=3) (Tryz.call9) Tryz.func9 rfl kz (fun R hR=>?_)
 refine qg (fun K1 hK1=>?_)
 refine qi kz ?_
 simp[go_sem]
 refine hK1 _ _ ?_
 try clear hK1 K1
 refine qg (fun K2 hK2=>?_)
 refine qo (fun K3 hK3=>?_)
 refine qi kz ?_
 simp[go_sem]
 refine hK3 _ _ ?_
 refine hK2 _ _ ?_
 try clear hK2 K2
 refine qx ?_
 simp only[go_sem]
 refine hR _ _ ?_
 have hSt:Step (fun z=>z<H.next) H (H.alloc [.bool true,.nil]):=(Step.refl _ _).alloc gz
 refine hSt.retP (r:=.ptr H.next 0) gz ⟨H.next,rfl,⟨.nil,Nat.lt_irrefl _,gz,.inl ⟨rfl,rfl⟩,by simp,fun b hb=>by rw[Heap.next_alloc]; omega⟩,hSt⟩ gz
theorem dLen_w {S:Nat->Prop} {D:Nat} {h:List UInt8} {H:Heap} (hk:KeepS S H D h):SCalls Tryz.prog 11 [.ptr D 0] H (.int (h.length:Nat)) H:=by
 obtain ⟨x,hD,gD,hx,hh,hSn⟩:=hk
 have hlc:=hx.len_cases
 obtain ⟨n,hn⟩ : ∃ k,h.length=k:=⟨_,rfl⟩
 rw[hn] at hlc |-
 refine qE (sz:=10) (Tryz.call11) Tryz.func11 rfl (Nat.le_refl _) kz (fun R hR=>?_)
 refine qg (fun K1 hK1=>?_)
 refine qi kz ?_
 simp[go_sem]
 refine hK1 _ _ ?_
 try clear hK1 K1
 refine qg (fun K2 hK2=>?_)
 refine qg (fun K3 hK3=>?_)
 refine qi kz ?_
 simp[go_sem]
 refine hK3 _ _ ?_
 try clear hK3 K3
 refine qj (b:=false) gz (fun h=>by cases h) (fun _=>?_)
 refine ql ?_
 refine hK2 _ _ ?_
 try clear hK2 K2
 refine qg (fun K4 hK4=>?_)
 rcases hlc with ⟨rfl,rfl⟩ | ⟨q,o,rfl⟩
 ·skip
  refine qi kz ?_
  simp[go_sem,gD]
  refine hK4 _ _ ?_
  try clear hK4 K4
  refine qx ?_
  simp only[go_sem]
  refine hR _ _ ?_
  exact qG gz (Heap.le_refl _) (Nat.le_refl _) gz
 ·skip
  refine qi kz ?_
  simp[go_sem,gD]
  refine hK4 _ _ ?_
  try clear hK4 K4
  refine qx ?_
  simp only[go_sem]
  refine hR _ _ ?_
  exact qG gz (Heap.le_refl _) (Nat.le_refl _) gz
theorem dReset_p {S:Nat->Prop} {D:Nat} {h:List UInt8} {H:Heap} (hk:KeepS S H D h):SCallsP Tryz.prog 13 [.ptr D 0] H (fun r H'=>r = .tup []/\KeepS S H' D []/\Step S H H'):=by
 obtain ⟨x,hD,gD,hx,hh,hSn⟩:=hk
 refine qA (sz:=7) (Tryz.call13) Tryz.func13 rfl kz (fun R hR=>?_)
 refine qg (fun K1 hK1=>?_)
 refine qi kz ?_
 simp[go_sem]
 refine hK1 _ _ ?_
 try clear hK1 K1
 refine qj (b:=true) gz (fun _=>?_) (fun h=>by cases h)
 refine qo (fun K2 hK2=>?_)
 refine qi kz ?_
 simp[go_sem,gD]
 refine hK2 _ _ ?_
 refine hR _ _ ?_
 have hSt:Step S H (H.set D [.bool true,.nil]):=(Step.refl _ _).set hD gz
 exact hSt.retP (r:=.tup []) gz ⟨rfl,⟨.nil,hD,by rw[Heap.get_set,if_pos rfl,gD]; rfl,.inl ⟨rfl,rfl⟩,by simp,hSn⟩,hSt⟩ gz
theorem dAdd_p {S:Nat->Prop} {D:Nat} {h b:List UInt8} (hb:b.length<=10000) {H:Heap} (hk:KeepS S H D h):SCallsP Tryz.prog 12 [.ptr D 0,bA b] H (fun r H'=>r = .tup []/\KeepS S H' D (lastW (h++b))/\Step S H H'):=by
 obtain ⟨x,hD,gD,hx,hh,hSn⟩:=hk
 obtain ⟨hn,hhn⟩ : ∃ k,h.length=k:=⟨_,rfl⟩
 obtain ⟨bn,hbn⟩ : ∃ k,b.length=k:=⟨_,rfl⟩
 have cc:=qdk (H:=H) (h:=h) oz hx
 obtain ⟨all,hall⟩ : ∃ z,h++b=z:=⟨_,rfl⟩
 have hal:bV h++bV b=bV all:=by rw[<- jF,hall]
 obtain ⟨N,hN⟩ : ∃ k,hn+bn=k:=⟨_,rfl⟩
 have halll:all.length=N:=by rw[<- hall,List.length_append,hhn,hbn,hN]
 have haL:(bV all).length=N:=by rw[qQ,halll]
 have hDn:=Heap.lt_of_get gD
 have wN:IntKind.i64.wrap ((N:Int)-32768)=(N:Int)-32768:=i64in _ oz oz
 obtain ⟨o,ho⟩ : ∃ k,N-32768=k:=⟨_,rfl⟩
 have hlw:lastW all=all.drop o:=by unfold lastW; rw[halll,ho]
 have hmax:(if (0:Int)<(N:Int)-32768 then (N:Int)-32768 else 0)=(o:Int):=by split <;> omega
 have hmax2:(if (N:Int)-32768<(0:Int) then (0:Int) else (N:Int)-32768)=(o:Int):=by split <;> omega
 have hmax3:max (0:Int) ((N:Int)-32768)=(o:Int):=oz
 have hoN:o<=N:=oz
 have hto:((N:Int)-32768).toNat=o:=oz
 rw[show h++b=all from hall]
 refine qA (sz:=29) (Tryz.call12) Tryz.func12 rfl kz (fun R hR=>?_)
 refine qg (fun K1 hK1=>?_)
 refine qi kz ?_
 simp[go_sem,gD]
 refine hK1 _ _ ?_
 try clear hK1 K1
 refine qj (b:=true) (by simp[go_sem,gD]) (fun _=>?_) (fun h=>by cases h)
 refine qw (fun env H2 => ∃ Q,(env 0 = .ptr D 0/\env 4 = .ms Q 0 N 1)/\H2.get Q=some (bV all)/\H.next<=Q/\Step (fun z=>z<H.next) H H2) ?_ ?_
 ·skip
  refine qo (fun K3 hK3=>?_)
  refine qp kz ?_
  refine qH 5 (fun K4 hK4=>?_)
  simp[go_sem,gD,bA,hbn]
  refine ⟨_,cc,?_⟩
  rintro r1 H1 hn1 ⟨hgr,hS1⟩
  obtain ⟨bo,hg,hbo,_,hlt1⟩:=hgr.grown
  rw[hhn] at hg
  have ha:=qL (P:=Tryz.prog) (H:=H1) (x:=.vs b.length 1 (bV b)) (u:=25) tU25 tS5 tB5 tZ5 rfl (zl tU25 (by rw[qQ]; omega)) hg oz oz (yc b)
  rw[hbn,hal,hN] at ha
  refine hK4 _ _ ?_
  clear hK4 K4
  simp[go_sem,bA,hbn,ha]
  refine hK3 _ _ ?_
  exact ⟨H1.next,⟨gz,gz⟩,zf,hn1,hS1.regrow hbo (ja _ _)⟩
 rintro env H2 ⟨Q,⟨e0,e4⟩,gQ,hQ0,hS⟩
 have gD2:=hS.get gD hDn
 have hQD:Q≠D:=oz
 refine qo (fun K5 hK5=>?_)
 refine qi kz ?_
 simp[go_sem,e0,e4,gD2,wN,yC,hto,hoN]
 refine hK5 _ _ ?_
 refine hR _ _ ?_
 have hSt:Step S H (H2.set D [.bool true,.ms Q o (N-o) 1]):=(hS.mono fun z hz=>hSn z hz).set hD (by have:=Heap.lt_of_get gQ; simp[go_sem,this])
 refine hSt.retP (r:=.tup []) gz ⟨rfl,⟨.ms Q o (N-o) 1,hD,by rw[Heap.get_set,if_pos rfl,gD2]; rfl,.inr ⟨Q,(bV all).take o,fun e=>e.elim (fun e=>by have:=hSn _ e; omega) hQD,?_,?_⟩,by rw[yD]; omega,fun b hb=>Nat.lt_of_lt_of_le (hSn b hb) hSt.le⟩,hSt⟩ gz
 ·rw[hlw,List.length_drop,List.length_take,haL,halll,Nat.min_eq_left hoN]
 ·rw[Heap.get_set,if_neg hQD,gQ,hlw,<- qmz,List.take_append_drop]
theorem fNew_p (H:Heap):SCallsP Tryz.prog 14 [] H (fun r H' => ∃ D,r = .ptr D 0/\KeepS (fun z=>z<H.next) H' D []/\Step (fun z=>z<H.next) H H'):=by
 refine qA (sz:=3) (Tryz.call14) Tryz.func14 rfl kz (fun R hR=>?_)
 refine qg (fun K1 hK1=>?_)
 refine qi kz ?_
 simp[go_sem]
 refine hK1 _ _ ?_
 try clear hK1 K1
 refine qg (fun K2 hK2=>?_)
 refine qo (fun K3 hK3=>?_)
 refine qi kz ?_
 simp[go_sem]
 refine hK3 _ _ ?_
 refine hK2 _ _ ?_
 try clear hK2 K2
 refine qx ?_
 simp only[go_sem]
 refine hR _ _ ?_
 have hSt:Step (fun z=>z<H.next) H (H.alloc [.bool true,.nil]):=(Step.refl _ _).alloc gz
 refine hSt.retP (r:=.ptr H.next 0) gz ⟨H.next,rfl,⟨.nil,Nat.lt_irrefl _,gz,.inl ⟨rfl,rfl⟩,by simp,fun b hb=>by rw[Heap.next_alloc]; omega⟩,hSt⟩ gz
theorem fLen_w {S:Nat->Prop} {D:Nat} {h:List UInt8} {H:Heap} (hk:KeepS S H D h):SCalls Tryz.prog 18 [.ptr D 0] H (.int (h.length:Nat)) H:=by
 obtain ⟨x,hD,gD,hx,hh,hSn⟩:=hk
 have hlc:=hx.len_cases
 obtain ⟨n,hn⟩ : ∃ k,h.length=k:=⟨_,rfl⟩
 rw[hn] at hlc |-
 refine qE (sz:=10) (Tryz.call18) Tryz.func18 rfl (Nat.le_refl _) kz (fun R hR=>?_)
 refine qg (fun K1 hK1=>?_)
 refine qi kz ?_
 simp[go_sem]
 refine hK1 _ _ ?_
 try clear hK1 K1
 refine qg (fun K2 hK2=>?_)
 refine qg (fun K3 hK3=>?_)
 refine qi kz ?_
 simp[go_sem]
 refine hK3 _ _ ?_
 try clear hK3 K3
 refine qj (b:=false) gz (fun h=>by cases h) (fun _=>?_)
 refine ql ?_
 refine hK2 _ _ ?_
 try clear hK2 K2
 refine qg (fun K4 hK4=>?_)
 rcases hlc with ⟨rfl,rfl⟩ | ⟨q,o,rfl⟩
 ·skip
  refine qi kz ?_
  simp[go_sem,gD]
  refine hK4 _ _ ?_
  try clear hK4 K4
  refine qx ?_
  simp only[go_sem]
  refine hR _ _ ?_
  exact qG gz (Heap.le_refl _) (Nat.le_refl _) gz
 ·skip
  refine qi kz ?_
  simp[go_sem,gD]
  refine hK4 _ _ ?_
  try clear hK4 K4
  refine qx ?_
  simp only[go_sem]
  refine hR _ _ ?_
  exact qG gz (Heap.le_refl _) (Nat.le_refl _) gz
theorem fReset_p {S:Nat->Prop} {D:Nat} {h:List UInt8} {H:Heap} (hk:KeepS S H D h):SCallsP Tryz.prog 20 [.ptr D 0] H (fun r H'=>r = .tup []/\KeepS S H' D []/\Step S H H'):=by
 obtain ⟨x,hD,gD,hx,hh,hSn⟩:=hk
 refine qA (sz:=7) (Tryz.call20) Tryz.func20 rfl kz (fun R hR=>?_)
 refine qg (fun K1 hK1=>?_)
 refine qi kz ?_
 simp[go_sem]
 refine hK1 _ _ ?_
 try clear hK1 K1
 refine qj (b:=true) gz (fun _=>?_) (fun h=>by cases h)
 refine qo (fun K2 hK2=>?_)
 refine qi kz ?_
 simp[go_sem,gD]
 refine hK2 _ _ ?_
 refine hR _ _ ?_
 have hSt:Step S H (H.set D [.bool true,.nil]):=(Step.refl _ _).set hD gz
 exact hSt.retP (r:=.tup []) gz ⟨rfl,⟨.nil,hD,by rw[Heap.get_set,if_pos rfl,gD]; rfl,.inl ⟨rfl,rfl⟩,by simp,hSn⟩,hSt⟩ gz
theorem fAdd_p {S:Nat->Prop} {D:Nat} {h b:List UInt8} (hb:b.length<=10000) {H:Heap} (hk:KeepS S H D h):SCallsP Tryz.prog 15 [.ptr D 0,bA b] H (fun r H'=>r = .tup []/\KeepS S H' D (lastW (h++b))/\Step S H H'):=by
 obtain ⟨x,hD,gD,hx,hh,hSn⟩:=hk
 obtain ⟨hn,hhn⟩ : ∃ k,h.length=k:=⟨_,rfl⟩
 obtain ⟨bn,hbn⟩ : ∃ k,b.length=k:=⟨_,rfl⟩
 have cc:=qdk (H:=H) (h:=h) oz hx
 obtain ⟨all,hall⟩ : ∃ z,h++b=z:=⟨_,rfl⟩
 have hal:bV h++bV b=bV all:=by rw[<- jF,hall]
 obtain ⟨N,hN⟩ : ∃ k,hn+bn=k:=⟨_,rfl⟩
 have halll:all.length=N:=by rw[<- hall,List.length_append,hhn,hbn,hN]
 have haL:(bV all).length=N:=by rw[qQ,halll]
 have hDn:=Heap.lt_of_get gD
 have wN:IntKind.i64.wrap ((N:Int)-32768)=(N:Int)-32768:=i64in _ oz oz
 obtain ⟨o,ho⟩ : ∃ k,N-32768=k:=⟨_,rfl⟩
 have hlw:lastW all=all.drop o:=by unfold lastW; rw[halll,ho]
 have hmax:(if (0:Int)<(N:Int)-32768 then (N:Int)-32768 else 0)=(o:Int):=by split <;> omega
 have hmax2:(if (N:Int)-32768<(0:Int) then (0:Int) else (N:Int)-32768)=(o:Int):=by split <;> omega
 have hmax3:max (0:Int) ((N:Int)-32768)=(o:Int):=oz
 have hoN:o<=N:=oz
 have hto:((N:Int)-32768).toNat=o:=oz
 rw[show h++b=all from hall]
 refine qA (sz:=29) (Tryz.call15) Tryz.func15 rfl kz (fun R hR=>?_)
 refine qg (fun K1 hK1=>?_)
 refine qi kz ?_
 simp[go_sem,gD]
 refine hK1 _ _ ?_
 try clear hK1 K1
 refine qj (b:=true) (by simp[go_sem,gD]) (fun _=>?_) (fun h=>by cases h)
 refine qw (fun env H2 => ∃ Q,(env 0 = .ptr D 0/\env 4 = .ms Q 0 N 1)/\H2.get Q=some (bV all)/\H.next<=Q/\Step (fun z=>z<H.next) H H2) ?_ ?_
 ·skip
  refine qo (fun K3 hK3=>?_)
  refine qp kz ?_
  refine qH 5 (fun K4 hK4=>?_)
  simp[go_sem,gD,bA,hbn]
  refine ⟨_,cc,?_⟩
  rintro r1 H1 hn1 ⟨hgr,hS1⟩
  obtain ⟨bo,hg,hbo,_,hlt1⟩:=hgr.grown
  rw[hhn] at hg
  have ha:=qL (P:=Tryz.prog) (H:=H1) (x:=.vs b.length 1 (bV b)) (u:=25) tU25 tS5 tB5 tZ5 rfl (zl tU25 (by rw[qQ]; omega)) hg oz oz (yc b)
  rw[hbn,hal,hN] at ha
  refine hK4 _ _ ?_
  clear hK4 K4
  simp[go_sem,bA,hbn,ha]
  refine hK3 _ _ ?_
  exact ⟨H1.next,⟨gz,gz⟩,zf,hn1,hS1.regrow hbo (ja _ _)⟩
 rintro env H2 ⟨Q,⟨e0,e4⟩,gQ,hQ0,hS⟩
 have gD2:=hS.get gD hDn
 have hQD:Q≠D:=oz
 refine qo (fun K5 hK5=>?_)
 refine qi kz ?_
 simp[go_sem,e0,e4,gD2,wN,yC,hto,hoN]
 refine hK5 _ _ ?_
 refine hR _ _ ?_
 have hSt:Step S H (H2.set D [.bool true,.ms Q o (N-o) 1]):=(hS.mono fun z hz=>hSn z hz).set hD (by have:=Heap.lt_of_get gQ; simp[go_sem,this])
 refine hSt.retP (r:=.tup []) gz ⟨rfl,⟨.ms Q o (N-o) 1,hD,by rw[Heap.get_set,if_pos rfl,gD2]; rfl,.inr ⟨Q,(bV all).take o,fun e=>e.elim (fun e=>by have:=hSn _ e; omega) hQD,?_,?_⟩,by rw[yD]; omega,fun b hb=>Nat.lt_of_lt_of_le (hSn b hb) hSt.le⟩,hSt⟩ gz
 ·rw[hlw,List.length_drop,List.length_take,haL,halll,Nat.min_eq_left hoN]
 ·rw[Heap.get_set,if_neg hQD,gQ,hlw,<- qmz,List.take_append_drop]
theorem wayA_len (b:List UInt8) (l:List Tok):(wayA b l).length<=(storedBits b).length/\(wayA b l).length<=(fixedBits l).length:=by
 unfold wayA
 split <;> omega
theorem qk9 (b:List UInt8) (l:List Tok):(wayB b l).length<=(storedBits b).length/\(wayB b l).length<=(fixedBits l).length:=by
 have:=wayA_len b l
 unfold wayB
 split <;> omega
theorem qap (b:List UInt8):(storedBits b).length=40+8*b.length:=by
 unfold storedBits
 simp only[List.length_append,qB,zo,List.length_replicate]
 omega
def packOf (h b:List UInt8):List UInt8:=pack (bestBits h b++natBits 3 0)
theorem Packet_p {S:Nat->Prop} {D:Nat} {h b:List UInt8} (h0:0<b.length) (hb:b.length<=10000) {H:Heap} (hk:KeepS S H D h):SCallsP Tryz.prog 10 [.ptr D 0,bA b] H (fun r H'=>r=bA (packOf h b)/\KeepS S H' D (lastW (h++b))/\Step S H H'):=by
 obtain ⟨x,hD,gD,hx,hh,hSn⟩:=id hk
 have ct:=qmp h0 oz oz hx
 have hbl:(bestBits h b).length<=40+8*b.length:=by unfold bestBits; rw[<- qap]; exact (qk9 b _).1
 obtain ⟨bn,hbn⟩ : ∃ k,b.length=k:=⟨_,rfl⟩
 have hb0 : ¬ ((bn:Int)=0):=oz
 have hb1 : ¬ (bn=0):=oz
 unfold bA at ct
 rw[hbn] at ct hbl
 have hkn:=hk.lt
 refine qA (sz:=33) (Tryz.call10) Tryz.func10 rfl kz (fun R hR=>?_)
 refine qg (fun K1 hK1=>?_)
 refine qi kz ?_
 simp[go_sem]
 refine hK1 _ _ ?_
 try clear hK1 K1
 refine qg (fun K2 hK2=>?_)
 refine qg (fun K3 hK3=>?_)
 refine qi kz ?_
 refine qI 7 (fun K4 hK4=>?_)
 simp[go_sem,gD,bA,hbn,hb0,hb1]
 refine hK4 _ _ ?_
 clear hK4 K4
 simp[go_sem,gD,bA,hbn,hb0,hb1]
 refine hK3 _ _ ?_
 try clear hK3 K3
 refine qj (b:=false) (by simp[go_sem,gD,bA,hbn,hb0,hb1]) (fun h=>by cases h) (fun _=>?_)
 refine ql ?_
 refine hK2 _ _ ?_
 try clear hK2 K2
 refine qw (fun env H1 => ∃ w,(env 0 = .ptr D 0/\env 1 = .vs bn 1 (bV b)/\env 5 = .ptr w 0)/\WrN (fun z=>z<H.next) H1 w (bestBits h b)/\Step (fun z=>z<H.next) H H1) ?_ ?_
 ·skip
  refine qo (fun K6 hK6=>?_)
  refine qp kz ?_
  refine qH 6 (fun K7 hK7=>?_)
  simp[go_sem,gD,bA,hbn]
  refine ⟨_,ct,?_⟩
  rintro _ H1 hn1 ⟨w,rfl,hW1,hS1⟩
  refine hK7 _ _ ?_
  clear hK7 K7
  simp[go_sem,gD,bA,hbn]
  refine hK6 _ _ ?_
  exact ⟨w,⟨gz,by simp[go_sem,bA,hbn],gz⟩,hW1,hS1⟩
 rintro env H1 ⟨w,⟨e0,e1,e5⟩,hW1,hS1⟩
 have cp:=qar (fun z=>z<H.next) w 3 0 (bestBits h b) dz dz oz hW1
 refine qg (fun K8 hK8=>?_)
 refine qp kz ?_
 simp[go_sem,e5]
 refine ⟨_,cp,?_⟩
 rintro _ H3 hn3 ⟨rfl,hW3,hS3⟩
 have hS13:=hS1.trans hS3
 have hk3:=hk.keep hS13 (fun z hz=>hz)
 have hwn:w<H3.next:=by obtain ⟨_,_,g,_⟩:=hW3; exact Heap.lt_of_get g
 have hk4:KeepS (fun z=>S z\/(H.next<=z/\z<H3.next)) H3 D h:=by
  obtain ⟨y,k1,k2,k3,k4,k5⟩:=hk3
  have hy:y=x:=by have:=hS13.get gD hkn; rw[this] at k2; cases k2; rfl
  subst hy
  refine ⟨y,fun e=>e.elim k1 (fun e=>by omega),k2,?_,k4,fun z hz=>hz.elim (k5 z) (fun e=>e.2)⟩
  rcases hx with hx | ⟨q,pre,m1,m2,m3⟩
  ·exact .inl hx
  ·refine .inr ⟨q,pre,fun e=>e.elim (fun e=>e.elim (fun e=>m1 (.inl e)) (fun e=>by have:=Heap.lt_of_get m3; omega)) (fun e=>m1 (.inr e)),m2,hS13.get m3 (Heap.lt_of_get m3)⟩
 have ca:=dAdd_p (b:=b) oz hk4
 unfold bA at ca
 rw[hbn] at ca
 refine hK8 _ _ ?_
 try clear hK8 K8
 refine qg (fun K10 hK10=>?_)
 refine qp kz ?_
 simp[go_sem,e0,e1]
 refine ⟨_,ca,?_⟩
 rintro _ H5 hn5 ⟨rfl,hk5,hS5⟩
 have hW5:WrN (fun _=>False) H5 w (bestBits h b++natBits 3 0):=by
  obtain ⟨y,k1,k2,k3,k4,k5⟩:=hW3
  have hw0:H.next<=w:=Nat.le_of_not_lt k1
  refine ⟨y,id,hS5.get k2 (.inr ⟨hw0,hwn⟩),k3,?_,fun _ h=>h.elim⟩
  rcases k4 with k4 | ⟨q,q1,q2,q3,q4⟩
  ·exact .inl k4
  ·exact .inr ⟨q,id,q2,q3,hS5.get q4 (.inr ⟨Nat.le_of_not_lt q1,Heap.lt_of_get q4⟩)⟩
 have cb:=wbytes_w hW5
 refine hK10 _ _ ?_
 try clear hK10 K10
 refine qg (fun K12 hK12=>?_)
 refine qp kz ?_
 refine qH 2 (fun K13 hK13=>?_)
 simp[go_sem,e5]
 refine ⟨_,cb.p,?_⟩
 rintro _ H9 hn9 ⟨rfl,hH9⟩
 rw[hH9]
 refine hK13 _ _ ?_
 clear hK13 K13
 simp[go_sem,e5]
 refine hK12 _ _ ?_
 try clear hK12 K12
 refine qx ?_
 simp only[go_sem]
 refine hR _ _ ?_
 have hSf:Step S H H5:=(hS13.mono fun z hz=>hSn z hz).trans (hS5.mono fun z hz=>.inl hz)
 exact hSf.retP (r:=bA (packOf h b)) (by simp[go_sem,packOf]) ⟨rfl,hk5.mono (fun z hz=>.inl hz),hSf⟩ (by rw[qgu]; trivial)
end Go.Proofs.YtfokgjhdndnnhaaGreatDoor
end W32S
set_option maxRecDepth 20000
noncomputable section W33S
namespace Go.Proofs.YtfokgjhdndnnhaaGreatDoor
open Go Go.Fl Go.Proofs
theorem qjr (n:Nat) : ∀ (x k:Nat),k<n->(natBits n x)[k]? = some (x/2^k%2==1):=by
 induction n with
 | zero=>intro x k h; omega
 | succ n ih =>
  intro x k h
  cases k with
  | zero=>simp[natBits]
  | succ k =>
   simp only[natBits,List.getElem?_cons_succ]
   rw[ih (x/2) k oz,Nat.div_div_eq_div_mul,Nat.pow_succ,Nat.mul_comm]
theorem qaq : ∀ (b:List UInt8) (i:Nat),i<8*b.length->(unpack b)[i]? = some ((gB b (i/8)).toNat/2^(i%8)%2==1)
 | [],i,h=>by simp at h
 | x::b,i,h=>by
  have hu:unpack (x::b)=byteBits x++unpack b:=by simp[unpack]
  have hl:(byteBits x).length=8:=qB _ _
  rw[hu,List.getElem?_append,hl]
  split
  ·rename_i h8
   have e1:i/8=0:=oz
   have e2:i%8=i:=oz
   rw[e1,e2]
   exact qjr 8 x.toNat i h8
  ·rename_i h8
   have h2:i-8<8*b.length:=by simp only[List.length_cons] at h; omega
   rw[qaq b (i-8) h2]
   have e1:i/8=(i-8)/8+1:=oz
   have e2:(i-8)%8=i%8:=oz
   rw[e1,e2]
   rfl
def bitsAt (b:List UInt8) (p n:Nat):Nat:=ofBits (((unpack b).drop p).take n)
theorem qbz (b:List UInt8) (p n:Nat):bitsAt b p n<2^n:=by
 refine Nat.lt_of_lt_of_le (yS _) (Nat.pow_le_pow_right dz ?_)
 rw[List.length_take]
 omega
theorem qem {b:List UInt8} {p n:Nat} (h:p+n<8*b.length):bitsAt b p (n+1)=bitsAt b p n+2^n*((gB b ((p+n)/8)).toNat/2^((p+n)%8)%2):=by
 unfold bitsAt
 have hg:((unpack b).drop p)[n]? = some ((gB b ((p+n)/8)).toNat/2^((p+n)%8)%2==1):=by rw[List.getElem?_drop]; exact qaq b (p+n) h
 rw[List.take_add_one,hg,qez]
 have hl:(((unpack b).drop p).take n).length=n:=by rw[List.length_take,List.length_drop,zo]; omega
 rw[hl]
 congr 1
 generalize (gB b ((p+n)/8)).toNat/2^((p+n)%8)=y
 rcases (by omega:y%2=0\/y%2=1) with h0 | h0 <;> simp[h0,ofBits]
theorem qla {k:Nat} (hk:k<=32):2^k<=4294967296:=by
 have:=Nat.pow_le_pow_right (n:=2) dz hk
 exact this
theorem qoz {bt k:Nat} (h:bt<2) (hk:k<=32):bt*2^k<2^63:=by
 have h1:=qla hk
 generalize 2^k=y at h1
 have h2:bt*y<=1*y:=Nat.mul_le_mul_right _ oz
 omega
theorem qo0 {bt k:Nat} (h:bt<2) (hk:k<=32):bshl .i64 (bt:Int) (k:Int)=((bt*2^k:Nat):Int):=zB bt k oz (qoz h hk)
theorem or_bit {x bt k:Nat} (h:bt<2) (hk:k<=32) (hx:x<2^k):bits .or .i64 (x:Int) ((bt*2^k:Nat):Int)=((x+bt*2^k:Nat):Int):=by
 have h1:=qla hk
 have h2:bits .or .i64 (x:Int) ((bt*2^k:Nat):Int)=((x ||| (bt*2^k):Nat):Int):=bor_nat x (bt*2^k) oz (qoz h hk)
 rw[qm5 x bt k hx] at h2
 exact h2
theorem and_bit {c im:Nat} (hc:c<256):bits .and .i64 ((c/2^im:Nat):Int) 1=((c/2^im%2:Nat):Int):=by
 have h1:c/2^im<=c:=Nat.div_le_self _ _
 generalize c/2^im=y at h1
 exact qf1 y oz
theorem qic {b:List UInt8} {p k n bl:Nat} (hbl:b.length=bl) (hb:bl<=100000) (hp:p+n<=8*bl) (hk:k<n) (hn:n<=32) : ∃ i i8 im c y bt x0 z0:Nat,
  IntKind.i64.wrap ((p:Int)+(k:Int))=(i:Int)/\(i:Int).tdiv 8=(i8:Int)/\(i:Int).tmod 8=(im:Int)/\(∃ r,(bV b).drop i8 = .sc (.int .u8 (c:Int))::r) /\
  IntKind.i64.wrap (i8:Int)=(i8:Int)/\(i8:Int)<bl/\i8+1<=bl/\IntKind.i64.wrap (c:Int)=(c:Int) /\
  bshr .i64 (c:Int) (im:Int)=(y:Int)/\bits .and .i64 (y:Int) 1=(bt:Int)/\bshl .i64 (bt:Int) (k:Int)=(z0:Int) /\
  bits .or .i64 (x0:Int) (z0:Int)=((x0+z0:Nat):Int)/\bitsAt b p k=x0/\bitsAt b p (k+1)=x0+z0:=by
 have hsu:=qem (b:=b) (p:=p) (n:=k) oz
 have lc:=(gB b ((p+k)/8)).toNat_lt
 have hg:=yA (l:=b) (i:=(p+k)/8) oz
 have hbt2:(gB b ((p+k)/8)).toNat/2^((p+k)%8)%2<2:=Nat.mod_lt _ dz
 have hk3:k<=32:=oz
 refine ⟨p+k,(p+k)/8,(p+k)%8,(gB b ((p+k)/8)).toNat,(gB b ((p+k)/8)).toNat/2^((p+k)%8),(gB b ((p+k)/8)).toNat/2^((p+k)%8)%2,bitsAt b p k,(gB b ((p+k)/8)).toNat/2^((p+k)%8)%2*2^k,?_,tdiv8 _,tmod8 _,hg,i64in _ oz oz,oz,oz,i64in _ oz oz,jG _ _ oz,and_bit lc,qo0 hbt2 hk3,or_bit hbt2 hk3 (qbz b p k),rfl,by rw[hsu,Nat.mul_comm]⟩
 rw[i64in _ oz oz]
 omega
theorem qid {H:Heap} {rb:Nat} {x y:AV} {fs cs:List AV} {f:Fn} (gR:H.get rb=some [x,y,.fn f fs cs]):SCalls Tryz.prog 58 [.ptr rb 0] H (.bool true) H:=by
 refine qE (sz:=12) (Tryz.call58) Tryz.func58 rfl (Nat.le_refl _) kz (fun R hR=>?_)
 refine qg (fun K1 hK1=>?_)
 refine qi kz ?_
 simp[go_sem]
 refine hK1 _ _ ?_
 try clear hK1 K1
 refine qg (fun K2 hK2=>?_)
 refine qi kz ?_
 simp[go_sem,gR]
 refine hK2 _ _ ?_
 try clear hK2 K2
 refine qx ?_
 simp only[go_sem]
 refine hR _ _ ?_
 exact qG gz (Heap.le_refl _) (Nat.le_refl _) gz
theorem qlb {H:Heap} {rb p:Nat} {b:List UInt8} (gR:H.get rb=some (rdC b p)) (hb:b.length<=100000) (hp:p<=8*b.length):SCalls Tryz.prog 29 [.ptr rb 0] H (.int ((8*b.length-p:Nat):Int)) H:=by
 unfold rdC bA atF at gR
 obtain ⟨bl,hbl⟩ : ∃ k,b.length=k:=⟨_,rfl⟩
 rw[hbl] at gR hp hb
 have cm:=qid gR
 have hbL:(bV b).length=bl:=by rw[qQ,hbl]
 have w1:IntKind.i64.wrap (8*(bl:Int))=8*(bl:Int):=i64in _ oz oz
 have w2:IntKind.i64.wrap (8*(bl:Int)-p)=((8*bl-p:Nat):Int):=by rw[i64in _ oz oz]; omega
 rw[hbl]
 refine qE (sz:=17) (Tryz.call29) Tryz.func29 rfl (Nat.le_refl _) kz (fun R hR=>?_)
 refine qg (fun K1 hK1=>?_)
 refine qi kz ?_
 simp[go_sem]
 refine hK1 _ _ ?_
 try clear hK1 K1
 refine qg (fun K2 hK2=>?_)
 refine qg (fun K3 hK3=>?_)
 refine qi kz ?_
 refine qI 2 (fun K4 hK4=>?_)
 simp[go_sem]
 refine ⟨_,_,cm,?_⟩
 refine hK4 _ _ ?_
 clear hK4 K4
 simp[go_sem]
 refine hK3 _ _ ?_
 try clear hK3 K3
 refine qj (b:=false) gz (fun h=>by cases h) (fun _=>?_)
 refine ql ?_
 refine hK2 _ _ ?_
 try clear hK2 K2
 refine qg (fun K5 hK5=>?_)
 refine qJ mixed kz ?_
 simp[go_sem,gR,w1,w2]
 refine hK5 _ _ ?_
 try clear hK5 K5
 refine qx ?_
 simp only[go_sem]
 refine hR _ _ ?_
 exact qG gz (Heap.le_refl _) (Nat.le_refl _) gz
theorem number_r {H:Heap} {rb p n:Nat} {b:List UInt8} (gR:H.get rb=some (rdC b p)) (hb:b.length<=100000) (hp:p+n<=8*b.length) (hn:n<=32):SCalls Tryz.prog 107 [.ptr rb 0,.int n,.int n] H (.int (bitsAt b p n:Nat)) H:=by
 unfold rdC bA atF at gR
 obtain ⟨bl,hbl⟩ : ∃ k,b.length=k:=⟨_,rfl⟩
 rw[hbl] at gR hp hb
 have cm:=qid gR
 have hbL:(bV b).length=bl:=by rw[qQ,hbl]
 refine qE (sz:=52) (Tryz.call107) Tryz.func107 rfl (Nat.le_refl _) kz (fun R hR=>?_)
 refine qg (fun K1 hK1=>?_)
 refine qi kz ?_
 simp[go_sem]
 refine hK1 _ _ ?_
 try clear hK1 K1
 refine qg (fun K2 hK2=>?_)
 refine qi kz ?_
 simp[go_sem]
 refine hK2 _ _ ?_
 try clear hK2 K2
 refine qg (fun K3 hK3=>?_)
 refine qg (fun K4 hK4=>?_)
 refine qi kz ?_
 simp[go_sem]
 refine hK4 _ _ ?_
 try clear hK4 K4
 refine qm ?_
 refine qC (Inv:=fun m0 env H2 => ∃ k:Nat,m0=n-k/\k<=n/\env 0 = .ptr rb 0/\env 2 = .int n/\env 7 = .int (bitsAt b p k:Nat)/\env 11 = .int n/\env 12 = .int k/\H=H2) ?_ (n:=n) (⟨0,rfl,oz,gz,gz,by simp[go_sem,bitsAt,ofBits],gz,gz,rfl⟩)
 rintro m0 env _ ⟨k,rfl,hk,e0,e2,e7,e11,e12,rfl⟩
 refine qg (fun K5 hK5=>?_)
 refine qi kz ?_
 simp[go_sem,e11,e12]
 refine hK5 _ _ ?_
 try clear hK5 K5
 refine qg (fun K6 hK6=>?_)
 refine qj (b:=decide (k<n)) gz (fun hb9=>?_) (fun hb9=>?_)
 ·skip
  simp only[decide_eq_true_eq] at hb9
  obtain ⟨i,i8,im,c,y,bt,x0,z0,wi,d8,m8,⟨r_0,d_0⟩,w8,b8,q8,wc,sh,an,sl,ho,hx0,hsu⟩:=qic hbl hb hp hb9 hn
  rw[hx0] at e7
  clear hx0
  refine ql ?_
  refine hK6 _ _ ?_
  try clear hK6 K6
  refine qg (fun K7 hK7=>?_)
  refine qm ?_
  refine qg (fun K8 hK8=>?_)
  refine qi kz ?_
  simp[go_sem,e12]
  refine hK8 _ _ ?_
  try clear hK8 K8
  refine qg (fun K9 hK9=>?_)
  refine qi kz ?_
  simp[go_sem,e0,gR,wi]
  refine hK9 _ _ ?_
  try clear hK9 K9
  refine qg (fun K10 hK10=>?_)
  refine qJ mixed kz ?_
  refine jS 16 (fun K11 hK11=>?_)
  simp[go_sem,e0,gR,d8,m8,d_0,wc,b8,q8,hbL,sh,an,w8]
  refine ⟨_,_,(at_H _ _ _),rfl,?_⟩
  refine hK11 _ _ ?_
  clear hK11 K11
  simp[go_sem,e0,gR,d8,m8,d_0,wc,b8,q8,hbL,sh,an,w8]
  refine hK10 _ _ ?_
  try clear hK10 K10
  refine qdz (fun e1 H1=>e1 0 = .ptr rb 0/\e1 2 = .int n/\e1 7 = .int x0/\e1 8 = .int k/\e1 10 = .int bt/\e1 11 = .int n/\e1 12 = .int k/\H1=H) ⟨by simp[go_sem,e0],by simp[go_sem,e2],by simp[go_sem,e7],gz,gz,by simp[go_sem,e11],by simp[go_sem,e12],rfl⟩ ?_
  clear e0 e2 e7 e11 e12
  rintro env _ ⟨e0,e2,e7,e8,e10,e11,e12,rfl⟩
  refine qi kz ?_
  refine qI 9 (fun K12 hK12=>?_)
  simp[go_sem,e0,e2,e7,e8,e10,gR,sl,ho]
  refine ⟨_,_,(at_H _ _ _),?_⟩
  refine hK12 _ _ ?_
  clear hK12 K12
  refine qI 1 (fun K77 hK77=>?_)
  simp[go_sem,sl]
  refine hK77 _ _ ?_
  clear hK77 K77
  refine qI 1 (fun K78 hK78=>?_)
  simp[go_sem,ho]
  refine hK78 _ _ ?_
  clear hK78 K78
  simp[go_sem]
  refine hK7 _ _ ?_
  try clear hK7 K7
  refine qo (fun K13 hK13=>?_)
  refine qi kz ?_
  simp[go_sem,e12]
  refine hK13 _ _ ?_
  have hw1:=qF k oz
  exact ⟨n-(k+1),oz,k+1,rfl,oz,by simp[go_sem,e0],by simp[go_sem,e2],by rw[hsu]; simp[go_sem],by simp[go_sem,e11],by simp[go_sem,hw1],rfl⟩
 ·skip
  simp only[decide_eq_false_iff_not] at hb9
  obtain rfl:n=k:=oz
  refine qy ?_
  refine hK3 _ _ ?_
  try clear hK3 K3
  refine qg (fun K14 hK14=>?_)
  refine qi kz ?_
  simp[go_sem,e7]
  refine hK14 _ _ ?_
  try clear hK14 K14
  refine qx ?_
  simp only[go_sem]
  refine hR _ _ ?_
  exact qG gz (Heap.le_refl _) (Nat.le_refl _) gz
theorem qo1 {H:Heap} {rb p n:Nat} {b:List UInt8} (gR:H.get rb=some (rdC b p)) (hb:b.length<=100000) (hp:p+n<=8*b.length) (hn:n<=32):SCallsP Tryz.prog 78 [.ptr rb 0,.int n] H (fun r H'=>r = .tup [.int (bitsAt b p n:Nat),.bool true]/\H'.get rb=some (rdC b (p+n))/\Step (fun z=>z≠rb) H H'):=by
 have gR0:=gR
 have hpl:p<=8*b.length:=oz
 have cl:=qlb gR hb hpl
 have cn:=number_r gR hb hp hn
 unfold rdC bA atF at gR
 obtain ⟨bl,hbl⟩ : ∃ k,b.length=k:=⟨_,rfl⟩
 rw[hbl] at gR hp hb
 have cm:=qid gR
 have hbL:(bV b).length=bl:=by rw[qQ,hbl]
 rw[hbl] at cl hpl
 have n0 : ¬ ((n:Int)<0):=oz
 have n32 : ¬ (32<(n:Int)):=oz
 obtain ⟨lf,hlf⟩ : ∃ z,8*bl-p=z:=⟨_,rfl⟩
 rw[hlf] at cl
 have nl : ¬ ((lf:Int)<(n:Int)):=oz
 have wp:IntKind.i64.wrap ((p:Int)+(n:Int))=((p+n:Nat):Int):=by rw[i64in _ oz oz]; omega
 push_cast at wp
 obtain ⟨v,hv⟩ : ∃ z,bitsAt b p n=z:=⟨_,rfl⟩
 rw[hv] at cn |-
 refine qA (sz:=37) (Tryz.call78) Tryz.func78 rfl kz (fun R hR=>?_)
 refine qg (fun K1 hK1=>?_)
 refine qi kz ?_
 simp[go_sem]
 refine hK1 _ _ ?_
 try clear hK1 K1
 refine qg (fun K2 hK2=>?_)
 refine qg (fun K3 hK3=>?_)
 refine qi kz ?_
 refine qI 10 (fun K4 hK4=>?_)
 simp[go_sem,n0,n32,nl]
 refine ⟨_,_,cl,?_⟩
 refine hK4 _ _ ?_
 clear hK4 K4
 refine qI 5 (fun K5 hK5=>?_)
 simp[go_sem,n0,n32,nl]
 refine ⟨_,_,cm,?_⟩
 refine hK5 _ _ ?_
 clear hK5 K5
 simp[go_sem,n0,n32,nl]
 refine hK3 _ _ ?_
 try clear hK3 K3
 refine qj (b:=false) gz (fun h=>by cases h) (fun _=>?_)
 refine ql ?_
 refine hK2 _ _ ?_
 try clear hK2 K2
 refine qg (fun K6 hK6=>?_)
 refine qi kz ?_
 refine qI 4 (fun K7 hK7=>?_)
 simp[go_sem]
 refine ⟨_,_,cn,?_⟩
 refine hK7 _ _ ?_
 clear hK7 K7
 simp[go_sem]
 refine hK6 _ _ ?_
 try clear hK6 K6
 refine qg (fun K8 hK8=>?_)
 refine qi kz ?_
 simp[go_sem,gR,wp]
 refine hK8 _ _ ?_
 try clear hK8 K8
 refine qg (fun K9 hK9=>?_)
 refine qi kz ?_
 simp[go_sem]
 refine hK9 _ _ ?_
 try clear hK9 K9
 refine qx ?_
 simp only[go_sem]
 refine hR _ _ ?_
 have hSt:Step (fun z=>z≠rb) H (H.set rb (rdC b (p+n))):=(Step.refl _ _).set (fun h=>h rfl) (qka _ _ _)
 have hc : [AV.vs bl 1 (bV b),AV.int ((p:Int)+(n:Int)),AV.fn (.func 70) [.agg [.bool false]] []]=rdC b (p+n):=by unfold rdC bA atF; rw[hbl]; push_cast; rfl
 rw[hc]
 refine hSt.retP (r:=.tup [.int v,.bool true]) gz ⟨rfl,by rw[Heap.get_set,if_pos rfl,gR]; rfl,hSt⟩ gz
theorem qo2 {H:Heap} {rb p:Nat} {b:List UInt8} (gR:H.get rb=some (rdC b p)) (hb:b.length<=100000) (hp:p<=8*b.length):SCallsP Tryz.prog 79 [.ptr rb 0] H (fun r H'=>r = .tup []/\H'.get rb=some (rdC b ((p+7)/8*8))/\Step (fun z=>z≠rb) H H'):=by
 unfold rdC bA atF at gR
 obtain ⟨bl,hbl⟩ : ∃ k,b.length=k:=⟨_,rfl⟩
 rw[hbl] at gR hp hb
 have cm:=qid gR
 have hbL:(bV b).length=bl:=by rw[qQ,hbl]
 have w7:IntKind.i64.wrap ((p:Int)+7)=((p+7:Nat):Int):=by rw[i64in _ oz oz]; omega
 obtain ⟨q,hq⟩ : ∃ z,p+7=z:=⟨_,rfl⟩
 rw[hq] at w7
 have d8:(q:Int).tdiv 8=((q/8:Nat):Int):=tdiv8 q
 obtain ⟨q8,hq8⟩ : ∃ z,q/8=z:=⟨_,rfl⟩
 rw[hq8] at d8
 have w8:IntKind.i64.wrap (q8:Int)=(q8:Int):=i64in _ oz oz
 have wm:IntKind.i64.wrap ((q8:Int)*8)=(q8:Int)*8:=i64in _ oz oz
 have hfin:(p+7)/8*8=q8*8:=by rw[hq,hq8]
 rw[hfin]
 refine qA (sz:=14) (Tryz.call79) Tryz.func79 rfl kz (fun R hR=>?_)
 refine qg (fun K1 hK1=>?_)
 refine qi kz ?_
 simp[go_sem]
 refine ⟨_,_,cm,?_⟩
 refine hK1 _ _ ?_
 try clear hK1 K1
 refine qj (b:=true) gz (fun _=>?_) (fun h=>by cases h)
 refine qo (fun K3 hK3=>?_)
 refine qi kz ?_
 simp[go_sem,gR,w7,d8,w8,wm]
 refine hK3 _ _ ?_
 refine hR _ _ ?_
 have hSt:Step (fun z=>z≠rb) H (H.set rb (rdC b (q8*8))):=(Step.refl _ _).set (fun h=>h rfl) (qka _ _ _)
 have hc : [AV.vs bl 1 (bV b),AV.int ((q8:Int)*8),AV.fn (.func 70) [.agg [.bool false]] []]=rdC b (q8*8):=by unfold rdC bA atF; rw[hbl]; push_cast; rfl
 rw[hc]
 refine hSt.retP (r:=.tup []) gz ⟨rfl,by rw[Heap.get_set,if_pos rfl,gR]; rfl,hSt⟩ gz
theorem newR_p {H:Heap} {b:List UInt8} (hb:b.length<=100000):SCallsP Tryz.prog 50 [bA b,.bool false] H (fun r H' => ∃ rb,r = .ptr rb 0/\H.next<=rb/\H'.get rb=some (rdC b 0)/\Step (fun z=>z<H.next) H H'):=by
 obtain ⟨bl,hbl⟩ : ∃ k,b.length=k:=⟨_,rfl⟩
 have hbL:(bV b).length=bl:=by rw[qQ,hbl]
 have ha:=qL (P:=Tryz.prog) (H:=H) (s:=.nil) (x:=.vs bl 1 (bV b)) (u:=25) tU25 tS5 tB5 tZ5 rfl (zl tU25 oz) (qbp (sz:=1)) oz oz (yc b)
 rw[Nat.zero_add,List.nil_append] at ha
 refine qA (sz:=12) (Tryz.call50) Tryz.func50 rfl kz (fun R hR=>?_)
 refine qg (fun K1 hK1=>?_)
 refine qi kz ?_
 simp[go_sem]
 refine hK1 _ _ ?_
 try clear hK1 K1
 refine qg (fun K2 hK2=>?_)
 refine qo (fun K99 hK99=>?_)
 refine qM kz ?_
 refine jf 1 (fun K90 hK90=>?_)
 simp[go_sem,bA,hbl]
 refine hK90 _ _ ?_
 clear hK90 K90
 refine jE (.vs bl 1 (bV b)) ((H.alloc (bV b)).del H.next) rfl (jM (by simp[go_sem,bA,hbl,ha]; rfl) oz) ?_
 refine zJ ?_
 simp[go_sem]
 refine hK99 _ _ ?_
 refine hK2 _ _ ?_
 try clear hK2 K2
 refine qx ?_
 simp only[go_sem]
 refine hR _ _ ?_
 have hSt:Step (fun z=>z<H.next) H (((H.alloc (bV b)).del H.next).alloc (rdC b 0)):=(zH ((Step.refl (fun z=>z<H.next) H).alloc (ja _ _)) (Nat.lt_irrefl _)).alloc (qka _ _ _)
 have hc : [AV.vs bl 1 (bV b),AV.int 0,AV.fn (.func 70) [.agg [.bool false]] []]=rdC b 0:=by unfold rdC bA atF; rw[hbl]; rfl
 rw[hc]
 refine hSt.retP (r:=.ptr (H.next+1) 0) gz ⟨H.next+1,rfl,oz,by rw[Heap.get_alloc]; exact if_pos rfl,hSt⟩ gz
end Go.Proofs.YtfokgjhdndnnhaaGreatDoor
end W33S
