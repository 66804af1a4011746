/- Contracts: what is owned; rows that are alike. -/
import Derived.Test.YtfokgjhdndnnhaaGreatDoorFl58
set_option maxHeartbeats 1000000
set_option linter.unusedVariables false
set_option linter.unusedSimpArgs false
set_option maxRecDepth 20000
noncomputable section W54S
namespace Go.Proofs.YtfokgjhdndnnhaaGreatDoor
open Go Go.Fl Go.Proofs
theorem bV_ix {b:List UInt8} {i:Nat} (h:i<b.length) : ∃ c r,(bV b).drop i = .sc (.int .u8 c)::r:=by
 obtain ⟨x,hx⟩:=qgw b i h
 obtain ⟨r,hr⟩:=bV_at hx
 exact ⟨_,r,hr⟩
theorem Same_s (b:List UInt8) (hl:b.length<=1000000):SCalls Tryz.prog 17 [bA b,bA b] Heap.empty (.bool true) Heap.empty:=by
 obtain ⟨n,hn⟩ : ∃ z,b.length=z:=⟨_,rfl⟩
 rw[hn] at hl
 have hLb:(bV b).length=n:=by rw[qQ,hn]
 have hbA:bA b = .vs n 1 (bV b):=by unfold bA; rw[hn]
 rw[hbA]
 refine qE (sz:=26) (Tryz.call17) Tryz.func17 rfl (Nat.zero_le _) kz (fun R hR=>?_)
 refine qg (fun K1 hK1=>?_)
 refine qi kz ?_
 simp[go_sem]
 refine hK1 _ _ ?_
 try clear hK1 K1
 refine qg (fun K2 hK2=>?_)
 refine qg (fun K3 hK3=>?_)
 refine qi kz ?_
 simp[go_sem]
 refine hK3 _ _ ?_
 try clear hK3 K3
 refine qj (b:=false) gz (fun h=>by cases h) (fun _=>?_)
 refine ql ?_
 refine hK2 _ _ ?_
 try clear hK2 K2
 refine qg (fun K4 hK4=>?_)
 refine qg (fun K5 hK5=>?_)
 refine qi kz ?_
 simp[go_sem]
 refine hK5 _ _ ?_
 try clear hK5 K5
 refine qm ?_
 refine qC (Inv:=fun n0 env H => ∃ i:Nat,n0=n-i/\i<=n/\env 0 = .vs n 1 (bV b)/\env 1 = .vs n 1 (bV b)/\env 5 = .int i) ?_ (n:=n) (⟨0,rfl,oz,by simp[go_sem,bA,hn],by simp[go_sem,bA,hn],gz⟩)
 rintro n0 env H ⟨i,rfl,hi,e0,e1,e5⟩
 refine qg (fun K6 hK6=>?_)
 refine qg (fun K7 hK7=>?_)
 refine qi kz ?_
 simp[go_sem,e0,e5]
 refine hK7 _ _ ?_
 try clear hK7 K7
 refine qj (b:=decide (i<n)) gz (fun hb9=>?_) (fun hb9=>?_)
 ·skip
  simp only[decide_eq_true_eq] at hb9
  have hw:=qF i oz
  have hb9i:(i:Int)<n:=oz
  have hb9s:i+1<=n:=oz
  obtain ⟨c,r,hd⟩:=bV_ix (b:=b) (i:=i) oz
  refine ql ?_
  refine hK6 _ _ ?_
  try clear hK6 K6
  refine qg (fun K8 hK8=>?_)
  refine qm ?_
  refine qg (fun K9 hK9=>?_)
  refine qJ mixed kz ?_
  simp[go_sem,e0,e1,e5,hd,hb9,hb9i,hb9s,hLb]
  refine hK9 _ _ ?_
  try clear hK9 K9
  refine qj (b:=false) gz (fun h=>by cases h) (fun _=>?_)
  refine ql ?_
  refine hK8 _ _ ?_
  try clear hK8 K8
  refine qi kz ?_
  simp[go_sem,e5,hw]
  exact ⟨n-(i+1),oz,i+1,rfl,oz,by simp[go_sem,e0],by simp[go_sem,e1],by simp[go_sem,hw]⟩
 ·skip
  simp only[decide_eq_false_iff_not] at hb9
  refine qy ?_
  refine hK4 _ _ ?_
  try clear hK4 K4
  refine qg (fun K10 hK10=>?_)
  refine qi kz ?_
  simp[go_sem]
  refine hK10 _ _ ?_
  try clear hK10 K10
  refine qx ?_
  simp only[go_sem]
  refine hR _ _ ?_
  exact qG gz (qP _) (Nat.zero_le _) gz
theorem Same_H (b:List UInt8) (hl:b.length<=1000000) (H:Heap):SCalls Tryz.prog 17 [bA b,bA b] H (.bool true) H:=qO (Same_s b hl) (by simp[qgu]) gz H
def Own (O:Nat->Prop) (H:Heap) (D:Nat) (h:List UInt8):Prop := ∃ x,O D/\H.get D=some [.bool true,x]/\((x = .nil/\h = []) \/ ∃ q pre,O q/\q≠D/\x = .ms q pre.length h.length 1/\H.get q=some (pre++bV h))/\h.length<=32768 /\ ∀ z,O z->z<H.next
theorem Own.to {O:Nat->Prop} {H:Heap} {D:Nat} {h:List UInt8} (k:Own O H D h):KeepS (fun z=>z<H.next /\ ¬ O z) H D h:=by
 obtain ⟨x,h1,h2,h3,h4,_⟩:=k
 refine ⟨x,fun e=>e.2 h1,h2,?_,h4,fun z hz=>hz.1⟩
 rcases h3 with h3 | ⟨q,pre,k1,k2,k3,k4⟩
 ·exact .inl h3
 ·exact .inr ⟨q,pre,fun e=>e.elim (fun e=>e.2 k1) k2,k3,k4⟩
theorem Own.of {S:Nat->Prop} {H:Heap} {D:Nat} {h:List UInt8} (k:KeepS S H D h):Own (fun z=>z<H.next /\ ¬ S z) H D h:=by
 obtain ⟨x,h1,h2,h3,h4,_⟩:=k
 refine ⟨x,⟨Heap.lt_of_get h2,h1⟩,h2,?_,h4,fun z hz=>hz.1⟩
 rcases h3 with h3 | ⟨q,pre,k1,k2,k3⟩
 ·exact .inl h3
 ·exact .inr ⟨q,pre,⟨Heap.lt_of_get k3,fun e=>k1 (.inl e)⟩,fun e=>k1 (.inr e),k2,k3⟩
theorem Own.lt {O:Nat->Prop} {H:Heap} {D:Nat} {h:List UInt8} (k:Own O H D h) : ∀ z,O z->z<H.next:=by
 obtain ⟨_,_,_,_,_,k⟩:=k
 exact k
theorem Own.keep {O S:Nat->Prop} {H H' : Heap} {D:Nat} {h:List UInt8} (k:Own O H D h) (hs:Step S H H') (ho : ∀ z,O z->S z):Own O H' D h:=by
 obtain ⟨x,h1,h2,h3,h4,h5⟩:=k
 refine ⟨x,h1,hs.get h2 (ho _ h1),?_,h4,fun z hz=>Nat.lt_of_lt_of_le (h5 z hz) hs.le⟩
 rcases h3 with h3 | ⟨q,pre,k1,k2,k3,k4⟩
 ·exact .inl h3
 ·exact .inr ⟨q,pre,k1,k2,k3,hs.get k4 (ho _ k1)⟩
theorem Own.new {O:Nat->Prop} {H H' : Heap} {D:Nat} {h:List UInt8} (k:Own O H D h) (hs:Step (fun z=>z<H.next) H H'):Own O H' D h:=k.keep hs k.lt
structure OStep (O O' : Nat->Prop) (H H' : Heap):Prop where
 step:Step (fun z=>z<H.next /\ ¬ O z) H H'
 own : ∀ z,O' z->z<H.next->O z
theorem OStep.other {O O' O2:Nat->Prop} {H H' : Heap} {D:Nat} {h:List UInt8} (s:OStep O O' H H') (k:Own O2 H D h) (hd : ∀ z,O z -> ¬ O2 z):Own O2 H' D h /\ ∀ z,O' z -> ¬ O2 z :=
 ⟨k.keep s.step fun z hz=>⟨k.lt z hz,fun e=>hd z e hz⟩,fun z h1 h2=>hd z (s.own z h1 (k.lt z h2)) h2⟩
theorem own_op {f:FuncId} {args:List AV} {H:Heap} {D:Nat} {O:Nat->Prop} {h' : List UInt8} {v:AV} (hc:SCallsP Tryz.prog f args H (fun r H'=>r=v/\KeepS (fun z=>z<H.next /\ ¬ O z) H' D h' /\ Step (fun z=>z<H.next /\ ¬ O z) H H')):SCallsP Tryz.prog f args H (fun r H'=>r=v /\ ∃ O',Own O' H' D h' /\ OStep O O' H H') :=
 hc.mono fun r H' _ ⟨h1,h2,h3⟩=>⟨h1,_,.of h2,h3,fun z hz hl=>Classical.byContradiction fun e=>hz.2 ⟨hl,e⟩⟩
theorem qpb {f:FuncId} {args:List AV} {H:Heap} (hc:SCallsP Tryz.prog f args H (fun r H' => ∃ D,r = .ptr D 0/\KeepS (fun z=>z<H.next) H' D []/\Step (fun z=>z<H.next) H H')):SCallsP Tryz.prog f args H (fun r H' => ∃ D O,r = .ptr D 0/\Own O H' D []/\(∀ z,O z->H.next<=z)/\Step (fun z=>z<H.next) H H') :=
 hc.mono fun r H' _ ⟨D,h1,h2,h3⟩=>⟨D,_,h1,.of h2,fun z hz=>Nat.le_of_not_lt hz.2,h3⟩
section
variable {O:Nat->Prop} {H:Heap} {D:Nat} {h b:List UInt8}
theorem dNew_o (H:Heap):SCallsP Tryz.prog 9 [] H (fun r H' => ∃ D O,r = .ptr D 0/\Own O H' D []/\(∀ z,O z->H.next<=z)/\Step (fun z=>z<H.next) H H'):=qpb (dNew_p H)
theorem fNew_o (H:Heap):SCallsP Tryz.prog 14 [] H (fun r H' => ∃ D O,r = .ptr D 0/\Own O H' D []/\(∀ z,O z->H.next<=z)/\Step (fun z=>z<H.next) H H'):=qpb (fNew_p H)
theorem dAdd_o (hb:b.length<=10000) (k:Own O H D h):SCallsP Tryz.prog 12 [.ptr D 0,bA b] H (fun r H'=>r = .tup [] /\ ∃ O',Own O' H' D (lastW (h++b))/\OStep O O' H H'):=own_op (dAdd_p hb k.to)
theorem fAdd_o (hb:b.length<=10000) (k:Own O H D h):SCallsP Tryz.prog 15 [.ptr D 0,bA b] H (fun r H'=>r = .tup [] /\ ∃ O',Own O' H' D (lastW (h++b))/\OStep O O' H H'):=own_op (fAdd_p hb k.to)
theorem dReset_o (k:Own O H D h):SCallsP Tryz.prog 13 [.ptr D 0] H (fun r H'=>r = .tup [] /\ ∃ O',Own O' H' D ([])/\OStep O O' H H'):=own_op (dReset_p k.to)
theorem fReset_o (k:Own O H D h):SCallsP Tryz.prog 20 [.ptr D 0] H (fun r H'=>r = .tup [] /\ ∃ O',Own O' H' D ([])/\OStep O O' H H'):=own_op (fReset_p k.to)
theorem qiv (h0:0<b.length) (hb:b.length<=10000) (k:Own O H D h):SCallsP Tryz.prog 10 [.ptr D 0,bA b] H (fun r H'=>r=bA (packOf h b) /\ ∃ O',Own O' H' D (lastW (h++b))/\OStep O O' H H'):=own_op (Packet_p h0 hb k.to)
theorem qiw (hb:b.length<=10000) {mo:Nat} (hm:b.length<=mo) (h7:mo<=1000000) (k:Own O H D h):SCallsP Tryz.prog 16 [.ptr D 0,bA (packOf h b),.int mo] H (fun r H'=>r = .tup [bA b,.int 0] /\ ∃ O',Own O' H' D (lastW (h++b))/\OStep O O' H H'):=own_op (qn2 hb hm h7 k.to)
theorem dLen_o (k:Own O H D h):SCalls Tryz.prog 11 [.ptr D 0] H (.int (h.length:Nat)) H:=dLen_w k.to
theorem fLen_o (k:Own O H D h):SCalls Tryz.prog 18 [.ptr D 0] H (.int (h.length:Nat)) H:=fLen_w k.to
end
theorem qix {O:Nat->Prop} {H:Heap} {D:Nat} {h:List UInt8} (k:Own O H D h):SCalls Tryz.prog 10 [.ptr D 0,.vs 0 1 []] H .nil H:=by
 obtain ⟨x,_,gD,_,_,_⟩:=k
 refine qE (sz:=33) (Tryz.call10) Tryz.func10 rfl (Nat.le_refl _) kz (fun R hR=>?_)
 refine qg (fun K1 hK1=>?_)
 refine qi kz ?_
 simp[go_sem]
 refine hK1 _ _ ?_
 try clear hK1 K1
 refine qg (fun K2 hK2=>?_)
 refine qg (fun K3 hK3=>?_)
 refine qi kz ?_
 simp[go_sem,gD]
 refine hK3 _ _ ?_
 try clear hK3 K3
 refine qj (b:=true) gz (fun _=>?_) (fun h=>by cases h)
 refine qg (fun K4 hK4=>?_)
 refine qi kz ?_
 simp[go_sem]
 refine hK4 _ _ ?_
 try clear hK4 K4
 refine qx ?_
 simp only[go_sem]
 refine hR _ _ ?_
 exact qG gz (Heap.le_refl _) (Nat.le_refl _) gz
end Go.Proofs.YtfokgjhdndnnhaaGreatDoor
end W54S
set_option maxRecDepth 20000
noncomputable section X1S
namespace Go.Proofs.YtfokgjhdndnnhaaGreatDoor
open Go Go.Fl Go.Proofs
theorem qac (k:Nat) (h:k<4294967296):IntKind.u64.wrap (k:Int)=k:=by
 unfold IntKind.wrap
 simp[IntKind.bits,IntKind.signed]
 omega
def bitV (l:List Bool):List AV:=l.map fun x=>.sc (.int .u8 (x.toNat:Nat))
theorem qdm (l:List Bool):(bitV l).length=l.length:=by simp[bitV]
theorem bitV_lt (l:List Bool) (n:Nat) : ∀ x∈bitV l,x.Lt n:=by
 intro x hx
 obtain ⟨y,_,rfl⟩:=List.mem_map.1 hx
 exact .sc _
theorem bitV_at {l:List Bool} {i:Nat} (h:i<l.length) : ∃ r,(bitV l).drop i = .sc (.int .u8 (((l.getD i false).toNat:Nat):Int))::r:=by
 refine ⟨bitV (l.drop (i+1)),?_⟩
 unfold bitV
 rw[<- List.map_drop,List.drop_eq_getElem_cons h,List.getD_eq_getElem?_getD,List.getElem?_eq_getElem h]
 rfl
def DBits (H:Heap) (rb q:Nat) (b:List UInt8) (p:Nat):Prop:=H.get rb=some [.ms q 0 (8*b.length) 1,.int p,.bool false]/\H.get q=some (bitV (unpack b))/\rb≠q/\b.length<=100000
theorem qj3 {b:List UInt8} {p n:Nat} (h:p+n<8*b.length):bitsAt b p (n+1)=bitsAt b p n+((unpack b).getD (p+n) false).toNat*2^n:=by
 rw[qem h,List.getD_eq_getElem?_getD,qaq b (p+n) h,Nat.mul_comm]
 congr 2
 generalize (gB b ((p+n)/8)).toNat/2^((p+n)%8)=y
 rcases (by omega:y%2=0\/y%2=1) with h0 | h0 <;> simp[h0]
theorem qmu {b:List UInt8} {p k n:Nat} (hb:b.length<=100000) (hp:p+n<=8*b.length) (hk:k<n) (hn:n<=32) : ∃ i bt x0 z0:Nat,
  IntKind.i64.wrap ((p:Int)+(k:Int))=(i:Int)/\(∃ r,(bitV (unpack b)).drop i = .sc (.int .u8 (bt:Int))::r)/\i<8*b.length/\IntKind.i64.wrap (bt:Int)=(bt:Int)/\bshl .i64 (bt:Int) (k:Int)=(z0:Int) /\
  bits .or .i64 (x0:Int) (z0:Int)=((x0+z0:Nat):Int)/\bitsAt b p k=x0/\bitsAt b p (k+1)=x0+z0/\bt<2:=by
 have hb2:((unpack b).getD (p+k) false).toNat<2:=by cases (unpack b).getD (p+k) false <;> decide
 have hk3:k<=32:=oz
 refine ⟨p+k,_,bitsAt b p k,_,by rw[i64in _ oz oz]; omega,bitV_at (by rw[zo]; omega),oz,i64in _ oz oz,qo0 hb2 hk3,or_bit hb2 hk3 (qbz b p k),rfl,qj3 oz,hb2⟩
theorem qes {H:Heap} {rb q p:Nat} {b:List UInt8} (gB:DBits H rb q b p) (hp:p<=8*b.length):SCalls Tryz.prog 33 [.ptr rb 0] H (.int ((8*b.length-p:Nat):Int)) H:=by
 obtain ⟨gR,gQ,nq,hb⟩:=gB
 obtain ⟨N,hN⟩ : ∃ z,8*b.length=z:=⟨_,rfl⟩
 have hbL:(bitV (unpack b)).length=N:=by rw[qdm,zo,hN]
 rw[hN] at gR
 rw[hN] at hp |-
 have w2:IntKind.i64.wrap ((N:Int)-p)=((N-p:Nat):Int):=by rw[i64in _ oz oz]; omega
 refine qE (sz:=13) (Tryz.call33) Tryz.func33 rfl (Nat.le_refl _) kz (fun R hR=>?_)
 refine qg (fun K1 hK1=>?_)
 refine qi kz ?_
 simp[go_sem]
 refine hK1 _ _ ?_
 try clear hK1 K1
 refine qg (fun K2 hK2=>?_)
 refine qJ mixed kz ?_
 simp[go_sem,gR,w2]
 refine hK2 _ _ ?_
 try clear hK2 K2
 refine qx ?_
 simp only[go_sem]
 refine hR _ _ ?_
 exact qG gz (Heap.le_refl _) (Nat.le_refl _) gz
theorem qiy {H:Heap} {rb q p:Nat} {b:List UInt8} (gB:DBits H rb q b p) {n:Nat} (hp:p+n<=8*b.length) (hn:n<=32):SCalls Tryz.prog 113 [.ptr rb 0,.int n] H (.int (bitsAt b p n:Nat)) H:=by
 obtain ⟨gR,gQ,nq,hb⟩:=gB
 obtain ⟨N,hN⟩ : ∃ z,8*b.length=z:=⟨_,rfl⟩
 have hbL:(bitV (unpack b)).length=N:=by rw[qdm,zo,hN]
 rw[hN] at gR
 refine qE (sz:=53) (Tryz.call113) Tryz.func113 rfl (Nat.le_refl _) kz (fun R hR=>?_)
 refine qg (fun K1 hK1=>?_)
 refine qi kz ?_
 simp[go_sem]
 refine hK1 _ _ ?_
 try clear hK1 K1
 refine qg (fun K2 hK2=>?_)
 refine qi kz ?_
 simp[go_sem]
 refine hK2 _ _ ?_
 try clear hK2 K2
 refine qg (fun K3 hK3=>?_)
 refine qg (fun K4 hK4=>?_)
 refine qi kz ?_
 simp[go_sem]
 refine hK4 _ _ ?_
 try clear hK4 K4
 refine qm ?_
 refine qC (Inv:=fun n0 env H2 => ∃ k:Nat,n0=n-k/\k<=n/\env 0 = .ptr rb 0/\env 1 = .int n/\env 5 = .int (bitsAt b p k:Nat)/\env 6 = .int k/\H2=H) ?_ (n:=n) (⟨0,rfl,oz,gz,gz,by simp[go_sem]; rfl,gz,rfl⟩)
 rintro n0 env _ ⟨k,rfl,hk,e0,e1,e5,e6,rfl⟩
 refine qg (fun K5 hK5=>?_)
 refine qg (fun K6 hK6=>?_)
 refine qi kz ?_
 simp[go_sem,e1,e6]
 refine hK6 _ _ ?_
 try clear hK6 K6
 refine qj (b:=decide ((k:Int)<(n:Int))) gz (fun hb9=>?_) (fun hb9=>?_)
 ·skip
  simp only[decide_eq_true_eq] at hb9
  have hb9:k<n:=oz
  have hw:=qF k oz
  obtain ⟨i,bt,x0,z0,w1,⟨r,dr⟩,li,wb,k0,k1,xk,k2,lb⟩:=qmu hb hp hb9 hn
  rw[hN] at li
  rw[xk] at e5
  have li1:(i:Int)<N:=oz
  have li2:i+1<=N:=oz
  have wu:=qac k oz
  refine ql ?_
  refine hK5 _ _ ?_
  try clear hK5 K5
  refine qg (fun K7 hK7=>?_)
  refine qm ?_
  refine qg (fun K8 hK8=>?_)
  refine qi kz ?_
  simp[go_sem]
  refine hK8 _ _ ?_
  try clear hK8 K8
  refine qg (fun K9 hK9=>?_)
  refine qg (fun K10 hK10=>?_)
  refine qJ mixed kz ?_
  simp[go_sem,e0,e6,gR,w1,li1,li]
  refine hK10 _ _ ?_
  try clear hK10 K10
  refine qj (b:=true) (by simp[go_sem,li1,li]) (fun _=>?_) (fun h=>by cases h)
  refine qJ mixed kz ?_
  simp[go_sem,e0,e6,gR,gQ,w1,dr,hbL,li1,li2,li,wb]
  refine hK9 _ _ ?_
  try clear hK9 K9
  refine qg (fun K11 hK11=>?_)
  refine qi kz ?_
  simp[go_sem,e0,gR]
  refine hK11 _ _ ?_
  try clear hK11 K11
  refine qj (b:=false) gz (fun h=>by cases h) (fun _=>?_)
  refine qi kz ?_
  refine qI 3 (fun K12 hK12=>?_)
  simp[go_sem,e5,e6,wu,k0,k1]
  refine hK12 _ _ ?_
  clear hK12 K12
  refine qI 1 (fun K13 hK13=>?_)
  simp[go_sem,e5,e6,wu,k0,k1]
  refine hK13 _ _ ?_
  clear hK13 K13
  refine qI 1 (fun K14 hK14=>?_)
  simp[go_sem,e5,e6,wu,k0,k1]
  refine hK14 _ _ ?_
  clear hK14 K14
  refine qI 1 (fun K15 hK15=>?_)
  simp[go_sem,e5,e6,wu,k0,k1]
  refine hK15 _ _ ?_
  clear hK15 K15
  simp[go_sem,e5,e6,wu,k0,k1]
  refine hK7 _ _ ?_
  try clear hK7 K7
  refine qo (fun K16 hK16=>?_)
  refine qi kz ?_
  simp[go_sem,e6,hw]
  refine hK16 _ _ ?_
  exact ⟨n-(k+1),oz,k+1,rfl,oz,by simp[go_sem,e0],by simp[go_sem,e1],by simp[go_sem,k2],gz,rfl⟩
 ·skip
  simp only[decide_eq_false_iff_not] at hb9
  obtain rfl:k=n:=oz
  refine qy ?_
  refine hK3 _ _ ?_
  try clear hK3 K3
  refine qg (fun K17 hK17=>?_)
  refine qi kz ?_
  simp[go_sem,e5]
  refine hK17 _ _ ?_
  try clear hK17 K17
  refine qx ?_
  simp only[go_sem]
  refine hR _ _ ?_
  exact qG gz (Heap.le_refl _) (Nat.le_refl _) gz
theorem qpc {H:Heap} {rb q p:Nat} {b:List UInt8} (gB:DBits H rb q b p) {n:Nat} (hp:p+n<=8*b.length) (hn:n<=32):SCallsP Tryz.prog 91 [.ptr rb 0,.int n] H (fun r H'=>r = .tup [.int (bitsAt b p n:Nat),.bool true]/\DBits H' rb q b (p+n)/\Step (fun z=>z≠rb) H H'):=by
 have cl:=qes gB oz
 have cn:=qiy gB hp hn
 obtain ⟨gR,gQ,nq,hb⟩:=gB
 obtain ⟨N,hN⟩ : ∃ z,8*b.length=z:=⟨_,rfl⟩
 have hbL:(bitV (unpack b)).length=N:=by rw[qdm,zo,hN]
 rw[hN] at gR
 have f1 : ¬ ((n:Int)<0):=oz
 have f2 : ¬ ((32:Int)<n):=oz
 have f3 : ¬ (((8*b.length-p:Nat):Int)<n):=oz
 obtain ⟨lf,hlf⟩ : ∃ z,8*b.length-p=z:=⟨_,rfl⟩
 rw[hlf] at cl f3
 have wp:IntKind.i64.wrap ((p:Int)+n)=(p:Int)+n:=i64in _ oz oz
 refine qA (sz:=32) (Tryz.call91) Tryz.func91 rfl kz (fun R hR=>?_)
 refine qg (fun K1 hK1=>?_)
 refine qi kz ?_
 simp[go_sem]
 refine hK1 _ _ ?_
 try clear hK1 K1
 refine qg (fun K2 hK2=>?_)
 refine qg (fun K3 hK3=>?_)
 refine qi kz ?_
 refine qI 10 (fun K4 hK4=>?_)
 simp[go_sem,f1,f2,f3]
 refine ⟨_,_,cl,?_⟩
 refine hK4 _ _ ?_
 clear hK4 K4
 simp[go_sem,f1,f2,f3]
 refine hK3 _ _ ?_
 try clear hK3 K3
 refine qj (b:=false) (by simp[go_sem,f3]) (fun h=>by cases h) (fun _=>?_)
 refine ql ?_
 refine hK2 _ _ ?_
 try clear hK2 K2
 refine qg (fun K5 hK5=>?_)
 refine qi kz ?_
 refine qI 3 (fun K6 hK6=>?_)
 simp[go_sem]
 refine ⟨_,_,cn,?_⟩
 refine hK6 _ _ ?_
 clear hK6 K6
 simp[go_sem]
 refine hK5 _ _ ?_
 try clear hK5 K5
 refine qg (fun K7 hK7=>?_)
 refine qo (fun K8 hK8=>?_)
 refine qi kz ?_
 simp[go_sem,gR,wp]
 refine hK8 _ _ ?_
 refine hK7 _ _ ?_
 try clear hK7 K7
 refine qg (fun K9 hK9=>?_)
 refine qi kz ?_
 simp[go_sem]
 refine hK9 _ _ ?_
 try clear hK9 K9
 refine qx ?_
 simp only[go_sem]
 refine hR _ _ ?_
 have hS:Step (fun z=>z≠rb) H (H.set rb [.ms q 0 N 1,.int ((p:Int)+n),.bool false]):=(Step.refl _ _).set (fun h=>h rfl) (by simp[go_sem]; exact Heap.lt_of_get gQ)
 refine hS.retP (r:=.tup [.int (bitsAt b p n:Nat),.bool true]) gz ⟨rfl,⟨by rw[Heap.get_set,if_pos rfl,gR,hN]; push_cast; rfl,by rw[Heap.get_set,if_neg (fun e=>nq e.symm)]; exact gQ,nq,hb⟩,hS⟩ gz
theorem dalign_p {H:Heap} {rb q p:Nat} {b:List UInt8} (gB:DBits H rb q b p) (hp:p<=8*b.length):SCallsP Tryz.prog 92 [.ptr rb 0] H (fun r H'=>r = .tup []/\DBits H' rb q b ((p+7)/8*8)/\Step (fun z=>z≠rb) H H'):=by
 obtain ⟨gR,gQ,nq,hb⟩:=gB
 obtain ⟨N,hN⟩ : ∃ z,8*b.length=z:=⟨_,rfl⟩
 have hbL:(bitV (unpack b)).length=N:=by rw[qdm,zo,hN]
 rw[hN] at gR
 obtain ⟨p8,hp8⟩ : ∃ z,(p+7)/8=z:=⟨_,rfl⟩
 have w1:IntKind.i64.wrap ((p:Int)+7)=((p+7:Nat):Int):=by rw[i64in _ oz oz]; omega
 have d8:((p:Int)+7).tdiv 8=(p8:Int):=by rw[show (p:Int)+7=((p+7:Nat):Int) by omega,tdiv8,hp8]
 have wq:IntKind.i64.wrap (p8:Int)=(p8:Int):=i64in _ oz oz
 have w8:IntKind.i64.wrap ((p8:Int)*8)=((p8*8:Nat):Int):=by rw[i64in _ oz oz]; omega
 rw[hp8]
 refine qA (sz:=12) (Tryz.call92) Tryz.func92 rfl kz (fun R hR=>?_)
 refine qo (fun K1 hK1=>?_)
 refine qi kz ?_
 simp[go_sem,gR,w1,d8,wq,w8]
 refine hK1 _ _ ?_
 refine hR _ _ ?_
 have hS:Step (fun z=>z≠rb) H (H.set rb [.ms q 0 N 1,.int ((p8:Int)*8),.bool false]):=(Step.refl _ _).set (fun h=>h rfl) (by simp[go_sem]; exact Heap.lt_of_get gQ)
 exact hS.retP (r:=.tup []) gz ⟨rfl,⟨by rw[Heap.get_set,if_pos rfl,gR,hN]; push_cast; rfl,by rw[Heap.get_set,if_neg (fun e=>nq e.symm)]; exact gQ,nq,hb⟩,hS⟩ gz
end Go.Proofs.YtfokgjhdndnnhaaGreatDoor
end X1S
set_option maxRecDepth 20000
noncomputable section X2S
namespace Go.Proofs.YtfokgjhdndnnhaaGreatDoor
open Go Go.Fl Go.Proofs
def dtabA (l:List Nat):AV:=.ep [iA l,iA (codesL l)]
theorem yO (l:List Nat) (n:Nat):(dtabA l).Lt n=True:=by unfold dtabA; simp[go_sem,zI]
theorem yF (l:List Nat) (i:Nat):(codesL l).getD i 0=if l.getD i 0=0 then 0 else codeOf l i:=by
 unfold codesL
 rw[List.getD_eq_getElem?_getD,List.getElem?_map]
 rcases Nat.lt_or_ge i l.length with h | h
 ·rw[List.getElem?_range h]; rfl
 ·rw[List.getElem?_eq_none (by simpa using h)]
  rw[if_pos (by rw[List.getD_eq_getElem?_getD,List.getElem?_eq_none h]; rfl)]
  rfl
theorem qli {l:List Nat} {i s v:Nat} (h:i<s) (hi:l[i]? = some v):(l.take i).count v<(l.take s).count v:=by
 have h1:l.take s=l.take (i+1)++(l.take s).drop (i+1):=by
  conv=>lhs; rw[<- List.take_append_drop (i+1) (l.take s)]
  rw[List.take_take,Nat.min_eq_left oz]
 have h2:l.take (i+1)=l.take i ++ [v]:=by rw[List.take_add_one,hi]; rfl
 rw[h1,List.count_append,h2,List.count_append]
 simp
 omega
theorem qfx {l:List Nat} {i v:Nat} (h:l.getD i 0=v) (h0:0<v):l[i]? = some v:=by
 have:=zX (l:=l) (s:=i) oz
 rw[List.getElem?_eq_getElem this,<- qU this,h]
theorem code_inj {l:List Nat} {i s:Nat} (hi:l.getD i 0=l.getD s 0) (h:0<l.getD s 0) (hc:codeOf l i=codeOf l s):i=s:=by
 unfold codeOf idxL at hc
 rw[hi] at hc
 rcases Nat.lt_trichotomy i s with h1 | h1 | h1
 ·have:=qli h1 (qfx hi h); omega
 ·exact h1
 ·have:=qli h1 (qfx rfl h); omega
def begGo (l:List Nat) (code n:Nat):Nat->Nat->Bool->Bool × Int
 | 0,_,any=>(any,-1)
 | f+1,i,any=>if n<=l.getD i 0/\(codesL l).getD i 0/2^(l.getD i 0-n)=code then (if l.getD i 0=n then (true,(i:Int)) else begGo l code n f (i+1) true) else begGo l code n f (i+1) any
theorem qpd {l:List Nat} {s:Nat} (h:0<l.getD s 0) : ∀ (f i:Nat) (any:Bool),i<=s->s<i+f->begGo l (codeOf l s) (l.getD s 0) f i any=(true,(s:Int))
 | 0,i,any,h1,h2=>by omega
 | f+1,i,any,h1,h2=>by
  simp only[begGo]
  by_cases hi:i=s
  ·subst hi
   rw[if_pos ⟨Nat.le_refl _,by rw[Nat.sub_self,yF,if_neg oz,Nat.pow_zero,Nat.div_one]⟩,if_pos rfl]
  ·have ih:=fun any=>qpd h f (i+1) any oz oz
   split
   ·rename_i hh
    by_cases hl:l.getD i 0=l.getD s 0
    ·exfalso
     have h3:=hh.2
     rw[hl,Nat.sub_self,yF,if_neg oz,Nat.pow_zero,Nat.div_one] at h3
     exact hi (code_inj hl h h3)
    ·rw[if_neg hl]; exact ih _
   ·exact ih _
theorem qj4 {l:List Nat} {s n:Nat} (h0:0<n) (h:n<l.getD s 0) : ∀ (f i:Nat) (any:Bool),any=true\/(i<=s/\s<i+f)->begGo l (codeOf l s/2^(l.getD s 0-n)) n f i any=(true,-1)
 | 0,i,any,h1=>by
  rcases h1 with rfl | h1
  ·rfl
  ·omega
 | f+1,i,any,h1=>by
  simp only[begGo]
  split
  ·rename_i hh
   by_cases hl:l.getD i 0=n
   ·exfalso
    have h3:=hh.2
    rw[hl,Nat.sub_self,yF,if_neg oz,Nat.pow_zero,Nat.div_one] at h3
    have h4:=qgm l s n h
    have h5:=qei l i oz
    rw[hl] at h5
    unfold codeOf at h3
    rw[hl] at h3
    unfold codeOf at h4
    omega
   ·rw[if_neg hl]; exact qj4 h0 h f (i+1) true (.inl rfl)
  ·rename_i hh
   refine qj4 h0 h f (i+1) any ?_
   rcases h1 with h1 | h1
   ·exact .inl h1
   ·rcases Nat.lt_or_ge i s with h2 | h2
    ·exact .inr oz
    ·exfalso
     obtain rfl:i=s:=oz
     exact hh ⟨oz,by rw[yF,if_neg oz]⟩
theorem qlj {l:List Nat} (hk:LensOk l) : ∀ (f i:Nat) (any:Bool),any=true\/0<f -> ∃ v:Int,begGo l 0 0 f i any=(true,v)
 | 0,i,any,h1=>by
  rcases h1 with rfl | h1
  ·exact ⟨_,rfl⟩
  ·omega
 | f+1,i,any,h1=>by
  simp only[begGo]
  rw[if_pos ⟨Nat.zero_le _,by
   rw[yF,Nat.sub_zero]
   split
   ·simp
   ·exact Nat.div_eq_of_lt (hk.code oz)⟩]
  split
  ·exact ⟨_,rfl⟩
  ·exact qlj hk f (i+1) true (.inl rfl)
theorem qgs {l:List Nat} (hk:LensOk l) {code n:Nat} {R1:Bool} {R2:Int} (hB:begGo l code n l.length 0 false=(R1,R2)) (hl:l.length<=100000) (hn:n<=15) (H:Heap):SCalls Tryz.prog 121 [dtabA l,.int code,.int n] H (.tup [.bool R1,.int R2]) H:=by
 unfold dtabA iA
 rw[zQ]
 obtain ⟨N,hN⟩ : ∃ z,l.length=z:=⟨_,rfl⟩
 rw[hN] at hB hl |-
 have hL1:(iV l).length=N:=by rw[qK,hN]
 have hL2:(iV (codesL l)).length=N:=by rw[qK,zQ,hN]
 refine qE (sz:=61) (Tryz.call121) Tryz.func121 rfl (Nat.le_refl _) kz (fun R hR=>?_)
 refine qg (fun K1 hK1=>?_)
 refine qi kz ?_
 simp[go_sem]
 refine hK1 _ _ ?_
 try clear hK1 K1
 refine qg (fun K2 hK2=>?_)
 refine qi kz ?_
 simp[go_sem]
 refine hK2 _ _ ?_
 try clear hK2 K2
 refine qg (fun K3 hK3=>?_)
 refine qg (fun K4 hK4=>?_)
 refine qi kz ?_
 simp[go_sem]
 refine hK4 _ _ ?_
 try clear hK4 K4
 refine qm ?_
 refine qC (Inv:=fun m0 env H2 => ∃ (i:Nat) (any:Bool),m0=N-i/\i<=N/\begGo l code n (N-i) i any=(R1,R2)/\env 0 = .ep [.vs N 1 (iV l),.vs N 1 (iV (codesL l))]/\env 1 = .int code/\env 2 = .int n/\env 8 = .bool any/\env 9 = .int i/\H2=H) ?_ (n:=N) (⟨0,false,rfl,oz,hB,gz,gz,gz,gz,gz,rfl⟩)
 clear hB
 rintro m0 env _ ⟨i,any,rfl,hi,hB,e0,e1,e2,e8,e9,rfl⟩
 refine qg (fun K5 hK5=>?_)
 refine qg (fun K6 hK6=>?_)
 refine qi kz ?_
 simp[go_sem,e0,e9]
 refine hK6 _ _ ?_
 try clear hK6 K6
 refine qj (b:=decide ((i:Int)<(N:Int))) gz (fun hb9=>?_) (fun hb9=>?_)
 ·skip
  simp only[decide_eq_true_eq] at hb9
  have hb9:i<N:=oz
  have hw:=qF i oz
  obtain ⟨f,hf⟩ : ∃ f,N-i=f+1:=⟨N-i-1,oz⟩
  have hf2:N-(i+1)=f:=oz
  rw[hf] at hB
  simp only[begGo] at hB
  obtain ⟨rl,dl⟩:=qX (l:=l) (i:=i) oz
  obtain ⟨rc,dc⟩:=qX (l:=codesL l) (i:=i) (by rw[zQ]; omega)
  have hL15:=hk.le i
  have hCi:(codesL l).getD i 0<2^63:=by
   rw[yF]
   split
   ·decide
   ·rename_i h9
    have h1:=hk.code (s:=i) oz
    have h2:2^l.getD i 0<=2^15:=Nat.pow_le_pow_right dz hL15
    omega
  obtain ⟨Li,hLi⟩ : ∃ z,l.getD i 0=z:=⟨_,rfl⟩
  obtain ⟨Ci,hCq⟩ : ∃ z,(codesL l).getD i 0=z:=⟨_,rfl⟩
  rw[hLi] at hB dl hL15
  rw[hCq] at hB dc hCi
  have li1:(i:Int)<N:=oz
  have li2:i+1<=N:=oz
  have hcase:(n<=Li/\Ci/2^(Li-n)=code/\Li=n)\/(n<=Li/\Ci/2^(Li-n)=code /\ ¬ Li=n)\/(n<=Li /\ ¬ Ci/2^(Li-n)=code) \/ ¬ n<=Li:=by
   by_cases k1:n<=Li
   ·by_cases k2:Ci/2^(Li-n)=code
    ·by_cases k3:Li=n
     ·exact .inl ⟨k1,k2,k3⟩
     ·exact .inr (.inl ⟨k1,k2,k3⟩)
    ·exact .inr (.inr (.inl ⟨k1,k2⟩))
   ·exact .inr (.inr (.inr k1))
  refine ql ?_
  refine hK5 _ _ ?_
  try clear hK5 K5
  refine qg (fun K7 hK7=>?_)
  refine qm ?_
  refine qg (fun K8 hK8=>?_)
  rcases hcase with ⟨hq1,hq2,hq3⟩ | ⟨hq1,hq2,hq3⟩ | ⟨hq1,hq2⟩ | hq1
  ·skip
   have f1:(n:Int)<=(Li:Int):=oz
   obtain ⟨kk,hkk⟩ : ∃ z,Li-n=z:=⟨_,rfl⟩
   have wd:IntKind.i64.wrap ((Li:Int)-(n:Int))=(kk:Int):=by rw[i64in _ oz oz]; omega
   have wu:=qac kk oz
   have sh:bshr .i64 (Ci:Int) (kk:Int)=((Ci/2^kk:Nat):Int):=jG Ci kk oz
   rw[hkk] at hq2 hB
   have hR2:(true,(i:Int))=(R1,R2):=by rw[<- hB,if_pos ⟨hq1,hq2⟩,if_pos hq3]
   rw[hq2] at sh
   have f3:((Li:Int)==(n:Int))=true:=by simp; omega
   refine qJ mixed kz ?_
   simp[go_sem,e0,e1,e2,e9,dl,dc,li1,li2,hL1,hL2,f1,wd,wu,sh]
   refine hK8 _ _ ?_
   try clear hK8 K8
   refine qj (b:=true) gz (fun _=>?_) (fun h=>by cases h)
   refine qg (fun K9 hK9=>?_)
   refine qg (fun K10 hK10=>?_)
   refine qi kz ?_
   simp[go_sem,e0,e1,e2,e9,dl,dc,li1,li2,hL1,hL2,f3]
   refine hK10 _ _ ?_
   try clear hK10 K10
   refine qj (b:=true) gz (fun _=>?_) (fun h=>by cases h)
   refine qg (fun K11 hK11=>?_)
   refine qi kz ?_
   simp[go_sem,e9]
   refine hK11 _ _ ?_
   try clear hK11 K11
   refine qx ?_
   simp only[go_sem]
   refine hR _ _ ?_
   cases hR2
   exact qG gz (Heap.le_refl _) (Nat.le_refl _) gz
  ·skip
   have f1:(n:Int)<=(Li:Int):=oz
   obtain ⟨kk,hkk⟩ : ∃ z,Li-n=z:=⟨_,rfl⟩
   have wd:IntKind.i64.wrap ((Li:Int)-(n:Int))=(kk:Int):=by rw[i64in _ oz oz]; omega
   have wu:=qac kk oz
   have sh:bshr .i64 (Ci:Int) (kk:Int)=((Ci/2^kk:Nat):Int):=jG Ci kk oz
   rw[hkk] at hq2 hB
   have hR2:begGo l code n (N-(i+1)) (i+1) true=(R1,R2):=by rw[hf2,<- hB,if_pos ⟨hq1,hq2⟩,if_neg hq3]
   rw[hq2] at sh
   have f3:((Li:Int)==(n:Int))=false:=by simp; omega
   refine qJ mixed kz ?_
   simp[go_sem,e0,e1,e2,e9,dl,dc,li1,li2,hL1,hL2,f1,wd,wu,sh]
   refine hK8 _ _ ?_
   try clear hK8 K8
   refine qj (b:=true) gz (fun _=>?_) (fun h=>by cases h)
   refine qg (fun K12 hK12=>?_)
   refine qg (fun K13 hK13=>?_)
   refine qi kz ?_
   simp[go_sem,e0,e1,e2,e9,dl,dc,li1,li2,hL1,hL2,f3]
   refine hK13 _ _ ?_
   try clear hK13 K13
   refine qj (b:=false) gz (fun h=>by cases h) (fun _=>?_)
   refine ql ?_
   refine hK12 _ _ ?_
   try clear hK12 K12
   refine qi kz ?_
   simp[go_sem]
   refine hK7 _ _ ?_
   try clear hK7 K7
   refine qo (fun K14 hK14=>?_)
   refine qi kz ?_
   simp[go_sem,e9,hw]
   refine hK14 _ _ ?_
   exact ⟨N-(i+1),oz,i+1,_,rfl,oz,hR2,by simp[go_sem,e0],by simp[go_sem,e1],by simp[go_sem,e2],by simp[go_sem,e8],gz,rfl⟩
  ·skip
   have f1:(n:Int)<=(Li:Int):=oz
   obtain ⟨kk,hkk⟩ : ∃ z,Li-n=z:=⟨_,rfl⟩
   have wd:IntKind.i64.wrap ((Li:Int)-(n:Int))=(kk:Int):=by rw[i64in _ oz oz]; omega
   have wu:=qac kk oz
   have sh:bshr .i64 (Ci:Int) (kk:Int)=((Ci/2^kk:Nat):Int):=jG Ci kk oz
   rw[hkk] at hq2 hB
   have hR2:begGo l code n (N-(i+1)) (i+1) any=(R1,R2):=by rw[hf2,<- hB,if_neg (fun e=>hq2 e.2)]
   obtain ⟨yy,hyy⟩ : ∃ z,Ci/2^kk=z:=⟨_,rfl⟩
   rw[hyy] at sh hq2
   have f3:((yy:Int)==(code:Int))=false:=by simp; omega
   refine qJ mixed kz ?_
   simp[go_sem,e0,e1,e2,e9,dl,dc,li1,li2,hL1,hL2,f1,wd,wu,sh,f3]
   refine hK8 _ _ ?_
   try clear hK8 K8
   refine qj (b:=false) gz (fun h=>by cases h) (fun _=>?_)
   refine ql ?_
   refine hK7 _ _ ?_
   try clear hK7 K7
   refine qo (fun K15 hK15=>?_)
   refine qi kz ?_
   simp[go_sem,e9,hw]
   refine hK15 _ _ ?_
   exact ⟨N-(i+1),oz,i+1,_,rfl,oz,hR2,by simp[go_sem,e0],by simp[go_sem,e1],by simp[go_sem,e2],by simp[go_sem,e8],gz,rfl⟩
  ·skip
   have f1 : ¬ ((n:Int)<=(Li:Int)):=oz
   have hR2:begGo l code n (N-(i+1)) (i+1) any=(R1,R2):=by rw[hf2,<- hB,if_neg (fun e=>hq1 e.1)]
   refine qJ mixed kz ?_
   simp[go_sem,e0,e1,e2,e9,dl,dc,li1,li2,hL1,hL2,f1]
   refine hK8 _ _ ?_
   try clear hK8 K8
   refine qj (b:=false) gz (fun h=>by cases h) (fun _=>?_)
   refine ql ?_
   refine hK7 _ _ ?_
   try clear hK7 K7
   refine qo (fun K16 hK16=>?_)
   refine qi kz ?_
   simp[go_sem,e9,hw]
   refine hK16 _ _ ?_
   exact ⟨N-(i+1),oz,i+1,_,rfl,oz,hR2,by simp[go_sem,e0],by simp[go_sem,e1],by simp[go_sem,e2],by simp[go_sem,e8],gz,rfl⟩
 ·skip
  simp only[decide_eq_false_iff_not] at hb9
  obtain rfl:i=N:=oz
  rw[Nat.sub_self] at hB
  cases hB
  refine qy ?_
  refine hK3 _ _ ?_
  try clear hK3 K3
  refine qg (fun K17 hK17=>?_)
  refine qi kz ?_
  simp[go_sem,e8]
  refine hK17 _ _ ?_
  try clear hK17 K17
  refine qx ?_
  simp only[go_sem]
  refine hR _ _ ?_
  exact qG gz (Heap.le_refl _) (Nat.le_refl _) gz
end Go.Proofs.YtfokgjhdndnnhaaGreatDoor
end X2S
