/- Contracts: may, Max, flat. -/
import Derived.Test.YtfokgjhdndnnhaaGreatDoorD4
set_option maxHeartbeats 1000000
set_option linter.unusedVariables false
set_option linter.unusedSimpArgs false
set_option maxRecDepth 20000
noncomputable section W11S
namespace Go.Proofs.YtfokgjhdndnnhaaGreatDoor
open Go Go.Fl Go.Proofs
def nposL (l:List Nat):Nat:=l.countP fun x=>decide (0<x)
theorem qd8 (l:List Nat) (i:Nat) (h:i<l.length):nposL (l.take (i+1))=nposL (l.take i)+(if 0<l.getD i 0 then 1 else 0):=by
 unfold nposL
 rw[List.take_add_one,List.getElem?_eq_getElem h,List.countP_append,qU h]
 congr 1
 simp[List.countP_cons]
theorem qck (l:List Nat):nposL l<=l.length:=List.countP_le_length
theorem qX {l:List Nat} {i:Nat} (h:i<l.length) : ∃ r,(iV l).drop i = .int (l.getD i 0:Nat)::r:=by
 have:=qlm (show l[i]? = some (l.getD i 0) by rw[qU h]; exact List.getElem?_eq_getElem h)
 exact this
theorem may_s (l:List Nat) (most:Nat) (hl:l.length<=320) (hm1:1<=most) (hm2:most<=15) (hle : ∀ i,l.getD i 0<=1073741824) (hnp:nposL l<=2^most):SCalls Tryz.prog 102 [iA l,.int most] Heap.empty (.bool true) Heap.empty:=by
 obtain ⟨n,hn⟩ : ∃ n,l.length=n:=⟨_,rfl⟩
 have hiL:(iV l).length=n:=by rw[qK,hn]
 have h1 : ¬ (320<(n:Int)):=oz
 have h2 : ¬ ((most:Int)<1):=oz
 have h3 : ¬ (15<(most:Int)):=oz
 refine qE (sz:=40) (Tryz.call102) Tryz.func102 rfl (Nat.zero_le _) kz (fun R hR=>?_)
 refine qg (fun K1 hK1=>?_)
 refine qi kz ?_
 simp[go_sem]
 refine hK1 _ _ ?_
 try clear hK1 K1
 refine qg (fun K2 hK2=>?_)
 refine qg (fun K3 hK3=>?_)
 refine qi kz ?_
 refine qI 3 (fun K4 hK4=>?_)
 simp[go_sem,iA,hn,h1,h2,h3]
 refine hK4 _ _ ?_
 clear hK4 K4
 refine qI 3 (fun K5 hK5=>?_)
 simp[go_sem,iA,hn,h1,h2,h3]
 refine hK5 _ _ ?_
 clear hK5 K5
 simp[go_sem,iA,hn,h1,h2,h3]
 refine hK3 _ _ ?_
 try clear hK3 K3
 refine qj (b:=false) gz (fun h=>by cases h) (fun _=>?_)
 refine ql ?_
 refine hK2 _ _ ?_
 try clear hK2 K2
 refine qg (fun K6 hK6=>?_)
 refine qi kz ?_
 simp[go_sem]
 refine hK6 _ _ ?_
 try clear hK6 K6
 refine qg (fun K7 hK7=>?_)
 refine qg (fun K8 hK8=>?_)
 refine qi kz ?_
 simp[go_sem,iA,hn]
 refine hK8 _ _ ?_
 try clear hK8 K8
 refine qm ?_
 refine qC (Inv:=fun m env H2 => ∃ i:Nat,m=n-i/\i<=n/\env 1 = .int most/\env 5 = .int (nposL (l.take i):Nat)/\env 19 = .vs n 1 (iV l)/\env 20 = .int n/\env 21 = .int i) ?_ (n:=n) (⟨0,rfl,oz,gz,by simp[go_sem,nposL],gz,gz,gz⟩)
 rintro m env H2 ⟨i,rfl,hi,e1,e5,e19,e20,e21⟩
 refine qg (fun K9 hK9=>?_)
 refine qi kz ?_
 simp[go_sem,e20,e21]
 refine hK9 _ _ ?_
 try clear hK9 K9
 refine qg (fun K10 hK10=>?_)
 refine qj (b:=decide (i<n)) gz (fun hb=>?_) (fun hb=>?_)
 ·skip
  simp only[decide_eq_true_eq] at hb
  have hil:i<l.length:=oz
  obtain ⟨r,hdr⟩:=qX hil
  have hin:(i:Int)<n:=oz
  have hnx:=qd8 l i hil
  have hv15:=hle i
  have hnl:=qck (l.take i)
  rw[List.length_take] at hnl
  obtain ⟨v,hv⟩ : ∃ v,l.getD i 0=v:=⟨_,rfl⟩
  rw[hv] at hdr hv15 hnx
  have hv1 : ¬ ((v:Int)<0):=oz
  have hv2 : ¬ (1073741824<(v:Int)):=oz
  refine ql ?_
  refine hK10 _ _ ?_
  try clear hK10 K10
  refine qw (fun env H2=>env 1 = .int most/\env 5 = .int (nposL (l.take (i+1)):Nat)/\env 19 = .vs n 1 (iV l)/\env 20 = .int n/\env 21 = .int i) ?_ ?_
  ·skip
   refine qm ?_
   refine qg (fun K12 hK12=>?_)
   refine qi kz ?_
   simp[go_sem,e19,e21,hdr,hiL,hin]
   refine hK12 _ _ ?_
   try clear hK12 K12
   refine qg (fun K13 hK13=>?_)
   refine qg (fun K14 hK14=>?_)
   refine qi kz ?_
   simp[go_sem,hv1,hv2]
   refine hK14 _ _ ?_
   try clear hK14 K14
   refine qj (b:=false) gz (fun h=>by cases h) (fun _=>?_)
   refine ql ?_
   refine hK13 _ _ ?_
   try clear hK13 K13
   refine qg (fun K15 hK15=>?_)
   refine qi kz ?_
   simp[go_sem]
   refine hK15 _ _ ?_
   try clear hK15 K15
   have hpos:((0:Int)<(v:Int))=(0<v):=propext ⟨fun h=>by omega,fun h=>by omega⟩
   obtain ⟨np,hnp2⟩ : ∃ P,nposL (l.take i)=P:=⟨_,rfl⟩
   rw[hnp2] at e5 hnx hnl
   have hw2:=qF np oz
   refine qj (b:=decide (0<v)) (by simp[go_sem,hpos]) (fun hb=>?_) (fun hb=>?_)
   ·skip
    simp only[decide_eq_true_eq] at hb
    refine qo (fun K16 hK16=>?_)
    refine qi kz ?_
    simp[go_sem,e5]
    refine hK16 _ _ ?_
    rw[hnx]
    exact ⟨by simp[go_sem,e1],by simp[go_sem,e5,hb,hw2],by simp[go_sem,e19],by simp[go_sem,e20],by simp[go_sem,e21]⟩
   ·skip
    simp only[decide_eq_false_iff_not] at hb
    refine ql ?_
    rw[hnx]
    exact ⟨by simp[go_sem,e1],by simp[go_sem,e5,hb,hw2],by simp[go_sem,e19],by simp[go_sem,e20],by simp[go_sem,e21]⟩
  clear e1 e5 e19 e20 e21
  rintro env H2 ⟨e1,e5,e19,e20,e21⟩
  refine qo (fun K17 hK17=>?_)
  refine qi kz ?_
  simp[go_sem,e21]
  refine hK17 _ _ ?_
  have hw1:=qF i oz
  exact ⟨n-(i+1),oz,i+1,rfl,oz,by simp[go_sem,e1],by simp[go_sem,e5],by simp[go_sem,e19],by simp[go_sem,e20],by simp[go_sem,hw1]⟩
 ·skip
  simp only[decide_eq_false_iff_not] at hb
  obtain rfl:i=n:=oz
  rw[List.take_of_length_le oz] at e5
  have hsh:=zB 1 most oz (by rw[Nat.one_mul]; exact Nat.lt_of_le_of_lt (Nat.pow_le_pow_right dz hm2) dz)
  rw[Nat.one_mul] at hsh
  have hsh2:bshl .i64 1 (most:Int)=((2^most:Nat):Int):=hsh
  obtain ⟨P,hP⟩ : ∃ P,2^most=P:=⟨_,rfl⟩
  rw[hP] at hsh2 hnp
  obtain ⟨np,hnpq⟩ : ∃ P,nposL l=P:=⟨_,rfl⟩
  rw[hnpq] at e5 hnp
  have hfin:(np:Int)<=P:=oz
  refine qy ?_
  refine hK7 _ _ ?_
  try clear hK7 K7
  refine qg (fun K18 hK18=>?_)
  refine qi kz ?_
  simp[go_sem,e1,e5,hsh2,hfin]
  refine hK18 _ _ ?_
  try clear hK18 K18
  refine qx ?_
  simp only[go_sem]
  refine hR _ _ ?_
  exact qG (by simp[go_sem,hfin]) (qP _) (Nat.zero_le _) gz
theorem qhv (l:List Nat) (i:Nat) (h:i<l.length):maxL (l.take (i+1))=Nat.max (maxL (l.take i)) (l.getD i 0):=by
 unfold maxL
 rw[List.take_add_one,List.getElem?_eq_getElem h,List.foldl_append,qU h]
 rfl
theorem maxL_one (l:List Nat) (h:0<l.length):maxL (l.take 1)=l.getD 0 0:=by
 have:=qhv l 0 h
 rw[Nat.zero_add] at this
 rw[this]
 simp[maxL]
theorem qc8 (v:Nat->Nat) : ∀ (p:List Nat) (i:Nat) (out:List Nat) (k:Nat) (s:Nat),p[k]? = some s->flatSet v (p.take (k+1)) i out=(flatSet v (p.take k) i out).set s (v (i+k))
 | x::p,i,out,0,s,h=>by
  simp only[List.getElem?_cons_zero,Option.some.injEq] at h
  subst h
  rfl
 | x::p,i,out,k+1,s,h=>by
  simp only[List.getElem?_cons_succ] at h
  show flatSet v (p.take (k+1)) (i+1) (out.set x (v i))=(flatSet v (p.take k) (i+1) (out.set x (v i))).set s (v (i+(k+1)))
  rw[qc8 v p (i+1) (out.set x (v i)) k s h]
  congr 2
  omega
 | [],_,_,_,_,h=>by simp at h
theorem max_w {l:List Nat} {O n:Nat} (hn:l.length=n) (h0:0<n) (hl:n<=1000000) {H:Heap} (gO:H.get O=some (iV l)):SCalls Tryz.prog 105 [.ms O 0 n 1] H (.int (maxL l:Nat)) H:=by
 have hiL:(iV l).length=n:=by rw[qK,hn]
 have hn1 : ¬ ((n:Int)<1):=oz
 have h0i:(0:Int)<n:=oz
 obtain ⟨r0,hd0⟩:=qX (show 0<l.length by omega)
 rw[List.drop_zero] at hd0
 refine qE (sz:=25) (Tryz.call105) Tryz.func105 rfl (Nat.le_refl _) kz (fun R hR=>?_)
 refine qg (fun K1 hK1=>?_)
 refine qi kz ?_
 simp[go_sem]
 refine hK1 _ _ ?_
 try clear hK1 K1
 refine qg (fun K2 hK2=>?_)
 refine qg (fun K3 hK3=>?_)
 refine qi kz ?_
 simp[go_sem,hn1]
 refine hK3 _ _ ?_
 try clear hK3 K3
 refine qj (b:=false) gz (fun h=>by cases h) (fun _=>?_)
 refine ql ?_
 refine hK2 _ _ ?_
 try clear hK2 K2
 refine qg (fun K4 hK4=>?_)
 refine qi kz ?_
 simp[go_sem,gO,h0,hd0]
 refine hK4 _ _ ?_
 try clear hK4 K4
 refine qg (fun K5 hK5=>?_)
 refine qg (fun K6 hK6=>?_)
 refine qi kz ?_
 simp[go_sem]
 refine hK6 _ _ ?_
 try clear hK6 K6
 refine qm ?_
 refine qC (Inv:=fun m env H2 => ∃ i:Nat,m=n-i/\1<=i/\i<=n/\env 0 = .ms O 0 n 1/\env 3 = .int (maxL (l.take i):Nat)/\env 4 = .int i/\H2=H) ?_ (n:=n-1) (⟨1,rfl,oz,oz,gz,by rw[maxL_one l oz]; simp[go_sem],gz,rfl⟩)
 rintro m env _ ⟨i,rfl,hi1,hi,e0,e3,e4,rfl⟩
 refine qg (fun K7 hK7=>?_)
 refine qg (fun K8 hK8=>?_)
 refine qi kz ?_
 simp[go_sem,e0,e4]
 refine hK8 _ _ ?_
 try clear hK8 K8
 refine qj (b:=decide (i<n)) gz (fun hb=>?_) (fun hb=>?_)
 ·skip
  simp only[decide_eq_true_eq] at hb
  have hil:i<l.length:=oz
  obtain ⟨r,hdr⟩:=qX hil
  have hin:(i:Int)<n:=oz
  have hnx:=qhv l i hil
  obtain ⟨v,hv⟩ : ∃ v,l.getD i 0=v:=⟨_,rfl⟩
  rw[hv] at hdr hnx
  obtain ⟨mx,hmq⟩ : ∃ P,maxL (l.take i)=P:=⟨_,rfl⟩
  rw[hmq] at e3 hnx
  have hi1n:i+1<=n:=hb
  refine ql ?_
  refine hK7 _ _ ?_
  try clear hK7 K7
  refine qg (fun K9 hK9=>?_)
  refine qm ?_
  refine qi kz ?_
  simp[go_sem,e0,e3,e4,gO,hiL,hin,hdr,hi1n]
  refine hK9 _ _ ?_
  try clear hK9 K9
  refine qo (fun K10 hK10=>?_)
  refine qi kz ?_
  simp[go_sem,e4]
  refine hK10 _ _ ?_
  have hw1:=qF i oz
  have hmx:(if mx<v then (v:Int) else (mx:Int))=((Nat.max mx v:Nat):Int):=by show _=((max mx v:Nat):Int); split <;> omega
  exact ⟨n-(i+1),oz,i+1,rfl,oz,oz,by simp[go_sem,e0],by rw[hnx,<- hmx]; simp[go_sem],by simp[go_sem,e4,hw1],rfl⟩
 ·skip
  simp only[decide_eq_false_iff_not] at hb
  obtain rfl:i=n:=oz
  rw[List.take_of_length_le oz] at e3
  refine qy ?_
  refine hK5 _ _ ?_
  try clear hK5 K5
  refine qg (fun K11 hK11=>?_)
  refine qi kz ?_
  simp[go_sem,e3]
  refine hK11 _ _ ?_
  try clear hK11 K11
  refine qx ?_
  simp only[go_sem]
  refine hR _ _ ?_
  exact qG gz (Heap.le_refl _) (Nat.le_refl _) gz
theorem flat_p {S:Nat->Prop} {O:Nat} (p out:List Nat) (hO : ¬ S O) (h1:1<=p.length) (h2:p.length<=400) (hps : ∀ s∈p,s<out.length) (hol:out.length<=1000) {H:Heap} (gO:H.get O=some (iV out)):SCallsP Tryz.prog 106 [iA p,.ms O 0 out.length 1] H (fun r H'=>r = .tup []/\H'.get O=some (iV (flatL p out))/\Step S H H'):=by
 obtain ⟨n,hn⟩ : ∃ n,p.length=n:=⟨_,rfl⟩
 obtain ⟨no,hno⟩ : ∃ n,out.length=n:=⟨_,rfl⟩
 have hiL:(iV p).length=n:=by rw[qK,hn]
 rw[hno]
 obtain ⟨f1,f2,f3,f4⟩:=qcc n oz
 have hN9:=qkl n 9 oz oz oz
 obtain ⟨N,hNq⟩ : ∃ N,flatN n=N:=⟨_,rfl⟩
 rw[hNq] at f1 f2 f3 f4 hN9
 obtain ⟨H0,hH0⟩ : ∃ X,H=X:=⟨_,rfl⟩
 skip
 refine qA (sz:=47) (Tryz.call106) Tryz.func106 rfl kz (fun R hR=>?_)
 refine qg (fun K1 hK1=>?_)
 refine qi kz ?_
 simp[go_sem]
 refine hK1 _ _ ?_
 try clear hK1 K1
 refine qg (fun K2 hK2=>?_)
 refine qm ?_
 refine qC (Inv:=fun m env H2 => ∃ k:Nat,m=N-k/\1<=k/\k<=N/\env 0 = .vs n 1 (iV p)/\env 1 = .ms O 0 no 1/\env 4 = .int k/\H=H2) ?_ (n:=N-1) (⟨1,rfl,oz,oz,by simp[go_sem,iA,hn],gz,gz,rfl⟩)
 rintro m env _ ⟨k,rfl,hk1,hk,e0,e1,e4,rfl⟩
 have hsh:=zB 1 k oz (by rw[Nat.one_mul]; exact Nat.lt_of_le_of_lt (Nat.pow_le_pow_right dz (Nat.le_trans hk hN9)) dz)
 rw[Nat.one_mul] at hsh
 have hsh2:bshl .i64 1 (k:Int)=((2^k:Nat):Int):=hsh
 have hcmp:2^k<n↔k<N:=by
  constructor
  ·intro h
   rcases Nat.lt_or_ge k N with h2 | h2
   ·exact h2
   ·obtain rfl:k=N:=oz
    omega
  ·intro h
   rcases f4 with h2 | h2
   ·omega
   ·exact Nat.lt_of_le_of_lt (Nat.pow_le_pow_right dz oz) h2
 obtain ⟨P,hP⟩ : ∃ P,2^k=P:=⟨_,rfl⟩
 rw[hP] at hsh2 hcmp
 refine qg (fun K3 hK3=>?_)
 refine qg (fun K4 hK4=>?_)
 refine qi kz ?_
 simp[go_sem,e0,e4,hsh2]
 refine hK4 _ _ ?_
 try clear hK4 K4
 refine qj (b:=decide (P<n)) gz (fun hb=>?_) (fun hb=>?_)
 ·skip
  simp only[decide_eq_true_eq] at hb
  have hkN:=hcmp.1 hb
  refine ql ?_
  refine hK3 _ _ ?_
  try clear hK3 K3
  refine qm ?_
  refine qo (fun K5 hK5=>?_)
  refine qi kz ?_
  simp[go_sem,e4]
  refine hK5 _ _ ?_
  have hw1:=qF k oz
  exact ⟨N-(k+1),oz,k+1,rfl,oz,oz,by simp[go_sem,e0],by simp[go_sem,e1],by simp[go_sem,hw1],rfl⟩
 ·skip
  simp only[decide_eq_false_iff_not] at hb
  obtain rfl:k=N:=by
   rcases Nat.lt_or_ge k N with h | h
   ·exact absurd (hcmp.2 h) hb
   ·omega
  have hP9:P<=2^9:=by rw[<- hP]; exact Nat.pow_le_pow_right dz hN9
  have hPn:n<=P:=by rw[<- hP]; exact f1
  have hws:=i64in ((P:Int)-n) oz oz
  refine qy ?_
  refine hK2 _ _ ?_
  try clear hK2 K2
  refine qg (fun K6 hK6=>?_)
  refine qi kz ?_
  simp[go_sem,e0,e4,hsh2,hws]
  refine hK6 _ _ ?_
  try clear hK6 K6
  refine qg (fun K7 hK7=>?_)
  refine qi kz ?_
  simp[go_sem,e0]
  refine hK7 _ _ ?_
  try clear hK7 K7
  refine qm ?_
  refine qC (Inv:=fun m env H2 => ∃ i:Nat,m=n-i/\i<=n/\env 0 = .vs n 1 (iV p)/\env 1 = .ms O 0 no 1/\env 4 = .int k/\env 5 = .int ((P:Int)-n)/\env 20 = .vs n 1 (iV p)/\env 21 = .int n/\env 22 = .int i/\H2.get O=some (iV (flatSet (flatV n k) (p.take i) 0 out))/\Step S H H2) ?_ (n:=n) (⟨0,rfl,oz,by simp[go_sem,e0],by simp[go_sem,e1],by simp[go_sem,e4],gz,gz,gz,gz,by simpa [flatSet] using gO,Step.refl _ _⟩)
  clear e0 e1 e4 gO
  rintro m env H2 ⟨i,rfl,hi,e0,e1,e4,e5,e20,e21,e22,gO,hS⟩
  refine qg (fun K8 hK8=>?_)
  refine qi kz ?_
  simp[go_sem,e21,e22]
  refine hK8 _ _ ?_
  try clear hK8 K8
  refine qg (fun K9 hK9=>?_)
  refine qj (b:=decide (i<n)) gz (fun hb=>?_) (fun hb=>?_)
  ·skip
   simp only[decide_eq_true_eq] at hb
   have hil:i<p.length:=oz
   obtain ⟨r,hdr⟩:=qX hil
   have hin:(i:Int)<n:=oz
   have hsp:p[i]? = some (p.getD i 0):=by rw[qU hil]; exact List.getElem?_eq_getElem hil
   have hnx:=qc8 (flatV n k) p 0 out i _ hsp
   rw[Nat.zero_add] at hnx
   have hsb:=hps _ (List.mem_of_getElem? hsp)
   obtain ⟨s,hs⟩ : ∃ s,p.getD i 0=s:=⟨_,rfl⟩
   rw[hs] at hdr hnx hsb
   have hfl:=qaw (flatV n k) (p.take i) 0 out
   obtain ⟨o1,ho1⟩ : ∃ o,flatSet (flatV n k) (p.take i) 0 out=o:=⟨_,rfl⟩
   rw[ho1] at gO hnx hfl
   have hsl:s<o1.length:=oz
   have hiv:=zA o1 s hsl k
   have hiv2:=zA (o1.set s k) s (by rw[List.length_set]; exact hsl) (k-1)
   have hoL:(iV o1).length=no:=by rw[qK]; omega
   have hoL2:(iV (o1.set s k)).length=no:=by rw[qK,List.length_set]; omega
   have hsi:(s:Int)<no:=oz
   have hs1:s+1<=no:=oz
   have hwk:IntKind.i64.wrap ((k:Int)-1)=((k-1:Nat):Int):=by rw[i64in _ oz oz]; omega
   have hwn:=i64in ((n:Int)-((P:Int)-n)) oz oz
   have hss : ∀ v,(o1.set s k).set s v=o1.set s v:=fun v=>by simp
   have hO2:O<H2.next:=Heap.lt_of_get gO
   refine ql ?_
   refine hK9 _ _ ?_
   try clear hK9 K9
   refine qw (fun env H2=>env 0 = .vs n 1 (iV p)/\env 1 = .ms O 0 no 1/\env 4 = .int k/\env 5 = .int ((P:Int)-n)/\env 20 = .vs n 1 (iV p)/\env 21 = .int n/\env 22 = .int i/\H2.get O=some (iV (flatSet (flatV n k) (p.take (i+1)) 0 out))/\Step S H H2) ?_ ?_
   ·skip
    refine qm ?_
    refine qg (fun K11 hK11=>?_)
    refine qi kz ?_
    simp[go_sem,e20,e22,hdr,hiL,hin]
    refine hK11 _ _ ?_
    try clear hK11 K11
    refine qg (fun K12 hK12=>?_)
    refine qo (fun K13 hK13=>?_)
    refine qi kz ?_
    simp[go_sem,e1,e4,gO,hoL,hsi,hs1,hiv]
    refine hK13 _ _ ?_
    refine hK12 _ _ ?_
    try clear hK12 K12
    refine qg (fun K14 hK14=>?_)
    have gO7:(H2.set O (iV (o1.set s k))).get O=some (iV (o1.set s k)):=by rw[Heap.get_set,if_pos rfl,gO]; rfl
    have hS7:Step S H (H2.set O (iV (o1.set s k))):=hS.set hO (jb _ _)
    rcases (by omega:(n-(P-n)<=i/\1<k)\/(n-(P-n)<=i /\ ¬ 1<k) \/ ¬ (n-(P-n)<=i)) with ⟨c1,c2⟩ | ⟨c1,c2⟩ | c1
    ·skip
     have d1:((n:Int)-((P:Int)-n))<=i:=oz
     have d2:(1:Int)<k:=oz
     refine qi kz ?_
     simp[go_sem,e0,e4,e5,hwn,d1,d2]
     refine hK14 _ _ ?_
     try clear hK14 K14
     refine qj (b:=true) gz (fun _=>?_) (fun h=>by cases h)
     have hfv:flatV n k i=k-1:=if_pos ⟨by rw[hP]; exact c1,c2⟩
     have gO9:((H2.set O (iV (o1.set s k))).set O (iV (o1.set s (k-1)))).get O=some (iV (flatSet (flatV n k) (p.take (i+1)) 0 out)):=by rw[hnx,hfv,Heap.get_set,if_pos rfl,gO7]; rfl
     have hS9:Step S H ((H2.set O (iV (o1.set s k))).set O (iV (o1.set s (k-1)))):=hS7.set hO (jb _ _)
     refine qo (fun K15 hK15=>?_)
     refine qi kz ?_
     simp[go_sem,e1,e4,gO7,hoL2,hsi,hs1,hwk,hiv2]
     refine hK15 _ _ ?_
     exact ⟨by simp[go_sem,e0],by simp[go_sem,e1],by simp[go_sem,e4],by simp[go_sem,e5],by simp[go_sem,e20],by simp[go_sem,e21],by simp[go_sem,e22],gO9,hS9⟩
    ·skip
     have d1:((n:Int)-((P:Int)-n))<=i:=oz
     have d2 : ¬ ((1:Int)<k):=oz
     have hfv:flatV n k i=k:=if_neg (fun h=>c2 h.2)
     have gO9:(H2.set O (iV (o1.set s k))).get O=some (iV (flatSet (flatV n k) (p.take (i+1)) 0 out)):=by rw[hnx,hfv]; exact gO7
     have hS9:=hS7
     refine qi kz ?_
     simp[go_sem,e0,e4,e5,hwn,d1,d2]
     refine hK14 _ _ ?_
     try clear hK14 K14
     refine qj (b:=false) gz (fun h=>by cases h) (fun _=>?_)
     refine ql ?_
     exact ⟨by simp[go_sem,e0],by simp[go_sem,e1],by simp[go_sem,e4],by simp[go_sem,e5],by simp[go_sem,e20],by simp[go_sem,e21],by simp[go_sem,e22],gO9,hS9⟩
    ·skip
     have d1 : ¬ (((n:Int)-((P:Int)-n))<=i):=oz
     have hfv:flatV n k i=k:=if_neg (fun h=>c1 (by rw[hP] at h; exact h.1))
     have gO9:(H2.set O (iV (o1.set s k))).get O=some (iV (flatSet (flatV n k) (p.take (i+1)) 0 out)):=by rw[hnx,hfv]; exact gO7
     have hS9:=hS7
     refine qi kz ?_
     simp[go_sem,e0,e4,e5,hwn,d1]
     refine hK14 _ _ ?_
     try clear hK14 K14
     refine qj (b:=false) gz (fun h=>by cases h) (fun _=>?_)
     refine ql ?_
     exact ⟨by simp[go_sem,e0],by simp[go_sem,e1],by simp[go_sem,e4],by simp[go_sem,e5],by simp[go_sem,e20],by simp[go_sem,e21],by simp[go_sem,e22],gO9,hS9⟩
   clear e0 e1 e4 e5 e20 e21 e22 gO hS
   rintro env H2 ⟨e0,e1,e4,e5,e20,e21,e22,gO,hS⟩
   refine qo (fun K16 hK16=>?_)
   refine qi kz ?_
   simp[go_sem,e22]
   refine hK16 _ _ ?_
   have hw1:=qF i oz
   exact ⟨n-(i+1),oz,i+1,rfl,oz,by simp[go_sem,e0],by simp[go_sem,e1],by simp[go_sem,e4],by simp[go_sem,e5],by simp[go_sem,e20],by simp[go_sem,e21],by simp[go_sem,hw1],gO,hS⟩
  ·skip
   simp only[decide_eq_false_iff_not] at hb
   obtain rfl:i=n:=oz
   rw[List.take_of_length_le oz] at gO
   refine qy ?_
   refine hR _ _ ?_
   exact hS.retP (r:=.tup []) gz ⟨rfl,by unfold flatL; rw[hn,hNq]; exact gO,hS⟩ gz
end Go.Proofs.YtfokgjhdndnnhaaGreatDoor
end W11S
namespace Go.Fl
def swapL (l:List Nat) (i j:Nat):List Nat:=(l.set i (l.getD j 0)).set j (l.getD i 0)
theorem jJ (l:List Nat) (i j:Nat):(swapL l i j).length=l.length:=by simp[swapL]
theorem swap_perm {l:List Nat} {i j:Nat} (hi:i<l.length) (hj:j<l.length):(swapL l i j).Perm l:=by
 unfold swapL
 rw[qU hi,qU hj]
 exact List.set_set_perm hi hj
def ltC (cs l:List Nat) (x y:Nat):Bool:=decide (cs.getD (l.getD x 0) 0<cs.getD (l.getD y 0) 0)
def insIn (cs:List Nat) (a:Nat):Nat->List Nat->List Nat
 | 0,l=>l
 | j+1,l=>if a<j+1/\ltC cs l (j+1) j=true then insIn cs a j (swapL l (j+1) j) else l
def insGo (cs:List Nat) (a:Nat):Nat->Nat->List Nat->List Nat
 | 0,_,l=>l
 | n+1,i,l=>insGo cs a n (i+1) (insIn cs a i l)
def insSort (cs:List Nat) (a b:Nat) (l:List Nat):List Nat:=insGo cs a (b-(a+1)) (a+1) l
def binGo (t:Nat->Bool):Nat->Nat->Nat->Nat
 | 0,i,_=>i
 | f+1,i,j=>if i<j then (if t ((i+j)/2)=true then binGo t f ((i+j)/2+1) j else binGo t f i ((i+j)/2)) else i
def upGo:Nat->Nat->List Nat->List Nat
 | 0,_,l=>l
 | n+1,k,l=>upGo n (k+1) (swapL l k (k+1))
def downGo:Nat->Nat->List Nat->List Nat
 | 0,_,l=>l
 | n+1,k,l=>downGo n (k-1) (swapL l k (k-1))
def swapR:Nat->Nat->Nat->List Nat->List Nat
 | 0,_,_,l=>l
 | n+1,a,b,l=>swapR n (a+1) (b+1) (swapL l a b)
def rotGo (m:Nat):Nat->Nat->Nat->List Nat->Nat × List Nat
 | 0,i,_,l=>(i,l)
 | f+1,i,j,l=>if i=j then (i,l) else if j<i then rotGo m f (i-j) j (swapR j (m-i) m l) else rotGo m f i (j-i) (swapR i (m-i) (m+j-i) l)
def rotM (a m b:Nat) (l:List Nat):List Nat :=
 let r:=rotGo m (b-a) (m-a) (b-m) l
 swapR r.1 (m-r.1) m r.2
def symStart (cs:List Nat) (a m b:Nat) (l:List Nat):Nat :=
 let mid:=(a+b)/2
 let n:=mid+m
 let s:=if mid<m then n-b else a
 let r:=if mid<m then mid else m
 binGo (fun c => !ltC cs l (n-1-c) c) (r-s) s r
def symM (cs:List Nat):Nat->Nat->Nat->Nat->List Nat->List Nat
 | 0,_,_,_,l=>l
 | f+1,a,m,b,l =>
  if m-a=1 then upGo (binGo (fun h=>ltC cs l h a) (b-m) m b-1-a) a l
  else if b-m=1 then downGo (m-binGo (fun h => !ltC cs l m h) (m-a) a m) m l
  else
   let mid:=(a+b)/2
   let s:=symStart cs a m b l
   let e:=mid+m-s
   let l1:=if s<m/\m<e then rotM s m e l else l
   let l2:=if a<s/\s<mid then symM cs f a s mid l1 else l1
   if mid<e/\e<b then symM cs f mid e b l2 else l2
def blkGo (cs:List Nat) (n:Nat):Nat->Nat->List Nat->List Nat
 | 0,a,l=>insSort cs a n l
 | f+1,a,l=>if a+20<=n then blkGo cs n f (a+20) (insSort cs a (a+20) l) else insSort cs a n l
def prGo (cs:List Nat) (n w:Nat):Nat->Nat->List Nat->List Nat
 | 0,_,l=>l
 | f+1,a,l=>if a+2*w<=n then prGo cs n w f (a+2*w) (symM cs (2*w) a (a+w) (a+2*w) l) else if a+w<n then symM cs (n-a) a (a+w) n l else l
def mrgGo (cs:List Nat) (n:Nat):Nat->Nat->List Nat->List Nat
 | 0,_,l=>l
 | f+1,w,l=>if w<n then mrgGo cs n f (2*w) (prGo cs n w n 0 l) else l
def stableM (cs l:List Nat):List Nat:=mrgGo cs l.length l.length 20 (blkGo cs l.length l.length 0 l)
theorem qfg (cs:List Nat) (a:Nat) : ∀ (j:Nat) (l:List Nat),j<l.length->(insIn cs a j l).Perm l
 | 0,l,_=>List.Perm.refl _
 | j+1,l,h=>by
  simp only[insIn]
  split
  ·exact (qfg cs a j _ (by rw[jJ]; omega)).trans (swap_perm h oz)
  ·exact List.Perm.refl _
theorem qfh (cs:List Nat) (a:Nat) : ∀ (n i:Nat) (l:List Nat),i+n<=l.length->(insGo cs a n i l).Perm l
 | 0,_,l,_=>List.Perm.refl _
 | n+1,i,l,h=>by
  have h1:=qfg cs a i l oz
  exact (qfh cs a n (i+1) _ (by rw[h1.length_eq]; omega)).trans h1
theorem jy (cs:List Nat) (a b:Nat) (l:List Nat) (h:b<=l.length):(insSort cs a b l).Perm l:=by
 unfold insSort
 rcases Nat.lt_or_ge a b with h1 | h1
 ·exact qfh cs a _ _ l oz
 ·rw[show b-(a+1)=0 by omega]
  exact List.Perm.refl _
theorem yz (t:Nat->Bool) : ∀ (f i j:Nat),i<=j->i<=binGo t f i j/\binGo t f i j<=j
 | 0,i,j,h=>⟨Nat.le_refl _,h⟩
 | f+1,i,j,h=>by
  simp only[binGo]
  split
  ·split
   ·have:=yz t f ((i+j)/2+1) j oz
    omega
   ·have:=yz t f i ((i+j)/2) oz
    omega
  ·exact ⟨Nat.le_refl _,h⟩
theorem qhw : ∀ (n k:Nat) (l:List Nat),k+n<l.length\/n=0->(upGo n k l).Perm l
 | 0,_,_,_=>List.Perm.refl _
 | n+1,k,l,h=>(qhw n (k+1) _ (by rw[jJ]; omega)).trans (swap_perm oz oz)
theorem qd9 : ∀ (n k:Nat) (l:List Nat),k<l.length\/n=0->(downGo n k l).Perm l
 | 0,_,_,_=>List.Perm.refl _
 | n+1,k,l,h=>(qd9 n (k-1) _ (by rw[jJ]; omega)).trans (swap_perm oz oz)
theorem jL : ∀ (n a b:Nat) (l:List Nat),a+n<=l.length->b+n<=l.length->(swapR n a b l).Perm l
 | 0,_,_,_,_,_=>List.Perm.refl _
 | n+1,a,b,l,h1,h2=>(jL n (a+1) (b+1) _ (by rw[jJ]; omega) (by rw[jJ]; omega)).trans (swap_perm oz oz)
theorem qcl (m:Nat) : ∀ (f i j:Nat) (l:List Nat),i<=m->m+j<=l.length->(rotGo m f i j l).2.Perm l/\(rotGo m f i j l).1<=i/\(i+j<=f->1<=i->1<=j->m+(rotGo m f i j l).1<=m+j/\1<=(rotGo m f i j l).1)
 | 0,i,j,l,_,_=>⟨List.Perm.refl _,Nat.le_refl _,fun h _ _=>by omega⟩
 | f+1,i,j,l,h1,h2=>by
  simp only[rotGo]
  split
  ·rename_i h; subst h; exact ⟨List.Perm.refl _,Nat.le_refl _,fun _ _ _=>⟨by simp,by simpa⟩⟩
  ·split
   ·have hp:=jL j (m-i) m l oz h2
    obtain ⟨p1,p2,p3⟩:=qcl m f (i-j) j (swapR j (m-i) m l) oz (by rw[hp.length_eq]; exact h2)
    exact ⟨p1.trans hp,oz,fun h a1 a2=>by have:=p3 oz oz a2; exact this⟩
   ·have hp:=jL i (m-i) (m+j-i) l oz oz
    obtain ⟨p1,p2,p3⟩:=qcl m f i (j-i) (swapR i (m-i) (m+j-i) l) h1 (by rw[hp.length_eq]; omega)
    exact ⟨p1.trans hp,p2,fun h a1 a2=>by have:=p3 oz a1 oz; omega⟩
theorem qhx (a m b:Nat) (l:List Nat) (h1:a<m) (h2:m<b) (h3:b<=l.length):(rotM a m b l).Perm l:=by
 unfold rotM
 obtain ⟨p1,p2,p3⟩:=qcl m (b-a) (m-a) (b-m) l oz oz
 have p4:=p3 oz oz oz
 refine (jL _ _ _ _ ?_ ?_).trans p1
 ·rw[p1.length_eq]; omega
 ·rw[p1.length_eq]; omega
theorem qgd (cs:List Nat) (a m b:Nat) (l:List Nat) (h1:a<m) (h2:m<b):a<=symStart cs a m b l/\symStart cs a m b l<=m/\symStart cs a m b l<=(a+b)/2/\(a+b)/2+m-symStart cs a m b l<=b:=by
 unfold symStart
 simp only[]
 split
 ·rename_i h
  have:=yz (fun c => !ltC cs l ((a+b)/2+m-1-c) c) ((a+b)/2-((a+b)/2+m-b)) ((a+b)/2+m-b) ((a+b)/2) oz
  omega
 ·rename_i h
  have:=yz (fun c => !ltC cs l ((a+b)/2+m-1-c) c) (m-a) a m oz
  omega
theorem jU (cs:List Nat) : ∀ (f a m b:Nat) (l:List Nat),a<m->m<b->b<=l.length->(symM cs f a m b l).Perm l
 | 0,_,_,_,l,_,_,_=>List.Perm.refl _
 | f+1,a,m,b,l,h1,h2,h3=>by
  simp only[symM]
  split
  ·have:=yz (fun h=>ltC cs l h a) (b-m) m b oz
   exact qhw _ _ _ oz
  ·split
   ·exact qd9 _ _ _ oz
   ·obtain ⟨s1,s2,s3,s4⟩:=qgd cs a m b l h1 h2
    generalize symStart cs a m b l=s at *
    have e1 : ∀ l1:List Nat,l1=(if s<m/\m<(a+b)/2+m-s then rotM s m ((a+b)/2+m-s) l else l)->l1.Perm l:=by
     rintro l1 rfl
     split
     ·rename_i h; exact qhx _ _ _ _ h.1 h.2 oz
     ·exact List.Perm.refl _
    have p1:=e1 _ rfl
    generalize (if s<m/\m<(a+b)/2+m-s then rotM s m ((a+b)/2+m-s) l else l)=l1 at *
    have e2 : ∀ l2:List Nat,l2=(if a<s/\s<(a+b)/2 then symM cs f a s ((a+b)/2) l1 else l1)->l2.Perm l1:=by
     rintro l2 rfl
     split
     ·rename_i h; exact jU cs f _ _ _ _ h.1 h.2 (by rw[p1.length_eq]; omega)
     ·exact List.Perm.refl _
    have p2:=e2 _ rfl
    generalize (if a<s/\s<(a+b)/2 then symM cs f a s ((a+b)/2) l1 else l1)=l2 at *
    split
    ·rename_i h
     exact ((jU cs f _ _ _ _ h.1 h.2 (by rw[p2.length_eq,p1.length_eq]; omega)).trans p2).trans p1
    ·exact p2.trans p1
theorem qfi (cs:List Nat) (n:Nat) : ∀ (f a:Nat) (l:List Nat),n<=l.length->(blkGo cs n f a l).Perm l
 | 0,a,l,h=>jy cs a n l h
 | f+1,a,l,h=>by
  simp only[blkGo]
  split
  ·have hp:=jy cs a (a+20) l oz
   exact (qfi cs n f _ _ (by rw[hp.length_eq]; exact h)).trans hp
  ·exact jy cs a n l h
theorem qhy (cs:List Nat) (n w:Nat) (hw:0<w) : ∀ (f a:Nat) (l:List Nat),n<=l.length->(prGo cs n w f a l).Perm l
 | 0,_,l,_=>List.Perm.refl _
 | f+1,a,l,h=>by
  simp only[prGo]
  split
  ·have hp:=jU cs (2*w) a (a+w) (a+2*w) l oz oz oz
   exact (qhy cs n w hw f _ _ (by rw[hp.length_eq]; exact h)).trans hp
  ·split
   ·exact jU cs _ _ _ _ _ oz oz h
   ·exact List.Perm.refl _
theorem qfj (cs:List Nat) (n:Nat) : ∀ (f w:Nat) (l:List Nat),0<w->n<=l.length->(mrgGo cs n f w l).Perm l
 | 0,_,l,_,_=>List.Perm.refl _
 | f+1,w,l,hw,h=>by
  simp only[mrgGo]
  split
  ·have hp:=qhy cs n w hw n 0 l h
   exact (qfj cs n f (2*w) _ oz (by rw[hp.length_eq]; exact h)).trans hp
  ·exact List.Perm.refl _
theorem qa6 (cs l:List Nat):(stableM cs l).Perm l:=by
 unfold stableM
 have h1:=qfi cs l.length l.length 0 l (Nat.le_refl _)
 exact (qfj cs l.length l.length 20 _ oz (by rw[h1.length_eq]; exact Nat.le_refl _)).trans h1
end Go.Fl
set_option maxRecDepth 20000
noncomputable section W12S
namespace Go.Proofs.YtfokgjhdndnnhaaGreatDoor
open Go Go.Fl Go.Proofs
def SrtS (S:Nat->Prop) (H:Heap) (L cb:Nat) (cs l:List Nat):Prop := ¬ S L/\S cb/\H.get L=some (iV l)/\H.get cb=some [iA cs]/\(∀ x∈l,x<cs.length)/\(∀ x,cs.getD x 0<=1073741824)/\cs.length<=1000/\l.length<=1000
theorem SrtS.at {S:Nat->Prop} {H:Heap} {L cb:Nat} {cs l:List Nat} (h:SrtS S H L cb cs l) {i:Nat} (hi:i<l.length):l.getD i 0<cs.length:=by
 rw[qU hi]
 exact h.2.2.2.2.1 _ (List.getElem_mem hi)
theorem SrtS.next {S:Nat->Prop} {H H' : Heap} {L cb:Nat} {cs l l' : List Nat} (h:SrtS S H L cb cs l) (hs:Step S H H') (hg:H'.get L=some (iV l')) (hp:l'.Perm l):SrtS S H' L cb cs l':=by
 obtain ⟨h1,h2,h3,h4,h5,h6,h7,h8⟩:=h
 exact ⟨h1,h2,hg,hs.get h4 h2,fun x hx=>h5 x (hp.mem_iff.1 hx),h6,h7,by rw[hp.length_eq]; exact h8⟩
def cmpF (cb:Nat):AV:=.fn (.func 117) [] [.ptr cb 0]
theorem qdf {H:Heap} {L:Nat} {l:List Nat} (hg:H.get L=some (iV l)) (i j:Nat):((H.set L (iV (l.set i (l.getD j 0)))).set L (iV ((l.set i (l.getD j 0)).set j (l.getD i 0)))).get L=some (iV (swapL l i j)):=by
 rw[Heap.get_set,if_pos rfl,Heap.get_set,if_pos rfl,hg]
 rfl
theorem yX {S:Nat->Prop} {H:Heap} {L:Nat} {a b:List Nat} (hL : ¬ S L):Step S H ((H.set L (iV a)).set L (iV b)):=((Step.refl S H).set hL (jb _ _)).set hL (jb _ _)
theorem cmp_w {cs:List Nat} {cb a b:Nat} (ha:a<cs.length) (hb:b<cs.length) (hle : ∀ x,cs.getD x 0<=1073741824) {H:Heap} (gc:H.get cb=some [iA cs]):SCalls Tryz.prog 117 [.int a,.int b,.ptr cb 0] H (.int ((cs.getD a 0:Nat)-(cs.getD b 0:Nat):Int)) H:=by
 obtain ⟨ra,da⟩:=qX ha
 obtain ⟨rb,db⟩:=qX hb
 have hL:(iV cs).length=cs.length:=qK cs
 have hai:(a:Int)<cs.length:=oz
 have hbi:(b:Int)<cs.length:=oz
 have h1:=hle a
 have h2:=hle b
 obtain ⟨va,hva⟩ : ∃ v,cs.getD a 0=v:=⟨_,rfl⟩
 obtain ⟨vb,hvb⟩ : ∃ v,cs.getD b 0=v:=⟨_,rfl⟩
 rw[hva] at da h1 |-
 rw[hvb] at db h2 |-
 have hw:=i64in ((va:Int)-vb) oz oz
 refine qE (sz:=15) (Tryz.call117) Tryz.func117 rfl (Nat.le_refl _) kz (fun R hR=>?_)
 refine qg (fun K1 hK1=>?_)
 refine qi kz ?_
 simp[go_sem]
 refine hK1 _ _ ?_
 try clear hK1 K1
 refine qg (fun K2 hK2=>?_)
 refine qo (fun K95 hK95=>?_)
 refine qZ mixed kz (bf:=[0,0,3,7,0,0,48,112,255,511]) kz ?_
 simp[go_sem,gc,iA,da,db,hL,hai,hbi,hw,befL]
 refine hK95 _ _ ?_
 refine hK2 _ _ ?_
 try clear hK2 K2
 refine qx ?_
 simp only[go_sem]
 refine hR _ _ ?_
 exact qG gz (Heap.le_refl _) (Nat.le_refl _) gz
theorem qjf {S:Nat->Prop} {L a b c n:Nat} {l:List Nat} {f:AV} (hL : ¬ S L) (hn:l.length=n) (hn2:n<=1000) (h1:a+c<=n) (h2:b+c<=n) {H:Heap} (gL:H.get L=some (iV l)):SCallsP Tryz.prog 131 [.ms L 0 n 1,.int a,.int b,.int c,f] H (fun r H'=>r = .tup []/\H'.get L=some (iV (swapR c a b l))/\Step S H H'):=by
 refine qA (sz:=38) (Tryz.call131) Tryz.func131 rfl kz (fun R hR=>?_)
 refine qg (fun K1 hK1=>?_)
 refine qi kz ?_
 simp[go_sem]
 refine hK1 _ _ ?_
 try clear hK1 K1
 refine qm ?_
 refine qC (Inv:=fun m0 env H2 => ∃ (k:Nat) (l1:List Nat),m0=c-k/\k<=c/\env 0 = .ms L 0 n 1/\env 1 = .int a/\env 2 = .int b/\env 3 = .int c/\env 10 = .int k/\swapR c a b l=swapR (c-k) (a+k) (b+k) l1/\l1.length=n/\H2.get L=some (iV l1)/\Step S H H2) ?_ (n:=c) (⟨0,l,rfl,oz,by simp[go_sem,hn],gz,gz,gz,gz,rfl,hn,gL,Step.refl _ _⟩)
 clear gL
 rintro m0 env H2 ⟨k,l1,rfl,hk,e0,e1,e2,e3,e10,hsw,hl1,gL,hS⟩
 refine qg (fun K2 hK2=>?_)
 refine qg (fun K3 hK3=>?_)
 refine qi kz ?_
 simp[go_sem,e3,e10]
 refine hK3 _ _ ?_
 try clear hK3 K3
 refine qj (b:=decide (k<c)) gz (fun hb=>?_) (fun hb=>?_)
 ·skip
  simp only[decide_eq_true_eq] at hb
  obtain ⟨ri,di⟩:=qX (l:=l1) (i:=a+k) oz
  obtain ⟨rj,dj⟩:=qX (l:=l1) (i:=b+k) oz
  have sg:=qdf gL (a+k) (b+k)
  obtain ⟨vi,hvi⟩ : ∃ v,l1.getD (a+k) 0=v:=⟨_,rfl⟩
  obtain ⟨vj,hvj⟩ : ∃ v,l1.getD (b+k) 0=v:=⟨_,rfl⟩
  rw[hvi] at di sg
  rw[hvj] at dj sg
  have iv1:=zA l1 (a+k) oz vj
  have iv2:=zA (l1.set (a+k) vj) (b+k) (by rw[List.length_set]; omega) vi
  have L1:(iV l1).length=n:=by rw[qK]; omega
  have L2:(iV (l1.set (a+k) vj)).length=n:=by rw[qK,List.length_set]; omega
  have bi:(((a+k:Nat)):Int)<n:=oz
  have bj:(((b+k:Nat)):Int)<n:=oz
  have ci:(a+k)+1<=n:=oz
  have cj:(b+k)+1<=n:=oz
  have wa:=i64in ((a:Int)+k) oz oz
  have wb:=i64in ((b:Int)+k) oz oz
  have na:((a:Int)+k).toNat=a+k:=oz
  have nb:((b:Int)+k).toNat=b+k:=oz
  have pa:(0:Int)<=(a:Int)+k:=oz
  have pb:(0:Int)<=(b:Int)+k:=oz
  push_cast at bi bj
  have gL9:=sg
  have hS9:Step S H ((H2.set L (iV (l1.set (a+k) vj))).set L (iV ((l1.set (a+k) vj).set (b+k) vi))):=hS.trans (yX hL)
  refine ql ?_
  refine hK2 _ _ ?_
  try clear hK2 K2
  refine qg (fun K4 hK4=>?_)
  refine qm ?_
  refine qo (fun K95 hK95=>?_)
  refine qZ mixed kz (bf:=[0,0,0,6,0,0,0,96,0,0,0,1536,3840,7936,0,0,0,98304,245760,507904,1048335,2096911,4194303,8388607]) kz ?_
  refine jD 8 dz (fun K90 hK90=>?_)
  simp[go_sem,e0,e1,e2,e10,gL,wa,wb,na,nb,pa,pb,di,dj,L1,L2,bi,bj,ci,cj,befL]
  refine hK90 _ _ _ _ ?_
  clear hK90 K90
  refine jD 6 dz (fun K91 hK91=>?_)
  simp[go_sem,e0,e1,e2,e10,gL,wa,wb,na,nb,pa,pb,di,dj,L1,L2,bi,bj,ci,cj,befL]
  refine hK91 _ _ _ _ ?_
  clear hK91 K91
  refine jD 6 dz (fun K92 hK92=>?_)
  simp[go_sem,e0,e1,e2,e10,gL,wa,wb,na,nb,pa,pb,di,dj,L1,L2,bi,bj,ci,cj,befL]
  refine hK92 _ _ _ _ ?_
  clear hK92 K92
  simp[go_sem,e0,e1,e2,e10,gL,wa,wb,na,nb,pa,pb,di,dj,iv1,iv2,L1,L2,bi,bj,ci,cj,befL]
  refine hK95 _ _ ?_
  refine hK4 _ _ ?_
  try clear hK4 K4
  refine qo (fun K5 hK5=>?_)
  refine qi kz ?_
  simp[go_sem,e10]
  refine hK5 _ _ ?_
  have hw1:=qF k oz
  exact ⟨c-(k+1),oz,k+1,swapL l1 (a+k) (b+k),rfl,oz,by simp[go_sem,e0],by simp[go_sem,e1],by simp[go_sem,e2],by simp[go_sem,e3],by simp[go_sem,hw1],by rw[hsw,show c-k=(c-(k+1))+1 by omega]; rfl,by rw[jJ]; exact hl1,gL9,hS9⟩
 ·skip
  simp only[decide_eq_false_iff_not] at hb
  obtain rfl:k=c:=oz
  rw[Nat.sub_self] at hsw
  refine qy ?_
  refine hR _ _ ?_
  exact hS.retP (r:=.tup []) gz ⟨rfl,by rw[hsw]; exact gL,hS⟩ gz
end Go.Proofs.YtfokgjhdndnnhaaGreatDoor
end W12S
