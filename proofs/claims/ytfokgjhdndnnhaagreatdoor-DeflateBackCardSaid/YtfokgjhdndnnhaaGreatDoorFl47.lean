/- Contracts: parts of lengths and distances. -/
import Derived.Test.YtfokgjhdndnnhaaGreatDoorD6
import Derived.Test.YtfokgjhdndnnhaaGreatDoorFl51
set_option linter.unusedVariables false
set_option linter.unusedSimpArgs false
set_option maxRecDepth 20000
noncomputable section W5S
namespace Go.Proofs.YtfokgjhdndnnhaaGreatDoor
open Go Go.Fl Go.Proofs
def partA (p:LPart):AV:=.agg [.int p.sym,.int p.more,.int p.bits]
theorem qkt (p:LPart) (n:Nat):(partA p).Lt n=True:=by simp[partA,go_sem]
theorem qnp (m e:Nat) (hm:m<2^62) (he:e<=60):bits .and .i64 (m:Int) ((2^e-1:Nat):Int)=((m%2^e:Nat):Int):=by
 have h:=qdo m e oz oz
 have hp:1<=2^e:=Nat.pow_pos dz
 have:((2^e-1:Nat):Int)=(2:Int)^e-1:=by rw[Int.natCast_sub hp]; simp
 rw[this]
 exact h
theorem qhh (n:Nat) (h3:3<=n) (h258:n<=258):SCalls Tryz.prog 73 [.int n] Heap.empty (partA (lenPart n)) Heap.empty:=by
 refine qE (sz:=41) (Tryz.call73) Tryz.func73 rfl (Nat.zero_le _) kz (fun R hR=>?_)
 refine qg (fun K1 hK1=>?_)
 refine qi kz ?_
 simp[go_sem]
 refine hK1 _ _ ?_
 try clear hK1 K1
 refine qg (fun K2 hK2=>?_)
 refine qm ?_
 refine qg (fun K3 hK3=>?_)
 refine qdz (fun env H=>env 0 = .int n/\env 2 = .ptr 0 0/\H.get 0=some [.int 0,.int 0,.int 0]) ⟨gz,gz,gz⟩ ?_
 rintro env H ⟨e0,e2,g0⟩
 rcases jv h3 h258 with ⟨hn,hres⟩ | ⟨hn,hres⟩ | ⟨e,q,hn11,hn258,h1e,he5,hq4,hq7,hq,hpe,hqe,hme,hres⟩
 ·skip
  have hn2:((n:Int)==258)=true:=by simp; omega
  refine qi kz ?_
  simp[go_sem,e0,hn2]
  refine hK3 _ _ ?_
  try clear hK3 K3
  refine qj (b:=true) gz (fun _=>?_) (fun h=>by cases h)
  refine qg (fun K4 hK4=>?_)
  refine qi kz ?_
  simp[go_sem,e2,g0]
  refine hK4 _ _ ?_
  try clear hK4 K4
  refine qx ?_
  simp only[go_sem]
  refine hR _ _ ?_
  rw[hres]
  exact qG (by simp[go_sem,partA,e2,g0,i64in]) (qP _) (Nat.zero_le _) (by simp[partA,go_sem])
 ·skip
  have hn2:((n:Int)==258)=false:=by simp; omega
  have hn3:(n:Int)<11:=oz
  have hw:=i64in ((n:Int)+254) oz oz
  refine qi kz ?_
  simp[go_sem,e0,hn2]
  refine hK3 _ _ ?_
  try clear hK3 K3
  refine qj (b:=false) gz (fun h=>by cases h) (fun _=>?_)
  refine qg (fun K5 hK5=>?_)
  refine qi kz ?_
  simp[go_sem,e0,hn3]
  refine hK5 _ _ ?_
  try clear hK5 K5
  refine qj (b:=true) gz (fun _=>?_) (fun h=>by cases h)
  refine qg (fun K6 hK6=>?_)
  refine qi kz ?_
  simp[go_sem,e0,e2,g0,hw]
  refine hK6 _ _ ?_
  try clear hK6 K6
  refine qx ?_
  simp only[go_sem]
  refine hR _ _ ?_
  rw[hres]
  exact qG (by simp[go_sem,partA,e2,g0,i64in]) (qP _) (Nat.zero_le _) (by simp[partA,go_sem])
 ·skip
  have hn2:((n:Int)==258)=false:=by simp; omega
  have hn3 : ¬ ((n:Int)<11):=oz
  obtain ⟨m,hm⟩ : ∃ m,n-3=m:=⟨_,rfl⟩
  rw[hm] at hq hpe hqe hme hres
  have hwm:IntKind.i64.wrap ((n:Int)-3)=(m:Int):=by rw[i64in _ oz oz]; omega
  have hlow:e=1\/8*2^(e-1)<=m:=by
   obtain ⟨e2,h4,h5,h6,h7,h8⟩:=qae (m:=m) (c:=8) (M:=13) oz oz oz
   rw[hpe] at h4
   subst h4
   exact h8
  have hhi:m<8*2^e:=by
   obtain ⟨e2,h4,h5,h6,h7,h8⟩:=qae (m:=m) (c:=8) (M:=13) oz oz oz
   rw[hpe] at h4
   subst h4
   exact h7
  obtain ⟨P,hP⟩ : ∃ P,2^e=P:=⟨_,rfl⟩
  have hP1:1<=P:=by rw[<- hP]; exact Nat.pow_pos dz
  have hP2:P<=2^13:=by rw[<- hP]; exact Nat.pow_le_pow_right dz oz
  have hs1:bshl .i64 1 (e:Int)=(P:Int):=by have:=zB 1 e oz oz; rw[Nat.one_mul,hP] at this; exact this
  have hsr:bshr .i64 (m:Int) (e:Int)=(q:Int):=by rw[jG m e oz,<- hq]
  have hwP:IntKind.i64.wrap ((P:Int)-1)=((P-1:Nat):Int):=by rw[i64in _ oz oz]; omega
  have han:bits .and .i64 (m:Int) ((P-1:Nat):Int)=((m%2^e:Nat):Int):=by rw[<- hP]; exact qnp m e oz oz
  obtain ⟨mo,hmo⟩ : ∃ mo,m%2^e=mo:=⟨_,rfl⟩
  rw[hmo] at han hres
  refine qi kz ?_
  simp[go_sem,e0,hn2]
  refine hK3 _ _ ?_
  try clear hK3 K3
  refine qj (b:=false) gz (fun h=>by cases h) (fun _=>?_)
  refine qg (fun K7 hK7=>?_)
  refine qi kz ?_
  simp[go_sem,e0,hn3]
  refine hK7 _ _ ?_
  try clear hK7 K7
  refine qj (b:=false) gz (fun h=>by cases h) (fun _=>?_)
  refine ql ?_
  refine hK2 _ _ ?_
  try clear hK2 K2
  refine qg (fun K8 hK8=>?_)
  refine qi kz ?_
  simp[go_sem]
  refine hK8 _ _ ?_
  try clear hK8 K8
  refine qg (fun K9 hK9=>?_)
  refine qm ?_
  refine qC (Inv:=fun m2 env H2 => ∃ k:Nat,m2=e-k/\1<=k/\k<=e/\env 0 = .int n/\env 2 = .ptr 0 0/\env 3 = .int k/\H2.get 0=some [.int 0,.int 0,.int 0]) ?_ (n:=e-1) (⟨1,rfl,oz,h1e,by simp[go_sem,e0],by simp[go_sem,e2],gz,by simp[go_sem,g0]⟩)
  clear e0 e2 g0
  rintro m2 env H2 ⟨k,rfl,hk1,hk2,e0,e2,e3,g0⟩
  have hpk:2^k<=2^13:=Nat.pow_le_pow_right dz oz
  obtain ⟨Q,hQ⟩ : ∃ Q,8*2^k=Q:=⟨_,rfl⟩
  have hs:bshl .i64 8 (k:Int)=(Q:Int):=by rw[<- hQ]; exact zB 8 k oz oz
  have hcmp:Q<=m↔k<e:=by
   rw[<- hQ]
   constructor
   ·intro h
    rcases Nat.lt_or_ge k e with h2 | h2
    ·exact h2
    ·obtain rfl:k=e:=oz
     omega
   ·intro h
    rcases hlow with h2 | h2
    ·omega
    ·exact Nat.le_trans (Nat.mul_le_mul_left 8 (Nat.pow_le_pow_right dz oz)) h2
  refine qg (fun K10 hK10=>?_)
  refine qg (fun K11 hK11=>?_)
  refine qi kz ?_
  simp[go_sem,e0,e3,hwm,hs]
  refine hK11 _ _ ?_
  try clear hK11 K11
  refine qj (b:=decide (Q<=m)) gz (fun hb=>?_) (fun hb=>?_)
  ·skip
   simp only[decide_eq_true_eq] at hb
   have hke:=hcmp.1 hb
   refine ql ?_
   refine hK10 _ _ ?_
   try clear hK10 K10
   refine qm ?_
   refine qo (fun K12 hK12=>?_)
   refine qi kz ?_
   simp[go_sem,e3]
   refine hK12 _ _ ?_
   have hw1:=qF k oz
   exact ⟨e-(k+1),oz,k+1,rfl,oz,oz,by simp[go_sem,e0],by simp[go_sem,e2],by simp[go_sem,hw1],g0⟩
  ·skip
   simp only[decide_eq_false_iff_not] at hb
   obtain rfl:k=e:=by
    rcases Nat.lt_or_ge k e with h | h
    ·exact absurd (hcmp.2 h) hb
    ·omega
   refine qy ?_
   refine hK9 _ _ ?_
   try clear hK9 K9
   refine qg (fun K13 hK13=>?_)
   refine qi kz ?_
   simp[go_sem,e0,e3,hwm,hsr]
   refine hK13 _ _ ?_
   try clear hK13 K13
   refine qg (fun K14 hK14=>?_)
   refine qo (fun K15 hK15=>?_)
   refine qi kz ?_
   simp[go_sem,e0,e2,e3,hwm,hs1,hwP,han,g0]
   refine hK15 _ _ ?_
   refine hK14 _ _ ?_
   try clear hK14 K14
   refine qx ?_
   simp only[go_sem]
   refine hR _ _ ?_
   rw[hres]
   have hf : ∀ z1 z2 z3:Int,z1=z2->z2=z3->z1=z3:=fun _ _ _ a b=>a.trans b
   refine qG (r:=partA ⟨265+4*(k-1)+(q-4),mo,k⟩) ?_ (qP _) (Nat.zero_le _) (by simp[partA,go_sem])
   simp[go_sem,partA,e2,g0]
   rw[i64in ((k:Int)-1) oz oz,i64in (4*((k:Int)-1)) oz oz,i64in (265+4*((k:Int)-1)) oz oz,i64in (265+4*((k:Int)-1)+q) oz oz,i64in _ oz oz]
   omega
theorem qls (n:Nat) (h1:1<=n) (h2:n<=32768):SCalls Tryz.prog 74 [.int n] Heap.empty (partA (distPart n)) Heap.empty:=by
 refine qE (sz:=35) (Tryz.call74) Tryz.func74 rfl (Nat.zero_le _) kz (fun R hR=>?_)
 refine qg (fun K1 hK1=>?_)
 refine qi kz ?_
 simp[go_sem]
 refine hK1 _ _ ?_
 try clear hK1 K1
 refine qg (fun K2 hK2=>?_)
 refine qg (fun K3 hK3=>?_)
 refine qdz (fun env H=>env 0 = .int n/\env 2 = .ptr 0 0/\H.get 0=some [.int 0,.int 0,.int 0]) ⟨gz,gz,gz⟩ ?_
 rintro env H ⟨e0,e2,g0⟩
 rcases jH h1 h2 with ⟨hn,hres⟩ | ⟨e,q,hn5,h1e,he5,hq4,hq7,hq,hpe,hqe,hme,hres⟩
 ·skip
  have hn3:(n:Int)<5:=oz
  have hw:IntKind.i64.wrap ((n:Int)-1)=((n-1:Nat):Int):=by rw[i64in _ oz oz]; omega
  refine qi kz ?_
  simp[go_sem,e0,hn3]
  refine hK3 _ _ ?_
  try clear hK3 K3
  refine qj (b:=true) gz (fun _=>?_) (fun h=>by cases h)
  refine qg (fun K4 hK4=>?_)
  refine qi kz ?_
  simp[go_sem,e0,e2,g0,hw]
  refine hK4 _ _ ?_
  try clear hK4 K4
  refine qx ?_
  simp only[go_sem]
  refine hR _ _ ?_
  rw[hres]
  exact qG (by simp[go_sem,partA,e2,g0]) (qP _) (Nat.zero_le _) (by simp[partA,go_sem])
 ·skip
  have hn3 : ¬ ((n:Int)<5):=oz
  obtain ⟨m,hm⟩ : ∃ m,n-1=m:=⟨_,rfl⟩
  rw[hm] at hq hpe hqe hme hres
  have hwm:IntKind.i64.wrap ((n:Int)-1)=(m:Int):=by rw[i64in _ oz oz]; omega
  have hlow:e=1\/4*2^(e-1)<=m:=by
   obtain ⟨e2,h4,h5,h6,h7,h8⟩:=qae (m:=m) (c:=4) (M:=13) oz oz oz
   rw[hpe] at h4
   subst h4
   exact h8
  have hhi:m<4*2^e:=by
   obtain ⟨e2,h4,h5,h6,h7,h8⟩:=qae (m:=m) (c:=4) (M:=13) oz oz oz
   rw[hpe] at h4
   subst h4
   exact h7
  obtain ⟨P,hP⟩ : ∃ P,2^e=P:=⟨_,rfl⟩
  have hP1:1<=P:=by rw[<- hP]; exact Nat.pow_pos dz
  have hP2:P<=2^13:=by rw[<- hP]; exact Nat.pow_le_pow_right dz oz
  have hs1:bshl .i64 1 (e:Int)=(P:Int):=by have:=zB 1 e oz oz; rw[Nat.one_mul,hP] at this; exact this
  have hsr:bshr .i64 (m:Int) (e:Int)=(q:Int):=by rw[jG m e oz,<- hq]
  have hwP:IntKind.i64.wrap ((P:Int)-1)=((P-1:Nat):Int):=by rw[i64in _ oz oz]; omega
  have han:bits .and .i64 (m:Int) ((P-1:Nat):Int)=((m%2^e:Nat):Int):=by rw[<- hP]; exact qnp m e oz oz
  obtain ⟨mo,hmo⟩ : ∃ mo,m%2^e=mo:=⟨_,rfl⟩
  rw[hmo] at han hres
  refine qi kz ?_
  simp[go_sem,e0,hn3]
  refine hK3 _ _ ?_
  try clear hK3 K3
  refine qj (b:=false) gz (fun h=>by cases h) (fun _=>?_)
  refine ql ?_
  refine hK2 _ _ ?_
  try clear hK2 K2
  refine qg (fun K5 hK5=>?_)
  refine qi kz ?_
  simp[go_sem]
  refine hK5 _ _ ?_
  try clear hK5 K5
  refine qg (fun K6 hK6=>?_)
  refine qm ?_
  refine qC (Inv:=fun m2 env H2 => ∃ k:Nat,m2=e-k/\1<=k/\k<=e/\env 0 = .int n/\env 2 = .ptr 0 0/\env 3 = .int k/\H2.get 0=some [.int 0,.int 0,.int 0]) ?_ (n:=e-1) (⟨1,rfl,oz,h1e,by simp[go_sem,e0],by simp[go_sem,e2],gz,by simp[go_sem,g0]⟩)
  clear e0 e2 g0
  rintro m2 env H2 ⟨k,rfl,hk1,hk2,e0,e2,e3,g0⟩
  have hpk:2^k<=2^13:=Nat.pow_le_pow_right dz oz
  obtain ⟨Q,hQ⟩ : ∃ Q,4*2^k=Q:=⟨_,rfl⟩
  have hs:bshl .i64 4 (k:Int)=(Q:Int):=by rw[<- hQ]; exact zB 4 k oz oz
  have hcmp:Q<=m↔k<e:=by
   rw[<- hQ]
   constructor
   ·intro h
    rcases Nat.lt_or_ge k e with h2 | h2
    ·exact h2
    ·obtain rfl:k=e:=oz
     omega
   ·intro h
    rcases hlow with h2 | h2
    ·omega
    ·exact Nat.le_trans (Nat.mul_le_mul_left 4 (Nat.pow_le_pow_right dz oz)) h2
  refine qg (fun K7 hK7=>?_)
  refine qg (fun K8 hK8=>?_)
  refine qi kz ?_
  simp[go_sem,e0,e3,hwm,hs]
  refine hK8 _ _ ?_
  try clear hK8 K8
  refine qj (b:=decide (Q<=m)) gz (fun hb=>?_) (fun hb=>?_)
  ·skip
   simp only[decide_eq_true_eq] at hb
   have hke:=hcmp.1 hb
   refine ql ?_
   refine hK7 _ _ ?_
   try clear hK7 K7
   refine qm ?_
   refine qo (fun K9 hK9=>?_)
   refine qi kz ?_
   simp[go_sem,e3]
   refine hK9 _ _ ?_
   have hw1:=qF k oz
   exact ⟨e-(k+1),oz,k+1,rfl,oz,oz,by simp[go_sem,e0],by simp[go_sem,e2],by simp[go_sem,hw1],g0⟩
  ·skip
   simp only[decide_eq_false_iff_not] at hb
   obtain rfl:k=e:=by
    rcases Nat.lt_or_ge k e with h | h
    ·exact absurd (hcmp.2 h) hb
    ·omega
   refine qy ?_
   refine hK6 _ _ ?_
   try clear hK6 K6
   refine qg (fun K10 hK10=>?_)
   refine qi kz ?_
   simp[go_sem,e0,e3,hwm,hsr]
   refine hK10 _ _ ?_
   try clear hK10 K10
   refine qg (fun K11 hK11=>?_)
   refine qo (fun K12 hK12=>?_)
   refine qi kz ?_
   simp[go_sem,e0,e2,e3,hwm,hs1,hwP,han,g0]
   refine hK12 _ _ ?_
   refine hK11 _ _ ?_
   try clear hK11 K11
   refine qx ?_
   simp only[go_sem]
   refine hR _ _ ?_
   rw[hres]
   refine qG (r:=partA ⟨2*(k+1)+(q-2),mo,k⟩) ?_ (qP _) (Nat.zero_le _) (by simp[partA,go_sem])
   simp[go_sem,partA,e2,g0]
   rw[i64in ((k:Int)+1) oz oz,i64in (2*((k:Int)+1)) oz oz,i64in (2*((k:Int)+1)+q) oz oz,i64in _ oz oz]
   omega
end Go.Proofs.YtfokgjhdndnnhaaGreatDoor
end W5S
noncomputable section Fl46S
namespace Go.Fl
open Go
structure DOk0 (sz:Nat) (ops:Array Oper):Prop where
 dsts:dstsOk sz ops
 acyc : ∀ (j:Nat) (q:Oper),ops[j]? = some q -> ∀ e∈q.after,Region.binds .any e=true->e.on<j
 apart : ∀ (i j:Nat) (p q:Oper),i<j->ops[i]? = some p->ops[j]? = some q -> ∀ t,p.dst=some t->q.dst≠some t
 down : ∀ (i j:Nat) (p q:Oper),i<j->ops[i]? = some p->ops[j]? = some q -> ∀ t,p.dst=some t->t∈q.looksAt ops->bef ops i j=true
 up : ∀ (i j:Nat) (p q:Oper),i<j->ops[i]? = some p->ops[j]? = some q -> ∀ t,q.dst=some t->t∈p.looksAt ops->bef ops i j=true
structure DOk2 (sz:Nat) (ops:Array Oper) (n:Nat):Prop extends DOk0 sz ops where
 late : ∀ (j:Nat) (q:Oper),ops[j]? = some q->n+1<j->bef ops n j=true/\bef ops (n+1) j=true
 fl : ∀ (j:Nat) (q:Oper),ops[j]? = some q->j<n->isC q=false
 chain : ∀ (i j:Nat) (p q:Oper),i<j->ops[i]? = some p->ops[j]? = some q->isC p=true->isC q=true->n+1<j->bef ops i j=true
section
variable {P:Program} {sz:Nat} {ops:Array Oper} {env0:Env} {val:Nat->AV} {hp:Nat->Heap}
theorem Inv.named0 (K:DOk0 sz ops) {ρ0:Rho} {I0:Nat->Prop} {w0:World} {D:Nat->Prop} {ρ : Rho} {I:Nat->Prop} {c:Nat} {a:Act} {w:World} (hD:Closed ops D)
  (V:Inv P sz ops env0 val hp ρ0 I0 w0 D ρ I c a w) {i:Nat} {o:Oper} (ho:ops[i]? = some o) (hi : ¬ D i) (hr : ∀ e∈o.after,Region.binds .any e=true->D e.on) {t:Tmp} (ht:t∈o.looksAt ops) :
  VR ρ I w.heap (envAt ops env0 val i t) (a.tmps.getD t Go.undef):=by
 have uniq : ∀ k m,dstAt ops k=some t->dstAt ops m=some t->k=m:=by
  intro k m hk hm
  obtain ⟨p,hp1,hp2⟩:=zg hk
  obtain ⟨q,hq1,hq2⟩:=zg hm
  rcases Nat.lt_trichotomy k m with h | h | h
  ·exact absurd hq2 (K.apart k m p q h hp1 hq1 t hp2)
  ·exact h
  ·exact absurd hp2 (K.apart m k q p h hq1 hp1 t hq2)
 rcases V.slots t with ⟨k,hk1,hk2,hk3⟩ | ⟨hno,hv⟩
 ·skip
  obtain ⟨p,hp1,hp2⟩:=zg hk2
  have hne:k≠i:=fun e=>hi (e ▸ hk1)
  rcases Nat.lt_or_ge k i with h | h
  ·rw[yl hk2 i h (fun m h1 _ hm=>by have:=uniq k m hk2 hm; omega)]
   exact hk3
  ·have hlt:i<k:=oz
   have hb:=K.up i k o p hlt ho hp1 t hp2 ht
   have hDi:D i:=hD.bef k i p hp1 (fun e h1 h2=>hD k p hk1 hp1 e h1 h2) hb
   exact absurd hDi hi
 ·skip
  have : ∀ k,k<i->dstAt ops k≠some t:=by
   intro k hk hd
   obtain ⟨p,hp1,hp2⟩:=zg hd
   have hb:=K.down k i p o hk hp1 ho t hp2 ht
   exact hno k (hD.bef i k o ho hr hb) hd
  rw[yj i this]
  exact hv
theorem Inv.slots_put0 (K:DOk0 sz ops) {ρ0:Rho} {I0:Nat->Prop} {w0:World} {D:Nat->Prop} {ρ ρ' : Rho} {I I' : Nat->Prop} {c:Nat} {a:Act} {w w' : World}
  (V:Inv P sz ops env0 val hp ρ0 I0 w0 D ρ I c a w) {i:Nat} {o:Oper} (ho:ops[i]? = some o) {v:Value} (hv:VR ρ' I' w'.heap (val i) v) (hx:Ext ρ I w ρ' I' w') :
  (a.put o.dst v).tmps.size=sz/\(a.put o.dst v).defers = [] /\
  ∀ t,(∃ k,(D k\/k=i)/\dstAt ops k=some t/\VR ρ' I' w'.heap (val k) ((a.put o.dst v).tmps.getD t Go.undef)) \/
   ((∀ k,(D k\/k=i)->dstAt ops k≠some t)/\VR ρ' I' w'.heap (env0 t) ((a.put o.dst v).tmps.getD t Go.undef)):=by
 have hdst:dstAt ops i=o.dst:=by simp[dstAt,ho]
 cases hd:o.dst with
 | none =>
  refine ⟨V.size,V.defers,fun t=>?_⟩
  simp only[Act.put]
  rcases V.slots t with ⟨k,h1,h2,h3⟩ | ⟨h1,h2⟩
  ·exact .inl ⟨k,.inl h1,h2,h3.mono hx⟩
  ·refine .inr ⟨?_,h2.mono hx⟩
   rintro k (h3 | h3)
   ·exact h1 k h3
   ·subst h3; rw[hdst,hd]; simp
 | some d =>
  have hlt:d<a.tmps.size:=by rw[V.size]; exact K.dsts i o d ho hd
  refine ⟨by simp[Act.put,V.size],V.defers,fun t=>?_⟩
  simp only[Act.put]
  by_cases e:d=t
  ·subst e
   refine .inl ⟨i,.inr rfl,by rw[hdst,hd],?_⟩
   have e1:(a.tmps.setIfInBounds d v).getD d Go.undef=v:=by simp[hlt]
   rw[e1]; exact hv
  ·have e1:(a.tmps.setIfInBounds d v).getD t Go.undef=a.tmps.getD t Go.undef:=by
    simp only[Array.getD_eq_getD_getElem?]
    rw[Array.getElem?_setIfInBounds_ne e]
   rw[e1]
   rcases V.slots t with ⟨k,h1,h2,h3⟩ | ⟨h1,h2⟩
   ·exact .inl ⟨k,.inl h1,h2,h3.mono hx⟩
   ·refine .inr ⟨?_,h2.mono hx⟩
    rintro k (h3 | h3)
    ·exact h1 k h3
    ·subst h3; rw[hdst,hd]; simpa using e
theorem yT {a:Act} {d:Option Tmp} {v:Value} {t:Tmp} (h:d≠some t):(a.put d v).tmps.getD t Go.undef=a.tmps.getD t Go.undef:=by
 cases d with
 | none=>rfl
 | some d =>
  simp only[Act.put]
  simp only[Array.getD_eq_getD_getElem?]
  rw[Array.getElem?_setIfInBounds_ne (fun e=>h (by rw[e]))]
theorem Inv.step0 (K:DOk0 sz ops) (T:Trace P ops env0 val hp) {ρ0:Rho} {I0:Nat->Prop} {w0:World} {D:Nat->Prop} {ρ : Rho} {I:Nat->Prop} {c:Nat} {a:Act} {w:World} (hD:Closed ops D)
  (V:Inv P sz ops env0 val hp ρ0 I0 w0 D ρ I c a w) {i:Nat} {o:Oper} (ho:ops[i]? = some o) (hi : ¬ D i) (hr : ∀ e∈o.after,Region.binds .any e=true->D e.on) (hchain : ∀ (k:Nat) (q:Oper),isC o=true->k<i->ops[k]? = some q->isC q=true->D k) {Kt:Act->World->Prop} {Q:Exit->Act->World->Prop}
  (hK : ∀ ρ' I' c' a' w',Inv P sz ops env0 val hp ρ0 I0 w0 (fun k=>D k\/k=i) ρ' I' c' a' w' -> Ext ρ I w ρ' I' w' -> (∀ t,o.dst≠some t->a'.tmps.getD t Go.undef=a.tmps.getD t Go.undef)->Kt a' w'):wpOp P ops Q i Kt a w:=by
 have hilt:=(Array.getElem?_eq_some_iff.1 ho).1
 have hnamed:=fun t ht=>V.named0 K hD ho hi hr (t:=t) ht
 let env' : Env:=fun t=>if t∈o.looksAt ops then envAt ops env0 val i t else .top
 have hcongr : ∀ t∈o.looksAt ops,envAt ops env0 val i t=env' t:=fun t ht=>by simp only[env',if_pos ht]
 have he:ERel sz ρ I w.heap env' a:=⟨V.size,V.defers,fun t=>by
  simp only[env']
  split
  ·exact hnamed t (by assumption)
  ·exact .top _,V.rel.glob⟩
 have hw:=qbk (o:=o) hcongr
 have hbefD : ∀ k,bef ops k i=true->D k:=fun k hb=>hD.bef i k o ho hr hb
 unfold wpOp
 rw[ho]
 simp only
 rcases T.step i o ho with ⟨h1,h2,h3⟩ | ⟨h1,h2⟩
 ·rw[hw] at h1
  rw[if_neg (by rw[zi h1 he K.dsts]; simp)]
  obtain ⟨s1,s2,s3⟩:=V.slots_put0 K ho (v:=Go.undef) (ρ' := ρ) (I':=I) (w':=w) (by rw[h2]; exact .sc _) (Ext.refl _ _ _)
  refine hK ρ I c _ w ⟨V.rel,V.ext,s1,s2,V.le,fun k h4 h5=>.inl (V.done k h4 h5),?_,s3⟩ (Ext.refl _ _ _) (fun t ht=>yT ht)
  rintro k h4 (h5 | h5)
  ·exact V.todo k h4 h5
  ·subst h5
   obtain ⟨o',h6,_,h7⟩:=h4
   rw[ho] at h6; cases h6
   rw[<- hw] at h1
   rw[h1] at h7; cases h7
 ·have h1':=h1
  rw[hw] at h1
  rw[if_pos (zi h1 he K.dsts)]
  refine .inl ?_
  cases hc:isC o with
  | true =>
   have hch:ChainAt ops env0 val i:=⟨o,ho,hc,h1'⟩
   have hci:c<=i:=by
    rcases Nat.lt_or_ge i c with h | h
    ·exact absurd (V.done i hch h) hi
    ·exact h
   have hno : ∀ k,c<=k->k<i -> ¬ ChainAt ops env0 val k:=by
    rintro k h4 h5 hk
    obtain ⟨p,hp1,hp2,hp3⟩:=hk
    have:=V.todo k ⟨p,hp1,hp2,hp3⟩ (hchain k p hc h5 hp1 hp2)
    omega
   have heq:hp i=hp c:=T.const' hci oz hno
   have hst:=StepTo_congr hcongr h2
   rw[heq] at hst
   refine StepTo_run hst V.rel he.eval ?_
   intro v w' ρ' I' h4 h5 h6
   obtain ⟨s1,s2,s3⟩:=V.slots_put0 K ho h4 h6
   refine hK ρ' I' (i+1) _ w' ⟨h5,V.ext.trans h6,s1,s2,oz,?_,?_,s3⟩ h6 (fun t ht=>yT ht)
   ·intro k h7 h8
    by_cases e:k=i
    ·exact .inr e
    ·rcases Nat.lt_or_ge k c with h9 | h9
     ·exact .inl (V.done k h7 h9)
     ·exact absurd h7 (hno k h9 oz)
   ·rintro k h7 (h8 | h8)
    ·have:=V.todo k h7 h8; omega
    ·omega
  | false =>
   have haop:=StepTo_aop hc h2
   have hat:aop P o (aev (envAt ops env0 val i)) (hp c)=some (val i,hp c):=by
    cases hP:isP o with
    | true=>exact (qbi hP haop).2 _
    | false =>
     have hL:isL o=true:=by
      cases hL:isL o with
      | true=>rfl
      | false=>simp[isC,hP,hL] at hc
     have hsame:=qbj hL haop
     rw[hsame] at haop
     have hnoti : ¬ ChainAt ops env0 val i:=by
      rintro ⟨o',h6,h7,_⟩
      rw[ho] at h6; cases h6
      rw[hc] at h7; cases h7
     rcases Nat.lt_or_ge i c with hic | hic
     ·skip
      by_cases hex : ∃ k,i<=k/\k<c/\ChainAt ops env0 val k
      ·skip
       have hgr : ∃ k,i<=k/\k<c/\ChainAt ops env0 val k /\ ∀ m,k<m->m<c -> ¬ ChainAt ops env0 val m:=by
        obtain ⟨k,h4,h5,h6⟩:=hex
        have : ∀ (d k:Nat),c-k<=d->i<=k->k<c->ChainAt ops env0 val k -> ∃ k,i<=k/\k<c/\ChainAt ops env0 val k /\ ∀ m,k<m->m<c -> ¬ ChainAt ops env0 val m:=by
         intro d
         induction d with
         | zero=>intro k h7 h8 h9; omega
         | succ d ih =>
          intro k h7 h8 h9 h10
          by_cases h11 : ∃ m,k<m/\m<c/\ChainAt ops env0 val m
          ·obtain ⟨m,h12,h13,h14⟩:=h11
           exact ih m oz oz h13 h14
          ·exact ⟨k,h8,h9,h10,fun m h12 h13 h14=>h11 ⟨m,h12,h13,h14⟩⟩
        exact this _ k (Nat.le_refl _) h4 h5 h6
       obtain ⟨k,h4,h5,h6,h7⟩:=hgr
       have hki:i≠k:=fun e=>hnoti (e ▸ h6)
       obtain ⟨p,hp1,hp2,hp3⟩:=h6
       have hDk:=V.done k ⟨p,hp1,hp2,hp3⟩ h5
       have hnb:bef ops i k=false:=by
        cases hb:bef ops i k with
        | false=>rfl
        | true=>exact absurd (hD.bef k i p hp1 (fun e h8 h9=>hD k p hDk hp1 e h8 h9) hb) hi
       have:=T.late i k o p ho hp1 hL hp2 h1' hp3 oz hnb
       have heq:hp c=hp (k+1):=T.const' oz V.le (fun m h8 h9=>h7 m oz h9)
       rw[heq]; exact this
      ·have heq:hp c=hp i:=T.const' oz V.le (fun k h4 h5 h6=>hex ⟨k,h4,h5,h6⟩)
       rw[heq]; exact haop
     ·by_cases hex : ∃ k,c<=k/\k<i/\ChainAt ops env0 val k
      ·have hls : ∃ k,c<=k/\k<i/\ChainAt ops env0 val k /\ ∀ m,c<=m->m<k -> ¬ ChainAt ops env0 val m:=by
        obtain ⟨k,h4,h5,h6⟩:=hex
        have : ∀ (k:Nat),c<=k->k<i->ChainAt ops env0 val k -> ∃ k,c<=k/\k<i/\ChainAt ops env0 val k /\ ∀ m,c<=m->m<k -> ¬ ChainAt ops env0 val m:=by
         intro k
         induction k using Nat.strongRecOn with
         | _ k ih =>
          intro h8 h9 h10
          by_cases h11 : ∃ m,c<=m/\m<k/\ChainAt ops env0 val m
          ·obtain ⟨m,h12,h13,h14⟩:=h11
           exact ih m h13 h12 oz h14
          ·exact ⟨k,h8,h9,h10,fun m h12 h13 h14=>h11 ⟨m,h12,h13,h14⟩⟩
        exact this k h4 h5 h6
       obtain ⟨k,h4,h5,h6,h7⟩:=hls
       obtain ⟨p,hp1,hp2,hp3⟩:=h6
       have hnb:bef ops k i=false:=by
        cases hb:bef ops k i with
        | false=>rfl
        | true =>
         have:=V.todo k ⟨p,hp1,hp2,hp3⟩ (hbefD k hb)
         omega
       have:=T.early i k o p ho hp1 hL hp2 h1' hp3 h5 hnb
       have heq:hp k=hp c:=T.const' h4 oz h7
       rw[heq] at this
       exact this
      ·have heq:hp i=hp c:=T.const' hic oz (fun k h4 h5 h6=>hex ⟨k,h4,h5,h6⟩)
       rw[<- heq]; exact haop
   have hst:=StepTo_congr hcongr (qaf hc hat)
   refine StepTo_run hst V.rel he.eval ?_
   intro v w' ρ' I' h4 h5 h6
   obtain ⟨s1,s2,s3⟩:=V.slots_put0 K ho h4 h6
   refine hK ρ' I' c _ w' ⟨h5,V.ext.trans h6,s1,s2,V.le,fun k h7 h8=>.inl (V.done k h7 h8),?_,s3⟩ h6 (fun t ht=>yT ht)
   rintro k h7 (h8 | h8)
   ·exact V.todo k h7 h8
   ·subst h8
    obtain ⟨o',h9,h10,_⟩:=h7
    rw[ho] at h9; cases h9
    rw[hc] at h10; cases h10
theorem any_run (K:DOk0 sz ops) {Q:Exit->Act->World->Prop} {S:(Nat->Prop)->Act->World->Prop}
  (fin : ∀ D a w,(∀ i,i<ops.size->D i)->S D a w->Q .normal a w)
  (step : ∀ D a w i o,Closed ops D->S D a w->ops[i]? = some o -> ¬ D i->(∀ e∈o.after,Region.binds .any e=true->D e.on) -> ∀ Kt:Act->World->Prop,(∀ a' w',S (fun k=>D k\/k=i) a' w' -> Kt a' w')->wpOp P ops Q i Kt a w) :
  ∀ (fuel:Nat) (listed:Array Bool) (a:Act) (w:World),listed.size=ops.size->listed.toList.count false=fuel->Closed ops (fun k=>listed.getD k false=true) ->
   S (fun k=>listed.getD k false=true) a w->wpAny P .any ops Q fuel listed a w:=by
 have memready : ∀ (listed:Array Bool) (i:Nat),listed.size=ops.size->(i∈Region.ready .any ops listed ↔ ∃ o,ops[i]? = some o/\listed.getD i false=false /\ ∀ e∈o.after,Region.binds .any e=true->listed.getD e.on false=true):=by
  intro listed i hs
  unfold Region.ready
  simp only[List.mem_filter,List.mem_range,Bool.and_eq_true]
  constructor
  ·rintro ⟨h1,h2,h3⟩
   have ho:=Array.getElem?_eq_getElem h1
   refine ⟨_,ho,?_,?_⟩
   ·have hlt:i<listed.size:=oz
    simp[Array.getD_eq_getD_getElem?,hlt] at h2 |-
    exact h2
   ·rw[ho] at h3
    simp only[Option.map_some,Option.getD_some,Array.all_eq_true'] at h3
    intro e he hb
    have:=h3 e he
    simpa [hb] using this
  ·rintro ⟨o,h1,h2,h3⟩
   have hlt:=(Array.getElem?_eq_some_iff.1 h1).1
   refine ⟨hlt,?_,?_⟩
   ·have hlt' : i<listed.size:=oz
    simp[Array.getD_eq_getD_getElem?,hlt'] at h2 |-
    exact h2
   ·rw[h1]
    simp only[Option.map_some,Option.getD_some,Array.all_eq_true']
    intro e he
    cases hb:Region.binds .any e with
    | false=>rfl
    | true=>simp[h3 e he hb]
 have done : ∀ (listed:Array Bool),listed.size=ops.size->Region.ready .any ops listed = [] -> ∀ i,i<ops.size->listed.getD i false=true:=by
  intro listed hs hre i
  induction i using Nat.strongRecOn with
  | _ i ih =>
   intro hi
   cases hl:listed.getD i false with
   | true=>rfl
   | false =>
    have ho:=Array.getElem?_eq_getElem hi
    have:i∈Region.ready .any ops listed:=(memready listed i hs).2 ⟨_,ho,hl,fun e he hb=>ih e.on (K.acyc i _ ho e he hb) (by have:=K.acyc i _ ho e he hb; omega)⟩
    rw[hre] at this
    cases this
 intro fuel
 induction fuel with
 | zero =>
  intro listed a w hs hc hD V
  have hre:Region.ready .any ops listed = []:=by
   cases hr:Region.ready .any ops listed with
   | nil=>rfl
   | cons i l =>
    obtain ⟨o,h1,h2,_⟩:=(memready listed i hs).1 (by rw[hr]; simp)
    have hlt:=(Array.getElem?_eq_some_iff.1 h1).1
    have hmem:false∈listed.toList:=by
     have hlt' : i<listed.size:=oz
     have:listed.toList[i]? = some false:=by
      simp[Array.getD_eq_getD_getElem?,hlt'] at h2
      simp[hlt',h2]
     exact List.mem_of_getElem? this
    have:=List.count_pos_iff.2 hmem
    omega
  exact ⟨hre,fin _ a w (done listed hs hre) V⟩
 | succ fuel ih =>
  intro listed a w hs hc hD V
  refine ⟨fun hre=>fin _ a w (done listed hs hre) V,fun i hi=>?_⟩
  obtain ⟨o,h1,h2,h3⟩:=(memready listed i hs).1 hi
  have hlt:=(Array.getElem?_eq_some_iff.1 h1).1
  have hlt' : i<listed.size:=oz
  have hset : ∀ k,(listed.setIfInBounds i true).getD k false=true↔(listed.getD k false=true\/k=i):=by
   intro k
   simp only[Array.getD_eq_getD_getElem?,Array.getElem?_setIfInBounds]
   by_cases e:i=k
   ·subst e; simp[hlt']
   ·rw[if_neg e]
    constructor
    ·exact .inl
    ·rintro (h | h)
     ·exact h
     ·exact absurd h.symm e
  refine step _ a w i o hD V h1 (by simp[h2]) h3 _ ?_
  intro a' w' V'
  have hDeq:(fun k=>(listed.setIfInBounds i true).getD k false=true)=(fun k=>listed.getD k false=true\/k=i):=by
   funext k; exact propext (hset k)
  refine ih (listed.setIfInBounds i true) a' w' (by simp[hs]) ?_ ?_ (by rw[hDeq]; exact V')
  ·have hget:listed.toList[i]? = some false:=by
    simp[Array.getD_eq_getD_getElem?,hlt'] at h2
    simp[hlt',h2]
   have:=qbl listed.toList i hget
   rw[Array.toList_setIfInBounds]
   omega
  ·rw[hDeq]
   rintro k q (hk | hk) hq e he hb
   ·exact .inl (hD k q hk hq e he hb)
   ·subst hk; rw[h1] at hq; cases hq; exact .inl (h3 e he hb)
end
end Go.Fl
end Fl46S
noncomputable section Fl47S
namespace Go.Fl
open Go
def Junk (zs:List AV) (t:TypeId) (ρ : Rho) (I:Nat->Prop) (w0 w:World) (v:Value) (cb:Nat):Prop :=
 v = .pointer (some ⟨cb,0,none⟩)/\(∃ c:Array Value,w.heap[cb]? = some (.cells c t)/\zs=c.toList.map .sc)/\w0.heap.size<=cb /\ ¬ I cb /\ ∀ b base,ρ b≠some (some (cb,base))
theorem Junk.lt {zs:List AV} {t:TypeId} {ρ : Rho} {I:Nat->Prop} {w0 w:World} {v:Value} {cb:Nat} (h:Junk zs t ρ I w0 w v cb):cb<w.heap.size:=by
 obtain ⟨_,⟨c,h2,_⟩,_⟩:=h
 exact (Array.getElem?_eq_some_iff.1 h2).1
theorem Junk.ext {zs:List AV} {t:TypeId} {ρ ρ' : Rho} {I I' : Nat->Prop} {w0 w w' : World} {v:Value} {cb:Nat} (h:Junk zs t ρ I w0 w v cb) (hx:Ext ρ I w ρ' I' w'):Junk zs t ρ' I' w0 w' v cb:=by
 have hlt:=h.lt
 obtain ⟨h1,⟨c,h2,h3⟩,h4,h5,h6⟩:=h
 refine ⟨h1,⟨c,by rw[hx.frame cb hlt h6]; exact h2,h3⟩,h4,fun hI=>?_,fun b base hb=>?_⟩
 ·rcases hx.newI cb hI with h | h | ⟨b0,base0,h⟩
  ·exact h5 h
  ·omega
  ·exact h6 _ _ h
 ·rcases hx.newR b cb base hb with h | h | ⟨b0,base0,h⟩
  ·exact h6 _ _ h
  ·omega
  ·exact h6 _ _ h
theorem qhi {ρ : Rho} {I:Nat->Prop} {H:Heap} {hp:Array Obj} (h:Rel ρ I H hp) {cs:List AV} {c:Array Value} {e:TypeId} {cb:Nat} (hc:hp[cb]? = some (.cells c e)) (hI : ¬ I cb)
  (hno : ∀ b base,ρ b≠some (some (cb,base))) (hl:cs.length<=c.size) (hv : ∀ i x,cs[i]? = some x->VR ρ I hp x (c.getD i Go.undef)) :
  Rel (ρ.upd H.next (some (cb,0))) I (H.alloc cs) hp /\ ∀ b p,ρ b=some p->(ρ.upd H.next (some (cb,0))) b=some p:=by
 have hrho : ∀ b p,ρ b=some p->(ρ.upd H.next (some (cb,0))) b=some p:=by
  intro b p hb
  have:=h.rng b p hb
  rw[Rho.upd_other _ _ oz]; exact hb
 have mono : ∀ x v,VR ρ I hp x v->VR (ρ.upd H.next (some (cb,0))) I hp x v:=fun x v hx=>hx.mono' hrho (fun _ h=>h) (fun _ _=>rfl) (fun _ c _ fz h=>⟨c,fz,h,rfl⟩)
 refine ⟨⟨?_,?_,?_,?_,h.irng,h.glob⟩,hrho⟩
 ·intro b cs' hb
  rw[Heap.get_alloc] at hb
  split at hb
  ·rename_i e1; subst e1; cases hb
   exact .inr ⟨cb,0,c,e,Rho.upd_same _ _ _,hI,⟨(0,0),FzOk.zero _,hc⟩,by simpa using hl,fun i x hx'=>by simpa using mono _ _ (hv i x hx')⟩
  ·rename_i e1
   rcases h.live b cs' hb with ⟨h2,h3⟩ | ⟨cb',base,c',e',h2,h3,h4,h5,h6⟩
   ·exact .inl ⟨by rw[Rho.upd_other _ _ e1]; exact h2,h3⟩
   ·exact .inr ⟨cb',base,c',e',by rw[Rho.upd_other _ _ e1]; exact h2,h3,h4,h5,fun i x hx'=>mono _ _ (h6 i x hx')⟩
 ·intro b b' cs1 cs2 cb1 base base' hb hb' hr hr'
  rw[Heap.get_alloc] at hb hb'
  by_cases e1:b=H.next
  ·by_cases e2:b' = H.next
   ·rw[e1,e2]
   ·rw[e1,Rho.upd_same] at hr
    rw[Rho.upd_other _ _ e2] at hr'
    cases hr
    exact absurd hr' (hno _ _)
  ·by_cases e2:b' = H.next
   ·rw[e2,Rho.upd_same] at hr'
    rw[Rho.upd_other _ _ e1] at hr
    cases hr'
    exact absurd hr (hno _ _)
   ·rw[Rho.upd_other _ _ e1] at hr
    rw[Rho.upd_other _ _ e2] at hr'
    rw[if_neg e1] at hb
    rw[if_neg e2] at hb'
    exact h.inj _ _ _ _ _ _ _ hb hb' hr hr'
 ·intro b p hb
  by_cases e1:b=H.next
  ·subst e1; show H.next<H.next+1; omega
  ·rw[Rho.upd_other _ _ e1] at hb; have:=h.rng _ _ hb; show b<H.next+1; omega
 ·intro b cb1 base hb
  by_cases e1:b=H.next
  ·subst e1; rw[Rho.upd_same] at hb; cases hb; exact ⟨_,_,_,hc⟩
  ·rw[Rho.upd_other _ _ e1] at hb
   exact h.at_ _ _ _ hb
theorem alloc_wp {P:Program} {d:Tmp} {t ty:TypeId} {pos:String} {af:Array Edge} {zs:List AV} (hz:zeroC P t=some zs) {a:Act} {w:World} {K:Act->World->Prop} {Q:Exit->Act->World->Prop}
  (hk : ∀ c:Array Value,zs=c.toList.map .sc->K (a.put (some d) (.pointer (some ⟨w.heap.size,0,none⟩))) (w.alloc (.cells c t))):(⟨some d,.alloc t,ty,pos,af,none⟩:Oper).wp P a w K Q:=by
 obtain ⟨z,h2,h3⟩:=qhj P hz w
 unfold Oper.wp
 have:(execOp a.eval (⟨some d,.alloc t,ty,pos,af,none⟩:Oper)).run P w = .ok (.value (.pointer (some ⟨w.heap.size,0,none⟩))) (w.alloc (.cells z.cells t)):=by
  simp[execOp,Instr.alloc,h2,newVar,newRow]
 rw[this]
 exact hk z.cells h3
section
variable {P:Program} {sz:Nat} {ops:Array Oper} {env0:Env} {val:Nat->AV} {hp:Nat->Heap} {n:Nat} {d0 d1:Tmp} {zs:List AV} {t:TypeId}
end
end Go.Fl
end Fl47S
