/- Contracts: the best lengths. -/
import Derived.Test.YtfokgjhdndnnhaaGreatDoorW20
set_option maxHeartbeats 2000000
set_option linter.unusedVariables false
set_option linter.unusedSimpArgs false
set_option maxRecDepth 20000
noncomputable section
namespace Go.Proofs.YtfokgjhdndnnhaaGreatDoor
open Go Go.Fl Go.Proofs
def rowsN (p counts:List Nat) (i:Nat):List AV:=nV ((p.take i).map fun s=>(counts.getD s 0,[s]))
theorem rowsN_lt (p counts:List Nat) (i n:Nat) : ∀ x∈rowsN p counts i,x.Lt n:=qgh _ n
theorem qa7 {H:Heap} {Q:Nat} {a b:List Nat} (gQ:H.get Q=some [iA a,iA b]) (h0:0<a.length) (hl:a.length+b.length<=1000):SCalls Tryz.prog 118 [.ms Q 0 2 1] H (iA (a++b)) (H.del Q):=by
 have h:=Concat_s [a,b] (by simp; omega) (by simp; omega) (by simp)
 have e:([a,b]:List (List Nat)).flatten=a++b:=by simp
 rw[e] at h
 refine qaz h (fun x hx=>?_) (by rw[zI]; trivial) (b:=Q) (.cons (Froz.row gQ (by rw[Heap.get_del,if_pos rfl]) (by simp) rfl) .nil)
 simp only[List.mem_singleton] at hx
 subst hx
 refine .vs fun y hy=>?_
 simp only[lV,List.map_cons,List.map_nil,List.mem_cons,List.not_mem_nil,or_false] at hy
 rcases hy with rfl | rfl <;> (rw[zI]; trivial)
theorem zH {S:Nat->Prop} {H H' : Heap} (h:Step S H H') {b:Nat} (hb : ¬ S b):Step S H (H'.del b):=Step.del (bo:=some b) h (fun k hk=>by cases hk; exact hb)
theorem GrN.keep {S:Nat->Prop} {H H' : Heap} {x:AV} {sz n:Nat} {cs:List AV} (h:GrN S H x sz n cs) (hk : ∀ b c,H.get b=some c->H'.get b=some c):GrN S H' x sz n cs:=by
 rcases h with h | ⟨q,h1,h2,h3,h4⟩
 ·exact .inl h
 ·exact .inr ⟨q,h1,h2,hk _ _ h3,h4⟩
theorem jM {P:Program} {o:Oper} {env:Env} {H:Heap} {cs:List AV} {len sz:Nat} (h:aop P o (aev env) H=some (.ms H.next 0 len sz,H.alloc cs)) (hl:len*sz=cs.length):OpSem P o env H (.vs len sz cs) ((H.alloc cs).del H.next) :=
 qho h (fun b c hb=>by rw[Heap.get_del] at hb; split at hb; cases hb; exact hb) rfl (Froz.row (by rw[Heap.get_alloc,if_pos rfl]) (by rw[Heap.get_del,if_pos rfl]) oz (by rw[List.drop_zero,List.take_of_length_le oz]))
theorem cloneF {H:Heap} {q:Nat} {a b:NodeL} {r:List NodeL} (gq:H.get q=some ((nC a++nC b)++nV r)) (hl:r.length<=1000) : ∃ X,SCalls Tryz.prog 120 [.ms q 4 r.length 2] H (.ms (H.next+1) 0 r.length 2) X/\X.next=H.next+2/\X.get (H.next+1)=some (nV r)/\Step (fun z=>z<H.next) H X:=by
 refine ⟨_,nclone_s (pre:=nC a++nC b) rfl rfl hl gq,by rw[Heap.next_regrow,Heap.next_alloc],?_,?_⟩
 ·have:=zf (H:=H.alloc []) (bo:=some H.next) (v:=nV r)
  rw[Heap.next_alloc] at this
  exact this
 ·exact ((Step.refl _ _).alloc (by simp)).regrow (fun b hb=>by cases hb; exact Nat.lt_irrefl _) (qgh _ _)
theorem insF {l:List NodeL} {x:NodeL} {b vq n k:Nat} {X:Heap} (hn:l.length=n) (hk:k<=n) (hl:n<=1000) (gb:X.get b=some (nV l)) (gv:X.get vq=some (nC x)) (hne:b≠vq) : ∃ Y,SCalls Tryz.prog 119 [.ms b 0 n 2,.int k,.ms vq 0 1 2] X (.ms X.next 0 (n+1) 2) Y/\Y.next=X.next+1/\Y.get X.next=some (nV (insA l k x))/\Step (fun z=>z≠b) X Y :=
 ⟨_,ins_s hn hk hl gb gv hne,rfl,by rw[Heap.get_alloc]; exact if_pos rfl,(zH (Step.refl _ _) (fun h=>h rfl)).alloc (qgh _ _)⟩
theorem qbt (l:List Nat) (k n:Nat):(AV.vs k 1 (iV l)).Lt n:=.vs (jb l n)
theorem lt2 (c:Int) (l:List Nat) (n:Nat) : ∀ x ∈ [AV.int c,.vs l.length 1 (iV l)],x.Lt n:=by
 intro x hx
 simp only[List.mem_cons,List.not_mem_nil,or_false] at hx
 rcases hx with rfl | rfl
 ·exact .sc _
 ·exact qbt _ _ _
theorem lt3 (a b:List Nat) (n:Nat) : ∀ x ∈ [AV.vs a.length 1 (iV a),.vs b.length 1 (iV b)],x.Lt n:=by
 intro x hx
 simp only[List.mem_cons,List.not_mem_nil,or_false] at hx
 rcases hx with rfl | rfl <;> exact qbt _ _ _
theorem qog {s:List Nat} {i:Nat} {out:List Nat} (h:i<s.length):bumpAll out (s.take (i+1))=(bumpAll out (s.take i)).set (s.getD i 0) ((bumpAll out (s.take i)).getD (s.getD i 0) 0+1):=by
 unfold bumpAll
 rw[List.take_add_one,List.getElem?_eq_getElem h,List.foldl_append,qU h]
 rfl
theorem bump_le {s:List Nat} {out:List Nat} {B:Nat} (hs:s.Nodup) (hb : ∀ i∈s,i<out.length) (ho : ∀ j,out.getD j 0<=B) (j:Nat):(bumpAll out s).getD j 0<=B+1:=by
 rw[bump_at s out hs hb]
 have:=ho j
 split <;> omega
theorem tw_step {r:List NodeL} {P:NodeL->Bool} {k:Nat} (hk:k<=(r.takeWhile P).length):k<(r.takeWhile P).length ↔ ∃ y,r[k]? = some y/\P y=true:=by
 induction r generalizing k with
 | nil=>simp
 | cons x r ih =>
  rw[List.takeWhile_cons] at hk |-
  by_cases hp:P x=true
  ·rw[if_pos hp] at hk |-
   cases k with
   | zero=>simp[hp]
   | succ k =>
    simp only[List.length_cons] at hk |-
    have:=ih (k:=k) oz
    simp only[List.getElem?_cons_succ]
    rw[<- this]
    omega
  ·rw[if_neg hp] at hk |-
   have:k=0:=by simpa using hk
   subst this
   simp[hp]
theorem qoh (x:NodeL) (r:List NodeL):insA r (r.takeWhile fun y=>decide (y.1<=x.1)).length x=insN x r:=by
 unfold insA insN
 have e:=List.takeWhile_append_dropWhile (p:=fun y:NodeL=>decide (y.1<=x.1)) (l:=r)
 generalize r.takeWhile (fun y=>decide (y.1<=x.1))=A at *
 generalize r.dropWhile (fun y=>decide (y.1<=x.1))=B at *
 rw[<- e,List.take_left,List.drop_left]
theorem nV_get {l:List NodeL} {i:Nat} {x:NodeL} (h:l[i]? = some x) : ∃ r,(nV l).drop (i*2) = .int (x.1:Nat)::iA x.2::r:=by
 rw[qjg]
 have hi:=(List.getElem?_eq_some_iff.1 h).1
 rw[List.drop_eq_getElem_cons hi,qec]
 have:l[i]=x:=(List.getElem?_eq_some_iff.1 h).2
 rw[this]
 exact ⟨_,rfl⟩
theorem qed {k:Nat} {nodes:List NodeL} {out:List Nat} (h:nodes.length<=1):bestGo k nodes out=out:=by
 match k,nodes,h with
 | 0,_,_=>simp[bestGo]
 | _+1,[],_=>simp[bestGo]
 | _+1,[x],_=>simp[bestGo]
 | _+1,_::_::_,h=>simp at h
theorem KInv.start {n:Nat} {p:List Nat} (counts:List Nat):KInv p.length n p (p.map fun s=>(counts.getD s 0,[s])) (List.replicate n 0):=by
 refine ⟨by simp,?_,?_,?_,fun s _=>jo n s⟩
 ·rw[List.flatMap_map]
  simp
 ·intro x hx
  obtain ⟨s,_,rfl⟩:=List.mem_map.1 hx
  simp only[List.map_cons,List.map_nil,sumL,jo]
  simp
 ·intro s _
  rw[jo,List.length_map]
  omega
def NodsOk (p:List Nat) (nodes:List NodeL):Prop:=(∀ x∈nodes,0<x.2.length)/\sumL (nodes.map (·.1))<=p.length*1073741824
theorem NodsOk.start {p counts:List Nat} (hle : ∀ x,counts.getD x 0<=1073741824):NodsOk p (p.map fun s=>(counts.getD s 0,[s])):=by
 refine ⟨fun x hx=>by obtain ⟨s,_,rfl⟩:=List.mem_map.1 hx; simp,?_⟩
 induction p with
 | nil=>simp[sumL]
 | cons s p ih =>
  simp only[List.map_cons,sumL,List.length_cons] at ih |-
  have:=hle s
  omega
theorem NodsOk.step {p:List Nat} {a b:NodeL} {r:List NodeL} (h:NodsOk p (a::b::r)):NodsOk p (insN (a.1+b.1,a.2++b.2) r):=by
 refine ⟨fun x hx=>?_,?_⟩
 ·rcases List.mem_cons.1 ((qbg _ r).mem_iff.1 hx) with rfl | h2
  ·have:=h.1 a List.mem_cons_self
   simp only[List.length_append]; omega
  ·exact h.1 x (List.mem_cons_of_mem _ (List.mem_cons_of_mem _ h2))
 ·rw[qdp ((qbg _ r).map _)]
  have:=h.2
  simp only[List.map_cons,sumL] at this |-
  omega
theorem KInv.symbols {K n:Nat} {p:List Nat} {a b:NodeL} {r:List NodeL} {out:List Nat} (hn:p.Nodup) (h:KInv K n p (a::b::r) out):(a.2++b.2).Nodup/\(∀ i∈a.2++b.2,i∈p)/\a.2.length+b.2.length<=p.length:=by
 have hp0:((a.2++b.2)++r.flatMap (·.2)).Perm p:=by have:=h.perm; simp only[List.flatMap_cons] at this; rw[List.append_assoc]; exact this
 refine ⟨(List.nodup_append.1 (hp0.nodup_iff.2 hn)).1,fun i hi=>hp0.mem_iff.1 (List.mem_append_left _ hi),?_⟩
 have:=hp0.length_eq
 simp only[List.length_append] at this
 omega
theorem best_p {S:Nat->Prop} {O no:Nat} (p counts:List Nat) (hO : ¬ S O) (hp:p.length<=400) (hnd:p.Nodup) (hps : ∀ s∈p,s<counts.length) (hno:counts.length=no) (hno2:no<=1000) (hle : ∀ x,counts.getD x 0<=1073741824) {H:Heap} (gO:H.get O=some (iV (List.replicate no 0))) (hSn : ∀ b,S b->b<H.next):SCallsP Tryz.prog 104 [iA p,iA counts,.ms O 0 no 1] H (fun r H'=>r = .tup []/\H'.get O=some (iV (bestL p counts (List.replicate no 0)))/\Step S H H'):=by
 obtain ⟨n,hn⟩ : ∃ n,p.length=n:=⟨_,rfl⟩
 obtain ⟨cn,hcn⟩ : ∃ n,counts.length=n:=⟨_,rfl⟩
 have hiL:(iV p).length=n:=by rw[qK,hn]
 have hcL:(iV counts).length=cn:=by rw[qK,hcn]
 have hOn:=Heap.lt_of_get gO
 obtain ⟨H0,hH0⟩ : ∃ X,H=X:=⟨_,rfl⟩
 have hbl:bestL p counts (List.replicate no 0)=bestGo n (p.map fun s=>(counts.getD s 0,[s])) (List.replicate no 0):=by unfold bestL; rw[hn]
 refine qA (sz:=91) (Tryz.call104) Tryz.func104 rfl kz (fun R hR=>?_)
 refine qg (fun K1 hK1=>?_)
 refine qi kz ?_
 simp[go_sem]
 refine hK1 _ _ ?_
 try clear hK1 K1
 refine qg (fun K2 hK2=>?_)
 refine qg (fun K3 hK3=>?_)
 refine qi kz ?_
 simp[go_sem,iA,hn]
 refine hK3 _ _ ?_
 try clear hK3 K3
 refine qm ?_
 refine qC (Inv:=fun m0 env H2 => ∃ (i:Nat) (x:AV),m0=n-i/\i<=n/\env 0 = .vs n 1 (iV p)/\env 1 = .vs cn 1 (iV counts)/\env 2 = .ms O 0 no 1/\env 6=x/\env 15 = .vs n 1 (iV p)/\env 16 = .int n/\env 17 = .int i/\GrN (fun b=>S b\/b=O) H2 x 2 i (rowsN p counts i)/\H2.get O=some (iV (List.replicate no 0))/\Step (fun b=>S b\/b=O) H H2) ?_ (n:=n) (⟨0,.nil,rfl,oz,by simp[go_sem,iA,hn],by simp[go_sem,iA,hcn],gz,gz,gz,gz,gz,by exact GrN.nil _ _ _,gO,Step.refl _ _⟩)
 clear gO
 rintro m0 env H2 ⟨i,x,rfl,hi,e0,e1,e2,e6,e15,e16,e17,hgr,gO,hS⟩
 refine qg (fun K4 hK4=>?_)
 refine qi kz ?_
 simp[go_sem,e16,e17]
 refine hK4 _ _ ?_
 try clear hK4 K4
 refine qg (fun K5 hK5=>?_)
 refine qj (b:=decide (i<n)) gz (fun hb=>?_) (fun hb=>?_)
 ·skip
  simp only[decide_eq_true_eq] at hb
  have hil:i<p.length:=oz
  obtain ⟨r,hdr⟩:=qX hil
  have hin:(i:Int)<n:=oz
  have hsp:p[i]? = some (p.getD i 0):=by rw[qU hil]; exact List.getElem?_eq_getElem hil
  have hscn:=hps _ (List.mem_of_getElem? hsp)
  obtain ⟨s,hs⟩ : ∃ s,p.getD i 0=s:=⟨_,rfl⟩
  rw[hs] at hdr hsp hscn
  obtain ⟨r2,hdc⟩:=qX (l:=counts) (i:=s) oz
  have hsi:(s:Int)<cn:=oz
  obtain ⟨c,hc⟩ : ∃ c,counts.getD s 0=c:=⟨_,rfl⟩
  rw[hc] at hdc
  obtain ⟨Hd,hHd⟩ : ∃ X,(H2.alloc [.int (s:Nat)]).del H2.next=X:=⟨_,rfl⟩
  have kd : ∀ b c,H2.get b=some c->Hd.get b=some c:=fun b c hb=>by rw[<- hHd,Heap.get_del,if_neg (by have:=Heap.lt_of_get hb; omega),Heap.get_alloc,if_neg (by have:=Heap.lt_of_get hb; omega)]; exact hb
  have nd:Hd.next=H2.next+1:=by rw[<- hHd]; rfl
  have hSd:Step (fun b=>b<H2.next) H2 Hd:=by rw[<- hHd]; exact zH ((Step.refl _ _).alloc gz) (Nat.lt_irrefl _)
  have hgr2:=hgr.keep kd
  obtain ⟨bo,hg,hbo,_,_⟩:=hgr2.grown
  obtain ⟨hap,hga⟩:=qf2 (P:=Tryz.prog) (new:=nC (c,[s])) tU194 tS196 tB196 tZ196 rfl rfl rfl hg oz oz
  have hsn:rowsN p counts i++nC (c,[s])=rowsN p counts (i+1):=by unfold rowsN; rw[List.take_add_one,hsp,List.map_append,nV_app,<- hc]; rfl
  have hSle:=hS.le
  have hSd2:Step (fun b=>S b\/b=O) H2 Hd:=hSd.mono (fun b hb=>hb.elim (fun h=>by have:=hSn b h; omega) (fun h=>by omega))
  have hap2:aappend Tryz.prog (Hd.alloc [.int (c:Nat),.vs 1 1 [.int (s:Nat)]]) 194 194 x (.ms Hd.next 0 1 2)=some (.ms (Hd.next+1) 0 (i+1) 2,(Hd.alloc (nC (c,[s]))).regrow bo (rowsN p counts i++nC (c,[s]))):=hap
  refine ql ?_
  refine hK5 _ _ ?_
  try clear hK5 K5
  refine qw (fun env H2=>(env 0 = .vs n 1 (iV p)/\env 1 = .vs cn 1 (iV counts)/\env 2 = .ms O 0 no 1/\env 15 = .vs n 1 (iV p)/\env 16 = .int n/\env 17 = .int i) /\ ∃ x,env 6=x/\GrN (fun b=>S b\/b=O) H2 x 2 (i+1) (rowsN p counts (i+1))/\H2.get O=some (iV (List.replicate no 0))/\Step (fun b=>S b\/b=O) H H2) ?_ ?_
  ·skip
   refine qm ?_
   refine qg (fun K7 hK7=>?_)
   refine qi kz ?_
   simp[go_sem,e15,e17,hdr,hiL,hin]
   refine hK7 _ _ ?_
   try clear hK7 K7
   refine qo (fun K99 hK99=>?_)
   refine qM kz ?_
   refine jf 6 (fun K90 hK90=>?_)
   simp[go_sem,e1,e6,hdc,hcL,hsi]
   refine hK90 _ _ ?_
   clear hK90 K90
   refine jE (.vs 1 1 [.int (s:Nat)]) (Hd) rfl (by rw[<- hHd]; exact jM gz rfl) ?_
   refine zJ ?_
   simp[go_sem,e6,hap2]
   refine hK99 _ _ ?_
   refine ⟨⟨by simp[go_sem,e0],by simp[go_sem,e1],by simp[go_sem,e2],by simp[go_sem,e15],by simp[go_sem,e16],by simp[go_sem,e17]⟩,.ms (Hd.next+1) 0 (i+1) 2,gz,?_,?_,?_⟩
   ·rw[<- hsn]; exact GrN.one hga (fun b hb=>hb.elim (fun h=>by have:=hSn b h; omega) (fun h=>by omega))
   ·exact qY (by rw[Heap.get_alloc,if_neg oz]; exact kd _ _ gO) (fun e=>hbo O e (.inr rfl))
   ·exact (hS.trans hSd2).trans (GrN.step hg hbo (rowsN_lt _ _ _ _) (by simp[go_sem,nC,zI]))
  clear e0 e1 e2 e6 e15 e16 e17 hgr gO hS hap hga hg hbo hgr2 hSd hSle kd
  rintro env H2 ⟨⟨e0,e1,e2,e15,e16,e17⟩,x9,e69,hgr,gO,hS⟩
  refine qo (fun K8 hK8=>?_)
  refine qi kz ?_
  simp[go_sem,e17]
  refine hK8 _ _ ?_
  have hw1:=qF i oz
  exact ⟨n-(i+1),oz,i+1,x9,rfl,oz,by simp[go_sem,e0],by simp[go_sem,e1],by simp[go_sem,e2],by simp[go_sem,e69],by simp[go_sem,e15],by simp[go_sem,e16],by simp[go_sem,hw1],hgr,gO,hS⟩
 ·skip
  simp only[decide_eq_false_iff_not] at hb
  obtain rfl:n=i:=oz
  unfold rowsN at hgr
  rw[List.take_of_length_le oz] at hgr
  obtain ⟨nodes0,hN0⟩ : ∃ X,(p.map fun s=>(counts.getD s 0,[s]))=X:=⟨_,rfl⟩
  have hk0:=KInv.start (n:=no) (p:=p) counts
  have ho0:=NodsOk.start (p:=p) hle
  have hn0:nodes0.length=n:=by rw[<- hN0,List.length_map,hn]
  rw[hN0] at hgr hk0 ho0 hbl
  rw[hn] at hk0
  have hgr0:GrN (fun b=>S b\/b=O) H2 x 2 nodes0.length (nV nodes0):=by rw[hn0]; exact hgr
  clear hgr
  refine qy ?_
  refine hK2 _ _ ?_
  try clear hK2 K2
  refine qm ?_
  refine qC (Inv:=fun m0 env H2 => ∃ (k:Nat) (nodes:List NodeL) (out:List Nat) (x:AV),m0=nodes.length/\nodes.length<=k+1/\bestGo n nodes0 (List.replicate no 0)=bestGo k nodes out/\KInv n no p nodes out/\NodsOk p nodes/\env 0 = .vs n 1 (iV p)/\env 1 = .vs cn 1 (iV counts)/\env 2 = .ms O 0 no 1/\env 6=x/\GrN (fun b=>S b\/b=O) H2 x 2 nodes.length (nV nodes)/\H2.get O=some (iV out)/\Step S H H2) ?_ (n:=nodes0.length) (⟨n,nodes0,List.replicate no 0,x,rfl,oz,rfl,hk0,ho0,by simp[go_sem,e0],by simp[go_sem,e1],by simp[go_sem,e2],by simp[go_sem,e6],hgr0,gO,hS.mono fun b hb=>.inl hb⟩)
  clear e0 e1 e2 e6 e15 e16 e17 gO hS hgr0
  rintro m0 env H2 ⟨k,nodes,out,x,rfl,hkl,hbg,hki,hno3,e0,e1,e2,e6,hgr,gO,hS⟩
  refine qg (fun K9 hK9=>?_)
  refine qg (fun K10 hK10=>?_)
  rcases hgr with ⟨hxn,hl0,_⟩ | ⟨q,hSq,hxq,gq,_⟩
  ·skip
   rw[hxn] at e6
   rw[qed (k:=k) (nodes:=nodes) oz] at hbg
   refine qi kz ?_
   simp[go_sem,e6]
   refine hK10 _ _ ?_
   try clear hK10 K10
   refine qj (b:=false) gz (fun h=>by cases h) (fun _=>?_)
   refine qy ?_
   refine hR _ _ ?_
   exact hS.retP (r:=.tup []) gz ⟨rfl,by rw[hbl,hbg]; exact gO,hS⟩ gz
  ·skip
   rw[hxq] at e6
   obtain ⟨kn,hkn⟩ : ∃ k,nodes.length=k:=⟨_,rfl⟩
   rw[hkn] at e6
   refine qi kz ?_
   simp[go_sem,e6]
   refine hK10 _ _ ?_
   try clear hK10 K10
   have h1k:((1:Int)<(kn:Int))=(1<kn):=propext ⟨fun h=>by omega,fun h=>by omega⟩
   refine qj (b:=decide (1<kn)) (by simp[go_sem,h1k]) (fun hb=>?_) (fun hb=>?_)
   ·skip
    simp only[decide_eq_true_eq] at hb
    obtain ⟨a,b,r,rfl⟩ : ∃ a b r,nodes=a::b::r:=by
     match nodes,hkn with
     | a::b::r,_=>exact ⟨a,b,r,rfl⟩
     | [x],h=>simp at h; omega
     | [],h=>simp at h; omega
    obtain ⟨k,rfl⟩ : ∃ j,k=j+1:=⟨k-1,by simp only[List.length_cons] at hkl; omega⟩
    obtain rfl:r.length+2=kn:=by simpa using hkn
    obtain ⟨hnds,hmem,hlen⟩:=KInv.symbols hnd hki
    have hrl0:r.length<=1000:=by
     have ha0:=hno3.1 a List.mem_cons_self
     obtain ⟨s0,hs0⟩:=List.exists_mem_of_length_pos ha0
     have:=hki.low s0 (hmem s0 (List.mem_append_left _ hs0))
     simp only[List.length_cons] at this
     omega
    have h0a:=hno3.1 a List.mem_cons_self
    have hlab:a.2.length+b.2.length<=1000:=oz
    have hsum:=hno3.2
    simp only[List.map_cons,sumL] at hsum
    have hws:IntKind.i64.wrap ((a.1:Int)+(b.1:Int))=(a.1:Int)+(b.1:Int):=i64in _ oz oz
    obtain ⟨C,hC⟩ : ∃ C,nV (a::b::r)=C:=⟨_,rfl⟩
    have hd0:C.take 2 = [.int (a.1:Nat),.vs a.2.length 1 (iV a.2)]:=by rw[<- hC]; rfl
    have hd2:(C.drop 2).take 2 = [.int (b.1:Nat),.vs b.2.length 1 (iV b.2)]:=by rw[<- hC]; rfl
    have hCl:C.length=(r.length+2)*2:=by rw[<- hC,zK]; rfl
    have hc2:2<=C.length:=oz
    have hc4:4<=C.length:=oz
    rw[hC] at gq
    have hqn:=Heap.lt_of_get gq
    have hOn2:=Heap.lt_of_get gO
    have hqO:q≠O:=fun e=>hSq (.inr e)
    have i0:(0:Int)<(r.length:Int)+2:=oz
    have i1:(1:Int)<(r.length:Int)+2:=oz
    have hqn1 : ¬ (q=H2.next):=oz
    have hqn2 : ¬ (q=H2.next+1):=oz
    refine ql ?_
    refine hK9 _ _ ?_
    try clear hK9 K9
    refine qm ?_
    refine qw (fun env H3=>(env 0 = .vs n 1 (iV p)/\env 1 = .vs cn 1 (iV counts)/\env 2 = .ms O 0 no 1/\env 6 = .ms q 0 (r.length+2) 2) /\ ∃ A B,env 9 = .ptr A 0/\env 10 = .ptr B 0/\H3.get A=some (nC a)/\H3.get B=some (nC b)/\H2.next<=A/\H2.next<=B/\Step (fun z=>z<H2.next) H2 H3) ?_ ?_
    ·skip
     refine qo (fun K96 hK96=>?_)
     refine zx mixed ?_
     refine zh 6 7 dz ?_ ?_
     ·skip
      refine qW (bf:=[0,1,3,0,8,24,0,64,199,511]) kz kz ?_
      simp[go_sem,e6,gq,hd0,hd2,hc2,hc4,i0,i1,hqn1,hqn2,befL,addE,permOps,reE,fnL]
      refine hK96 _ _ ?_
      refine ⟨⟨by simp[go_sem,e0],by simp[go_sem,e1],by simp[go_sem,e2],by simp[go_sem,e6]⟩,H2.next,H2.next+1,gz,gz,?_,?_,oz,oz,?_⟩
      ·simp[go_sem,nC,iA]
      ·simp[go_sem,nC,iA]
      ·refine ((((Step.refl _ _).alloc gz).alloc gz).set ?_ (lt2 _ _ _)).set ?_ (lt2 _ _ _)
       ·show ¬ (_<_); omega
       ·show ¬ (_<_); omega
     ·skip
      refine zy [0,1,2,3,4,5,7,6,8,9] [0,1,2,3,4,5,7,6,8,9] kz ?_
      refine qW (bf:=[0,1,3,0,8,24,0,64,199,511]) kz kz ?_
      simp[go_sem,e6,gq,hd0,hd2,hc2,hc4,i0,i1,hqn1,hqn2,befL,addE,permOps,reE,fnL]
      refine hK96 _ _ ?_
      refine ⟨⟨by simp[go_sem,e0],by simp[go_sem,e1],by simp[go_sem,e2],by simp[go_sem,e6]⟩,H2.next+1,H2.next,gz,gz,?_,?_,oz,oz,?_⟩
      ·simp[go_sem,nC,iA]
      ·simp[go_sem,nC,iA]
      ·refine ((((Step.refl _ _).alloc gz).alloc gz).set ?_ (lt2 _ _ _)).set ?_ (lt2 _ _ _)
       ·show ¬ (_<_); omega
       ·show ¬ (_<_); omega
    clear e0 e1 e2 e6
    rintro env H3 ⟨⟨e0,e1,e2,e6⟩,A,B,e9,e10,gA,gB,hA,hB,hS3⟩
    have gO3:=hS3.get gO hOn2
    have gq3:=hS3.get gq hqn
    have hn3:=hS3.le
    have hAn:=Heap.lt_of_get gA
    have hBn:=Heap.lt_of_get gB
    have hA1 : ¬ (A=H3.next):=oz
    have hA2 : ¬ (A=H3.next+1):=oz
    have hB1 : ¬ (B=H3.next):=oz
    have hB2 : ¬ (B=H3.next+1):=oz
    refine qw (fun env H4=>(env 0 = .vs n 1 (iV p)/\env 1 = .vs cn 1 (iV counts)/\env 2 = .ms O 0 no 1/\env 6 = .ms q 0 (r.length+2) 2) /\ ∃ D,env 11 = .ptr D 0/\H4.get D=some (nC (a.1+b.1,a.2++b.2))/\H3.next<=D/\Step (fun z=>z<H3.next) H3 H4) ?_ ?_
    ·skip
     refine qo (fun K96 hK96=>?_)
     refine zx mixed ?_
     refine zh 9 12 dz ?_ ?_
     refine zh 10 12 dz ?_ ?_
     ·skip
      refine qW (bf:=[0,1,0,4,15,0,32,0,128,480,992,2047,2016,8191]) kz kz ?_
      simp[go_sem,e9,e10,gA,gB,nC,iA,hws,hA1,hA2,hB1,hB2,befL,addE,permOps,reE,fnL]
      refine ⟨_,_,qa7 (by simp[go_sem,iA]) h0a hlab,?_⟩
      simp[go_sem,e9,e10,gA,gB,nC,iA,hws,hA1,hA2,hB1,hB2,befL,addE,permOps,reE,fnL]
      refine hK96 _ _ ?_
      refine ⟨⟨by simp[go_sem,e0],by simp[go_sem,e1],by simp[go_sem,e2],by simp[go_sem,e6]⟩,H3.next+1,gz,?_,oz,?_⟩
      ·simp[go_sem,nC,iA]
      ·refine ((zH ((Step.refl _ _).alloc (lt3 _ _ _)) (by show ¬ (_<_); omega)).alloc gz).set ?_ ?_
       ·show ¬ (_<_); omega
       ·intro z hz; simp only[List.mem_cons,List.not_mem_nil,or_false] at hz; rcases hz with rfl | rfl; exact .sc _; exact qbt _ _ _
     ·skip
      refine zy [0,1,2,3,4,5,6,7,8,9,11,12,10,13] [0,1,2,3,4,5,6,7,8,9,12,10,11,13] kz ?_
      refine qW (bf:=[0,1,0,4,15,0,32,0,128,480,992,2016,4095,8191]) kz kz ?_
      simp[go_sem,e9,e10,gA,gB,nC,iA,hws,hA1,hA2,hB1,hB2,befL,addE,permOps,reE,fnL]
      refine ⟨_,_,qa7 (by simp[go_sem,iA]) h0a hlab,?_⟩
      simp[go_sem,e9,e10,gA,gB,nC,iA,hws,hA1,hA2,hB1,hB2,befL,addE,permOps,reE,fnL]
      refine hK96 _ _ ?_
      refine ⟨⟨by simp[go_sem,e0],by simp[go_sem,e1],by simp[go_sem,e2],by simp[go_sem,e6]⟩,H3.next+1,gz,?_,oz,?_⟩
      ·simp[go_sem,nC,iA]
      ·refine (zH (((Step.refl _ _).alloc (lt3 _ _ _)).alloc gz) (by show ¬ (_<_); omega)).set ?_ ?_
       ·show ¬ (_<_); omega
       ·intro z hz; simp only[List.mem_cons,List.not_mem_nil,or_false] at hz; rcases hz with rfl | rfl; exact .sc _; exact qbt _ _ _
     ·skip
      refine zy [0,1,2,3,4,5,6,7,8,10,11,12,9,13] [0,1,2,3,4,5,6,7,8,12,9,10,11,13] kz ?_
      refine qW (bf:=[0,1,0,4,15,0,32,0,128,0,992,2016,4095,8191]) kz kz ?_
      simp[go_sem,e9,e10,gA,gB,nC,iA,hws,hA1,hA2,hB1,hB2,befL,addE,permOps,reE,fnL]
      refine ⟨_,_,qa7 (by simp[go_sem,iA]) h0a hlab,?_⟩
      simp[go_sem,e9,e10,gA,gB,nC,iA,hws,hA1,hA2,hB1,hB2,befL,addE,permOps,reE,fnL]
      refine hK96 _ _ ?_
      refine ⟨⟨by simp[go_sem,e0],by simp[go_sem,e1],by simp[go_sem,e2],by simp[go_sem,e6]⟩,H3.next,gz,?_,oz,?_⟩
      ·simp[go_sem,nC,iA]
      ·refine (zH (((Step.refl _ _).alloc gz).alloc (lt3 _ _ _)) (by show ¬ (_<_); omega)).set ?_ ?_
       ·show ¬ (_<_); omega
       ·intro z hz; simp only[List.mem_cons,List.not_mem_nil,or_false] at hz; rcases hz with rfl | rfl; exact .sc _; exact qbt _ _ _
    clear e0 e1 e2 e6 e9 e10
    rintro env H4 ⟨⟨e0,e1,e2,e6⟩,D,e11,gD,hD,hS4⟩
    have gO4:=hS4.get gO3 oz
    have gq4:=hS4.get gq3 oz
    have hn4:=hS4.le
    have hDn:=Heap.lt_of_get gD
    have hDO:D≠O:=oz
    have hDq:D≠q:=oz
    obtain ⟨sy,hsy⟩ : ∃ X,a.2++b.2=X:=⟨_,rfl⟩
    obtain ⟨bc,hbc⟩ : ∃ X,a.1+b.1=X:=⟨_,rfl⟩
    rw[hsy,hbc] at gD
    obtain ⟨sl,hsl⟩ : ∃ X,sy.length=X:=⟨_,rfl⟩
    have gD2:H4.get D=some [.int (bc:Nat),.vs sl 1 (iV sy)]:=by rw[gD,<- hsl]; rfl
    have hsL:(iV sy).length=sl:=by rw[qK,hsl]
    have hsl2:sl<=400:=by rw[<- hsl,<- hsy,List.length_append]; omega
    have hol:=hki.len
    rw[hsy] at hnds hmem
    have hob : ∀ j,out.getD j 0<=400:=fun j=>by
     by_cases hj:j∈p
     ·have:=hki.low j hj; simp only[List.length_cons] at this; omega
     ·rw[hki.zero j hj]; omega
    refine qw (fun env H5=>(env 0 = .vs n 1 (iV p)/\env 1 = .vs cn 1 (iV counts)/\env 2 = .ms O 0 no 1/\env 6 = .ms q 0 (r.length+2) 2/\env 11 = .ptr D 0)/\H5.get O=some (iV (bumpAll out sy))/\Step (fun z=>z≠O/\z<H4.next) H4 H5) ?_ ?_
    ·skip
     refine qg (fun K14 hK14=>?_)
     refine qi kz ?_
     simp[go_sem,e11,gD2]
     refine hK14 _ _ ?_
     try clear hK14 K14
     refine qm ?_
     refine qC (Inv:=fun m0 env H2 => ∃ i:Nat,m0=sl-i/\i<=sl/\env 0 = .vs n 1 (iV p)/\env 1 = .vs cn 1 (iV counts)/\env 2 = .ms O 0 no 1/\env 6 = .ms q 0 (r.length+2) 2/\env 11 = .ptr D 0/\env 54 = .vs sl 1 (iV sy)/\env 55 = .int sl/\env 56 = .int i/\H2.get O=some (iV (bumpAll out (sy.take i)))/\Step (fun z=>z≠O/\z<H4.next) H4 H2) ?_ (n:=sl) (⟨0,rfl,oz,by simp[go_sem,e0],by simp[go_sem,e1],by simp[go_sem,e2],by simp[go_sem,e6],by simp[go_sem,e11],gz,gz,gz,gO4,Step.refl _ _⟩)
     clear e0 e1 e2 e6 e11
     rintro m0 env H5 ⟨i,rfl,hi,e0,e1,e2,e6,e11,e54,e55,e56,gO5,hS5⟩
     refine qg (fun K15 hK15=>?_)
     refine qi kz ?_
     simp[go_sem,e55,e56]
     refine hK15 _ _ ?_
     try clear hK15 K15
     refine qg (fun K16 hK16=>?_)
     refine qj (b:=decide (i<sl)) gz (fun hb=>?_) (fun hb=>?_)
     ·skip
      simp only[decide_eq_true_eq] at hb
      have hil:i<sy.length:=oz
      obtain ⟨r3,hdr⟩:=qX hil
      have hin:(i:Int)<sl:=oz
      have hnx:=qog (out:=out) hil
      have hbl2:=qkk (sy.take i) out
      have hsm:sy.getD i 0∈sy:=by rw[qU hil]; exact List.getElem_mem hil
      have hsb:=hps _ (hmem _ hsm)
      have hv:=bump_le (s:=sy.take i) (out:=out) (B:=400) (hnds.sublist (List.take_sublist _ _)) (fun j hj=>by have:=hps _ (hmem _ (List.mem_of_mem_take hj)); omega) hob (sy.getD i 0)
      obtain ⟨s,hs⟩ : ∃ s,sy.getD i 0=s:=⟨_,rfl⟩
      rw[hs] at hdr hnx hsb hv
      obtain ⟨o1,ho1⟩ : ∃ o,bumpAll out (sy.take i)=o:=⟨_,rfl⟩
      rw[ho1] at gO5 hnx hbl2 hv
      obtain ⟨v,hvq⟩ : ∃ v,o1.getD s 0=v:=⟨_,rfl⟩
      have hs1l:s<o1.length:=oz
      obtain ⟨r4,hdo⟩:=qX hs1l
      rw[hvq] at hdo hnx hv
      have hiv:=zA o1 s hs1l (v+1)
      have hoL:(iV o1).length=no:=by rw[qK]; omega
      have hsi:(s:Int)<no:=oz
      have hs1:s+1<=no:=oz
      have hwv:=qF v oz
      push_cast at hiv
      have gO9:(H5.set O (iV (o1.set s (v+1)))).get O=some (iV (bumpAll out (sy.take (i+1)))):=by rw[Heap.get_set,if_pos rfl,gO5,hnx]; rfl
      have hS9:=hS5.set (b:=O) (v:=iV (o1.set s (v+1))) (fun h=>h.1 rfl) (jb _ _)
      refine ql ?_
      refine hK16 _ _ ?_
      try clear hK16 K16
      refine qg (fun K17 hK17=>?_)
      refine qm ?_
      refine qg (fun K18 hK18=>?_)
      refine qi kz ?_
      simp[go_sem,e54,e56,hdr,hsL,hin]
      refine hK18 _ _ ?_
      try clear hK18 K18
      refine qi kz ?_
      simp[go_sem,e2,gO5,hdo,hoL,hsi,hs1,hwv,hiv]
      refine hK17 _ _ ?_
      try clear hK17 K17
      refine qo (fun K19 hK19=>?_)
      refine qi kz ?_
      simp[go_sem,e56]
      refine hK19 _ _ ?_
      have hw1:=qF i oz
      exact ⟨sl-(i+1),oz,i+1,rfl,oz,by simp[go_sem,e0],by simp[go_sem,e1],by simp[go_sem,e2],by simp[go_sem,e6],by simp[go_sem,e11],by simp[go_sem,e54],by simp[go_sem,e55],by simp[go_sem,hw1],gO9,hS9⟩
     ·skip
      simp only[decide_eq_false_iff_not] at hb
      obtain rfl:sl=i:=oz
      rw[List.take_of_length_le oz] at gO5
      refine qy ?_
      exact ⟨⟨by simp[go_sem,e0],by simp[go_sem,e1],by simp[go_sem,e2],by simp[go_sem,e6],by simp[go_sem,e11]⟩,gO5,hS5⟩
    clear e0 e1 e2 e6 e11
    rintro env H5 ⟨⟨e0,e1,e2,e6,e11⟩,gO5,hS5⟩
    have gq5:=hS5.get gq4 ⟨hqO,oz⟩
    have gD5:=hS5.get gD ⟨hDO,hDn⟩
    have hn5:=hS5.le
    have hO5:=Heap.lt_of_get gO5
    refine qg (fun K20 hK20=>?_)
    refine qi kz ?_
    simp[go_sem,e6]
    refine hK20 _ _ ?_
    try clear hK20 K20
    refine qg (fun K21 hK21=>?_)
    refine qi kz ?_
    simp[go_sem]
    refine hK21 _ _ ?_
    try clear hK21 K21
    refine qg (fun K22 hK22=>?_)
    refine qm ?_
    refine qC (Inv:=fun m0 env H2 => ∃ i:Nat,m0=(r.takeWhile fun y=>decide (y.1<=bc)).length-i/\i<=(r.takeWhile fun y=>decide (y.1<=bc)).length/\env 0 = .vs n 1 (iV p)/\env 1 = .vs cn 1 (iV counts)/\env 2 = .ms O 0 no 1/\env 6 = .ms q 4 r.length 2/\env 11 = .ptr D 0/\env 14 = .int i/\H5=H2) ?_ (n:=(r.takeWhile fun y=>decide (y.1<=bc)).length) (⟨0,rfl,oz,by simp[go_sem,e0],by simp[go_sem,e1],by simp[go_sem,e2],by simp[go_sem,e6],by simp[go_sem,e11],gz,rfl⟩)
    clear e0 e1 e2 e6 e11
    rintro m0 env _ ⟨i,hm0,hi,e0,e1,e2,e6,e11,e14,rfl⟩
    have hts:=tw_step hi
    have htl:(r.takeWhile fun y=>decide (y.1<=bc)).length<=r.length:=by simpa using (List.takeWhile_sublist _).length_le
    have hrl:r.length<=1000:=hrl0
    refine qg (fun K23 hK23=>?_)
    refine qg (fun K24 hK24=>?_)
    rcases (by
     rcases Nat.lt_or_ge i r.length with h | h
     ·rcases Nat.lt_or_ge i (r.takeWhile fun y=>decide (y.1<=bc)).length with h2 | h2
      ·obtain ⟨y,h3,h4⟩:=hts.1 h2
       exact .inl ⟨y,h,h2,h3,by simpa using h4⟩
      ·have h3:r[i]? = some r[i]:=List.getElem?_eq_getElem h
       exact .inr (.inl ⟨r[i],h,oz,h3,fun h4=>by have:=hts.2 ⟨r[i],h3,by simpa using h4⟩; omega⟩)
     ·exact .inr (.inr ⟨oz,oz⟩):(∃ y,i<r.length/\i<(r.takeWhile fun y=>decide (y.1<=bc)).length/\r[i]? = some y/\y.1<=bc)\/(∃ y,i<r.length/\i=(r.takeWhile fun y=>decide (y.1<=bc)).length/\r[i]? = some y /\ ¬ y.1<=bc)\/(i=r.length/\i=(r.takeWhile fun y=>decide (y.1<=bc)).length)) with ⟨y,h1,h2,h3,h4⟩ | ⟨y,h1,h2,h3,h4⟩ | ⟨h1,h2⟩
    ·skip
     obtain ⟨r5,hdy⟩:=nV_get (l:=a::b::r) (i:=i+2) (x:=y) (by simpa using h3)
     rw[hC] at hdy
     have hix:(i+2)*2=4+i*2:=oz
     rw[hix] at hdy
     have d1:(i:Int)<r.length:=oz
     have d2:(y.1:Int)<=bc:=oz
     have d3:4+i*2+1<=C.length:=oz
     refine qJ mixed kz ?_
     simp[go_sem,e6,e11,e14,gq5,gD5,nC,hdy,d1,d2,d3]
     refine hK24 _ _ ?_
     try clear hK24 K24
     refine qj (b:=true) gz (fun _=>?_) (fun h=>by cases h)
     refine ql ?_
     refine hK23 _ _ ?_
     try clear hK23 K23
     refine qm ?_
     refine qo (fun K25 hK25=>?_)
     refine qi kz ?_
     simp[go_sem,e14]
     refine hK25 _ _ ?_
     have hw1:=qF i oz
     exact ⟨(r.takeWhile fun y=>decide (y.1<=bc)).length-(i+1),oz,i+1,rfl,oz,by simp[go_sem,e0],by simp[go_sem,e1],by simp[go_sem,e2],by simp[go_sem,e6],by simp[go_sem,e11],by simp[go_sem,e14,hw1],rfl⟩
    ·skip
     obtain ⟨r5,hdy⟩:=nV_get (l:=a::b::r) (i:=i+2) (x:=y) (by simpa using h3)
     rw[hC] at hdy
     have hix:(i+2)*2=4+i*2:=oz
     rw[hix] at hdy
     have d1:(i:Int)<r.length:=oz
     have d2 : ¬ (y.1:Int)<=bc:=oz
     have d3:4+i*2+1<=C.length:=oz
     refine qJ mixed kz ?_
     simp[go_sem,e6,e11,e14,gq5,gD5,nC,hdy,d1,d2,d3]
     refine hK24 _ _ ?_
     try clear hK24 K24
     refine qj (b:=false) gz (fun h=>by cases h) (fun _=>?_)
     refine qy ?_
     refine hK22 _ _ ?_
     try clear hK22 K22
     have hlen2:=hlen
     have hn5b:=hn5
     obtain ⟨cfun,hcf⟩ : ∃ x,x=0:=⟨0,rfl⟩
     have gD6:H5.get D=some [.int (bc:Nat),.vs sl 1 (iV sy)]:=by rw[gD5,<- hsl]; rfl
     have gq6:H5.get q=some ((nC a++nC b)++nV r):=by rw[gq5,<- hC]; rfl
     have hD5:D<H5.next:=Heap.lt_of_get gD5
     have hfit:i=(r.takeWhile fun y=>decide (y.1<=bc)).length:=h2
     have hins:insA r i (bc,sy)=insN (a.1+b.1,a.2++b.2) r:=by rw[hfit,<- hbc,<- hsy]; exact qoh (a.1+b.1,a.2++b.2) r
     have hir:i<=r.length:=oz
     have hSchain:Step (fun z=>S z) H H5:=((hS.trans (hS3.mono fun z hz=>by have:=hSn z hz; have:=hS.le; show _<_; omega)).trans (hS4.mono fun z hz=>by have:=hSn z hz; have:=hS.le; show _<_; omega)).trans (hS5.mono fun z hz=>⟨fun e=>hO (e ▸ hz),by have:=hSn z hz; have:=hS.le; omega⟩)
     have hHle:H.next<=H5.next:=hSchain.le
     refine qo (fun K96 hK96=>?_)
     refine zx mixed ?_
     refine zh 1 4 dz ?_ ?_
     ·skip
      obtain ⟨HA,cA,nA,gA9,sA⟩:=cloneF gq6 hrl
      have gDA:=sA.get gD6 hD5
      have hDA : ¬ (D=HA.next):=oz
      obtain ⟨HF,cF,nF,gF,sF⟩:=insF (X:=HA.alloc [.int (bc:Nat),.vs sl 1 (iV sy)]) (b:=H5.next+1) (vq:=HA.next) (k:=i) (x:=(bc,sy)) (l:=r) rfl hir hrl (by rw[Heap.get_alloc,if_neg oz]; exact gA9) (by rw[Heap.get_alloc,if_pos rfl,<- hsl]; rfl) oz
      have gDF:=sF.get (b:=D) (c:=[.int (bc:Nat),.vs sl 1 (iV sy)]) (by rw[Heap.get_alloc,if_neg hDA]; exact gDA) (by show D≠_; omega)
      rw[Heap.next_alloc] at cF nF gF
      have hSall:Step (fun z=>z<H5.next) H5 HF:=(sA.alloc (by rw[<- hsl]; exact lt2 _ _ _)).trans (sF.mono fun z hz=>by show z≠_; have h9:z<H5.next:=hz; omega)
      have gO9:=hSall.get gO5 hO5
      have hS9:=hSchain.trans (hSall.mono fun z hz=>by have:=hSn z hz; show _<_; omega)
      obtain ⟨q9,hq9⟩ : ∃ X,HA.next+1=X:=⟨_,rfl⟩
      rw[hins,hq9] at gF
      have hgr9:GrN (fun b=>S b\/b=O) HF (.ms q9 0 (insN (a.1+b.1,a.2++b.2) r).length 2) 2 (insN (a.1+b.1,a.2++b.2) r).length (nV (insN (a.1+b.1,a.2++b.2) r)):=GrN.ms (fun h=>h.elim (fun h=>by have:=hSn _ h; omega) (fun h=>by omega)) gF (by rw[zK])
      rw[zn] at hgr9
      refine qW (bf:=[0,1,0,0,11,31,63]) kz kz ?_
      simp[go_sem,e6,e11,e14,befL,addE,permOps,reE,fnL]
      refine ⟨_,_,cA,?_⟩
      simp[go_sem,e6,e11,e14,gD6,gDA,hDA,befL,addE,permOps,reE,fnL]
      refine ⟨_,_,cF,?_⟩
      try simp[go_sem,e6,e11,e14,gDA,gDF,hDA,befL,addE,permOps,reE,fnL]
      refine hK96 _ _ ?_
      exact ⟨r.length+1,by simp only[List.length_cons]; omega,k,insN (a.1+b.1,a.2++b.2) r,bumpAll out (a.2++b.2),.ms q9 0 (r.length+1) 2,by rw[zn],by rw[zn]; simp only[List.length_cons] at hkl; omega,hbg.trans rfl,hki.step hnd (fun s hs=>by have:=hps s hs; omega),hno3.step,by simp[go_sem,e0],by simp[go_sem,e1],by simp[go_sem,e2],by simp[go_sem,hq9],by rw[zn]; exact hgr9,by rw[hsy]; exact gO9,hS9⟩
     ·skip
      obtain ⟨HB,hHB⟩ : ∃ X,H5.alloc [.int (bc:Nat),.vs sl 1 (iV sy)]=X:=⟨_,rfl⟩
      have nB:HB.next=H5.next+1:=by rw[<- hHB]; rfl
      have sB:Step (fun z=>z<H5.next) H5 HB:=by rw[<- hHB]; exact (Step.refl _ _).alloc (by rw[<- hsl]; exact lt2 _ _ _)
      have gV:HB.get H5.next=some (nC (bc,sy)):=by rw[<- hHB,Heap.get_alloc,if_pos rfl,<- hsl]; rfl
      have gDB:=sB.get gD6 hD5
      obtain ⟨HA,cA,nA,gA9,sA⟩:=cloneF (sB.get gq6 (by show q<_; omega)) hrl
      have gDA:=sA.get gDB (by show D<_; omega)
      have hDA : ¬ (D=H5.next):=oz
      obtain ⟨HF,cF,nF,gF,sF⟩:=insF (X:=HA) (b:=HB.next+1) (vq:=H5.next) (k:=i) (x:=(bc,sy)) (l:=r) rfl hir hrl gA9 (sA.get gV (by show _<_; omega)) oz
      have gDF:=sF.get gDA (by show D≠_; omega)
      have hSall:Step (fun z=>z<H5.next) H5 HF:=(sB.trans (sA.mono fun z hz=>by show z<_; have h9:z<H5.next:=hz; omega)).trans (sF.mono fun z hz=>by show z≠_; have h9:z<H5.next:=hz; omega)
      have gO9:=hSall.get gO5 hO5
      have hS9:=hSchain.trans (hSall.mono fun z hz=>by have:=hSn z hz; show _<_; omega)
      obtain ⟨q9,hq9⟩ : ∃ X,HA.next=X:=⟨_,rfl⟩
      rw[hins,hq9] at gF
      have hgr9:GrN (fun b=>S b\/b=O) HF (.ms q9 0 (insN (a.1+b.1,a.2++b.2) r).length 2) 2 (insN (a.1+b.1,a.2++b.2) r).length (nV (insN (a.1+b.1,a.2++b.2) r)):=GrN.ms (fun h=>h.elim (fun h=>by have:=hSn _ h; omega) (fun h=>by omega)) gF (by rw[zK])
      rw[zn] at hgr9
      refine zy [0,4,1,2,3,5,6] [0,2,3,4,1,5,6] kz ?_
      refine qW (bf:=[0,0,0,4,13,31,63]) kz kz ?_
      simp[go_sem,e6,e11,e14,gD6,hHB,befL,addE,permOps,reE,fnL]
      refine ⟨_,_,cA,?_⟩
      try simp[go_sem,e6,e11,e14,gD6,gDA,hDA,hHB,befL,addE,permOps,reE,fnL]
      refine ⟨_,_,cF,?_⟩
      try simp[go_sem,e6,e11,e14,gDA,gDF,hDA,hHB,befL,addE,permOps,reE,fnL]
      refine hK96 _ _ ?_
      exact ⟨r.length+1,by simp only[List.length_cons]; omega,k,insN (a.1+b.1,a.2++b.2) r,bumpAll out (a.2++b.2),.ms q9 0 (r.length+1) 2,by rw[zn],by rw[zn]; simp only[List.length_cons] at hkl; omega,hbg.trans rfl,hki.step hnd (fun s hs=>by have:=hps s hs; omega),hno3.step,by simp[go_sem,e0],by simp[go_sem,e1],by simp[go_sem,e2],by simp[go_sem,hq9],by rw[zn]; exact hgr9,by rw[hsy]; exact gO9,hS9⟩
    ·skip
     have d1 : ¬ ((i:Int)<r.length):=oz
     refine qJ mixed kz ?_
     simp[go_sem,e6,e11,e14,d1]
     refine hK24 _ _ ?_
     try clear hK24 K24
     refine qj (b:=false) gz (fun h=>by cases h) (fun _=>?_)
     refine qy ?_
     refine hK22 _ _ ?_
     try clear hK22 K22
     have hlen2:=hlen
     have hn5b:=hn5
     obtain ⟨cfun,hcf⟩ : ∃ x,x=0:=⟨0,rfl⟩
     have gD6:H5.get D=some [.int (bc:Nat),.vs sl 1 (iV sy)]:=by rw[gD5,<- hsl]; rfl
     have gq6:H5.get q=some ((nC a++nC b)++nV r):=by rw[gq5,<- hC]; rfl
     have hD5:D<H5.next:=Heap.lt_of_get gD5
     have hfit:i=(r.takeWhile fun y=>decide (y.1<=bc)).length:=h2
     have hins:insA r i (bc,sy)=insN (a.1+b.1,a.2++b.2) r:=by rw[hfit,<- hbc,<- hsy]; exact qoh (a.1+b.1,a.2++b.2) r
     have hir:i<=r.length:=oz
     have hSchain:Step (fun z=>S z) H H5:=((hS.trans (hS3.mono fun z hz=>by have:=hSn z hz; have:=hS.le; show _<_; omega)).trans (hS4.mono fun z hz=>by have:=hSn z hz; have:=hS.le; show _<_; omega)).trans (hS5.mono fun z hz=>⟨fun e=>hO (e ▸ hz),by have:=hSn z hz; have:=hS.le; omega⟩)
     have hHle:H.next<=H5.next:=hSchain.le
     refine qo (fun K96 hK96=>?_)
     refine zx mixed ?_
     refine zh 1 4 dz ?_ ?_
     ·skip
      obtain ⟨HA,cA,nA,gA9,sA⟩:=cloneF gq6 hrl
      have gDA:=sA.get gD6 hD5
      have hDA : ¬ (D=HA.next):=oz
      obtain ⟨HF,cF,nF,gF,sF⟩:=insF (X:=HA.alloc [.int (bc:Nat),.vs sl 1 (iV sy)]) (b:=H5.next+1) (vq:=HA.next) (k:=i) (x:=(bc,sy)) (l:=r) rfl hir hrl (by rw[Heap.get_alloc,if_neg oz]; exact gA9) (by rw[Heap.get_alloc,if_pos rfl,<- hsl]; rfl) oz
      have gDF:=sF.get (b:=D) (c:=[.int (bc:Nat),.vs sl 1 (iV sy)]) (by rw[Heap.get_alloc,if_neg hDA]; exact gDA) (by show D≠_; omega)
      rw[Heap.next_alloc] at cF nF gF
      have hSall:Step (fun z=>z<H5.next) H5 HF:=(sA.alloc (by rw[<- hsl]; exact lt2 _ _ _)).trans (sF.mono fun z hz=>by show z≠_; have h9:z<H5.next:=hz; omega)
      have gO9:=hSall.get gO5 hO5
      have hS9:=hSchain.trans (hSall.mono fun z hz=>by have:=hSn z hz; show _<_; omega)
      obtain ⟨q9,hq9⟩ : ∃ X,HA.next+1=X:=⟨_,rfl⟩
      rw[hins,hq9] at gF
      have hgr9:GrN (fun b=>S b\/b=O) HF (.ms q9 0 (insN (a.1+b.1,a.2++b.2) r).length 2) 2 (insN (a.1+b.1,a.2++b.2) r).length (nV (insN (a.1+b.1,a.2++b.2) r)):=GrN.ms (fun h=>h.elim (fun h=>by have:=hSn _ h; omega) (fun h=>by omega)) gF (by rw[zK])
      rw[zn] at hgr9
      refine qW (bf:=[0,1,0,0,11,31,63]) kz kz ?_
      simp[go_sem,e6,e11,e14,befL,addE,permOps,reE,fnL]
      refine ⟨_,_,cA,?_⟩
      simp[go_sem,e6,e11,e14,gD6,gDA,hDA,befL,addE,permOps,reE,fnL]
      refine ⟨_,_,cF,?_⟩
      try simp[go_sem,e6,e11,e14,gDA,gDF,hDA,befL,addE,permOps,reE,fnL]
      refine hK96 _ _ ?_
      exact ⟨r.length+1,by simp only[List.length_cons]; omega,k,insN (a.1+b.1,a.2++b.2) r,bumpAll out (a.2++b.2),.ms q9 0 (r.length+1) 2,by rw[zn],by rw[zn]; simp only[List.length_cons] at hkl; omega,hbg.trans rfl,hki.step hnd (fun s hs=>by have:=hps s hs; omega),hno3.step,by simp[go_sem,e0],by simp[go_sem,e1],by simp[go_sem,e2],by simp[go_sem,hq9],by rw[zn]; exact hgr9,by rw[hsy]; exact gO9,hS9⟩
     ·skip
      obtain ⟨HB,hHB⟩ : ∃ X,H5.alloc [.int (bc:Nat),.vs sl 1 (iV sy)]=X:=⟨_,rfl⟩
      have nB:HB.next=H5.next+1:=by rw[<- hHB]; rfl
      have sB:Step (fun z=>z<H5.next) H5 HB:=by rw[<- hHB]; exact (Step.refl _ _).alloc (by rw[<- hsl]; exact lt2 _ _ _)
      have gV:HB.get H5.next=some (nC (bc,sy)):=by rw[<- hHB,Heap.get_alloc,if_pos rfl,<- hsl]; rfl
      have gDB:=sB.get gD6 hD5
      obtain ⟨HA,cA,nA,gA9,sA⟩:=cloneF (sB.get gq6 (by show q<_; omega)) hrl
      have gDA:=sA.get gDB (by show D<_; omega)
      have hDA : ¬ (D=H5.next):=oz
      obtain ⟨HF,cF,nF,gF,sF⟩:=insF (X:=HA) (b:=HB.next+1) (vq:=H5.next) (k:=i) (x:=(bc,sy)) (l:=r) rfl hir hrl gA9 (sA.get gV (by show _<_; omega)) oz
      have gDF:=sF.get gDA (by show D≠_; omega)
      have hSall:Step (fun z=>z<H5.next) H5 HF:=(sB.trans (sA.mono fun z hz=>by show z<_; have h9:z<H5.next:=hz; omega)).trans (sF.mono fun z hz=>by show z≠_; have h9:z<H5.next:=hz; omega)
      have gO9:=hSall.get gO5 hO5
      have hS9:=hSchain.trans (hSall.mono fun z hz=>by have:=hSn z hz; show _<_; omega)
      obtain ⟨q9,hq9⟩ : ∃ X,HA.next=X:=⟨_,rfl⟩
      rw[hins,hq9] at gF
      have hgr9:GrN (fun b=>S b\/b=O) HF (.ms q9 0 (insN (a.1+b.1,a.2++b.2) r).length 2) 2 (insN (a.1+b.1,a.2++b.2) r).length (nV (insN (a.1+b.1,a.2++b.2) r)):=GrN.ms (fun h=>h.elim (fun h=>by have:=hSn _ h; omega) (fun h=>by omega)) gF (by rw[zK])
      rw[zn] at hgr9
      refine zy [0,4,1,2,3,5,6] [0,2,3,4,1,5,6] kz ?_
      refine qW (bf:=[0,0,0,4,13,31,63]) kz kz ?_
      simp[go_sem,e6,e11,e14,gD6,hHB,befL,addE,permOps,reE,fnL]
      refine ⟨_,_,cA,?_⟩
      try simp[go_sem,e6,e11,e14,gD6,gDA,hDA,hHB,befL,addE,permOps,reE,fnL]
      refine ⟨_,_,cF,?_⟩
      try simp[go_sem,e6,e11,e14,gDA,gDF,hDA,hHB,befL,addE,permOps,reE,fnL]
      refine hK96 _ _ ?_
      exact ⟨r.length+1,by simp only[List.length_cons]; omega,k,insN (a.1+b.1,a.2++b.2) r,bumpAll out (a.2++b.2),.ms q9 0 (r.length+1) 2,by rw[zn],by rw[zn]; simp only[List.length_cons] at hkl; omega,hbg.trans rfl,hki.step hnd (fun s hs=>by have:=hps s hs; omega),hno3.step,by simp[go_sem,e0],by simp[go_sem,e1],by simp[go_sem,e2],by simp[go_sem,hq9],by rw[zn]; exact hgr9,by rw[hsy]; exact gO9,hS9⟩
   ·skip
    simp only[decide_eq_false_iff_not] at hb
    rw[qed (k:=k) (nodes:=nodes) oz] at hbg
    refine qy ?_
    refine hR _ _ ?_
    exact hS.retP (r:=.tup []) gz ⟨rfl,by rw[hbl,hbg]; exact gO,hS⟩ gz
end Go.Proofs.YtfokgjhdndnnhaaGreatDoor
