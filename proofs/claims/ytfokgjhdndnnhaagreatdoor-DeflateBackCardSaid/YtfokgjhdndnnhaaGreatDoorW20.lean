/- Contracts: nodes, copied. -/
import Derived.Test.YtfokgjhdndnnhaaGreatDoorW18
import Derived.Test.YtfokgjhdndnnhaaGreatDoorFl51
import Derived.Test.YtfokgjhdndnnhaaGreatDoorFl41
set_option maxHeartbeats 1000000
set_option linter.unusedVariables false
set_option linter.unusedSimpArgs false
set_option maxRecDepth 20000
noncomputable section W19S
namespace Go.Proofs.YtfokgjhdndnnhaaGreatDoor
open Go Go.Fl Go.Proofs
def nC (x:NodeL):List AV:=[.int (x.1:Nat),iA x.2]
def nV (l:List NodeL):List AV:=l.flatMap nC
theorem zK (l:List NodeL):(nV l).length=l.length*2:=by
 induction l with
 | nil=>rfl
 | cons x l ih=>simp only[nV,List.flatMap_cons,List.length_append,List.length_cons,nC] at ih |-; simp[nV] at ih |-; omega
theorem nV_app (a b:List NodeL):nV (a++b)=nV a++nV b:=by simp[nV]
theorem qec (x:NodeL) (l:List NodeL):nV (x::l) = .int (x.1:Nat)::iA x.2::nV l:=rfl
theorem qjg (l:List NodeL) (i:Nat):(nV l).drop (i*2)=nV (l.drop i):=by
 induction l generalizing i with
 | nil=>simp[nV]
 | cons x l ih =>
  cases i with
  | zero=>rfl
  | succ i=>rw[qec,Nat.add_mul]; simp only[List.drop_succ_cons,Nat.one_mul]; exact ih i
theorem qoe (l:List NodeL) (i:Nat):(nV l).take (i*2)=nV (l.take i):=by
 induction l generalizing i with
 | nil=>simp[nV]
 | cons x l ih =>
  cases i with
  | zero=>rfl
  | succ i=>rw[qec,Nat.add_mul]; simp only[List.take_succ_cons,Nat.one_mul]; rw[qec,ih i]
theorem qgh (l:List NodeL) (n:Nat) : ∀ x∈nV l,x.Lt n:=by
 intro x hx
 simp only[nV,List.mem_flatMap,nC,List.mem_cons,List.not_mem_nil,or_false] at hx
 obtain ⟨y,_,rfl | rfl⟩:=hx
 ·exact .sc _
 ·rw[zI]; trivial
theorem qkz (l:List NodeL):(nV l).all AV.leaf=true:=by
 rw[List.all_eq_true]
 intro x hx
 simp only[nV,List.mem_flatMap,nC,List.mem_cons,List.not_mem_nil,or_false] at hx
 obtain ⟨y,_,rfl | rfl⟩:=hx <;> rfl
theorem zq {P:Program} {H:Heap} {sz q off n:Nat} {cs:List AV} {u e:TypeId} (hu:P.underlying u=some (.slice e)) (hq:H.get q=some cs) (hl:off+n*sz<=cs.length):source P H sz u (.ms q off n sz)=some (n,(cs.drop off).take (n*sz)):=by
 unfold source
 rw[hu]
 simp[sliceCells,hq,hl]
theorem zf {H:Heap} {bo:Option Nat} {v:List AV} : (H.regrow bo v).get H.next=some v:=by
 unfold Heap.regrow
 rw[Heap.get_alloc,Heap.delo_next,if_pos rfl]
theorem qk0 {P:Program} {fn:Func} {H:Heap} {env:Env} {H1 H' : Heap} {r:AV} (h1:aresults P fn env H1=some r) (hs:H'.le H1) (hn:H.next<=H'.next) (hi:H'.next<=H1.next) (hr:r.Lt H'.next) (hc : ∀ b cs,H'.get b=some cs->H.get b=some cs \/ ∀ x∈cs,x.Lt H'.next):Ret P fn H env H1 r H' :=
 ⟨⟨r,h1,.same r⟩,hs,hn,hi,hr,hc⟩
theorem qmg {l:List NodeL} {pre:List AV} {q off n:Nat} (hn:l.length=n) (ho:pre.length=off) (h0:0<n) (hl:n<=1000) {H:Heap} (gq:H.get q=some (pre++nV l)):SCalls Tryz.prog 120 [.ms q off n 2] H (.ms (H.next+1) 0 n 2) ((H.alloc []).regrow (some H.next) (nV l)):=by
 have hsrc:source Tryz.prog (H.alloc []) 2 194 (.ms q off n 2)=some (n,nV l):=by
  rw[zq tU194 (cs:=pre++nV l) (by rw[Heap.get_alloc,if_neg (by have:=Heap.lt_of_get gq; omega)]; exact gq) (by rw[List.length_append,zK]; omega),<- ho,List.drop_left,List.take_of_length_le (by rw[zK]; omega)]
 have ha:=qL (P:=Tryz.prog) (H:=H.alloc []) (t:=194) (s:=.ms H.next 0 0 2) (n:=0) (cs:=[]) (bo:=some H.next) (k:=n) tU194 tS196 tB196 tZ196 rfl hsrc (grown_of (n:=0) (sz:=2) (by rw[Heap.get_alloc,if_pos rfl]) rfl) oz oz (qkz l)
 rw[Nat.zero_add,List.nil_append] at ha
 simp only[Heap.next_alloc] at ha
 refine qE (sz:=8) (Tryz.call120) Tryz.func120 rfl (by rw[Heap.next_regrow,Heap.next_alloc]; omega) kz (fun R hR=>?_)
 refine qg (fun K1 hK1=>?_)
 refine qi kz ?_
 simp[go_sem]
 refine hK1 _ _ ?_
 try clear hK1 K1
 refine qg (fun K2 hK2=>?_)
 refine qg (fun K3 hK3=>?_)
 refine qi kz ?_
 simp[go_sem,h0]
 refine hK3 _ _ ?_
 try clear hK3 K3
 refine qj (b:=false) (by simp[go_sem,h0]) (fun h=>by cases h) (fun _=>?_)
 refine ql ?_
 refine hK2 _ _ ?_
 try clear hK2 K2
 refine qg (fun K4 hK4=>?_)
 refine qi kz ?_
 simp[go_sem,ha,zrep0]
 refine hK4 _ _ ?_
 try clear hK4 K4
 refine qx ?_
 simp only[go_sem]
 refine hR _ _ ?_
 refine je gz (by simp[go_sem]; omega) gz (fun b cs hb=>?_)
 unfold Heap.regrow at hb
 rw[Heap.get_alloc] at hb
 split at hb
 ·cases hb; exact .inr (qgh l _)
 ·left
  have h2:=(H.alloc []).delo_le (some H.next) b cs hb
  rw[Heap.get_alloc] at h2
  split at h2
  ·rename_i e; subst e; simp only[Heap.delo] at hb; rw[Heap.get_del,if_pos rfl] at hb; cases hb
  ·exact h2
theorem qjh {pre:List AV} {q off:Nat} (ho:pre.length=off) {H:Heap} (gq:H.get q=some (pre++nV [])):SCalls Tryz.prog 120 [.ms q off 0 2] H (.ms (H.next+1) 0 0 2) ((H.alloc []).regrow (some H.next) (nV [])):=by
 obtain ⟨l,hlq⟩ : ∃ l:List NodeL,[]=l:=⟨_,rfl⟩
 rw[hlq] at gq |-
 obtain ⟨n,hnq⟩ : ∃ n,0=n:=⟨_,rfl⟩
 have hn:l.length=n:=by rw[<- hlq,<- hnq]; rfl
 have hsrc:source Tryz.prog (H.alloc []) 2 194 (.ms q off n 2)=some (n,nV l):=by
  rw[zq tU194 (cs:=pre++nV l) (by rw[Heap.get_alloc,if_neg (by have:=Heap.lt_of_get gq; omega)]; exact gq) (by rw[List.length_append,zK]; omega),<- ho,List.drop_left,List.take_of_length_le (by rw[zK]; omega)]
 have ha:=qL (P:=Tryz.prog) (H:=H.alloc []) (t:=194) (s:=.ms H.next 0 0 2) (n:=0) (cs:=[]) (bo:=some H.next) (k:=n) tU194 tS196 tB196 tZ196 rfl hsrc (grown_of (n:=0) (sz:=2) (by rw[Heap.get_alloc,if_pos rfl]) rfl) oz oz (qkz l)
 rw[Nat.zero_add,List.nil_append] at ha
 simp only[Heap.next_alloc] at ha
 rw[<- hnq] at ha
 refine qE (sz:=8) (Tryz.call120) Tryz.func120 rfl (by rw[Heap.next_regrow,Heap.next_alloc]; omega) kz (fun R hR=>?_)
 refine qg (fun K1 hK1=>?_)
 refine qi kz ?_
 simp[go_sem]
 refine hK1 _ _ ?_
 try clear hK1 K1
 refine qg (fun K2 hK2=>?_)
 refine qg (fun K3 hK3=>?_)
 refine qi kz ?_
 simp[go_sem]
 refine hK3 _ _ ?_
 try clear hK3 K3
 refine qha gz ?_ ?_
 ·skip
  refine qg (fun K4 hK4=>?_)
  refine qi kz ?_
  simp[go_sem]
  refine hK4 _ _ ?_
  try clear hK4 K4
  refine qea ?_
  refine qc9 2 2 gz ?_
  refine qx ?_
  simp only[go_sem]
  refine hR _ _ ?_
  refine qk0 gz (fun b cs hb=>?_) (by simp[go_sem]; omega) gz gz (fun b cs hb=>?_)
  ·unfold Heap.regrow at hb
   rw[Heap.get_alloc] at hb
   rw[Heap.get_alloc]
   split at hb
   ·rename_i e; rw[Heap.delo_next] at e; rw[if_pos e]; subst hlq; exact hb
   ·rename_i e; rw[Heap.delo_next] at e; rw[if_neg e]; exact (H.alloc []).delo_le _ b cs hb
  ·unfold Heap.regrow at hb
   rw[Heap.get_alloc] at hb
   split at hb
   ·cases hb; exact .inr (qgh l _)
   ·left
    have h2:=(H.alloc []).delo_le (some H.next) b cs hb
    rw[Heap.get_alloc] at h2
    split at h2
    ·rename_i e; subst e; simp only[Heap.delo] at hb; rw[Heap.get_del,if_pos rfl] at hb; cases hb
    ·exact h2
 ·skip
  refine ql ?_
  refine hK2 _ _ ?_
  try clear hK2 K2
  refine qg (fun K5 hK5=>?_)
  refine qi kz ?_
  simp[go_sem,ha,zrep0]
  refine hK5 _ _ ?_
  try clear hK5 K5
  refine qx ?_
  simp only[go_sem]
  refine hR _ _ ?_
  refine je gz (by simp[go_sem]; omega) gz (fun b cs hb=>?_)
  unfold Heap.regrow at hb
  rw[Heap.get_alloc] at hb
  split at hb
  ·cases hb; exact .inr (qgh l _)
  ·left
   have h2:=(H.alloc []).delo_le (some H.next) b cs hb
   rw[Heap.get_alloc] at h2
   split at h2
   ·rename_i e; subst e; simp only[Heap.delo] at hb; rw[Heap.get_del,if_pos rfl] at hb; cases hb
   ·exact h2
theorem nclone_s {l:List NodeL} {pre:List AV} {q off n:Nat} (hn:l.length=n) (ho:pre.length=off) (hl:n<=1000) {H:Heap} (gq:H.get q=some (pre++nV l)):SCalls Tryz.prog 120 [.ms q off n 2] H (.ms (H.next+1) 0 n 2) ((H.alloc []).regrow (some H.next) (nV l)):=by
 rcases Nat.eq_zero_or_pos n with h0 | h0
 ·subst h0
  have hl0:l = []:=List.length_eq_zero_iff.1 hn
  subst hl0
  exact qjh ho gq
 ·exact qmg hn ho h0 hl gq
end Go.Proofs.YtfokgjhdndnnhaaGreatDoor
end W19S
noncomputable section Fl49S
namespace Go.Fl
open Go
theorem qmh {P:Program} {sz:Nat} {c:Code} {Q:Exit->Env->Heap->Prop} {env:Env} {H:Heap} (i:Nat) {y:AV} (h:Wk (env i) y) (hc:SCode P sz c Q (env.upd (some i) y) H):SCode P sz c Q env H :=
 qfb (HW.refl H) (fun j=>by
  by_cases e:i=j
  ·subst e; rw[upd_same]; exact h
  ·rw[upd_ne _ _ _ _ e]; exact .same _) hc
theorem HW.set {H:Heap} {b:Nat} {cs cs' : List AV} (hb:H.get b=some cs) (hl:WkL cs cs'):HW (H.set b cs') H:=by
 refine ⟨Nat.le_refl _,fun k c hk=>?_⟩
 rw[Heap.get_set] at hk
 split at hk
 ·rename_i e
  rw[e,hb] at hk
  cases hk
  exact ⟨cs,by rw[e]; exact hb,hl.get.1,hl.get.2⟩
 ·exact ⟨c,hk,rfl,fun i x x' hx hx'=>by rw[hx] at hx'; cases hx'; exact .same _⟩
theorem zG {P:Program} {sz:Nat} {c:Code} {Q:Exit->Env->Heap->Prop} {env:Env} {H:Heap} (i:Nat) {x:AV} {n k:Nat} {cs:List AV} {bo:Option Nat} (hi:env i=x) (hg:grown H k x=some (n,cs,bo))
  (h:SCode P sz c Q (env.upd (some i) (.vs n k cs)) (H.delo bo)):SCode P sz c Q env H:=by
 refine qcz (H':=H.delo bo) (H.delo_le bo) (H.delo_next bo).symm (fun j=>?_) h
 by_cases hj:i=j
 ·subst hj
  rw[upd_same,hi]
  refine jh hg fun b hb=>?_
  subst hb
  show (H.del b).get b=none
  rw[Heap.get_del,if_pos rfl]
 ·rw[upd_ne _ _ _ _ hj]
  exact .same _
end Go.Fl
end Fl49S
set_option maxRecDepth 20000
noncomputable section W20S
namespace Go.Proofs.YtfokgjhdndnnhaaGreatDoor
open Go Go.Fl Go.Proofs
def insA (l:List NodeL) (k:Nat) (x:NodeL):List NodeL:=l.take k++x::l.drop k
theorem qof (l:List NodeL) (k:Nat) (x:NodeL):nV (insA l k x)=nV (l.take k)++(nC x++nV (l.drop k)):=by
 unfold insA
 rw[nV_app,qec]
 rfl
theorem insA_len (l:List NodeL) (k:Nat) (x:NodeL):(insA l k x).length=l.length+1:=by
 unfold insA
 rw[List.length_append,List.length_cons,List.length_take,List.length_drop]
 omega
theorem qji {P:Program} {f:FuncId} {args:List AV} {H:Heap} {r:AV} {H' : Heap} (h:SCallsP P f args H (fun x X=>x=r/\X=H')) (hn:H.next<=H'.next):SCalls P f args H r H' :=
 ⟨h.1,hn,fun ρ I w cargs hr ha=>(h.2 ρ I w cargs hr ha).mono fun e w' ⟨_,_,v,ρ',I',⟨h1,h2⟩,_,h3,h4,h5,h6⟩=>⟨v,ρ',I',h3,by rw[<- h1]; exact h4,by rw[<- h2]; exact h5,h6⟩⟩
theorem qcp {H:Heap} {vq:Nat} {x:NodeL} (gv:H.get vq=some (nC x)):source Tryz.prog H 2 194 (.ms vq 0 1 2)=some (1,nC x):=by
 rw[zq tU194 gv (by simp[nC])]
 simp[nC]
theorem ins_end {l:List NodeL} {x:NodeL} {b vq n:Nat} (hn:l.length=n) (hl:n<=1000) {H:Heap} (gb:H.get b=some (nV l)) (gv:H.get vq=some (nC x)):SCalls Tryz.prog 119 [.ms b 0 n 2,.int n,.ms vq 0 1 2] H (.ms H.next 0 (n+1) 2) (H.regrow (some b) (nV (insA l n x))):=by
 have hsrc:=qcp gv
 have ha:=qL (P:=Tryz.prog) (H:=H) (t:=194) (s:=.ms b 0 n 2) (k:=1) tU194 tS196 tB196 tZ196 rfl hsrc (grown_of (n:=n) (sz:=2) gb (by rw[zK]; omega)) oz oz (by rfl)
 have hcs:nV l++nC x=nV (insA l n x):=by rw[qof,List.take_of_length_le oz,List.drop_of_length_le oz]; simp[nV]
 rw[hcs] at ha
 have hw1:=qF n oz
 refine qE (sz:=95) (Tryz.call119) Tryz.func119 rfl (by rw[Heap.next_regrow]; omega) kz (fun R hR=>?_)
 refine qg (fun K1 hK1=>?_)
 refine qi kz ?_
 simp[go_sem]
 refine hK1 _ _ ?_
 try clear hK1 K1
 refine qg (fun K2 hK2=>?_)
 refine qi kz ?_
 simp[go_sem]
 refine hK2 _ _ ?_
 try clear hK2 K2
 refine qg (fun K3 hK3=>?_)
 refine qi kz ?_
 simp[go_sem]
 refine hK3 _ _ ?_
 try clear hK3 K3
 refine qg (fun K4 hK4=>?_)
 refine qg (fun K5 hK5=>?_)
 refine qi kz ?_
 simp[go_sem]
 refine hK5 _ _ ?_
 try clear hK5 K5
 refine qj (b:=false) gz (fun h=>by cases h) (fun _=>?_)
 refine ql ?_
 refine hK4 _ _ ?_
 try clear hK4 K4
 refine qg (fun K6 hK6=>?_)
 refine qi kz ?_
 simp[go_sem]
 refine hK6 _ _ ?_
 try clear hK6 K6
 refine qg (fun K7 hK7=>?_)
 refine qg (fun K8 hK8=>?_)
 refine qi kz ?_
 simp[go_sem]
 refine hK8 _ _ ?_
 try clear hK8 K8
 refine qj (b:=true) gz (fun _=>?_) (fun h=>by cases h)
 refine qg (fun K9 hK9=>?_)
 refine qi kz ?_
 simp[go_sem,ha]
 refine hK9 _ _ ?_
 try clear hK9 K9
 refine qx ?_
 simp only[go_sem]
 refine hR _ _ ?_
 refine je gz (by rw[Heap.next_regrow]; omega) gz (fun c cs hb=>?_)
 unfold Heap.regrow at hb
 rw[Heap.get_alloc] at hb
 split at hb
 ·cases hb; exact .inr (qgh _ _)
 ·exact .inl (H.delo_le _ c cs hb)
theorem ins_grow {l:List NodeL} {x:NodeL} {b vq n k:Nat} (hn:l.length=n) (hkn0:k<n) (hl:n<=1000) {H:Heap} (gb:H.get b=some (nV l)) (gv:H.get vq=some (nC x)) (c:Nat) (hcn:n<=c) (hc:c<n+1):SCallsP Tryz.prog 119 [.cp c (.ms b 0 n 2),.int k,.ms vq 0 1 2] H (fun r X=>r=(.ms H.next 0 (n+1) 2)/\X=((H.del b).alloc (nV (insA l k x)))):=by
 have hk3 : ¬ ((k:Int)=n):=oz
 have hk4 : ¬ (k=n):=oz
 have hkn:k<=n:=oz
 have hw1:=qF n oz
 have hc2:(c:Int)<(n:Int)+1:=oz
 obtain ⟨m,hm⟩ : ∃ m,n+1-k=m:=⟨_,rfl⟩
 have hwm:IntKind.i64.wrap ((n:Int)+1-k)=(m:Int):=by rw[i64in _ oz oz]; omega
 have hkm:k+m=n+1:=oz
 refine qA (sz:=95) (Tryz.call119) Tryz.func119 rfl kz (fun R hR=>?_)
 refine qg (fun K1 hK1=>?_)
 refine qi kz ?_
 simp[go_sem]
 refine hK1 _ _ ?_
 try clear hK1 K1
 refine qg (fun K2 hK2=>?_)
 refine qM kz ?_
 refine jE (.ms b 0 n 2) (H) rfl (qai (c:=c) gz) ?_
 refine zJ ?_
 simp[go_sem,hkn]
 refine hK2 _ _ ?_
 try clear hK2 K2
 refine qg (fun K3 hK3=>?_)
 refine qi kz ?_
 simp[go_sem]
 refine hK3 _ _ ?_
 try clear hK3 K3
 refine qg (fun K4 hK4=>?_)
 refine qg (fun K5 hK5=>?_)
 refine qi kz ?_
 simp[go_sem]
 refine hK5 _ _ ?_
 try clear hK5 K5
 refine qj (b:=false) gz (fun h=>by cases h) (fun _=>?_)
 refine ql ?_
 refine hK4 _ _ ?_
 try clear hK4 K4
 refine qg (fun K6 hK6=>?_)
 refine qM kz ?_
 refine jE (.ms b 0 n 2) (H) rfl (qai (c:=c) gz) ?_
 refine zJ ?_
 simp[go_sem]
 refine hK6 _ _ ?_
 try clear hK6 K6
 refine qg (fun K7 hK7=>?_)
 refine qg (fun K8 hK8=>?_)
 refine qi kz ?_
 simp[go_sem,hk3,hk4]
 refine hK8 _ _ ?_
 try clear hK8 K8
 refine qj (b:=false) (by simp[go_sem,hk3,hk4]) (fun h=>by cases h) (fun _=>?_)
 refine ql ?_
 refine hK7 _ _ ?_
 try clear hK7 K7
 refine qg (fun K9 hK9=>?_)
 refine qg (fun K10 hK10=>?_)
 refine qM kz ?_
 refine jf 4 (fun K90 hK90=>?_)
 simp[go_sem,hw1]
 refine hK90 _ _ ?_
 clear hK90 K90
 refine jE (.int c) (H) rfl (qhn tU194 (y:=.ms b 0 n 2) gz) ?_
 refine zJ ?_
 simp[go_sem,hc2]
 refine hK10 _ _ ?_
 try clear hK10 K10
 refine qj (b:=true) (by simp[go_sem,hc2]) (fun _=>?_) (fun h=>by cases h)
 refine qw (fun env H2=>(env 0 = .cp c (.ms b 0 n 2)/\env 1 = .int k/\env 2 = .ms vq 0 1 2/\env 7 = .int 1/\env 9 = .ms H.next 0 (n+1) 2)/\H2.next=H.next+1/\H2.get H.next=some (nV (l.take k)++List.replicate (m*2) .top)/\H2.get b=some (nV l)/\H2.get vq=some (nC x) /\ ∀ q cs,H.get q=some cs->H2.get q=some cs) ?_ ?_
 ·skip
  refine qo (fun K99 hK99=>?_)
  refine qM kz ?_
  refine jf 2 (fun K90 hK90=>?_)
  simp[go_sem]
  refine hK90 _ _ ?_
  clear hK90 K90
  refine jE (.cp c (.ms b 0 k 2)) (H) rfl (qeu (c:=c) (len:=n) tU194 tS196 gz gz oz hkn) ?_
  refine jf 5 (fun K92 hK92=>?_)
  simp[go_sem,hw1,hwm]
  refine hK92 _ _ ?_
  clear hK92 K92
  refine jE (.ms H.next 0 (k+m) 2) (H.alloc (((nV l).drop 0).take (k*2)++List.replicate (m*2) .top)) rfl (qi8 (c:=c) (b:=b) (off:=0) (len:=k) (n:=m) (bt:=32) (cs:=nV l) tU194 tU3 tS196 tB196 tZ196 rfl dz gz gz oz gb (by rw[zK]; omega) oz oz oz) ?_
  refine zJ ?_
  simp[go_sem]
  refine hK99 _ _ ?_
  refine ⟨⟨gz,gz,gz,gz,by simp[go_sem,hkm]⟩,by rw[Heap.next_alloc],by rw[Heap.get_alloc,if_pos rfl,qoe],?_,?_,fun q cs hq=>?_⟩
  ·rw[Heap.get_alloc,if_neg (by have:=Heap.lt_of_get gb; omega)]; exact gb
  ·rw[Heap.get_alloc,if_neg (by have:=Heap.lt_of_get gv; omega)]; exact gv
  ·rw[Heap.get_alloc,if_neg (by have:=Heap.lt_of_get hq; omega)]; exact hq
 rintro env H2 ⟨⟨e0,e1,e2,e7,e9⟩,hn2,gN,gb2,gv2,hold⟩
 have nb:=Heap.lt_of_get gb
 have nv:=Heap.lt_of_get gv
 obtain ⟨N,hN⟩ : ∃ N,H.next=N:=⟨_,rfl⟩
 rw[hN] at e9 gN hn2 nb nv
 have hsrc:=qcp gv2
 obtain ⟨C0,hC0⟩ : ∃ C,nV (l.take k)++List.replicate (m*2) AV.top=C:=⟨_,rfl⟩
 have htl:(nV (l.take k)).length=k*2:=by rw[zK,List.length_take]; omega
 have hcl:C0.length=n*2+2:=by rw[<- hC0,List.length_append,htl,List.length_replicate]; omega
 have hC0t:C0.take (k*2)=nV (l.take k):=by rw[<- hC0,<- htl,List.take_left]
 rw[hC0] at gN
 have hnl:(nC x).length=2:=rfl
 obtain ⟨C1,hC1⟩ : ∃ C,C0.take (k*2)++(nC x++C0.drop (k*2+2))=C:=⟨_,rfl⟩
 have hC1l:C1.length=n*2+2:=by rw[<- hC1,List.length_append,List.length_append,List.length_take,List.length_drop,hcl,hnl]; omega
 have hC1t:C1.take ((k+1)*2)=nV (l.take k)++nC x:=by
  rw[<- hC1,hC0t,<- List.append_assoc]
  have e:(nV (l.take k)++nC x).length=(k+1)*2:=by rw[List.length_append,htl,hnl]; omega
  rw[<- e,List.take_left]
 have hb1:k*2+(n+1-k)*2<=n*2+2:=oz
 have hmin:min 1 (n+1-k)=1:=oz
 have hnt:(nC x).take 2=nC x:=rfl
 have hna:(nC x).all AV.leaf=true:=rfl
 have hk1n:k<=n+1:=oz
 refine qmh 0 (y:=.ms b 0 n 2) (by rw[e0]; exact .cp _ _) ?_
 refine qw (fun env H3=>(env 0 = .ms b 0 n 2/\env 1 = .int k/\env 7 = .int 1/\env 9 = .ms N 0 (n+1) 2)/\H3=H2.set N C1) ?_ ?_
 ·skip
  refine qo (fun K13 hK13=>?_)
  refine qi kz ?_
  simp[go_sem,e1,e2,e9,gN,hsrc,hcl,hb1,hmin,hnl,hC1,hnt,hna,hk1n]
  refine hK13 _ _ ?_
  exact ⟨⟨gz,by simp[go_sem,e1],by simp[go_sem,e7],by simp[go_sem,e9]⟩,rfl⟩
 rintro env _ ⟨⟨e0,e1,e7,e9⟩,rfl⟩
 have gN3:(H2.set N C1).get N=some C1:=by rw[Heap.get_set,if_pos rfl,gN]; rfl
 have gb3:(H2.set N C1).get b=some (nV l):=by rw[Heap.get_set,if_neg oz]; exact gb2
 obtain ⟨H3,hH3⟩ : ∃ X,H2.set N C1=X:=⟨_,rfl⟩
 rw[hH3] at gN3 gb3 |-
 have hsr2:source Tryz.prog H3 2 194 (.ms b (k*2) (n-k) 2)=some (n-k,nV (l.drop k)):=by rw[zq tU194 gb3 (by rw[zK]; omega),qjg,List.take_of_length_le (by rw[zK,List.length_drop]; omega)]
 have hdl:(nV (l.drop k)).length=(n-k)*2:=by rw[zK,List.length_drop,hn]
 have hb3:(k+1)*2+(n+1-(k+1))*2<=n*2+2:=oz
 have hmin3:min (n-k) (n+1-(k+1))=n-k:=oz
 have hnt3:(nV (l.drop k)).take ((n-k)*2)=nV (l.drop k):=List.take_of_length_le oz
 have hsp3:C1.take ((k+1)*2)++(nV (l.drop k)++C1.drop ((k+1)*2+(n-k)*2))=nV (insA l k x):=by
  rw[hC1t,show C1.drop ((k+1)*2+(n-k)*2) = [] from List.drop_of_length_le (by rw[hC1l]; omega),List.append_nil,qof,List.append_assoc]
 have hwk:=qF k oz
 have hk2:k+1<=n+1:=oz
 have hlf:=List.all_eq_true.1 (qkz (l.drop k))
 have hb4:(k+1)*2+(n-k)*2<=n*2+2:=oz
 have hmin3b:min (n+1-k) (n-k)=n-k:=oz
 have nk1:((k:Int)+1).toNat=k+1:=oz
 have hk0:(0:Int)<=(k:Int)+1:=oz
 refine qg (fun K14 hK14=>?_)
 refine qo (fun K95 hK95=>?_)
 refine qZ mixed kz (bf:=[0,0,0,6,15,0,0,96,255]) kz ?_
 simp[go_sem,e0,e1,e7,e9,hwk,gN3,hsr2,hC1l,hb3,hmin3,hnt3,hdl,hsp3,hk2,hkn,hlf,hb4,nk1,hk0,befL]
 rw[if_pos (by exact hlf)]
 refine hK95 _ _ ?_
 refine hK14 _ _ ?_
 try clear hK14 K14
 refine qg (fun K15 hK15=>?_)
 refine qi kz ?_
 simp[go_sem,e9]
 refine hK15 _ _ ?_
 try clear hK15 K15
 refine qx ?_
 simp only[go_sem]
 refine hR _ _ ?_
 refine ⟨_,_,⟨rfl,rfl⟩,qk0 (by simp[go_sem,hN]) (fun q cs hb=>?_) (by rw[Heap.next_alloc]; show H.next<=H.next+1; omega) (by rw[Heap.next_alloc]; show H.next+1<=_; rw[Heap.next_set,<- hH3,Heap.next_set]; omega) gz (fun q cs hb=>?_)⟩
 ·rw[Heap.get_alloc] at hb
  have e:(H.del b).next=N:=hN
  rw[e] at hb
  rw[Heap.get_set]
  split at hb
  ·rename_i e2; rw[if_pos e2,e2,gN3]; exact hb
  ·rename_i e2; rw[if_neg e2,<- hH3,Heap.get_set,if_neg e2]; exact hold q cs (H.del_le b q cs hb)
 ·rw[Heap.get_alloc] at hb
  split at hb
  ·cases hb; exact .inr (qgh _ _)
  ·exact .inl (H.del_le b q cs hb)
theorem ins_room {l:List NodeL} {x:NodeL} {b vq n k:Nat} (hn:l.length=n) (hkn0:k<n) (hl:n<=1000) {H:Heap} (gb:H.get b=some (nV l)) (gv:H.get vq=some (nC x)) (c:Nat) (hcn:n<=c) (hne:b≠vq) (hc:n+1<=c):SCallsP Tryz.prog 119 [.cp c (.ms b 0 n 2),.int k,.ms vq 0 1 2] (H.set b (nV l++List.replicate (1*2) .top)) (fun r X=>r=(.ms H.next 0 (n+1) 2)/\X=((H.del b).alloc (nV (insA l k x)))):=by
 have hk3 : ¬ ((k:Int)=n):=oz
 have hk4 : ¬ (k=n):=oz
 have hkn:k<=n:=oz
 have hw1:=qF n oz
 have hc2 : ¬ ((c:Int)<(n:Int)+1):=oz
 have hbv : ¬ (vq=b):=fun e=>hne e.symm
 have gb1:(H.set b (nV l++List.replicate (1*2) .top)).get b=some (nV l++List.replicate (1*2) .top):=by rw[Heap.get_set,if_pos rfl,gb]; rfl
 have gv1:(H.set b (nV l++List.replicate (1*2) .top)).get vq=some (nC x):=by rw[Heap.get_set,if_neg hbv]; exact gv
 obtain ⟨H1,hH1⟩ : ∃ X,(H.set b (nV l++List.replicate (1*2) .top))=X:=⟨_,rfl⟩
 rw[hH1] at gb1 gv1 |-
 have hn1:H1.next=H.next:=by rw[<- hH1]; rfl
 have hold : ∀ q cs,q≠b->H.get q=some cs->H1.get q=some cs:=fun q cs hq h=>by rw[<- hH1,Heap.get_set,if_neg hq]; exact h
 obtain ⟨C0,hC0⟩ : ∃ C,nV l++List.replicate (1*2) AV.top=C:=⟨_,rfl⟩
 have hC0l:C0.length=n*2+2:=by rw[<- hC0,List.length_append,zK,List.length_replicate]; omega
 rw[hC0] at gb1
 have hwk:=qF k oz
 have nk1:((k:Int)+1).toNat=k+1:=oz
 have hk0:(0:Int)<=(k:Int)+1:=oz
 have hk2:k+1<=n+1:=oz
 have hk1n:k<=n+1:=oz
 have hb3:(k+1)*2+(n+1-(k+1))*2<=n*2+2:=oz
 have hb1:k*2+(n+1-k)*2<=n*2+2:=oz
 have hmin3:min (n+1-k) (n+1-(k+1))=n-k:=oz
 have hmin:min 1 (n+1-k)=1:=oz
 have hsr2:source Tryz.prog H1 2 194 (.ms b (k*2) (n+1-k) 2)=some (n+1-k,nV (l.drop k)++List.replicate 2 .top):=by
  rw[zq tU194 gb1 (by rw[hC0l]; omega),<- hC0,List.drop_append_of_le_length (by rw[zK]; omega),qjg,List.take_of_length_le (by rw[List.length_append,zK,List.length_drop,List.length_replicate]; omega)]
 have hdl:(nV (l.drop k)).length=(n-k)*2:=by rw[zK,List.length_drop,hn]
 have hnt3:(nV (l.drop k)++List.replicate 2 AV.top).take ((n-k)*2)=nV (l.drop k):=by rw[<- hdl,List.take_left]
 have hlf:=List.all_eq_true.1 (qkz (l.drop k))
 have hb4:(k+1)*2+(n-k)*2<=n*2+2:=oz
 have hmin3b:min (n+1-k) (n-k)=n-k:=oz
 have hnl:(nC x).length=2:=rfl
 obtain ⟨C1,hC1⟩ : ∃ C,C0.take ((k+1)*2)++(nV (l.drop k)++C0.drop ((k+1)*2+(n-k)*2))=C:=⟨_,rfl⟩
 have hC1l:C1.length=n*2+2:=by rw[<- hC1,List.length_append,List.length_append,List.length_take,List.length_drop,hC0l,hdl]; omega
 have hC1t:C1.take (k*2)=nV (l.take k)/\C1.drop (k*2+2)=nV (l.drop k):=by
  have e0:C0.take ((k+1)*2)=nV (l.take k)++(C0.drop (k*2)).take 2:=by
   rw[Nat.add_mul,Nat.one_mul,List.take_add]
   congr 1
   rw[<- hC0,List.take_append_of_le_length (by rw[zK]; omega),qoe]
  have e1:C1=(nV (l.take k)++(C0.drop (k*2)).take 2)++nV (l.drop k):=by
   rw[<- hC1,e0,show C0.drop ((k+1)*2+(n-k)*2) = [] from List.drop_of_length_le (by rw[hC0l]; omega),List.append_nil]
  have e2:(nV (l.take k)).length=k*2:=by rw[zK,List.length_take]; omega
  have e3:((C0.drop (k*2)).take 2).length=2:=by rw[List.length_take,List.length_drop,hC0l]; omega
  constructor
  ·rw[e1,List.append_assoc,<- e2,List.take_left]
  ·rw[e1]
   have e4:(nV (l.take k)++(C0.drop (k*2)).take 2).length=k*2+2:=by rw[List.length_append,e2,e3]
   rw[<- e4,List.drop_left]
 have hsp:C1.take (k*2)++(nC x++C1.drop (k*2+2))=nV (insA l k x):=by rw[hC1t.1,hC1t.2,qof]
 have hnt:(nC x).take 2=nC x:=rfl
 have hna:(nC x).all AV.leaf=true:=rfl
 refine qA (sz:=95) (Tryz.call119) Tryz.func119 rfl kz (fun R hR=>?_)
 refine qg (fun K1 hK1=>?_)
 refine qi kz ?_
 simp[go_sem]
 refine hK1 _ _ ?_
 try clear hK1 K1
 refine qg (fun K2 hK2=>?_)
 refine qM kz ?_
 refine jE (.ms b 0 n 2) (H1) rfl (qai (c:=c) gz) ?_
 refine zJ ?_
 simp[go_sem,hkn]
 refine hK2 _ _ ?_
 try clear hK2 K2
 refine qg (fun K3 hK3=>?_)
 refine qi kz ?_
 simp[go_sem]
 refine hK3 _ _ ?_
 try clear hK3 K3
 refine qg (fun K4 hK4=>?_)
 refine qg (fun K5 hK5=>?_)
 refine qi kz ?_
 simp[go_sem]
 refine hK5 _ _ ?_
 try clear hK5 K5
 refine qj (b:=false) gz (fun h=>by cases h) (fun _=>?_)
 refine ql ?_
 refine hK4 _ _ ?_
 try clear hK4 K4
 refine qg (fun K6 hK6=>?_)
 refine qM kz ?_
 refine jE (.ms b 0 n 2) (H1) rfl (qai (c:=c) gz) ?_
 refine zJ ?_
 simp[go_sem]
 refine hK6 _ _ ?_
 try clear hK6 K6
 refine qg (fun K7 hK7=>?_)
 refine qg (fun K8 hK8=>?_)
 refine qi kz ?_
 simp[go_sem,hk3,hk4]
 refine hK8 _ _ ?_
 try clear hK8 K8
 refine qj (b:=false) (by simp[go_sem,hk3,hk4]) (fun h=>by cases h) (fun _=>?_)
 refine ql ?_
 refine hK7 _ _ ?_
 try clear hK7 K7
 refine qg (fun K9 hK9=>?_)
 refine qg (fun K10 hK10=>?_)
 refine qM kz ?_
 refine jf 4 (fun K90 hK90=>?_)
 simp[go_sem,hw1]
 refine hK90 _ _ ?_
 clear hK90 K90
 refine jE (.int c) (H1) rfl (qhn tU194 (y:=.ms b 0 n 2) gz) ?_
 refine zJ ?_
 simp[go_sem,hc2]
 refine hK10 _ _ ?_
 try clear hK10 K10
 refine qj (b:=false) (by simp[go_sem,hc2]) (fun h=>by cases h) (fun _=>?_)
 refine ql ?_
 refine hK9 _ _ ?_
 try clear hK9 K9
 refine qw (fun env H2=>(env 0 = .ms b 0 (n+1) 2/\env 1 = .int k/\env 2 = .ms vq 0 1 2/\env 7 = .int 1)/\H1=H2) ?_ ?_
 ·skip
  refine qo (fun K99 hK99=>?_)
  refine qM kz ?_
  refine jf 4 (fun K90 hK90=>?_)
  simp[go_sem,hw1]
  refine hK90 _ _ ?_
  clear hK90 K90
  refine jE (.ms b 0 (n+1) 2) (H1) rfl (qdb (c:=c) (len:=n) tU194 tS196 gz gz oz oz) ?_
  refine zJ ?_
  simp[go_sem]
  refine hK99 _ _ ?_
  exact ⟨⟨gz,gz,gz,gz⟩,rfl⟩
 rintro env _ ⟨⟨e0,e1,e2,e7⟩,rfl⟩
 refine qg (fun K12 hK12=>?_)
 refine qg (fun K13 hK13=>?_)
 refine qM kz ?_
 refine jf 6 (fun K90 hK90=>?_)
 simp[go_sem,e0,e1,e2,e7,hwk,nk1,hk0,hk2]
 refine hK90 _ _ ?_
 clear hK90 K90
 refine jE (.bool false) (H1) rfl (qex (b1:=vq) (o1:=0) (l1:=1) (b2:=b) (o2:=(k+1)*2) (l2:=n+1-(k+1)) (sz:=2) (c1:=nC x) (c2:=C0) (tr:=4) Tryz.func124 kz kz kz kz tU194 tS196 dz (by simp[go_sem,e2]) (by simp[go_sem,e0]) hbv dz oz gv1 gb1 (by simp[nC])) ?_
 refine zJ ?_
 simp[go_sem]
 refine hK13 _ _ ?_
 try clear hK13 K13
 refine qj (b:=true) gz (fun _=>?_) (fun h=>by cases h)
 refine qw (fun env H3=>(env 0 = .ms b 0 (n+1) 2/\env 1 = .int k/\env 2 = .ms vq 0 1 2)/\H3=H1.set b C1) ?_ ?_
 ·skip
  refine qo (fun K95 hK95=>?_)
  refine qZ mixed kz (bf:=[0,0,0,6,15,0,0,96,255]) kz ?_
  simp[go_sem,e0,e1,e7,hwk,gb1,hsr2,hC0l,hb3,hmin3,hmin3b,hnt3,hdl,hC1,hk2,hk1n,hlf,hb4,nk1,hk0,befL]
  rw[if_pos (by exact hlf)]
  refine hK95 _ _ ?_
  exact ⟨⟨by simp[go_sem,e0],by simp[go_sem,e1],by simp[go_sem,e2]⟩,rfl⟩
 rintro env _ ⟨⟨e0,e1,e2⟩,rfl⟩
 have gb3:(H1.set b C1).get b=some C1:=by rw[Heap.get_set,if_pos rfl,gb1]; rfl
 have gv3:(H1.set b C1).get vq=some (nC x):=by rw[Heap.get_set,if_neg hbv]; exact gv1
 obtain ⟨H3,hH3⟩ : ∃ X,H1.set b C1=X:=⟨_,rfl⟩
 rw[hH3] at gb3 gv3 |-
 have hn3:H3.next=H.next:=by rw[<- hH3]; exact hn1
 have hold3 : ∀ q cs,q≠b->H.get q=some cs->H3.get q=some cs:=fun q cs hq h=>by rw[<- hH3,Heap.get_set,if_neg hq]; exact hold q cs hq h
 have hsrc:=qcp gv3
 refine qg (fun K15 hK15=>?_)
 refine qi kz ?_
 simp[go_sem,e0,e1,e2,gb3,hsrc,hC1l,hb1,hmin,hnl,hsp,hnt,hna,hk1n]
 refine hK15 _ _ ?_
 try clear hK15 K15
 refine qg (fun K16 hK16=>?_)
 refine qi kz ?_
 simp[go_sem,e0]
 refine hK16 _ _ ?_
 try clear hK16 K16
 refine qh0 6 (b:=b) (off:=0) (len:=n+1) (n:=2) (cs:=nV (insA l k x)) gz oz (by simp[go_sem,gb3]) (by rw[zK,insA_len]; omega) ?_
 refine qx ?_
 simp only[go_sem]
 refine hR _ _ ?_
 refine ⟨_,_,⟨rfl,rfl⟩,qk0 (by simp[go_sem,hn3]) (fun q cs hb=>?_) (by rw[Heap.next_alloc,hn1]; show H.next<=H.next+1; omega) (by rw[Heap.next_alloc,Heap.next_alloc]; show H.next+1<=H3.next+1; omega) gz (fun q cs hb=>?_)⟩
 ·rw[Heap.get_alloc] at hb
  have e:(H.del b).next=H.next:=rfl
  have e2:((H3.set b (nV (insA l k x))).del b).next=H.next:=hn3
  rw[e] at hb
  rw[Heap.get_alloc,e2]
  split at hb
  ·rename_i e3; rw[if_pos e3]; exact hb
  ·rename_i e3
   rw[if_neg e3,Heap.get_del]
   rw[Heap.get_del] at hb
   split at hb
   ·cases hb
   ·rename_i e4; rw[if_neg e4,Heap.get_set,if_neg e4]; exact hold3 q cs e4 hb
 ·rw[Heap.get_alloc] at hb
  split at hb
  ·cases hb; exact .inr (qgh _ _)
  ·rw[Heap.get_del] at hb
   split at hb
   ·cases hb
   ·rename_i e4; exact .inl (hold q cs e4 hb)
theorem ins_s {l:List NodeL} {x:NodeL} {b vq n k:Nat} (hn:l.length=n) (hk:k<=n) (hl:n<=1000) {H:Heap} (gb:H.get b=some (nV l)) (gv:H.get vq=some (nC x)) (hne:b≠vq):SCalls Tryz.prog 119 [.ms b 0 n 2,.int k,.ms vq 0 1 2] H (.ms H.next 0 (n+1) 2) ((H.del b).alloc (nV (insA l k x))):=by
 rcases Nat.lt_or_ge k n with h | h
 ·refine qji (qi9 (m:=1) gb (by rw[zK]; omega) oz (fun c h1 h2=>ins_grow hn h hl gb gv c h1 h2) Tryz.call119 (fun c h1=>ins_room hn h hl gb gv c oz hne h1)) ?_
  rw[Heap.next_alloc]
  show H.next<=H.next+1
  omega
 ·obtain rfl:k=n:=oz
  exact ins_end hn hl gb gv
end Go.Proofs.YtfokgjhdndnnhaaGreatDoor
end W20S
