/- Contracts: the sort. -/
import Derived.Test.YtfokgjhdndnnhaaGreatDoorW15
import Derived.Test.YtfokgjhdndnnhaaGreatDoorW8
set_option maxHeartbeats 1000000
set_option linter.unusedVariables false
set_option linter.unusedSimpArgs false
set_option maxRecDepth 20000
noncomputable section W16S
namespace Go.Proofs.YtfokgjhdndnnhaaGreatDoor
open Go Go.Fl Go.Proofs
theorem qly {cs:List Nat} {n g a:Nat} {l:List Nat} (h : ¬ a+20<=n):blkGo cs n g a l=insSort cs a n l:=by
 cases g with
 | zero=>rfl
 | succ g=>simp only[blkGo]; rw[if_neg h]
theorem qlz {cs:List Nat} {n g a:Nat} {l:List Nat} (h:a+20<=n):blkGo cs n (g+1) a l=blkGo cs n g (a+20) (insSort cs a (a+20) l):=by simp only[blkGo]; rw[if_pos h]
theorem qnr {cs:List Nat} {n w g a:Nat} {l:List Nat} (h:a+2*w<=n):prGo cs n w (g+1) a l=prGo cs n w g (a+2*w) (symM cs (2*w) a (a+w) (a+2*w) l):=by simp only[prGo]; rw[if_pos h]
theorem qns {cs:List Nat} {n w g a:Nat} {l:List Nat} (h : ¬ a+2*w<=n) (h2:a+w<n):prGo cs n w (g+1) a l=symM cs (n-a) a (a+w) n l:=by simp only[prGo]; rw[if_neg h,if_pos h2]
theorem qnt {cs:List Nat} {n w g a:Nat} {l:List Nat} (h : ¬ a+2*w<=n) (h2 : ¬ a+w<n):prGo cs n w g a l=l:=by
 cases g with
 | zero=>rfl
 | succ g=>simp only[prGo]; rw[if_neg h,if_neg h2]
theorem ql0 {cs:List Nat} {n g w:Nat} {l:List Nat} (h:w<n):mrgGo cs n (g+1) w l=mrgGo cs n g (2*w) (prGo cs n w n 0 l):=by simp only[mrgGo]; rw[if_pos h]
theorem ql1 {cs:List Nat} {n g w:Nat} {l:List Nat} (h : ¬ w<n):mrgGo cs n g w l=l:=by
 cases g with
 | zero=>rfl
 | succ g=>simp only[mrgGo]; rw[if_neg h]
theorem stable_p {S:Nat->Prop} {L cb n:Nat} {cs l:List Nat} (hn:l.length=n) {H:Heap} (hst:SrtS S H L cb cs l):SCallsP Tryz.prog 122 [.ms L 0 n 1,.int n,cmpF cb] H (fun r H'=>r = .tup []/\H'.get L=some (iV (stableM cs l))/\Step S H H'):=by
 have hnb:n<=1000:=by obtain ⟨_,_,_,_,_,_,_,h⟩:=hst; omega
 refine qA (sz:=63) (Tryz.call122) Tryz.func122 rfl kz (fun R hR=>?_)
 refine qg (fun K1 hK1=>?_)
 refine qi kz ?_
 simp[go_sem]
 refine hK1 _ _ ?_
 try clear hK1 K1
 refine qg (fun K2 hK2=>?_)
 refine qi kz ?_
 simp[go_sem]
 refine hK2 _ _ ?_
 try clear hK2 K2
 refine qg (fun K3 hK3=>?_)
 refine qm ?_
 refine qC (Inv:=fun m0 env H2 => ∃ (a g:Nat) (l1:List Nat),m0=n-a/\a<=n/\n<=a+20*g/\env 0 = .ms L 0 n 1/\env 1 = .int n/\env 2=cmpF cb/\env 6 = .int 20/\env 7 = .int a/\env 8 = .int ((a:Int)+20)/\blkGo cs n n 0 l=blkGo cs n g a l1/\l1.length=n/\SrtS S H2 L cb cs l1/\Step S H H2) ?_ (n:=n) (⟨0,n,l,rfl,oz,oz,gz,gz,gz,gz,gz,gz,rfl,hn,hst,Step.refl _ _⟩)
 clear hst
 rintro m0 env H2 ⟨a,g,l1,rfl,ha,hg,e0,e1,e2,e6,e7,e8,hbl,hl1,hst,hS⟩
 refine qg (fun K4 hK4=>?_)
 refine qg (fun K5 hK5=>?_)
 refine qi kz ?_
 simp[go_sem,e1,e8]
 refine hK5 _ _ ?_
 try clear hK5 K5
 have hdc:((a:Int)+20<=(n:Int))=(a+20<=n):=propext ⟨fun h=>by omega,fun h=>by omega⟩
 refine qj (b:=decide (a+20<=n)) (by simp[go_sem,hdc]) (fun hb=>?_) (fun hb=>?_)
 ·skip
  simp only[decide_eq_true_eq] at hb
  obtain ⟨g,rfl⟩ : ∃ x,g=x+1:=⟨g-1,oz⟩
  have cp:=qhz (S:=S) (a:=a) (b:=a+20) hl1 ha hb hst
  have hpm:=jy cs a (a+20) l1 oz
  unfold cmpF at cp
  push_cast at cp
  refine ql ?_
  refine hK4 _ _ ?_
  try clear hK4 K4
  refine qm ?_
  refine qg (fun K6 hK6=>?_)
  refine qp kz ?_
  simp[go_sem,e0,e2,e7,e8,cmpF]
  refine ⟨_,cp,?_⟩
  rintro _ H3 hn3 ⟨rfl,g3,hS3⟩
  have hst9:=hst.next hS3 g3 hpm
  have hS9:=hS.trans hS3
  refine hK6 _ _ ?_
  try clear hK6 K6
  refine qg (fun K8 hK8=>?_)
  refine qi kz ?_
  simp[go_sem,e8]
  refine hK8 _ _ ?_
  try clear hK8 K8
  refine qo (fun K9 hK9=>?_)
  refine qi kz ?_
  simp[go_sem,e6,e8]
  refine hK9 _ _ ?_
  have hwa:IntKind.i64.wrap ((a:Int)+20+20)=(a:Int)+20+20:=i64in _ oz oz
  exact ⟨n-(a+20),oz,a+20,g,_,rfl,oz,oz,by simp[go_sem,e0],by simp[go_sem,e1],by simp[go_sem,e2],by simp[go_sem,e6],by simp[go_sem,e8],by simp[go_sem,e6,e8,hwa],hbl.trans (qlz hb),hpm.length_eq.trans hl1,hst9,hS9⟩
 ·skip
  simp only[decide_eq_false_iff_not] at hb
  rw[qly hb] at hbl
  have cp:=qhz (S:=S) (a:=a) (b:=n) hl1 ha (Nat.le_refl _) hst
  have hpm:=jy cs a n l1 oz
  unfold cmpF at cp
  refine qy ?_
  refine hK3 _ _ ?_
  try clear hK3 K3
  refine qw (fun env H2=>(env 0 = .ms L 0 n 1/\env 1 = .int n/\env 2=cmpF cb/\env 6 = .int 20) /\ ∃ lb,stableM cs l=mrgGo cs n n 20 lb/\lb.length=n/\SrtS S H2 L cb cs lb/\Step S H H2) ?_ ?_
  ·skip
   refine qo (fun K11 hK11=>?_)
   refine qp kz ?_
   simp[go_sem,e0,e1,e2,e7,cmpF]
   refine ⟨_,cp,?_⟩
   rintro _ H3 hn3 ⟨rfl,g3,hS3⟩
   have hst9:=hst.next hS3 g3 hpm
   have hS9:=hS.trans hS3
   have hl9:=hpm.length_eq.trans hl1
   rw[<- hbl] at hst9 hl9
   obtain ⟨lb,hlb⟩ : ∃ x,blkGo cs n n 0 l=x:=⟨_,rfl⟩
   have hsm:stableM cs l=mrgGo cs n n 20 lb:=by unfold stableM; rw[hn,hlb]
   rw[hlb] at hst9 hl9
   refine hK11 _ _ ?_
   exact ⟨⟨by simp[go_sem,e0],by simp[go_sem,e1],by simp[go_sem,e2],by simp[go_sem,e6]⟩,lb,hsm,hl9,hst9,hS9⟩
  clear e0 e1 e2 e6 e7 e8 hst hS hbl
  rintro env H2 ⟨⟨e0,e1,e2,e6⟩,lb,hsm,hlb,hst,hS⟩
  refine qm ?_
  refine qC (Inv:=fun m0 env H2 => ∃ (w g:Nat) (l1:List Nat),m0=n-w/\20<=w/\w<=2000/\n<=w+20*g/\env 0 = .ms L 0 n 1/\env 1 = .int n/\env 2=cmpF cb/\env 6 = .int w/\mrgGo cs n n 20 lb=mrgGo cs n g w l1/\l1.length=n/\SrtS S H2 L cb cs l1/\Step S H H2) ?_ (n:=n-20) (⟨20,n,lb,rfl,oz,oz,oz,by simp[go_sem,e0],by simp[go_sem,e1],by simp[go_sem,e2],by simp[go_sem,e6],rfl,hlb,hst,hS⟩)
  clear e0 e1 e2 e6 hst hS
  rintro m0 env H2 ⟨w,g,l1,rfl,hw20,hwm,hg,e0,e1,e2,e6,hmr,hl1,hst,hS⟩
  refine qg (fun K13 hK13=>?_)
  refine qg (fun K14 hK14=>?_)
  refine qi kz ?_
  simp[go_sem,e1,e6]
  refine hK14 _ _ ?_
  try clear hK14 K14
  refine qj (b:=decide (w<n)) gz (fun hb=>?_) (fun hb=>?_)
  ·skip
   simp only[decide_eq_true_eq] at hb
   have hbw:=hb
   obtain ⟨g,rfl⟩ : ∃ x,g=x+1:=⟨g-1,oz⟩
   have hw2:IntKind.i64.wrap (2*(w:Int))=2*(w:Int):=i64in _ oz oz
   refine ql ?_
   refine hK13 _ _ ?_
   try clear hK13 K13
   refine qm ?_
   refine qg (fun K15 hK15=>?_)
   refine qi kz ?_
   simp[go_sem,e6,hw2]
   refine hK15 _ _ ?_
   try clear hK15 K15
   refine qg (fun K16 hK16=>?_)
   refine qm ?_
   refine qC (Inv:=fun m0 env H2 => ∃ (a g:Nat) (l2:List Nat),m0=n-a/\a<=n/\n<=a+g/\env 0 = .ms L 0 n 1/\env 1 = .int n/\env 2=cmpF cb/\env 6 = .int w/\env 7 = .int a/\env 8 = .int ((a:Int)+2*(w:Int))/\prGo cs n w n 0 l1=prGo cs n w g a l2/\l2.length=n/\SrtS S H2 L cb cs l2/\Step S H H2) ?_ (n:=n) (⟨0,n,l1,rfl,oz,oz,by simp[go_sem,e0],by simp[go_sem,e1],by simp[go_sem,e2],by simp[go_sem,e6],gz,gz,rfl,hl1,hst,hS⟩)
   clear e0 e1 e2 e6 hst hS
   rintro m0 env H2 ⟨a,k,l2,rfl,ha,hk,e0,e1,e2,e6,e7,e8,hpr,hl2,hst,hS⟩
   refine qg (fun K17 hK17=>?_)
   refine qg (fun K18 hK18=>?_)
   refine qi kz ?_
   simp[go_sem,e1,e8]
   refine hK18 _ _ ?_
   try clear hK18 K18
   have hdc:((a:Int)+2*(w:Int)<=(n:Int))=(a+2*w<=n):=propext ⟨fun h=>by omega,fun h=>by omega⟩
   refine qj (b:=decide (a+2*w<=n)) (by simp[go_sem,hdc]) (fun hb=>?_) (fun hb=>?_)
   ·skip
    have hb3:a+2*w<=n:=by simpa using hb
    obtain ⟨k,rfl⟩ : ∃ x,k=x+1:=⟨k-1,oz⟩
    have hwb:IntKind.i64.wrap ((a:Int)+w)=(a:Int)+w:=i64in _ oz oz
    have hwa:IntKind.i64.wrap ((a:Int)+2*(w:Int)+2*(w:Int))=(a:Int)+2*(w:Int)+2*(w:Int):=i64in _ oz oz
    have cp:=sym_p S L cb n cs (2*w) a (a+w) (a+2*w) l2 H2 oz oz oz hb3 hl2 hst
    have hpm:=jU cs (2*w) a (a+w) (a+2*w) l2 oz oz oz
    unfold cmpF at cp
    push_cast at cp
    refine ql ?_
    refine hK17 _ _ ?_
    try clear hK17 K17
    refine qm ?_
    refine qg (fun K19 hK19=>?_)
    refine qp kz ?_
    simp[go_sem,e0,e2,e6,e7,e8,hwb,cmpF]
    refine ⟨_,cp,?_⟩
    rintro _ H3 hn3 ⟨rfl,g3,hS3⟩
    have hst9:=hst.next hS3 g3 hpm
    have hS9:=hS.trans hS3
    refine hK19 _ _ ?_
    try clear hK19 K19
    refine qg (fun K21 hK21=>?_)
    refine qi kz ?_
    simp[go_sem,e8]
    refine hK21 _ _ ?_
    try clear hK21 K21
    refine qo (fun K22 hK22=>?_)
    refine qi kz ?_
    simp[go_sem,e6,e8,hw2]
    refine hK22 _ _ ?_
    exact ⟨n-(a+2*w),oz,a+2*w,k,_,rfl,oz,oz,by simp[go_sem,e0],by simp[go_sem,e1],by simp[go_sem,e2],by simp[go_sem,e6],by simp[go_sem,e8],by simp[go_sem,e6,e8,hw2,hwa],hpr.trans (qnr hb3),hpm.length_eq.trans hl2,hst9,hS9⟩
   ·skip
    have hb3 : ¬ a+2*w<=n:=by simpa using hb
    have hwb:IntKind.i64.wrap ((a:Int)+w)=(a:Int)+w:=i64in _ oz oz
    refine qy ?_
    refine hK16 _ _ ?_
    try clear hK16 K16
    refine qw (fun env H2=>(env 0 = .ms L 0 n 1/\env 1 = .int n/\env 2=cmpF cb/\env 6 = .int w)/\(prGo cs n w n 0 l1).length=n/\SrtS S H2 L cb cs (prGo cs n w n 0 l1)/\Step S H H2) ?_ ?_
    ·skip
     refine qg (fun K24 hK24=>?_)
     refine qi kz ?_
     simp[go_sem,e6,e7,hwb]
     refine hK24 _ _ ?_
     try clear hK24 K24
     refine qg (fun K25 hK25=>?_)
     refine qi kz ?_
     simp[go_sem,e1]
     refine hK25 _ _ ?_
     try clear hK25 K25
     have hdc2:((a:Int)+(w:Int)<(n:Int))=(a+w<n):=propext ⟨fun h=>by omega,fun h=>by omega⟩
     refine qj (b:=decide (a+w<n)) (by simp[go_sem,hdc2]) (fun hb=>?_) (fun hb=>?_)
     ·skip
      simp only[decide_eq_true_eq] at hb
      obtain ⟨k,rfl⟩ : ∃ x,k=x+1:=⟨k-1,oz⟩
      have cp:=sym_p S L cb n cs (n-a) a (a+w) n l2 H2 oz oz hb oz hl2 hst
      have hpm:=jU cs (n-a) a (a+w) n l2 oz hb oz
      unfold cmpF at cp
      push_cast at cp
      rw[qns hb3 hb] at hpr
      refine qo (fun K26 hK26=>?_)
      refine qp kz ?_
      simp[go_sem,e0,e1,e2,e7,cmpF]
      refine ⟨_,cp,?_⟩
      rintro _ H3 hn3 ⟨rfl,g3,hS3⟩
      have hst9:=hst.next hS3 g3 hpm
      have hS9:=hS.trans hS3
      refine hK26 _ _ ?_
      first
       | exact ⟨⟨by simp[go_sem,e0],by simp[go_sem,e1],by simp[go_sem,e2],by simp[go_sem,e6]⟩,by rw[hpr]; exact hpm.length_eq.trans hl2,by rw[hpr]; exact hst9,hS9⟩
       | exact ⟨⟨by simp[go_sem,e0],by simp[go_sem,e1],by simp[go_sem,e2],by simp[go_sem,e6]⟩,by rw[hpr]; exact hl2,by rw[hpr]; exact hst,hS⟩
     ·skip
      simp only[decide_eq_false_iff_not] at hb
      rw[qnt hb3 hb] at hpr
      refine ql ?_
      first
       | exact ⟨⟨by simp[go_sem,e0],by simp[go_sem,e1],by simp[go_sem,e2],by simp[go_sem,e6]⟩,by rw[hpr]; exact hpm.length_eq.trans hl2,by rw[hpr]; exact hst9,hS9⟩
       | exact ⟨⟨by simp[go_sem,e0],by simp[go_sem,e1],by simp[go_sem,e2],by simp[go_sem,e6]⟩,by rw[hpr]; exact hl2,by rw[hpr]; exact hst,hS⟩
    clear e0 e1 e2 e6 e7 e8 hst hS hpr
    rintro env H2 ⟨⟨e0,e1,e2,e6⟩,hl2,hst,hS⟩
    refine qo (fun K28 hK28=>?_)
    refine qi kz ?_
    simp[go_sem,e6]
    refine hK28 _ _ ?_
    have hww:IntKind.i64.wrap ((w:Int)*2)=((2*w:Nat):Int):=by rw[i64in _ oz oz]; omega
    exact ⟨n-2*w,oz,2*w,g,_,rfl,oz,oz,oz,by simp[go_sem,e0],by simp[go_sem,e1],by simp[go_sem,e2],by simp[go_sem,e6,hww],hmr.trans (ql0 hbw),hl2,hst,hS⟩
  ·skip
   simp only[decide_eq_false_iff_not] at hb
   rw[ql1 hb] at hmr
   refine qy ?_
   refine hR _ _ ?_
   exact hS.retP (r:=.tup []) gz ⟨rfl,by rw[hsm,hmr]; exact hst.2.2.1,hS⟩ gz
theorem sort_p {S:Nat->Prop} {L cb n:Nat} {cs l:List Nat} (hn:l.length=n) {H:Heap} (hst:SrtS S H L cb cs l):SCallsP Tryz.prog 116 [.ms L 0 n 1,cmpF cb] H (fun r H'=>r = .tup []/\H'.get L=some (iV (stableM cs l))/\Step S H H'):=by
 have cp:=stable_p hn hst
 unfold cmpF at cp
 refine qA (sz:=9) (Tryz.call116) Tryz.func116 rfl kz (fun R hR=>?_)
 refine qp kz ?_
 simp[go_sem,cmpF]
 refine ⟨_,cp,?_⟩
 rintro _ H3 hn3 ⟨rfl,g3,hS3⟩
 refine hR _ _ ?_
 exact hS3.retP (r:=.tup []) gz ⟨rfl,g3,hS3⟩ gz
end Go.Proofs.YtfokgjhdndnnhaaGreatDoor
end W16S
noncomputable section Fl53S
namespace Go.Fl
open Go
def OpSem (P:Program) (o:Oper) (env:Env) (H:Heap) (x:AV) (H' : Heap):Prop :=
 ∀ ρ I w (a:Act),Rel ρ I H w.heap->(∀ y,VR ρ I w.heap (aev env y) (a.eval y)) -> ∀ (K:Act->World->Prop) (Q:Exit->Act->World->Prop),
  (∀ v w' ρ' I',VR ρ' I' w'.heap x v->Rel ρ' I' H' w'.heap->Ext ρ I w ρ' I' w' -> K (a.put o.dst v) w')->o.wp P a w K Q
theorem zU {P:Program} {o:Oper} {env:Env} {H:Heap} {x:AV} {H' : Heap} (h : ∀ ρ I w (cv:Operand->Value),Rel ρ I H w.heap->(∀ y,VR ρ I w.heap (aev env y) (cv y)) ->
  ∃ v w' ρ' I',(execOp cv o).run P w = .ok (.value v) w' /\ VR ρ' I' w'.heap x v/\Rel ρ' I' H' w'.heap/\Ext ρ I w ρ' I' w'):OpSem P o env H x H':=by
 intro ρ I w a hr hv K Q hK
 obtain ⟨v,w',ρ',I',h1,h2,h3,h4⟩:=h ρ I w a.eval hr hv
 unfold Oper.wp
 rw[h1]
 exact hK v w' ρ' I' h2 h3 h4
def WXOps (P:Program) (ops:Array Oper) (Q:Exit->Env->Heap->Prop):List Oper->Env->Heap->Prop
 | [],env,H=>Q .normal env H
 | o::rest,env,H=>WPOp P ops o (WXOps P ops Q rest) env H\/(o.guard=none /\ ∃ x H',OpSem P o env H x H' /\ WXOps P ops Q rest (env.upd o.dst x) H')
section
variable {P:Program} {sz:Nat} {ops:Array Oper}
theorem WXOps_sound (hsz:dstsOk sz ops) {Q:Exit->Env->Heap->Prop} {Q' : Exit->Act->World->Prop} : ∀ (l:List Oper),(∀ o∈l,∀ d,o.dst=some d->d<sz) -> ∀ (env:Env) (H:Heap),WXOps P ops Q l env H ->
  ∀ ρ I w a,Rel ρ I H w.heap->ERel sz ρ I w.heap env a->(∀ e a' w',SPost sz ρ I w Q e a' w' -> Q' e a' w')->wpList P ops Q' l a w
 | [],_,env,H,h,ρ,I,w,a,hr,he,hq=>hq _ _ _ ⟨env,H,ρ,I,h,hr,he,Ext.refl _ _ _⟩
 | o::rest,hds,env,H,h,ρ,I,w,a,hr,he,hq=>by
  have hd:=hds o (by simp)
  have hds' : ∀ q∈rest,∀ d,q.dst=some d->d<sz:=fun q hq=>hds q (List.mem_cons_of_mem _ hq)
  unfold wpList
  rcases h with h | ⟨hg,x,H',hop,hk⟩
  ·have h1:=WPOp_cases h
   rcases h1 with ⟨ha,hk⟩ | ⟨ha,hst⟩
   ·rw[if_neg (by rw[zi ha he hsz]; simp)]
    exact WXOps_sound hsz rest hds' _ _ hk ρ I w _ hr (he.put hd (.sc _)) hq
   ·rw[if_pos (zi ha he hsz)]
    refine .inl (StepP_run hst hr he.eval ?_)
    intro x H' v w' ρ' I' _ hk h2 h3 h4
    exact WXOps_sound hsz rest hds' _ _ hk ρ' I' w' _ h3 ((he.mono h4).put hd h2) (fun e a' w2 hp=>hq e a' w2 (hp.ext h4 (fun _ _ _ h=>h)))
  ·rw[if_pos (by simp[Region.wanted,hg])]
   refine .inl (hop ρ I w a hr he.eval _ _ ?_)
   intro v w' ρ' I' h2 h3 h4
   exact WXOps_sound hsz rest hds' _ _ hk ρ' I' w' _ h3 ((he.mono h4).put hd h2) (fun e a' w2 hp=>hq e a' w2 (hp.ext h4 (fun _ _ _ h=>h)))
theorem qM {id:Nat} {Q:Exit->Env->Heap->Prop} {env:Env} {H:Heap} (hd:dstsB sz ops=true) (h:WXOps P ops Q ops.toList env H):SCode P sz (.region id ops false) Q env H:=by
 intro ρ I w a Q' hr he hQ
 refine wp_region_list (WXOps_sound (yK hd) ops.toList (fun o ho d hod=>?_) env H h ρ I w a hr he hQ)
 have:=List.all_eq_true.1 hd o ho
 rw[hod] at this
 simpa using this
theorem WXOps.append {Q:Exit->Env->Heap->Prop} {l2:List Oper} : ∀ {l1:List Oper} {env:Env} {H:Heap},WPOps P ops (thenA (WXOps P ops Q l2) Q) l1 env H->WXOps P ops Q (l1++l2) env H
 | [],_,_,h=>h
 | _::_,_,_,h=>.inl (WPOp.mono (fun _ _ h=>WXOps.append h) h)
theorem jf (n:Nat) {Q:Exit->Env->Heap->Prop} {l:List Oper} {env:Env} {H:Heap} (h : ∀ K:Env->Heap->Prop,(∀ env H,WXOps P ops Q (l.drop n) env H->K env H)->WPOps P ops (thenA K Q) (l.take n) env H):WXOps P ops Q l env H:=by
 have:=WXOps.append (h _ fun _ _ h=>h)
 rwa [List.take_append_drop] at this
theorem zJ {Q:Exit->Env->Heap->Prop} : ∀ {l:List Oper} {env:Env} {H:Heap},WPOps P ops Q l env H->WXOps P ops Q l env H
 | [],_,_,h=>h
 | _::_,_,_,h=>.inl (WPOp.mono (fun _ _ h=>zJ h) h)
theorem jE {Q:Exit->Env->Heap->Prop} {o:Oper} {rest:List Oper} {env:Env} {H:Heap} (x:AV) (H' : Heap) (hg:o.guard=none) (h:OpSem P o env H x H') (hk:WXOps P ops Q rest (env.upd o.dst x) H'):WXOps P ops Q (o::rest) env H :=
 .inr ⟨hg,x,H',h,hk⟩
end
section
variable {P:Program} {env:Env} {H:Heap} {d:Option Tmp} {ty:TypeId} {pos:String} {af:Array Edge}
theorem CapOk.slice {k:Nat} {v:Value} (h:CapOk k v) : ∃ a n,v = .slice a n k:=by
 cases v <;> first | exact h.elim | (cases h; exact ⟨_,_,rfl⟩)
theorem qai {x:Operand} {c:Nat} {y:AV} (h:aev env x = .cp c y):OpSem P ⟨d,.move x,ty,pos,af,none⟩ env H y H:=by
 refine zU fun ρ I w cv hr hv=>?_
 have h1:=hv x
 rw[h] at h1
 generalize hc:cv x=u at h1
 cases h1 with
 | cp h2 h3=>exact ⟨u,w,ρ,I,by simp[execOp,hc],h2,hr,Ext.refl _ _ _⟩
theorem qhn {x:Operand} {t e:TypeId} {c:Nat} {y:AV} (ht:P.underlying t=some (.slice e)) (h:aev env x = .cp c y):OpSem P ⟨d,.call { callee:=.builtin .cap,args := #[x],argTypes := #[t] },ty,pos,af,none⟩ env H (.int (c:Nat)) H:=by
 refine zU fun ρ I w cv hr hv=>?_
 have h1:=hv x
 rw[h] at h1
 generalize hc:cv x=u at h1
 cases h1 with
 | cp h2 h3 =>
  obtain ⟨a,n,rfl⟩:=h3.slice
  exact ⟨.int .i64 (c:Nat),w,ρ,I,by simp[execOp,resolve,invoke,builtin,hc,Builtin.cap_,run_underlying ht,goInt],.sc _,hr,Ext.refl _ _ _⟩
theorem qeu {x y:Operand} {t e:TypeId} {c b off len sz i:Nat} (ht:P.underlying t=some (.slice e)) (hs:csz P e=some sz) (h:aev env x = .cp c (.ms b off len sz)) (hy:aev env y = .int (i:Nat)) (h0:0<len) (hi:i<=len) :
  OpSem P ⟨d,.slice t x none (some y) none,ty,pos,af,none⟩ env H (.cp c (.ms b off i sz)) H:=by
 refine zU fun ρ I w cv hr hv=>?_
 have h1:=hv x
 have h2:=hv y
 rw[h] at h1
 rw[hy] at h2
 have h2e:=h2.eq_sc
 generalize hc:cv x=u at h1
 cases h1 with
 | cp h3 h4 =>
  rcases h3.ms_inv with ⟨cb,base,cap,c0,e0,fz0,rfl,hb,k1,k2,k3⟩ | ⟨rfl,a,p,rfl,hb⟩
  ·have hcap:cap=c:=h4
   subst hcap
   have hbn:=zY (P:=P) (ρ := ρ) (I:=I) (w:=w) (isS:=true) (len:=len) (cap:=cap) (l:=0) (h:=i) (lo:=none) (hi:=some (.int (i:Nat))) (vl:=none) (vh:=some (cv y)) rfl (by simp[abound]) trivial h2 (Nat.zero_le _) oz
   rw[h2e] at hbn
   refine ⟨.slice (some ⟨cb,base+off,none⟩) i cap,w,ρ,I,?_,.cp (.ms hb oz k2 k3) rfl,hr,Ext.refl _ _ _⟩
   have hz : ¬ cap=0:=oz
   simp[execOp,hc,Instr.sliceAt,run_underlying ht,Instr.slice,h2e,hbn,zk P hs,hz,add_plain]
  ·omega
theorem qdb {x y:Operand} {t e:TypeId} {c b off len sz m:Nat} (ht:P.underlying t=some (.slice e)) (hs:csz P e=some sz) (h:aev env x = .cp c (.ms b off len sz)) (hy:aev env y = .int (m:Nat)) (h0:0<len) (hi:m<=c) :
  OpSem P ⟨d,.slice t x none (some y) none,ty,pos,af,none⟩ env H (.ms b off m sz) H:=by
 refine zU fun ρ I w cv hr hv=>?_
 have h1:=hv x
 have h2:=hv y
 rw[h] at h1
 rw[hy] at h2
 have h2e:=h2.eq_sc
 generalize hc:cv x=u at h1
 cases h1 with
 | cp h3 h4 =>
  rcases h3.ms_inv with ⟨cb,base,cap,c0,e0,fz0,rfl,hb,k1,k2,k3⟩ | ⟨rfl,a,p,rfl,hb⟩
  ·have hcap:cap=c:=h4
   subst hcap
   have hbn:=zY (P:=P) (ρ := ρ) (I:=I) (w:=w) (isS:=true) (len:=len) (cap:=cap) (l:=0) (h:=m) (lo:=none) (hi:=some (.int (m:Nat))) (vl:=none) (vh:=some (cv y)) rfl (by simp[abound]) trivial h2 (Nat.zero_le _) oz
   rw[h2e] at hbn
   refine ⟨.slice (some ⟨cb,base+off,none⟩) m cap,w,ρ,I,?_,.ms hb oz k2 k3,hr,Ext.refl _ _ _⟩
   have hz : ¬ cap=0:=oz
   simp[execOp,hc,Instr.sliceAt,run_underlying ht,Instr.slice,h2e,hbn,zk P hs,hz,add_plain]
  ·omega
theorem qho {o:Oper} {y x:AV} {H1 H2:Heap} (h:aop P o (aev env) H=some (y,H1)) (hle:H2.le H1) (hn:H1.next=H2.next) (hf:Froz H1 (fun b=>H2.get b=none) y x):OpSem P o env H x H2:=by
 intro ρ I w a hr hv K Q hK
 have key:StepP P o env H (fun z Z=>z=y/\Z=H1):=by
  unfold StepP
  split
  ·rename_i f args argTypes hop
   unfold aop at h
   rw[hop] at h
   simp at h
  ·exact ⟨y,H1,h,rfl,rfl⟩
 refine StepP_run key hr hv ?_
 rintro _ _ v w' ρ' I' _ ⟨he1,he2⟩ h2 h3 h4
 rw[he1] at h2
 rw[he2] at h3
 have hrel' : Rel ρ' (keptBy ρ' I' H1 H2) H2 w'.heap:=h3.keep hle oz
 refine hK v w' ρ' _ (hf.vr h3 h2) hrel' ?_
 exact { h4 with
  imm:=fun cb hcb=>.inl (h4.imm cb hcb)
  newI:=fun cb hcb=>by
   rcases hcb with h1 | ⟨b,cs,base,_,_,h6⟩
   ·exact h4.newI cb h1
   ·rcases h4.newR b cb base h6 with h7 | h7 | h7
    ·exact .inr (.inr ⟨_,_,h7⟩)
    ·exact .inr (.inl h7)
    ·exact .inr (.inr h7) }
theorem yP {w:World} {t tn ty e:TypeId} {i:TypeInfo} {z:Value} {k:IntKind} (ht:P.underlying t=some (.slice e)) (htn:P.underlying tn=some (.int k))
  (hi:P.info? e=some i) (hz:i.zero=some z) {base:Option Addr} {sLen sCap n:Nat} {olds:Array Value} (h0:0<n) (hs:0<i.size)
  (ho:(Builtin.firstCells i.size sLen (.slice base sLen sCap)).run P w.drew = .ok olds w.drew) (hg:sCap<sLen+n) (hb:(sLen+n)*i.bytes<=140737488355328) (h63:sLen+n<=140737488355328) :
  (Builtin.append_ #[t,tn] ty #[.slice base sLen sCap,.int .i64 (n:Nat)]).run P w =
   .ok (.slice (some ⟨w.heap.size,0,none⟩) (sLen+n) (grownCap w (sLen+n) sCap e))
    (w.drew.alloc (.cells (olds++Builtin.zeroCells z.cells n++Builtin.zeroCells z.cells (grownCap w (sLen+n) sCap e-(sLen+n))) e)):=by
 have hn' : ¬ (sLen+n<=sCap):=oz
 have hfit:=growslice_fits hg hb
 have hw:IntKind.i64.wrap (n:Int)=n:=IntWalk.i64_in _ oz
 have h63' : ¬ (9223372036854775807<((sLen:Int)+(n:Int))):=oz
 have h48' : ¬ (281474976710656<Builtin.nextslicecap (sLen+n) sCap*i.bytes):=oz
 have hnb:n*i.bytes<=(sLen+n)*i.bytes:=Nat.mul_le_mul_right _ oz
 have h48i : ¬ (281474976710656<(n:Int)*(i.bytes:Int)):=by rw[<- Int.natCast_mul]; omega
 have hneg : ¬ ((n:Int)<0):=oz
 have hns : ¬ (n*i.size=0):=Nat.mul_ne_zero oz oz
 have hn0 : ¬ n=0:=oz
 simp[Builtin.append_,run_underlying ht,run_underlying htn,sizeOf,typeInfo,zeroValue,hi,hz,asInt,asIntOf,hw,hn0,hn',hneg,hns,h63',h48',h48i,Question.forced,ho,newRow,grownCap]
theorem qi8 {x y:Operand} {t tn e:TypeId} {c b off len sz bt n:Nat} {k:IntKind} {cs zs:List AV} (ht:P.underlying t=some (.slice e)) (htn:P.underlying tn=some (.int k)) (hs:csz P e=some sz) (hby:byt P e=some bt) (hzc:zeroC P e=some zs) (hzl:zs.length=sz) (hsz:0<sz)
  (hx:aev env x = .cp c (.ms b off len sz)) (hy:aev env y = .int (n:Nat)) (h0:0<n) (hg:H.get b=some cs) (hl:off+len*sz<=cs.length) (hc:c<len+n) (hbb:(len+n)*bt<=140737488355328) (h63:len+n<=140737488355328) :
  OpSem P ⟨d,.call { callee:=.builtin .append,args := #[x,y],argTypes := #[t,tn] },ty,pos,af,none⟩ env H (.ms H.next 0 (len+n) sz) (H.alloc ((cs.drop off).take (len*sz)++List.replicate (n*sz) .top)):=by
 refine zU fun ρ I w cv hr hv=>?_
 obtain ⟨i,hi,rfl,rfl⟩:=qf9 hs hby
 obtain ⟨i',z,hi',hz',hzz⟩:=jg hzc
 rw[hi] at hi'; cases hi'
 have h1:=hv x
 have h2:=hv y
 rw[hx] at h1
 rw[hy] at h2
 have h2e:=h2.eq_sc
 generalize hcx:cv x=u at h1
 cases h1 with
 | cp h3 h4 =>
  obtain ⟨a,m,rfl⟩:=h4.slice
  have hsc:sliceCells H i.size (.ms b off len i.size)=some (len,(cs.drop off).take (len*i.size)):=by simp[sliceCells,hg,hl]
  obtain ⟨hcl,_,⟨a',cap',hv'⟩,hfc⟩:=zV (P:=P) (w:=w.drew) hr hsc h3
  cases hv'
  obtain ⟨olds,hold,hov⟩:=hfc len (Nat.le_refl _)
  have hcl2:((cs.drop off).take (len*i.size)).take (len*i.size)=(cs.drop off).take (len*i.size):=by rw[List.take_take,Nat.min_self]
  rw[hcl2] at hov
  have hrun:=yP (w:=w) (ty:=ty) ht htn hi hz' h0 hsz hold hc hbb h63
  have hzl' : z.cells.size=i.size:=by rw[hzz] at hzl; simpa using hzl
  have hz1 : ∀ q,(Builtin.zeroCells z.cells q).size=q*i.size:=fun q=>by simp[Builtin.zeroCells,hzl']
  let row:=olds++Builtin.zeroCells z.cells n++Builtin.zeroCells z.cells (grownCap w (len+n) c e-(len+n))
  have hos:=hov.1
  have hge:len+n<=grownCap w (len+n) c e:=by simp[grownCap,Question.cut]
  have hrs:row.size=grownCap w (len+n) c e*i.size:=by
   have e1:row.size=len*i.size+n*i.size+(grownCap w (len+n) c e-(len+n))*i.size:=by
    simp only[row,Array.size_append,hz1]; omega
   rw[e1,<- Nat.add_mul,<- Nat.add_mul]
   congr 1; omega
  have hll:((cs.drop off).take (len*i.size)++List.replicate (n*i.size) AV.top).length<=row.size:=by
   rw[List.length_append,List.length_replicate,hcl,hrs,<- Nat.add_mul]
   exact Nat.mul_le_mul_right _ hge
  obtain ⟨k1,k2⟩:=jQ (w:=w) (w1:=w.drew.alloc (.cells row e)) hr (cs:=(cs.drop off).take (len*i.size)++List.replicate (n*i.size) AV.top) (c:=row) (e:=e) rfl rfl rfl rfl hll (fun q y hq=>by
   rw[List.getElem?_append] at hq
   split at hq
   ·have:=hov.2 q y hq
    have hlt:=(List.getElem?_eq_some_iff.1 hq).1
    have e2:row.getD q Go.undef=olds.getD q Go.undef:=by
     simp only[row,Array.getD_eq_getD_getElem?]
     rw[Array.append_assoc,Array.getElem?_append_left oz]
    rw[e2]; exact this
   ·have:=List.mem_of_getElem? hq
    rw[List.mem_replicate] at this
    rw[this.2]; exact .top _)
  have hnew:(w.drew.alloc (.cells row e)).heap[w.heap.size]? = some (.cells row e (0,0)):=by show (w.heap.push _)[w.heap.size]? = _; simp
  refine ⟨.slice (some ⟨w.heap.size,0,none⟩) (len+n) (grownCap w (len+n) c e),w.drew.alloc (.cells row e),ρ.upd H.next (some (w.heap.size,0)),I,?_,?_,k1,k2⟩
  ·simp only[execOp,resolve,invoke,builtin,Sem.run_bind,Sem.run_pure,Result.andThen_ok,List.map_toArray,List.map_cons,List.map_nil,hcx,h2e,hrun]
   rfl
  ·exact .ms (base:=0) (off:=0) (Rho.upd_same _ _ _) hge hnew (by rw[hrs]; omega)
theorem ql2 {ρ : Rho} {I:Nat->Prop} {hp:Array Obj} {b cb base k:Nat} {cs:List AV} {c:Array Value} {e:TypeId} {fz:Nat × Nat} (hr:Rel ρ I H hp) (hb:H.get b=some cs) (hρ : ρ b=some (some (cb,base))) (hc:hp[cb]? = some (.cells c e fz)) (hk:base+cs.length+k<=c.size) :
  Rel ρ I (H.set b (cs++List.replicate k .top)) hp where
 live b' cs' hb':=by
  rw[Heap.get_set] at hb'
  split at hb'
  ·rename_i he
   rw[he,hb] at hb'
   cases hb'
   rw[he]
   rcases hr.live b cs hb with ⟨h1,_⟩ | ⟨cb2,base2,c2,e2,h1,h2,⟨fz2,h3,h3'⟩,h4,h5⟩
   ·rw[hρ] at h1; cases h1
   ·rw[hρ] at h1; cases h1
    rw[hc] at h3'; cases h3'
    refine .inr ⟨cb,base,c,e,hρ,h2,⟨fz,h3,hc⟩,by simp; omega,fun i x hx=>?_⟩
    rw[List.getElem?_append] at hx
    split at hx
    ·exact h5 i x hx
    ·have:=List.mem_of_getElem? hx
     rw[List.mem_replicate] at this
     rw[this.2]; exact .top _
  ·exact hr.live b' cs' hb'
 inj b1 b2 c1 c2 cb base base' h1 h2:=by
  have key : ∀ k ck,(H.set b (cs++List.replicate k .top)).get k=some ck -> ∃ c0,H.get k=some c0:=by
   intro k ck hk
   rw[Heap.get_set] at hk
   split at hk
   ·rename_i e; rw[e]; exact ⟨_,hb⟩
   ·exact ⟨_,hk⟩
  have key2 : ∀ j ck,(H.set b (cs++List.replicate k .top)).get j=some ck -> ∃ c0,H.get j=some c0:=by
   intro j ck hk
   rw[Heap.get_set] at hk
   split at hk
   ·rename_i e; rw[e]; exact ⟨_,hb⟩
   ·exact ⟨_,hk⟩
  obtain ⟨x1,g1⟩:=key2 b1 c1 h1
  obtain ⟨x2,g2⟩:=key2 b2 c2 h2
  exact hr.inj b1 b2 x1 x2 cb base base' g1 g2
 rng:=hr.rng
 at_:=hr.at_
 irng:=hr.irng
 glob:=hr.glob
theorem qi9 {f:FuncId} {b off n sz m:Nat} {args:List AV} {post:AV->Heap->Prop} {cs:List AV} (hb:H.get b=some cs) (hcs:off+n*sz=cs.length) (hn:0<n)
  (hs : ∀ c,n<=c->c<n+m->SCallsP P f (.cp c (.ms b off n sz)::args) H post) (hen:Enters P f)
  (hl : ∀ c,n+m<=c->SCallsP P f (.cp c (.ms b off n sz)::args) (H.set b (cs++List.replicate (m*sz) .top)) post):SCallsP P f (.ms b off n sz::args) H post:=by
 refine ⟨hen,fun ρ I w cargs hr hv=>?_⟩
 have h1:=hv.2 0 _ rfl
 rcases h1.ms_inv with ⟨cb,base,cap,c,e,fz,he,h2,h3,h4,h5⟩ | ⟨h0,_⟩
 ·have hv' : VRs ρ I w.heap (.cp cap (.ms b off n sz)::args) cargs:=⟨by simpa using hv.1,fun i x hx=>by
   cases i with
   | zero=>simp only[List.getElem?_cons_zero,Option.some.injEq] at hx; subst hx; exact .cp h1 (by rw[he]; rfl)
   | succ i=>exact hv.2 (i+1) x (by simpa using hx)⟩
  by_cases hc:cap<n+m
  ·exact (hs cap h3 hc).2 ρ I w cargs hr hv'
  ·have hsp:(n+m)*sz<=cap*sz:=Nat.mul_le_mul_right _ oz
   rw[Nat.add_mul] at hsp
   exact (hl cap oz).2 ρ I w cargs (ql2 hr hb h2 h4 oz) hv'
 ·omega
end
end Go.Fl
end Fl53S
