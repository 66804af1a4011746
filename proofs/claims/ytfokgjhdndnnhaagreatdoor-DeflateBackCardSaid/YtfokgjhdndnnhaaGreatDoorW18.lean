/- Blocks renamed; the nil row told as an empty one. -/
import Derived.Test.YtfokgjhdndnnhaaGreatDoorFl53
import Derived.Laws.Externs
import Derived.Lib.Overlaps
set_option maxHeartbeats 1000000
set_option linter.unusedVariables false
set_option linter.unusedSimpArgs false
noncomputable section Fl54S
namespace Go.Fl
open Go
section
variable {P:Program} {sz:Nat} {c:Code} {Q:Exit->Env->Heap->Prop} {env:Env} {H:Heap}
theorem qh0 (i:Nat) {b off len n:Nat} {cs:List AV} (hi:env i = .ms b off len n) (h0:0<len) (hb:H.get b=some cs) (hl:off+len*n<=cs.length) (h:SCode P sz c Q (env.upd (some i) (.ms H.next 0 len n)) ((H.del b).alloc (cs.drop off))):SCode P sz c Q env H:=by
 intro ρ I w a Q' hr he hQ
 have hv:=he.val i
 rw[hi] at hv
 rcases hv.ms_inv with ⟨cb,base,cap,c0,e0,fz0,hve,h1,h2,h3,h4⟩ | ⟨hl0,_⟩
 ·rcases hr.live b cs hb with ⟨k1,_⟩ | ⟨cb',base',c1,e1,k1,k2,⟨fz,k3,k4⟩,k5,k6⟩
  ·rw[h1] at k1; cases k1
  ·rw[h1] at k1; cases k1
   rw[h3] at k4; cases k4
   obtain ⟨r1,r2⟩:=qe7 (w1:=w) hr (cs':=cs.drop off) (c':=c0) (base':=base+off) hb h1 k2 k3 h3 h3 rfl rfl (fun _ _=>rfl) rfl rfl rfl (by rw[List.length_drop]; omega) (fun k y hy=>by
    rw[List.getElem?_drop] at hy
    rw[Nat.add_assoc]
    exact k6 _ _ hy)
   have hvn:VR (ρ.upd H.next (some (cb,base+off))) I w.heap (.ms H.next 0 len n) (.slice (some ⟨cb,base+off,none⟩) len cap):=.ms (base:=base+off) (off:=0) (Rho.upd_same _ _ _) h2 h3 oz
   refine h _ I w a Q' r1 ?_ (fun e a' w' hp=>hQ e a' w' (hp.ext r2 (fun _ _ _ h=>h)))
   refine ⟨he.size,he.defers,fun j=>?_,he.glob⟩
   by_cases hj:i=j
   ·subst hj
    rw[upd_same,hve]
    exact hvn
   ·rw[upd_ne _ _ _ _ hj]
    exact (he.val j).mono r2
 ·omega
theorem qh1 {ρ : Rho} {I:Nat->Prop} {w:World} (hr:Rel ρ I H w.heap):Rel (ρ.upd H.next none) I (H.alloc []) w.heap/\Ext ρ I w (ρ.upd H.next none) I w:=by
 have hfr : ρ H.next=none:=by
  cases h : ρ H.next with
  | none=>rfl
  | some p=>exact absurd (hr.rng _ _ h) (Nat.lt_irrefl _)
 have hup : ∀ b p,ρ b=some p->(ρ.upd H.next none) b=some p:=fun b p hb=>by
  by_cases e:b=H.next
  ·subst e; rw[hfr] at hb; cases hb
  ·rw[Rho.upd_other _ _ e]; exact hb
 have hdn : ∀ b cb base,(ρ.upd H.next none) b=some (some (cb,base)) -> ρ b=some (some (cb,base)):=fun b cb base hb=>by
  by_cases e:b=H.next
  ·subst e; rw[Rho.upd_same] at hb; cases hb
  ·rw[Rho.upd_other _ _ e] at hb; exact hb
 have hx:Ext ρ I w (ρ.upd H.next none) I w :=
  { rho:=hup,imm:=fun _ h=>h,size:=Nat.le_refl _,kept:=fun _ _=>rfl,blocks:=fun _ c _ fz h=>⟨c,fz,h,rfl⟩,frame:=fun _ _ _=>rfl,newI:=fun _ h=>.inl h,newR:=fun b cb base h=>.inl (hdn b cb base h),os:=rfl,tape:=rfl,output:=rfl }
 refine ⟨⟨fun b cs hb=>?_,fun b b' cs cs' cb base base' h1 h2 h3 h4=>?_,fun b p hb=>?_,fun b cb base hb=>hr.at_ b cb base (hdn b cb base hb),hr.irng,hr.glob⟩,hx⟩
 ·rw[Heap.get_alloc] at hb
  split at hb
  ·rename_i e
   cases hb
   rw[e]
   exact .inl ⟨Rho.upd_same _ _ _,rfl⟩
  ·rename_i e
   rcases hr.live b cs hb with ⟨k1,k2⟩ | ⟨cb,base,c,e1,k1,k2,k3,k4,k5⟩
   ·exact .inl ⟨hup _ _ k1,k2⟩
   ·exact .inr ⟨cb,base,c,e1,hup _ _ k1,k2,k3,k4,fun i x hx'=>(k5 i x hx').mono hx⟩
 ·have e1 : ∀ k ck cb base,(H.alloc []).get k=some ck->(ρ.upd H.next none) k=some (some (cb,base))->H.get k=some ck:=fun k ck cb base hk hρ => by
   rw[Heap.get_alloc] at hk
   split at hk
   ·rename_i e
    rw[e,Rho.upd_same] at hρ
    cases hρ
   ·exact hk
  exact hr.inj b b' cs cs' cb base base' (e1 _ _ _ _ h1 h3) (e1 _ _ _ _ h2 h4) (hdn _ _ _ h3) (hdn _ _ _ h4)
 ·rw[Heap.next_alloc]
  by_cases e:b=H.next
  ·omega
  ·rw[Rho.upd_other _ _ e] at hb
   have:=hr.rng b p hb
   omega
theorem qc9 (i n:Nat) (hi:env i = .nil) (h:SCode P sz c Q (env.upd (some i) (.ms H.next 0 0 n)) (H.alloc [])):SCode P sz c Q env H:=by
 intro ρ I w a Q' hr he hQ
 obtain ⟨r1,r2⟩:=qh1 hr
 refine h _ I w a Q' r1 ?_ (fun e a' w' hp=>hQ e a' w' (hp.ext r2 (fun _ _ _ h=>h)))
 refine ⟨he.size,he.defers,fun j=>?_,he.glob⟩
 by_cases hj:i=j
 ·subst hj
  have hv:=he.val i
  rw[hi] at hv
  have:=hv.eq_sc
  rw[upd_same,this]
  exact .ms0 (Rho.upd_same _ _ _)
 ·rw[upd_ne _ _ _ _ hj]
  exact (he.val j).mono r2
theorem qea (h:SCode P sz c Q env (H.alloc [])):SCode P sz c Q env H:=by
 intro ρ I w a Q' hr he hQ
 obtain ⟨r1,r2⟩:=qh1 hr
 exact h _ I w a Q' r1 ⟨he.size,he.defers,fun j=>(he.val j).mono r2,he.glob⟩ (fun e a' w' hp=>hQ e a' w' (hp.ext r2 (fun _ _ _ h=>h)))
end
section
variable {P:Program} {env:Env} {H:Heap} {d:Option Tmp} {ty:TypeId} {pos:String} {af:Array Edge}
theorem qeb {x y:Operand} {t tn e:TypeId} {sz bt n:Nat} {k:IntKind} {zs:List AV} (ht:P.underlying t=some (.slice e)) (htn:P.underlying tn=some (.int k)) (hs:csz P e=some sz) (hby:byt P e=some bt) (hzc:zeroC P e=some zs) (hzl:zs.length=sz) (hsz:0<sz)
  (hx:aev env x = .nil) (hy:aev env y = .int (n:Nat)) (h0:0<n) (hbb:n*bt<=140737488355328) (h63:n<=140737488355328) :
  OpSem P ⟨d,.call { callee:=.builtin .append,args := #[x,y],argTypes := #[t,tn] },ty,pos,af,none⟩ env H (.ms H.next 0 n sz) (H.alloc []):=by
 refine zU fun ρ I w cv hr hv=>?_
 obtain ⟨i,hi,rfl,rfl⟩:=qf9 hs hby
 obtain ⟨i',z,hi',hz',hzz⟩:=jg hzc
 rw[hi] at hi'; cases hi'
 have h1:=hv x
 have h2:=hv y
 rw[hx] at h1
 rw[hy] at h2
 have h1e:=h1.eq_sc
 have h2e:=h2.eq_sc
 have hrun:=yP (P:=P) (w:=w) (ty:=ty) (base:=none) (sLen:=0) (sCap:=0) (n:=n) (olds := #[]) ht htn hi hz' h0 hsz (by simp[Builtin.firstCells]) oz (by simpa using hbb) oz
 rw[Nat.zero_add] at hrun
 have hzl' : z.cells.size=i.size:=by rw[hzz] at hzl; simpa using hzl
 have hz1 : ∀ q,(Builtin.zeroCells z.cells q).size=q*i.size:=fun q=>by simp[Builtin.zeroCells,hzl']
 let row := #[]++Builtin.zeroCells z.cells n++Builtin.zeroCells z.cells (grownCap w n 0 e-n)
 have hge:n<=grownCap w n 0 e:=by simp[grownCap,Question.cut]
 have hrs:row.size=grownCap w n 0 e*i.size:=by
  have e1:row.size=n*i.size+(grownCap w n 0 e-n)*i.size:=by
   simp only[row,Array.size_append,hz1]; simp
  rw[e1,<- Nat.add_mul]
  congr 1; omega
 obtain ⟨k1,k2⟩:=jQ (w:=w) (w1:=w.drew.alloc (.cells row e)) hr (cs:=[]) (c:=row) (e:=e) rfl rfl rfl rfl (by simp) (fun q y hq=>by simp at hq)
 have hnew:(w.drew.alloc (.cells row e)).heap[w.heap.size]? = some (.cells row e (0,0)):=by show (w.heap.push _)[w.heap.size]? = _; simp
 refine ⟨.slice (some ⟨w.heap.size,0,none⟩) n (grownCap w n 0 e),w.drew.alloc (.cells row e),ρ.upd H.next (some (w.heap.size,0)),I,?_,?_,k1,k2⟩
 ·simp only[execOp,resolve,invoke,builtin,Sem.run_bind,Sem.run_pure,Result.andThen_ok,List.map_toArray,List.map_cons,List.map_nil,h1e,h2e,hrun]
  rfl
 ·exact .ms (base:=0) (off:=0) (Rho.upd_same _ _ _) hge hnew (by rw[hrs]; omega)
theorem qex {x y : Operand} {f : FuncId} {fn : Func} {t tr e : TypeId} {sz b1 o1 l1 b2 o2 l2 : Nat} {c1 c2 : List AV} {ats : Array TypeId} (hf : P.funcs[f]? = some fn) (hname : (fn.name == "runtime.NumGoroutine") = false) (hb : fn.body.isNone = true) (hn : Extern.findNext fn = none) (he : Extern.find fn = some (Extern.SlicesOverlaps.overlaps #[t, t] #[tr]))
  (ht:P.underlying t=some (.slice e)) (hs:csz P e=some sz) (hsz:0<sz) (hx:aev env x = .ms b1 o1 l1 sz) (hy:aev env y = .ms b2 o2 l2 sz) (hne:b1≠b2) (h1:0<l1) (h2:0<l2) (g1:H.get b1=some c1) (g2:H.get b2=some c2) (hl1:o1+l1*sz<=c1.length) :
  OpSem P ⟨d,.call { callee:=.value (.func f),args := #[x,y],argTypes:=ats },ty,pos,af,none⟩ env H (.bool false) H:=by
 refine zU fun ρ I w cv hr hv=>?_
 have v1:=hv x
 have v2:=hv y
 rw[hx] at v1
 rw[hy] at v2
 rcases v1.ms_inv with ⟨cb1,ba1,cap1,d1,e1,fz1,hc1,r1,k1,m1,q1⟩ | ⟨hl,_⟩
 rotate_left
 ·omega
 rcases v2.ms_inv with ⟨cb2,ba2,cap2,d2,e2,fz2,hc2,r2,k2,m2,q2⟩ | ⟨hl,_⟩
 rotate_left
 ·omega
 have hcb:cb1≠cb2:=by
  rintro rfl
  exact hne (hr.inj b1 b2 c1 c2 _ _ _ g1 g2 r1 r2)
 have hfz:FzOk d1.size fz1:=by
  rcases hr.live b1 c1 g1 with ⟨k,_⟩ | ⟨cb',base',c',e',k,_,⟨fz',hz,hm⟩,_,_⟩
  ·rw[r1] at k; cases k
  ·rw[r1] at k; cases k
   rw[m1] at hm; cases hm
   exact hz
 have hcm1:l1*sz<=cap1*sz:=Nat.mul_le_mul_right _ k1
 have hcm2:l2*sz<=cap2*sz:=Nat.mul_le_mul_right _ k2
 have hp2:0<l2*sz:=Nat.mul_pos h2 hsz
 have hov:=Lib.run_overlaps_apart (P:=P) w t tr e ht sz (fun w=>zk P hs w) ⟨cb1,ba1+o1,none⟩ ⟨cb2,ba2+o2,none⟩ l1 cap1 l2 cap2 hcb e1 e2 d1.size d2.size (by simp[World.shape?,m1]) (by simp[World.shape?,m2]) oz
  (by have:=hfz (ba1+o1) oz; simp[World.frozen?,m1]; omega) (by have:=hfz d1.size (Nat.le_refl _); simp[World.frozen?,m1]; omega)
 have hfv:=hv (.func f)
 have hfa:aev env (.func f) = .fn (.func f) [] []:=rfl
 rw[hfa] at hfv
 generalize hfe:cv (.func f)=fv at hfv
 cases hfv with
 | fn a1 a2 a3 a4 =>
  rename_i fs cs
  have e1:fs = #[]:=Array.eq_empty_of_size_eq_zero (by simpa using a1.symm)
  have e2:cs = #[]:=Array.eq_empty_of_size_eq_zero (by simpa using a2.symm)
  subst e1; subst e2
  refine ⟨.bool false,w,ρ,I,?_,.sc _,hr,Ext.refl _ _ _⟩
  have hcall:=run_callFunc_extern hf hname hb hn he #[cv x,cv y] w
  rw[hc1,hc2,hov] at hcall
  simp only[execOp,resolve,hfe,Deferred.ofValue,Sem.run_bind,Sem.run_pure,Result.andThen_ok,invoke,List.map_toArray,List.map_cons,List.map_nil]
  simpa [hc1,hc2] using hcall
end
end Go.Fl
end Fl54S
set_option maxRecDepth 20000
noncomputable section W17S
namespace Go.Proofs.YtfokgjhdndnnhaaGreatDoor
open Go Go.Fl Go.Proofs
def GrN (S:Nat->Prop) (H:Heap) (x:AV) (sz n:Nat) (cs:List AV):Prop:=(x = .nil/\n=0/\cs = []) \/ ∃ q,¬ S q/\x = .ms q 0 n sz/\H.get q=some cs/\n*sz=cs.length
theorem GrN.nil (S:Nat->Prop) (H:Heap) (sz:Nat):GrN S H .nil sz 0 []:=.inl ⟨rfl,rfl,rfl⟩
theorem GrN.ms {S:Nat->Prop} {H:Heap} {q n sz:Nat} {cs:List AV} (hS : ¬ S q) (hq:H.get q=some cs) (hl:n*sz=cs.length):GrN S H (.ms q 0 n sz) sz n cs:=.inr ⟨q,hS,rfl,hq,hl⟩
theorem GrN.grown {S:Nat->Prop} {H:Heap} {x:AV} {n sz:Nat} {cs:List AV} (h:GrN S H x sz n cs) : ∃ bo,grown H sz x=some (n,cs,bo)/\(∀ b,bo=some b -> ¬ S b)/\x.leaf=true/\x.Lt H.next:=by
 rcases h with ⟨rfl,rfl,rfl⟩ | ⟨q,hS,rfl,hq,hl⟩
 ·exact ⟨none,rfl,by simp,rfl,gz⟩
 ·exact ⟨some q,grown_of hq hl,fun b hb=>by cases hb; exact hS,rfl,by have:=Heap.lt_of_get hq; simp[go_sem,this]⟩
theorem GrN.one {S:Nat->Prop} {H:Heap} {bo:Option Nat} {sz n:Nat} {cs new:List AV} (hg:Go.Fl.grown ((H.alloc new).regrow bo (cs++new)) sz (.ms (H.next+1) 0 (n+1) sz)=some (n+1,cs++new,some (H.next+1))) (hS : ∀ b,S b->b<H.next):GrN S ((H.alloc new).regrow bo (cs++new)) (.ms (H.next+1) 0 (n+1) sz) sz (n+1) (cs++new):=by
 refine .inr ⟨_,fun h=>by have:=hS _ h; omega,rfl,?_,(qfa hg).symm⟩
 unfold Heap.regrow
 rw[Heap.get_alloc,Heap.delo_next,Heap.next_alloc,if_pos rfl]
theorem GrN.step {S:Nat->Prop} {H:Heap} {bo:Option Nat} {x:AV} {sz n:Nat} {cs new:List AV} (hg:Go.Fl.grown H sz x=some (n,cs,bo)) (hb : ∀ b,bo=some b -> ¬ S b) (hc : ∀ y∈cs,y.Lt (H.next+2)) (hn : ∀ y∈new,y.Lt (H.next+1)):Step S H ((H.alloc new).regrow bo (cs++new)):=by
 refine ((Step.refl S H).alloc hn).regrow hb ?_
 intro y hy
 rw[Heap.next_alloc]
 rcases List.mem_append.1 hy with h | h
 ·exact hc y h
 ·exact (hn y h).mono oz
def usedF (counts:List Nat) (i:Nat):List Nat:=(List.range i).filter fun s=>decide (0<counts.getD s 0)
theorem qh2 {counts:List Nat} {i:Nat} (h:0<counts.getD i 0):usedF counts (i+1)=usedF counts i ++ [i]:=by
 unfold usedF
 rw[List.range_succ,List.filter_append]
 simp only[List.filter_cons,List.filter_nil,decide_eq_true_eq,if_pos h]
theorem qfk {counts:List Nat} {i:Nat} (h : ¬ 0<counts.getD i 0):usedF counts (i+1)=usedF counts i:=by
 unfold usedF
 rw[List.range_succ,List.filter_append]
 simp only[List.filter_cons,List.filter_nil,decide_eq_true_eq,if_neg h,List.append_nil]
theorem qh3 (counts:List Nat) (i:Nat):(usedF counts i).length<=i:=by
 unfold usedF
 refine Nat.le_trans (List.length_filter_le _ _) ?_
 simp
theorem qky {counts:List Nat} {i s:Nat} (h:s∈usedF counts i):s<i:=by
 unfold usedF at h
 rw[List.mem_filter,List.mem_range] at h
 exact h.1
def usedL (counts:List Nat):List Nat:=stableM counts (usedF counts counts.length)
theorem ins_nil (cb:Nat) (H:Heap):SCalls Tryz.prog 126 [.nil,.int 0,.int 0,cmpF cb] H (.tup []) H:=by
 have h1w:IntKind.i64.wrap (1:Int)=1:=i64in _ oz oz
 refine qE (sz:=53) (Tryz.call126) Tryz.func126 rfl (Nat.le_refl _) kz (fun R hR=>?_)
 refine qg (fun K1 hK1=>?_)
 refine qi kz ?_
 simp[go_sem,h1w]
 refine hK1 _ _ ?_
 try clear hK1 K1
 refine qm ?_
 refine qC (Inv:=fun m0 env H2=>env 2 = .int 0/\env 8 = .int 1/\H=H2) ?_ (n:=0) (⟨gz,gz,rfl⟩)
 rintro m0 env _ ⟨e2,e8,rfl⟩
 refine qg (fun K2 hK2=>?_)
 refine qg (fun K3 hK3=>?_)
 refine qi kz ?_
 simp[go_sem,e2,e8]
 refine hK3 _ _ ?_
 try clear hK3 K3
 refine qj (b:=false) gz (fun h=>by cases h) (fun _=>?_)
 refine qy ?_
 refine hR _ _ ?_
 exact qG gz (Heap.le_refl _) (Nat.le_refl _) gz
theorem qmf (cb:Nat) (H:Heap):SCalls Tryz.prog 122 [.nil,.int 0,cmpF cb] H (.tup []) H:=by
 refine qE (sz:=63) (Tryz.call122) Tryz.func122 rfl (Nat.le_refl _) kz (fun R hR=>?_)
 refine qg (fun K1 hK1=>?_)
 refine qi kz ?_
 simp[go_sem]
 refine hK1 _ _ ?_
 try clear hK1 K1
 refine qg (fun K2 hK2=>?_)
 refine qi kz ?_
 simp[go_sem]
 refine hK2 _ _ ?_
 try clear hK2 K2
 refine qg (fun K3 hK3=>?_)
 refine qm ?_
 refine qC (Inv:=fun m0 env H2=>env 0 = .nil/\env 1 = .int 0/\env 2=cmpF cb/\env 6 = .int 20/\env 7 = .int 0/\env 8 = .int 20/\H=H2) ?_ (n:=0) (⟨gz,gz,gz,gz,gz,gz,rfl⟩)
 rintro m0 env _ ⟨e0,e1,e2,e6,e7,e8,rfl⟩
 refine qg (fun K4 hK4=>?_)
 refine qg (fun K5 hK5=>?_)
 refine qi kz ?_
 simp[go_sem,e1,e8]
 refine hK5 _ _ ?_
 try clear hK5 K5
 refine qj (b:=false) gz (fun h=>by cases h) (fun _=>?_)
 refine qy ?_
 refine hK3 _ _ ?_
 try clear hK3 K3
 refine qg (fun K6 hK6=>?_)
 refine qi kz ?_
 simp[go_sem,e0,e1,e2,e7,cmpF]
 refine ⟨_,_,(by have:=ins_nil cb H; unfold cmpF at this; exact this),?_⟩
 refine hK6 _ _ ?_
 try clear hK6 K6
 refine qm ?_
 refine qC (Inv:=fun m0 env H2=>env 1 = .int 0/\env 6 = .int 20/\H=H2) ?_ (n:=0) (⟨by simp[go_sem,e1],by simp[go_sem,e6],rfl⟩)
 clear e0 e1 e2 e6 e7 e8
 rintro m0 env _ ⟨e1,e6,rfl⟩
 refine qg (fun K8 hK8=>?_)
 refine qg (fun K9 hK9=>?_)
 refine qi kz ?_
 simp[go_sem,e1,e6]
 refine hK9 _ _ ?_
 try clear hK9 K9
 refine qj (b:=false) gz (fun h=>by cases h) (fun _=>?_)
 refine qy ?_
 refine hR _ _ ?_
 exact qG gz (Heap.le_refl _) (Nat.le_refl _) gz
theorem sort_nil (cb:Nat) (H:Heap):SCalls Tryz.prog 116 [.nil,cmpF cb] H (.tup []) H:=by
 refine qE (sz:=9) (Tryz.call116) Tryz.func116 rfl (Nat.le_refl _) kz (fun R hR=>?_)
 refine qi kz ?_
 simp[go_sem,cmpF]
 refine ⟨_,_,(by have:=qmf cb H; unfold cmpF at this; exact this),?_⟩
 refine hR _ _ ?_
 exact qG gz (Heap.le_refl _) (Nat.le_refl _) gz
theorem used_s (counts:List Nat) (hcl:counts.length<=1000) (hle : ∀ x,counts.getD x 0<=1073741824):SCalls Tryz.prog 103 [iA counts] Heap.empty (iA (usedL counts)) Heap.empty:=by
 obtain ⟨n,hn⟩ : ∃ n,counts.length=n:=⟨_,rfl⟩
 have hiL:(iV counts).length=n:=by rw[qK,hn]
 obtain ⟨H0,hH0⟩ : ∃ X,Heap.empty.alloc [iA counts]=X:=⟨_,rfl⟩
 have hH0n:H0.next=1:=by rw[<- hH0]; rfl
 have g00:H0.get 0=some [iA counts]:=by rw[<- hH0]; rfl
 rw[show usedL counts=stableM counts (usedF counts n) by unfold usedL; rw[hn]]
 refine qE (sz:=24) (Tryz.call103) Tryz.func103 rfl (Nat.zero_le _) kz (fun R hR=>?_)
 refine qw (fun env H2=>env 1 = .ptr 0 0/\H0=H2) ?_ ?_
 ·skip
  refine qo (fun K2 hK2=>?_)
  refine qi kz ?_
  simp[go_sem]
  refine hK2 _ _ ?_
  exact ⟨gz,hH0.symm⟩
 rintro env _ ⟨e1,rfl⟩
 refine qg (fun K3 hK3=>?_)
 refine qi kz ?_
 simp[go_sem]
 refine hK3 _ _ ?_
 try clear hK3 K3
 refine qg (fun K4 hK4=>?_)
 refine qg (fun K5 hK5=>?_)
 refine qi kz ?_
 simp[go_sem,e1,g00,iA,hn]
 refine hK5 _ _ ?_
 try clear hK5 K5
 refine qm ?_
 refine qC (Inv:=fun m0 env H2 => ∃ (i:Nat) (x:AV) (l:List Nat),m0=n-i/\i<=n/\l=usedF counts i/\env 1 = .ptr 0 0/\env 3=x/\env 6 = .vs n 1 (iV counts)/\env 7 = .int n/\env 8 = .int i/\GrN (fun b=>b=0) H2 x 1 l.length (iV l)/\H2.get 0=some [iA counts]/\Step (fun b=>b=0) H0 H2) ?_ (n:=n) (⟨0,.nil,[],rfl,oz,rfl,by simp[go_sem,e1],gz,gz,gz,gz,GrN.nil _ _ _,g00,Step.refl _ _⟩)
 clear e1
 rintro m0 env H2 ⟨i,x,l,rfl,hi,hl,e1,e3,e6,e7,e8,hgr,g0,hS⟩
 refine qg (fun K6 hK6=>?_)
 refine qi kz ?_
 simp[go_sem,e7,e8]
 refine hK6 _ _ ?_
 try clear hK6 K6
 refine qg (fun K7 hK7=>?_)
 refine qj (b:=decide (i<n)) gz (fun hb=>?_) (fun hb=>?_)
 ·skip
  simp only[decide_eq_true_eq] at hb
  have hil:i<counts.length:=oz
  obtain ⟨r,hdr⟩:=qX hil
  have hin:(i:Int)<n:=oz
  have hll:=qh3 counts i
  rw[<- hl] at hll
  obtain ⟨v,hv⟩ : ∃ v,counts.getD i 0=v:=⟨_,rfl⟩
  rw[hv] at hdr
  refine ql ?_
  refine hK7 _ _ ?_
  try clear hK7 K7
  refine qw (fun env H2=>(env 1 = .ptr 0 0/\env 6 = .vs n 1 (iV counts)/\env 7 = .int n/\env 8 = .int i) /\ ∃ (x:AV) (l:List Nat),l=usedF counts (i+1)/\env 3=x/\GrN (fun b=>b=0) H2 x 1 l.length (iV l)/\H2.get 0=some [iA counts]/\Step (fun b=>b=0) H0 H2) ?_ ?_
  ·skip
   refine qm ?_
   refine qg (fun K9 hK9=>?_)
   refine qi kz ?_
   simp[go_sem,e6,e8,hdr,hiL,hin]
   refine hK9 _ _ ?_
   try clear hK9 K9
   refine qg (fun K10 hK10=>?_)
   refine qi kz ?_
   simp[go_sem]
   refine hK10 _ _ ?_
   try clear hK10 K10
   have hpos:((0:Int)<(v:Int))=(0<v):=propext ⟨fun h=>by omega,fun h=>by omega⟩
   refine qj (b:=decide (0<v)) (by simp[go_sem,hpos]) (fun hb=>?_) (fun hb=>?_)
   ·skip
    simp only[decide_eq_true_eq] at hb
    obtain ⟨bo,hg,hbo,_,_⟩:=hgr.grown
    obtain ⟨ha,hga⟩:=appI i hg oz
    have hn1:1<=H2.next:=by have:=hS.le; omega
    have hsnoc:iV (l ++ [i])=iV l ++ [.int (i:Nat)]:=by rw[qgv]; rfl
    obtain ⟨x9,hx9⟩ : ∃ y,AV.ms (H2.next+1) 0 (l.length+1) 1=y:=⟨_,rfl⟩
    have hgr9:GrN (fun b=>b=0) ((H2.alloc [.int (i:Nat)]).regrow bo (iV l ++ [.int (i:Nat)])) x9 1 (l ++ [i]).length (iV (l ++ [i])):=by rw[hsnoc,List.length_append,<- hx9]; exact GrN.one hga (fun b hb=>by omega)
    have g09:=qY (new:=iV l ++ [.int (i:Nat)]) (show (H2.alloc [.int (i:Nat)]).get 0=some [iA counts] by rw[Heap.get_alloc,if_neg oz]; exact g0) (fun e=>hbo 0 e rfl)
    have hS9:Step (fun b=>b=0) H0 ((H2.alloc [.int (i:Nat)]).regrow bo (iV l ++ [.int (i:Nat)])):=hS.trans (GrN.step hg hbo (jb _ _) gz)
    have hl9:l ++ [i]=usedF counts (i+1):=by rw[qh2 (by rw[hv]; exact hb),hl]
    obtain ⟨l9,hl9q⟩ : ∃ y,l ++ [i]=y:=⟨_,rfl⟩
    rw[hl9q] at hl9 hgr9
    have e39:=hx9
    refine qo (fun K11 hK11=>?_)
    refine qi kz ?_
    simp[go_sem,e3,ha]
    refine hK11 _ _ ?_
    exact ⟨⟨by simp[go_sem,e1],by simp[go_sem,e6],by simp[go_sem,e7],by simp[go_sem,e8]⟩,x9,l9,hl9,by simp[go_sem,e39],hgr9,g09,hS9⟩
   ·skip
    simp only[decide_eq_false_iff_not] at hb
    obtain ⟨x9,hx9⟩ : ∃ y,y=x:=⟨_,rfl⟩
    have hgr9:=hgr
    have g09:=g0
    have hS9:=hS
    have hl9:l=usedF counts (i+1):=by rw[qfk (by rw[hv]; exact hb),hl]
    obtain ⟨l9,hl9q⟩ : ∃ y,l=y:=⟨_,rfl⟩
    rw[hl9q,<- hx9] at hgr9
    rw[hl9q] at hl9
    have e39:=e3.trans hx9.symm
    refine ql ?_
    exact ⟨⟨by simp[go_sem,e1],by simp[go_sem,e6],by simp[go_sem,e7],by simp[go_sem,e8]⟩,x9,l9,hl9,by simp[go_sem,e39],hgr9,g09,hS9⟩
  clear e1 e3 e6 e7 e8 hgr g0 hS hl hll
  rintro env H2 ⟨⟨e1,e6,e7,e8⟩,x,l,hl,e3,hgr,g0,hS⟩
  refine qo (fun K12 hK12=>?_)
  refine qi kz ?_
  simp[go_sem,e8]
  refine hK12 _ _ ?_
  have hw1:=qF i oz
  exact ⟨n-(i+1),oz,i+1,x,l,rfl,oz,hl,by simp[go_sem,e1],by simp[go_sem,e3],by simp[go_sem,e6],by simp[go_sem,e7],by simp[go_sem,hw1],hgr,g0,hS⟩
 ·skip
  simp only[decide_eq_false_iff_not] at hb
  obtain rfl:i=n:=oz
  have hll:=qh3 counts i
  rw[<- hl] at hll
  refine qy ?_
  refine hK4 _ _ ?_
  try clear hK4 K4
  refine qg (fun K13 hK13=>?_)
  rcases hgr with ⟨hx0,hl0,_⟩ | ⟨L,hL,hxL,gL,_⟩
  ·skip
   have l0:l = []:=List.length_eq_zero_iff.1 hl0
   subst l0
   rw[hx0] at e3
   refine qi kz ?_
   simp[go_sem,e1,e3]
   refine ⟨_,_,(by have:=sort_nil 0 H2; unfold cmpF at this; exact this),?_⟩
   refine hK13 _ _ ?_
   try clear hK13 K13
   refine qg (fun K15 hK15=>?_)
   refine qi kz ?_
   simp[go_sem,e3]
   refine hK15 _ _ ?_
   try clear hK15 K15
   refine qx ?_
   simp only[go_sem]
   refine hR _ _ ?_
   rw[<- hl]
   have hsm:stableM counts [] = []:=List.length_eq_zero_iff.1 (qa6 counts []).length_eq
   refine zD (v:=.nil) gz (by rw[hsm]; exact .nil 1) (qP _) (Nat.zero_le _) (by rw[zI]; trivial)
  ·skip
   rw[hxL] at e3
   have hst:SrtS (fun b=>b=0) H2 L 0 counts l:=⟨hL,rfl,gL,g0,fun s hs=>by have:=qky (hl ▸ hs:s∈usedF counts i); omega,hle,hcl,oz⟩
   have cp:=sort_p rfl hst
   unfold cmpF at cp
   have hpm:=qa6 counts l
   refine qp kz ?_
   simp[go_sem,e1,e3]
   refine ⟨_,cp,?_⟩
   rintro _ H3 hn3 ⟨rfl,g3,hS3⟩
   refine hK13 _ _ ?_
   try clear hK13 K13
   refine qg (fun K17 hK17=>?_)
   refine qi kz ?_
   simp[go_sem,e3]
   refine hK17 _ _ ?_
   try clear hK17 K17
   refine qx ?_
   simp only[go_sem]
   refine hR _ _ ?_
   rw[<- hl]
   refine zD (v:=.ms L 0 l.length 1) gz ?_ (qP _) (Nat.zero_le _) (by rw[zI]; trivial)
   unfold iA
   rw[hpm.length_eq]
   exact Froz.row g3 (Nat.zero_le _) (by rw[qK,hpm.length_eq]; omega) (by rw[List.drop_zero,List.take_of_length_le (by rw[qK,hpm.length_eq]; omega)])
end Go.Proofs.YtfokgjhdndnnhaaGreatDoor
end W17S
set_option maxRecDepth 20000
noncomputable section W18S
namespace Go.Proofs.YtfokgjhdndnnhaaGreatDoor
open Go Go.Fl Go.Proofs
theorem qbs {P:Program} {env:Env} {H:Heap} {d:Option Tmp} {ty:TypeId} {pos:String} {af:Array Edge} {x:Operand} {t e:TypeId} (ht:P.underlying t=some (.slice e)) (h:aev env x = .nil):OpSem P ⟨d,.call { callee:=.builtin .cap,args := #[x],argTypes := #[t] },ty,pos,af,none⟩ env H (.int 0) H:=by
 refine zU fun ρ I w cv hr hv=>?_
 have h1:=hv x
 rw[h] at h1
 have h1e:=h1.eq_sc
 exact ⟨.int .i64 0,w,ρ,I,by simp[execOp,resolve,invoke,builtin,h1e,Builtin.cap_,run_underlying ht,goInt],.sc _,hr,Ext.refl _ _ _⟩
theorem je {P:Program} {fn:Func} {H:Heap} {env:Env} {H1:Heap} {r:AV} (h1:aresults P fn env H1=some r) (hn:H.next<=H1.next) (hr:r.Lt H1.next) (hc : ∀ b cs,H1.get b=some cs->H.get b=some cs \/ ∀ x∈cs,x.Lt H1.next):Ret P fn H env H1 r H1 :=
 ⟨⟨r,h1,.same r⟩,fun _ _ h=>h,hn,Nat.le_refl _,hr,hc⟩
def lV (ls:List (List Nat)):List AV:=ls.map iA
theorem lV_len (ls:List (List Nat)):(lV ls).length=ls.length:=by simp[lV]
theorem lV_get {ls:List (List Nat)} {i:Nat} (h:i<ls.length) : ∃ r,(lV ls).drop i=iA (ls.getD i [])::r:=by
 refine ⟨(lV ls).drop (i+1),?_⟩
 rw[List.drop_eq_getElem_cons (by rw[lV_len]; exact h)]
 congr 1
 simp[lV,h]
theorem qh4 {ls:List (List Nat)} {i:Nat} (h:i<ls.length):(ls.take (i+1)).flatten=(ls.take i).flatten++ls.getD i []:=by
 rw[List.take_add_one,List.getElem?_eq_getElem h,List.flatten_append]
 simp[h]
theorem qgg (ls:List (List Nat)) (i:Nat):(ls.take i).flatten.length<=ls.flatten.length:=by
 conv=>rhs; rw[<- List.take_append_drop i ls,List.flatten_append,List.length_append]
 omega
theorem grow_s (n:Nat) (h0:0<n) (hn:n<=100000) (H:Heap):SCalls Tryz.prog 123 [.nil,.int n] H (.ms H.next 0 0 1) (H.alloc []):=by
 have hw0:IntKind.i64.wrap (0:Int)=0:=i64in _ oz oz
 have hn0 : ¬ ((n:Int)<0):=oz
 have hp:(0:Int)<n:=oz
 have hwn:IntKind.i64.wrap (n:Int)=n:=i64in _ oz oz
 refine qE (sz:=27) (Tryz.call123) Tryz.func123 rfl (by rw[Heap.next_alloc]; omega) kz (fun R hR=>?_)
 refine qg (fun K1 hK1=>?_)
 refine qi kz ?_
 simp[go_sem]
 refine hK1 _ _ ?_
 try clear hK1 K1
 refine qg (fun K2 hK2=>?_)
 refine qg (fun K3 hK3=>?_)
 refine qi kz ?_
 simp[go_sem,hn0]
 refine hK3 _ _ ?_
 try clear hK3 K3
 refine qj (b:=false) (by simp[go_sem,hn0]) (fun h=>by cases h) (fun _=>?_)
 refine ql ?_
 refine hK2 _ _ ?_
 try clear hK2 K2
 refine qg (fun K4 hK4=>?_)
 refine qg (fun K5 hK5=>?_)
 refine qM kz ?_
 refine jf 2 (fun K90 hK90=>?_)
 simp[go_sem,hn0,hwn]
 refine hK90 _ _ ?_
 clear hK90 K90
 refine jE (.int 0) (H) rfl (qbs tU84 gz) ?_
 refine zJ ?_
 simp[go_sem,hn0,hwn,hw0]
 refine hK5 _ _ ?_
 try clear hK5 K5
 refine qg (fun K6 hK6=>?_)
 refine qi kz ?_
 simp[go_sem,hp,h0]
 refine hK6 _ _ ?_
 try clear hK6 K6
 refine qj (b:=true) (by simp[go_sem,hp,h0]) (fun _=>?_) (fun h=>by cases h)
 refine qM kz ?_
 refine jf 2 (fun K90 hK90=>?_)
 simp[go_sem]
 refine hK90 _ _ ?_
 clear hK90 K90
 refine jE (.int 0) (H) rfl (qbs tU84 gz) ?_
 refine jf 2 (fun K92 hK92=>?_)
 simp[go_sem]
 refine hK92 _ _ ?_
 clear hK92 K92
 refine jE (.ms H.next 0 n 1) (H.alloc []) rfl (qeb (bt:=8) tU84 tU3 tS3 tB3 tZ3 rfl dz gz gz h0 oz oz) ?_
 refine zJ ?_
 simp[go_sem]
 refine hK4 _ _ ?_
 try clear hK4 K4
 refine qg (fun K7 hK7=>?_)
 refine qi kz ?_
 simp[go_sem]
 refine hK7 _ _ ?_
 try clear hK7 K7
 refine qx ?_
 simp only[go_sem]
 refine hR _ _ ?_
 refine je gz gz gz (fun b cs hb=>?_)
 rw[Heap.get_alloc] at hb
 split at hb
 ·cases hb; exact .inr (by simp)
 ·exact .inl hb
theorem Concat_s (ls:List (List Nat)) (h0:0<ls.flatten.length) (hf:ls.flatten.length<=10000) (hl:ls.length<=1000):SCalls Tryz.prog 118 [.vs ls.length 1 (lV ls)] Heap.empty (iA ls.flatten) Heap.empty:=by
 obtain ⟨n,hn⟩ : ∃ n,ls.length=n:=⟨_,rfl⟩
 have hiL:(lV ls).length=n:=by rw[lV_len,hn]
 rw[hn]
 obtain ⟨fl,hfq⟩ : ∃ c,ls.flatten=c:=⟨_,rfl⟩
 rw[hfq] at h0 hf |-
 refine qE (sz:=36) (Tryz.call118) Tryz.func118 rfl (Nat.zero_le _) kz (fun R hR=>?_)
 refine qg (fun K1 hK1=>?_)
 refine qi kz ?_
 simp[go_sem]
 refine hK1 _ _ ?_
 try clear hK1 K1
 refine qg (fun K2 hK2=>?_)
 refine qi kz ?_
 simp[go_sem]
 refine hK2 _ _ ?_
 try clear hK2 K2
 refine qg (fun K3 hK3=>?_)
 refine qg (fun K4 hK4=>?_)
 refine qi kz ?_
 simp[go_sem]
 refine hK4 _ _ ?_
 try clear hK4 K4
 refine qm ?_
 refine qC (Inv:=fun m0 env H2 => ∃ (i:Nat) (c:List Nat),m0=n-i/\i<=n/\(ls.take i).flatten=c/\env 0 = .vs n 1 (lV ls)/\env 3 = .int (c.length:Nat)/\env 9 = .vs n 1 (lV ls)/\env 10 = .int n/\env 11 = .int i/\Heap.empty=H2) ?_ (n:=n) (⟨0,[],rfl,oz,rfl,gz,gz,gz,gz,gz,rfl⟩)
 rintro m0 env _ ⟨i,c,rfl,hi,hcq,e0,e3,e9,e10,e11,rfl⟩
 refine qg (fun K5 hK5=>?_)
 refine qi kz ?_
 simp[go_sem,e10,e11]
 refine hK5 _ _ ?_
 try clear hK5 K5
 refine qg (fun K6 hK6=>?_)
 refine qj (b:=decide (i<n)) gz (fun hb=>?_) (fun hb=>?_)
 ·skip
  simp only[decide_eq_true_eq] at hb
  have hil:i<ls.length:=oz
  obtain ⟨r,hdr⟩:=lV_get hil
  have hin:(i:Int)<n:=oz
  have hnx:=qh4 hil
  have hfl:=qgg ls i
  have hfl1:=qgg ls (i+1)
  rw[hnx,List.length_append] at hfl1
  rw[hfq] at hfl hfl1
  obtain ⟨p,hp⟩ : ∃ v,ls.getD i []=v:=⟨_,rfl⟩
  rw[hp] at hdr hnx hfl1
  unfold iA at hdr
  rw[hcq] at hfl hfl1
  obtain ⟨tl,htl⟩ : ∃ t,c.length=t:=⟨_,rfl⟩
  rw[htl] at e3 hfl hfl1
  have hwt:IntKind.i64.wrap ((tl:Int)+(p.length:Int))=(tl:Int)+(p.length:Int):=i64in _ oz oz
  have hneg : ¬ ((tl:Int)+(p.length:Int)<0):=oz
  refine ql ?_
  refine hK6 _ _ ?_
  try clear hK6 K6
  refine qg (fun K7 hK7=>?_)
  refine qm ?_
  refine qg (fun K8 hK8=>?_)
  refine qi kz ?_
  simp[go_sem,e9,e11,hdr,hiL,hin]
  refine hK8 _ _ ?_
  try clear hK8 K8
  refine qg (fun K9 hK9=>?_)
  refine qi kz ?_
  simp[go_sem,e3,hwt]
  refine hK9 _ _ ?_
  try clear hK9 K9
  refine qg (fun K10 hK10=>?_)
  refine qi kz ?_
  simp[go_sem,e3,hwt,hneg]
  refine hK10 _ _ ?_
  try clear hK10 K10
  refine qj (b:=false) (by simp[go_sem,hwt,hneg]) (fun h=>by cases h) (fun _=>?_)
  refine ql ?_
  refine hK7 _ _ ?_
  try clear hK7 K7
  refine qo (fun K11 hK11=>?_)
  refine qi kz ?_
  simp[go_sem,e11]
  refine hK11 _ _ ?_
  have hw1:=qF i oz
  exact ⟨n-(i+1),oz,i+1,c++p,rfl,oz,by rw[hnx,hcq],by simp[go_sem,e0],by rw[List.length_append,htl]; simp[go_sem,e3,hwt],by simp[go_sem,e9],by simp[go_sem,e10],by simp[go_sem,hw1],rfl⟩
 ·skip
  simp only[decide_eq_false_iff_not] at hb
  obtain rfl:n=i:=oz
  rw[List.take_of_length_le oz,hfq] at hcq
  rw[<- hcq] at e3
  have cg:=fun H=>grow_s fl.length h0 oz H
  refine qy ?_
  refine hK3 _ _ ?_
  try clear hK3 K3
  refine qg (fun K12 hK12=>?_)
  refine qi kz ?_
  refine qI 2 (fun K13 hK13=>?_)
  simp[go_sem,e3]
  refine ⟨_,_,cg _,?_⟩
  refine hK13 _ _ ?_
  clear hK13 K13
  simp[go_sem,e3]
  refine hK12 _ _ ?_
  try clear hK12 K12
  refine qg (fun K14 hK14=>?_)
  refine qg (fun K15 hK15=>?_)
  refine qi kz ?_
  simp[go_sem,e0]
  refine hK15 _ _ ?_
  try clear hK15 K15
  refine qm ?_
  refine qC (Inv:=fun m0 env H2 => ∃ (i q:Nat) (c:List Nat),m0=n-i/\i<=n/\(ls.take i).flatten=c/\env 25 = .vs n 1 (lV ls)/\env 26 = .int n/\env 27 = .int i/\env 6 = .ms q 0 c.length 1/\H2.get q=some (iV c)) ?_ (n:=n) (⟨0,Heap.empty.next,[],rfl,oz,rfl,by simp[go_sem,e0],gz,gz,gz,by simp[go_sem,iV]⟩)
  clear e0 e3 e9 e10 e11
  rintro m0 env H2 ⟨i,q,c,rfl,hi,hcq,e25,e26,e27,e6,gq⟩
  refine qg (fun K16 hK16=>?_)
  refine qi kz ?_
  simp[go_sem,e26,e27]
  refine hK16 _ _ ?_
  try clear hK16 K16
  refine qg (fun K17 hK17=>?_)
  refine qj (b:=decide (i<n)) gz (fun hb=>?_) (fun hb=>?_)
  ·skip
   simp only[decide_eq_true_eq] at hb
   have hil:i<ls.length:=oz
   obtain ⟨r,hdr⟩:=lV_get hil
   have hin:(i:Int)<n:=oz
   have hnx:=qh4 hil
   have hfl:=qgg ls i
   have hfl1:=qgg ls (i+1)
   rw[hnx,List.length_append] at hfl1
   rw[hfq] at hfl hfl1
   obtain ⟨p,hp⟩ : ∃ v,ls.getD i []=v:=⟨_,rfl⟩
   rw[hp] at hdr hnx hfl1
   unfold iA at hdr
   rw[hcq] at hfl hfl1
   have ha:=qL (P:=Tryz.prog) (H:=H2) (x:=.vs p.length 1 (iV p)) (u:=84) tU84 tS3 tB3 tZ3 rfl (zl tU84 (by rw[qK]; omega)) (grown_of (n:=c.length) (sz:=1) gq (by rw[qK]; omega)) oz oz (qdn p)
   refine ql ?_
   refine hK17 _ _ ?_
   try clear hK17 K17
   refine qg (fun K18 hK18=>?_)
   refine qm ?_
   refine qg (fun K19 hK19=>?_)
   refine qi kz ?_
   simp[go_sem,e25,e27,hdr,hiL,hin]
   refine hK19 _ _ ?_
   try clear hK19 K19
   refine qi kz ?_
   simp[go_sem,e6,ha]
   refine hK18 _ _ ?_
   try clear hK18 K18
   refine qo (fun K20 hK20=>?_)
   refine qi kz ?_
   simp[go_sem,e27]
   refine hK20 _ _ ?_
   have hw1:=qF i oz
   exact ⟨n-(i+1),oz,i+1,H2.next,c++p,rfl,oz,by rw[hnx,hcq],by simp[go_sem,e25],by simp[go_sem,e26],by simp[go_sem,hw1],by rw[List.length_append]; simp[go_sem],by rw[qgv]; unfold Heap.regrow; rw[Heap.get_alloc,Heap.delo_next,if_pos rfl]⟩
  ·skip
   simp only[decide_eq_false_iff_not] at hb
   obtain rfl:i=n:=oz
   rw[List.take_of_length_le oz,hfq] at hcq
   subst hcq
   refine qy ?_
   refine hK14 _ _ ?_
   try clear hK14 K14
   refine qg (fun K21 hK21=>?_)
   refine qi kz ?_
   simp[go_sem,e6]
   refine hK21 _ _ ?_
   try clear hK21 K21
   refine qx ?_
   simp only[go_sem]
   refine hR _ _ ?_
   refine zD (v:=.ms q 0 fl.length 1) gz ?_ (qP _) (Nat.zero_le _) (by rw[zI]; trivial)
   exact Froz.row gq (Nat.zero_le _) (by rw[qK]; omega) (by rw[List.drop_zero,List.take_of_length_le (by rw[qK]; omega)])
end Go.Proofs.YtfokgjhdndnnhaaGreatDoor
end W18S
