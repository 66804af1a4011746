/- Regions that draw, with operations that Go orders neither way: by cases, each way in an order of its own. -/
import Derived.Test.YtfokgjhdndnnhaaGreatDoorFl51
import Derived.Test.YtfokgjhdndnnhaaGreatDoorW3
set_option linter.unusedVariables false
set_option linter.unusedSimpArgs false
noncomputable section Fl52S
namespace Go.Fl
open Go
inductive Lin (ops:Array Oper):Array Bool->List Nat->Prop
 | nil {listed:Array Bool} : Region.ready .any ops listed = []->Lin ops listed []
 | cons {listed:Array Bool} {i:Nat} {rest:List Nat} : i∈Region.ready .any ops listed->Lin ops (listed.setIfInBounds i true) rest->Lin ops listed (i::rest)
theorem lin_go (ops:Array Oper) : ∀ (fuel t:Nat) (listed:Array Bool),listed.size=ops.size->listed.toList.count false<=fuel->Lin ops listed (Region.linearise.go .any ops fuel t listed [])
 | 0,t,listed,hs,hc=>by
  simp only[Region.linearise.go]
  refine .nil ?_
  cases hr:Region.ready .any ops listed with
  | nil=>rfl
  | cons i l =>
   have hm:i∈Region.ready .any ops listed:=by rw[hr]; exact List.mem_cons_self
   unfold Region.ready at hm
   simp only[List.mem_filter,List.mem_range,Bool.and_eq_true] at hm
   obtain ⟨h1,h2,_⟩:=hm
   have hlt:i<listed.size:=oz
   have:false∈listed.toList:=by
    have h3:listed[i]=false:=by simpa [Array.getD_eq_getD_getElem?,hlt] using h2
    rw[<- h3]
    exact Array.getElem_mem_toList hlt
   have:=List.count_pos_iff.2 this
   omega
 | fuel+1,t,listed,hs,hc=>by
  simp only[Region.linearise.go]
  change Lin ops listed (match (Region.ready .any ops listed)[t%(Region.ready .any ops listed).length]? with
   | some i=>Region.linearise.go .any ops fuel (t/(Region.ready .any ops listed).length) (listed.setIfInBounds i true) [i]
   | none=>[].reverse)
  cases hi:(Region.ready .any ops listed)[t%(Region.ready .any ops listed).length]? with
  | none =>
   refine .nil ?_
   cases hr:Region.ready .any ops listed with
   | nil=>rfl
   | cons x xs =>
    rw[hr] at hi
    have hlt:t%(x::xs).length<(x::xs).length:=Nat.mod_lt _ (by simp)
    rw[List.getElem?_eq_getElem hlt] at hi
    cases hi
  | some i =>
   simp only[]
   rw[linearise_go_acc,List.reverse_singleton,List.singleton_append]
   have hm:=List.mem_of_getElem? hi
   refine .cons hm (lin_go ops fuel _ _ (by simp[hs]) ?_)
   unfold Region.ready at hm
   simp only[List.mem_filter,List.mem_range,Bool.and_eq_true] at hm
   obtain ⟨h1,h2,_⟩:=hm
   have hlt:i<listed.size:=oz
   have h3:listed.toList[i]? = some false:=by
    have h4:listed[i]=false:=by simpa [Array.getD_eq_getD_getElem?,hlt] using h2
    rw[<- h4]; simp[hlt]
   have:=qbl listed.toList i h3
   rw[Array.toList_setIfInBounds]
   omega
def SLin (P:Program) (sz:Nat) (ops:Array Oper) (Q:Exit->Env->Heap->Prop) (env:Env) (H:Heap):Prop :=
 ∀ ρ I w a (Q' : Exit->Act->World->Prop),Rel ρ I H w.heap->ERel sz ρ I w.heap env a->(∀ e a' w',SPost sz ρ I w Q e a' w' -> Q' e a' w') -> ∀ L,Lin ops (Array.replicate ops.size false) L->wpOps P ops Q' L a w
section
variable {P:Program} {sz:Nat} {ops:Array Oper}
theorem zx {id:Nat} {Q:Exit->Env->Heap->Prop} {env:Env} {H:Heap} (hm:P.follows .mixedOrders=true) (h:SLin P sz ops Q env H):SCode P sz (.region id ops true) Q env H:=by
 intro ρ I w a Q' hr he hQ
 refine wp_region_draw fun t=>?_
 simp only[Region.schedule,hm,Bool.true_or,if_true]
 refine h ρ I { w with drawn:=w.drawn+1 } a Q' hr he (fun e a' w' hp=>hQ e a' w' ?_) _ (lin_go ops _ _ _ (by simp) (by simp))
 obtain ⟨env',H',ρ',I',h1,h2,h3,h4⟩:=hp
 exact ⟨env',H',ρ',I',h1,h2,h3,{ h4 with }⟩
theorem qio {Q:Exit->Act->World->Prop} : ∀ (fuel:Nat) (listed:Array Bool) (L:List Nat) (a:Act) (w:World),Lin ops listed L->wpAny P .any ops Q fuel listed a w->wpOps P ops Q L a w
 | 0,listed,_,a,w,.nil _,h=>h.2
 | 0,listed,_,a,w,.cons hi _,h=>by rw[h.1] at hi; cases hi
 | fuel+1,listed,_,a,w,.nil hr,h=>h.1 hr
 | fuel+1,listed,_,a,w,.cons hi hl,h=>by
  rw[wpOps_cons]
  exact wpOp_mono (fun a w hk=>qio fuel _ _ a w hl hk) (h.2 _ hi)
theorem qW {bf:List Nat} {Q:Exit->Env->Heap->Prop} {env0:Env} {H:Heap} (hk:drawOk sz ops=true) (hbf:Region.before ops=bf.toArray)
  (h:WDraw P ops bf 0 ops.toList [] [] Q env0 H):SLin P sz ops Q env0 H:=by
 obtain ⟨val,hp,h1,T,hQ⟩:=WDraw_trace (env0:=env0) hbf ops.toList 0 [] [] (fun _=>.top) (fun _=>H) rfl (by simp)
  ⟨fun k o hk=>by omega,fun y c q p hy=>by omega,fun y c q p hc=>by omega,fun c p hc=>by omega,fun y q hy=>by omega⟩ h
 intro ρ I w a Q' hr he hQ' L hL
 have K:=qdx hk
 refine qio ops.size _ L a w hL ?_
 have hr0:Rel ρ I (hp 0) w.heap:=by rw[h1 0 (Nat.le_refl _)]; exact hr
 refine Inv.run K T (ρ0 := ρ) (I0:=I) (w0:=w) (fun ρ1 I1 a1 w1 h1 h2 h3=>hQ' _ _ _ ⟨_,_,ρ1,I1,hQ,h1,h2,h3⟩) ops.size _ ρ I 0 a _ (by simp) (by simp) ?_ ?_
 ·intro i o hi
  simp only[Array.getD_eq_getD_getElem?,Array.getElem?_replicate] at hi
  split at hi <;> simp at hi
 ·have hno : ∀ k,¬ ((Array.replicate ops.size false).getD k false=true):=by
   intro k
   simp only[Array.getD_eq_getD_getElem?,Array.getElem?_replicate]
   split <;> simp
  exact ⟨hr0,Ext.refl ρ I w,he.size,he.defers,Nat.zero_le _,fun i _ h=>by omega,fun i _ h=>absurd h (hno i),fun t=>.inr ⟨fun k hk=>absurd hk (hno k),he.val t⟩⟩
def addE (ops:Array Oper) (j i:Nat):Array Oper:=ops.mapIdx fun k o=>if k=j then { o with after:=o.after.push ⟨i,.chain⟩ } else o
theorem qip (ops:Array Oper) (j i:Nat):(addE ops j i).size=ops.size:=by simp[addE]
theorem qdl (ops:Array Oper) (j i k:Nat):(addE ops j i)[k]? = (ops[k]?).map fun o=>if k=j then { o with after:=o.after.push ⟨i,.chain⟩ } else o:=by simp[addE]
theorem zu {ops:Array Oper} {listed:Array Bool} {k:Nat} : k∈Region.ready .any ops listed↔listed.getD k true=false /\ ∃ o,ops[k]? = some o /\ ∀ e∈o.after,Region.binds .any e=true->listed.getD e.on false=true:=by
 unfold Region.ready
 simp only[List.mem_filter,List.mem_range,Bool.and_eq_true]
 constructor
 ·rintro ⟨h1,h2,h3⟩
  refine ⟨by simpa using h2,_,Array.getElem?_eq_getElem h1,?_⟩
  rw[Array.getElem?_eq_getElem h1] at h3
  simp only[Option.map_some,Option.getD_some,Array.all_eq_true'] at h3
  intro e he hb
  simpa [hb] using h3 e he
 ·rintro ⟨h2,o,h1,h3⟩
  refine ⟨(Array.getElem?_eq_some_iff.1 h1).1,by simp[h2],?_⟩
  rw[h1]
  simp only[Option.map_some,Option.getD_some,Array.all_eq_true']
  intro e he
  cases hb:Region.binds .any e with
  | false=>rfl
  | true=>simp[h3 e he hb]
theorem jY {listed:Array Bool} {i j k:Nat} : k∈Region.ready .any (addE ops j i) listed↔k∈Region.ready .any ops listed/\(k=j->listed.getD i false=true):=by
 rw[zu,zu]
 constructor
 ·rintro ⟨h1,o,h2,h3⟩
  rw[qdl] at h2
  cases ho:ops[k]? with
  | none=>rw[ho] at h2; cases h2
  | some q =>
   rw[ho] at h2
   simp only[Option.map_some,Option.some.injEq] at h2
   subst h2
   by_cases hk:k=j
   ·rw[if_pos hk] at h3
    exact ⟨⟨h1,q,rfl,fun e he hb=>h3 e (by simp[he]) hb⟩,fun _=>h3 ⟨i,.chain⟩ (by simp) rfl⟩
   ·rw[if_neg hk] at h3
    exact ⟨⟨h1,q,rfl,h3⟩,fun e=>absurd e hk⟩
 ·rintro ⟨⟨h1,q,h2,h3⟩,h4⟩
  refine ⟨h1,_,by rw[qdl,h2]; rfl,?_⟩
  by_cases hk:k=j
  ·simp only[if_pos hk]
   intro e he hb
   simp only[Array.mem_push] at he
   rcases he with he | rfl
   ·exact h3 e he hb
   ·exact h4 hk
  ·simp only[if_neg hk]; exact h3
theorem qft {listed:Array Bool} {i k:Nat} (h:listed.getD i false=true):(listed.setIfInBounds k true).getD i false=true:=by
 simp only[Array.getD_eq_getD_getElem?,Array.getElem?_setIfInBounds] at h |-
 split
 ·split
  ·rfl
  ·rename_i h1 h2; subst h1; rw[Array.getElem?_eq_none oz] at h; simp at h
 ·exact h
theorem qeq {listed:Array Bool} {k:Nat} (h:listed.getD k true=false):(listed.setIfInBounds k true).getD k false=true:=by
 simp only[Array.getD_eq_getD_getElem?,Array.getElem?_setIfInBounds] at h |-
 by_cases hk:k<listed.size
 ·simp[hk]
 ·rw[Array.getElem?_eq_none oz] at h; simp at h
theorem qcu {i j:Nat} : ∀ {L:List Nat} {listed:Array Bool},listed.getD i false=true->Lin ops listed L->Lin (addE ops j i) listed L
 | [],listed,h,.nil hr=>.nil (by
  cases hx:Region.ready .any (addE ops j i) listed with
  | nil=>rfl
  | cons k l =>
   have:k∈Region.ready .any (addE ops j i) listed:=by rw[hx]; exact List.mem_cons_self
   rw[jY,hr] at this
   cases this.1)
 | _::_,listed,h,.cons hi hl=>.cons (jY.2 ⟨hi,fun _=>h⟩) (qcu (qft h) hl)
theorem qfu {i j:Nat} (hij:i≠j) : ∀ {L:List Nat} {listed:Array Bool},Lin ops listed L->Lin (addE ops j i) listed L\/Lin (addE ops i j) listed L
 | [],listed,.nil hr=>.inl (.nil (by
  cases hx:Region.ready .any (addE ops j i) listed with
  | nil=>rfl
  | cons k l =>
   have:k∈Region.ready .any (addE ops j i) listed:=by rw[hx]; exact List.mem_cons_self
   rw[jY,hr] at this
   cases this.1))
 | k::rest,listed,.cons hi hl=>by
  have hs:=(zu.1 hi).1
  by_cases h1:k=i
  ·subst h1
   exact .inl (.cons (jY.2 ⟨hi,fun e=>absurd e hij⟩) (qcu (qeq hs) hl))
  ·by_cases h2:k=j
   ·subst h2
    exact .inr (.cons (jY.2 ⟨hi,fun e=>absurd e (Ne.symm hij)⟩) (qcu (qeq hs) hl))
   ·rcases qfu hij hl with h | h
    ·exact .inl (.cons (jY.2 ⟨hi,fun e=>absurd e h2⟩) h)
    ·exact .inr (.cons (jY.2 ⟨hi,fun e=>absurd e h1⟩) h)
theorem qjy {i j:Nat} (tmps:Array Value):yielded (addE ops j i) tmps=yielded ops tmps:=by
 funext g
 unfold yielded
 rw[qdl]
 cases ops[g]? with
 | none=>rfl
 | some o =>
  by_cases hg:g=j
  ·simp only[Option.map_some,if_pos hg,Option.bind_some]
  ·simp only[Option.map_some,if_neg hg,Option.bind_some]
theorem qer {i j:Nat} {Q:Exit->Act->World->Prop} : ∀ (L:List Nat) (a:Act) (w:World),wpOps P (addE ops j i) Q L a w->wpOps P ops Q L a w
 | [],_,_,h=>h
 | k::rest,a,w,h=>by
  rw[wpOps_cons] at h |-
  have hm:=wpOp_mono (fun a w hk=>qer rest a w hk) h
  unfold wpOp at hm |-
  rw[qdl] at hm
  cases ho:ops[k]? with
  | none=>rw[ho] at hm; exact hm
  | some o =>
   rw[ho] at hm
   simp only[Option.map_some,qjy] at hm
   by_cases hk:k=j
   ·simp only[hk,if_true] at hm
    exact hm
   ·simp only[if_neg hk] at hm
    exact hm
theorem zh (i j:Nat) (hij:i≠j) {Q:Exit->Env->Heap->Prop} {env:Env} {H:Heap} (h1:SLin P sz (addE ops j i) Q env H) (h2:SLin P sz (addE ops i j) Q env H):SLin P sz ops Q env H:=by
 intro ρ I w a Q' hr he hQ L hL
 rcases qfu hij hL with h | h
 ·exact qer L a w (h1 ρ I w a Q' hr he hQ L (by rw[qip]; exact h))
 ·exact qer L a w (h2 ρ I w a Q' hr he hQ L (by rw[qip]; exact h))
def reE (f:Nat->Nat) (o:Oper):Oper := { o with after:=o.after.map (fun e=>⟨f e.on,e.ground⟩),guard:=o.guard.map fun q=>(f q.1,q.2) }
def fnL (l:List Nat) (i:Nat):Nat:=l.getD i i
def permOps (fl gl:List Nat) (ops:Array Oper):Array Oper:=(gl.map fun i=>(ops[i]?).map (reE (fnL fl))).foldl (fun r o=>match o with | some o=>r.push o | none=>r) #[]
def permB (fl gl:List Nat) (n:Nat):Bool:=fl.length==n&&gl.length==n&&(List.range n).all fun i=>Nat.blt (fnL fl i) n&&Nat.blt (fnL gl i) n&&fnL gl (fnL fl i)==i&&fnL fl (fnL gl i)==i
structure PermOk (f:Nat->Nat) (n:Nat) (ops ops' : Array Oper):Prop where
 size:ops.size=n
 size' : ops'.size=n
 lt : ∀ i,i<n->f i<n
 big : ∀ i,n<=i->f i=i
 inj : ∀ i j,f i=f j->i=j
 sur : ∀ p,p<n -> ∃ i,i<n/\f i=p
 get : ∀ i o,ops[i]? = some o->ops'[f i]? = some (reE f o)
theorem qjz {f:Nat->Nat} {n:Nat} {ops' : Array Oper} (K:PermOk f n ops ops') {listed listed' : Array Bool} (hs:listed.size=n) (hs' : listed'.size=n) (h : ∀ i b,listed'.getD (f i) b=listed.getD i b) (k:Nat) : ∀ i b,(listed'.setIfInBounds (f k) true).getD (f i) b=(listed.setIfInBounds k true).getD i b:=by
 intro i b
 have h1:=h i b
 simp only[Array.getD_eq_getD_getElem?,Array.getElem?_setIfInBounds] at h1 |-
 by_cases e:k=i
 ·subst e
  rw[if_pos rfl,if_pos rfl]
  by_cases hk:k<n
  ·rw[if_pos (by rw[hs']; exact K.lt k hk),if_pos oz]
  ·have:=K.big k oz
   rw[if_neg oz,if_neg oz]
 ·rw[if_neg e,if_neg (fun c=>e (K.inj _ _ c))]
  exact h1
theorem qfv {f:Nat->Nat} {n:Nat} {ops' : Array Oper} (K:PermOk f n ops ops') {listed listed' : Array Bool} (h : ∀ i b,listed'.getD (f i) b=listed.getD i b) {k:Nat} : k∈Region.ready .any ops listed↔f k∈Region.ready .any ops' listed':=by
 rw[zu,zu,h]
 refine and_congr Iff.rfl ?_
 constructor
 ·rintro ⟨o,h1,h2⟩
  refine ⟨_,K.get k o h1,?_⟩
  intro e he hb
  simp only[reE,Array.mem_map] at he
  obtain ⟨e0,he0,rfl⟩:=he
  rw[h]
  exact h2 e0 he0 hb
 ·rintro ⟨o',h1,h2⟩
  cases ho:ops[k]? with
  | none =>
   have hk:n<=k:=by
    rcases Nat.lt_or_ge k n with h3 | h3
    ·rw[Array.getElem?_eq_getElem (by rw[K.size]; exact h3)] at ho; cases ho
    ·exact h3
   rw[K.big k hk,Array.getElem?_eq_none (by rw[K.size']; exact hk)] at h1
   cases h1
  | some o =>
   have:=K.get k o ho
   rw[h1] at this
   cases this
   refine ⟨o,rfl,fun e he hb=>?_⟩
   rw[<- h]
   exact h2 ⟨f e.on,e.ground⟩ (by simp only[reE,Array.mem_map]; exact ⟨e,he,rfl⟩) hb
theorem qlf {f:Nat->Nat} {n:Nat} {ops' : Array Oper} (K:PermOk f n ops ops') : ∀ {L:List Nat} {listed listed' : Array Bool},listed.size=n->listed'.size=n->(∀ i b,listed'.getD (f i) b=listed.getD i b)->Lin ops listed L->Lin ops' listed' (L.map f)
 | [],listed,listed',hs,hs',h,.nil hr=>.nil (by
  cases hx:Region.ready .any ops' listed' with
  | nil=>rfl
  | cons p l =>
   have hm:p∈Region.ready .any ops' listed':=by rw[hx]; exact List.mem_cons_self
   obtain ⟨_,o,ho,_⟩:=zu.1 hm
   have hp:=(Array.getElem?_eq_some_iff.1 ho).1
   rw[K.size'] at hp
   obtain ⟨i,_,rfl⟩:=K.sur p hp
   have:=(qfv K h).2 hm
   rw[hr] at this
   cases this)
 | k::rest,listed,listed',hs,hs',h,.cons hi hl=>.cons ((qfv K h).1 hi) (qlf K (by simp[hs]) (by simp[hs']) (qjz K hs hs' h k) hl)
theorem qfw {f:Nat->Nat} {n:Nat} {ops' : Array Oper} (K:PermOk f n ops ops') {Q:Exit->Act->World->Prop} : ∀ (L:List Nat) (a:Act) (w:World),wpOps P ops' Q (L.map f) a w->wpOps P ops Q L a w
 | [],_,_,h=>h
 | k::rest,a,w,h=>by
  rw[List.map_cons,wpOps_cons] at h
  rw[wpOps_cons]
  have hm:=wpOp_mono (fun a w hk=>qfw K rest a w hk) h
  unfold wpOp at hm |-
  cases ho:ops[k]? with
  | none =>
   have hk:n<=k:=by
    rcases Nat.lt_or_ge k n with h3 | h3
    ·rw[Array.getElem?_eq_getElem (by rw[K.size]; exact h3)] at ho; cases ho
    ·exact h3
   rw[K.big k hk,Array.getElem?_eq_none (by rw[K.size']; exact hk)] at hm
   exact hm
  | some o =>
   rw[K.get k o ho] at hm
   have hy:Region.wanted (reE f o) (yielded ops' a.tmps)=Region.wanted o (yielded ops a.tmps):=by
    unfold Region.wanted
    cases hg:o.guard with
    | none=>simp[reE,hg]
    | some q =>
     obtain ⟨g,want⟩:=q
     have:yielded ops' a.tmps (f g)=yielded ops a.tmps g:=by
      unfold yielded
      cases hgo:ops[g]? with
      | none =>
       have hk:n<=g:=by
        rcases Nat.lt_or_ge g n with h3 | h3
        ·rw[Array.getElem?_eq_getElem (by rw[K.size]; exact h3)] at hgo; cases hgo
        ·exact h3
       rw[K.big g hk,Array.getElem?_eq_none (by rw[K.size']; exact hk)]
      | some p =>
       rw[K.get g p hgo]
       rfl
     simp[reE,hg,this]
   simp only[hy] at hm
   exact hm
theorem qiq {f:Nat->Nat} {n:Nat} {ops' : Array Oper} (K:PermOk f n ops ops') {Q:Exit->Env->Heap->Prop} {env:Env} {H:Heap} (h:SLin P sz ops' Q env H):SLin P sz ops Q env H:=by
 intro ρ I w a Q' hr he hQ L hL
 refine qfw K L a w (h ρ I w a Q' hr he hQ _ (qlf K (by simp[K.size]) (by simp[K.size']) (fun i b=>?_) hL))
 simp only[Array.getD_eq_getD_getElem?,Array.getElem?_replicate,K.size,K.size']
 by_cases hi:i<n
 ·rw[if_pos hi,if_pos (K.lt i hi)]
 ·rw[if_neg hi,K.big i oz,if_neg hi]
theorem qo6 (l:List (Option Oper)) (r:Array Oper) (h : ∀ o∈l,o.isSome=true):(l.foldl (fun r o=>match o with | some o=>r.push o | none=>r) r).size=r.size+l.length /\
  ∀ p,(l.foldl (fun r o=>match o with | some o=>r.push o | none=>r) r)[p]? = if p<r.size then r[p]? else (l[p-r.size]?).bind id:=by
 induction l generalizing r with
 | nil =>
  refine ⟨rfl,fun p=>?_⟩
  simp only[List.foldl_nil]
  split
  ·rfl
  ·rw[Array.getElem?_eq_none oz]; rfl
 | cons x l ih =>
  have hx:=h x List.mem_cons_self
  cases x with
  | none=>cases hx
  | some o =>
   obtain ⟨h1,h2⟩:=ih (r.push o) fun y hy=>h y (List.mem_cons_of_mem _ hy)
   simp only[List.foldl_cons]
   refine ⟨by rw[h1]; simp; omega,fun p=>?_⟩
   rw[h2 p]
   simp only[Array.size_push,List.length_cons]
   by_cases c1:p<r.size
   ·rw[if_pos oz,if_pos c1,Array.getElem?_push_lt c1,Array.getElem?_eq_getElem c1]
   ·rw[if_neg c1]
    by_cases c2:p=r.size
    ·subst c2
     rw[if_pos oz,Array.getElem?_push_size,Nat.sub_self]
     rfl
    ·rw[if_neg oz]
     have:p-r.size=(p-(r.size+1))+1:=oz
     rw[this,List.getElem?_cons_succ]
theorem zy (fl gl:List Nat) (hp:permB fl gl ops.size=true) {Q:Exit->Env->Heap->Prop} {env:Env} {H:Heap} (h:SLin P sz (permOps fl gl ops) Q env H):SLin P sz ops Q env H:=by
 unfold permB at hp
 simp only[Bool.and_eq_true,beq_iff_eq,List.all_eq_true,List.mem_range,Nat.blt_eq] at hp
 obtain ⟨⟨hf,hg⟩,hall⟩:=hp
 have hsome : ∀ o∈gl.map fun i=>(ops[i]?).map (reE (fnL fl)),o.isSome=true:=by
  intro o ho
  obtain ⟨i,hi,rfl⟩:=List.mem_map.1 ho
  obtain ⟨p,hp1,hp2⟩:=List.mem_iff_getElem.1 hi
  have:=(hall p oz).1.1.2
  unfold fnL at this
  rw[List.getD_eq_getElem?_getD,List.getElem?_eq_getElem hp1,Option.getD_some,hp2] at this
  rw[Array.getElem?_eq_getElem this]
  rfl
 obtain ⟨h1,h2⟩:=qo6 _ #[] hsome
 refine qiq (f:=fnL fl) (n:=ops.size) ⟨rfl,?_,fun i hi=>(hall i hi).1.1.1,fun i hi=>?_,fun i j hij=>?_,fun p hp=>⟨fnL gl p,(hall p hp).1.1.2,(hall p hp).2⟩,fun i o ho=>?_⟩ h
 ·unfold permOps
  rw[h1]
  simp[hg]
 ·unfold fnL
  rw[List.getD_eq_getElem?_getD,List.getElem?_eq_none oz]
  rfl
 ·have hb : ∀ k,ops.size<=k->fnL fl k=k:=fun k hk=>by
   unfold fnL
   rw[List.getD_eq_getElem?_getD,List.getElem?_eq_none oz]
   rfl
  rcases Nat.lt_or_ge i ops.size with a1 | a1 <;> rcases Nat.lt_or_ge j ops.size with a2 | a2
  ·have e1:=(hall i a1).1.2
   have e2:=(hall j a2).1.2
   rw[<- e1,<- e2,hij]
  ·have:=(hall i a1).1.1.1
   rw[hij,hb j a2] at this
   omega
  ·have:=(hall j a2).1.1.1
   rw[<- hij,hb i a1] at this
   omega
  ·rw[hb i a1,hb j a2] at hij
   exact hij
 ·have hi:=(Array.getElem?_eq_some_iff.1 ho).1
  have e1:=(hall i hi).1.2
  have hlt:=(hall i hi).1.1.1
  unfold permOps
  rw[h2]
  rw[if_neg (by simp)]
  have e2:gl[fnL fl i]? = some i:=by
   have h3:fnL gl (fnL fl i)=i:=e1
   unfold fnL at h3 |-
   rw[List.getD_eq_getElem?_getD,List.getElem?_eq_getElem (by unfold fnL at hlt; omega),Option.getD_some] at h3
   rw[List.getElem?_eq_getElem (by unfold fnL at hlt; omega),h3]
  simp only[List.size_toArray,List.length_nil,Nat.sub_zero,List.getElem?_map,e2,Option.map_some,ho,Option.bind_some,id]
end
end Go.Fl
end Fl52S
set_option maxRecDepth 20000
noncomputable section W7S
namespace Go.Proofs.YtfokgjhdndnnhaaGreatDoor
open Go Go.Fl Go.Proofs
theorem zrep0 (zs:List AV):zrep zs 0 = []:=rfl
theorem clone_s (l:List Nat) (h:0<l.length) (hl:l.length<=1000000):SCalls Tryz.prog 98 [iA l] Heap.empty (iA l) Heap.empty:=by
 have hLi:(iV l).length=l.length:=qK l
 have hne : ¬ (l.length=0):=oz
 have hs:=zl (P:=Tryz.prog) (H:=Heap.empty.alloc []) (sz:=1) (n:=l.length) (cs:=iV l) tU84 oz
 have hg:grown (Heap.empty.alloc []) 1 (.ms 0 0 0 1)=some (0,[],some 0):=grown_of (c:=[]) gz (by simp)
 have ha:=qL tU84 tS3 tB3 tZ3 rfl hs hg oz oz (qdn l)
 rw[Nat.zero_add,List.nil_append] at ha
 refine qE (sz:=8) (Tryz.call98) Tryz.func98 rfl (Nat.zero_le _) kz (fun R hR=>?_)
 refine qg (fun K1 hK1=>?_)
 refine qi kz ?_
 simp[go_sem]
 refine hK1 _ _ ?_
 try clear hK1 K1
 refine qg (fun K2 hK2=>?_)
 refine qg (fun K3 hK3=>?_)
 refine qi kz ?_
 simp[go_sem,iA,hne,h]
 refine hK3 _ _ ?_
 try clear hK3 K3
 refine qj (b:=false) gz (fun h=>by cases h) (fun _=>?_)
 refine ql ?_
 refine hK2 _ _ ?_
 try clear hK2 K2
 refine qg (fun K4 hK4=>?_)
 refine qi kz ?_
 simp[go_sem,iA,zrep0]
 rw[ha]
 simp only[]
 refine hK4 _ _ ?_
 try clear hK4 K4
 refine qx ?_
 simp only[go_sem]
 refine hR _ _ ?_
 refine zD (v:=.ms 1 0 l.length 1) gz ?_ (qP _) (Nat.zero_le _) (by simp[zI])
 exact Froz.row (b:=1) (cs:=iV l) (by simp[Heap.regrow,Heap.delo,go_sem]) (Nat.zero_le _) oz (by rw[List.drop_zero,List.take_of_length_le oz])
theorem clone_H (l:List Nat) (h:0<l.length) (hl:l.length<=1000000) (H:Heap):SCalls Tryz.prog 98 [iA l] H (iA l) H:=qO (clone_s l h hl) (by simp[zI]) (by simp[zI]) H
def tbC (lens cs:List Nat) (C:Nat) (x:AV):List AV:=[.bool true,iA lens,.ms C 0 lens.length 1]++cntC cs ++ [x]
theorem qab (lens cs:List Nat) (C:Nat) (x:AV):(tbC lens cs C x).length=20:=by simp[tbC,cntC]
theorem cntC_len (l:List Nat):(cntC l).length=16:=by simp[cntC]
theorem cntC_at (l:List Nat) (k:Nat) (h:k<16) : ∃ r,(cntC l).drop k = .int (cnt l k:Nat)::r:=by
 unfold cntC
 rw[<- List.map_drop,List.drop_eq_getElem_cons (by simpa using h)]
 exact ⟨_,by simp; rfl⟩
theorem qj0 (lens cs:List Nat) (C:Nat) (x:AV) (k:Nat) (h:k<16):List.take 1 (List.drop (3+k) (tbC lens cs C x)) = [.int (cnt cs k:Nat)]:=by
 obtain ⟨r,hr⟩:=cntC_at cs k h
 unfold tbC
 rw[List.append_assoc,<- List.drop_drop]
 show List.take 1 (List.drop k (cntC cs ++ [x]))=_
 rw[List.drop_append_of_le_length (by rw[cntC_len]; omega),hr]
 rfl
theorem tbC_set (lens cs:List Nat) (C n:Nat) (x:AV) (h1:1<=n) (h:n<=15):List.take (3+n) (tbC lens cs C x) ++ .int ((cnt cs n+1:Nat):Int)::List.drop (3+n+1) (tbC lens cs C x)=tbC lens (cs ++ [n]) C x:=by
 apply List.ext_getElem?
 intro i
 have hl:(List.take (3+n) (tbC lens cs C x)).length=3+n:=by rw[List.length_take,qab]; omega
 have hcat : ∀ cs:List Nat,∀ i,i<16->(tbC lens cs C x)[3+i]? = some (.int (cnt cs i:Nat)):=by
  intro cs i hi
  have:=qj0 lens cs C x i hi
  have h2:(List.take 1 (List.drop (3+i) (tbC lens cs C x)))[0]? = some (.int (cnt cs i:Nat)):=by rw[this]; rfl
  rw[List.getElem?_take_of_lt oz,List.getElem?_drop] at h2
  simpa using h2
 have hcn : ∀ k,cnt (cs ++ [n]) k=cnt cs k+if k=n then 1 else 0:=by
  intro k
  unfold cnt
  by_cases hk:k=0
  ·rw[if_pos hk,if_pos hk,if_neg oz]
  ·rw[if_neg hk,if_neg hk,List.count_append]
   congr 1
   by_cases hkn:k=n
   ·subst hkn; simp
   ·rw[if_neg hkn,List.count_cons]; simp; omega
 rcases Nat.lt_or_ge i (3+n) with h2 | h2
 ·rw[List.getElem?_append_left oz,List.getElem?_take_of_lt h2]
  rcases Nat.lt_or_ge i 3 with h3 | h3
  ·rcases (by omega:i=0\/i=1\/i=2) with rfl | rfl | rfl <;> rfl
  ·obtain ⟨k,rfl⟩ : ∃ k,i=3+k:=⟨i-3,oz⟩
   rw[hcat cs k oz,hcat _ k oz,hcn,if_neg oz]
   rfl
 ·rw[List.getElem?_append_right oz,hl]
  rcases Nat.eq_or_lt_of_le h2 with rfl | h3
  ·rw[Nat.sub_self,hcat _ n oz,hcn,if_pos rfl]
   rfl
  ·obtain ⟨k,hk⟩ : ∃ k,i-(3+n)=k+1:=⟨i-(3+n)-1,oz⟩
   rw[hk,List.getElem?_cons_succ,List.getElem?_drop,show 3+n+1+k=i by omega]
   rcases Nat.lt_or_ge i 19 with h4 | h4
   ·obtain ⟨k,rfl⟩ : ∃ k,i=3+k:=⟨i-3,oz⟩
    rw[hcat cs k oz,hcat _ k oz,hcn,if_neg oz]
    rfl
   ·rcases Nat.eq_or_lt_of_le h4 with rfl | h5
    ·rfl
    ·rw[List.getElem?_eq_none (by rw[qab]; omega),List.getElem?_eq_none (by rw[qab]; omega)]
theorem whole_w {T C:Nat} {lens:List Nat} {x:AV} {H:Heap} (gT:H.get T=some (tbC lens lens C x)) (hw:WholeL lens) (hal:(ordU lens 15).length<=1000000):SCalls Tryz.prog 99 [.ptr T 0] H (.bool true) H:=by
 obtain ⟨cs,hcs⟩ : ∃ cs,tbC lens lens C x=cs:=⟨_,rfl⟩
 have hcl:cs.length=20:=by rw[<- hcs,qab]
 have hct : ∀ k,k<16->List.take 1 (List.drop (3+k) cs) = [.int (cnt lens k:Nat)]:=fun k hk=>by rw[<- hcs]; exact qj0 lens lens C x k hk
 rw[hcs] at gT
 have hkb : ∀ k,k<=15->ksum lens k<=32768:=fun k hk=>Nat.le_trans (qia lens k 15 hk) (qeh lens hw)
 have hab : ∀ k,k<=15->asum lens k<=1000000:=fun k hk=>Nat.le_trans (jC lens k 15 hk) (by rw[<- yf]; exact hal)
 refine qE (sz:=47) (Tryz.call99) Tryz.func99 rfl (Nat.le_refl _) kz (fun R hR=>?_)
 refine qg (fun K1 hK1=>?_)
 refine qi kz ?_
 simp[go_sem]
 refine hK1 _ _ ?_
 try clear hK1 K1
 refine qg (fun K2 hK2=>?_)
 refine qi kz ?_
 simp[go_sem]
 refine hK2 _ _ ?_
 try clear hK2 K2
 refine qg (fun K3 hK3=>?_)
 refine qg (fun K4 hK4=>?_)
 refine qi kz ?_
 simp[go_sem]
 refine hK4 _ _ ?_
 try clear hK4 K4
 refine qm ?_
 refine qC (Inv:=fun m env H2 => ∃ k:Nat,m=15-k/\k<=15/\env 0 = .ptr T 0/\env 3 = .int (ksum lens k:Nat)/\env 4 = .int (asum lens k:Nat)/\env 5 = .int (k+1:Nat)/\H2=H) ?_ (n:=15) (⟨0,rfl,oz,gz,by simp[go_sem,ksum],by simp[go_sem,asum],gz,rfl⟩)
 rintro m env _ ⟨k,rfl,hk,e0,e3,e4,e5,rfl⟩
 refine qg (fun K5 hK5=>?_)
 refine qg (fun K6 hK6=>?_)
 refine qi kz ?_
 simp[go_sem,e5]
 refine hK6 _ _ ?_
 try clear hK6 K6
 have hlt15:((k:Int)+1<=15)=(k<15):=propext ⟨fun h=>by omega,fun h=>by omega⟩
 refine qj (b:=decide (k<15)) (by simp[go_sem,hlt15]) (fun hb=>?_) (fun hb=>?_)
 ·skip
  simp only[decide_eq_true_eq] at hb
  have hck:=hct (k+1) oz
  have hsub:IntKind.i64.wrap (15-((k:Int)+1))=((15-(k+1):Nat):Int):=by rw[i64in _ oz oz]; omega
  have hkk:=hkb (k+1) oz
  have hkk2:ksum lens (k+1)=ksum lens k+cnt lens (k+1)*2^(15-(k+1)):=rfl
  have haa:=hab (k+1) oz
  have haa2:asum lens (k+1)=asum lens k+cnt lens (k+1):=rfl
  have hsh:bshl .i64 (cnt lens (k+1):Nat) ((15-(k+1):Nat):Int)=((cnt lens (k+1)*2^(15-(k+1)):Nat):Int):=zB _ _ oz oz
  obtain ⟨cc,hcc⟩ : ∃ c,cnt lens (k+1)=c:=⟨_,rfl⟩
  rw[hcc] at hck hkk2 haa2 hsh
  obtain ⟨pw,hpw⟩ : ∃ c,cc*2^(15-(k+1))=c:=⟨_,rfl⟩
  rw[hpw] at hkk2 hsh
  obtain ⟨sh,hshq⟩ : ∃ s,15-(k+1)=s:=⟨_,rfl⟩
  rw[hshq] at hsub hsh
  have ho1:3+(k+1)+1<=20:=oz
  have hi1:(k:Int)+1<16:=oz
  have hi0:(0:Int)<=(k:Int)+1:=oz
  have ht:((k:Int)+1).toNat=k+1:=oz
  have hws:=i64in ((ksum lens k:Nat)+(pw:Nat):Int) oz oz
  have hwa:=i64in ((asum lens k:Nat)+(cc:Nat):Int) oz oz
  have hwk:=qF k oz
  refine ql ?_
  refine hK5 _ _ ?_
  try clear hK5 K5
  refine qg (fun K7 hK7=>?_)
  refine qm ?_
  refine qg (fun K8 hK8=>?_)
  refine qi kz ?_
  simp[go_sem,e0,e3,e5,gT,hcl,hck,hsub,hsh,ho1,hi1,hi0,ht,hws]
  refine hK8 _ _ ?_
  try clear hK8 K8
  refine qi kz ?_
  simp[go_sem,e0,e4,e5,gT,hcl,hck,ho1,hi1,hi0,ht,hwa]
  refine hK7 _ _ ?_
  try clear hK7 K7
  refine qo (fun K9 hK9=>?_)
  refine qi kz ?_
  simp[go_sem,e5]
  refine hK9 _ _ ?_
  have hw1:IntKind.i64.wrap ((k:Int)+1+1)=(k:Int)+1+1:=i64in _ oz oz
  exact ⟨15-(k+1),oz,k+1,rfl,oz,by simp[go_sem,e0],by simp[go_sem,e3,hkk2],by simp[go_sem,e4,haa2],by simp[go_sem,e5,hw1],rfl⟩
 ·skip
  simp only[decide_eq_false_iff_not] at hb
  obtain rfl:k=15:=oz
  have hc1:=hct 1 oz
  refine qy ?_
  refine hK3 _ _ ?_
  try clear hK3 K3
  refine qg (fun K10 hK10=>?_)
  rcases (by by_cases h:ksum lens 15=32768 <;> rcases hw with h2 | h2 | h2 <;> simp[h] at h2 |- <;> simp[h2]:ksum lens 15=32768\/(ksum lens 15≠32768/\asum lens 15=0)\/(ksum lens 15≠32768/\asum lens 15=1/\cnt lens 1=1)) with hv | ⟨hv,hv2⟩ | ⟨hv,hv2,hv3⟩
  ·skip
   have hvi:(ksum lens 15:Int)=32768:=oz
   refine qi kz ?_
   simp[go_sem,e3,e4,e0,gT,hcl,hc1,hvi]
   refine hK10 _ _ ?_
   try clear hK10 K10
   refine qx ?_
   simp only[go_sem]
   refine hR _ _ ?_
   exact qG gz (Heap.le_refl _) (Nat.le_refl _) gz
  ·skip
   have hvi:((ksum lens 15:Int)==32768)=false:=by simp; omega
   have hvi2:(asum lens 15:Int)=0:=oz
   refine qi kz ?_
   simp[go_sem,e3,e4,e0,gT,hcl,hc1,hvi,hvi2]
   refine hK10 _ _ ?_
   try clear hK10 K10
   refine qx ?_
   simp only[go_sem]
   refine hR _ _ ?_
   exact qG gz (Heap.le_refl _) (Nat.le_refl _) gz
  ·skip
   have hvi:((ksum lens 15:Int)==32768)=false:=by simp; omega
   have hvi2:(asum lens 15:Int)=1:=oz
   have hvi3:(cnt lens 1:Int)=1:=oz
   refine qi kz ?_
   simp[go_sem,e3,e4,e0,gT,hcl,hc1,hvi,hvi2,hvi3]
   refine hK10 _ _ ?_
   try clear hK10 K10
   refine qx ?_
   simp only[go_sem]
   refine hR _ _ ?_
   exact qG gz (Heap.le_refl _) (Nat.le_refl _) gz
end Go.Proofs.YtfokgjhdndnnhaaGreatDoor
end W7S
set_option maxRecDepth 20000
noncomputable section W8S
namespace Go.Proofs.YtfokgjhdndnnhaaGreatDoor
open Go Go.Fl Go.Proofs
def TbS (S:Nat->Prop) (H:Heap) (T C:Nat) (lens cd od:List Nat):Prop := ∃ x,¬ S T /\ ¬ S C/\C≠T/\H.get T=some (tbC lens lens C x)/\H.get C=some (iV cd)/\cd.length=lens.length/\od.length<=1000000/\((x = .nil/\od = []) \/ ∃ q,¬ S q/\q≠T/\q≠C/\x = .ms q 0 od.length 1/\H.get q=some (iV od)) /\ ∀ b,S b->b<H.next
theorem tbC_2 (lens cs:List Nat) (C:Nat) (x:AV):List.take 1 (List.drop 2 (tbC lens cs C x)) = [.ms C 0 lens.length 1]:=rfl
theorem tbC_1 (lens cs:List Nat) (C:Nat) (x:AV):List.take 1 (tbC lens cs C x).tail = [iA lens]:=rfl
theorem tbC_19 (lens cs:List Nat) (C:Nat) (x:AV):List.take 1 (List.drop 19 (tbC lens cs C x)) = [x]:=rfl
theorem tbC_put (lens cs:List Nat) (C:Nat) (x y:AV):List.take 19 (tbC lens cs C x)++y::List.drop 20 (tbC lens cs C x)=tbC lens cs C y:=rfl
theorem tbC_lt (lens cs:List Nat) (C:Nat) (x:AV) (n:Nat) (hC:C<n) (hx:x.Lt n) : ∀ y∈tbC lens cs C x,y.Lt n:=by
 intro y hy
 simp only[tbC,List.mem_append,List.mem_cons,List.mem_singleton,List.not_mem_nil,or_false,cntC,List.mem_map] at hy
 rcases hy with ((rfl | rfl | rfl) | ⟨k,_,rfl⟩) | rfl
 ·exact .sc _
 ·rw[zI]; trivial
 ·exact .ms hC
 ·exact .sc _
 ·exact hx
theorem step_p {S:Nat->Prop} {T C tb cb s:Nat} (c:Nat) {lens cd od:List Nat} (hs:s<lens.length) (hl:lens.length<=1000000) (ho:od.length+1<=1000000) (hc:c<=1000000) {H:Heap} (hW:TbS S H T C lens cd od) (hStb:S tb) (hScb:S cb) (hct:tb≠cb) (gtb:H.get tb=some [.ptr T 0]) (gcb:H.get cb=some [.int c]):SCallsP Tryz.prog 115 [.int s,.ptr cb 0,.ptr tb 0] H (fun r H'=>r = .tup []/\TbS S H' T C lens (cd.set s c) (od ++ [s])/\H'.get cb=some [.int ((c+1:Nat):Int)]/\Step (fun b=>S b/\b≠cb) H H'):=by
 obtain ⟨x,hT,hC,hCT,gT,gC,hcl,hod,hx,hSn⟩:=hW
 have hs2:s<cd.length:=oz
 have hsl:(s:Int)<lens.length:=oz
 have hs1:s+1<=lens.length:=hs
 obtain ⟨cs,hcs⟩ : ∃ cs,tbC lens lens C x=cs:=⟨_,rfl⟩
 have hl20:cs.length=20:=by rw[<- hcs,qab]
 have h2:=tbC_2 lens lens C x
 have h19:=tbC_19 lens lens C x
 have hput:=tbC_put lens lens C x
 rw[hcs] at gT h2 h19 hput
 have hiv:=zA cd s hs2 c
 have hiL:(iV cd).length=lens.length:=by rw[qK,hcl]
 obtain ⟨bo,hg,hbo⟩ : ∃ bo,grown H 1 x=some (od.length,iV od,bo) /\ ∀ b,bo=some b -> ¬ S b/\b≠T/\b≠C:=by
  rcases hx with ⟨rfl,h⟩ | ⟨q,q1,q2,q3,rfl,q4⟩
  ·subst h; exact ⟨none,rfl,by simp⟩
  ·exact ⟨some q,grown_of q4 (by rw[qK]; omega),fun b hb=>by cases hb; exact ⟨q1,q2,q3⟩⟩
 have hxl:x.leaf=true/\x.Lt H.next:=by
  rcases hx with ⟨rfl,_⟩ | ⟨q,_,_,_,rfl,gq⟩
  ·exact ⟨rfl,gz⟩
  ·exact ⟨rfl,by have:=Heap.lt_of_get gq; simp[go_sem,this]⟩
 have nT:=Heap.lt_of_get gT
 have nC:=Heap.lt_of_get gC
 have hTC : ¬ (T=C):=fun e=>hCT e.symm
 have tbT : ¬ (tb=T):=by rintro rfl; exact hT hStb
 have tbCn : ¬ (tb=C):=by rintro rfl; exact hC hStb
 have cbT : ¬ (cb=T):=by rintro rfl; exact hT hScb
 have cbCn : ¬ (cb=C):=by rintro rfl; exact hC hScb
 have cbtb : ¬ (cb=tb):=fun e=>hct e.symm
 have hwc:=qF c oz
 refine qA (sz:=23) (Tryz.call115) Tryz.func115 rfl kz (fun R hR=>?_)
 refine qw (fun env H2=>env 0 = .int s/\env 1 = .ptr cb 0/\env 2 = .ptr tb 0/\H2=H.set C (iV (cd.set s c))) ?_ ?_
 ·skip
  refine qo (fun K98 hK98=>?_)
  refine qZ mixed kz (bf:=[0,1,3,7,0,0,63,127]) kz ?_
  simp[go_sem,gtb,gcb,gT,h2,hl20,gC,hiL,hsl,hiv,hs1,befL]
  refine hK98 _ _ ?_
  exact ⟨gz,gz,gz,rfl⟩
 rintro env _ ⟨e0,e1,e2,rfl⟩
 obtain ⟨H2,hH2⟩ : ∃ X,H.set C (iV (cd.set s c))=X:=⟨_,rfl⟩
 have hSt2:Step (fun b=>S b) H H2:=by rw[<- hH2]; exact (Step.refl _ H).set hC (jb _ _)
 have hn2:H2.next=H.next:=by rw[<- hH2]; rfl
 have gT2:H2.get T=some cs:=by rw[<- hH2,Heap.get_set,if_neg hTC]; exact gT
 have gC2:H2.get C=some (iV (cd.set s c)):=by rw[<- hH2,Heap.get_set,if_pos rfl,gC]; rfl
 have gtb2:=hSt2.get gtb hStb
 have gcb2:=hSt2.get gcb hScb
 have hg2:grown H2 1 x=some (od.length,iV od,bo):=by rw[<- hH2]; exact qg1 hg (fun e=>(hbo C e).2.2 rfl)
 obtain ⟨ha,hga⟩:=appI s hg2 oz
 rw[hH2]
 clear gT gC gtb gcb hg
 have gT3:((H2.alloc [.int s]).regrow bo (iV od ++ [.int s])).get T=some cs:=qY (by rw[Heap.get_alloc,if_neg oz]; exact gT2) (fun e=>(hbo T e).2.1 rfl)
 have hTn : ¬ (T=H2.next):=oz
 have htbn : ¬ (tb=H2.next):=by have:=hSn _ hStb; omega
 have gtb3:((H2.alloc [.int s]).regrow bo (iV od ++ [.int s])).get tb=some [.ptr T 0]:=qY (by rw[Heap.get_alloc,if_neg htbn]; exact gtb2) (fun e=>(hbo tb e).1 hStb)
 have gC3:((H2.alloc [.int s]).regrow bo (iV od ++ [.int s])).get C=some (iV (cd.set s c)):=qY (by rw[Heap.get_alloc,if_neg oz]; exact gC2) (fun e=>(hbo C e).2.2 rfl)
 have gcb3:((H2.alloc [.int s]).regrow bo (iV od ++ [.int s])).get cb=some [.int c]:=qY (by rw[Heap.get_alloc,if_neg (by have:=hSn _ hScb; omega)]; exact gcb2) (fun e=>(hbo cb e).1 hScb)
 refine qg (fun K2 hK2=>?_)
 refine qo (fun K97 hK97=>?_)
 refine qZ mixed kz (bf:=[0,0,2,6,14,0,32,126,255,511,1023]) kz ?_
 simp[go_sem,e0,e1,e2,gtb2,gT2,h19,hl20,befL,ha,gT3,hput,hTn,htbn,gtb3]
 refine hK97 _ _ ?_
 refine hK2 _ _ ?_
 try clear hK2 K2
 refine qo (fun K3 hK3=>?_)
 refine qi kz ?_
 simp[go_sem,e1,gcb3,cbT,hwc]
 refine hK3 _ _ ?_
 refine hR _ _ ?_
 have hq3:((H2.alloc [.int s]).regrow bo (iV od ++ [.int s])).get (H2.next+1)=some (iV (od ++ [s])):=by
  unfold Heap.regrow
  rw[Heap.get_alloc,Heap.delo_next,Heap.next_alloc,if_pos rfl,qgv]
  rfl
 have hSt3:Step (fun b=>S b) H ((H2.alloc [.int s]).regrow bo (iV od ++ [.int s])):=by
  refine (hSt2.alloc gz).regrow (fun b hb=>(hbo b hb).1) ?_
  intro y hy
  rcases List.mem_append.1 hy with h | h
  ·exact jb _ _ y h
  ·simp at h; subst h; simp[go_sem]
 have hSt4:Step (fun b=>S b) H (((H2.alloc [.int s]).regrow bo (iV od ++ [.int s])).set T (tbC lens lens C (.ms (H2.next+1) 0 (od.length+1) 1))):=hSt3.set hT (tbC_lt _ _ _ _ _ (by simp[go_sem]; omega) gz)
 have hSt5:Step (fun b=>S b/\b≠cb) H ((((H2.alloc [.int s]).regrow bo (iV od ++ [.int s])).set T (tbC lens lens C (.ms (H2.next+1) 0 (od.length+1) 1))).set cb [.int ((c:Int)+1)]):=(hSt4.mono fun b hb=>hb.1).set (fun h=>h.2 rfl) gz
 refine hSt5.retP (r:=.tup []) gz ⟨rfl,⟨.ms (H2.next+1) 0 (od.length+1) 1,hT,hC,hCT,?_,?_,by rw[List.length_set]; exact hcl,by simpa using ho,.inr ⟨H2.next+1,fun e=>by have:=hSn _ e; omega,oz,oz,by simp,?_⟩,fun b hb=>Nat.lt_of_lt_of_le (hSn b hb) hSt5.le⟩,?_,hSt5⟩ gz
 ·rw[Heap.get_set,if_neg (Ne.symm cbT),Heap.get_set,if_pos rfl,gT3]; rfl
 ·rw[Heap.get_set,if_neg (Ne.symm cbCn),Heap.get_set,if_neg hCT]; exact gC3
 ·rw[Heap.get_set,if_neg (by have:=hSn _ hScb; omega),Heap.get_set,if_neg oz]; exact hq3
 ·rw[Heap.get_set,if_pos rfl,Heap.get_set,if_neg cbT,gcb3]; rfl
end Go.Proofs.YtfokgjhdndnnhaaGreatDoor
end W8S
