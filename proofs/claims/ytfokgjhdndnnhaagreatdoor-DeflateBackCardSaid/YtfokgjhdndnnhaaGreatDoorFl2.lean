/- A map of numbers that the kernel reckons fast. -/
import Derived.LoopIn
import Derived.Orders
import Derived.Calls
import Derived.Laws.Append
import Derived.Laws.Tables
import Derived.KernelRfl
import Derived.Laws.CopyRow
set_option linter.unusedVariables false
set_option linter.unusedSimpArgs false
noncomputable section Fl0S
theorem kz {P:Prop} (h:P:=by kernel_rfl):P:=h
theorem gz {P:Prop} (h:P:=by simp [go_sem]):P:=h
theorem oz {P:Prop} (h:P:=by omega):P:=h
theorem dz {P:Prop} (h:P:=by decide):P:=h
namespace Go.Fl
inductive Tr (α : Type) where
 | leaf
 | node (v:Option α) (l r:Tr α)
namespace Tr
variable {α : Type}
def get (t:Tr α):Nat->Option α :=
 Tr.rec (motive:=fun _=>Nat->Option α) (fun _=>none) (fun v _ _ ihl ihr n=>cond (Nat.beq n 0) v (cond (Nat.beq (n%2) 1) (ihl (n/2)) (ihr (n/2-1)))) t
def put1 (x:Option α) (rec_:Tr α -> Nat->Tr α) (t:Tr α) (n:Nat):Tr α :=
 Tr.casesOn (motive:=fun _=>Tr α) t
  (cond (Nat.beq n 0) (node x leaf leaf) (cond (Nat.beq (n%2) 1) (node none (rec_ leaf (n/2)) leaf) (node none leaf (rec_ leaf (n/2-1)))))
  (fun v l r=>cond (Nat.beq n 0) (node x l r) (cond (Nat.beq (n%2) 1) (node v (rec_ l (n/2)) r) (node v l (rec_ r (n/2-1)))))
def putF (f:Nat) (t:Tr α) (n:Nat) (x:Option α):Tr α :=
 Nat.rec (motive:=fun _=>Tr α -> Nat->Tr α) (fun t _=>t) (fun _ ih=>put1 x ih) f t n
def put (t:Tr α) (n:Nat) (x:Option α):Tr α := putF (n+1) t n x
theorem qkq (n:Nat):(leaf:Tr α).get n=none:=rfl
theorem qbm (a b:Nat):(Nat.beq a b=true/\a=b)\/(Nat.beq a b=false/\a≠b):=by
 cases h:Nat.beq a b with
 | true=>exact .inl ⟨rfl,Nat.eq_of_beq_eq_true h⟩
 | false=>exact .inr ⟨rfl,Nat.ne_of_beq_eq_false h⟩
theorem yL (v:Option α) (l r:Tr α) (n:Nat):(node v l r).get n=if n=0 then v else if n%2=1 then l.get (n/2) else r.get (n/2-1):=by
 show cond (Nat.beq n 0) v (cond (Nat.beq (n%2) 1) (l.get (n/2)) (r.get (n/2-1)))=_
 rcases qbm n 0 with ⟨h1,h2⟩ | ⟨h1,h2⟩
 ·rw[h1,if_pos h2]; rfl
 ·rw[h1,if_neg h2]
  rcases qbm (n%2) 1 with ⟨h3,h4⟩ | ⟨h3,h4⟩
  ·rw[h3,if_pos h4]; rfl
  ·rw[h3,if_neg h4]; rfl
theorem qnk (f:Nat) (v:Option α) (l r:Tr α) (n:Nat) (x:Option α):putF (f+1) (node v l r) n x=if n=0 then node x l r else if n%2=1 then node v (putF f l (n/2) x) r else node v l (putF f r (n/2-1) x):=by
 show cond (Nat.beq n 0) (node x l r) (cond (Nat.beq (n%2) 1) (node v (putF f l (n/2) x) r) (node v l (putF f r (n/2-1) x)))=_
 rcases qbm n 0 with ⟨h1,h2⟩ | ⟨h1,h2⟩
 ·rw[h1,if_pos h2]; rfl
 ·rw[h1,if_neg h2]
  rcases qbm (n%2) 1 with ⟨h3,h4⟩ | ⟨h3,h4⟩
  ·rw[h3,if_pos h4]; rfl
  ·rw[h3,if_neg h4]; rfl
theorem qnl (f:Nat) (n:Nat) (x:Option α):putF (f+1) leaf n x=putF (f+1) (node none leaf leaf) n x:=rfl
theorem qf4 : ∀ (f:Nat) (t:Tr α) (n:Nat) (x:Option α) (m:Nat),n<f->(putF f t n x).get m=if m=n then x else t.get m
 | 0,_,n,_,_,h=>by omega
 | f+1,t,n,x,m,h=>by
  have key : ∀ (v:Option α) (l r:Tr α),(putF (f+1) (node v l r) n x).get m=if m=n then x else (node v l r).get m:=by
   intro v l r
   rw[qnk]
   by_cases h1:n=0
   ·rw[if_pos h1,yL,yL]
    by_cases hm:m=0
    ·rw[if_pos hm,if_pos oz]
    ·rw[if_neg hm,if_neg (show ¬ m=n by omega),if_neg hm]
   ·rw[if_neg h1]
    by_cases h2:n%2=1
    ·rw[if_pos h2,yL,yL]
     by_cases hm:m=0
     ·rw[if_pos hm,if_neg oz,if_pos hm]
     ·rw[if_neg hm,if_neg hm]
      by_cases hm2:m%2=1
      ·rw[if_pos hm2,if_pos hm2,qf4 f l (n/2) x (m/2) oz]
       by_cases e:m=n
       ·rw[if_pos e,if_pos oz]
       ·rw[if_neg e,if_neg oz]
      ·rw[if_neg hm2,if_neg hm2,if_neg (by intro e; rw[e] at hm2; exact hm2 h2)]
    ·rw[if_neg h2,yL,yL]
     by_cases hm:m=0
     ·rw[if_pos hm,if_neg oz,if_pos hm]
     ·rw[if_neg hm,if_neg hm]
      by_cases hm2:m%2=1
      ·rw[if_pos hm2,if_pos hm2,if_neg (by intro e; rw[e] at hm2; exact h2 hm2)]
      ·rw[if_neg hm2,if_neg hm2,qf4 f r (n/2-1) x (m/2-1) oz]
       by_cases e:m=n
       ·rw[if_pos e,if_pos oz]
       ·rw[if_neg e,if_neg oz]
  cases t with
  | leaf =>
   rw[qnl,key,yL,qkq]
   by_cases e:m=n
   ·rw[if_pos e,if_pos e]
   ·rw[if_neg e,if_neg e]; simp[qkq]
  | node v l r=>exact key v l r
theorem get_put (t:Tr α) (n:Nat) (x:Option α) (m:Nat):(t.put n x).get m=if m=n then x else t.get m:=qf4 (n+1) t n x m (Nat.lt_succ_self n)
end Tr
end Go.Fl
end Fl0S
namespace Go.Fl
open Go
def globCells:Nat->Option (List Value):=fun _=>none
def globLike:Nat->Option (Array Value->Prop):=fun _=>none
def keepD:Option Nat->Bool:=fun _=>true
def bytesT (t:Nat):Bool:=Nat.beq t 25
theorem qnm (t:Nat):bytesT t=(t==25):=by
 unfold bytesT
 rw[Bool.eq_iff_iff]
 simp
end Go.Fl
noncomputable section Fl1S
namespace Go.Fl
open Go
inductive AV where
 | sc (v:Value)
 | ptr (b o:Nat)
 | ms (b off len sz:Nat)
 | vs (len sz:Nat) (cells:List AV)
 | ep (cells:List AV)
 | fn (f:Fn) (first captured:List AV)
 | ifc (t:TypeId) (v:AV)
 | agg (cells:List AV)
 | tup (vs:List AV)
 | ab
 | ai (k:IntKind)
 | ty (t:TypeId) (n:Nat) (x:AV)
 | cp (c:Nat) (x:AV)
 | top
instance : Inhabited AV := ⟨.top⟩
abbrev AV.nil:AV:=.sc (.slice none 0 0)
abbrev AV.int (n:Int):AV:=.sc (.int .i64 n)
abbrev AV.bool (b:Bool):AV:=.sc (.bool b)
abbrev AV.undef:AV:=.sc Go.undef
def AV.cells:AV->List AV
 | .agg cs=>cs
 | v=>[v]
def AV.leaf:AV->Bool
 | .sc (.agg _) | .sc (.tuple _) | .agg _ | .tup _ | .top=>false
 | _=>true
abbrev Rho:=Nat->Option (Option (Nat × Nat))
def TyOk (hp:Array Obj) (t:TypeId) (n:Nat):Value->Prop
 | .pointer (some ⟨cb,off,none⟩)=>off=0 /\ ∃ c fz,hp[cb]? = some (Obj.cells c t fz)/\c.size=n
 | .slice none 0 0=>True
 | .slice (some ⟨cb,off,none⟩) _ cap=>off=0 /\ ∃ c fz,hp[cb]? = some (Obj.cells c t fz)/\cap*n<=c.size
 | _=>False
def CapOk (k:Nat):Value->Prop
 | .slice _ _ cap=>cap=k
 | _=>False
theorem TyOk.mono' {hp hp' : Array Obj} {t:TypeId} {n:Nat} {v:Value} (hb : ∀ (cb:Nat) (c:Array Value) (e:TypeId) (fz:Nat × Nat),hp[cb]? = some (Obj.cells c e fz) -> ∃ (c' : Array Value) (fz' : Nat × Nat),hp'[cb]? = some (Obj.cells c' e fz')/\c'.size=c.size)
  (h:TyOk hp t n v):TyOk hp' t n v:=by
 unfold TyOk at h |-
 split at h
 ·obtain ⟨h1,c,fz,h2,h3⟩:=h
  obtain ⟨c',fz',h4,h5⟩:=hb _ _ _ _ h2
  exact ⟨h1,c',fz',h4,h5.trans h3⟩
 ·trivial
 ·obtain ⟨h1,c,fz,h2,h3⟩:=h
  obtain ⟨c',fz',h4,h5⟩:=hb _ _ _ _ h2
  exact ⟨h1,c',fz',h4,by rw[h5]; exact h3⟩
 ·exact h.elim
inductive VR (ρ : Rho) (I:Nat->Prop) (hp:Array Obj):AV->Value->Prop
 | sc (v:Value):VR ρ I hp (.sc v) v
 | top (v:Value):VR ρ I hp .top v
 | ab (b:Bool):VR ρ I hp .ab (.bool b)
 | ai (k:IntKind) (n:Int):VR ρ I hp (.ai k) (.int k n)
 | ty {t:TypeId} {n:Nat} {x:AV} {v:Value} : VR ρ I hp x v->TyOk hp t n v->VR ρ I hp (.ty t n x) v
 | cp {k:Nat} {x:AV} {v:Value} : VR ρ I hp x v->CapOk k v->VR ρ I hp (.cp k x) v
 | ptr {b o cb base:Nat} : ρ b=some (some (cb,base))->VR ρ I hp (.ptr b o) (.pointer (some ⟨cb,base+o,none⟩))
 | ms {b off len sz cb base cap:Nat} {c:Array Value} {e:TypeId} {fz:Nat × Nat} : ρ b=some (some (cb,base))->len<=cap ->
   hp[cb]? = some (.cells c e fz)->base+off+cap*sz<=c.size->VR ρ I hp (.ms b off len sz) (.slice (some ⟨cb,base+off,none⟩) len cap)
 | ms0 {b off sz:Nat} {p:Option (Nat × Nat)} {a:Option Addr} : ρ b=some p->VR ρ I hp (.ms b off 0 sz) (.slice a 0 0)
 | vs0 {sz cap:Nat} {a:Option Addr} : (a=none->cap=0)->VR ρ I hp (.vs 0 sz []) (.slice a 0 cap)
 | vs {len sz cb off cap:Nat} {cells:List AV} {c:Array Value} {e:TypeId} {fz:Nat × Nat} : I cb->len<=cap->hp[cb]? = some (.cells c e fz) ->
   cells.length=len*sz->off+cells.length<=c.size->(∀ i x,cells[i]? = some x->VR ρ I hp x (c.getD (off+i) Go.undef)) ->
   VR ρ I hp (.vs len sz cells) (.slice (some ⟨cb,off,none⟩) len cap)
 | ep {cb off:Nat} {cells:List AV} {c:Array Value} {e:TypeId} {fz:Nat × Nat} : I cb->hp[cb]? = some (.cells c e fz) ->
   off+cells.length<=c.size->(∀ i x,cells[i]? = some x->VR ρ I hp x (c.getD (off+i) Go.undef)) ->
   VR ρ I hp (.ep cells) (.pointer (some ⟨cb,off,none⟩))
 | fn {f:Fn} {first captured:List AV} {fs cs:Array Value} : first.length=fs.size->captured.length=cs.size ->
   (∀ i x,first[i]? = some x->VR ρ I hp x (fs.getD i Go.undef))->(∀ i x,captured[i]? = some x->VR ρ I hp x (cs.getD i Go.undef)) ->
   VR ρ I hp (.fn f first captured) (.func f fs cs)
 | ifc {t:TypeId} {v:AV} {x:Value} : VR ρ I hp v x->VR ρ I hp (.ifc t v) (.iface t x)
 | agg {cells:List AV} {cs:Array Value} : cells.length=cs.size->(∀ i x,cells[i]? = some x->VR ρ I hp x (cs.getD i Go.undef)) ->
   VR ρ I hp (.agg cells) (.agg cs)
 | tup {vs:List AV} {cs:Array Value} : vs.length=cs.size->(∀ i x,vs[i]? = some x->VR ρ I hp x (cs.getD i Go.undef)) ->
   VR ρ I hp (.tup vs) (.tuple cs)
def VRs (ρ : Rho) (I:Nat->Prop) (hp:Array Obj) (xs:List AV) (ys:Array Value):Prop :=
 xs.length=ys.size /\ ∀ i x,xs[i]? = some x->VR ρ I hp x (ys.getD i Go.undef)
structure Heap where
 next:Nat
 tree:Tr (List AV)
 wf' : ∀ b,next<=b->tree.get b=none
def Heap.get (H:Heap) (b:Nat):Option (List AV):=H.tree.get b
theorem Heap.wf (H:Heap) (b:Nat) (h:H.next<=b):H.get b=none:=H.wf' b h
def Heap.empty:Heap:=⟨0,.leaf,fun _ _=>rfl⟩
def Heap.alloc (H:Heap) (cs:List AV):Heap :=
 ⟨H.next+1,H.tree.put H.next (some cs),fun b hb=>by
  rw[Tr.get_put,if_neg oz]; exact H.wf b oz⟩
def Heap.set (H:Heap) (b:Nat) (cs:List AV):Heap :=
 ⟨H.next,H.tree.put b ((H.tree.get b).map fun _=>cs),fun x hx=>by
  rw[Tr.get_put]
  split
  ·rename_i e; subst e
   have:=H.wf x hx
   unfold Heap.get at this
   rw[this]; rfl
  ·exact H.wf x hx⟩
def Heap.del (H:Heap) (b:Nat):Heap :=
 ⟨H.next,H.tree.put b none,fun x hx=>by
  rw[Tr.get_put]
  split
  ·rfl
  ·exact H.wf x hx⟩
def Heap.le (H' H:Heap):Prop := ∀ b cs,H'.get b=some cs->H.get b=some cs
theorem Heap.lt_of_get {H:Heap} {b:Nat} {cs:List AV} (h:H.get b=some cs):b<H.next:=by
 rcases Nat.lt_or_ge b H.next with h1 | h1
 ·exact h1
 ·rw[H.wf b h1] at h; cases h
structure GlobOk (I:Nat->Prop) (hp:Array Obj):Prop where
 cells : ∀ g vs,globCells g=some vs->I g /\ ∃ e fz,hp[g]? = some (.cells vs.toArray e fz)
 like : ∀ g Q,globLike g=some Q->I g /\ ∃ vs e fz,hp[g]? = some (.cells vs e fz)/\Q vs
theorem GlobOk.ext {I I' : Nat->Prop} {hp hp' : Array Obj} (h:GlobOk I hp) (hI : ∀ cb,I cb->I' cb) (hk : ∀ cb,I cb->hp'[cb]? = hp[cb]?):GlobOk I' hp' where
 cells g vs hg:=by
  obtain ⟨h1,e,fz,h2⟩:=h.cells g vs hg
  exact ⟨hI g h1,e,fz,by rw[hk g h1]; exact h2⟩
 like g Q hg:=by
  obtain ⟨h1,vs,e,fz,h2,h3⟩:=h.like g Q hg
  exact ⟨hI g h1,vs,e,fz,by rw[hk g h1]; exact h2,h3⟩
def FzOk (n:Nat) (fz:Nat × Nat):Prop := ∀ i,i<=n -> ¬ (fz.1<=i/\i<fz.2)
theorem FzOk.zero (n:Nat):FzOk n (0,0):=fun i _ h=>absurd h.2 (Nat.not_lt_zero _)
structure Rel (ρ : Rho) (I:Nat->Prop) (H:Heap) (hp:Array Obj):Prop where
 live : ∀ b cs,H.get b=some cs->(ρ b=some none/\cs = []) \/ ∃ cb base c e,ρ b=some (some (cb,base)) /\ ¬ I cb/\(∃ fz,FzOk c.size fz/\hp[cb]? = some (.cells c e fz)) /\
  base+cs.length<=c.size /\ ∀ i x,cs[i]? = some x->VR ρ I hp x (c.getD (base+i) Go.undef)
 inj : ∀ b b' cs cs' cb base base',H.get b=some cs->H.get b' = some cs' -> ρ b=some (some (cb,base)) -> ρ b' = some (some (cb,base'))->b=b'
 rng : ∀ b p,ρ b=some p->b<H.next
 at_ : ∀ b cb base,ρ b=some (some (cb,base)) -> ∃ c e fz,hp[cb]? = some (.cells c e fz)
 irng : ∀ cb,I cb->cb<hp.size
 glob:GlobOk I hp
structure Ext (ρ : Rho) (I:Nat->Prop) (w:World) (ρ' : Rho) (I' : Nat->Prop) (w' : World):Prop where
 rho : ∀ b p,ρ b=some p -> ρ' b=some p
 imm : ∀ cb,I cb->I' cb
 size:w.heap.size<=w'.heap.size
 kept : ∀ cb,I cb->w'.heap[cb]? = w.heap[cb]?
 blocks : ∀ (cb:Nat) (c:Array Value) (e:TypeId) (fz:Nat × Nat),w.heap[cb]? = some (Obj.cells c e fz) -> ∃ (c' : Array Value) (fz' : Nat × Nat),w'.heap[cb]? = some (Obj.cells c' e fz')/\c'.size=c.size
 frame : ∀ cb,cb<w.heap.size->(∀ b base,ρ b≠some (some (cb,base)))->w'.heap[cb]? = w.heap[cb]?
 newI : ∀ cb,I' cb->I cb\/w.heap.size<=cb \/ ∃ b base,ρ b=some (some (cb,base))
 newR : ∀ b cb base,ρ' b=some (cb,base) -> ρ b=some (some (cb,base))\/w.heap.size<=cb \/ ∃ b0 base0,ρ b0=some (some (cb,base0))
 os:w'.os=w.os
 tape:w'.tape=w.tape
 output:w'.output=w.output
theorem Ext.refl (ρ : Rho) (I:Nat->Prop) (w:World):Ext ρ I w ρ I w :=
 ⟨fun _ _ h=>h,fun _ h=>h,Nat.le_refl _,fun _ _=>rfl,fun _ c _ fz h=>⟨c,fz,h,rfl⟩,fun _ _ _=>rfl,fun _ h=>.inl h,fun _ _ _ h=>.inl h,rfl,rfl,rfl⟩
theorem Ext.trans {ρ ρ1 ρ2:Rho} {I I1 I2:Nat->Prop} {w w1 w2:World} (h:Ext ρ I w ρ1 I1 w1) (k:Ext ρ1 I1 w1 ρ2 I2 w2):Ext ρ I w ρ2 I2 w2 where
 rho b p hb:=k.rho b p (h.rho b p hb)
 imm cb hb:=k.imm cb (h.imm cb hb)
 size:=Nat.le_trans h.size k.size
 kept cb hb:=(k.kept cb (h.imm cb hb)).trans (h.kept cb hb)
 blocks cb c e fz hb:=by
  obtain ⟨c1,fz1,h1,hs⟩:=h.blocks cb c e fz hb
  obtain ⟨c2,fz2,h2,hs2⟩:=k.blocks cb c1 e fz1 h1
  exact ⟨c2,fz2,h2,hs2.trans hs⟩
 frame cb hlt hno:=by
  rw[k.frame cb (Nat.lt_of_lt_of_le hlt h.size),h.frame cb hlt hno]
  intro b base hb
  rcases h.newR b cb base hb with h1 | h1 | ⟨b0,base0,h1⟩
  ·exact hno _ _ h1
  ·omega
  ·exact hno _ _ h1
 newI cb hb:=by
  rcases k.newI cb hb with h1 | h1 | ⟨b,base,h1⟩
  ·exact h.newI cb h1
  ·exact .inr (.inl (Nat.le_trans h.size h1))
  ·rcases h.newR b cb base h1 with h2 | h2 | h2
   ·exact .inr (.inr ⟨_,_,h2⟩)
   ·exact .inr (.inl h2)
   ·exact .inr (.inr h2)
 newR b cb base hb:=by
  rcases k.newR b cb base hb with h1 | h1 | ⟨b0,base0,h1⟩
  ·exact h.newR b cb base h1
  ·exact .inr (.inl (Nat.le_trans h.size h1))
  ·rcases h.newR b0 cb base0 h1 with h2 | h2 | h2
   ·exact .inr (.inr ⟨_,_,h2⟩)
   ·exact .inr (.inl h2)
   ·exact .inr (.inr h2)
 os:=k.os.trans h.os
 tape:=k.tape.trans h.tape
 output:=k.output.trans h.output
theorem VR.mono' {ρ ρ' : Rho} {I I' : Nat->Prop} {hp hp' : Array Obj} (hρ : ∀ b p,ρ b=some p -> ρ' b=some p) (hI : ∀ cb,I cb->I' cb)
  (hk : ∀ cb,I cb->hp'[cb]? = hp[cb]?) (hb : ∀ (cb:Nat) (c:Array Value) (e:TypeId) (fz:Nat × Nat),hp[cb]? = some (Obj.cells c e fz) -> ∃ (c' : Array Value) (fz' : Nat × Nat),hp'[cb]? = some (Obj.cells c' e fz')/\c'.size=c.size)
  {x:AV} {v:Value} (h:VR ρ I hp x v):VR ρ' I' hp' x v:=by
 induction h with
 | sc v=>exact .sc v
 | top v=>exact .top v
 | ab b=>exact .ab b
 | ai k n=>exact .ai k n
 | ty _ h2 ih=>exact .ty ih (h2.mono' hb)
 | cp _ h2 ih=>exact .cp ih h2
 | ptr h=>exact .ptr (hρ _ _ h)
 | ms h1 h2 h3 h4 =>
  obtain ⟨c',fz',h5,h6⟩:=hb _ _ _ _ h3
  exact .ms (hρ _ _ h1) h2 h5 oz
 | ms0 h=>exact .ms0 (hρ _ _ h)
 | vs0 h=>exact .vs0 h
 | vs h1 hc h2 h3 h4 _ ih=>exact .vs (hI _ h1) hc ((hk _ h1).trans h2) h3 h4 ih
 | ep h1 h2 h3 _ ih=>exact .ep (hI _ h1) ((hk _ h1).trans h2) h3 ih
 | fn h1 h2 _ _ ih1 ih2=>exact .fn h1 h2 ih1 ih2
 | ifc _ ih=>exact .ifc ih
 | agg h1 _ ih=>exact .agg h1 ih
 | tup h1 _ ih=>exact .tup h1 ih
theorem VR.mono {ρ ρ' : Rho} {I I' : Nat->Prop} {w w' : World} (k:Ext ρ I w ρ' I' w') {x:AV} {v:Value} (h:VR ρ I w.heap x v):VR ρ' I' w'.heap x v :=
 h.mono' k.rho k.imm k.kept k.blocks
theorem VRs.mono {ρ ρ' : Rho} {I I' : Nat->Prop} {w w' : World} (k:Ext ρ I w ρ' I' w') {xs:List AV} {ys:Array Value} (h:VRs ρ I w.heap xs ys) :
  VRs ρ' I' w'.heap xs ys:=⟨h.1,fun i x hx=>(h.2 i x hx).mono k⟩
theorem VR.restrict {ρ ρ' : Rho} {I J:Nat->Prop} {hp hq:Array Obj} (hρ : ∀ b p,ρ b=some p -> ρ' b=some p) {x:AV} {u v:Value} (h0:VR ρ J hq x u)
  (h:VR ρ' I hp x v):VR ρ I hp x v:=by
 induction h generalizing u with
 | sc v=>exact .sc v
 | top v=>exact .top v
 | ab b=>exact .ab b
 | ai k n=>exact .ai k n
 | ty _ h2 ih=>cases h0 with | ty k1 k2=>exact .ty (ih k1) h2
 | cp _ h2 ih=>cases h0 with | cp k1 k2=>exact .cp (ih k1) h2
 | ptr h =>
  cases h0 with
  | ptr k=>have:=hρ _ _ k; rw[h] at this; cases this; exact .ptr k
 | ms h1 h2 h3 h4 =>
  cases h0 with
  | ms k1 k2 k3 k4=>have:=hρ _ _ k1; rw[h1] at this; cases this; exact .ms k1 h2 h3 h4
  | ms0 k=>have:=hρ _ _ k; rw[h1] at this; cases this; exact .ms k h2 h3 h4
 | ms0 h1 =>
  cases h0 with
  | ms k1 k2 k3 k4=>exact .ms0 k1
  | ms0 k=>exact .ms0 k
 | vs0 h=>exact .vs0 h
 | vs h1 hc h2 h3 h4 _ ih =>
  cases h0 with
  | vs0=>exact .vs h1 hc h2 h3 h4 (fun i x hx=>by simp at hx)
  | vs k1 kc k2 k3 k4 k5=>exact .vs h1 hc h2 h3 h4 (fun i x hx=>ih i x hx (k5 i x hx))
 | ep h1 h2 h3 _ ih =>
  cases h0 with
  | ep k1 k2 k3 k5=>exact .ep h1 h2 h3 (fun i x hx=>ih i x hx (k5 i x hx))
 | fn h1 h2 _ _ ih1 ih2 =>
  cases h0 with
  | fn k1 k2 k3 k4=>exact .fn h1 h2 (fun i x hx=>ih1 i x hx (k3 i x hx)) (fun i x hx=>ih2 i x hx (k4 i x hx))
 | ifc _ ih=>cases h0 with | ifc k=>exact .ifc (ih k)
 | agg h1 _ ih=>cases h0 with | agg k1 k2=>exact .agg h1 (fun i x hx=>ih i x hx (k2 i x hx))
 | tup h1 _ ih=>cases h0 with | tup k1 k2=>exact .tup h1 (fun i x hx=>ih i x hx (k2 i x hx))
end Go.Fl
end Fl1S
noncomputable section Fl2S
namespace Go.Fl
open Go
theorem Heap.get_alloc (H:Heap) (cs:List AV) (b:Nat):(H.alloc cs).get b=if b=H.next then some cs else H.get b:=Tr.get_put _ _ _ _
theorem Heap.get_set (H:Heap) (b:Nat) (cs:List AV) (x:Nat):(H.set b cs).get x=if x=b then (H.get x).map (fun _=>cs) else H.get x:=by
 show (H.tree.put b _).get x=_
 rw[Tr.get_put]
 split
 ·rename_i e; subst e; rfl
 ·rfl
theorem Heap.get_del (H:Heap) (b x:Nat):(H.del b).get x=if x=b then none else H.get x:=Tr.get_put _ _ _ _
theorem Heap.get_regrow (H:Heap) (b:Nat) (cs:List AV) (x:Nat):((H.del b).alloc cs).get x=if x=H.next then some cs else if x=b then none else H.get x:=by
 rw[Heap.get_alloc,Heap.get_del]; rfl
theorem Heap.next_alloc (H:Heap) (cs:List AV):(H.alloc cs).next=H.next+1:=rfl
theorem Heap.next_set (H:Heap) (b:Nat) (cs:List AV):(H.set b cs).next=H.next:=rfl
theorem Heap.next_del (H:Heap) (b:Nat):(H.del b).next=H.next:=rfl
def Rho.upd (ρ : Rho) (b:Nat) (p:Option (Nat × Nat)):Rho:=fun x=>if x=b then some p else ρ x
theorem Rho.upd_same (ρ : Rho) (b:Nat) (p:Option (Nat × Nat)) : ρ.upd b p b=some p:=by simp[Rho.upd]
theorem Rho.upd_other (ρ : Rho) {b x:Nat} (p:Option (Nat × Nat)) (h:x≠b) : ρ.upd b p x = ρ x:=by simp[Rho.upd,h]
theorem Rel.fresh {ρ : Rho} {I:Nat->Prop} {H:Heap} {hp:Array Obj} (h:Rel ρ I H hp) : ρ H.next=none:=by
 cases e : ρ H.next with
 | none=>rfl
 | some p=>have:=h.rng _ _ e; omega
theorem Rel.lt {ρ : Rho} {I:Nat->Prop} {H:Heap} {hp:Array Obj} (h:Rel ρ I H hp) {b cb base:Nat} (hb : ρ b=some (some (cb,base))):cb<hp.size:=by
 obtain ⟨c,e,fz,hc⟩:=h.at_ _ _ _ hb
 exact (Array.getElem?_eq_some_iff.1 hc).1
theorem Ext.of_push {ρ : Rho} {I:Nat->Prop} {w w1:World} {c0:Array Value} {e0:TypeId} {b:Nat} {p:Option (Nat × Nat)} (hfresh : ρ b=none) (hI : ∀ cb,I cb->cb<w.heap.size)
  (hp : ∀ cb base,p=some (cb,base)->w.heap.size<=cb) {f0:Nat × Nat} (h1:w1.heap=w.heap.push (.cells c0 e0 f0)) (hos:w1.os=w.os) (ht:w1.tape=w.tape) (ho:w1.output=w.output) :
  Ext ρ I w (ρ.upd b p) I w1 where
 rho x q hx:=by
  by_cases e:x=b
  ·subst e; rw[hfresh] at hx; cases hx
  ·rw[Rho.upd_other _ _ e]; exact hx
 imm _ h:=h
 size:=by rw[h1]; simp
 kept cb hcb:=by rw[h1,Array.getElem?_push,if_neg (by have:=hI cb hcb; omega)]
 blocks cb c e fz hcb:=⟨c,fz,by
  have:=(Array.getElem?_eq_some_iff.1 hcb).1
  rw[h1,Array.getElem?_push,if_neg oz]; exact hcb,rfl⟩
 frame cb hlt _:=by rw[h1,Array.getElem?_push,if_neg oz]
 newI _ h:=.inl h
 newR x cb base hx:=by
  by_cases e:x=b
  ·subst e; rw[Rho.upd_same] at hx; cases hx; exact .inr (.inl (hp _ _ rfl))
  ·rw[Rho.upd_other _ _ e] at hx; exact .inl hx
 os:=hos
 tape:=ht
 output:=ho
theorem qhf {ρ : Rho} {I:Nat->Prop} {H:Heap} {w w1:World} (h:Rel ρ I H w.heap) {cs:List AV} {c:Array Value} {e:TypeId} {fz:Nat × Nat} (hf:FzOk c.size fz)
  (h1:w1.heap=w.heap.push (.cells c e fz)) (hos:w1.os=w.os) (ht:w1.tape=w.tape) (ho:w1.output=w.output)
  (hl:cs.length<=c.size) (hv : ∀ i x,cs[i]? = some x->VR ρ I w.heap x (c.getD i Go.undef)) :
  Rel (ρ.upd H.next (some (w.heap.size,0))) I (H.alloc cs) w1.heap/\Ext ρ I w (ρ.upd H.next (some (w.heap.size,0))) I w1:=by
 have hx:Ext ρ I w (ρ.upd H.next (some (w.heap.size,0))) I w1 :=
  Ext.of_push h.fresh h.irng (fun cb base e=>by cases e; exact Nat.le_refl _) h1 hos ht ho
 have hnew:w1.heap[w.heap.size]? = some (.cells c e fz):=by rw[h1]; simp
 have hold : ∀ cb o,w.heap[cb]? = some o->w1.heap[cb]? = some o:=fun cb o hc=>by
  have:=(Array.getElem?_eq_some_iff.1 hc).1
  rw[h1,Array.getElem?_push,if_neg oz]; exact hc
 refine ⟨⟨?_,?_,?_,?_,?_,h.glob.ext hx.imm hx.kept⟩,hx⟩
 ·intro b cs' hb
  rw[Heap.get_alloc] at hb
  split at hb
  ·rename_i e1; subst e1; cases hb
   exact .inr ⟨w.heap.size,0,c,e,Rho.upd_same _ _ _,fun hI=>by have:=h.irng _ hI; omega,⟨fz,hf,hnew⟩,by simpa using hl,
    fun i x hx'=>by simpa using (hv i x hx').mono hx⟩
  ·rename_i e1
   rcases h.live b cs' hb with ⟨h2,h3⟩ | ⟨cb,base,c',e',h2,h3,⟨fz4,hf4,h4⟩,h5,h6⟩
   ·exact .inl ⟨by rw[Rho.upd_other _ _ e1]; exact h2,h3⟩
   ·exact .inr ⟨cb,base,c',e',by rw[Rho.upd_other _ _ e1]; exact h2,h3,⟨fz4,hf4,hold _ _ h4⟩,h5,fun i x hx'=>(h6 i x hx').mono hx⟩
 ·intro b b' cs1 cs2 cb base base' hb hb' hr hr'
  rw[Heap.get_alloc] at hb hb'
  by_cases e1:b=H.next
  ·by_cases e2:b' = H.next
   ·rw[e1,e2]
   ·rw[e1,Rho.upd_same] at hr
    rw[Rho.upd_other _ _ e2] at hr'
    have:=h.lt hr'
    cases hr; omega
  ·by_cases e2:b' = H.next
   ·rw[e2,Rho.upd_same] at hr'
    rw[Rho.upd_other _ _ e1] at hr
    have:=h.lt hr
    cases hr'; omega
   ·rw[Rho.upd_other _ _ e1] at hr
    rw[Rho.upd_other _ _ e2] at hr'
    rw[if_neg e1] at hb
    rw[if_neg e2] at hb'
    exact h.inj _ _ _ _ _ _ _ hb hb' hr hr'
 ·intro b p hb
  by_cases e1:b=H.next
  ·subst e1; show H.next<H.next+1; omega
  ·rw[Rho.upd_other _ _ e1] at hb; have:=h.rng _ _ hb; show b<H.next+1; omega
 ·intro b cb base hb
  by_cases e1:b=H.next
  ·subst e1; rw[Rho.upd_same] at hb; cases hb; exact ⟨_,_,_,hnew⟩
  ·rw[Rho.upd_other _ _ e1] at hb
   obtain ⟨c',e',fz',hc'⟩:=h.at_ _ _ _ hb
   exact ⟨c',e',fz',hold _ _ hc'⟩
 ·intro cb hcb; have:=h.irng _ hcb; have:=hx.size; omega
theorem jQ {ρ : Rho} {I:Nat->Prop} {H:Heap} {w w1:World} (h:Rel ρ I H w.heap) {cs:List AV} {c:Array Value} {e:TypeId}
  (h1:w1.heap=w.heap.push (.cells c e)) (hos:w1.os=w.os) (ht:w1.tape=w.tape) (ho:w1.output=w.output)
  (hl:cs.length<=c.size) (hv : ∀ i x,cs[i]? = some x->VR ρ I w.heap x (c.getD i Go.undef)) :
  Rel (ρ.upd H.next (some (w.heap.size,0))) I (H.alloc cs) w1.heap/\Ext ρ I w (ρ.upd H.next (some (w.heap.size,0))) I w1 :=
 qhf h (FzOk.zero _) h1 hos ht ho hl hv
theorem zL (P:Program) (g o:Nat) (t:TypeId) {n:Nat} {fz:Nat × Nat} (hf:FzOk n fz) : ∀ (vs:List Value) (i:Nat) (cur:Array Value) (w:World),cur.size=n->w.heap[g]? = some (.cells cur t fz)->o+i+vs.length<=cur.size->(∀ v∈vs,v.oneCell' = true) ->
  (storeCells ⟨g,o,none⟩ vs i).run P w = .ok () (w.setRow g (cur.toList.take (o+i)++vs++cur.toList.drop (o+i+vs.length)).toArray)
 | [],i,cur,w,_,hg,_,_=>by
  simp only[storeCells,List.append_nil,List.length_nil,Nat.add_zero,List.take_append_drop,Array.toArray_toList]
  rw[setRow_self w g cur t fz hg]
  rfl
 | v::rest,i,cur,w,hn,hg,hl,h1=>by
  have hi:o+i<cur.size:=by simp at hl; omega
  have hadd:(⟨g,o,none⟩:Addr).add i=⟨g,o+i,none⟩:=by unfold Addr.add; split <;> simp_all
  have hcell:w.cell? ⟨g,o+i,none⟩=some cur[o+i]:=by simp[World.cell?,hg,hi]
  have hfro:w.frozen? ⟨g,o+i,none⟩=false:=by
   have:=hf (o+i) oz
   simp only[World.frozen?,hg]
   rw[Bool.eq_false_iff]
   intro h
   simp only[Bool.and_eq_true,decide_eq_true_eq] at h
   exact this h
  have hst:(store ((⟨g,o,none⟩:Addr).add i) v).run P w = .ok () (w.setRow g (cur.setIfInBounds (o+i) v)):=by
   rw[hadd,run_store P w _ v _ (h1 v (by simp)),hcell]
   simp[hfro,setCell_eq_setRow w g (o+i) cur t fz v hg]
  have ih:=zL P g o t hf rest (i+1) (cur.setIfInBounds (o+i) v) (w.setRow g (cur.setIfInBounds (o+i) v)) (by simpa using hn) (setRow_heap w g cur _ t _ hg) (by simp at hl |-; omega) (fun x hx=>h1 x (by simp[hx]))
  simp only[storeCells,Sem.run_bind,hst,Result.andThen_ok,ih,setRow_setRow]
  congr 3
  have e:=list_seg_step cur.toList (o+i) v rest (by simp at hl |-; omega)
  simpa [Array.toList_setIfInBounds,Nat.add_assoc] using e
theorem Ext.of_write {ρ : Rho} {I:Nat->Prop} {w w1:World} {cb:Nat} {c c' : Array Value} {e:TypeId} {fz:Nat × Nat} (hI : ¬ I cb) (hc:w.heap[cb]? = some (.cells c e fz))
  (h1:w1.heap[cb]? = some (.cells c' e fz)) (hsz:c'.size=c.size) (hs:w1.heap.size=w.heap.size) (hoth : ∀ k,k≠cb->w1.heap[k]? = w.heap[k]?)
  {b0 base0:Nat} (hb0 : ρ b0=some (some (cb,base0))) (hos:w1.os=w.os) (ht:w1.tape=w.tape) (ho:w1.output=w.output):Ext ρ I w ρ I w1 where
 rho _ _ h:=h
 imm _ h:=h
 size:=oz
 kept k hk:=hoth k (fun e=>hI (e ▸ hk))
 blocks k c2 e2 fz2 hk:=by
  by_cases ek:k=cb
  ·subst ek; rw[hc] at hk; cases hk; exact ⟨c',_,h1,hsz⟩
  ·exact ⟨c2,fz2,by rw[hoth k ek]; exact hk,rfl⟩
 frame k _ hno:=hoth k (fun e=>hno b0 base0 (e ▸ hb0))
 newI _ h:=.inl h
 newR _ _ _ h:=.inl h
 os:=hos
 tape:=ht
 output:=ho
theorem qhg {ρ : Rho} {I:Nat->Prop} {H:Heap} {w w1:World} (h:Rel ρ I H w.heap) {b:Nat} {cs cs' : List AV} {cb base:Nat} {c c' : Array Value} {e:TypeId} {fz:Nat × Nat}
  (hb:H.get b=some cs) (hr : ρ b=some (some (cb,base))) (hI : ¬ I cb) (hf:FzOk c.size fz) (hc:w.heap[cb]? = some (.cells c e fz))
  (h1:w1.heap[cb]? = some (.cells c' e fz)) (hsz:c'.size=c.size) (hs:w1.heap.size=w.heap.size) (hoth : ∀ k,k≠cb->w1.heap[k]? = w.heap[k]?)
  (hos:w1.os=w.os) (ht:w1.tape=w.tape) (ho:w1.output=w.output)
  (hl:base+cs'.length<=c.size) (hv : ∀ i x,cs'[i]? = some x->VR ρ I w.heap x (c'.getD (base+i) Go.undef)) :
  Rel ρ I (H.set b cs') w1.heap/\Ext ρ I w ρ I w1:=by
 have hx:Ext ρ I w ρ I w1:=Ext.of_write hI hc h1 hsz hs hoth hr hos ht ho
 refine ⟨⟨?_,?_,?_,?_,?_,h.glob.ext hx.imm hx.kept⟩,hx⟩
 ·intro b' cs2 hb'
  rw[Heap.get_set] at hb'
  by_cases e1:b' = b
  ·subst e1
   rw[if_pos rfl,hb] at hb'
   simp only[Option.map_some,Option.some.injEq] at hb'
   subst hb'
   exact .inr ⟨cb,base,c',e,hr,hI,⟨fz,by rw[hsz]; exact hf,h1⟩,oz,fun i x hx'=>(hv i x hx').mono hx⟩
  ·rw[if_neg e1] at hb'
   rcases h.live b' cs2 hb' with h2 | ⟨cb2,base2,c2,e2,h2,h3,⟨fz4,hf4,h4⟩,h5,h6⟩
   ·exact .inl h2
   ·have hne:cb2≠cb:=fun e=>e1 (h.inj _ _ _ _ _ _ _ hb' hb (e ▸ h2) hr)
    exact .inr ⟨cb2,base2,c2,e2,h2,h3,⟨fz4,hf4,by rw[hoth _ hne]; exact h4⟩,h5,fun i x hx'=>(h6 i x hx').mono hx⟩
 ·intro b1 b2 cs1 cs2 cb' base1 base2 hb1 hb2 hr1 hr2
  have live : ∀ x csx,(H.set b cs').get x=some csx -> ∃ csy,H.get x=some csy:=by
   intro x csx hx'
   rw[Heap.get_set] at hx'
   split at hx'
   ·rename_i e1; subst e1; exact ⟨cs,hb⟩
   ·exact ⟨_,hx'⟩
  obtain ⟨_,k1⟩:=live _ _ hb1
  obtain ⟨_,k2⟩:=live _ _ hb2
  exact h.inj _ _ _ _ _ _ _ k1 k2 hr1 hr2
 ·exact h.rng
 ·intro b' cb' base' hb'
  obtain ⟨c2,e2,fz2,h2⟩:=h.at_ _ _ _ hb'
  obtain ⟨c3,fz3,h3,_⟩:=hx.blocks _ _ _ _ h2
  exact ⟨c3,e2,fz3,h3⟩
 ·intro k hk; have:=h.irng _ hk; omega
theorem Rel.le {ρ : Rho} {I:Nat->Prop} {H H' : Heap} {hp:Array Obj} (h:Rel ρ I H hp) (hle:H'.le H) (hn:H.next<=H'.next):Rel ρ I H' hp where
 live b cs hb:=h.live b cs (hle b cs hb)
 inj b b' cs cs' cb base base' hb hb':=h.inj b b' cs cs' cb base base' (hle _ _ hb) (hle _ _ hb')
 rng b p hb:=by have:=h.rng b p hb; omega
 at_:=h.at_
 irng:=h.irng
 glob:=h.glob
theorem Heap.del_le (H:Heap) (b:Nat):(H.del b).le H:=fun x cs hx=>by
 rw[Heap.get_del] at hx
 split at hx
 ·cases hx
 ·exact hx
theorem qe7 {ρ : Rho} {I:Nat->Prop} {H:Heap} {w w1:World} (h:Rel ρ I H w.heap) {b:Nat} {cs cs' : List AV} {cb base base' : Nat} {c c' : Array Value} {e:TypeId} {fz:Nat × Nat}
  (hb:H.get b=some cs) (hr : ρ b=some (some (cb,base))) (hI : ¬ I cb) (hf:FzOk c.size fz) (hc:w.heap[cb]? = some (.cells c e fz))
  (h1:w1.heap[cb]? = some (.cells c' e fz)) (hsz:c'.size=c.size) (hs:w1.heap.size=w.heap.size) (hoth : ∀ k,k≠cb->w1.heap[k]? = w.heap[k]?)
  (hos:w1.os=w.os) (ht:w1.tape=w.tape) (ho:w1.output=w.output)
  (hl:base' + cs'.length<=c.size) (hv : ∀ i x,cs'[i]? = some x->VR ρ I w.heap x (c'.getD (base' + i) Go.undef)) :
  Rel (ρ.upd H.next (some (cb,base'))) I ((H.del b).alloc cs') w1.heap/\Ext ρ I w (ρ.upd H.next (some (cb,base'))) I w1:=by
 have hx0:Ext ρ I w ρ I w1:=Ext.of_write hI hc h1 hsz hs hoth hr hos ht ho
 have hx1:Ext ρ I w1 (ρ.upd H.next (some (cb,base'))) I w1 :=
  { (Ext.refl ρ I w1) with
    rho:=fun x q hx=>by
     by_cases e:x=H.next
     ·subst e; rw[h.fresh] at hx; cases hx
     ·rw[Rho.upd_other _ _ e]; exact hx
    newR:=fun x cb2 base2 hx=>by
     by_cases e:x=H.next
     ·subst e; rw[Rho.upd_same] at hx; cases hx; exact .inr (.inr ⟨_,_,hr⟩)
     ·rw[Rho.upd_other _ _ e] at hx; exact .inl hx }
 have hx:=hx0.trans hx1
 refine ⟨⟨?_,?_,?_,?_,?_,h.glob.ext hx.imm hx.kept⟩,hx⟩
 ·intro b' cs2 hb'
  rw[Heap.get_regrow] at hb'
  by_cases e1:b' = H.next
  ·rw[if_pos e1] at hb'; cases hb'; subst e1
   exact .inr ⟨cb,base',c',e,Rho.upd_same _ _ _,hI,⟨fz,by rw[hsz]; exact hf,h1⟩,oz,fun i x hx'=>(hv i x hx').mono hx⟩
  ·rw[if_neg e1] at hb'
   split at hb'
   ·cases hb'
   ·rename_i e2
    rcases h.live b' cs2 hb' with h2 | ⟨cb2,base2,c2,e2',h2,h3,⟨fz4,hf4,h4⟩,h5,h6⟩
    ·exact .inl ⟨by rw[Rho.upd_other _ _ e1]; exact h2.1,h2.2⟩
    ·have hne:cb2≠cb:=fun e=>e2 (h.inj _ _ _ _ _ _ _ hb' hb (e ▸ h2) hr)
     exact .inr ⟨cb2,base2,c2,e2',by rw[Rho.upd_other _ _ e1]; exact h2,h3,⟨fz4,hf4,by rw[hoth _ hne]; exact h4⟩,h5,fun i x hx'=>(h6 i x hx').mono hx⟩
 ·intro b1 b2 cs1 cs2 cb' base1 base2 hb1 hb2 hr1 hr2
  rw[Heap.get_regrow] at hb1 hb2
  by_cases e1:b1=H.next
  ·by_cases e2:b2=H.next
   ·rw[e1,e2]
   ·rw[if_neg e2] at hb2
    rw[e1,Rho.upd_same] at hr1
    rw[Rho.upd_other _ _ e2] at hr2
    cases hr1
    split at hb2
    ·cases hb2
    ·rename_i e3; exact absurd (h.inj _ _ _ _ _ _ _ hb2 hb hr2 hr) e3
  ·rw[if_neg e1] at hb1
   rw[Rho.upd_other _ _ e1] at hr1
   split at hb1
   ·cases hb1
   ·rename_i e4
    by_cases e2:b2=H.next
    ·rw[e2,Rho.upd_same] at hr2
     cases hr2
     exact absurd (h.inj _ _ _ _ _ _ _ hb1 hb hr1 hr) e4
    ·rw[if_neg e2] at hb2
     rw[Rho.upd_other _ _ e2] at hr2
     split at hb2
     ·cases hb2
     ·exact h.inj _ _ _ _ _ _ _ hb1 hb2 hr1 hr2
 ·intro b' p hb'
  by_cases e1:b' = H.next
  ·subst e1; show H.next<H.next+1; omega
  ·rw[Rho.upd_other _ _ e1] at hb'; have:=h.rng _ _ hb'; show b' < H.next+1; omega
 ·intro b' cb' base2 hb'
  by_cases e1:b' = H.next
  ·subst e1; rw[Rho.upd_same] at hb'; cases hb'; exact ⟨_,_,_,h1⟩
  ·rw[Rho.upd_other _ _ e1] at hb'
   obtain ⟨c2,e2,fz2,h2⟩:=h.at_ _ _ _ hb'
   obtain ⟨c3,fz3,h3,_⟩:=hx.blocks _ _ _ _ h2
   exact ⟨c3,e2,fz3,h3⟩
 ·intro k hk; have:=h.irng _ hk; omega
theorem qe8 {ρ : Rho} {I:Nat->Prop} {H:Heap} {w:World} (h:Rel ρ I H w.heap) :
  Rel (ρ.upd H.next none) I (H.alloc []) w.heap/\Ext ρ I w (ρ.upd H.next none) I w:=by
 have hx:Ext ρ I w (ρ.upd H.next none) I w :=
  { (Ext.refl ρ I w) with
    rho:=fun x q hx=>by
     by_cases e:x=H.next
     ·subst e; rw[h.fresh] at hx; cases hx
     ·rw[Rho.upd_other _ _ e]; exact hx
    newR:=fun x cb2 base2 hx=>by
     by_cases e:x=H.next
     ·subst e; rw[Rho.upd_same] at hx; cases hx
     ·rw[Rho.upd_other _ _ e] at hx; exact .inl hx }
 refine ⟨⟨?_,?_,?_,?_,?_,h.glob.ext hx.imm hx.kept⟩,hx⟩
 ·intro b cs hb
  rw[Heap.get_alloc] at hb
  by_cases e1:b=H.next
  ·rw[if_pos e1] at hb; cases hb; subst e1; exact .inl ⟨Rho.upd_same _ _ _,rfl⟩
  ·rw[if_neg e1] at hb
   rcases h.live b cs hb with h2 | ⟨cb2,base2,c2,e2',h2,h3,h4,h5,h6⟩
   ·exact .inl ⟨by rw[Rho.upd_other _ _ e1]; exact h2.1,h2.2⟩
   ·exact .inr ⟨cb2,base2,c2,e2',by rw[Rho.upd_other _ _ e1]; exact h2,h3,h4,h5,fun i x hx'=>(h6 i x hx').mono hx⟩
 ·intro b1 b2 cs1 cs2 cb base1 base2 hb1 hb2 hr1 hr2
  rw[Heap.get_alloc] at hb1 hb2
  by_cases e1:b1=H.next
  ·rw[e1,Rho.upd_same] at hr1; cases hr1
  ·by_cases e2:b2=H.next
   ·rw[e2,Rho.upd_same] at hr2; cases hr2
   ·rw[if_neg e1] at hb1
    rw[if_neg e2] at hb2
    rw[Rho.upd_other _ _ e1] at hr1
    rw[Rho.upd_other _ _ e2] at hr2
    exact h.inj _ _ _ _ _ _ _ hb1 hb2 hr1 hr2
 ·intro b' p hb'
  by_cases e1:b' = H.next
  ·subst e1; show H.next<H.next+1; omega
  ·rw[Rho.upd_other _ _ e1] at hb'; have:=h.rng _ _ hb'; show b' < H.next+1; omega
 ·intro b' cb' base2 hb'
  by_cases e1:b' = H.next
  ·subst e1; rw[Rho.upd_same] at hb'; cases hb'
  ·rw[Rho.upd_other _ _ e1] at hb'; exact h.at_ _ _ _ hb'
 ·exact h.irng
end Go.Fl
end Fl2S
