/- The rest of the operations, and all of them together. -/
import Derived.Test.YtfokgjhdndnnhaaGreatDoorFl7
import Derived.IntWalk
set_option linter.unusedVariables false
set_option linter.unusedSimpArgs false
noncomputable section
namespace Go.Fl
open Go
def abound (d:Nat):Option AV->Option Nat
 | none=>some d
 | some (.sc (.int _ n))=>if 0<=n then some n.toNat else none
 | _=>none
def aslice (P:Program) (H:Heap) (t:TypeId) (x:AV) (lo hi mx:Option AV):Option AV :=
 match mx,P.underlying t with
 | none,some (.slice e)=>(csz P e).bind fun sz =>
  match x with
  | .sc (.slice none 0 0)=>(abound 0 lo).bind fun l=>(abound 0 hi).bind fun h=>if l=0/\h=0 then some x else none
  | .ms b off len sz'=>(abound 0 lo).bind fun l=>(abound len hi).bind fun h=>if sz' = sz/\l<=h/\h<=len then some (.ms b (off+l*sz) (h-l) sz) else none
  | .vs len sz' cells=>(abound 0 lo).bind fun l=>(abound len hi).bind fun h =>
    if sz' = sz/\l<=h/\h<=len/\cells.length=len*sz then some (.vs (h-l) sz ((cells.drop (l*sz)).take ((h-l)*sz))) else none
  | _=>none
 | none,some (.array n e)=>(csz P e).bind fun sz =>
  match x with
  | .ptr b o=>(H.get b).bind fun cs=>(abound 0 lo).bind fun l=>(abound n hi).bind fun h=>if l<=h/\h<=n/\o+n*sz<=cs.length then some (.ms b (o+l*sz) (h-l) sz) else none
  | _=>none
 | none,some .string =>
  match x,lo.map conc,hi.map conc with
  | .sc v,none,none=>(srun P (Instr.slice t v none none none)).map ofV
  | .sc v,some (some l),none=>(srun P (Instr.slice t v (some l) none none)).map ofV
  | .sc v,none,some (some h)=>(srun P (Instr.slice t v none (some h) none)).map ofV
  | .sc v,some (some l),some (some h)=>(srun P (Instr.slice t v (some l) (some h) none)).map ofV
  | _,_,_=>none
 | _,_=>none
section
variable {P:Program} {ρ : Rho} {I:Nat->Prop} {H:Heap} {w:World}
def VRo (ρ : Rho) (I:Nat->Prop) (hp:Array Obj):Option AV->Option Value->Prop
 | none,none=>True
 | some x,some v=>VR ρ I hp x v
 | _,_=>False
theorem qak {d n y:Nat} {lo:Option AV} {v:Option Value} {code:BoundsCode} (h:abound d lo=some n) (hv:VRo ρ I w.heap lo v) (hy:n<=y) :
  (match v with | some v=>Instr.sliceBound v y code | none=>pure d:Sem Nat).run P w = .ok n w:=by
 cases lo with
 | none =>
  cases v with
  | none=>simp only[abound,Option.some.injEq] at h; subst h; rfl
  | some v=>exact hv.elim
 | some x =>
  cases v with
  | none=>exact hv.elim
  | some v =>
   unfold abound at h
   split at h
   ·rename_i heq; cases heq
   ·rename_i k m heq
    cases heq
    cases VR.eq_sc hv
    split at h
    ·rename_i hm
     simp only[Option.some.injEq] at h
     subst h
     have h2:m<=(y:Int):=oz
     simp[Instr.sliceBound,asIntOf,hm,h2]
    ·cases h
   ·cases h
theorem zY {isS:Bool} {len cap l h:Nat} {lo hi:Option AV} {vl vh:Option Value} (h1:abound 0 lo=some l) (h2:abound len hi=some h) (hl:VRo ρ I w.heap lo vl) (hh:VRo ρ I w.heap hi vh)
  (hlh:l<=h) (hc:h<=cap):(Instr.sliceBounds isS len cap vl vh none).run P w = .ok (l,h,cap) w:=by
 have e1:=qak (P:=P) (y:=h) (code:=.sliceB) h1 hl hlh
 have e2:=qak (P:=P) (y:=cap) (code:=if isS then .sliceAcap else .sliceAlen) h2 hh hc
 unfold Instr.sliceBounds
 cases vl <;> cases vh <;> simp_all
theorem qma (hr:Rel ρ I H w.heap) {t:TypeId} {x r:AV} {lo hi mx:Option AV} {xv:Value} {vl vh vm:Option Value} (h:aslice P H t x lo hi mx=some r) (hx:VR ρ I w.heap x xv)
  (hl:VRo ρ I w.heap lo vl) (hh:VRo ρ I w.heap hi vh) (hm:VRo ρ I w.heap mx vm) : ∃ u,(Instr.sliceAt t xv vl vh vm).run P w = .ok u w/\VR ρ I w.heap r u:=by
 unfold aslice at h
 split at h
 ·rename_i e hu
  cases vm with
  | some v=>exact hm.elim
  | none =>
  cases hn:csz P e with
  | none=>simp[hn] at h
  | some sz =>
  simp only[hn,Option.bind_some] at h
  have hat:Instr.sliceAt t xv vl vh none=(do match <- underlying t with
   | .array n elem=>do
    let a <- Instr.sureAddr xv
    let (l,h,m) <- Instr.sliceBounds false n n vl vh none
    let size <- sizeOf elem
    pure (.slice (some (if m=l then a else a.add (l*size))) (h-l) (m-l))
   | _=>Instr.slice t xv vl vh none):=rfl
  split at h
  ·cases hx.eq_sc
   cases h1:abound 0 lo with
   | none=>simp[h1] at h
   | some l =>
   cases h2:abound 0 hi with
   | none=>simp[h1,h2] at h
   | some h' =>
   simp only[h1,h2,Option.bind_some] at h
   split at h
   ·rename_i hc
    obtain ⟨rfl,rfl⟩:=hc
    simp only[Option.some.injEq] at h
    subst h
    have hb:=zY (P:=P) (isS:=true) (cap:=0) h1 h2 hl hh (Nat.le_refl _) (Nat.le_refl _)
    exact ⟨_,by simp[Instr.sliceAt,run_underlying hu,Instr.slice,hb,zk P hn],.sc _⟩
   ·cases h
  ·rename_i b off len sz'
   cases h1:abound 0 lo with
   | none=>simp[h1] at h
   | some l =>
   cases h2:abound len hi with
   | none=>simp[h1,h2] at h
   | some h' =>
   simp only[h1,h2,Option.bind_some] at h
   split at h
   ·rename_i hc
    obtain ⟨rfl,hc1,hc2⟩:=hc
    simp only[Option.some.injEq] at h
    subst h
    rcases hx.ms_inv with ⟨cb,base,cap,c0,e0,fz0,rfl,hb,k1,k2,k3⟩ | ⟨rfl,a,p,rfl,hb⟩
    ·have hbn:=zY (P:=P) (isS:=true) (cap:=cap) h1 h2 hl hh hc1 oz
     by_cases hcl:cap=l
     ·have h0:h' - l=0:=oz
      subst hcl
      refine ⟨.slice (some ⟨cb,base+off,none⟩) 0 0,by simp[Instr.sliceAt,run_underlying hu,Instr.slice,hbn,zk P hn,h0],?_⟩
      rw[h0]; exact .ms0 hb
     ·refine ⟨.slice (some ⟨cb,base+(off+l*sz'),none⟩) (h' - l) (cap-l),by simp[Instr.sliceAt,run_underlying hu,Instr.slice,hbn,zk P hn,hcl,add_plain,Nat.add_assoc],?_⟩
      have hmul:(cap-l)*sz' + l*sz' = cap*sz':=by rw[<- Nat.add_mul]; congr 1; omega
      exact .ms hb oz k2 oz
    ·have hbn:=zY (P:=P) (isS:=true) (cap:=0) h1 h2 hl hh hc1 oz
     have hl0:l=0:=oz
     have hh0:h' = 0:=oz
     subst hl0; subst hh0
     exact ⟨.slice a 0 0,by simp[Instr.sliceAt,run_underlying hu,Instr.slice,hbn,zk P hn],.ms0 hb⟩
   ·cases h
  ·rename_i len sz' cells
   cases h1:abound 0 lo with
   | none=>simp[h1] at h
   | some l =>
   cases h2:abound len hi with
   | none=>simp[h1,h2] at h
   | some h' =>
   simp only[h1,h2,Option.bind_some] at h
   split at h
   ·rename_i hc
    obtain ⟨rfl,hc1,hc2,hc3⟩:=hc
    simp only[Option.some.injEq] at h
    subst h
    have hend:(h' - l)*sz' + l*sz' <= cells.length:=by rw[hc3,<- Nat.add_mul]; exact Nat.mul_le_mul_right _ oz
    cases hx with
    | vs0 h0 =>
     rename_i cap a
     have hbn:=zY (P:=P) (isS:=true) (cap:=cap) h1 h2 hl hh hc1 oz
     have hl0:l=0:=oz
     have hh0:h' = 0:=oz
     subst hl0; subst hh0
     refine ⟨.slice (if cap=0 then a else a.map (·.add 0)) 0 cap,by simp[Instr.sliceAt,run_underlying hu,Instr.slice,hbn,zk P hn],?_⟩
     simp only[Nat.zero_mul,List.drop_nil,List.take_nil,Nat.sub_self]
     refine .vs0 (fun hn=>?_)
     split at hn
     ·exact h0 hn
     ·cases a with
      | none=>exact h0 rfl
      | some a=>cases hn
    | vs hI hcp hb k4 k5 k6 =>
     rename_i cb off cap c0 e0 fz0
     have hbn:=zY (P:=P) (isS:=true) (cap:=cap) h1 h2 hl hh hc1 oz
     by_cases hcl:cap=l
     ·have h0:h' - l=0:=oz
      subst hcl
      refine ⟨.slice (some ⟨cb,off,none⟩) 0 0,by simp[Instr.sliceAt,run_underlying hu,Instr.slice,hbn,zk P hn,h0],?_⟩
      rw[h0]; simp only[Nat.zero_mul,List.take_zero]; exact .vs0 (fun h=>by cases h)
     ·refine ⟨.slice (some ⟨cb,off+l*sz',none⟩) (h' - l) (cap-l),by simp[Instr.sliceAt,run_underlying hu,Instr.slice,hbn,zk P hn,hcl,add_plain],?_⟩
      refine .vs hI oz hb (by simp; omega) (by simp; omega) (fun i y hy=>?_)
      have hi:i<(h' - l)*sz':=by
       have:=(List.getElem?_eq_some_iff.1 hy).1
       simp at this; omega
      rw[List.getElem?_take_of_lt hi,List.getElem?_drop] at hy
      rw[Nat.add_assoc]
      exact k6 _ _ hy
   ·cases h
  ·cases h
 ·rename_i n e hu
  cases vm with
  | some v=>exact hm.elim
  | none =>
  cases hn:csz P e with
  | none=>simp[hn] at h
  | some sz =>
  simp only[hn,Option.bind_some] at h
  split at h
  ·rename_i b o
   cases hg:H.get b with
   | none=>simp[hg] at h
   | some cs =>
   cases h1:abound 0 lo with
   | none=>simp[hg,h1] at h
   | some l =>
   cases h2:abound n hi with
   | none=>simp[hg,h1,h2] at h
   | some h' =>
   simp only[hg,h1,h2,Option.bind_some] at h
   split at h
   ·rename_i hc
    obtain ⟨hc1,hc2,hc3⟩:=hc
    simp only[Option.some.injEq] at h
    subst h
    cases hx with
    | ptr hb =>
     rename_i cb base
     have hbn:=zY (P:=P) (isS:=false) (cap:=n) h1 h2 hl hh hc1 hc2
     rcases hr.live _ _ hg with ⟨h4,_⟩ | ⟨cb',base',c,e',h4,h5,⟨fz6,hf6,h6⟩,h7,h8⟩
     ·rw[hb] at h4; cases h4
     ·rw[hb] at h4
      simp only[Option.some.injEq,Prod.mk.injEq] at h4
      obtain ⟨rfl,rfl⟩:=h4
      by_cases hcl:n=l
      ·have h0:h' - l=0:=oz
       subst hcl
       refine ⟨.slice (some ⟨cb,base+o,none⟩) 0 0,by simp[Instr.sliceAt,run_underlying hu,Instr.sureAddr,hbn,zk P hn,h0],?_⟩
       rw[h0]; exact .ms0 hb
      ·refine ⟨.slice (some ⟨cb,base+(o+l*sz),none⟩) (h' - l) (n-l),by simp[Instr.sliceAt,run_underlying hu,Instr.sureAddr,hbn,zk P hn,hcl,add_plain,Nat.add_assoc],?_⟩
       have hmul:(n-l)*sz+l*sz=n*sz:=by rw[<- Nat.add_mul]; congr 1; omega
       exact .ms hb oz h6 oz
   ·cases h
  ·cases h
 ·rename_i hu
  cases vm with
  | some v=>exact hm.elim
  | none =>
  have hat : ∀ a b,Instr.sliceAt t xv a b none=(do match <- underlying t with
   | .array n elem=>do
    let a' <- Instr.sureAddr xv
    let (l,h,m) <- Instr.sliceBounds false n n a b none
    let size <- sizeOf elem
    pure (.slice (some (if m=l then a' else a'.add (l*size))) (h-l) (m-l))
   | _=>Instr.slice t xv a b none):=fun _ _=>rfl
  have hrun : ∀ a b,(Instr.sliceAt t xv a b none).run P w=(Instr.slice t xv a b none).run P w:=by
   intro a b; rw[hat]; simp only[Sem.run_bind,run_underlying hu,Result.andThen_ok]
  rw[hrun]
  have ho : ∀ {q:Option AV} {u:Option Value} {c:Option Value},q.map conc=some c -> ∀ y,c=some y->VRo ρ I w.heap q u->u=some y:=by
   intro q u c h1 y h2 h3
   cases q with
   | none=>simp at h1
   | some q =>
    cases u with
    | none=>exact h3.elim
    | some u =>
     simp only[Option.map_some,Option.some.injEq] at h1
     rw[h2] at h1
     rw[qa3 h1 h3]
  have hno : ∀ {q:Option AV} {u:Option Value},q.map conc=none->VRo ρ I w.heap q u->u=none:=by
   intro q u h1 h3
   cases q with
   | none=>cases u with | none=>rfl | some u=>exact h3.elim
   | some q=>simp at h1
  split at h
  ·rename_i v hq1 hq2
   cases hx.eq_sc
   rw[hno hq1 hl,hno hq2 hh]
   simp only[Option.map_eq_some_iff] at h
   obtain ⟨u,h1,rfl⟩:=h
   exact ⟨u,jc h1 w,VR_ofV u⟩
  ·rename_i v l hq1 hq2
   cases hx.eq_sc
   rw[ho hq1 l rfl hl,hno hq2 hh]
   simp only[Option.map_eq_some_iff] at h
   obtain ⟨u,h1,rfl⟩:=h
   exact ⟨u,jc h1 w,VR_ofV u⟩
  ·rename_i v l hq1 hq2
   cases hx.eq_sc
   rw[hno hq1 hl,ho hq2 l rfl hh]
   simp only[Option.map_eq_some_iff] at h
   obtain ⟨u,h1,rfl⟩:=h
   exact ⟨u,jc h1 w,VR_ofV u⟩
  ·rename_i v l l2 hq1 hq2
   cases hx.eq_sc
   rw[ho hq1 l rfl hl,ho hq2 l2 rfl hh]
   simp only[Option.map_eq_some_iff] at h
   obtain ⟨u,h1,rfl⟩:=h
   exact ⟨u,jc h1 w,VR_ofV u⟩
  ·cases h
 ·cases h
def amake (P:Program) (H:Heap) (t:TypeId) (l c:AV):Option (AV × Heap) :=
 match P.underlying t,l,c with
 | some (.slice e),.sc (.int _ n),.sc (.int _ m)=>(csz P e).bind fun sz=>(byt P e).bind fun bt=>(zeroC P e).bind fun zs =>
  if 0<=n/\n<=m/\m*(bt:Nat)<=140737488355328/\m<=140737488355328/\zs.length=sz/\zs ≠ [] then
   some (.ms H.next 0 n.toNat sz,H.alloc (zrep zs (n.toNat*sz))) else none
 | _,_,_=>none
theorem qn4 (hr:Rel ρ I H w.heap) {t:TypeId} {l c r:AV} {lv cv:Value} {H' : Heap} (h:amake P H t l c=some (r,H')) (hl:VR ρ I w.heap l lv) (hc:VR ρ I w.heap c cv) :
  ∃ v w' ρ',(Instr.makeSlice t lv cv).run P w = .ok v w' /\ VR ρ' I w'.heap r v/\Rel ρ' I H' w'.heap/\Ext ρ I w ρ' I w':=by
 unfold amake at h
 split at h
 case h_2=>cases h
 rename_i e k n k' m hu
 cases hl.eq_sc
 cases hc.eq_sc
 cases hcs:csz P e with
 | none=>simp[hcs] at h
 | some sz =>
 cases hby:byt P e with
 | none=>simp[hcs,hby] at h
 | some bt =>
 obtain ⟨i,hi,rfl,rfl⟩:=qf9 hcs hby
 cases hz:zeroC P e with
 | none=>simp[hcs,hby,hz] at h
 | some zs =>
 obtain ⟨i',z,hi',hz',rfl⟩:=jg hz
 rw[hi] at hi'; cases hi'
 simp only[hcs,hby,hz,Option.bind_some] at h
 split at h
 case isFalse=>cases h
 rename_i hcond
 obtain ⟨h1,h2,h3,h4,h5,h6⟩:=hcond
 simp only[Option.some.injEq,Prod.mk.injEq] at h
 obtain ⟨rfl,rfl⟩:=h
 have hzs:z.cells.size=i.size:=by simpa using h5
 have hz0:z.cells.size≠0:=by
  intro e; apply h6; have:z.cells = #[]:=Array.size_eq_zero_iff.1 e; simp[this]
 have hwn:IntKind.i64.wrap n=n:=IntWalk.i64_in n oz
 have hwm:IntKind.i64.wrap m=m:=IntWalk.i64_in m oz
 have h7 : ¬ m<0:=oz
 have h8 : ¬ ((281474976710656:Int)<i.bytes*m):=by rw[Int.mul_comm]; omega
 have h9 : ¬ n<0:=oz
 have h10 : ¬ m<n:=oz
 let row:Array Value:=(Array.range (m.toNat*i.size)).map fun j=>z.cells[j%z.cells.size]!
 have hbig:=qku (ρ := ρ) (I:=I) (w:=w) z hz0 (m.toNat*i.size)
 have hnm:n.toNat*i.size<=m.toNat*i.size:=Nat.mul_le_mul_right _ oz
 obtain ⟨k1,k2⟩:=jQ (w1:=w.alloc (.cells row e)) hr (cs:=zrep (z.cells.toList.map .sc) (n.toNat*i.size)) (c:=row) (e:=e) rfl rfl rfl rfl (by simp[zrep,row]; exact hnm) (by
  intro j x hx
  have hj:j<n.toNat*i.size:=by
   have:=(List.getElem?_eq_some_iff.1 hx).1
   simpa [zrep] using this
  refine hbig.2 j x ?_
  simp only[zrep,List.getElem?_map] at hx |-
  rw[List.getElem?_range hj] at hx
  rw[List.getElem?_range oz]
  exact hx)
 refine ⟨.slice (some ⟨w.heap.size,0,none⟩) n.toNat m.toNat,w.alloc (.cells row e),_,?_,?_,k1,k2⟩
 ·have hrow:(Array.range (m.toNat*i.size)).map (fun j=>z.cells[j%z.cells.size]!)=row:=rfl
  by_cases h0:m.toNat*i.size=0
  ·have er:Array.range 0 = #[]:=by apply Array.ext <;> simp
   have e0:row = #[]:=by simp only[row,h0,er,Array.map_empty]
   rw[e0]
   have e1:(Array.range 0).map (fun (_:Nat)=>(default:Value)) = #[]:=by rw[er,Array.map_empty]
   simp[Instr.makeSlice,run_underlying hu,asInt,asIntOf,typeInfo,hi,hwn,hwm,h7,h8,h9,h10,sizeOf,h0,newRow,e1]
  ·simp[Instr.makeSlice,run_underlying hu,asInt,asIntOf,typeInfo,hi,hwn,hwm,h7,h8,h9,h10,sizeOf,h0,zeroValue,hz',newRow,row]
 ·have hnew:(w.alloc (.cells row e)).heap[w.heap.size]? = some (.cells row e (0,0)):=by show (w.heap.push _)[w.heap.size]? = _; simp
  have:=VR.ms (ρ := ρ.upd H.next (some (w.heap.size,0))) (I:=I) (hp:=(w.alloc (.cells row e)).heap) (b:=H.next) (off:=0) (len:=n.toNat) (sz:=i.size) (cap:=m.toNat) (Rho.upd_same _ _ _) oz hnew (by simp[row])
  exact this
end
end Go.Fl
