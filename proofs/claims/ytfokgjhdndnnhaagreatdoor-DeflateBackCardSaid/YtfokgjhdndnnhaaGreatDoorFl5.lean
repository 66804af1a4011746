/- The operations on abstract values. -/
import Derived.Test.YtfokgjhdndnnhaaGreatDoorFl2
import Derived.Laws.Entries
set_option linter.unusedVariables false
set_option linter.unusedSimpArgs false
noncomputable section Fl3S
namespace Go.Fl
open Go
def srun {α : Type} (P:Program):Sem α -> Option α
 | .pure a=>some a
 | .program k=>srun P (k P)
 | _=>none
theorem jc {α : Type} {P:Program} {s:Sem α} {a : α} (h:srun P s=some a) (w:World):s.run P w = .ok a w:=by
 induction s with
 | pure b=>simp only[srun,Option.some.injEq] at h; subst h; rfl
 | program k ih=>simp only[srun] at h; simp only[Sem.run]; exact ih P h
 | _=>simp[srun] at h
def ofV:Value->AV
 | .agg cs=>.agg (cs.toList.map .sc)
 | .tuple vs=>.tup (vs.toList.map .sc)
 | v=>.sc v
def scs:List AV->Option (List Value)
 | []=>some []
 | .sc v::r=>(scs r).map (v :: ·)
 | _::_=>none
def conc:AV->Option Value
 | .sc v=>some v
 | .agg cs=>(scs cs).map fun l=>.agg l.toArray
 | .tup cs=>(scs cs).map fun l=>.tuple l.toArray
 | _=>none
section
variable {ρ : Rho} {I:Nat->Prop} {hp:Array Obj}
theorem VRs_sc (l:List Value):VRs ρ I hp (l.map .sc) l.toArray:=by
 refine ⟨by simp,fun i x hx=>?_⟩
 simp only[List.getElem?_map,Option.map_eq_some_iff] at hx
 obtain ⟨v,hv,rfl⟩:=hx
 have:l.toArray.getD i Go.undef=v:=by simp[hv]
 rw[this]; exact .sc v
theorem VR_ofV (v:Value):VR ρ I hp (ofV v) v:=by
 cases v <;> simp only[ofV] <;> first
  | exact .sc _
  | (rename_i cs; exact .agg (by simp) (by have:=(VRs_sc (ρ := ρ) (I:=I) (hp:=hp) cs.toList).2; simpa using this))
  | (rename_i cs; exact .tup (by simp) (by have:=(VRs_sc (ρ := ρ) (I:=I) (hp:=hp) cs.toList).2; simpa using this))
theorem VR.eq_sc {u v:Value} (h:VR ρ I hp (.sc u) v):v=u:=by cases h; rfl
theorem qi6 {cs:List AV} {l:List Value} (h:scs cs=some l) {ys:Array Value} (hs:cs.length=ys.size) (hv : ∀ i x,cs[i]? = some x->VR ρ I hp x (ys.getD i Go.undef)) :
  ys=l.toArray:=by
 have key : ∀ (cs:List AV) (l:List Value),scs cs=some l->cs=l.map .sc:=by
  intro cs
  induction cs with
  | nil=>intro l h; simp[scs] at h; subst h; rfl
  | cons x cs ih =>
   intro l h
   cases x <;> simp[scs] at h
   rename_i v
   obtain ⟨l',h1,rfl⟩:=h
   simp[<- ih _ h1]
 have e:=key _ _ h
 subst e
 apply Array.ext
 ·simpa using hs.symm
 ·intro i h1 h2
  have hi:i<l.length:=by simpa using h2
  have:=(hv i (.sc l[i]) (by simp[List.getElem?_eq_getElem hi])).eq_sc
  simp only[Array.getD,h1,dif_pos] at this
  simpa using this
theorem qa3 {x:AV} {v u:Value} (h:conc x=some v) (hv:VR ρ I hp x u):u=v:=by
 cases x <;> simp only[conc] at h <;> try (cases h; done)
 ·cases h; exact hv.eq_sc
 ·cases hl:scs ‹List AV› with
  | none=>simp[hl] at h
  | some l =>
   simp[hl] at h
   subst h
   cases hv with
   | agg h1 h2=>rw[qi6 hl h1 h2]
 ·cases hl:scs ‹List AV› with
  | none=>simp[hl] at h
  | some l =>
   simp[hl] at h
   subst h
   cases hv with
   | tup h1 h2=>rw[qi6 hl h1 h2]
end
def acells:AV->Option (List AV)
 | .agg cs=>some cs
 | .sc (.agg _) | .top=>none
 | v=>some [v]
theorem qcf {ρ : Rho} {I:Nat->Prop} {hp:Array Obj} {x:AV} {cs:List AV} {v:Value} (h:acells x=some cs) (hv:VR ρ I hp x v):VRs ρ I hp cs v.cells:=by
 have one : ∀ (x:AV) (v:Value),v.cells = #[v]->VR ρ I hp x v->VRs ρ I hp [x] v.cells:=by
  intro x v e h
  rw[e]
  refine ⟨rfl,fun i y hy=>?_⟩
  cases i with
  | zero=>simp at hy; subst hy; exact h
  | succ i=>simp at hy
 cases hv with
 | sc =>
  cases v <;> simp only[acells] at h <;> first | (cases h; done) | (cases h; exact one _ _ rfl (.sc _))
 | top=>simp[acells] at h
 | ab b=>simp only[acells,Option.some.injEq] at h; subst h; exact one _ _ rfl (.ab b)
 | ai k n=>simp only[acells,Option.some.injEq] at h; subst h; exact one _ _ rfl (.ai k n)
 | ty h1 h2 =>
  simp only[acells,Option.some.injEq] at h; subst h
  refine one _ _ ?_ (.ty h1 h2)
  cases v <;> first | rfl | exact h2.elim
 | cp h1 h2 =>
  simp only[acells,Option.some.injEq] at h; subst h
  refine one _ _ ?_ (.cp h1 h2)
  cases v <;> first | rfl | exact h2.elim
 | agg h1 h2=>simp only[acells,Option.some.injEq] at h; subst h; exact ⟨h1,h2⟩
 | ptr h1=>simp only[acells,Option.some.injEq] at h; subst h; exact one _ _ rfl (.ptr h1)
 | ms h1 h2 h3 h4=>simp only[acells,Option.some.injEq] at h; subst h; exact one _ _ rfl (.ms h1 h2 h3 h4)
 | ms0 h1=>simp only[acells,Option.some.injEq] at h; subst h; exact one _ _ rfl (.ms0 h1)
 | vs0 h0=>simp only[acells,Option.some.injEq] at h; subst h; exact one _ _ rfl (.vs0 h0)
 | vs h1 hc h2 h3 h4 h5=>simp only[acells,Option.some.injEq] at h; subst h; exact one _ _ rfl (.vs h1 hc h2 h3 h4 h5)
 | ep h1 h2 h3 h4=>simp only[acells,Option.some.injEq] at h; subst h; exact one _ _ rfl (.ep h1 h2 h3 h4)
 | fn h1 h2 h3 h4=>simp only[acells,Option.some.injEq] at h; subst h; exact one _ _ rfl (.fn h1 h2 h3 h4)
 | ifc h1=>simp only[acells,Option.some.injEq] at h; subst h; exact one _ _ rfl (.ifc h1)
 | tup h1 h2=>simp only[acells,Option.some.injEq] at h; subst h; exact one _ _ rfl (.tup h1 h2)
theorem qc0 {ρ : Rho} {I:Nat->Prop} {hp:Array Obj} {x:AV} {v:Value} (h:x.leaf=true) (hv:VR ρ I hp x v):v.oneCell' = true:=by
 cases hv with
 | sc=>cases v <;> simp_all [AV.leaf,Value.oneCell']
 | ty h1 h2=>cases v <;> first | rfl | exact h2.elim
 | cp h1 h2=>cases v <;> first | rfl | exact h2.elim
 | _=>first | rfl | (simp[AV.leaf] at h)
def splice (cs:List AV) (o:Nat) (new:List AV):List AV:=cs.take o++new++cs.drop (o+new.length)
theorem jI {cs new:List AV} {o:Nat} (h:o+new.length<=cs.length):(splice cs o new).length=cs.length:=by
 simp[splice]; omega
theorem qcg {cs new:List AV} {o:Nat} (h:o+new.length<=cs.length) (i:Nat) :
  (splice cs o new)[i]? = if i<o then cs[i]? else if i<o+new.length then new[i-o]? else cs[i]?:=by
 have ho:o<=cs.length:=oz
 unfold splice
 rw[List.append_assoc,List.getElem?_append]
 simp only[List.length_take,Nat.min_eq_left ho]
 split
 ·rw[List.getElem?_take_of_lt ‹_›]
 ·rw[List.getElem?_append]
  split
  ·rw[if_pos oz]
  ·rw[if_neg oz,List.getElem?_drop]
   congr 1
   omega
section ops
variable (P:Program)
def csz (t:TypeId):Option Nat:=(P.info? t).map (·.size)
def isAggT (t:TypeId):Option Bool :=
 match P.underlying t with
 | some (.struct _) | some (.array _ _)=>some true
 | some _=>some false
 | none=>none
def zeroC (t:TypeId):Option (List AV):=(P.info? t).bind fun i=>i.zero.map fun v=>v.cells.toList.map .sc
theorem zk {t:TypeId} {n:Nat} (h:csz P t=some n) (w:World):(sizeOf t).run P w = .ok n w:=by
 unfold csz at h
 cases hi:P.info? t with
 | none=>simp[hi] at h
 | some i=>simp[hi] at h; subst h; simp[sizeOf,typeInfo,hi]
theorem qag {t:TypeId} {b:Bool} (h:isAggT P t=some b) (w:World):(isAgg t).run P w = .ok b w:=by
 unfold isAggT at h
 unfold isAgg
 cases hu:P.underlying t with
 | none=>simp[hu] at h
 | some d =>
  simp only[Sem.run_bind,run_underlying hu,Result.andThen_ok]
  cases d <;> simp_all
theorem qhj {t:TypeId} {zs:List AV} (h:zeroC P t=some zs) (w:World) : ∃ z,(zeroValue t).run P w = .ok z w/\zs=z.cells.toList.map .sc:=by
 unfold zeroC at h
 cases hi:P.info? t with
 | none=>simp[hi] at h
 | some i =>
  cases hz:i.zero with
  | none=>simp[hi,hz] at h
  | some z=>simp[hi,hz] at h; exact ⟨z,by simp[zeroValue,typeInfo,hi,hz],h.symm⟩
def cellsAt (H:Heap) (p:AV) (n:Nat):Option (List AV) :=
 match p with
 | .ptr b o=>(H.get b).bind fun cs=>if o+n<=cs.length then some ((cs.drop o).take n) else none
 | .ep cells=>if n<=cells.length then some (cells.take n) else none
 | _=>none
def sliceCells (H:Heap) (sz:Nat) (x:AV):Option (Nat × List AV) :=
 match x with
 | .sc (.slice none 0 0)=>some (0,[])
 | .ms b off len sz'=>if sz' = sz then (H.get b).bind fun cs=>if off+len*sz<=cs.length then some (len,(cs.drop off).take (len*sz)) else none else none
 | .vs len sz' cells=>if sz' = sz&&cells.length==len*sz then some (len,cells) else none
 | _=>none
def aload (H:Heap) (t:TypeId) (p:AV):Option AV :=
 (isAggT P t).bind fun g=>if g then (csz P t).bind fun n=>(cellsAt H p n).map .agg else (cellsAt H p 1).bind fun l=>l.head?
def astore (H:Heap) (t:TypeId) (p v:AV):Option Heap :=
 (csz P t).bind fun n=>(acells v).bind fun vs =>
  match p with
  | .ptr b o=>(H.get b).bind fun cs=>if vs.length=n/\o+n<=cs.length/\vs.all AV.leaf=true then some (H.set b (splice cs o vs)) else none
  | _=>none
def ashift (p:AV) (n:Nat):Option AV :=
 match p with
 | .ptr b o=>some (.ptr b (o+n))
 | .ep cells=>if n<=cells.length then some (.ep (cells.drop n)) else none
 | _=>none
def afield (s:TypeId) (p:AV) (f:Nat):Option AV :=
 match P.underlying s with
 | some (.struct fields)=>(fields[f]?).bind fun fl=>(csz P fl.type).bind fun n=>if n=0 then none else ashift p fl.offset
 | _=>none
def aindex (t:TypeId) (x i:AV):Option AV :=
 match P.underlying t,i with
 | some (.array len e),.sc (.int _ n)=>(csz P e).bind fun sz=>if 0<=n/\n<len then ashift x (n.toNat*sz) else none
 | some (.slice e),.sc (.int _ n)=>(csz P e).bind fun sz =>
  match x with
  | .ms b off len sz'=>if sz' = sz/\0<=n/\n<len then some (.ptr b (off+n.toNat*sz)) else none
  | .vs len sz' cells=>if sz' = sz/\0<=n/\n<len/\cells.length=len*sz then some (.ep (cells.drop (n.toNat*sz))) else none
  | _=>none
 | _,_=>none
def apart (t:TypeId) (cs:List AV) (off:Nat):Option AV :=
 (isAggT P t).bind fun g=>if g then (csz P t).bind fun n=>if off+n<=cs.length then some (.agg ((cs.drop off).take n)) else none else cs[off]?
end ops
end Go.Fl
end Fl3S
noncomputable section Fl4S
namespace Go.Fl
open Go
theorem add_plain (b o j:Nat):(⟨b,o,none⟩:Addr).add j=⟨b,o+j,none⟩:=by
 unfold Addr.add; split
 ·rename_i h; subst h; rfl
 ·rfl
section
variable {P:Program} {ρ : Rho} {I:Nat->Prop} {H:Heap} {w:World}
theorem qd0 (hr:Rel ρ I H w.heap) {p:AV} {n:Nat} {cs:List AV} {v:Value} (h:cellsAt H p n=some cs) (hv:VR ρ I w.heap p v) :
  cs.length=n /\ ∃ cb off,v = .pointer (some ⟨cb,off,none⟩) /\ ∃ ys:List Value,ys.length=n/\(∀ j y,ys[j]? = some y->w.cell? ((⟨cb,off,none⟩:Addr).add j)=some y)/\VRs ρ I w.heap cs ys.toArray:=by
 cases hv with
 | ptr hb =>
  rename_i b o cb base
  simp only[cellsAt] at h
  cases hg:H.get b with
  | none=>simp[hg] at h
  | some cs0 =>
   simp only[hg,Option.bind_some] at h
   split at h
   ·rename_i hle
    simp only[Option.some.injEq] at h
    subst h
    rcases hr.live _ _ hg with ⟨h1,_⟩ | ⟨cb',base',c,e,h1,_,⟨fz3,_,h3⟩,h4,h5⟩
    ·rw[hb] at h1; cases h1
    ·rw[hb] at h1; cases h1
     refine ⟨by simp; omega,cb,base+o,rfl,(c.toList.drop (base+o)).take n,by simp; omega,?_,?_⟩
     ·intro j y hy
      rw[add_plain]
      have hj:j<n:=by
       have:=(List.getElem?_eq_some_iff.1 hy).1
       simp at this; omega
      rw[List.getElem?_take_of_lt hj,List.getElem?_drop] at hy
      simp only[World.cell?,h3]
      simpa using hy
     ·refine ⟨by simp; omega,fun i x hx=>?_⟩
      have hi:i<n:=by
       have:=(List.getElem?_eq_some_iff.1 hx).1
       simp at this; omega
      rw[List.getElem?_take_of_lt hi,List.getElem?_drop] at hx
      have:=h5 _ _ hx
      have e1:((c.toList.drop (base+o)).take n).toArray.getD i Go.undef=c.getD (base+(o+i)) Go.undef:=by
       rw[Array.getD_eq_getD_getElem?,Array.getD_eq_getD_getElem?,List.getElem?_toArray,List.getElem?_take_of_lt hi,List.getElem?_drop,Array.getElem?_toList,Nat.add_assoc]
      rw[e1]; exact this
   ·cases h
 | ep h1 h2 h3 h4 =>
  rename_i cb off cells c e fz
  simp only[cellsAt] at h
  split at h
  ·rename_i hle
   simp only[Option.some.injEq] at h
   subst h
   refine ⟨by simp; omega,cb,off,rfl,(c.toList.drop off).take n,by simp; omega,?_,?_⟩
   ·intro j y hy
    rw[add_plain]
    have hj:j<n:=by
     have:=(List.getElem?_eq_some_iff.1 hy).1
     simp at this; omega
    rw[List.getElem?_take_of_lt hj,List.getElem?_drop] at hy
    simp only[World.cell?,h2]
    simpa using hy
   ·refine ⟨by simp; omega,fun i x hx=>?_⟩
    have hi:i<n:=by
     have:=(List.getElem?_eq_some_iff.1 hx).1
     simp at this; omega
    rw[List.getElem?_take_of_lt hi] at hx
    have:=h4 _ _ hx
    have e1:((c.toList.drop off).take n).toArray.getD i Go.undef=c.getD (off+i) Go.undef:=by
     rw[Array.getD_eq_getD_getElem?,Array.getD_eq_getD_getElem?,List.getElem?_toArray,List.getElem?_take_of_lt hi,List.getElem?_drop,Array.getElem?_toList]
    rw[e1]; exact this
  ·cases h
 | _=>simp[cellsAt] at h
theorem qf6 (hr:Rel ρ I H w.heap) {p:AV} {n:Nat} {cs:List AV} {v:Value} (h:cellsAt H p n=some cs) (hv:VR ρ I w.heap p v) :
  cs.length=n /\ ∃ cb off,v = .pointer (some ⟨cb,off,none⟩) /\ ∃ ys:Array Value,(loadCells ⟨cb,off,none⟩ n).run P w = .ok ys w/\VRs ρ I w.heap cs ys:=by
 obtain ⟨h0,cb,off,rfl,ys,h1,h2,h3⟩:=qd0 hr h hv
 refine ⟨h0,cb,off,rfl,ys.toArray,?_,h3⟩
 have:=run_loadCells_list (P:=P) w ⟨cb,off,none⟩ ys h2
 rw[h1] at this
 exact this
theorem qhk (hr:Rel ρ I H w.heap) {t:TypeId} {p x:AV} {v:Value} (h:aload P H t p=some x) (hv:VR ρ I w.heap p v) :
  ∃ u,(Instr.loadAt t v).run P w = .ok u w/\VR ρ I w.heap x u:=by
 unfold aload at h
 cases hg:isAggT P t with
 | none=>simp[hg] at h
 | some g =>
  cases g with
  | true =>
   simp only[hg,Option.bind_some,if_true] at h
   cases hc:csz P t with
   | none=>simp[hc] at h
   | some n =>
    simp only[hc,Option.bind_some,Option.map_eq_some_iff] at h
    obtain ⟨cs,h1,rfl⟩:=h
    obtain ⟨_,cb,off,rfl,ys,h2,h3⟩:=qf6 (P:=P) hr h1 hv
    exact ⟨.agg ys,by simp[Instr.loadAt,Instr.sureAddr,loadVar,qag P hg,zk P hc,h2],.agg h3.1 h3.2⟩
  | false =>
   simp only[hg,Option.bind_some,Bool.false_eq_true,if_false] at h
   cases h1:cellsAt H p 1 with
   | none=>simp[h1] at h
   | some cs =>
    simp only[h1,Option.bind_some] at h
    obtain ⟨_,cb,off,rfl,ys,h2,h3,h4⟩:=qd0 hr h1 hv
    match ys,h2 with
    | [y],_ =>
     have hc:=h3 0 y rfl
     rw[add_plain,Nat.add_zero] at hc
     refine ⟨y,by simp[Instr.loadAt,Instr.sureAddr,loadVar,qag P hg,hc],?_⟩
     cases cs with
     | nil=>simp at h
     | cons z zs =>
      simp at h; subst h
      have:=h4.2 0 z rfl
      simpa using this
theorem qlt (hr:Rel ρ I H w.heap) {t:TypeId} {p x:AV} {v u:Value} {H' : Heap} (h:astore P H t p x=some H') (hv:VR ρ I w.heap p v) (hu:VR ρ I w.heap x u) :
  ∃ w',(Instr.storeAt t v u).run P w = .ok () w' /\ Rel ρ I H' w'.heap/\Ext ρ I w ρ I w':=by
 unfold astore at h
 cases hn:csz P t with
 | none=>simp[hn] at h
 | some n =>
  cases ha:acells x with
  | none=>simp[hn,ha] at h
  | some vs =>
   simp only[hn,ha,Option.bind_some] at h
   have hvs:=qcf ha hu
   cases hv with
   | ptr hb =>
    rename_i b o cb base
    simp only at h
    cases hg:H.get b with
    | none=>simp[hg] at h
    | some cs =>
     simp only[hg,Option.bind_some] at h
     split at h
     ·rename_i hle
      obtain ⟨h1,h2,h3⟩:=hle
      simp only[Option.some.injEq] at h
      subst h
      rcases hr.live _ _ hg with ⟨h4,_⟩ | ⟨cb',base',c,e,h4,h5,⟨fz6,hf6,h6⟩,h7,h8⟩
      ·rw[hb] at h4; cases h4
      ·rw[hb] at h4; cases h4
       have hsz:u.cells.size=n:=by rw[<- hvs.1]; exact h1
       have hone : ∀ y∈u.cells.toList,y.oneCell' = true:=by
        intro y hy
        obtain ⟨i,hi,rfl⟩:=List.getElem_of_mem hy
        have hi' : i<vs.length:=by rw[hvs.1]; simpa using hi
        have:=hvs.2 i vs[i] (List.getElem?_eq_getElem hi')
        have hl:(vs[i]).leaf=true:=List.all_eq_true.1 h3 _ (List.getElem_mem hi')
        have e1:u.cells.getD i Go.undef=u.cells.toList[i]:=by
         have hi2:i<u.cells.size:=by simpa using hi
         simp[hi2]
        rw[e1] at this
        exact qc0 hl this
       have hrun:=zL P cb (base+o) e hf6 u.cells.toList 0 c w rfl h6 (by simp; omega) hone
       let c':=(c.toList.take (base+o)++u.cells.toList++c.toList.drop (base+o+u.cells.toList.length)).toArray
       have hrun' : (storeCells ⟨cb,base+o,none⟩ u.cells.toList 0).run P w = .ok () (w.setRow cb c'):=by simpa [c'] using hrun
       have hc'sz:c'.size=c.size:=by simp[c']; omega
       have key:=qhg (w1:=w.setRow cb c') hr (cs':=splice cs o vs) (c':=c') hg hb h5 hf6 h6 (setRow_heap w cb c c' e fz6 h6) hc'sz (by simp[World.setRow])
        (fun k hk=>setRow_other w cb k c' hk) rfl rfl rfl (by rw[jI oz]; omega) (by
         intro i y hy
         rw[qcg oz] at hy
         have e2:c'.getD (base+i) Go.undef=if i<o then c.getD (base+i) Go.undef else if i<o+n then u.cells.getD (i-o) Go.undef else c.getD (base+i) Go.undef:=by
          simp only[c',Array.getD_eq_getD_getElem?,List.getElem?_toArray]
          have hlen:(c.toList.take (base+o)).length=base+o:=by simp; omega
          rw[List.append_assoc,List.getElem?_append,hlen]
          by_cases hi1:i<o
          ·rw[if_pos oz,if_pos hi1,List.getElem?_take_of_lt oz]; simp
          ·rw[if_neg oz,if_neg hi1,List.getElem?_append]
           have hul:u.cells.toList.length=n:=by simpa using hsz
           rw[hul]
           by_cases hi2:i<o+n
           ·rw[if_pos oz,if_pos hi2]
            have:base+i-(base+o)=i-o:=oz
            rw[this]; simp
           ·rw[if_neg oz,if_neg hi2,List.getElem?_drop]
            have:base+o+n+(base+i-(base+o)-n)=base+i:=oz
            rw[this]; simp
         rw[e2]
         rw[h1] at hy
         by_cases hi1:i<o
         ·rw[if_pos hi1] at hy |-; exact h8 i y hy
         ·rw[if_neg hi1] at hy |-
          by_cases hi2:i<o+n
          ·rw[if_pos hi2] at hy |-; exact hvs.2 _ _ hy
          ·rw[if_neg hi2] at hy |-; exact h8 i y hy)
       refine ⟨w.setRow cb c',?_,key⟩
       simp[Instr.storeAt,Instr.sureAddr,storeVar,zk P hn,hsz,hrun']
     ·cases h
   | _=>simp at h
theorem qe9 {p x:AV} {v:Value} {n:Nat} (h:ashift p n=some x) (hv:VR ρ I w.heap p v) :
  ∃ cb off,v = .pointer (some ⟨cb,off,none⟩)/\VR ρ I w.heap x (.pointer (some ((⟨cb,off,none⟩:Addr).add n))):=by
 cases hv with
 | ptr hb =>
  simp only[ashift,Option.some.injEq] at h
  subst h
  refine ⟨_,_,rfl,?_⟩
  rw[add_plain,Nat.add_assoc]
  exact .ptr hb
 | ep h1 h2 h3 h4 =>
  simp only[ashift] at h
  split at h
  ·simp only[Option.some.injEq] at h
   subst h
   refine ⟨_,_,rfl,?_⟩
   rw[add_plain]
   refine .ep h1 h2 (by simp; omega) (fun i y hy=>?_)
   rw[List.getElem?_drop] at hy
   rw[Nat.add_assoc]
   exact h4 _ _ hy
  ·cases h
 | _=>simp[ashift] at h
theorem qlu {s:TypeId} {p x:AV} {f:Nat} {v:Value} (h:afield P s p f=some x) (hv:VR ρ I w.heap p v) :
  ∃ u,(Instr.fieldAt s v f).run P w = .ok u w/\VR ρ I w.heap x u:=by
 unfold afield at h
 cases hu:P.underlying s with
 | none=>simp[hu] at h
 | some d =>
  cases d <;> simp only[hu] at h <;> try (cases h; done)
  rename_i fields
  cases hf:fields[f]? with
  | none=>simp[hf] at h
  | some fl =>
   cases hn:csz P fl.type with
   | none=>simp[hf,hn] at h
   | some n =>
    simp only[hf,hn,Option.bind_some] at h
    split at h
    ·cases h
    ·rename_i hne
     obtain ⟨cb,off,rfl,hx⟩:=qe9 h hv
     exact ⟨_,by simp[Instr.fieldAt,run_underlying hu,hf,Instr.sureAddr,fieldPlace,zk P hn,hne],hx⟩
theorem qlv {t:TypeId} {p i x:AV} {v j:Value} (h:aindex P t p i=some x) (hv:VR ρ I w.heap p v) (hj:VR ρ I w.heap i j) :
  ∃ u,(Instr.indexAt t v j).run P w = .ok u w/\VR ρ I w.heap x u:=by
 unfold aindex at h
 split at h
 ·rename_i len e k n hu
  cases hj.eq_sc
  cases hn:csz P e with
  | none=>simp[hn] at h
  | some sz =>
   simp only[hn,Option.bind_some] at h
   split at h
   ·rename_i hlt
    obtain ⟨cb,off,rfl,hx⟩:=qe9 h hv
    exact ⟨_,by simp[Instr.indexAt,asIntOf,run_underlying hu,Instr.sureAddr,hlt,zk P hn],hx⟩
   ·cases h
 ·rename_i e k n hu
  cases hj.eq_sc
  cases hn:csz P e with
  | none=>simp[hn] at h
  | some sz =>
   simp only[hn,Option.bind_some] at h
   split at h
   ·rename_i b off len sz'
    split at h
    ·rename_i hlt
     obtain ⟨rfl,h1,h2⟩:=hlt
     simp only[Option.some.injEq] at h
     subst h
     cases hv with
     | ms hb h3 h4 h5 =>
      refine ⟨_,by simp[Instr.indexAt,asIntOf,run_underlying hu,h1,h2,zk P hn]; rfl,?_⟩
      rw[add_plain,Nat.add_assoc]
      exact .ptr hb
     | ms0=>exact absurd h2 oz
    ·cases h
   ·rename_i len sz' cells
    split at h
    ·rename_i hlt
     obtain ⟨rfl,h1,h2,h3⟩:=hlt
     simp only[Option.some.injEq] at h
     subst h
     cases hv with
     | vs hI hcp hb h4 h5 h6 =>
      refine ⟨_,by simp[Instr.indexAt,asIntOf,run_underlying hu,h1,h2,zk P hn]; rfl,?_⟩
      rw[add_plain]
      have hle:n.toNat*sz' <= cells.length:=by
       rw[h4]; exact Nat.mul_le_mul_right _ oz
      refine .ep hI hb (by simp; omega) (fun i y hy=>?_)
      rw[List.getElem?_drop] at hy
      rw[Nat.add_assoc]
      exact h6 _ _ hy
     | vs0=>exact absurd h2 oz
    ·cases h
   ·cases h
 ·cases h
theorem qhl {t:TypeId} {cs:List AV} {ys:Array Value} {off:Nat} {x:AV} (h:apart P t cs off=some x) (hv:VRs ρ I w.heap cs ys) :
  ∃ u,(part t ys off).run P w = .ok u w/\VR ρ I w.heap x u:=by
 unfold apart at h
 cases hg:isAggT P t with
 | none=>simp[hg] at h
 | some g =>
  cases g with
  | true =>
   simp only[hg,Option.bind_some,if_true] at h
   cases hc:csz P t with
   | none=>simp[hc] at h
   | some n =>
    simp only[hc,Option.bind_some] at h
    split at h
    ·rename_i hle
     simp only[Option.some.injEq] at h
     subst h
     refine ⟨.agg (ys.extract off (off+n)),by simp[part,qag P hg,zk P hc],.agg (by have:=hv.1; simp; omega) (fun i y hy=>?_)⟩
     have hi:i<n:=by
      have:=(List.getElem?_eq_some_iff.1 hy).1
      simp at this; omega
     rw[List.getElem?_take_of_lt hi,List.getElem?_drop] at hy
     have:=hv.2 _ _ hy
     have e1:(ys.extract off (off+n)).getD i Go.undef=ys.getD (off+i) Go.undef:=by
      have:=hv.1
      simp only[Array.getD_eq_getD_getElem?]
      rw[Array.getElem?_extract]
      rw[if_pos oz]
     rw[e1]; exact this
    ·cases h
  | false =>
   simp only[hg,Option.bind_some,Bool.false_eq_true,if_false] at h
   have hlt:=(List.getElem?_eq_some_iff.1 h).1
   rw[hv.1] at hlt
   have:=hv.2 _ _ h
   have e1:ys.getD off Go.undef=ys[off]:=by simp[hlt]
   rw[e1] at this
   exact ⟨ys[off],by simp[part,qag P hg,hlt],this⟩
end
end Go.Fl
end Fl4S
noncomputable section Fl5S
namespace Go.Fl
open Go
theorem qhm (off:Nat) : ∀ (xs:List Value) (k:Nat) (arr:Array Value),
  ((xs.zipIdx k).foldl (fun (cs:Array Value) (p:Value × Nat)=>cs.setIfInBounds (off+p.2) p.1) arr).size=arr.size /\
  ∀ i,off+k+xs.length<=arr.size->((xs.zipIdx k).foldl (fun (cs:Array Value) (p:Value × Nat)=>cs.setIfInBounds (off+p.2) p.1) arr).getD i Go.undef =
   if i<off+k then arr.getD i Go.undef else if i<off+k+xs.length then xs.toArray.getD (i-(off+k)) Go.undef else arr.getD i Go.undef
 | [],k,arr=>by
  refine ⟨by simp,fun i hi=>?_⟩
  simp only[List.zipIdx_nil,List.foldl_nil,List.length_nil,Nat.add_zero]
  split
  ·rfl
  ·rfl
 | x::xs,k,arr=>by
  obtain ⟨h1,h2⟩:=qhm off xs (k+1) (arr.setIfInBounds (off+k) x)
  simp only[List.zipIdx_cons,List.foldl_cons]
  refine ⟨by simpa using h1,fun i hi=>?_⟩
  simp only[List.length_cons] at hi
  rw[h2 i (by simp; omega)]
  have hset : ∀ j,(arr.setIfInBounds (off+k) x).getD j Go.undef=if j=off+k then x else arr.getD j Go.undef:=by
   intro j
   simp only[Array.getD_eq_getD_getElem?]
   rw[Array.getElem?_setIfInBounds]
   by_cases e:off+k=j
   ·rw[if_pos e,if_pos e.symm,if_pos oz]; rfl
   ·rw[if_neg e,if_neg oz]
  rw[hset]
  simp only[List.length_cons]
  by_cases c1:i<off+k
  ·rw[if_pos oz,if_neg oz,if_pos c1]
  ·by_cases c2:i=off+k
   ·rw[if_pos oz,if_pos c2,if_neg c1,if_pos oz]
    have:i-(off+k)=0:=oz
    rw[this]; rfl
   ·rw[if_neg oz,if_neg c1]
    by_cases c3:i<off+(k+1)+xs.length
    ·rw[if_pos c3,if_pos oz]
     have:i-(off+k)=(i-(off+(k+1)))+1:=oz
     rw[this]
     simp only[Array.getD_eq_getD_getElem?,List.getElem?_toArray,List.getElem?_cons_succ]
    ·rw[if_neg c3,if_neg c2,if_neg oz]
def afill (place:Nat->Option (Nat × Nat)) (cells:List AV):List (Nat × AV)->Option (List AV)
 | []=>some cells
 | (i,v)::rest =>
  match place i with
  | some (off,size)=>(acells v).bind fun cs=>if cs.length=size/\off+cs.length<=cells.length then afill place (splice cells off cs) rest else none
  | none=>none
section
variable {P:Program} {ρ : Rho} {I:Nat->Prop} {H:Heap} {w:World}
theorem qbo (place:Nat->Option (Nat × Nat)) : ∀ (parts:List (Nat × AV)) (cparts:List (Nat × Value)) (cells:List AV) (arr:Array Value) (r:List AV),
  VRs ρ I w.heap cells arr->parts.length=cparts.length->(∀ (j i:Nat) (x:AV),parts[j]? = some (i,x) -> ∃ v,cparts[j]? = some (i,v)/\VR ρ I w.heap x v) ->
  afill place cells parts=some r -> ∃ r',Instr.fill place arr cparts=some r' /\ VRs ρ I w.heap r r'
 | [],cparts,cells,arr,r,hv,hl,hp,h=>by
  simp only[afill,Option.some.injEq] at h
  subst h
  match cparts,hl with
  | [],_=>exact ⟨arr,rfl,hv⟩
 | (i,x)::parts,cparts,cells,arr,r,hv,hl,hp,h=>by
  match cparts,hl with
  | (i',v)::cparts,hl =>
   obtain ⟨v',hv1,hv2⟩:=hp 0 i x rfl
   simp only[List.getElem?_cons_zero,Option.some.injEq,Prod.mk.injEq] at hv1
   obtain ⟨rfl,rfl⟩:=hv1
   simp only[afill] at h
   cases hpl:place i' with
   | none=>simp[hpl] at h
   | some q =>
    obtain ⟨off,size⟩:=q
    simp only[hpl] at h
    cases ha:acells x with
    | none=>simp[ha] at h
    | some cs =>
     simp only[ha,Option.bind_some] at h
     split at h
     ·rename_i hle
      have hcs:=qcf ha hv2
      have hsz:v.cells.size=size:=by rw[<- hcs.1]; exact hle.1
      have harr:=hv.1
      obtain ⟨f1,f2⟩:=qhm off v.cells.toList 0 arr
      have hnext:=qbo place parts cparts (splice cells off cs) ((v.cells.toList.zipIdx 0).foldl (fun (cs:Array Value) (p:Value × Nat)=>cs.setIfInBounds (off+p.2) p.1) arr) r
       ⟨by rw[jI hle.2,f1]; exact harr,fun k y hy=>by
        rw[qcg hle.2] at hy
        rw[f2 k (by simp only[Array.length_toList]; omega)]
        simp only[Nat.add_zero,Array.length_toList]
        by_cases c1:k<off
        ·rw[if_pos c1] at hy |-; exact hv.2 _ _ hy
        ·rw[if_neg c1] at hy |-
         by_cases c2:k<off+cs.length
         ·rw[if_pos c2] at hy; rw[if_pos (by have:=hcs.1; omega)]; simpa using hcs.2 _ _ hy
         ·rw[if_neg c2] at hy; rw[if_neg (by have:=hcs.1; omega)]; exact hv.2 _ _ hy⟩
       (by simpa using hl) (fun j i x hx=>hp (j+1) i x hx) h
      obtain ⟨r',h1,h2⟩:=hnext
      refine ⟨r',?_,h2⟩
      simp only[Instr.fill,hpl]
      rw[if_neg (by simp only[hsz,ne_eq,not_true_eq_false,decide_false,Bool.false_or,decide_eq_true_eq]; have:=hle.1; have:=hle.2; omega)]
      have e:v.cells.zipIdx.foldl (fun (x:Array Value) (x_1:Value × Nat)=>x.setIfInBounds (off+x_1.2) x_1.1) arr =
        (v.cells.toList.zipIdx 0).foldl (fun (cs:Array Value) (p:Value × Nat)=>cs.setIfInBounds (off+p.2) p.1) arr:=by
       rw[<- Array.foldl_toList,Array.toList_zipIdx]
      rw[<- h1]
      exact congrArg (fun a=>Instr.fill place a cparts) e
     ·cases h
def placesOf (P:Program) (t:TypeId):Option (List (Nat × Nat)) :=
 match P.underlying t with
 | some (.struct fields)=>fields.toList.mapM fun (f:Field)=>(P.info? f.type).map fun i=>(f.offset,i.size)
 | _=>none
def abuild (P:Program) (t:TypeId) (parts:List (Nat × AV)):Option AV :=
 match P.underlying t with
 | some (.array _ e)=>(csz P e).bind fun n=>(zeroC P t).bind fun zs=>(afill (fun i=>some (i*n,n)) zs parts).map .agg
 | some (.struct _)=>(placesOf P t).bind fun places =>
   (zeroC P t).bind fun zs=>(afill (fun i=>places[i]?) zs parts).map .agg
 | _=>none
theorem jg {t:TypeId} {zs:List AV} (h:zeroC P t=some zs) : ∃ i z,P.info? t=some i/\i.zero=some z/\zs=z.cells.toList.map .sc:=by
 unfold zeroC at h
 cases hi:P.info? t with
 | none=>simp[hi] at h
 | some i =>
  cases hz:i.zero with
  | none=>simp[hi,hz] at h
  | some z=>simp[hi,hz] at h; exact ⟨i,z,rfl,hz,h.symm⟩
theorem VRs_scs (c:Array Value):VRs ρ I w.heap (c.toList.map .sc) c:=by
 have:=VRs_sc (ρ := ρ) (I:=I) (hp:=w.heap) c.toList
 simpa using this
theorem qlw {t:TypeId} {parts:List (Nat × AV)} {cparts:List (Nat × Value)} {x:AV} (hl:parts.length=cparts.length)
  (hp : ∀ (j i:Nat) (x:AV),parts[j]? = some (i,x) -> ∃ v,cparts[j]? = some (i,v)/\VR ρ I w.heap x v) (h:abuild P t parts=some x) :
  ∃ u,(Instr.build t cparts.toArray).run P w = .ok u w/\VR ρ I w.heap x u:=by
 have key : ∃ cells,P.built t cparts=some cells /\ ∃ cs,x = .agg cs/\VRs ρ I w.heap cs cells:=by
  unfold abuild at h
  unfold Program.built
  cases hu:P.underlying t with
  | none=>simp[hu] at h
  | some d =>
   cases d <;> simp only[hu] at h <;> try (cases h; done)
   ·rename_i n e
    unfold csz at h
    cases hie:P.info? e with
    | none=>simp[hie] at h
    | some ie =>
     cases hz:zeroC P t with
     | none=>simp[hie,hz] at h
     | some zs =>
      obtain ⟨i,z,h1,h2,rfl⟩:=jg hz
      simp only[hie,Option.map_some,Option.bind_some,hz,Option.map_eq_some_iff] at h
      obtain ⟨cs,h3,rfl⟩:=h
      obtain ⟨r',h4,h5⟩:=qbo _ parts cparts _ z.cells cs (VRs_scs _) hl hp h3
      exact ⟨r',by simp[h1,h2,hie,h4],cs,rfl,h5⟩
   ·rename_i fields
    unfold placesOf at h
    simp only[hu] at h
    cases hpl:fields.toList.mapM (fun f=>(P.info? f.type).map fun i=>(f.offset,i.size)) with
    | none=>simp[hpl] at h
    | some places =>
     cases hz:zeroC P t with
     | none=>simp[hpl,hz] at h
     | some zs =>
      obtain ⟨i,z,h1,h2,rfl⟩:=jg hz
      simp only[hpl,Option.bind_some,hz,Option.map_eq_some_iff] at h
      obtain ⟨cs,h3,rfl⟩:=h
      obtain ⟨r',h4,h5⟩:=qbo _ parts cparts _ z.cells cs (VRs_scs _) hl hp h3
      have h4' : Instr.fill (fun x=>places[x]?) z.cells cparts=some r':=h4
      exact ⟨r',by simp[h1,h2,hpl,h4'],cs,rfl,h5⟩
 obtain ⟨cells,h1,cs,rfl,h2⟩:=key
 exact ⟨.agg cells,run_build w t cparts.toArray cells (by simpa using h1),.agg h2.1 h2.2⟩
def zrep (zs:List AV) (n:Nat):List AV:=(List.range n).map fun i=>(zs[i%zs.length]?).getD .top
theorem qku (z:Value) (hz:z.cells.size≠0) (n:Nat):VRs ρ I w.heap (zrep (z.cells.toList.map .sc) n) ((Array.range n).map fun i=>z.cells[i%z.cells.size]!):=by
 refine ⟨by simp[zrep],fun i x hx=>?_⟩
 simp only[zrep,List.getElem?_map,Option.map_eq_some_iff,List.length_map,Array.length_toList] at hx
 obtain ⟨j,hj,rfl⟩:=hx
 have hlt:=(List.getElem?_eq_some_iff.1 hj).1
 simp only[List.length_range] at hlt
 have hji:j=i:=by
  rw[List.getElem?_range hlt] at hj; simpa using hj.symm
 subst hji
 have hm:j%z.cells.size<z.cells.size:=Nat.mod_lt _ oz
 have e1:((Array.range n).map fun i=>z.cells[i%z.cells.size]!).getD j Go.undef=z.cells[j%z.cells.size]:=by
  simp[Array.getD_eq_getD_getElem?,hlt,hm]
 rw[e1]
 have e2:(z.cells.toList.map AV.sc)[j%z.cells.size]? = some (.sc z.cells[j%z.cells.size]):=by
  simp[hm]
 rw[List.getElem?_map] at e2
 rw[e2]
 exact .sc _
def abuildSlice (P:Program) (H:Heap) (t:TypeId) (len:Nat) (parts:List (Nat × AV)):Option (AV × Heap) :=
 match P.underlying t with
 | some (.slice e)=>(csz P e).bind fun n=>(zeroC P e).bind fun zs =>
  if len*n<=2^24/\zs ≠ [] then (afill (fun i=>some (i*n,n)) (zrep zs (len*n)) parts).map fun cells=>(.ms H.next 0 len n,H.alloc cells) else none
 | _=>none
theorem qd1 (hr:Rel ρ I H w.heap) {t:TypeId} {len:Nat} {parts:List (Nat × AV)} {cparts:List (Nat × Value)} {x:AV} {H' : Heap} (hl:parts.length=cparts.length)
  (hp : ∀ (j i:Nat) (x:AV),parts[j]? = some (i,x) -> ∃ v,cparts[j]? = some (i,v)/\VR ρ I w.heap x v) (h:abuildSlice P H t len parts=some (x,H')) :
  ∃ u w' ρ',(Instr.buildSlice t len cparts.toArray).run P w = .ok u w' /\ VR ρ' I w'.heap x u/\Rel ρ' I H' w'.heap/\Ext ρ I w ρ' I w':=by
 unfold abuildSlice at h
 cases hu:P.underlying t with
 | none=>simp[hu] at h
 | some d =>
  cases d <;> simp only[hu] at h <;> try (cases h; done)
  rename_i e
  cases hn:csz P e with
  | none=>simp[hn] at h
  | some n =>
   cases hz:zeroC P e with
   | none=>simp[hn,hz] at h
   | some zs =>
    obtain ⟨i,z,h1,h2,rfl⟩:=jg hz
    simp only[hn,Option.bind_some,hz] at h
    split at h
    ·rename_i hle
     obtain ⟨hle1,hle2⟩:=hle
     have hz0:z.cells.size≠0:=by
      intro e; apply hle2; have:z.cells = #[]:=Array.size_eq_zero_iff.1 e; simp[this]
     simp only[Option.map_eq_some_iff,Prod.mk.injEq] at h
     obtain ⟨cells,h3,rfl,rfl⟩:=h
     obtain ⟨r',h4,h5⟩:=qbo _ parts cparts _ ((Array.range (len*n)).map fun i=>z.cells[i%z.cells.size]!) cells (qku z hz0 _) hl hp h3
     have hsz:r'.size=cells.length:=h5.1.symm
     have hcl : ∀ (place:Nat->Option (Nat × Nat)) (parts:List (Nat × AV)) (c r:List AV),afill place c parts=some r->r.length=c.length:=by
      intro place parts
      induction parts with
      | nil=>intro c r h; simp[afill] at h; rw[h]
      | cons q parts ih =>
       intro c r h
       obtain ⟨i,v⟩:=q
       simp only[afill] at h
       split at h
       ·cases ha:acells v with
        | none=>simp[ha] at h
        | some cs =>
         simp only[ha,Option.bind_some] at h
         split at h
         ·rename_i hh; rw[ih _ _ h,jI hh.2]
         ·cases h
       ·cases h
     have hcells:cells.length=len*n:=by rw[hcl _ _ _ _ h3]; simp[zrep]
     let w1:World:=w.alloc (.cells r' e)
     obtain ⟨k1,k2⟩:=jQ (w1:=w1) hr (cs:=cells) (c:=r') (e:=e) rfl rfl rfl rfl oz h5.2
     have hnew:w1.heap[w.heap.size]? = some (.cells r' e (0,0)):=by show (w.heap.push _)[w.heap.size]? = _; simp
     refine ⟨.slice (some ⟨w.heap.size,0,none⟩) len len,w1,_,?_,?_,k1,k2⟩
     ·have hbig : ¬ (len*n>2^24):=oz
      by_cases h0:len*n=0
      ·rw[h0] at h4
       have er:Array.range 0 = #[]:=by apply Array.ext <;> simp
       have h4' : Instr.fill (fun i=>some (i*n,n)) #[] cparts=some r':=by rw[er,Array.map_empty] at h4; exact h4
       have e0:(Array.range 0).map (fun (_:Nat)=>(default:Value)) = #[]:=by rw[er,Array.map_empty]
       simp[Instr.buildSlice,run_underlying hu,zk P hn,h0,newRow,e0,h4',w1]
      ·have hz' : (zeroValue e).run P w = .ok z w:=by simp[zeroValue,typeInfo,h1,h2]
       simp[Instr.buildSlice,run_underlying hu,zk P hn,hbig,h0,hz',newRow,h4,w1]
     ·have:=VR.ms (ρ := ρ.upd H.next (some (w.heap.size,0))) (I:=I) (hp:=w1.heap) (b:=H.next) (off:=0) (len:=len) (sz:=n) (cap:=len) (Rho.upd_same _ _ _) (Nat.le_refl _) hnew oz
      simpa using this
    ·cases h
end
end Go.Fl
end Fl5S
