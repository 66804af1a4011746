/- Slices: reading, growing, cutting, copying. -/
import Derived.Test.YtfokgjhdndnnhaaGreatDoorFl5
set_option linter.unusedVariables false
set_option linter.unusedSimpArgs false
noncomputable section Fl6S
namespace Go.Fl
open Go
section
variable {P:Program} {ρ : Rho} {I:Nat->Prop} {H:Heap} {w:World}
theorem zV (hr:Rel ρ I H w.heap) {sz n:Nat} {x:AV} {cs:List AV} {v:Value} (h:sliceCells H sz x=some (n,cs)) (hv:VR ρ I w.heap x v) :
  cs.length=n*sz/\(Builtin.lenOf v).run P w = .ok n w/\(∃ a cap,v = .slice a n cap) /\
  ∀ m,m<=n -> ∃ ys:Array Value,(Builtin.firstCells sz m v).run P w = .ok ys w/\VRs ρ I w.heap (cs.take (m*sz)) ys:=by
 have none0 : ∀ (a:Option Addr) (cap:Nat),(Builtin.firstCells sz 0 (.slice a 0 cap)).run P w = .ok #[] w:=by
  intro a cap
  cases a with
  | none=>simp[Builtin.firstCells]
  | some a=>exact run_firstCells_some (P:=P) w sz 0 a 0 cap [] (by simp) (by simp)
 have row : ∀ (cb off len cap:Nat) (c:Array Value) (e:TypeId) (fz:Nat × Nat) (cells:List AV),w.heap[cb]? = some (.cells c e fz)->cells.length=len*sz->off+cells.length<=c.size ->
   (∀ i x,cells[i]? = some x->VR ρ I w.heap x (c.getD (off+i) Go.undef)) -> ∀ m,m<=len ->
   ∃ ys:Array Value,(Builtin.firstCells sz m (.slice (some ⟨cb,off,none⟩) len cap)).run P w = .ok ys w/\VRs ρ I w.heap (cells.take (m*sz)) ys:=by
  intro cb off len cap c e fz cells hb hl ho hc m hm
  have hm' : m*sz<=cells.length:=by rw[hl]; exact Nat.mul_le_mul_right _ hm
  refine ⟨((c.toList.drop off).take (m*sz)).toArray,?_,?_⟩
  ·refine run_firstCells_some (P:=P) w sz m ⟨cb,off,none⟩ len cap _ (by simp; omega) ?_
   intro j y hy
   rw[add_plain]
   have hj:j<m*sz:=by
    have:=(List.getElem?_eq_some_iff.1 hy).1
    simp at this; omega
   rw[List.getElem?_take_of_lt hj,List.getElem?_drop] at hy
   simp only[World.cell?,hb]
   simpa using hy
  ·refine ⟨by simp; omega,fun i x hx=>?_⟩
   have hi:i<m*sz:=by
    have:=(List.getElem?_eq_some_iff.1 hx).1
    simp at this; omega
   rw[List.getElem?_take_of_lt hi] at hx
   have:=hc _ _ hx
   have e1:((c.toList.drop off).take (m*sz)).toArray.getD i Go.undef=c.getD (off+i) Go.undef:=by
    rw[Array.getD_eq_getD_getElem?,Array.getD_eq_getD_getElem?,List.getElem?_toArray,List.getElem?_take_of_lt hi,List.getElem?_drop,Array.getElem?_toList]
   rw[e1]; exact this
 cases hv with
 | sc =>
  unfold sliceCells at h
  split at h
  case h_2=>rename_i heq; cases heq
  case h_3=>rename_i heq; cases heq
  case h_4=>cases h
  rename_i heq
  cases heq
  simp only[Option.some.injEq,Prod.mk.injEq] at h
  obtain ⟨rfl,rfl⟩:=h
  refine ⟨by simp,by simp[Builtin.lenOf],⟨_,_,rfl⟩,fun m hm=>?_⟩
  have:m=0:=oz
  subst this
  exact ⟨#[],none0 none 0,by simp[VRs]⟩
 | ms hb h1 h2 h3 =>
  rename_i b off len sz' cb base cap c0 e0 fz0
  simp only[sliceCells] at h
  split at h
  ·rename_i hsz; subst hsz
   cases hg:H.get b with
   | none=>simp[hg] at h
   | some cs0 =>
    simp only[hg,Option.bind_some] at h
    split at h
    ·rename_i hle
     simp only[Option.some.injEq,Prod.mk.injEq] at h
     obtain ⟨rfl,rfl⟩:=h
     rcases hr.live _ _ hg with ⟨h4,_⟩ | ⟨cb',base',c,e,h4,_,⟨fz6,_,h6⟩,h7,h8⟩
     ·rw[hb] at h4; cases h4
     ·rw[hb] at h4; cases h4
      refine ⟨by simp; omega,by simp[Builtin.lenOf],⟨_,_,rfl⟩,?_⟩
      refine row cb (base+off) len cap c e fz6 _ h6 (by simp; omega) (by simp; omega) (fun i x hx=>?_)
      have hi:i<len*sz':=by
       have:=(List.getElem?_eq_some_iff.1 hx).1
       simp at this; omega
      rw[List.getElem?_take_of_lt hi,List.getElem?_drop] at hx
      have:=h8 _ _ hx
      rw[Nat.add_assoc]; exact this
    ·cases h
  ·cases h
 | ms0 hb =>
  rename_i b off sz' p a
  simp only[sliceCells] at h
  split at h
  ·rename_i hsz; subst hsz
   cases hg:H.get b with
   | none=>simp[hg] at h
   | some cs0 =>
    simp only[hg,Option.bind_some] at h
    split at h
    ·simp only[Option.some.injEq,Prod.mk.injEq] at h
     obtain ⟨rfl,rfl⟩:=h
     refine ⟨by simp,by simp[Builtin.lenOf],⟨_,_,rfl⟩,fun m hm=>?_⟩
     have:m=0:=oz
     subst this
     exact ⟨#[],none0 _ _,by simp[VRs]⟩
    ·cases h
  ·cases h
 | vs0 =>
  simp only[sliceCells] at h
  split at h
  ·simp only[Option.some.injEq,Prod.mk.injEq] at h
   obtain ⟨rfl,rfl⟩:=h
   refine ⟨by simp,by simp[Builtin.lenOf],⟨_,_,rfl⟩,fun m hm=>?_⟩
   have:m=0:=oz
   subst this
   exact ⟨#[],none0 _ _,by simp[VRs]⟩
  ·cases h
 | vs hI hcp hb h4 h5 h6 =>
  simp only[sliceCells] at h
  split at h
  ·rename_i hcond
   simp only[Option.some.injEq,Prod.mk.injEq] at h
   obtain ⟨rfl,rfl⟩:=h
   simp only[Bool.and_eq_true,decide_eq_true_eq,beq_iff_eq] at hcond
   obtain ⟨rfl,hc2⟩:=hcond
   refine ⟨h4,by simp[Builtin.lenOf],⟨_,_,rfl⟩,?_⟩
   exact row _ _ _ _ _ _ _ _ hb h4 h5 h6
  ·cases h
 | _=>simp[sliceCells] at h
def source (P:Program) (H:Heap) (sz:Nat) (u:TypeId) (x:AV):Option (Nat × List AV) :=
 match P.underlying u,x with
 | some .string,.sc (.string s)=>if sz=1 then some (s.size,s.data.toList.map fun b=>.sc (.int .u8 b.toNat)) else none
 | some (.slice _),x=>sliceCells H sz x
 | _,_=>none
theorem qcj (hr:Rel ρ I H w.heap) {sz n:Nat} {u:TypeId} {x:AV} {cs:List AV} {v:Value} (h:source P H sz u x=some (n,cs)) (hv:VR ρ I w.heap x v) :
  cs.length=n*sz/\(P.underlying u=some .string \/ ∃ e',P.underlying u=some (.slice e'))/\(Builtin.lenOf v).run P w = .ok n w /\
  ∃ ys:Array Value,(Builtin.firstCells sz n v).run P w = .ok ys w/\VRs ρ I w.heap cs ys:=by
 unfold source at h
 split at h
 ·rename_i s hu
  split at h
  ·rename_i hsz; subst hsz
   simp only[Option.some.injEq,Prod.mk.injEq] at h
   obtain ⟨rfl,rfl⟩:=h
   cases hv.eq_sc
   refine ⟨by simp only[List.length_map,Array.length_toList,Nat.mul_one]; rfl,.inl hu,by simp[Builtin.lenOf],(s.data.toList.map fun (b:UInt8)=>Value.int .u8 (b.toNat:Int)).toArray,?_,?_⟩
   ·have e:(s.extract 0 s.size).data=s.data:=by
     simp only[ByteArray.data_extract]
     exact Array.extract_size
    have e2:s.data.map (fun (b:UInt8)=>Value.int .u8 (b.toNat:Int))=(s.data.toList.map fun (b:UInt8)=>Value.int .u8 (b.toNat:Int)).toArray:=by
     apply Array.ext'; simp
    show Result.ok ((s.extract 0 s.size).data.map fun (b:UInt8)=>Value.int .u8 (b.toNat:Int)) w=_
    rw[e,e2]
   ·have:=VRs_sc (ρ := ρ) (I:=I) (hp:=w.heap) (s.data.toList.map fun (b:UInt8)=>Value.int .u8 (b.toNat:Int))
    rw[List.map_map] at this
    exact this
  ·cases h
 ·rename_i e hu
  obtain ⟨h1,h2,_,h3⟩:=zV (P:=P) hr h hv
  obtain ⟨ys,h4,h5⟩:=h3 n (Nat.le_refl _)
  rw[<- h1,List.take_length] at h5
  exact ⟨h1,.inr ⟨_,hu⟩,h2,ys,h4,h5⟩
 ·cases h
theorem qd6 {t u ty e:TypeId} {i:TypeInfo} {z:Value} (ht:P.underlying t=some (.slice e)) (hu:P.underlying u=some .string \/ ∃ e',P.underlying u=some (.slice e'))
  (hi:P.info? e=some i) (hz:i.zero=some z) {base:Option Addr} {sLen sCap n:Nat} {x:Value} {olds news:Array Value}
  (hlen:(Builtin.lenOf x).run P w = .ok n w) (ho:(Builtin.firstCells i.size sLen (.slice base sLen sCap)).run P w.drew = .ok olds w.drew)
  (hn:(Builtin.firstCells i.size n x).run P w.drew = .ok news w.drew) (hg:sCap<sLen+n) (hb:(sLen+n)*i.bytes<=140737488355328) (h63:sLen+n<=140737488355328) :
  (Builtin.append_ #[t,u] ty #[.slice base sLen sCap,x]).run P w =
   .ok (.slice (some ⟨w.heap.size,0,none⟩) (sLen+n) (grownCap w (sLen+n) sCap e))
    (w.drew.alloc (.cells (olds++news++Builtin.zeroCells z.cells (grownCap w (sLen+n) sCap e-(sLen+n))) e)):=by
 have hn' : ¬ (sLen+n<=sCap):=oz
 have hfit:=growslice_fits hg hb
 have h63' : ¬ (9223372036854775807<((sLen:Int)+(n:Int))):=oz
 have h48' : ¬ (281474976710656<Builtin.nextslicecap (sLen+n) sCap*i.bytes):=oz
 rcases hu with hu | ⟨e',hu⟩
 ·simp[Builtin.append_,run_underlying ht,run_underlying hu,sizeOf,typeInfo,zeroValue,hi,hz,hlen,hn',h63',h48',Question.forced,ho,hn,newRow,grownCap]
 ·simp[Builtin.append_,run_underlying ht,run_underlying hu,sizeOf,typeInfo,zeroValue,hi,hz,hlen,hn',h63',h48',Question.forced,ho,hn,newRow,grownCap]
end
end Go.Fl
end Fl6S
noncomputable section Fl7S
namespace Go.Fl
open Go
def grown (H:Heap) (sz:Nat) (s:AV):Option (Nat × List AV × Option Nat) :=
 match s with
 | .sc (.slice none 0 0)=>some (0,[],none)
 | .ms b off len sz'=>if sz' = sz then (H.get b).bind fun cs=>if off+len*sz=cs.length then some (len,cs.drop off,some b) else none else none
 | _=>none
def Heap.delo (H:Heap) (b:Option Nat):Heap:=match b with | some b=>H.del b | none=>H
theorem Heap.delo_le (H:Heap) (b:Option Nat):(H.delo b).le H:=by
 cases b with
 | none=>exact fun _ _ h=>h
 | some b=>exact H.del_le b
theorem Heap.delo_next (H:Heap) (b:Option Nat):(H.delo b).next=H.next:=by cases b <;> rfl
def Heap.regrow (H:Heap) (b:Option Nat) (cs:List AV):Heap:=(H.delo b).alloc cs
def byt (P:Program) (t:TypeId):Option Nat:=(P.info? t).map (·.bytes)
theorem qf9 {P:Program} {t:TypeId} {n b:Nat} (h1:csz P t=some n) (h2:byt P t=some b) : ∃ i,P.info? t=some i/\i.size=n/\i.bytes=b:=by
 unfold csz at h1
 unfold byt at h2
 cases hi:P.info? t with
 | none=>simp[hi] at h1
 | some i=>simp[hi] at h1 h2; exact ⟨i,rfl,h1,h2⟩
def aappend (P:Program) (H:Heap) (t u:TypeId) (s x:AV):Option (AV × Heap) :=
 match P.underlying t with
 | some (.slice e) =>
  (csz P e).bind fun sz=>(byt P e).bind fun bt=>(zeroC P e).bind fun zs=>(source P H sz u x).bind fun q=>(grown H sz s).bind fun g =>
   if (g.1+q.1)*bt<=140737488355328/\g.1+q.1<=140737488355328/\q.2.all AV.leaf=true/\zs.length=sz then some (.ms H.next 0 (g.1+q.1) sz,H.regrow g.2.2 (g.2.1++q.2)) else none
 | _=>none
section
variable {P:Program} {ρ : Rho} {I:Nat->Prop} {H:Heap} {w:World}
theorem qfd {cs:List AV} {ys:Array Value} (hl:cs.all AV.leaf=true) (hv:VRs ρ I w.heap cs ys) : ∀ y∈ys.toList,y.oneCell' = true:=by
 intro y hy
 obtain ⟨i,hi,rfl⟩:=List.getElem_of_mem hy
 have hi' : i<cs.length:=by rw[hv.1]; simpa using hi
 have:=hv.2 i cs[i] (List.getElem?_eq_getElem hi')
 have hl' : (cs[i]).leaf=true:=List.all_eq_true.1 hl _ (List.getElem_mem hi')
 have e1:ys.getD i Go.undef=ys.toList[i]:=by
  have hi2:i<ys.size:=by simpa using hi
  simp[hi2]
 rw[e1] at this
 exact qc0 hl' this
theorem VRs.append {xs ys:List AV} {us vs:Array Value} (h1:VRs ρ I w.heap xs us) (h2:VRs ρ I w.heap ys vs):VRs ρ I w.heap (xs++ys) (us++vs):=by
 refine ⟨by simp[h1.1,h2.1],fun i x hx=>?_⟩
 rw[List.getElem?_append] at hx
 simp only[Array.getD_eq_getD_getElem?,Array.getElem?_append]
 split at hx
 ·rw[if_pos (by rw[<- h1.1]; assumption)]
  simpa using h1.2 _ _ hx
 ·rw[if_neg (by rw[<- h1.1]; assumption)]
  have:=h2.2 _ _ hx
  rw[h1.1] at this
  simpa using this
theorem VR.ms_inv {hp:Array Obj} {b off len sz:Nat} {v:Value} (h:VR ρ I hp (.ms b off len sz) v) :
  (∃ cb base cap c e fz,v = .slice (some ⟨cb,base+off,none⟩) len cap /\ ρ b=some (some (cb,base))/\len<=cap/\hp[cb]? = some (.cells c e fz)/\base+off+cap*sz<=c.size) \/
  (len=0 /\ ∃ a p,v = .slice a 0 0 /\ ρ b=some p):=by
 cases h with
 | ms h1 h2 h3 h4=>exact .inl ⟨_,_,_,_,_,_,rfl,h1,h2,h3,h4⟩
 | ms0 h1=>exact .inr ⟨rfl,_,_,rfl,h1⟩
theorem yQ {t u ty e:TypeId} {i:TypeInfo} (ht:P.underlying t=some (.slice e)) (hu:P.underlying u=some .string \/ ∃ e',P.underlying u=some (.slice e'))
  (hi:P.info? e=some i) {sLen sCap n:Nat} {x:Value} {news:Array Value}
  (hlen:(Builtin.lenOf x).run P w = .ok n w) (hn:(Builtin.firstCells i.size n x).run P w = .ok news w) (hg:sLen+n<=sCap) :
  (Builtin.append_ #[t,u] ty #[.slice none sLen sCap,x]).run P w = .ok (.slice none (sLen+n) sCap) w:=by
 rcases hu with hu | ⟨e',hu⟩
 ·simp[Builtin.append_,run_underlying ht,run_underlying hu,sizeOf,typeInfo,hi,hlen,hn,hg]
 ·simp[Builtin.append_,run_underlying ht,run_underlying hu,sizeOf,typeInfo,hi,hlen,hn,hg]
theorem yR {t u ty e:TypeId} {i:TypeInfo} (ht:P.underlying t=some (.slice e)) (hu:P.underlying u=some .string \/ ∃ e',P.underlying u=some (.slice e'))
  (hi:P.info? e=some i) {a:Addr} {sLen sCap n:Nat} {x:Value} {news:Array Value} {w' : World}
  (hlen:(Builtin.lenOf x).run P w = .ok n w) (hn:(Builtin.firstCells i.size n x).run P w = .ok news w) (hg:sLen+n<=sCap)
  (hst:(storeCells (a.add (sLen*i.size)) news.toList 0).run P w = .ok () w') :
  (Builtin.append_ #[t,u] ty #[.slice (some a) sLen sCap,x]).run P w = .ok (.slice (some a) (sLen+n) sCap) w':=by
 rcases hu with hu | ⟨e',hu⟩
 ·simp[Builtin.append_,run_underlying ht,run_underlying hu,sizeOf,typeInfo,hi,hlen,hn,hg,hst]
 ·simp[Builtin.append_,run_underlying ht,run_underlying hu,sizeOf,typeInfo,hi,hlen,hn,hg,hst]
theorem qd7 (hr:Rel ρ I H w.heap) {b off len sz cap n cb base:Nat} {cs new:List AV} {c news:Array Value} {e:TypeId} {fz:Nat × Nat} (hg:H.get b=some cs) (hb : ρ b=some (some (cb,base)))
  (hI : ¬ I cb) (hf:FzOk c.size fz) (hc:w.heap[cb]? = some (.cells c e fz)) (h7:base+cs.length<=c.size) (h8 : ∀ i x,cs[i]? = some x->VR ρ I w.heap x (c.getD (base+i) Go.undef))
  (hend:off+len*sz=cs.length) (hnl:new.length=n*sz) (hnv:VRs ρ I w.heap new news) (hleaf:new.all AV.leaf=true) (hcap:len+n<=cap) (hroom:base+off+cap*sz<=c.size) :
  ∃ w',(storeCells ((⟨cb,base+off,none⟩:Addr).add (len*sz)) news.toList 0).run P w = .ok () w' /\
   VR (ρ.upd H.next (some (cb,base+off))) I w'.heap (.ms H.next 0 (len+n) sz) (.slice (some ⟨cb,base+off,none⟩) (len+n) cap) /\
   Rel (ρ.upd H.next (some (cb,base+off))) I ((H.del b).alloc (cs.drop off++new)) w'.heap/\Ext ρ I w (ρ.upd H.next (some (cb,base+off))) I w':=by
 have hsz:(len+n)*sz<=cap*sz:=Nat.mul_le_mul_right _ hcap
 rw[Nat.add_mul] at hsz
 have hnn:news.size=n*sz:=by rw[<- hnv.1]; exact hnl
 have hst:=zL P cb (base+off+len*sz) e hf news.toList 0 c w rfl hc (by simp; omega) (qfd hleaf hnv)
 let c':=(c.toList.take (base+off+len*sz)++news.toList++c.toList.drop (base+off+len*sz+news.toList.length)).toArray
 have hst' : (storeCells ⟨cb,base+off+len*sz,none⟩ news.toList 0).run P w = .ok () (w.setRow cb c'):=by simpa [c'] using hst
 have hc'sz:c'.size=c.size:=by simp[c']; omega
 have hget : ∀ k,c'.getD k Go.undef=if k<base+off+len*sz then c.getD k Go.undef else if k<base+off+len*sz+n*sz then news.getD (k-(base+off+len*sz)) Go.undef else c.getD k Go.undef:=by
  intro k
  simp only[c',Array.getD_eq_getD_getElem?,List.getElem?_toArray]
  have hlen:(c.toList.take (base+off+len*sz)).length=base+off+len*sz:=by simp; omega
  rw[List.append_assoc,List.getElem?_append,hlen]
  by_cases c1:k<base+off+len*sz
  ·rw[if_pos c1,if_pos c1,List.getElem?_take_of_lt c1]; simp
  ·rw[if_neg c1,if_neg c1,List.getElem?_append]
   have:news.toList.length=n*sz:=by simpa using hnn
   rw[this]
   by_cases c2:k<base+off+len*sz+n*sz
   ·rw[if_pos oz,if_pos c2]; simp
   ·rw[if_neg oz,if_neg c2,List.getElem?_drop]
    have:base+off+len*sz+n*sz+(k-(base+off+len*sz)-n*sz)=k:=oz
    rw[this]; simp
 have hdl:(cs.drop off).length=len*sz:=by simp; omega
 obtain ⟨k1,k2⟩:=qe7 (w1:=w.setRow cb c') hr (cs':=cs.drop off++new) (c':=c') (base':=base+off) hg hb hI hf hc (setRow_heap w cb c c' e fz hc) hc'sz (by simp[World.setRow])
  (fun k hk=>setRow_other w cb k c' hk) rfl rfl rfl (by rw[List.length_append,hdl,hnl]; omega) (by
   intro k y hy
   rw[hget]
   rw[List.getElem?_append,hdl] at hy
   by_cases c1:k<len*sz
   ·rw[if_pos c1,List.getElem?_drop] at hy
    rw[if_pos oz,Nat.add_assoc]
    exact h8 _ _ hy
   ·rw[if_neg c1] at hy
    have hk:k-len*sz<n*sz:=by
     have:=(List.getElem?_eq_some_iff.1 hy).1
     omega
    rw[if_neg oz,if_pos oz]
    have:base+off+k-(base+off+len*sz)=k-len*sz:=oz
    rw[this]
    exact hnv.2 _ _ hy)
 refine ⟨w.setRow cb c',by rw[add_plain]; exact hst',?_,k1,k2⟩
 have hfin:=VR.ms (ρ := ρ.upd H.next (some (cb,base+off))) (I:=I) (hp:=(w.setRow cb c').heap) (b:=H.next) (off:=0) (len:=len+n) (sz:=sz) (cap:=cap)
  (Rho.upd_same _ _ _) hcap (setRow_heap w cb c c' e fz hc) oz
 exact hfin
theorem qau (hr:Rel ρ I H w.heap) {t u ty:TypeId} {s x r:AV} {sv xv:Value} {H' : Heap} (h:aappend P H t u s x=some (r,H')) (hs:VR ρ I w.heap s sv) (hx:VR ρ I w.heap x xv) :
  ∃ v w' ρ',(Builtin.append_ #[t,u] ty #[sv,xv]).run P w = .ok v w' /\ VR ρ' I w'.heap r v/\Rel ρ' I H' w'.heap/\Ext ρ I w ρ' I w' /\
   (∀ e sz,P.underlying t=some (.slice e)->csz P e=some sz->TyOk w.heap e sz sv->TyOk w'.heap e sz v):=by
 unfold aappend at h
 cases ht:P.underlying t with
 | none=>simp[ht] at h
 | some d =>
 cases d <;> simp only[ht] at h <;> try (cases h; done)
 rename_i e
 cases hcs:csz P e with
 | none=>simp[hcs] at h
 | some sz =>
 cases hby:byt P e with
 | none=>simp[hcs,hby] at h
 | some bt =>
 obtain ⟨i,hi,rfl,rfl⟩:=qf9 hcs hby
 cases hz:zeroC P e with
 | none=>simp[hcs,hby,hz] at h
 | some zs =>
 obtain ⟨i',z,hi',hz',rfl⟩:=jg hz
 rw[hi] at hi'; cases hi'
 cases hsrc:source P H i.size u x with
 | none=>simp[hcs,hby,hz,hsrc] at h
 | some q =>
 obtain ⟨n,new⟩:=q
 cases hgr:grown H i.size s with
 | none=>simp[hcs,hby,hz,hsrc,hgr] at h
 | some q =>
 obtain ⟨len,old,b⟩:=q
 simp only[hcs,hby,hz,hsrc,hgr,Option.bind_some] at h
 split at h
 case isFalse=>cases h
 rename_i hbound
 obtain ⟨hb1,hb2,hleaf,hzl⟩:=hbound
 simp only[Option.some.injEq,Prod.mk.injEq] at h
 obtain ⟨rfl,rfl⟩:=h
 obtain ⟨hnl,hu,hlen,news,hnews,hnv⟩:=qcj (P:=P) hr hsrc hx
 obtain ⟨_,_,_,news',hnews',hnv'⟩:=qcj (P:=P) (w:=w.drew) hr hsrc hx
 have grow : ∀ (base:Option Addr) (sCap:Nat) (olds:Array Value),(Builtin.firstCells i.size len (.slice base len sCap)).run P w.drew = .ok olds w.drew->VRs ρ I w.heap old olds->sCap<len+n ->
   old.length=len*i.size ->
   ∃ v w' ρ',(Builtin.append_ #[t,u] ty #[.slice base len sCap,xv]).run P w = .ok v w' /\ VR ρ' I w'.heap (.ms H.next 0 (len+n) i.size) v/\Rel ρ' I (H.regrow b (old++new)) w'.heap/\Ext ρ I w ρ' I w' /\ TyOk w'.heap e i.size v:=by
  intro base sCap olds hold hov hcap hol
  have hrun:=qd6 (ty:=ty) ht hu hi hz' hlen hold hnews' hcap hb1 hb2
  let row:=olds++news' ++ Builtin.zeroCells z.cells (grownCap w (len+n) sCap e-(len+n))
  have hrowsz:(old++new).length<=row.size:=by
   have h1:=hov.1
   have h2:=hnv'.1
   simp only[row,List.length_append,Array.size_append]
   omega
  have hrowv : ∀ k y,(old++new)[k]? = some y->VR ρ I w.heap y (row.getD k Go.undef):=by
   intro k y hy
   have h3:=(hov.append (w:=w) hnv')
   have:=h3.2 k y hy
   have hk:k<(olds++news').size:=by
    have:=(List.getElem?_eq_some_iff.1 hy).1
    have:=h3.1; omega
   have e1:row.getD k Go.undef=(olds++news').getD k Go.undef:=by
    simp only[row,Array.getD_eq_getD_getElem?]
    rw[Array.getElem?_append_left hk]
   rw[e1]; exact this
  have hle:Rel ρ I (H.delo b) w.heap:=hr.le (H.delo_le b) (Nat.le_of_eq (H.delo_next b).symm)
  obtain ⟨k1,k2⟩:=jQ (w:=w) (w1:=w.drew.alloc (.cells row e)) hle (cs:=old++new) (c:=row) (e:=e) rfl rfl rfl rfl hrowsz hrowv
  rw[H.delo_next b] at k1 k2
  refine ⟨_,_,_,hrun,?_,k1,k2,?_⟩
  rotate_left
  ·have hnew:(w.drew.alloc (.cells row e)).heap[w.heap.size]? = some (.cells row e (0,0)):=by show (w.heap.push _)[w.heap.size]? = _; simp
   have hzs:(Builtin.zeroCells z.cells (grownCap w (len+n) sCap e-(len+n))).size=(grownCap w (len+n) sCap e-(len+n))*i.size:=by
    have hzl' : z.cells.size=i.size:=by simpa using hzl
    simp[Builtin.zeroCells,hzl']
   have hge:len+n<=grownCap w (len+n) sCap e:=by simp[grownCap,Question.cut]
   refine ⟨rfl,row,(0,0),hnew,?_⟩
   have h1:=hov.1
   have h2:=hnv'.1
   have e1:row.size=len*i.size+n*i.size+(grownCap w (len+n) sCap e-(len+n))*i.size:=by
    simp only[row,Array.size_append,hzs]; omega
   rw[e1,<- Nat.add_mul,<- Nat.add_mul]
   have:len+n+(grownCap w (len+n) sCap e-(len+n))=grownCap w (len+n) sCap e:=oz
   rw[this]; omega
  have hnew:(w.drew.alloc (.cells row e)).heap[w.heap.size]? = some (.cells row e (0,0)):=by show (w.heap.push _)[w.heap.size]? = _; simp
  have hzs:(Builtin.zeroCells z.cells (grownCap w (len+n) sCap e-(len+n))).size=(grownCap w (len+n) sCap e-(len+n))*i.size:=by
   have hzl' : z.cells.size=i.size:=by simpa using hzl
   simp[Builtin.zeroCells,hzl']
  have hge:len+n<=grownCap w (len+n) sCap e:=by simp[grownCap,Question.cut]
  have:=VR.ms (ρ := ρ.upd H.next (some (w.heap.size,0))) (I:=I) (hp:=(w.drew.alloc (.cells row e)).heap) (b:=H.next) (off:=0) (len:=len+n) (sz:=i.size) (cap:=grownCap w (len+n) sCap e)
   (Rho.upd_same _ _ _) hge hnew (by
    have h1:=hov.1
    have h2:=hnv'.1
    have e1:row.size=len*i.size+n*i.size+(grownCap w (len+n) sCap e-(len+n))*i.size:=by
     simp only[row,Array.size_append,hzs]; omega
    rw[e1,<- Nat.add_mul,<- Nat.add_mul]
    have:len+n+(grownCap w (len+n) sCap e-(len+n))=grownCap w (len+n) sCap e:=oz
    rw[this]; omega)
  exact this
 have fin : ∀ {sv:Value},(∃ v w' ρ',(Builtin.append_ #[t,u] ty #[sv,xv]).run P w = .ok v w' /\ VR ρ' I w'.heap (.ms H.next 0 (len+n) i.size) v/\Rel ρ' I (H.regrow b (old++new)) w'.heap/\Ext ρ I w ρ' I w' /\ TyOk w'.heap e i.size v) ->
   ∃ v w' ρ',(Builtin.append_ #[t,u] ty #[sv,xv]).run P w = .ok v w' /\ VR ρ' I w'.heap (.ms H.next 0 (len+n) i.size) v/\Rel ρ' I (H.regrow b (old++new)) w'.heap/\Ext ρ I w ρ' I w' /\
   (∀ e' sz,some (TypeDesc.slice e)=some (.slice e')->csz P e' = some sz->TyOk w.heap e' sz sv->TyOk w'.heap e' sz v):=by
  rintro sv ⟨v,w',ρ',g1,g2,g3,g4,g5⟩
  refine ⟨v,w',ρ',g1,g2,g3,g4,fun e' sz' h1 h2 _=>?_⟩
  cases h1
  rw[hcs] at h2; cases h2
  exact g5
 unfold grown at hgr
 split at hgr
 ·simp only[Option.some.injEq,Prod.mk.injEq] at hgr
  obtain ⟨rfl,rfl,rfl⟩:=hgr
  cases hs.eq_sc
  by_cases h0:n=0
  ·subst h0
   have hnew:new = []:=List.length_eq_zero_iff.1 (by simpa using hnl)
   subst hnew
   obtain ⟨k1,k2⟩:=qe8 hr
   exact ⟨_,w,_,yQ ht hu hi hlen hnews oz,.ms0 (Rho.upd_same _ _ _),k1,k2,fun _ _ _ _ hh=>hh⟩
  ·refine fin (grow none 0 #[] ?_ (by simp[VRs]) oz (by simp))
   simp[Builtin.firstCells]
 ·rename_i b' off len' sz'
  split at hgr
  case isFalse=>cases hgr
  rename_i hsz
  subst hsz
  cases hg:H.get b' with
  | none=>simp[hg] at hgr
  | some cs =>
  simp only[hg,Option.bind_some] at hgr
  split at hgr
  case isFalse=>cases hgr
  rename_i hend
  simp only[Option.some.injEq,Prod.mk.injEq] at hgr
  obtain ⟨rfl,rfl,rfl⟩:=hgr
  have hsc:sliceCells H i.size (.ms b' off len' i.size)=some (len',(cs.drop off).take (len' * i.size)):=by
   simp[sliceCells,hg,hend]
  have htake:(cs.drop off).take (len' * i.size)=cs.drop off:=List.take_of_length_le (by simp; omega)
  have hdl:(cs.drop off).length=len' * i.size:=by simp; omega
  rw[htake] at hsc
  obtain ⟨_,_,_,hfirst⟩:=zV (P:=P) (w:=w.drew) hr hsc hs
  obtain ⟨olds,hold,hov⟩:=hfirst len' (Nat.le_refl _)
  have hov' : VRs ρ I w.heap (cs.drop off) olds:=by rw[<- hdl,List.take_length] at hov; exact hov
  rcases hs.ms_inv with ⟨cb,base,cap,c0,e0,fz0,rfl,hb,h1,h2,h3⟩ | ⟨hl0,a,p,rfl,hb⟩
  ·by_cases hcap:cap<len' + n
   ·exact fin (grow _ cap olds hold hov' hcap hdl)
   ·rcases hr.live _ _ hg with ⟨h4,_⟩ | ⟨cb',base',c,e',h4,h5,⟨fz6,hf6,h6⟩,h7,h8⟩
    ·rw[hb] at h4; cases h4
    ·rw[hb] at h4
     simp only[Option.some.injEq,Prod.mk.injEq] at h4
     obtain ⟨rfl,rfl⟩:=h4
     rw[h6] at h2
     simp only[Option.some.injEq,Obj.cells.injEq] at h2
     obtain ⟨rfl,rfl,rfl⟩:=h2
     obtain ⟨w',h9,h10,h11,h12⟩:=qd7 (P:=P) hr hg hb h5 hf6 h6 h7 h8 hend hnl hnv hleaf oz h3
     exact ⟨_,w',_,yR ht hu hi hlen hnews oz h9,h10,h11,h12,fun _ _ _ _ hh=>hh.mono' h12.blocks⟩
  ·subst hl0
   by_cases h0:n=0
   ·subst h0
    have hnew:new = []:=List.length_eq_zero_iff.1 (by rw[hnl]; simp)
    have hle:Rel ρ I (H.delo (some b')) w.heap:=hr.le (H.delo_le _) (Nat.le_refl _)
    obtain ⟨k1,k2⟩:=qe8 hle
    have hd0:cs.drop off = []:=List.length_eq_zero_iff.1 (by simpa using hdl)
    rw[hd0,hnew]
    cases a with
    | none=>exact ⟨_,w,_,yQ ht hu hi hlen hnews oz,.ms0 (Rho.upd_same _ _ _),k1,k2,fun _ _ _ _ hh=>hh⟩
    | some a =>
     have hn0:news.toList = []:=by
      have:=hnv.1; rw[hnew] at this; exact List.length_eq_zero_iff.1 (by simpa using this.symm)
     exact ⟨_,w,_,yR ht hu hi hlen hnews oz (by rw[hn0]; rfl),.ms0 (Rho.upd_same _ _ _),k1,k2,fun _ _ _ _ hh=>hh⟩
   ·exact fin (grow _ 0 olds hold hov' oz oz)
 ·cases hgr
theorem qjd (hr:Rel ρ I H w.heap) {t u ty:TypeId} {s x r:AV} {sv xv:Value} {H' : Heap} (h:aappend P H t u s x=some (r,H')) (hs:VR ρ I w.heap s sv) (hx:VR ρ I w.heap x xv) :
  ∃ v w' ρ',(Builtin.append_ #[t,u] ty #[sv,xv]).run P w = .ok v w' /\ VR ρ' I w'.heap r v/\Rel ρ' I H' w'.heap/\Ext ρ I w ρ' I w':=by
 obtain ⟨v,w',ρ',h1,h2,h3,h4,_⟩:=qau (ty:=ty) hr h hs hx
 exact ⟨v,w',ρ',h1,h2,h3,h4⟩
def tyApp (P:Program) (H:Heap) (t u:TypeId) (s x:AV):Option (AV × Heap) :=
 match s with
 | .ty e n s'=>match P.underlying t with
  | some (.slice e')=>if e' = e/\csz P e=some n then (aappend P H t u s' x).map fun q=>(.ty e n q.1,q.2) else none
  | _=>none
 | _=>none
theorem qn3 (hr:Rel ρ I H w.heap) {t u ty:TypeId} {s x r:AV} {sv xv:Value} {H' : Heap} (h:tyApp P H t u s x=some (r,H')) (hs:VR ρ I w.heap s sv) (hx:VR ρ I w.heap x xv) :
  ∃ v w' ρ',(Builtin.append_ #[t,u] ty #[sv,xv]).run P w = .ok v w' /\ VR ρ' I w'.heap r v/\Rel ρ' I H' w'.heap/\Ext ρ I w ρ' I w':=by
 unfold tyApp at h
 split at h
 case h_2=>cases h
 split at h
 case h_2=>cases h
 rename_i e' hu
 split at h
 case isFalse=>cases h
 rename_i hc
 obtain ⟨rfl,hcs⟩:=hc
 simp only[Option.map_eq_some_iff,Prod.mk.injEq] at h
 obtain ⟨⟨q1,q2⟩,h1,rfl,rfl⟩:=h
 cases hs with
 | ty k1 k2 =>
 obtain ⟨v,w',ρ',h2,h3,h4,h5,h6⟩:=qau (ty:=ty) hr h1 k1 hx
 exact ⟨v,w',ρ',h2,.ty h3 (h6 _ _ hu hcs k2),h4,h5⟩
end
end Go.Fl
end Fl7S
