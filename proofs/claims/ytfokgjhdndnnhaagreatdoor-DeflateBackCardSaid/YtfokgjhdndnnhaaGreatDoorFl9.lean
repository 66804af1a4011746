/- All operations that call nothing. -/
import Derived.Test.YtfokgjhdndnnhaaGreatDoorFl8
import Derived.Laws.BytesString
import Derived.Laws.IdiomStrings
set_option linter.unusedVariables false
set_option linter.unusedSimpArgs false
noncomputable section
namespace Go.Fl
open Go
def acopy (P:Program) (H:Heap) (t u:TypeId) (d x:AV):Option (AV × Heap) :=
 match P.underlying t with
 | some (.slice e)=>(csz P e).bind fun sz=>(source P H sz u x).bind fun (n,new) =>
  match d with
  | .ms b off len sz'=>(H.get b).bind fun cs =>
   if sz' = sz/\off+len*sz<=cs.length/\(new.take (min n len*sz)).all AV.leaf=true then some (.int (min n len:Nat),H.set b (splice cs off (new.take (min n len*sz)))) else none
  | _=>none
 | _=>none
def alen (P:Program) (t:TypeId) (x:AV):Option AV :=
 match P.underlying t,x with
 | some (.slice _),.sc (.slice none 0 0)=>some (.int 0)
 | some (.slice _),.ms _ _ len _=>some (.int len)
 | some (.slice _),.vs len _ _=>some (.int len)
 | some (.slice _),.ty _ _ (.sc (.slice none 0 0))=>some (.int 0)
 | some (.slice _),.ty _ _ (.ms _ _ len _)=>some (.int len)
 | some (.array n _),_=>some (.int n)
 | _,_=>none
def aeqNil (P:Program) (t:TypeId) (a b:AV):Option (Option Bool) :=
 match P.underlying t,a,b with
 | some (.pointer _),.ptr _ _,.sc (.pointer none)=>some (some false)
 | some (.pointer _),.sc (.pointer none),.ptr _ _=>some (some false)
 | some (.pointer _),.ep _,.sc (.pointer none)=>some (some false)
 | some (.interface _),.ifc _ _,.sc .nilIface=>some (some false)
 | some (.interface _),.sc .nilIface,.ifc _ _=>some (some false)
 | some (.func _ _ _),.fn _ _ _,.sc .nilFunc=>some (some false)
 | some (.slice _),.ms _ _ len _,.sc (.slice none 0 0)=>if 0<len then some (some false) else some none
 | some (.slice _),.vs len _ _,.sc (.slice none 0 0)=>if 0<len then some (some false) else some none
 | _,_,_=>none
def abOf:Option Bool->AV
 | some b=>.bool b
 | none=>.ab
def aint:AV->Option IntKind
 | .sc (.int k _)=>some k
 | .ai k=>some k
 | _=>none
def aiBoth (a b:AV) (q:IntKind->AV):Option AV :=
 match aint a,aint b with
 | some k,some k'=>if k=k' then some (q k) else none
 | _,_=>none
def aiSh (a b:AV):Option AV :=
 match b with
 | .sc (.int _ n)=>if 0<=n then (aint a).map .ai else none
 | _=>none
def aiBin (op:BinOp) (a b:AV):Option AV :=
 match op with
 | .add | .sub | .mul | .and | .or | .xor | .andNot=>aiBoth a b .ai
 | .shl | .shr=>aiSh a b
 | .eql | .neq | .lss | .leq | .gtr | .geq=>aiBoth a b fun _=>.ab
 | _=>none
def aiUn (op:UnOp) (a:AV):Option AV :=
 match op,a with
 | .neg,.ai k=>some (.ai k)
 | .xor,.ai k=>some (.ai k)
 | .not,.ab=>some .ab
 | _,_=>none
def aun (P:Program) (op:UnOp) (a:AV):Option AV :=
 match conc a with
 | some v=>(srun P (Op.unary op v)).map ofV
 | none=>aiUn op a
def aiCvt (P:Program) (src dst:TypeId) (a:AV):Option AV :=
 match a with
 | .ai _=>match P.underlying src,P.underlying dst with
  | some _,some (.int k)=>some (.ai k)
  | _,_=>none
 | _=>none
def acvt (P:Program) (src dst:TypeId) (a:AV):Option AV :=
 match conc a with
 | some v=>(srun P (convert src dst v)).map ofV
 | none=>aiCvt P src dst a
def strV (s:ByteArray):List AV:=s.data.toList.map fun b=>.sc (.int .u8 b.toNat)
def astrB (_:Program) (_:Heap) (_ _:TypeId) (_:AV):Option (AV × Heap):=none
def astrV (P:Program) (src dst:TypeId) (a:AV):Option AV :=
 match a with
 | .sc (.string s)=>match P.underlying src,P.underlying dst with
  | some .string,some (.slice e)=>match P.underlying e with
   | some (.int .u8)=>some (.vs s.size 1 (strV s))
   | _=>none
  | _,_=>none
 | _=>none
def aeqn (P:Program) (op:BinOp) (t:TypeId) (a b:AV):Option AV :=
 match op with
 | .eql=>(aeqNil P t a b).map abOf
 | .neq=>(aeqNil P t a b).map fun q=>abOf (q.map (!·))
 | _=>none
def abin (P:Program) (op:BinOp) (t:TypeId) (x y:Operand) (a b:AV):Option AV :=
 match conc a,conc b with
 | some u,some v=>(srun P (do eqGuard op t x y u v; binOp op t u v)).map ofV
 | _,_=>match aeqn P op t a b with
  | some r=>some r
  | none=>aiBin op a b
def concs:List AV->Option (List Value)
 | []=>some []
 | x::r=>(conc x).bind fun v=>(concs r).map (v :: ·)
def abuiltin (P:Program) (H:Heap) (b:Builtin) (argTypes:Array TypeId) (type:TypeId) (args:List AV):Option (AV × Heap) :=
 match b,args with
 | .len,[x]=>match (argTypes[0]?).bind fun t=>alen P t x with
  | some r=>some (r,H)
  | none=>(conc x).bind fun v=>(srun P (Builtin.len_ argTypes type #[v])).map fun u=>(ofV u,H)
 | .append,[s,x]=>if argTypes.size=2 then (match aappend P H (argTypes.getD 0 0) (argTypes.getD 1 0) s x with
  | some r=>some r
  | none=>tyApp P H (argTypes.getD 0 0) (argTypes.getD 1 0) s x) else none
 | .copy,[d,x]=>if argTypes.size=2 then acopy P H (argTypes.getD 0 0) (argTypes.getD 1 0) d x else none
 | .min,l=>(concs l).bind fun vs=>(srun P (Builtin.min_ argTypes type vs.toArray)).map fun u=>(ofV u,H)
 | .max,l=>(concs l).bind fun vs=>(srun P (Builtin.max_ argTypes type vs.toArray)).map fun u=>(ofV u,H)
 | _,_=>none
def afld (P:Program) (t:TypeId) (x:AV) (f:Nat):Option AV :=
 match P.underlying t,x with
 | some (.struct fields),.agg cs=>(fields[f]?).bind fun fl=>apart P fl.type cs fl.offset
 | _,_=>none
def aidx (P:Program) (t:TypeId) (x i:AV):Option AV :=
 match P.underlying t,x,i with
 | some (.array n e),.agg cs,.sc (.int _ k)=>(csz P e).bind fun sz=>if 0<=k/\k<n then apart P e cs (k.toNat*sz) else none
 | some .string,.sc u,.sc v=>(srun P (Instr.index t u v)).map ofV
 | _,_,_=>none
def u8s:List AV->Option (List Int)
 | []=>some []
 | .sc (.int .u8 n)::r=>(u8s r).map (n :: ·)
 | _::_=>none
def strOf (ns:List Int):ByteArray:=ns.foldl (fun r n=>r.push (UInt8.ofNat n.toNat)) ByteArray.empty
def aconv (P:Program) (H:Heap) (src dst:TypeId) (x:AV):Option AV :=
 match P.underlying src,P.underlying dst with
 | some (.slice e),some .string=>match P.underlying e with
  | some (.int .u8)=>(sliceCells H 1 x).bind fun q=>(u8s q.2).map fun ns=>.sc (.string (strOf ns))
  | _=>none
 | _,_=>none
def isV (o:Oper):Bool :=
 match o.op with
 | .convert _ dst _=>bytesT dst&&keepD o.dst
 | _=>false
def aop (P:Program) (o:Oper) (ev:Operand->AV) (H:Heap):Option (AV × Heap) :=
 match o.op with
 | .move x=>some (ev x,H)
 | .assign x=>some (ev x,H)
 | .pick c a b=>match ev c with
  | .sc (.bool t)=>some (if t then ev a else ev b,H)
  | _=>none
 | .alloc t=>(zeroC P t).map fun zs=>(.ptr H.next 0,H.alloc zs)
 | .box _ x=>(acells (ev x)).map fun cs=>(.ptr H.next 0,H.alloc cs)
 | .build t parts=>(abuild P t (parts.toList.map fun p=>(p.1,ev p.2))).map fun r=>(r,H)
 | .buildSlice t len parts=>abuildSlice P H t len (parts.toList.map fun p=>(p.1,ev p.2))
 | .load t a=>(aload P H t (ev a)).map fun r=>(r,H)
 | .store t a x=>(astore P H t (ev a) (ev x)).map fun H'=>(.undef,H')
 | .nilCheck x=>match ev x with
  | .ptr b o=>some (.ptr b o,H)
  | .ep cs=>some (.ep cs,H)
  | .ifc t v=>some (.ifc t v,H)
  | .fn (.func f) a b=>some (.fn (.func f) a b,H)
  | _=>none
 | .binOp op t x y _=>(abin P op t x y (ev x) (ev y)).map fun r=>(r,H)
 | .unOp op _ x=>(aun P op (ev x)).map fun r=>(r,H)
 | .convert src dst x=>match bytesT dst with
  | true=>match keepD o.dst with
   | true=>(astrV P src dst (ev x)).map fun r=>(r,H)
   | false=>astrB P H src dst (ev x)
  | false=>match aconv P H src dst (ev x) with
   | some r=>some (r,H)
   | none=>(acvt P src dst (ev x)).map fun r=>(r,H)
 | .makeInterface t x=>match P.underlying t with
  | some (.interface _)=>none
  | some _=>some (.ifc t (ev x),H)
  | none=>none
 | .makeFunc fn first captured=>some (.fn fn (first.toList.map ev) (captured.toList.map ev),H)
 | .makeSlice t l c=>amake P H t (ev l) (ev c)
 | .slice t x lo hi mx=>(aslice P H t (ev x) (lo.map ev) (hi.map ev) (mx.map ev)).map fun r=>(r,H)
 | .fieldAddr s x f=>(afield P s (ev x) f).map fun r=>(r,H)
 | .field t x f=>(afld P t (ev x) f).map fun r=>(r,H)
 | .indexAddr t x i=>(aindex P t (ev x) (ev i)).map fun r=>(r,H)
 | .index t x i=>(aidx P t (ev x) (ev i)).map fun r=>(r,H)
 | .extract x i=>match ev x with
  | .tup vs=>(vs[i]?).map fun r=>(r,H)
  | _=>none
 | .call { callee:=.builtin b,args,argTypes } => abuiltin P H b argTypes o.type (args.toList.map ev)
 | _=>none
section
variable {P:Program} {ρ : Rho} {I:Nat->Prop} {H:Heap} {w:World}
theorem VRs.take {xs:List AV} {ys:Array Value} (h:VRs ρ I w.heap xs ys) (n:Nat):VRs ρ I w.heap (xs.take n) (ys.extract 0 n):=by
 refine ⟨by simp[h.1],fun i x hx=>?_⟩
 have hi:i<n:=by
  have:=(List.getElem?_eq_some_iff.1 hx).1
  simp at this; omega
 rw[List.getElem?_take_of_lt hi] at hx
 have:=h.2 _ _ hx
 have e:(ys.extract 0 n).getD i Go.undef=ys.getD i Go.undef:=by
  simp only[Array.getD_eq_getD_getElem?,Array.getElem?_extract]
  have:=h.1
  have hl:=(List.getElem?_eq_some_iff.1 hx).1
  rw[if_pos oz,Nat.zero_add]
 rw[e]; exact this
theorem qbr {t u ty e:TypeId} {sz n dLen cap:Nat} {a:Addr} {x:Value} {ys:Array Value} {w' : World} (ht:P.underlying t=some (.slice e)) (hs:csz P e=some sz)
  (hlen:(Builtin.lenOf x).run P w = .ok n w) (hf:(Builtin.firstCells sz (Nat.min n dLen) x).run P w = .ok ys w) (hst:(storeCells a ys.toList 0).run P w = .ok () w') :
  (Builtin.copy_ #[t,u] ty #[.slice (some a) dLen cap,x]).run P w = .ok (.int .i64 (Nat.min n dLen:Nat)) w':=by
 simp[Builtin.copy_,run_underlying ht,hlen,zk P hs,hf,hst,goInt]
theorem qga {t u ty e:TypeId} {sz n dLen cap:Nat} {x:Value} {ys:Array Value} (ht:P.underlying t=some (.slice e)) (hs:csz P e=some sz)
  (hlen:(Builtin.lenOf x).run P w = .ok n w) (hf:(Builtin.firstCells sz (Nat.min n dLen) x).run P w = .ok ys w) :
  (Builtin.copy_ #[t,u] ty #[.slice none dLen cap,x]).run P w = .ok (.int .i64 (Nat.min n dLen:Nat)) w:=by
 simp[Builtin.copy_,run_underlying ht,hlen,zk P hs,hf,goInt]
theorem qn5 (hr:Rel ρ I H w.heap) {t u ty:TypeId} {d x r:AV} {dv xv:Value} {H' : Heap} (h:acopy P H t u d x=some (r,H')) (hd:VR ρ I w.heap d dv) (hx:VR ρ I w.heap x xv) :
  ∃ v w',(Builtin.copy_ #[t,u] ty #[dv,xv]).run P w = .ok v w' /\ VR ρ I w'.heap r v/\Rel ρ I H' w'.heap/\Ext ρ I w ρ I w':=by
 unfold acopy at h
 split at h
 case h_2=>cases h
 rename_i e ht
 cases hn:csz P e with
 | none=>simp[hn] at h
 | some sz =>
 cases hsrc:source P H sz u x with
 | none=>simp[hn,hsrc] at h
 | some q =>
 obtain ⟨n,new⟩:=q
 simp only[hn,hsrc,Option.bind_some] at h
 split at h
 case h_2=>cases h
 rename_i b off len sz'
 cases hg:H.get b with
 | none=>simp[hg] at h
 | some cs =>
 simp only[hg,Option.bind_some] at h
 split at h
 case isFalse=>cases h
 rename_i hcond
 obtain ⟨rfl,hle,hleaf⟩:=hcond
 simp only[Option.some.injEq,Prod.mk.injEq] at h
 obtain ⟨rfl,rfl⟩:=h
 have hfirst : ∀ m,m<=n -> ∃ ys:Array Value,(Builtin.firstCells sz' m xv).run P w = .ok ys w/\VRs ρ I w.heap (new.take (m*sz')) ys:=by
  intro m hm
  unfold source at hsrc
  split at hsrc
  ·rename_i s hu
   split at hsrc
   ·rename_i h1
    subst h1
    simp only[Option.some.injEq,Prod.mk.injEq] at hsrc
    obtain ⟨rfl,rfl⟩:=hsrc
    cases hx.eq_sc
    have hv:=VRs_sc (ρ := ρ) (I:=I) (hp:=w.heap) (s.data.toList.map fun (b:UInt8)=>Value.int .u8 (b.toNat:Int))
    rw[List.map_map] at hv
    refine ⟨_,rfl,?_⟩
    have h2:=hv.take (w:=w) (m*1)
    have e1:(List.map (fun (b:UInt8)=>Value.int .u8 (b.toNat:Int)) s.data.toList).toArray.extract 0 (m*1)=(s.extract 0 m).data.map fun (b:UInt8)=>Value.int .u8 (b.toNat:Int):=by
     apply Array.ext'
     simp[ByteArray.data_extract]
    rw[e1] at h2
    exact h2
   ·cases hsrc
  ·exact (zV (P:=P) hr hsrc hx).2.2.2 m hm
  ·cases hsrc
 obtain ⟨hnl,_,hlen,_⟩:=qcj (P:=P) hr hsrc hx
 obtain ⟨ys,hys,hyv⟩:=hfirst (min n len) (Nat.min_le_left _ _)
 have hml:(new.take (min n len*sz')).length=min n len*sz':=by
  rw[List.length_take,hnl]; exact Nat.min_eq_left (Nat.mul_le_mul_right _ (Nat.min_le_left _ _))
 have hysz:ys.size=min n len*sz':=by rw[<- hyv.1]; exact hml
 have hlm:min n len*sz' <= len*sz':=Nat.mul_le_mul_right _ (Nat.min_le_right _ _)
 have hleaf' : (new.take (min n len*sz')).all AV.leaf=true:=hleaf
 rcases hd.ms_inv with ⟨cb,base,cap,c0,e0,fz0,rfl,hb,k1,k2,k3⟩ | ⟨rfl,a,p,rfl,hb⟩
 ·rcases hr.live _ _ hg with ⟨h4,_⟩ | ⟨cb',base',c,e',h4,h5,⟨fz6,hf6,h6⟩,h7,h8⟩
  ·rw[hb] at h4; cases h4
  ·rw[hb] at h4
   simp only[Option.some.injEq,Prod.mk.injEq] at h4
   obtain ⟨rfl,rfl⟩:=h4
   have hst:=zL P cb (base+off) e' hf6 ys.toList 0 c w rfl h6 (by simp; omega) (qfd hleaf' hyv)
   let c':=(c.toList.take (base+off)++ys.toList++c.toList.drop (base+off+ys.toList.length)).toArray
   have hst' : (storeCells ⟨cb,base+off,none⟩ ys.toList 0).run P w = .ok () (w.setRow cb c'):=by simpa [c'] using hst
   have hc'sz:c'.size=c.size:=by simp[c']; omega
   have key:=qhg (w1:=w.setRow cb c') hr (cs':=splice cs off (new.take (min n len*sz'))) (c':=c') hg hb h5 hf6 h6 (setRow_heap w cb c c' e' fz6 h6) hc'sz (by simp[World.setRow])
    (fun k hk=>setRow_other w cb k c' hk) rfl rfl rfl (by rw[jI oz]; omega) (by
     intro i y hy
     rw[qcg oz,hml] at hy
     have e2:c'.getD (base+i) Go.undef=if i<off then c.getD (base+i) Go.undef else if i<off+min n len*sz' then ys.getD (i-off) Go.undef else c.getD (base+i) Go.undef:=by
      simp only[c',Array.getD_eq_getD_getElem?,List.getElem?_toArray]
      have hlen:(c.toList.take (base+off)).length=base+off:=by simp; omega
      rw[List.append_assoc,List.getElem?_append,hlen]
      by_cases hi1:i<off
      ·rw[if_pos oz,if_pos hi1,List.getElem?_take_of_lt oz]; simp
      ·rw[if_neg oz,if_neg hi1,List.getElem?_append]
       have hul:ys.toList.length=min n len*sz':=by simpa using hysz
       rw[hul]
       by_cases hi2:i<off+min n len*sz'
       ·rw[if_pos oz,if_pos hi2]
        have:base+i-(base+off)=i-off:=oz
        rw[this]; simp
       ·rw[if_neg oz,if_neg hi2,List.getElem?_drop]
        have:base+off+min n len*sz' + (base+i-(base+off)-min n len*sz')=base+i:=oz
        rw[this]; simp
     rw[e2]
     by_cases hi1:i<off
     ·rw[if_pos hi1] at hy |-; exact h8 i y hy
     ·rw[if_neg hi1] at hy |-
      by_cases hi2:i<off+min n len*sz'
      ·rw[if_pos hi2] at hy |-; exact hyv.2 _ _ hy
      ·rw[if_neg hi2] at hy |-; exact h8 i y hy)
   exact ⟨.int .i64 (min n len:Nat),w.setRow cb c',qbr ht hn hlen hys hst',.sc _,key⟩
 ·have hmin:min n 0=0:=Nat.min_zero n
  rw[hmin] at hml hysz hyv |-
  have hy0:ys = #[]:=Array.size_eq_zero_iff.1 (by rw[hysz]; simp)
  subst hy0
  have hnil:new.take (0*sz') = []:=by simp
  rw[hnil]
  have hset:Rel ρ I (H.set b (splice cs off [])) w.heap:=by
   have:splice cs off []=cs:=by simp[splice]
   rw[this]
   refine hr.le (fun x cx hx=>?_) (Nat.le_refl _)
   rw[Heap.get_set] at hx
   split at hx
   ·rename_i e1; subst e1; rw[hg] at hx; simpa [hg] using hx
   ·exact hx
  refine ⟨.int .i64 (0:Nat),w,?_,.sc _,hset,Ext.refl _ _ _⟩
  have hys' : (Builtin.firstCells sz' (Nat.min n 0) xv).run P w = .ok #[] w:=hys
  cases a with
  | none =>
   have:=qga (u:=u) (ty:=ty) (cap:=0) ht hn hlen hys'
   rw[show Nat.min n 0=0 from hmin] at this
   exact this
  | some a =>
   have:=qbr (u:=u) (ty:=ty) (cap:=0) (a:=a) (w':=w) ht hn hlen hys' rfl
   rw[show Nat.min n 0=0 from hmin] at this
   exact this
theorem qn6 : ∀ {cs:List AV} {ns:List Int},u8s cs=some ns->cs=ns.map fun n=>.sc (.int .u8 n)
 | [],ns,h=>by simp[u8s] at h; subst h; rfl
 | c::cs,ns,h=>by
  unfold u8s at h
  split at h
  ·rename_i heq; cases heq
  ·rename_i n r heq
   cases heq
   simp only[Option.map_eq_some_iff] at h
   obtain ⟨ns',h1,rfl⟩:=h
   rw[qn6 h1]; rfl
  ·cases h
theorem qn7 (hr:Rel ρ I H w.heap) {src dst:TypeId} {x r:AV} {v:Value} (h:aconv P H src dst x=some r) (hv:VR ρ I w.heap x v) : ∃ u,(convert src dst v).run P w = .ok u w/\VR ρ I w.heap r u:=by
 unfold aconv at h
 split at h
 case h_2=>cases h
 rename_i e hs hd
 split at h
 case h_2=>cases h
 rename_i he
 cases hc:sliceCells H 1 x with
 | none=>simp[hc] at h
 | some q =>
 obtain ⟨n,cs⟩:=q
 simp only[hc,Option.bind_some,Option.map_eq_some_iff] at h
 obtain ⟨ns,h1,rfl⟩:=h
 obtain ⟨hl,_,⟨a,cap,rfl⟩,hf⟩:=zV (P:=P) hr hc hv
 obtain ⟨ys,hy1,hy2⟩:=hf n (Nat.le_refl _)
 rw[show n*1=cs.length by rw[hl],List.take_length] at hy2
 have hcs:=qn6 h1
 subst hcs
 have hys:ys=(ns.map (Value.int .u8)).toArray:=by
  have:=qi6 (ρ := ρ) (I:=I) (hp:=w.heap) (cs:=ns.map fun n=>.sc (.int .u8 n)) (l:=ns.map (Value.int .u8)) (by
   clear hy2 hl hc h1 hf hy1
   induction ns with
   | nil=>rfl
   | cons n ns ih=>simp[scs,ih]) hy2.1 hy2.2
  exact this
 subst hys
 refine ⟨.string (strOf ns),?_,.sc _⟩
 rw[run_convert_bytes_string w src dst e a n cap hs he hd]
 cases a with
 | none =>
  have hn:n=0:=by
   have:=hl
   simp only[List.length_map,Nat.mul_one] at this
   have h0:(ns.map (Value.int .u8)).toArray = #[]:=by simpa [Builtin.firstCells] using hy1
   have:ns.length=0:=by simpa using congrArg Array.size h0
   omega
  subst hn
  have:ns = []:=List.length_eq_zero_iff.1 (by simpa using hl)
  subst this
  simp[Conv.bytesToString,strOf]
 | some a =>
  have hload:(loadCells a n).run P w = .ok (ns.map (Value.int .u8)).toArray w:=by simpa [Builtin.firstCells] using hy1
  exact run_bytesToString w a n cap ns hload
theorem alen_run {t:TypeId} {x r:AV} {v:Value} {argTypes:Array TypeId} {ty:TypeId} (h:alen P t x=some r) (ha:argTypes[0]? = some t) (hv:VR ρ I w.heap x v) :
  ∃ u,(Builtin.len_ argTypes ty #[v]).run P w = .ok u w/\VR ρ I w.heap r u:=by
 unfold alen at h
 split at h
 ·rename_i e hu
  simp only[Option.some.injEq] at h; subst h
  cases hv.eq_sc
  exact ⟨_,by simp[Builtin.len_,ha,run_underlying hu]; rfl,.sc _⟩
 ·rename_i b off len sz hu
  simp only[Option.some.injEq] at h; subst h
  rcases hv.ms_inv with ⟨cb,base,cap,c0,e0,fz0,rfl,hb,k1,k2,k3⟩ | ⟨rfl,a,p,rfl,hb⟩
  ·exact ⟨_,by simp[Builtin.len_,ha,run_underlying hu]; rfl,.sc _⟩
  ·exact ⟨_,by simp[Builtin.len_,ha,run_underlying hu]; rfl,.sc _⟩
 ·rename_i len sz cs hu
  simp only[Option.some.injEq] at h; subst h
  cases hv with
  | vs0=>exact ⟨_,by simp[Builtin.len_,ha,run_underlying hu]; rfl,.sc _⟩
  | vs=>exact ⟨_,by simp[Builtin.len_,ha,run_underlying hu]; rfl,.sc _⟩
 ·rename_i t0 n0 hu
  simp only[Option.some.injEq] at h; subst h
  cases hv with
  | ty hv _ =>
  cases hv.eq_sc
  exact ⟨_,by simp[Builtin.len_,ha,run_underlying hu]; rfl,.sc _⟩
 ·rename_i t0 n0 b off len sz hu
  simp only[Option.some.injEq] at h; subst h
  cases hv with
  | ty hv _ =>
  rcases hv.ms_inv with ⟨cb,base,cap,c0,e0,fz0,rfl,hb,k1,k2,k3⟩ | ⟨rfl,a,p,rfl,hb⟩
  ·exact ⟨_,by simp[Builtin.len_,ha,run_underlying hu]; rfl,.sc _⟩
  ·exact ⟨_,by simp[Builtin.len_,ha,run_underlying hu]; rfl,.sc _⟩
 ·rename_i n e hu
  simp only[Option.some.injEq] at h; subst h
  exact ⟨_,by simp[Builtin.len_,ha,run_underlying hu]; rfl,.sc _⟩
 ·cases h
theorem qmb (t:TypeId) (x y:Value):Op.equal t x y=Op.equalIn (9999+1) t x y:=rfl
theorem qc7 {t e:TypeId} (h:P.underlying t=some (.pointer e)) (d:Nat) (a:Addr):(Op.equalIn (d+1) t (.pointer (some a)) (.pointer none)).run P w = .ok false w:=by
 simp[Op.equalIn,run_underlying h]
theorem qhr {t e:TypeId} (h:P.underlying t=some (.pointer e)) (d:Nat) (a:Addr):(Op.equalIn (d+1) t (.pointer none) (.pointer (some a))).run P w = .ok false w:=by
 simp[Op.equalIn,run_underlying h]
theorem qev {t:TypeId} {ms:Array (String × TypeId)} (h:P.underlying t=some (.interface ms)) (d:Nat) (u:TypeId) (x:Value):(Op.equalIn (d+1) t (.iface u x) .nilIface).run P w = .ok false w:=by
 simp[Op.equalIn,run_underlying h]
theorem qew {t:TypeId} {ms:Array (String × TypeId)} (h:P.underlying t=some (.interface ms)) (d:Nat) (u:TypeId) (x:Value):(Op.equalIn (d+1) t .nilIface (.iface u x)).run P w = .ok false w:=by
 simp[Op.equalIn,run_underlying h]
theorem qgb {t:TypeId} {ps rs:Array TypeId} {v:Bool} (h:P.underlying t=some (.func ps rs v)) (d:Nat) (f:Fn) (x y:Array Value):(Op.equalIn (d+1) t (.func f x y) .nilFunc).run P w = .ok false w:=by
 simp[Op.equalIn,run_underlying h]
theorem jq {t e:TypeId} (h:P.underlying t=some (.slice e)) (d:Nat) (a:Addr) (n c:Nat):(Op.equalIn (d+1) t (.slice (some a) n c) (.slice none 0 0)).run P w = .ok false w:=by
 simp[Op.equalIn,run_underlying h]
theorem qav {t e:TypeId} (h:P.underlying t=some (.slice e)) (d:Nat) (n c:Nat):(Op.equalIn (d+1) t (.slice none n c) (.slice none 0 0)).run P w = .ok true w:=by
 simp[Op.equalIn,run_underlying h]
theorem qfe {t:TypeId} {a b:AV} {u v:Value} {q:Option Bool} (h:aeqNil P t a b=some q) (hu:VR ρ I w.heap a u) (hv:VR ρ I w.heap b v) (x y:Operand) (op:BinOp) :
  (eqGuard op t x y u v).run P w = .ok () w/\(∃ q',(Op.equal t u v).run P w = .ok q' w/\(q=some q' \/ q=none))/\(∀ k n,u ≠ .int k n)/\(∀ s,u ≠ .string s)/\(∀ k n,u ≠ .float k n)/\(∀ k a b,u ≠ .complex k a b):=by
 have guard : ∀ u v:Value,(∀ a b,¬ (u = .agg a/\v = .agg b)) -> ¬ (u = .nilIface/\v = .nilIface)->(eqGuard op t x y u v).run P w = .ok () w:=by
  intro u v h2 h3
  have key : ∀ c:Bool,((if (!c)=true then (return:Sem Unit) else do
    match u,v with
    | .nilIface,.nilIface =>
     if (x matches .const _)||(y matches .const _) then return
     if ← Op.eqGuardIn Op.maxDepth t u v then unsupported (.noEntry "binop/eql: two nil values of an interface type with methods, neither of them the literal nil")
    | .agg _,.agg _ =>
     if !(<- program).eqGuardType (<- program).depth t then return
     if ← Op.eqGuardIn Op.maxDepth t u v then unsupported (.noEntry "binop/eql: two nil values of an interface type with methods, in a part of a struct or an array")
    | _,_=>pure ()):Sem Unit).run P w = .ok () w:=by
   intro c
   cases c
   ·rfl
   ·cases u <;> cases v <;> first | rfl | exact absurd ⟨rfl,rfl⟩ h3 | (rename_i a b; exact absurd ⟨rfl,rfl⟩ (h2 a b))
  exact key _
 rw[qmb]
 unfold aeqNil at h
 split at h
 ·rename_i hd
  cases hv.eq_sc; cases hu; simp only[Option.some.injEq] at h; subst h
  exact ⟨guard _ _ (by simp) (by simp),⟨_,qc7 hd _ _,.inl rfl⟩,by simp,by simp,by simp,by simp⟩
 ·rename_i hd
  cases hu.eq_sc; cases hv; simp only[Option.some.injEq] at h; subst h
  exact ⟨guard _ _ (by simp) (by simp),⟨_,qhr hd _ _,.inl rfl⟩,by simp,by simp,by simp,by simp⟩
 ·rename_i hd
  cases hv.eq_sc; cases hu; simp only[Option.some.injEq] at h; subst h
  exact ⟨guard _ _ (by simp) (by simp),⟨_,qc7 hd _ _,.inl rfl⟩,by simp,by simp,by simp,by simp⟩
 ·rename_i hd
  cases hv.eq_sc; cases hu; simp only[Option.some.injEq] at h; subst h
  exact ⟨guard _ _ (by simp) (by simp),⟨_,qev hd _ _ _,.inl rfl⟩,by simp,by simp,by simp,by simp⟩
 ·rename_i hd
  cases hu.eq_sc; cases hv; simp only[Option.some.injEq] at h; subst h
  exact ⟨guard _ _ (by simp) (by simp),⟨_,qew hd _ _ _,.inl rfl⟩,by simp,by simp,by simp,by simp⟩
 ·rename_i hd
  cases hv.eq_sc; cases hu; simp only[Option.some.injEq] at h; subst h
  exact ⟨guard _ _ (by simp) (by simp),⟨_,qgb hd _ _ _ _,.inl rfl⟩,by simp,by simp,by simp,by simp⟩
 ·rename_i hd
  cases hv.eq_sc
  rcases hu.ms_inv with ⟨cb,base,cap,c0,e0,fz0,rfl,hb,k1,k2,k3⟩ | ⟨rfl,a,p,rfl,hb⟩
  ·refine ⟨guard _ _ (by simp) (by simp),⟨_,jq hd _ _ _ _,?_⟩,by simp,by simp,by simp,by simp⟩
   split at h
   ·exact .inl (by simpa using h.symm)
   ·exact .inr (by simpa using h.symm)
  ·have hq:q=none:=by simpa using h.symm
   cases a with
   | none=>exact ⟨guard _ _ (by simp) (by simp),⟨_,qav hd _ _ _,.inr hq⟩,by simp,by simp,by simp,by simp⟩
   | some a=>exact ⟨guard _ _ (by simp) (by simp),⟨_,jq hd _ _ _ _,.inr hq⟩,by simp,by simp,by simp,by simp⟩
 ·rename_i hd
  cases hv.eq_sc
  cases hu with
  | vs0 h0 =>
   have hq:q=none:=by simpa using h.symm
   rename_i cap a
   cases a with
   | none=>exact ⟨guard _ _ (by simp) (by simp),⟨_,qav hd _ _ _,.inr hq⟩,by simp,by simp,by simp,by simp⟩
   | some a=>exact ⟨guard _ _ (by simp) (by simp),⟨_,jq hd _ _ _ _,.inr hq⟩,by simp,by simp,by simp,by simp⟩
  | vs =>
   refine ⟨guard _ _ (by simp) (by simp),⟨_,jq hd _ _ _ _,?_⟩,by simp,by simp,by simp,by simp⟩
   split at h
   ·exact .inl (by simpa using h.symm)
   ·exact .inr (by simpa using h.symm)
 ·cases h
theorem qkx {t:TypeId} {u v:Value} {q:Bool} (h:(Op.equal t u v).run P w = .ok q w) (h1 : ∀ k n,u ≠ .int k n) (h2 : ∀ s,u ≠ .string s) (h3 : ∀ k n,u ≠ .float k n) (h4 : ∀ k a b,u ≠ .complex k a b) :
  (binOp .eql t u v).run P w = .ok (.bool q) w/\(binOp .neq t u v).run P w = .ok (.bool (!q)) w:=by
 cases u <;> simp[binOp,h] <;> first
  | (rename_i k n; exact absurd rfl (h1 k n))
  | (rename_i k n; exact absurd rfl (h3 k n))
  | (rename_i s; exact absurd rfl (h2 s))
  | (rename_i k a b; exact absurd rfl (h4 k a b))
theorem qgc {a:AV} {k:IntKind} {v:Value} (h:aint a=some k) (hv:VR ρ I w.heap a v) : ∃ n,v = .int k n:=by
 unfold aint at h
 split at h
 ·rename_i k' n
  cases h; cases hv.eq_sc; exact ⟨n,rfl⟩
 ·cases h; cases hv; exact ⟨_,rfl⟩
 ·cases h
theorem yV {op:BinOp} {t:TypeId} {x y:Operand} {k k' : IntKind} {m n:Int} : (do eqGuard op t x y (.int k m) (.int k' n); binOp op t (.int k m) (.int k' n):Sem Value)=binOp op t (.int k m) (.int k' n):=by
 unfold eqGuard
 cases op <;> rfl
theorem qff {a b r:AV} {q:IntKind->AV} {u v:Value} (h:aiBoth a b q=some r) (hu:VR ρ I w.heap a u) (hv:VR ρ I w.heap b v) : ∃ k m n,u = .int k m/\v = .int k n/\r=q k:=by
 unfold aiBoth at h
 split at h
 ·rename_i k k' h1 h2
  split at h
  ·rename_i e
   subst e
   cases h
   obtain ⟨m,rfl⟩:=qgc h1 hu
   obtain ⟨n,rfl⟩:=qgc h2 hv
   exact ⟨k,m,n,rfl,rfl,rfl⟩
  ·cases h
 ·cases h
theorem aiSh_run {a b r:AV} {u v:Value} (h:aiSh a b=some r) (hu:VR ρ I w.heap a u) (hv:VR ρ I w.heap b v) : ∃ k m k' n,0<=n/\u = .int k m/\v = .int k' n/\r = .ai k:=by
 unfold aiSh at h
 split at h
 ·rename_i k' n
  split at h
  ·rename_i hn
   simp only[Option.map_eq_some_iff] at h
   obtain ⟨k,h1,rfl⟩:=h
   obtain ⟨m,rfl⟩:=qgc h1 hu
   cases hv.eq_sc
   exact ⟨k,m,k',n,hn,rfl,rfl,rfl⟩
  ·cases h
 ·cases h
theorem qn8 {op:BinOp} {t:TypeId} {a b r:AV} {u v:Value} (h:aiBin op a b=some r) (hu:VR ρ I w.heap a u) (hv:VR ρ I w.heap b v) (x y:Operand) :
  ∃ z,(do eqGuard op t x y u v; binOp op t u v:Sem Value).run P w = .ok z w/\VR ρ I w.heap r z:=by
 cases op <;> simp only[aiBin] at h <;> first
  | (cases h; done)
  | (obtain ⟨k,m,n,rfl,rfl,rfl⟩:=qff (q:=.ai) h hu hv
     rw[yV]
     first
      | exact ⟨_,by simp[binOp,Op.intArith]; rfl,.ai k _⟩
      | exact ⟨_,by simp[binOp,Op.intBits]; rfl,.ai k _⟩)
  | (obtain ⟨k,m,n,rfl,rfl,rfl⟩:=qff (q:=fun _=>.ab) h hu hv
     rw[yV]
     exact ⟨_,by simp[binOp,Op.intCmp]; rfl,.ab _⟩)
  | (obtain ⟨k,m,k',n,hn,rfl,rfl,rfl⟩:=aiSh_run h hu hv
     rw[yV]
     have hn' : ¬ n<0:=oz
     exact ⟨_,by simp[binOp,Op.shift,hn']; rfl,.ai k _⟩)
theorem aun_run {op:UnOp} {a r:AV} {u:Value} (h:aun P op a=some r) (hu:VR ρ I w.heap a u) : ∃ z,(Op.unary op u).run P w = .ok z w/\VR ρ I w.heap r z:=by
 unfold aun at h
 split at h
 ·rename_i v hc
  simp only[Option.map_eq_some_iff] at h
  obtain ⟨z,h1,rfl⟩:=h
  cases qa3 hc hu
  exact ⟨z,jc h1 w,VR_ofV z⟩
 ·unfold aiUn at h
  split at h
  ·cases h; cases hu; exact ⟨_,by simp[Op.unary,Op.intArith]; rfl,.ai _ _⟩
  ·cases h; cases hu; exact ⟨_,by simp[Op.unary,Op.intBits]; rfl,.ai _ _⟩
  ·cases h; cases hu; rename_i q; exact ⟨.bool !q,rfl,.ab _⟩
  ·cases h
theorem acvt_run {src dst:TypeId} {a r:AV} {u:Value} (h:acvt P src dst a=some r) (hu:VR ρ I w.heap a u) : ∃ z,(convert src dst u).run P w = .ok z w/\VR ρ I w.heap r z:=by
 unfold acvt at h
 split at h
 ·rename_i v hc
  simp only[Option.map_eq_some_iff] at h
  obtain ⟨z,h1,rfl⟩:=h
  cases qa3 hc hu
  exact ⟨z,jc h1 w,VR_ofV z⟩
 ·unfold aiCvt at h
  split at h
  ·rename_i k0
   split at h
   ·rename_i d k hs hd
    cases h; cases hu
    rename_i n
    exact ⟨.int k (k.wrap n),by simp[convert,run_underlying hs,run_underlying hd,Conv.intToInt],.ai _ _⟩
   ·cases h
  ·cases h
theorem qje {w1:World} {c:Array Value} {e:TypeId} {fz:Nat × Nat} (h:Rel ρ I H w.heap) (h1:w1.heap=w.heap.push (.cells c e fz)) (hos:w1.os=w.os) (ht:w1.tape=w.tape) (ho:w1.output=w.output) :
  Rel ρ (fun cb=>I cb\/cb=w.heap.size) H w1.heap/\Ext ρ I w ρ (fun cb=>I cb\/cb=w.heap.size) w1:=by
 have hold : ∀ (cb:Nat) (o:Obj),w.heap[cb]? = some o->w1.heap[cb]? = some o:=fun cb o hc=>by
  rw[h1,Array.getElem?_push,if_neg (by have:=(Array.getElem?_eq_some_iff.1 hc).1; omega)]; exact hc
 have hsame : ∀ cb,cb<w.heap.size->w1.heap[cb]? = w.heap[cb]?:=fun cb hlt=>by
  rw[h1,Array.getElem?_push,if_neg oz]
 have hsz:w1.heap.size=w.heap.size+1:=by rw[h1]; simp
 have hx:Ext ρ I w ρ (fun cb=>I cb\/cb=w.heap.size) w1 :=
  { rho:=fun _ _ h=>h
    imm:=fun _ h=>.inl h
    size:=oz
    kept:=fun cb hcb=>hsame cb (h.irng cb hcb)
    blocks:=fun cb c e fz hcb=>⟨c,fz,hold _ _ hcb,rfl⟩
    frame:=fun cb hlt _=>hsame cb hlt
    newI:=fun cb h=>h.elim .inl fun e=>.inr (.inl (Nat.le_of_eq e.symm))
    newR:=fun _ _ _ h=>.inl h
    os:=hos
    tape:=ht
    output:=ho }
 refine ⟨⟨?_,h.inj,h.rng,?_,?_,h.glob.ext hx.imm hx.kept⟩,hx⟩
 ·intro b cs hb'
  rcases h.live b cs hb' with h2 | ⟨cb,base,c',e',h2,h3,⟨fz4,hf4,h4⟩,h5,h6⟩
  ·exact .inl h2
  ·refine .inr ⟨cb,base,c',e',h2,?_,⟨fz4,hf4,hold _ _ h4⟩,h5,fun i x hx'=>(h6 i x hx').mono hx⟩
   rintro (h7 | h7)
   ·exact h3 h7
   ·have:=(Array.getElem?_eq_some_iff.1 h4).1
    omega
 ·intro b cb base hb'
  obtain ⟨c',e',fz',hc'⟩:=h.at_ _ _ _ hb'
  exact ⟨c',e',fz',hold _ _ hc'⟩
 ·rintro cb (hcb | hcb)
  ·have:=h.irng _ hcb; omega
  ·omega
theorem qn9 (hr:Rel ρ I H w.heap) {src dst:TypeId} {a r:AV} {u:Value} (h:astrV P src dst a=some r) (hu:VR ρ I w.heap a u) :
  ∃ v w' I',(convert src dst u).run P w = .ok v w' /\ VR ρ I' w'.heap r v/\Rel ρ I' H w'.heap/\Ext ρ I w ρ I' w':=by
 unfold astrV at h
 split at h
 case h_2=>cases h
 rename_i s
 split at h
 case h_2=>cases h
 rename_i e hs hd
 split at h
 case h_2=>cases h
 rename_i he
 cases h
 cases hu.eq_sc
 have hge:s.size<=grownCap w s.size 0 e:=by simp[grownCap,Question.cut]
 have hrun:=run_bytes_of_string w src dst e s hs hd he
 have hsz:(bytesRow s (grownCap w s.size 0 e)).size=grownCap w s.size 0 e:=by
  simp[bytesRow]
  have:s.data.size=s.size:=rfl
  omega
 obtain ⟨k1,k2⟩:=qje (w:=w) hr (w1:=w.drew.alloc (.cells (bytesRow s (grownCap w s.size 0 e)) e ((bytesRow s (grownCap w s.size 0 e)).size,(bytesRow s (grownCap w s.size 0 e)).size+1))) rfl rfl rfl rfl
 refine ⟨_,_,_,hrun,?_,k1,k2⟩
 have hnew:(w.drew.alloc (.cells (bytesRow s (grownCap w s.size 0 e)) e ((bytesRow s (grownCap w s.size 0 e)).size,(bytesRow s (grownCap w s.size 0 e)).size+1))).heap[w.heap.size]? = some (.cells (bytesRow s (grownCap w s.size 0 e)) e ((bytesRow s (grownCap w s.size 0 e)).size,(bytesRow s (grownCap w s.size 0 e)).size+1)):=by show (w.heap.push _)[w.heap.size]? = _; simp
 have hlen:(strV s).length=s.size:=by simp[strV]
 refine VR.vs (.inr rfl) hge hnew (by rw[hlen,Nat.mul_one]) (by rw[hlen,hsz]; omega) ?_
 intro i x hx
 rw[Nat.zero_add]
 simp only[strV,List.getElem?_map,Option.map_eq_some_iff] at hx
 obtain ⟨b,hb,rfl⟩:=hx
 have hi:i<s.data.size:=by
  have:=(List.getElem?_eq_some_iff.1 hb).1
  simpa using this
 have e1:(bytesRow s (grownCap w s.size 0 e)).getD i Go.undef = .int .u8 b.toNat:=by
  simp only[bytesRow,Array.getD_eq_getD_getElem?]
  rw[Array.getElem?_append_left (by simpa using hi)]
  simp at hb
  simp[hb]
 rw[e1]; exact .sc _
theorem qoa (hr:Rel ρ I H w.heap) {src dst:TypeId} {a r:AV} {u:Value} {H' : Heap} (h:astrB P H src dst a=some (r,H')) (hu:VR ρ I w.heap a u) :
  ∃ v w' ρ',(convert src dst u).run P w = .ok v w' /\ VR ρ' I w'.heap r v/\Rel ρ' I H' w'.heap/\Ext ρ I w ρ' I w':=by
 unfold astrB at h
 cases h
theorem abin_run {op:BinOp} {t:TypeId} {x y:Operand} {a b r:AV} {u v:Value} (h:abin P op t x y a b=some r) (hu:VR ρ I w.heap a u) (hv:VR ρ I w.heap b v) :
  ∃ z,(do eqGuard op t x y u v; binOp op t u v:Sem Value).run P w = .ok z w/\VR ρ I w.heap r z:=by
 unfold abin at h
 split at h
 ·rename_i u' v' h1 h2
  cases qa3 h1 hu
  cases qa3 h2 hv
  simp only[Option.map_eq_some_iff] at h
  obtain ⟨z,h3,rfl⟩:=h
  exact ⟨z,jc h3 w,VR_ofV z⟩
 ·split at h
  ·rename_i r' hr'
   cases h
   unfold aeqn at hr'
   split at hr'
   ·simp only[Option.map_eq_some_iff] at hr'
    obtain ⟨q,h3,rfl⟩:=hr'
    obtain ⟨k1,⟨q',k2,hq⟩,k3,k4,k5,k6⟩:=qfe h3 hu hv x y .eql
    refine ⟨.bool q',by simp[k1,(qkx k2 k3 k4 k5 k6).1],?_⟩
    rcases hq with rfl | rfl
    ·exact .sc _
    ·exact .ab _
   ·simp only[Option.map_eq_some_iff] at hr'
    obtain ⟨q,h3,rfl⟩:=hr'
    obtain ⟨k1,⟨q',k2,hq⟩,k3,k4,k5,k6⟩:=qfe h3 hu hv x y .neq
    refine ⟨.bool (!q'),by simp[k1,(qkx k2 k3 k4 k5 k6).2],?_⟩
    rcases hq with rfl | rfl
    ·exact .sc _
    ·exact .ab _
   ·cases hr'
  ·exact qn8 h hu hv x y
theorem qhs {xs:List AV} {vs:List Value} (h:concs xs=some vs) : ∀ {ys:Array Value},VRs ρ I w.heap xs ys->ys=vs.toArray:=by
 induction xs generalizing vs with
 | nil =>
  intro ys hy
  simp only[concs,Option.some.injEq] at h
  subst h
  exact Array.size_eq_zero_iff.1 hy.1.symm
 | cons x xs ih =>
  intro ys hy
  simp only[concs] at h
  cases hx:conc x with
  | none=>simp[hx] at h
  | some v =>
   simp only[hx,Option.bind_some,Option.map_eq_some_iff] at h
   obtain ⟨vs',h1,rfl⟩:=h
   have hlen:=hy.1
   simp only[List.length_cons] at hlen
   have h0:=hy.2 0 x rfl
   have e0:=qa3 hx h0
   have htl:VRs ρ I w.heap xs (ys.toList.drop 1).toArray:=by
    refine ⟨by simp; omega,fun i z hz=>?_⟩
    have:=hy.2 (i+1) z (by simpa using hz)
    simpa [Array.getD_eq_getD_getElem?,Nat.add_comm] using this
   have e1:=ih h1 htl
   apply Array.ext'
   have hpos:0<ys.size:=oz
   have:ys.toList=ys[0]::ys.toList.drop 1:=by
    cases hyl:ys.toList with
    | nil=>have:ys.size=0:=by simpa using congrArg List.length hyl
           omega
    | cons p q=>have:ys[0]=p:=by
                    have:=congrArg (fun l=>l[0]?) hyl
                    simp[hpos] at this; exact this
                simp[this]
   rw[this]
   have e2:ys[0]=v:=by simpa [Array.getD_eq_getD_getElem?,hpos] using e0
   have e3:ys.toList.drop 1=vs':=by simpa using congrArg Array.toList e1
   rw[e2,e3]
end
end Go.Fl
