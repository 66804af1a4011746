/- Texts and rows of bytes at this seat; the operations on texts. -/
import Derived.Test.YtfokgjhdndnnhaaGreatDoorFl25
import Derived.Test.YtfokgjhdndnnhaaGreatDoorFl51
import Derived.ChangeKeysEq
set_option linter.unusedVariables false
set_option linter.unusedSimpArgs false
set_option maxRecDepth 20000
noncomputable section B0S
namespace Go.Proofs.YtfokgjhdndnnhaaGreatDoor
open Go Go.Fl Go.Proofs
@[go_sem] theorem next_empty:Heap.empty.next=0:=rfl
@[go_sem] theorem qmy (b:Nat):Heap.empty.get b=none:=rfl
@[go_sem] theorem srun_pure {α : Type} (P:Program) (v : α):srun P (pure v:Sem α)=some v:=rfl
theorem qP (H:Heap):Heap.empty.le H:=fun b cs hb=>by rw[qmy] at hb; cases hb
def bs (l:List UInt8):ByteArray:=⟨l.toArray⟩
theorem bs_data (l:List UInt8):(bs l).data.toList=l:=by simp[bs]
theorem bs_of (s:ByteArray):s=bs s.data.toList:=by cases s; simp[bs]
@[go_sem] theorem bs_toList (l:List UInt8):(bs l).toList=l:=by rw[ByteArray.toList_eq,bs_data]
@[go_sem] theorem mk_toList (a:Array UInt8):(ByteArray.mk a).toList=a.toList:=ByteArray.toList_eq _
@[go_sem] theorem bs_size (l:List UInt8):(bs l).size=l.length:=by simp[bs,ByteArray.size]
abbrev sA (l:List UInt8):AV:=.sc (.string (bs l))
def bV (l:List UInt8):List AV:=l.map fun n=>.sc (.int .u8 n.toNat)
theorem qQ (l:List UInt8):(bV l).length=l.length:=by simp[bV]
def bA (l:List UInt8):AV:=.vs l.length 1 (bV l)
theorem qgu (l:List UInt8) (n:Nat):(bA l).Lt n=True:=by simp[bA,go_sem,bV]
theorem jF (a b:List UInt8):bV (a++b)=bV a++bV b:=by simp[bV]
theorem qmz (l:List UInt8) (i:Nat):(bV l).drop i=bV (l.drop i):=by simp[bV,List.map_drop]
theorem u8s_bV (l:List UInt8):u8s (bV l)=some (l.map fun b=>(b.toNat:Int)):=by
 induction l with
 | nil=>rfl
 | cons n l ih=>simp only[bV,List.map_cons,u8s]; simp only[bV] at ih; rw[ih]; rfl
theorem strOf_bs (l:List UInt8):strOf (l.map fun b=>(b.toNat:Int))=bs l:=by
 have key : ∀ (l:List UInt8) (r:ByteArray),((l.map fun b=>(b.toNat:Int)).foldl (fun r n=>r.push (UInt8.ofNat n.toNat)) r).data.toList=r.data.toList++l:=by
  intro l
  induction l with
  | nil=>intro r; simp
  | cons x l ih=>intro r; rw[List.map_cons,List.foldl_cons,ih]; simp[ByteArray.push]
 rw[bs_of (strOf _)]
 congr 1
 rw[strOf,key]; rfl
theorem yc (l:List UInt8):(bV l).all AV.leaf=true:=by simp[bV,AV.leaf]
theorem ja (l:List UInt8) (n:Nat) : ∀ x∈bV l,x.Lt n:=by
 intro x hx
 simp only[bV,List.mem_map] at hx
 obtain ⟨b,_,rfl⟩:=hx
 exact .sc _
theorem und9:Tryz.prog.underlying 9=some .string:=kz
@[go_sem] theorem str_len (s:ByteArray):srun Tryz.prog (Builtin.len_ #[9] 3 #[.string s])=some (.int .i64 s.size):=by
 show srun Tryz.prog (underlying 9 >>= fun d=>_)=_
 rw[qbn _ _ _ _ (jR und9)]
 rfl
@[go_sem] theorem alen_str (s:ByteArray):alen Tryz.prog 9 (.sc (.string s))=none:=by simp[alen,und9]
@[go_sem] theorem alen_vs25 (n s:Nat) (c:List AV):alen Tryz.prog 25 (.vs n s c)=some (.int n):=by simp[alen,tU25]
@[go_sem] theorem alen_ms25 (b o n s:Nat):alen Tryz.prog 25 (.ms b o n s)=some (.int n):=by simp[alen,tU25]
@[go_sem] theorem alen_nil25:alen Tryz.prog 25 .nil=some (.int 0):=by simp[alen,tU25]
@[go_sem] theorem alen_vs84 (n s:Nat) (c:List AV):alen Tryz.prog 84 (.vs n s c)=some (.int n):=by simp[alen,tU84]
@[go_sem] theorem alen_ms84 (b o n s:Nat):alen Tryz.prog 84 (.ms b o n s)=some (.int n):=by simp[alen,tU84]
@[go_sem] theorem alen_nil84:alen Tryz.prog 84 .nil=some (.int 0):=by simp[alen,tU84]
@[go_sem] theorem alen_vs73 (n s:Nat) (c:List AV):alen Tryz.prog 73 (.vs n s c)=some (.int n):=by simp[alen,tU73]
@[go_sem] theorem alen_ms73 (b o n s:Nat):alen Tryz.prog 73 (.ms b o n s)=some (.int n):=by simp[alen,tU73]
@[go_sem] theorem alen_nil73:alen Tryz.prog 73 .nil=some (.int 0):=by simp[alen,tU73]
@[go_sem] theorem alen_vs194 (n s:Nat) (c:List AV):alen Tryz.prog 194 (.vs n s c)=some (.int n):=by simp[alen,tU194]
@[go_sem] theorem alen_ms194 (b o n s:Nat):alen Tryz.prog 194 (.ms b o n s)=some (.int n):=by simp[alen,tU194]
@[go_sem] theorem alen_nil194:alen Tryz.prog 194 .nil=some (.int 0):=by simp[alen,tU194]
@[go_sem] theorem alen_vs203 (n s:Nat) (c:List AV):alen Tryz.prog 203 (.vs n s c)=some (.int n):=by simp[alen,tU203]
@[go_sem] theorem alen_ms203 (b o n s:Nat):alen Tryz.prog 203 (.ms b o n s)=some (.int n):=by simp[alen,tU203]
@[go_sem] theorem alen_nil203:alen Tryz.prog 203 .nil=some (.int 0):=by simp[alen,tU203]
@[go_sem] theorem alen_vs38 (n s:Nat) (c:List AV):alen Tryz.prog 38 (.vs n s c)=some (.int n):=by simp[alen,tU38]
@[go_sem] theorem alen_ms38 (b o n s:Nat):alen Tryz.prog 38 (.ms b o n s)=some (.int n):=by simp[alen,tU38]
@[go_sem] theorem alen_nil38:alen Tryz.prog 38 .nil=some (.int 0):=by simp[alen,tU38]
@[go_sem] theorem alen_vs88 (n s:Nat) (c:List AV):alen Tryz.prog 88 (.vs n s c)=some (.int n):=by simp[alen,tU88]
@[go_sem] theorem alen_ms88 (b o n s:Nat):alen Tryz.prog 88 (.ms b o n s)=some (.int n):=by simp[alen,tU88]
@[go_sem] theorem alen_nil88:alen Tryz.prog 88 .nil=some (.int 0):=by simp[alen,tU88]
theorem qF (n:Nat) (h:n<1099511627776):IntKind.i64.wrap ((n:Int)+1)=((n+1:Nat):Int):=by rw[IntWalk.i64_in _ oz]; rfl
def iV (l:List Nat):List AV:=l.map fun (n:Nat)=>.int (n:Int)
theorem qK (l:List Nat):(iV l).length=l.length:=by simp[iV]
def iA (l:List Nat):AV:=.vs l.length 1 (iV l)
theorem qgv (a b:List Nat):iV (a++b)=iV a++iV b:=by simp[iV]
theorem qm0 (l:List Nat) (i:Nat):(iV l).drop i=iV (l.drop i):=by simp[iV,List.map_drop]
theorem qfy (l:List Nat) (i:Nat):(iV l).take i=iV (l.take i):=by simp[iV,List.map_take]
theorem qdn (l:List Nat):(iV l).all AV.leaf=true:=by simp[iV,AV.leaf]
theorem jb (l:List Nat) (n:Nat) : ∀ x∈iV l,x.Lt n:=by
 intro x hx
 simp only[iV,List.mem_map] at hx
 obtain ⟨b,_,rfl⟩:=hx
 exact .sc _
theorem zI (l:List Nat) (n:Nat):(iA l).Lt n=True:=by simp[iA,go_sem,iV]
theorem qlm {l:List Nat} {i n:Nat} (h:l[i]? = some n) : ∃ r,(iV l).drop i = .int (n:Int)::r:=by
 have hi:=List.getElem?_eq_some_iff.1 h
 refine ⟨iV (l.drop (i+1)),?_⟩
 unfold iV
 rw[<- List.map_drop,List.drop_eq_getElem_cons hi.1,hi.2]
 rfl
theorem zA (l:List Nat) (i:Nat) (h:i<l.length) (v:Nat):(iV l).take i ++ .int (v:Int)::(iV l).drop (i+1)=iV (l.set i v):=by
 unfold iV
 rw[List.set_eq_take_append_cons_drop,if_pos h]
 simp
theorem bV_at {l:List UInt8} {i:Nat} {n:UInt8} (h:l[i]? = some n) : ∃ r,(bV l).drop i = .sc (.int .u8 n.toNat)::r:=by
 have hi:=List.getElem?_eq_some_iff.1 h
 refine ⟨bV (l.drop (i+1)),?_⟩
 unfold bV
 rw[<- List.map_drop,List.drop_eq_getElem_cons hi.1,hi.2]
 rfl
theorem qgw {α : Type} (l:List α) (i:Nat) (h:i<l.length) : ∃ e,l[i]? = some e:=⟨l[i],by simp[h]⟩
theorem i64in (n:Int) (h0 : -1099511627776<=n) (h1:n<=1099511627776):IntKind.i64.wrap n=n:=IntWalk.i64_in _ oz
end Go.Proofs.YtfokgjhdndnnhaaGreatDoor
end B0S
namespace Go.Fl
def natBits:Nat->Nat->List Bool
 | 0,_=>[]
 | n+1,x=>(x%2==1)::natBits n (x/2)
def ofBits:List Bool->Nat
 | []=>0
 | b::r=>b.toNat+2*ofBits r
theorem qB (n:Nat) : ∀ x,(natBits n x).length=n:=by
 induction n with
 | zero=>intro x; rfl
 | succ n ih=>intro x; simp[natBits,ih]
theorem qb9 (n:Nat) : ∀ x,x<2^n->ofBits (natBits n x)=x:=by
 induction n with
 | zero=>intro x h; simp at h; subst h; rfl
 | succ n ih =>
  intro x h
  simp only[natBits,ofBits]
  rw[ih (x/2) (by rw[Nat.pow_succ] at h; omega)]
  rcases Nat.mod_two_eq_zero_or_one x with h2 | h2
  ·rw[h2]; simp; omega
  ·rw[h2]; simp; omega
theorem yS : ∀ l:List Bool,ofBits l<2^l.length
 | []=>by simp[ofBits]
 | b::r=>by
  have:=yS r
  simp only[ofBits,List.length_cons,Nat.pow_succ]
  cases b <;> simp <;> omega
theorem qey : ∀ l:List Bool,natBits l.length (ofBits l)=l
 | []=>rfl
 | b::r=>by
  simp only[List.length_cons,natBits,ofBits]
  have h1:(b.toNat+2*ofBits r)/2=ofBits r:=by cases b <;> simp <;> omega
  have h2:((b.toNat+2*ofBits r)%2==1)=b:=by cases b <;> simp <;> omega
  rw[h1,h2,qey r]
theorem qgx (n:Nat) : ∀ x,natBits (n+1) x=natBits n x ++ [x/2^n%2==1]:=by
 induction n with
 | zero=>intro x; simp[natBits]
 | succ n ih =>
  intro x
  rw[natBits,ih (x/2),natBits,List.cons_append]
  have:x/2/2^n=x/2^(n+1):=by rw[Nat.div_div_eq_div_mul,Nat.pow_succ,Nat.mul_comm]
  rw[this]
theorem qez (a b:List Bool):ofBits (a++b)=ofBits a+2^a.length*ofBits b:=by
 induction a with
 | nil=>simp[ofBits]
 | cons x a ih =>
  simp only[List.cons_append,ofBits,ih,List.length_cons,Nat.pow_succ,Nat.mul_add]
  rw[Nat.mul_assoc,Nat.mul_left_comm (2^a.length) 2]
  omega
theorem qi1 (n m x y:Nat) (h:x<2^n):natBits (n+m) (x+2^n*y)=natBits n x++natBits m y:=by
 induction n generalizing x with
 | zero=>simp at h; subst h; simp[natBits]
 | succ n ih =>
  have e:n+1+m=(n+m)+1:=oz
  rw[e,natBits,natBits,List.cons_append]
  have h1:(x+2^(n+1)*y)/2=x/2+2^n*y:=by rw[Nat.pow_succ,Nat.mul_right_comm]; omega
  have h2:(x+2^(n+1)*y)%2=x%2:=by rw[Nat.pow_succ,Nat.mul_right_comm]; omega
  rw[h1,h2,ih (x/2) (by rw[Nat.pow_succ] at h; omega)]
def byteBits (b:UInt8):List Bool:=natBits 8 b.toNat
def unpack (l:List UInt8):List Bool:=l.flatMap byteBits
def packN:Nat->List Bool->List UInt8
 | 0,_=>[]
 | k+1,l=>UInt8.ofNat (ofBits (l.take 8))::packN k (l.drop 8)
def bytesOf (n:Nat):Nat:=(n+7)/8
def pack (l:List Bool):List UInt8:=packN (bytesOf l.length) l
theorem qm1 (k:Nat) : ∀ l,(packN k l).length=k:=by
 induction k with
 | zero=>intro l; rfl
 | succ k ih=>intro l; simp[packN,ih]
theorem zF (l:List Bool):(pack l).length=bytesOf l.length:=qm1 _ _
theorem zo (l:List UInt8):(unpack l).length=8*l.length:=by
 induction l with
 | nil=>rfl
 | cons b l ih=>simp only[unpack,List.flatMap_cons,List.length_append,List.length_cons] at ih |-; rw[ih,byteBits,qB]; omega
theorem qln (a b:List UInt8):unpack (a++b)=unpack a++unpack b:=by simp[unpack]
theorem qi2 (l:List Bool) (n:Nat) (h:l.length<=n):natBits n (ofBits l)=l++List.replicate (n-l.length) false:=by
 have hz : ∀ m,natBits m 0=List.replicate m false:=by
  intro m
  induction m with
  | zero=>rfl
  | succ m ih=>simp[natBits,ih,List.replicate_succ]
 have:=qi1 l.length (n-l.length) (ofBits l) 0 (yS l)
 rw[show l.length+(n-l.length)=n by omega,Nat.mul_zero,Nat.add_zero,qey,hz] at this
 exact this
theorem qi3 (l:List Bool) (h:l.length<=8):byteBits (UInt8.ofNat (ofBits l))=l++List.replicate (8-l.length) false:=by
 unfold byteBits
 have h2:ofBits l<256:=Nat.lt_of_lt_of_le (yS l) (Nat.pow_le_pow_right dz h:2^l.length<=2^8)
 have:(UInt8.ofNat (ofBits l)).toNat=ofBits l:=by simp; omega
 rw[this,qi2 l 8 h]
theorem qgy (k:Nat) : ∀ l:List Bool,l.length<=8*k->unpack (packN k l)=l++List.replicate (8*k-l.length) false:=by
 induction k with
 | zero=>intro l h; simp at h; subst h; rfl
 | succ k ih =>
  intro l h
  simp only[packN,unpack,List.flatMap_cons]
  have ih':=ih (l.drop 8) (by simp; omega)
  unfold unpack at ih'
  rw[ih',qi3 _ (by simp; omega)]
  by_cases h8:8<=l.length
  ·have e1:(l.take 8).length=8:=by simp; omega
   rw[e1]
   simp only[Nat.sub_self,List.replicate_zero,List.append_nil]
   rw[<- List.append_assoc,List.take_append_drop]
   congr 2
   simp; omega
  ·have e1:l.drop 8 = []:=List.drop_eq_nil_of_le oz
   have e2:l.take 8=l:=List.take_of_length_le oz
   rw[e1,e2]
   simp only[List.nil_append,List.length_nil,Nat.sub_zero,List.append_assoc,List.replicate_append_replicate]
   congr 2
   omega
def padN (n:Nat):Nat:=8*bytesOf n-n
theorem unpack_pack (l:List Bool):unpack (pack l)=l++List.replicate (padN l.length) false:=by
 unfold pack padN
 exact qgy _ l (by unfold bytesOf; omega)
theorem qlo (b:UInt8):UInt8.ofNat (ofBits (byteBits b))=b:=by
 unfold byteBits
 rw[qb9 8 _ b.toNat_lt]
 simp
theorem qgz (l:List UInt8):packN l.length (unpack l)=l:=by
 induction l with
 | nil=>rfl
 | cons b l ih =>
  have hl:(byteBits b).length=8:=qB 8 _
  simp only[List.length_cons,packN,unpack,List.flatMap_cons]
  rw[List.take_append_of_le_length oz,List.take_of_length_le oz,qlo,List.drop_append_of_le_length oz,List.drop_eq_nil_of_le (by omega:(byteBits b).length<=8),List.nil_append]
  congr 1
theorem yH (l:List UInt8):pack (unpack l)=l:=by
 unfold pack
 have:bytesOf (unpack l).length=l.length:=by rw[zo]; unfold bytesOf; omega
 rw[this]
 exact qgz l
theorem qm2 (k m:Nat) : ∀ a b:List Bool,a.length=8*k->packN (k+m) (a++b)=packN k a++packN m b:=by
 induction k with
 | zero=>intro a b h; simp at h; subst h; simp[packN]
 | succ k ih =>
  intro a b h
  rw[show k+1+m=(k+m)+1 by omega,packN,packN,List.cons_append]
  rw[List.take_append_of_le_length oz,List.drop_append_of_le_length oz,ih _ b (by simp; omega)]
theorem qfz (a b:List Bool) (h:a.length%8=0):pack (a++b)=pack a++pack b:=by
 unfold pack
 have e:bytesOf (a++b).length=bytesOf a.length+bytesOf b.length:=by rw[List.length_append]; unfold bytesOf; omega
 rw[e]
 exact qm2 _ _ a b (by unfold bytesOf; omega)
theorem qe0 (l:List Bool) (h1:0<l.length) (h:l.length<=8):pack l = [UInt8.ofNat (ofBits l)]:=by
 unfold pack
 have e:bytesOf l.length=1:=by unfold bytesOf; omega
 rw[e]
 simp only[packN]
 rw[List.take_of_length_le h]
theorem qm3 (l:List Bool) (b:Bool):pack (l ++ [b])=pack (l.take (l.length/8*8)) ++ [UInt8.ofNat (ofBits (l.drop (l.length/8*8))+b.toNat*2^(l.length%8))]:=by
 have hsplit:l ++ [b]=l.take (l.length/8*8)++(l.drop (l.length/8*8) ++ [b]):=by rw[<- List.append_assoc,List.take_append_drop]
 have hd:(l.drop (l.length/8*8)).length=l.length%8:=by simp; omega
 rw[hsplit,qfz _ _ (by rw[List.length_take,Nat.min_eq_left oz]; omega),qe0 (l.drop (l.length/8*8) ++ [b]) (by simp) (by rw[List.length_append,hd]; simp; omega),qez,hd]
 simp only[ofBits]
 congr 4
 cases b <;> simp
theorem qm4 (l:List Bool) (h:0<l.length%8):pack l=pack (l.take (l.length/8*8)) ++ [UInt8.ofNat (ofBits (l.drop (l.length/8*8)))]:=by
 have hd:(l.drop (l.length/8*8)).length=l.length%8:=by simp; omega
 have:=qfz (l.take (l.length/8*8)) (l.drop (l.length/8*8)) (by rw[List.length_take,Nat.min_eq_left oz]; omega)
 rw[List.take_append_drop,qe0 (l.drop _) oz oz] at this
 exact this
theorem qlp (l:List Bool) (h:l.length%8=0):pack l=pack (l.take (l.length/8*8)):=by
 rw[List.take_of_length_le oz]
end Go.Fl
set_option maxRecDepth 20000
noncomputable section W1S
namespace Go.Proofs.YtfokgjhdndnnhaaGreatDoor
open Go Go.Fl Go.Proofs
def atF:AV:=.fn (.func 70) [.agg [.bool false]] []
structure Step (S:Nat->Prop) (H H' : Heap):Prop where
 le:H.next<=H'.next
 keep : ∀ b c,S b->H.get b=some c->H'.get b=some c
 cont : ∀ b cs,H'.get b=some cs->H.get b=some cs \/ ∀ x∈cs,x.Lt H'.next
theorem Step.refl (S:Nat->Prop) (H:Heap):Step S H H:=⟨Nat.le_refl _,fun _ _ _ h=>h,fun _ _ h=>.inl h⟩
theorem Step.trans {S:Nat->Prop} {H H1 H2:Heap} (h:Step S H H1) (k:Step S H1 H2):Step S H H2:=by
 refine ⟨Nat.le_trans h.le k.le,fun b c hs hb=>k.keep b c hs (h.keep b c hs hb),fun b cs hb=>?_⟩
 rcases k.cont b cs hb with h1 | h1
 ·rcases h.cont b cs h1 with h2 | h2
  ·exact .inl h2
  ·exact .inr fun x hx=>(h2 x hx).mono k.le
 ·exact .inr h1
theorem Step.mono {S S' : Nat->Prop} {H H' : Heap} (h:Step S H H') (hm : ∀ b,S' b->S b):Step S' H H':=⟨h.le,fun b c hs hb=>h.keep b c (hm b hs) hb,h.cont⟩
theorem Step.alloc {S:Nat->Prop} {H H' : Heap} (h:Step S H H') {v:List AV} (hv : ∀ x∈v,x.Lt (H'.next+1)):Step S H (H'.alloc v):=by
 refine h.trans ⟨by rw[Heap.next_alloc]; omega,fun b c _ hb=>?_,fun b cs hb=>?_⟩
 ·rw[Heap.get_alloc,if_neg (by have:=Heap.lt_of_get hb; omega)]
  exact hb
 ·rw[Heap.get_alloc] at hb
  split at hb
  ·cases hb; exact .inr fun x hx=>by rw[Heap.next_alloc]; exact hv x hx
  ·exact .inl hb
theorem Step.set {S:Nat->Prop} {H H' : Heap} (h:Step S H H') {b:Nat} {v:List AV} (hb : ¬ S b) (hv : ∀ x∈v,x.Lt H'.next):Step S H (H'.set b v):=by
 refine h.trans ⟨Nat.le_refl _,fun k c hs hk=>?_,fun k cs hk=>?_⟩
 ·rw[Heap.get_set,if_neg (by rintro rfl; exact hb hs)]
  exact hk
 ·rw[Heap.get_set] at hk
  split at hk
  ·cases hg:H'.get k with
   | none=>rw[hg] at hk; cases hk
   | some c=>rw[hg] at hk; cases hk; exact .inr fun x hx=>hv x hx
  ·exact .inl hk
theorem Step.del {S:Nat->Prop} {H H' : Heap} (h:Step S H H') {bo:Option Nat} (hb : ∀ b,bo=some b -> ¬ S b):Step S H (H'.delo bo):=by
 refine h.trans ⟨by rw[Heap.delo_next]; exact Nat.le_refl _,fun k c hs hk=>?_,fun k cs hk=>.inl (H'.delo_le bo k cs hk)⟩
 cases bo with
 | none=>exact hk
 | some x =>
  show (H'.del x).get k=_
  rw[Heap.get_del,if_neg (by rintro rfl; exact hb _ rfl hs)]
  exact hk
theorem Step.regrow {S:Nat->Prop} {H H' : Heap} (h:Step S H H') {bo:Option Nat} {v:List AV} (hb : ∀ b,bo=some b -> ¬ S b) (hv : ∀ x∈v,x.Lt (H'.next+1)):Step S H (H'.regrow bo v):=by
 unfold Heap.regrow
 exact (h.del hb).alloc (by rw[Heap.delo_next]; exact hv)
theorem Step.get {S:Nat->Prop} {H H' : Heap} (h:Step S H H') {b:Nat} {c:List AV} (hb:H.get b=some c) (hn:S b):H'.get b=some c:=h.keep b c hn hb
theorem Step.retP {P:Program} {fn:Func} {S:Nat->Prop} {H:Heap} {env:Env} {H1:Heap} {r:AV} {post:AV->Heap->Prop} (h:Step S H H1) (h1:aresults P fn env H1=some r) (hp:post r H1) (hr:r.Lt H1.next):RetP P fn H env H1 post:=ret_all h1 hp h.le hr h.cont
def WrN (S:Nat->Prop) (H:Heap) (w:Nat) (l:List Bool):Prop := ∃ x,¬ S w/\H.get w=some [x,.int l.length,atF]/\l.length<=1073741824/\((x = .nil/\l = []) \/ ∃ q,¬ S q/\q≠w/\x = .ms q 0 (pack l).length 1/\H.get q=some (bV (pack l))) /\ ∀ b,S b->b<H.next
theorem WrN.mono {S S' : Nat->Prop} {H:Heap} {w:Nat} {l:List Bool} (h:WrN S H w l) (hs : ∀ b,S' b->S b):WrN S' H w l:=by
 obtain ⟨x,h1,h2,h3,h4,h5⟩:=h
 refine ⟨x,fun e=>h1 (hs _ e),h2,h3,?_,fun b hb=>h5 b (hs b hb)⟩
 rcases h4 with h4 | ⟨q,q1,q2,q3,q4⟩
 ·exact .inl h4
 ·exact .inr ⟨q,fun e=>q1 (hs _ e),q2,q3,q4⟩
theorem WrN.add {S:Nat->Prop} {H:Heap} {w:Nat} {l:List Bool} (h:WrN S H w l) (v:List AV):WrN (fun b=>S b\/b=H.next) (H.alloc v) w l:=by
 obtain ⟨x,h1,h2,h3,h4,h5⟩:=h
 have hw:=Heap.lt_of_get h2
 refine ⟨x,fun e=>e.elim h1 oz,by rw[Heap.get_alloc,if_neg oz]; exact h2,h3,?_,fun b hb=>?_⟩
 ·rcases h4 with h4 | ⟨q,q1,q2,q3,q4⟩
  ·exact .inl h4
  ·have hq:=Heap.lt_of_get q4
   exact .inr ⟨q,fun e=>e.elim q1 oz,q2,q3,by rw[Heap.get_alloc,if_neg oz]; exact q4⟩
 ·rw[Heap.next_alloc]
  rcases hb with hb | hb
  ·have:=h5 b hb; omega
  ·omega
theorem WrN.set {S:Nat->Prop} {H:Heap} {w:Nat} {l:List Bool} (h:WrN S H w l) {b:Nat} (hb:S b) (v:List AV):WrN S (H.set b v) w l:=by
 obtain ⟨x,h1,h2,h3,h4,h5⟩:=h
 refine ⟨x,h1,by rw[Heap.get_set,if_neg (by rintro rfl; exact h1 hb)]; exact h2,h3,?_,h5⟩
 rcases h4 with h4 | ⟨q,q1,q2,q3,q4⟩
 ·exact .inl h4
 ·exact .inr ⟨q,q1,q2,q3,by rw[Heap.get_set,if_neg (by rintro rfl; exact q1 hb)]; exact q4⟩
theorem WrN.keep {S S' : Nat->Prop} {H H' : Heap} {w:Nat} {l:List Bool} (h:WrN S H w l) (hk:Step S' H H') (hs : ∀ b,b<H.next->S' b):WrN S H' w l:=by
 obtain ⟨x,h1,h2,h3,h4,h5⟩:=h
 refine ⟨x,h1,hk.get h2 (hs _ (Heap.lt_of_get h2)),h3,?_,fun b hb=>Nat.lt_of_lt_of_le (h5 b hb) hk.le⟩
 rcases h4 with h4 | ⟨q,q1,q2,q3,q4⟩
 ·exact .inl h4
 ·exact .inr ⟨q,q1,q2,q3,hk.get q4 (hs _ (Heap.lt_of_get q4))⟩
def rdC (b:List UInt8) (p:Nat):List AV:=[bA b,.int p,atF]
theorem qka (b:List UInt8) (p n:Nat) : ∀ x∈rdC b p,x.Lt n:=by simp[rdC,qgu,atF,go_sem]
theorem at_s (k n:Int):SCalls Tryz.prog 70 [.agg [.bool false],.int k,.int n] Heap.empty (.int k) Heap.empty:=by
 refine qE (sz:=14) (Tryz.call70) Tryz.func70 rfl (Nat.zero_le _) kz (fun R hR=>?_)
 refine qg (fun K1 hK1=>?_)
 refine qi kz ?_
 simp[go_sem]
 refine hK1 _ _ ?_
 try clear hK1 K1
 refine qg (fun K2 hK2=>?_)
 refine qg (fun K3 hK3=>?_)
 refine qi kz ?_
 simp[go_sem]
 refine hK3 _ _ ?_
 try clear hK3 K3
 refine qj (b:=false) gz (fun h=>by cases h) (fun _=>?_)
 refine ql ?_
 refine hK2 _ _ ?_
 try clear hK2 K2
 refine qg (fun K4 hK4=>?_)
 refine qi kz ?_
 simp[go_sem]
 refine hK4 _ _ ?_
 try clear hK4 K4
 refine qx ?_
 simp only[go_sem]
 refine hR _ _ ?_
 exact qG gz (qP _) (Nat.zero_le _) gz
theorem at_H (k n:Int) (H:Heap):SCalls Tryz.prog 70 [.agg [.bool false],.int k,.int n] H (.int k) H:=qO (at_s k n) gz gz H
theorem qg0 {H:Heap} {w:Nat} {x y z:AV} {fs cs:List AV} {f:Fn} (gw:H.get w=some [x,y,.fn f fs cs]):SCalls Tryz.prog 49 [.ptr w 0] H (.bool true) H:=by
 refine qE (sz:=12) (Tryz.call49) Tryz.func49 rfl (Nat.le_refl _) kz (fun R hR=>?_)
 refine qg (fun K1 hK1=>?_)
 refine qi kz ?_
 simp[go_sem]
 refine hK1 _ _ ?_
 try clear hK1 K1
 refine qg (fun K2 hK2=>?_)
 refine qi kz ?_
 simp[go_sem,gw]
 refine hK2 _ _ ?_
 try clear hK2 K2
 refine qx ?_
 simp only[go_sem]
 refine hR _ _ ?_
 exact qG gz (Heap.le_refl _) (Nat.le_refl _) gz
theorem wlen_w {H:Heap} {w:Nat} {x z:AV} {n:Int} {fs cs:List AV} {f:Fn} (gw:H.get w=some [x,.int n,.fn f fs cs]):SCalls Tryz.prog 48 [.ptr w 0] H (.int n) H:=by
 refine qE (sz:=10) (Tryz.call48) Tryz.func48 rfl (Nat.le_refl _) kz (fun R hR=>?_)
 refine qg (fun K1 hK1=>?_)
 refine qi kz ?_
 simp[go_sem]
 refine hK1 _ _ ?_
 try clear hK1 K1
 refine qg (fun K2 hK2=>?_)
 refine qg (fun K3 hK3=>?_)
 refine qi kz ?_
 refine qI 2 (fun K4 hK4=>?_)
 simp[go_sem]
 refine ⟨_,_,qg0 (z:=.int 0) gw,?_⟩
 refine hK4 _ _ ?_
 clear hK4 K4
 simp[go_sem]
 refine hK3 _ _ ?_
 try clear hK3 K3
 refine qj (b:=false) gz (fun h=>by cases h) (fun _=>?_)
 refine ql ?_
 refine hK2 _ _ ?_
 try clear hK2 K2
 refine qg (fun K5 hK5=>?_)
 refine qi kz ?_
 simp[go_sem,gw]
 refine hK5 _ _ ?_
 try clear hK5 K5
 refine qx ?_
 simp only[go_sem]
 refine hR _ _ ?_
 exact qG gz (Heap.le_refl _) (Nat.le_refl _) gz
end Go.Proofs.YtfokgjhdndnnhaaGreatDoor
end W1S
set_option maxRecDepth 20000
noncomputable section B1S
namespace Go.Proofs.YtfokgjhdndnnhaaGreatDoor
open Go Go.Fl Go.Proofs
theorem qbc (n:Int) (h0:0<=n) (h1:n<2^63):IntKind.i64.wrap n=n:=by
 have:(2:Int)^63=9223372036854775808:=dz
 rw[IntKind.wrap_i64]; omega
theorem qdc (n:Nat) (h:n<2^63):IntKind.i64.wrap (n:Int)=n:=qbc _ (Int.natCast_nonneg _) (by exact_mod_cast h)
theorem qf0 (a b:Nat):(a:Int).fdiv (b:Int)=((a/b:Nat):Int):=by
 rw[Int.fdiv_eq_ediv_of_nonneg _ (Int.natCast_nonneg _)]
 rfl
theorem jG (a b:Nat) (hb:b<=64):bshr .i64 (a:Int) (b:Int)=((a/2^b:Nat):Int):=by
 unfold bshr
 have e:min ((b:Int).toNat) IntKind.i64.bits=b:=by
  have:IntKind.i64.bits=64:=rfl
  rw[this,Int.toNat_natCast]; omega
 rw[e]
 have:(2:Int)^b=((2^b:Nat):Int):=by simp
 rw[this,qf0]
theorem zB (a b:Nat) (hb:b<=64) (h:a*2^b<2^63):bshl .i64 (a:Int) (b:Int)=((a*2^b:Nat):Int):=by
 unfold bshl
 have e:min ((b:Int).toNat) IntKind.i64.bits=b:=by
  have:IntKind.i64.bits=64:=rfl
  rw[this,Int.toNat_natCast]; omega
 rw[e]
 have:(a:Int)*(2:Int)^b=((a*2^b:Nat):Int):=by simp
 rw[this,qdc _ h]
theorem qdo (a i:Nat) (ha:a<2^63) (hi:i<=63):band .i64 (a:Int) (2^i-1)=((a%2^i:Nat):Int):=by
 show bits .and .i64 (a:Int) (2^i-1)=_
 rw[bits_mask .i64 63 dz qbc i hi _ (Int.natCast_nonneg _) (by exact_mod_cast ha)]
 simp
theorem qf1 (a:Nat) (ha:a<2^63):band .i64 (a:Int) 1=((a%2:Nat):Int):=qdo a 1 ha dz
theorem qkb (a b i:Nat) (ha:a%2^i=0) (ha1:a<2^63) (hb:b<2^i) (hb1:b<2^63):bor .i64 (a:Int) (b:Int)=((a+b:Nat):Int):=by
 show bits .or .i64 (a:Int) (b:Int)=_
 rw[bits_join .i64 63 dz qbc i _ _ (Int.natCast_nonneg _) (by exact_mod_cast ha) (by exact_mod_cast ha1) (Int.natCast_nonneg _) (by exact_mod_cast hb) (by exact_mod_cast hb1)]
 simp
theorem bor_nat (a b:Nat) (ha:a<2^63) (hb:b<2^63):bor .i64 (a:Int) (b:Int)=((a ||| b:Nat):Int):=(bits_nat .i64 63 dz qbc a b ha hb).2
theorem bor_u8 (a b:Nat) (ha:a<256) (hb:b<256):bor .u8 (a:Int) (b:Int)=((a ||| b:Nat):Int):=(bits_nat .u8 8 dz wraps_u8 a b ha hb).2
theorem qbe (a b:Nat) (ha:a<2^63) (hb:b<2^63):bxor .i64 (a:Int) (b:Int)=((a ^^^ b:Nat):Int):=by
 unfold bxor
 have hp:(2:Nat)^63<=2^IntKind.i64.bits:=dz
 have ha' : a%2^IntKind.i64.bits=a:=Nat.mod_eq_of_lt (Nat.lt_of_lt_of_le ha hp)
 have hb' : b%2^IntKind.i64.bits=b:=Nat.mod_eq_of_lt (Nat.lt_of_lt_of_le hb hp)
 simp only[bits,BitVec.ofInt_natCast,BitVec.toNat_xor,BitVec.toNat_ofNat,ha',hb']
 exact qdc _ (Nat.xor_lt_two_pow ha hb)
theorem tmod8 (a:Nat):(a:Int).tmod 8=((a%8:Nat):Int):=rfl
theorem tdiv8 (a:Nat):(a:Int).tdiv 8=((a/8:Nat):Int):=rfl
theorem qm5 (o b i:Nat) (ho:o<2^i):o ||| (b*2^i)=o+b*2^i:=by
 have:=Nat.two_pow_add_eq_or_of_lt ho b
 rw[Nat.mul_comm b,Nat.or_comm,<- this,Nat.add_comm]
end Go.Proofs.YtfokgjhdndnnhaaGreatDoor
end B1S
set_option maxRecDepth 20000
noncomputable section B2S
namespace Go.Proofs.YtfokgjhdndnnhaaGreatDoor
open Go Go.Fl Go.Proofs
theorem qf2 {P:Program} {H:Heap} {x:AV} {n sz bt:Nat} {cs new zs:List AV} {bo:Option Nat} {t e:TypeId} (ht:P.underlying t=some (.slice e)) (hs:csz P e=some sz) (hb:byt P e=some bt) (hz:zeroC P e=some zs) (hzl:zs.length=sz)
  (hnew:new.length=sz) (hleaf:new.all AV.leaf=true) (hg:grown H sz x=some (n,cs,bo)) (h1:(n+1)*bt<=140737488355328) (h2:n+1<=140737488355328) :
  aappend P (H.alloc new) t t x (.ms H.next 0 1 sz)=some (.ms (H.next+1) 0 (n+1) sz,(H.alloc new).regrow bo (cs++new)) /\
  grown ((H.alloc new).regrow bo (cs++new)) sz (.ms (H.next+1) 0 (n+1) sz)=some (n+1,cs++new,some (H.next+1)):=by
 refine ⟨qL ht hs hb hz hzl ?_ (qd2 hg) h1 h2 hleaf,qi7 (H:=H.alloc new) (k:=1) (qd2 hg) oz⟩
 unfold source
 rw[ht]
 have:sz<=new.length:=oz
 simp[sliceCells,Heap.get_alloc,hnew]
 exact List.take_of_length_le oz
theorem appB {H:Heap} {x:AV} {n:Nat} {cs:List AV} {bo:Option Nat} (c:Int) (hg:grown H 1 x=some (n,cs,bo)) (hn:n<=1000000000):aappend Tryz.prog (H.alloc [.sc (.int .u8 c)]) 25 25 x (.ms H.next 0 1 1)=some (.ms (H.next+1) 0 (n+1) 1,(H.alloc [.sc (.int .u8 c)]).regrow bo (cs ++ [.sc (.int .u8 c)])) /\
  grown ((H.alloc [.sc (.int .u8 c)]).regrow bo (cs ++ [.sc (.int .u8 c)])) 1 (.ms (H.next+1) 0 (n+1) 1)=some (n+1,cs ++ [.sc (.int .u8 c)],some (H.next+1)) :=
 qf2 (P:=Tryz.prog) (new:=[.sc (.int .u8 c)]) tU25 tS5 tB5 tZ5 rfl rfl rfl hg oz oz
theorem appI {H:Heap} {x:AV} {n:Nat} {cs:List AV} {bo:Option Nat} (c:Int) (hg:grown H 1 x=some (n,cs,bo)) (hn:n<=1000000000):aappend Tryz.prog (H.alloc [.int c]) 84 84 x (.ms H.next 0 1 1)=some (.ms (H.next+1) 0 (n+1) 1,(H.alloc [.int c]).regrow bo (cs ++ [.int c])) /\
  grown ((H.alloc [.int c]).regrow bo (cs ++ [.int c])) 1 (.ms (H.next+1) 0 (n+1) 1)=some (n+1,cs ++ [.int c],some (H.next+1)) :=
 qf2 (P:=Tryz.prog) (new:=[.int c]) tU84 tS3 tB3 tZ3 rfl rfl rfl hg oz oz
@[go_sem] theorem get_one (cs:List AV):(Heap.one cs).get 0=some cs:=by simp[Heap.one,Heap.get_alloc,go_sem]
@[go_sem] theorem next_one (cs:List AV):(Heap.one cs).next=1:=rfl
theorem qg1 {H:Heap} {x:AV} {n sz b:Nat} {cs cs' : List AV} {bo:Option Nat} (h:grown H sz x=some (n,cs,bo)) (hb:bo≠some b):grown (H.set b cs') sz x=some (n,cs,bo):=by
 rcases jT h with ⟨rfl,h5,h6,h7⟩ | ⟨b',off,rfl,rfl,c,h5,h6,h7⟩
 ·rw[h5,h6,h7]; rfl
 ·have hne:b' ≠ b:=fun e=>hb (by rw[e])
  rw[h7]
  simp[grown,Heap.get_set,hne,h5]
  omega
end Go.Proofs.YtfokgjhdndnnhaaGreatDoor
end B2S
