/- Words for walking code. -/
import Derived.Test.YtfmpakmigmehkaaGreatDoorFl17
set_option linter.unusedVariables false
set_option linter.unusedSimpArgs false
noncomputable section Fl20S
namespace Go.Fl
open Go

section
variable {P : Program} {sz : Nat}

theorem scode_seq_k {x y : Code} {Q : Exit → Env → Heap → Prop} {env : Env} {H : Heap} (h : ∀ K : Env → Heap → Prop, (∀ env H, SCode P sz y Q env H → K env H) → SCode P sz x (thenA K Q) env H) : SCode P sz (.seq x y) Q env H :=
  scode_seq (h _ fun _ _ h => h)

/-- A test whose outcome the walk knows as a Bool. -/
theorem scode_if {c : Operand} {x y : Code} {Q : Exit → Env → Heap → Prop} {env : Env} {H : Heap} {b : Bool} (hc : aev env c = .sc (.bool b)) (ht : b = true → SCode P sz x Q env H) (hf : b = false → SCode P sz y Q env H) : SCode P sz (.cond c x y) Q env H := by
  cases b with
  | true => exact scode_cond (b := true) hc (ht rfl)
  | false => exact scode_cond (b := false) hc (hf rfl)

def retQ (R : Env → Heap → Prop) : Exit → Env → Heap → Prop
  | .ret | .normal => R
  | _ => fun _ _ => False

theorem scalls_of_k {f : FuncId} {fn : Func} {c : Code} {args : List AV} {H : Heap} {r : AV} {H' : Heap} (hen : Enters P f) (hf : P.funcs[f]? = some fn) (hb : fn.body = some c) (hn : H.next ≤ H'.next) (hsz : args.length + (fn.ntmps - args.length) = sz)
    (h : ∀ R : Env → Heap → Prop, (∀ env H1, Ret P fn H env H1 r H' → R env H1) → SCode P sz c (retQ R) (enterEnv args) H) : SCalls P f args H r H' := by
  subst hsz
  refine scalls_of hen hf hb hn ((h (fun env H1 => Ret P fn H env H1 r H') (fun _ _ h => h)).mono ?_)
  intro e env H1 hq
  cases e <;> first | exact ⟨.inl rfl, hq⟩ | exact ⟨.inr rfl, hq⟩ | exact hq.elim

/-- What is known of the frame and the heap at a place where ways meet. -/
theorem scode_cut {c : Code} {Q : Exit → Env → Heap → Prop} {env : Env} {H : Heap} {K : Env → Heap → Prop} (R : Env → Heap → Prop) (h : SCode P sz c (thenA R Q) env H) (hk : ∀ env H, R env H → K env H) : SCode P sz c (thenA K Q) env H :=
  h.mono fun e env H hq => by
    cases e with
    | normal => exact hk env H hq
    | _ => exact hq

end

@[go_sem] theorem thenA_normal (K : Env → Heap → Prop) (Q : Exit → Env → Heap → Prop) : thenA K Q .normal = K := rfl
@[go_sem] theorem thenA_ret (K : Env → Heap → Prop) (Q : Exit → Env → Heap → Prop) : thenA K Q .ret = Q .ret := rfl
@[go_sem] theorem thenA_exit (K : Env → Heap → Prop) (Q : Exit → Env → Heap → Prop) (id : Nat) : thenA K Q (.exit id) = Q (.exit id) := rfl
@[go_sem] theorem inBlockA_normal (id : Nat) (Q : Exit → Env → Heap → Prop) : inBlockA id Q .normal = Q .normal := rfl
@[go_sem] theorem inBlockA_ret (id : Nat) (Q : Exit → Env → Heap → Prop) : inBlockA id Q .ret = Q .ret := rfl
@[go_sem] theorem inBlockA_exit (id id' : Nat) (Q : Exit → Env → Heap → Prop) : inBlockA id Q (.exit id') = if id' = id then Q .normal else Q (.exit id') := by
  simp only [inBlockA]
@[go_sem] theorem retQ_ret (R : Env → Heap → Prop) : retQ R .ret = R := rfl
@[go_sem] theorem retQ_normal (R : Env → Heap → Prop) : retQ R .normal = R := rfl

@[go_sem] theorem upd_none (e : Env) (v : AV) : e.upd none v = e := by funext i; simp [Env.upd]
@[go_sem] theorem upd_same (e : Env) (d : Nat) (v : AV) : e.upd (some d) v d = v := by simp [Env.upd]
@[go_sem] theorem upd_ne (e : Env) (d t : Nat) (v : AV) (h : d ≠ t) : e.upd (some d) v t = e t := by simp [Env.upd, h]
@[go_sem] theorem enterEnv_zero (x : AV) (l : List AV) : enterEnv (x :: l) 0 = x := rfl
@[go_sem] theorem enterEnv_succ (x : AV) (l : List AV) (n : Nat) : enterEnv (x :: l) (n + 1) = enterEnv l n := rfl
@[go_sem] theorem enterEnv_nil (n : Nat) : enterEnv [] n = .undef := rfl

attribute [go_sem] keepD astrV abOf aun acvt astrB bytesT_eq aeqn aiBin aiBoth aiSh aiUn aiCvt aint aconv u8s WOps WOp awanted aop aev ofV abuildSlice abuild afill acells splice aload astore cellsAt sliceCells ashift afield aindex apart aslice abound amake abin aeqNil conc scs concs abuiltin afld aidx
  acopy WDraw isP isL stOk ldOk WStep AV.leaf AV.cells Heap.get_alloc Heap.get_set Heap.get_del Heap.get_regrow Heap.next_alloc Heap.next_set Heap.next_del

end Go.Fl
end Fl20S

noncomputable section Fl21S
namespace Go.Fl
open Go

theorem Heap.le_refl (H : Heap) : H.le H := fun _ _ h => h

theorem Heap.le_alloc {H H1 : Heap} {cs : List AV} (h : H.le H1) : H.le (H1.alloc cs) := fun b c hb => by
  rw [Heap.get_alloc, if_neg (by have := Heap.lt_of_get (h b c hb); omega)]
  exact h b c hb

theorem Heap.le_set {H H1 : Heap} {x : Nat} {cs : List AV} (h : H.le H1) (hx : H.next ≤ x) : H.le (H1.set x cs) := fun b c hb => by
  rw [Heap.get_set, if_neg (by have := Heap.lt_of_get hb; omega)]
  exact h b c hb

theorem Heap.le_del {H H1 : Heap} {x : Nat} (h : H.le H1) (hx : H.next ≤ x) : H.le (H1.del x) := fun b c hb => by
  rw [Heap.get_del, if_neg (by have := Heap.lt_of_get hb; omega)]
  exact h b c hb

theorem Heap.le_trans {H H1 H2 : Heap} (h : H.le H1) (k : H1.le H2) : H.le H2 := fun b c hb => k b c (h b c hb)

theorem Heap.le_regrow {H H1 : Heap} {x : Option Nat} {cs : List AV} (h : H.le H1) (hx : ∀ b, x = some b → H.next ≤ b) : H.le (H1.regrow x cs) := by
  unfold Heap.regrow
  refine Heap.le_alloc ?_
  cases x with
  | none => exact h
  | some b => exact Heap.le_del h (hx b rfl)

theorem Heap.next_regrow (H : Heap) (x : Option Nat) (cs : List AV) : (H.regrow x cs).next = H.next + 1 := by
  unfold Heap.regrow; rw [Heap.next_alloc, Heap.delo_next]

theorem Heap.get_ge {H : Heap} {b : Nat} (h : H.next ≤ b) : H.get b = none := H.wf b h

theorem Froz.mono {H : Heap} {d d' : Nat → Prop} (h : ∀ b, d b → d' b) {x y : AV} (hf : Froz H d x y) : Froz H d' x y := by
  induction hf with
  | same x => exact .same x
  | nil sz => exact .nil sz
  | ms h1 h2 h3 h4 _ ih => exact .ms h1 (h _ h2) h3 h4 ih
  | vs h1 _ ih => exact .vs h1 ih
  | agg h1 _ ih => exact .agg h1 ih
  | tup h1 _ ih => exact .tup h1 ih
  | ifc _ ih => exact .ifc ih
  | top x => exact .top x
  | ai k n => exact .ai k n
  | ep h1 h2 h0 h3 _ ih => exact .ep h1 (h _ h2) h0 h3 ih

/-- A slice of plain cells. -/
theorem Froz.row {H : Heap} {d : Nat → Prop} {b off len sz : Nat} {cs cells : List AV} (h1 : H.get b = some cs) (h2 : d b) (h3 : off + len * sz ≤ cs.length) (h4 : cells = (cs.drop off).take (len * sz)) : Froz H d (.ms b off len sz) (.vs len sz cells) := by
  subst h4
  refine .ms h1 h2 h3 (by simp; omega) (fun i x y hx hy => ?_)
  have hi : i < len * sz := by
    have := (List.getElem?_eq_some_iff.1 hx).1
    simp at this; omega
  rw [List.getElem?_take_of_lt hi, List.getElem?_drop] at hx
  rw [hx] at hy; cases hy
  exact .same _

/-- Lists of values, place by place. -/
inductive FrozL (H : Heap) (d : Nat → Prop) : List AV → List AV → Prop
  | nil : FrozL H d [] []
  | cons {x y : AV} {xs ys : List AV} : Froz H d x y → FrozL H d xs ys → FrozL H d (x :: xs) (y :: ys)

theorem FrozL.get {H : Heap} {d : Nat → Prop} {xs ys : List AV} (h : FrozL H d xs ys) : xs.length = ys.length ∧ ∀ (i : Nat) (x y : AV), ys[i]? = some x → xs[i]? = some y → Froz H d y x := by
  induction h with
  | nil => exact ⟨rfl, fun i x y hx => by simp at hx⟩
  | cons h1 _ ih =>
    refine ⟨by simp [ih.1], fun i x y hx hy => ?_⟩
    cases i with
    | zero => simp at hx hy; subst hx; subst hy; exact h1
    | succ i => simp only [List.getElem?_cons_succ] at hx hy; exact ih.2 i x y hx hy

theorem Froz.aggL {H : Heap} {d : Nat → Prop} {xs ys : List AV} (h : FrozL H d xs ys) : Froz H d (.agg xs) (.agg ys) := .agg h.get.1 h.get.2
theorem Froz.tupL {H : Heap} {d : Nat → Prop} {xs ys : List AV} (h : FrozL H d xs ys) : Froz H d (.tup xs) (.tup ys) := .tup h.get.1 h.get.2
/-- A slice whose cells are frozen in their turn. -/
theorem Froz.rowL {H : Heap} {d : Nat → Prop} {b off len sz : Nat} {cs cells : List AV} (h1 : H.get b = some cs) (h2 : d b) (h3 : off + len * sz ≤ cs.length) (h4 : FrozL H d ((cs.drop off).take (len * sz)) cells) : Froz H d (.ms b off len sz) (.vs len sz cells) := by
  have hl : ((cs.drop off).take (len * sz)).length = len * sz := by simp; omega
  refine .ms h1 h2 h3 (by rw [← h4.get.1]; exact hl) (fun i x y hx hy => h4.get.2 i x y hx ?_)
  have hi : i < len * sz := by
    have := (List.getElem?_eq_some_iff.1 hx).1
    rw [← h4.get.1, hl] at this; exact this
  rw [List.getElem?_take_of_lt hi, List.getElem?_drop]; exact hy

theorem Lt_sc (n : Nat) (v : Value) : (AV.sc v).Lt n = True := eq_true (.sc v)
theorem Lt_ab (n : Nat) : AV.ab.Lt n = True := eq_true .ab
theorem Lt_ai (n : Nat) (k : IntKind) : (AV.ai k).Lt n = True := eq_true (.ai k)
theorem Lt_agg (n : Nat) (l : List AV) : (AV.agg l).Lt n = ∀ x ∈ l, x.Lt n := propext ⟨fun h => by cases h; assumption, .agg⟩
theorem Lt_tup (n : Nat) (l : List AV) : (AV.tup l).Lt n = ∀ x ∈ l, x.Lt n := propext ⟨fun h => by cases h; assumption, .tup⟩
theorem Lt_vs (n a b : Nat) (l : List AV) : (AV.vs a b l).Lt n = ∀ x ∈ l, x.Lt n := propext ⟨fun h => by cases h; assumption, .vs⟩
theorem Lt_ep (n : Nat) (l : List AV) : (AV.ep l).Lt n = ∀ x ∈ l, x.Lt n := propext ⟨fun h => by cases h; assumption, .ep⟩
theorem Lt_ptr (n b o : Nat) : (AV.ptr b o).Lt n = (b < n) := propext ⟨fun h => by cases h; assumption, .ptr⟩
theorem Lt_ms (n b o l s : Nat) : (AV.ms b o l s).Lt n = (b < n) := propext ⟨fun h => by cases h; assumption, .ms⟩
theorem Lt_ifc (n : Nat) (t : TypeId) (x : AV) : (AV.ifc t x).Lt n = x.Lt n := propext ⟨fun h => by cases h; assumption, .ifc⟩
theorem Lt_fn (n : Nat) (f : Fn) (a b : List AV) : (AV.fn f a b).Lt n = ((∀ x ∈ a, x.Lt n) ∧ ∀ x ∈ b, x.Lt n) := propext ⟨fun h => by cases h; exact ⟨by assumption, by assumption⟩, fun h => .fn h.1 h.2⟩
theorem Lt_ty (n : Nat) (t : TypeId) (m : Nat) (x : AV) : (AV.ty t m x).Lt n = x.Lt n := propext ⟨fun h => by cases h; assumption, .ty⟩
attribute [go_sem] Lt_ty Lt_sc Lt_ab Lt_ai Lt_agg Lt_tup Lt_vs Lt_ep Lt_ptr Lt_ms Lt_ifc Lt_fn aresults aresultL aresult tupOf Heap.next_regrow

/-- A function that keeps nothing: the heap as it was. -/
theorem ret_pure {P : Program} {fn : Func} {H : Heap} {env : Env} {H1 : Heap} {v r : AV} (h1 : aresults P fn env H1 = some v) (h2 : Froz H1 (fun b => H.next ≤ b) v r) (h3 : H.le H1) (h4 : H.next ≤ H1.next) (h5 : r.Lt H.next) : Ret P fn H env H1 r H where
  res := ⟨v, h1, h2.mono fun b hb => H.wf b hb⟩
  sub := h3
  lo := Nat.le_refl _
  hi := h4
  lt := h5
  cont := fun _ _ h => .inl h

/-- The same for a value that is none of the heap's. -/
theorem ret_plain {P : Program} {fn : Func} {H : Heap} {env : Env} {H1 : Heap} {r : AV} (h1 : aresults P fn env H1 = some r) (h3 : H.le H1) (h4 : H.next ≤ H1.next) (h5 : r.Lt H.next) : Ret P fn H env H1 r H :=
  ret_pure h1 (.same r) h3 h4 h5

end Go.Fl
end Fl21S

noncomputable section Fl22S
namespace Go.Fl
open Go

section
variable (P : Program) (t : TypeId) (k : IntKind) (a b : Int)

@[go_sem] theorem srun_add : srun P (binOp .add t (.int k a) (.int k b)) = some (.int k (k.wrap (a + b))) := by simp [binOp, Op.intArith]; rfl
@[go_sem] theorem srun_sub : srun P (binOp .sub t (.int k a) (.int k b)) = some (.int k (k.wrap (a - b))) := by simp [binOp, Op.intArith]; rfl
@[go_sem] theorem srun_mul : srun P (binOp .mul t (.int k a) (.int k b)) = some (.int k (k.wrap (a * b))) := by simp [binOp, Op.intArith]; rfl
@[go_sem] theorem srun_eql : srun P (binOp .eql t (.int k a) (.int k b)) = some (.bool (a == b)) := by simp [binOp, Op.intCmp]; rfl
@[go_sem] theorem srun_neq : srun P (binOp .neq t (.int k a) (.int k b)) = some (.bool (a != b)) := by simp [binOp, Op.intCmp]; rfl
@[go_sem] theorem srun_lss : srun P (binOp .lss t (.int k a) (.int k b)) = some (.bool (decide (a < b))) := by simp [binOp, Op.intCmp]; rfl
@[go_sem] theorem srun_leq : srun P (binOp .leq t (.int k a) (.int k b)) = some (.bool (decide (a ≤ b))) := by simp [binOp, Op.intCmp]; rfl
@[go_sem] theorem srun_gtr : srun P (binOp .gtr t (.int k a) (.int k b)) = some (.bool (decide (b < a))) := by simp [binOp, Op.intCmp]; rfl
@[go_sem] theorem srun_geq : srun P (binOp .geq t (.int k a) (.int k b)) = some (.bool (decide (b ≤ a))) := by simp [binOp, Op.intCmp]; rfl

/-- Bits of two numbers. -/
def band (k : IntKind) (a b : Int) : Int := k.wrap (BitVec.ofInt k.bits a &&& BitVec.ofInt k.bits b).toNat
def bor (k : IntKind) (a b : Int) : Int := k.wrap (BitVec.ofInt k.bits a ||| BitVec.ofInt k.bits b).toNat
def bxor (k : IntKind) (a b : Int) : Int := k.wrap (BitVec.ofInt k.bits a ^^^ BitVec.ofInt k.bits b).toNat
def bandNot (k : IntKind) (a b : Int) : Int := k.wrap (BitVec.ofInt k.bits a &&& ~~~(BitVec.ofInt k.bits b)).toNat
def bshl (k : IntKind) (a b : Int) : Int := k.wrap (a * 2 ^ (min b.toNat k.bits))
def bshr (k : IntKind) (a b : Int) : Int := a.fdiv (2 ^ (min b.toNat k.bits))

@[go_sem] theorem srun_and : srun P (binOp .and t (.int k a) (.int k b)) = some (.int k (band k a b)) := by simp [binOp, Op.intBits, band]; rfl
@[go_sem] theorem srun_or : srun P (binOp .or t (.int k a) (.int k b)) = some (.int k (bor k a b)) := by simp [binOp, Op.intBits, bor]; rfl
@[go_sem] theorem srun_xor : srun P (binOp .xor t (.int k a) (.int k b)) = some (.int k (bxor k a b)) := by simp [binOp, Op.intBits, bxor]; rfl
@[go_sem] theorem srun_andNot : srun P (binOp .andNot t (.int k a) (.int k b)) = some (.int k (bandNot k a b)) := by simp [binOp, Op.intBits, bandNot]; rfl
@[go_sem] theorem srun_shl {k' : IntKind} (h : 0 ≤ b) : srun P (binOp .shl t (.int k a) (.int k' b)) = some (.int k (bshl k a b)) := by
  simp only [binOp, Op.shift]; rw [if_neg (by omega)]; rfl
@[go_sem] theorem srun_shr {k' : IntKind} (h : 0 ≤ b) : srun P (binOp .shr t (.int k a) (.int k' b)) = some (.int k (bshr k a b)) := by
  simp only [binOp, Op.shift]; rw [if_neg (by omega)]; rfl
@[go_sem] theorem srun_quo (h : b ≠ 0) : srun P (binOp .quo t (.int k a) (.int k b)) = some (.int k (k.wrap (a.tdiv b))) := by
  simp [binOp, Op.intDiv, h]; rfl
@[go_sem] theorem srun_rem (h : b ≠ 0) : srun P (binOp .rem t (.int k a) (.int k b)) = some (.int k (a.tmod b)) := by
  simp [binOp, Op.intDiv, h]; rfl

@[go_sem] theorem srun_seql (x y : ByteArray) : srun P (binOp .eql t (.string x) (.string y)) = some (.bool (x.toList == y.toList)) := by simp [binOp, Op.stringOp]; rfl
@[go_sem] theorem srun_sneq (x y : ByteArray) : srun P (binOp .neq t (.string x) (.string y)) = some (.bool (!(x.toList == y.toList))) := by simp [binOp, Op.stringOp]; rfl

@[go_sem] theorem srun_not (q : Bool) : srun P (Op.unary .not (.bool q)) = some (.bool !q) := rfl
@[go_sem] theorem srun_neg : srun P (Op.unary .neg (.int k a)) = some (.int k (k.wrap (0 - a))) := rfl

def convI (P : Program) (src dst : TypeId) (a : Int) : Option Value :=
  match P.underlying src, P.underlying dst with
  | some _, some (.int k) => some (.int k (k.wrap a))
  | _, _ => none
attribute [go_sem] convI
theorem srun_bind {α β : Type} (P : Program) (s : Sem α) (f : α → Sem β) (a : α) (h : srun P s = some a) : srun P (s >>= f) = srun P (f a) := by
  induction s with
  | pure b => simp only [srun, Option.some.injEq] at h; subst h; rfl
  | program k ih => exact ih P h
  | _ => simp [srun] at h
theorem srun_underlying {P : Program} {t : TypeId} {d : TypeDesc} (h : P.underlying t = some d) : srun P (underlying t) = some d := by
  unfold underlying
  rw [srun_bind P program _ P rfl, h]
  rfl
@[go_sem] theorem srun_convert {src dst : TypeId} (k' : IntKind) (h : (convI P src dst a).isSome = true) : srun P (convert src dst (.int k' a)) = convI P src dst a := by
  revert h
  unfold convI
  split
  · rename_i u k h1 h2
    intro _
    unfold convert
    rw [srun_bind P _ _ _ (srun_underlying h1), srun_bind P _ _ _ (srun_underlying h2)]
    rfl
  · intro h; simp at h
end
end Go.Fl
end Fl22S
