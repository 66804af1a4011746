/- Words for walking code. -/
import Derived.Test.YtinbldahpifinaaGreatDoorFl19
noncomputable section
namespace Go.Fl
open Go

section
variable {P : Program} {sz : Nat}

theorem scode_seq_k {x y : Code} {Q : Exit → Env → Heap → Prop} {env : Env} {H : Heap} (h : ∀ K : Env → Heap → Prop, (∀ env H, SCode P sz y Q env H → K env H) → SCode P sz x (thenA K Q) env H) : SCode P sz (.seq x y) Q env H :=
  scode_seq (h _ fun _ _ h => h)

/-- A test whose outcome the walk knows as a Bool. -/
theorem scode_if {c : Operand} {x y : Code} {Q : Exit → Env → Heap → Prop} {env : Env} {H : Heap} {b : Bool} (hc : aev env c = .sc (.bool b)) (ht : b = true → SCode P sz x Q env H) (hf : b = false → SCode P sz y Q env H) : SCode P sz (.cond c x y) Q env H := by
  cases b with
  | true => exact scode_cond (b := true) hc (ht rfl)
  | false => exact scode_cond (b := false) hc (hf rfl)

def retQ (R : Env → Heap → Prop) : Exit → Env → Heap → Prop
  | .ret | .normal => R
  | _ => fun _ _ => False

theorem scalls_of_k {f : FuncId} {fn : Func} {c : Code} {args : List AV} {H : Heap} {r : AV} {H' : Heap} (hen : Enters P f) (hf : P.funcs[f]? = some fn) (hb : fn.body = some c) (hn : H.next ≤ H'.next) (hsz : args.length + (fn.ntmps - args.length) = sz)
    (h : ∀ R : Env → Heap → Prop, (∀ env H1, Ret P fn H env H1 r H' → R env H1) → SCode P sz c (retQ R) (enterEnv args) H) : SCalls P f args H r H' := by
  subst hsz
  refine scalls_of hen hf hb hn ((h (fun env H1 => Ret P fn H env H1 r H') (fun _ _ h => h)).mono ?_)
  intro e env H1 hq
  cases e <;> first | exact ⟨.inl rfl, hq⟩ | exact ⟨.inr rfl, hq⟩ | exact hq.elim

/-- What is known of the frame and the heap at a place where ways meet. -/
theorem scode_cut {c : Code} {Q : Exit → Env → Heap → Prop} {env : Env} {H : Heap} {K : Env → Heap → Prop} (R : Env → Heap → Prop) (h : SCode P sz c (thenA R Q) env H) (hk : ∀ env H, R env H → K env H) : SCode P sz c (thenA K Q) env H :=
  h.mono fun e env H hq => by
    cases e with
    | normal => exact hk env H hq
    | _ => exact hq

end

@[go_sem] theorem thenA_normal (K : Env → Heap → Prop) (Q : Exit → Env → Heap → Prop) : thenA K Q .normal = K := rfl
@[go_sem] theorem thenA_ret (K : Env → Heap → Prop) (Q : Exit → Env → Heap → Prop) : thenA K Q .ret = Q .ret := rfl
@[go_sem] theorem thenA_exit (K : Env → Heap → Prop) (Q : Exit → Env → Heap → Prop) (id : Nat) : thenA K Q (.exit id) = Q (.exit id) := rfl
@[go_sem] theorem inBlockA_normal (id : Nat) (Q : Exit → Env → Heap → Prop) : inBlockA id Q .normal = Q .normal := rfl
@[go_sem] theorem inBlockA_ret (id : Nat) (Q : Exit → Env → Heap → Prop) : inBlockA id Q .ret = Q .ret := rfl
@[go_sem] theorem inBlockA_exit (id id' : Nat) (Q : Exit → Env → Heap → Prop) : inBlockA id Q (.exit id') = if id' = id then Q .normal else Q (.exit id') := by
  simp only [inBlockA]
@[go_sem] theorem retQ_ret (R : Env → Heap → Prop) : retQ R .ret = R := rfl
@[go_sem] theorem retQ_normal (R : Env → Heap → Prop) : retQ R .normal = R := rfl

@[go_sem] theorem upd_none (e : Env) (v : AV) : e.upd none v = e := by funext i; simp [Env.upd]
@[go_sem] theorem upd_same (e : Env) (d : Nat) (v : AV) : e.upd (some d) v d = v := by simp [Env.upd]
@[go_sem] theorem upd_ne (e : Env) (d t : Nat) (v : AV) (h : d ≠ t) : e.upd (some d) v t = e t := by simp [Env.upd, h]
@[go_sem] theorem enterEnv_zero (x : AV) (l : List AV) : enterEnv (x :: l) 0 = x := rfl
@[go_sem] theorem enterEnv_succ (x : AV) (l : List AV) (n : Nat) : enterEnv (x :: l) (n + 1) = enterEnv l n := rfl
@[go_sem] theorem enterEnv_nil (n : Nat) : enterEnv [] n = .undef := rfl

attribute [go_sem] abOf aconv u8s WOps WOp awanted aop aev ofV abuildSlice abuild afill acells splice aload astore cellsAt sliceCells ashift afield aindex apart aslice abound amake alen abin aeqNil conc scs concs abuiltin afld aidx
  source grown aappend Heap.regrow Heap.delo acopy WDraw isP isL stOk ldOk WStep AV.leaf AV.cells Heap.get_alloc Heap.get_set Heap.get_del Heap.get_regrow Heap.next_alloc Heap.next_set Heap.next_del

end Go.Fl
