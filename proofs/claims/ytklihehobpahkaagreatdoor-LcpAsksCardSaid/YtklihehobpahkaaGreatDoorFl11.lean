/- Frames; calls; operations one behind the other. -/
import Derived.Test.YtklihehobpahkaaGreatDoorFl10
import Derived.Tactics
set_option linter.unusedVariables false
set_option linter.unusedSimpArgs false
noncomputable section
namespace Go.Fl
open Go

abbrev Env := Nat → AV

def Env.upd (e : Env) (d : Option Tmp) (v : AV) : Env := fun i => if d = some i then v else e i

def aev (env : Env) : Operand → AV
  | .tmp t => env t
  | .const v => ofV v
  | .global g => match globCells g with
    | some vs => .ep (vs.map AV.sc)
    | none => .top
  | .func f => .fn (.func f) [] []

/-- A frame's slots, as the abstract ones say. -/
structure ERel (sz : Nat) (ρ : Rho) (I : Nat → Prop) (hp : Array Obj) (env : Env) (a : Act) : Prop where
  size : a.tmps.size = sz
  defers : a.defers = []
  val : ∀ i, VR ρ I hp (env i) (a.tmps.getD i Go.undef)
  glob : GlobOk I hp

theorem ERel.eval {sz : Nat} {ρ : Rho} {I : Nat → Prop} {hp : Array Obj} {env : Env} {a : Act} (h : ERel sz ρ I hp env a) (y : Operand) : VR ρ I hp (aev env y) (a.eval y) := by
  cases y with
  | tmp t => exact h.val t
  | const v => exact VR_ofV v
  | global g =>
    simp only [aev]
    cases hg : globCells g with
    | none => exact .top _
    | some vs =>
      obtain ⟨h1, e, fz, h2⟩ := h.glob g vs hg
      refine .ep h1 h2 (by simp) (fun i x hx => ?_)
      rw [List.getElem?_map] at hx
      cases hi : vs[i]? with
      | none => rw [hi] at hx; cases hx
      | some v =>
        rw [hi] at hx; cases hx
        have : vs.toArray.getD (0 + i) Go.undef = v := by simp [Array.getD_eq_getD_getElem?, hi]
        rw [this]; exact .sc v
  | func f => exact .fn rfl rfl (fun i x hx => by simp at hx) (fun i x hx => by simp at hx)

theorem ERel.mono {sz : Nat} {ρ ρ' : Rho} {I I' : Nat → Prop} {w w' : World} {env : Env} {a : Act} (k : Ext ρ I w ρ' I' w') (h : ERel sz ρ I w.heap env a) : ERel sz ρ' I' w'.heap env a :=
  ⟨h.size, h.defers, fun i => (h.val i).mono k, h.glob.ext k.imm k.kept⟩

theorem ERel.put {sz : Nat} {ρ : Rho} {I : Nat → Prop} {hp : Array Obj} {env : Env} {a : Act} (h : ERel sz ρ I hp env a) {d : Option Tmp} {x : AV} {v : Value} (hd : ∀ t, d = some t → t < sz) (hv : VR ρ I hp x v) :
    ERel sz ρ I hp (env.upd d x) (a.put d v) := by
  cases d with
  | none => exact ⟨h.size, h.defers, fun i => h.val i, h.glob⟩
  | some t =>
    refine ⟨by simp [Act.put, h.size], h.defers, fun i => ?_, h.glob⟩
    simp only [Env.upd, Act.put, Option.some.injEq]
    by_cases e : t = i
    · subst e
      have : t < a.tmps.size := by rw [h.size]; exact hd _ rfl
      rw [if_pos rfl]
      have e1 : (a.tmps.setIfInBounds t v).getD t Go.undef = v := by simp [this]
      rw [e1]; exact hv
    · rw [if_neg e]
      have e1 : (a.tmps.setIfInBounds t v).getD i Go.undef = a.tmps.getD i Go.undef := by
        simp only [Array.getD_eq_getD_getElem?]
        rw [Array.getElem?_setIfInBounds_ne e]
      rw [e1]; exact h.val i

/-- Behind code: some abstract frame and heap that the post is about stand for what the machine holds. -/
def SPost (sz : Nat) (ρ : Rho) (I : Nat → Prop) (w : World) (Q : Exit → Env → Heap → Prop) (e : Exit) (a' : Act) (w' : World) : Prop :=
  ∃ env' H' ρ' I', Q e env' H' ∧ Rel ρ' I' H' w'.heap ∧ ERel sz ρ' I' w'.heap env' a' ∧ Ext ρ I w ρ' I' w'

theorem SPost.ext {sz : Nat} {ρ ρ1 : Rho} {I I1 : Nat → Prop} {w w1 : World} {Q Q' : Exit → Env → Heap → Prop} {e : Exit} {a' : Act} {w' : World} (k : Ext ρ I w ρ1 I1 w1)
    (hq : ∀ e env H, Q e env H → Q' e env H) (h : SPost sz ρ1 I1 w1 Q e a' w') : SPost sz ρ I w Q' e a' w' := by
  obtain ⟨env', H', ρ', I', h1, h2, h3, h4⟩ := h
  exact ⟨env', H', ρ', I', hq _ _ _ h1, h2, h3, k.trans h4⟩

/-- A call of function f is entered. -/
def Enters (P : Program) (f : FuncId) : Prop := ∀ args w, (callFunc f args).run P w = .ok (.enter f args) w

/-- WHAT A FUNCTION DOES: handed values that stand for these, over memory that stands for this heap, it returns a value that stands for r, and memory then stands for H'. -/
def SCalls (P : Program) (f : FuncId) (args : List AV) (H : Heap) (r : AV) (H' : Heap) : Prop :=
  Enters P f ∧ H.next ≤ H'.next ∧ ∀ ρ I w cargs, Rel ρ I H w.heap → VRs ρ I w.heap args cargs →
    Calls P f cargs w fun e w' => ∃ v ρ' I', e = .returned v ∧ VR ρ' I' w'.heap r v ∧ Rel ρ' I' H' w'.heap ∧ Ext ρ I w ρ' I' w'

/-- Is an operation carried out? (none: it cannot be told) -/
def awanted (ops : Array Oper) (o : Oper) (env : Env) : Option Bool :=
  match o.guard with
  | none => some true
  | some (j, want) => match (ops[j]?).bind (·.dst) with
    | none => some false
    | some d => match env d with
      | .sc (.bool b) => some (b == want)
      | .sc (.tuple _) => some false
      | _ => none

theorem awanted_run {sz : Nat} {ρ : Rho} {I : Nat → Prop} {hp : Array Obj} {ops : Array Oper} {o : Oper} {env : Env} {a : Act} {b : Bool} (h : awanted ops o env = some b) (he : ERel sz ρ I hp env a)
    (hsz : ∀ (j : Nat) (q : Oper) (d : Tmp), ops[j]? = some q → q.dst = some d → d < sz) : Region.wanted o (yielded ops a.tmps) = b := by
  unfold awanted at h
  unfold Region.wanted
  cases hg : o.guard with
  | none => simp only [hg, Option.some.injEq] at h ⊢; exact h
  | some q =>
    obtain ⟨j, want⟩ := q
    simp only [hg] at h ⊢
    unfold yielded
    cases hd : (ops[j]?).bind (·.dst) with
    | none => simp only [hd, Option.some.injEq] at h; subst h; rfl
    | some d =>
      simp only [hd] at h
      have hlt : d < a.tmps.size := by
        rw [he.size]
        cases hq : ops[j]? with
        | none => simp [hq] at hd
        | some q => simp [hq] at hd; exact hsz _ _ _ hq hd
      have hv := he.val d
      have e1 : a.tmps.getD d Go.undef = a.tmps[d] := by simp [hlt]
      rw [e1] at hv
      simp only [Option.bind_some, Array.getElem?_eq_getElem hlt]
      split at h
      · rename_i b' hb
        simp only [Option.some.injEq] at h
        rw [hb] at hv
        rw [hv.eq_sc]
        subst h
        cases b' <;> cases want <;> rfl
      · rename_i vs hb
        simp only [Option.some.injEq] at h
        rw [hb] at hv
        rw [hv.eq_sc]
        subst h
        rfl
      · cases h

/-- One operation: what has to hold that behind it K holds. -/
def WOp (P : Program) (ops : Array Oper) (o : Oper) (K : Env → Heap → Prop) (env : Env) (H : Heap) : Prop :=
  match awanted ops o env with
  | none => False
  | some false => K (env.upd o.dst .undef) H
  | some true => match o.op with
    | .call { callee := .value f, args, argTypes := _ } => match aev env f with
      | .fn (.func k) first captured => ∃ r H', SCalls P k (first ++ args.toList.map (aev env) ++ captured) H r H' ∧ K (env.upd o.dst r) H'
      | _ => False
    | _ => match aop P o (aev env) H with
      | some (x, H') => K (env.upd o.dst x) H'
      | none => False

def WOps (P : Program) (ops : Array Oper) (Q : Exit → Env → Heap → Prop) : List Oper → Env → Heap → Prop
  | [], env, H => Q .normal env H
  | o :: rest, env, H => WOp P ops o (WOps P ops Q rest) env H

def dstsOk (sz : Nat) (ops : Array Oper) : Prop := ∀ (j : Nat) (q : Oper) (d : Tmp), ops[j]? = some q → q.dst = some d → d < sz

section
variable {P : Program} {sz : Nat} {ops : Array Oper}

/-- What one carried-out operation does, as a step: an aop or a call. -/
def StepTo (P : Program) (o : Oper) (env : Env) (H : Heap) (x : AV) (H' : Heap) : Prop :=
  match o.op with
  | .call { callee := .value f, args, argTypes := _ } => ∃ k first captured, aev env f = .fn (.func k) first captured ∧ SCalls P k (first ++ args.toList.map (aev env) ++ captured) H x H'
  | _ => aop P o (aev env) H = some (x, H')

theorem StepTo_run {o : Oper} {env : Env} {H : Heap} {x : AV} {H' : Heap} (h : StepTo P o env H x H') {ρ : Rho} {I : Nat → Prop} {w : World} {a : Act} (hr : Rel ρ I H w.heap)
    (hv : ∀ y, VR ρ I w.heap (aev env y) (a.eval y)) {K : Act → World → Prop} {Q : Exit → Act → World → Prop}
    (hk : ∀ v w' ρ' I', VR ρ' I' w'.heap x v → Rel ρ' I' H' w'.heap → Ext ρ I w ρ' I' w' → K (a.put o.dst v) w') : o.wp P a w K Q := by
  obtain ⟨dst, op, type, pos, after, guard⟩ := o
  have plain : aop P ⟨dst, op, type, pos, after, guard⟩ (aev env) H = some (x, H') → Oper.wp P ⟨dst, op, type, pos, after, guard⟩ a w K Q := by
    intro h1
    obtain ⟨v, w', ρ', hran, h2, h3, h4⟩ := aop_sound hr (cv := a.eval) hv h1
    have := hk v w' ρ' I h2 h3 h4
    unfold Oper.wp
    rcases hran with h5 | ⟨h5, rfl⟩
    · rw [h5]; exact this
    · rw [h5]; exact this
  unfold StepTo at h
  split at h
  · rename_i f args argTypes hop
    simp only at hop
    subst hop
    obtain ⟨k, first, captured, hf, hen, _, hcall⟩ := h
    have hfv := hv f
    rw [hf] at hfv
    generalize hfe : a.eval f = fv at hfv
    cases hfv with
    | fn h1 h2 h3 h4 =>
      rename_i fs cs
      have hargs := VRs_map hv args
      have hall : VRs ρ I w.heap (first ++ args.toList.map (aev env) ++ captured) (fs ++ args.map a.eval ++ cs) :=
        VRs.append (VRs.append ⟨h1, h3⟩ hargs) ⟨h2, h4⟩
      have hc := hcall ρ I w _ hr hall
      have hrun : (execOp a.eval ⟨dst, .call ⟨.value f, args, argTypes⟩, type, pos, after, guard⟩).run P w = .ok (.enter k (fs ++ args.map a.eval ++ cs)) w := by
        simp only [execOp, resolve, hfe, Deferred.ofValue, Sem.run_bind, Sem.run_pure, Result.andThen_ok, invoke]
        exact hen _ w
      unfold Oper.wp
      rw [hrun]
      show Calls P k _ w _
      refine hc.mono ?_
      rintro e w' ⟨v, ρ', I', rfl, h5, h6, h7⟩
      exact hk v w' ρ' I' h5 h6 h7
  · exact plain h

theorem WOp_cases {o : Oper} {K : Env → Heap → Prop} {env : Env} {H : Heap} (h : WOp P ops o K env H) :
    ((awanted ops o env = some false ∧ K (env.upd o.dst .undef) H) ∨ (awanted ops o env = some true ∧ ∃ x H', StepTo P o env H x H' ∧ K (env.upd o.dst x) H')) := by
  unfold WOp at h
  cases ha : awanted ops o env with
  | none => rw [ha] at h; exact h.elim
  | some b =>
    cases b with
    | false => rw [ha] at h; exact .inl ⟨rfl, h⟩
    | true =>
      rw [ha] at h
      refine .inr ⟨rfl, ?_⟩
      obtain ⟨dst, op, type, pos, after, guard⟩ := o
      unfold StepTo
      simp only [] at h ⊢
      split at h
      · rename_i f args argTypes
        split at h
        · rename_i k first captured hf
          obtain ⟨r, H', h1, h2⟩ := h
          exact ⟨r, H', ⟨k, first, captured, hf, h1⟩, h2⟩
        · exact h.elim
      · rename_i hno
        split at h
        · rename_i x H' hx
          refine ⟨x, H', ?_, h⟩
          exact hx
        · exact h.elim

theorem WOps_sound (hsz : dstsOk sz ops) {Q : Exit → Env → Heap → Prop} {Q' : Exit → Act → World → Prop} : ∀ (l : List Oper), (∀ o ∈ l, ∀ d, o.dst = some d → d < sz) → ∀ (env : Env) (H : Heap), WOps P ops Q l env H →
    ∀ ρ I w a, Rel ρ I H w.heap → ERel sz ρ I w.heap env a → (∀ e a' w', SPost sz ρ I w Q e a' w' → Q' e a' w') → wpList P ops Q' l a w
  | [], _, env, H, h, ρ, I, w, a, hr, he, hq => hq _ _ _ ⟨env, H, ρ, I, h, hr, he, Ext.refl _ _ _⟩
  | o :: rest, hds, env, H, h, ρ, I, w, a, hr, he, hq => by
    have h1 := WOp_cases h
    have hd := hds o (by simp)
    have hds' : ∀ q ∈ rest, ∀ d, q.dst = some d → d < sz := fun q hq => hds q (List.mem_cons_of_mem _ hq)
    unfold wpList
    rcases h1 with ⟨ha, hk⟩ | ⟨ha, x, H', hst, hk⟩
    · rw [if_neg (by rw [awanted_run ha he hsz]; simp)]
      exact WOps_sound hsz rest hds' _ _ hk ρ I w _ hr (he.put hd (.sc _)) hq
    · rw [if_pos (awanted_run ha he hsz)]
      refine .inl (StepTo_run hst hr he.eval ?_)
      intro v w' ρ' I' h2 h3 h4
      exact WOps_sound hsz rest hds' _ _ hk ρ' I' w' _ h3 ((he.mono h4).put hd h2) (fun e a' w2 hp => hq e a' w2 (hp.ext h4 (fun _ _ _ h => h)))

end
end Go.Fl
