/- Long regions: a piece at a time; regions that draw whose loads read what is kept alone. -/
import Derived.Test.YtmnbicoeahlpcaaFl33
noncomputable section
namespace Go.Fl
open Go

section
variable {P : Program} {sz : Nat} {ops : Array Oper}

def WKOp (P : Program) (ops : Array Oper) (o : Oper) (K : Env → Heap → Prop) (env : Env) (H : Heap) : Prop :=
  match awanted ops o env with
  | none => False
  | some false => K (env.upd o.dst .undef) H
  | some true =>
    if isP o = true then match aop P o (aev env) H with
      | some (x, _) => K (env.upd o.dst x) H
      | none => False
    else if isL o = true then match aop P o (aev env) H with
      | some (x, _) => (∀ H2, aop P o (aev env) H2 = some (x, H2)) ∧ K (env.upd o.dst x) H
      | none => False
    else WStep P o env H fun x H' => K (env.upd o.dst x) H'

def WKOps (P : Program) (ops : Array Oper) (Q : Exit → Env → Heap → Prop) : List Oper → Env → Heap → Prop
  | [], env, H => Q .normal env H
  | o :: rest, env, H => WKOp P ops o (WKOps P ops Q rest) env H

theorem WStep.mono {o : Oper} {env : Env} {H : Heap} {K K' : AV → Heap → Prop} (hk : ∀ x H, K x H → K' x H) (h : WStep P o env H K) : WStep P o env H K' := by
  unfold WStep at h ⊢
  split at h
  · split at h
    · obtain ⟨r, H', h1, h2⟩ := h
      exact ⟨r, H', h1, hk _ _ h2⟩
    · exact h.elim
  · split at h
    · exact hk _ _ h
    · exact h.elim

theorem WKOp.mono {o : Oper} {env : Env} {H : Heap} {K K' : Env → Heap → Prop} (hk : ∀ x H, K x H → K' x H) (h : WKOp P ops o K env H) : WKOp P ops o K' env H := by
  unfold WKOp at h ⊢
  cases ha : awanted ops o env with
  | none => simp only [ha] at h
  | some b =>
    cases b with
    | false => simp only [ha] at h ⊢; exact hk _ _ h
    | true =>
      simp only [ha] at h ⊢
      by_cases hp : isP o = true
      · simp only [hp, if_true] at h ⊢
        cases hx : aop P o (aev env) H with
        | none => simp only [hx] at h
        | some y => simp only [hx] at h ⊢; exact hk _ _ h
      · by_cases hL : isL o = true
        · simp only [hp, hL, if_true, Bool.false_eq_true, if_false] at h ⊢
          cases hx : aop P o (aev env) H with
          | none => simp only [hx] at h
          | some y => simp only [hx] at h ⊢; exact ⟨h.1, hk _ _ h.2⟩
        · simp only [hp, hL, Bool.false_eq_true, if_false] at h ⊢
          exact h.mono fun x H' h' => hk _ _ h'

theorem wdraw_of_k {bf : List Nat} {Q : Exit → Env → Heap → Prop} : ∀ (rest : List Oper) (i : Nat) (st : List (Nat × Heap)) (ld : List (Nat × Oper × Env × AV)) (env : Env) (H : Heap),
    (∀ y q e x, (y, q, e, x) ∈ ld → ∀ H2, aop P q (aev e) H2 = some (x, H2)) → WKOps P ops Q rest env H → WDraw P ops bf i rest st ld Q env H
  | [], i, st, ld, env, H, _, h => h
  | o :: rest, i, st, ld, env, H, hld, h => by
    have hl : ∀ (l : List (Nat × Oper × Env × AV)), (∀ y q e x, (y, q, e, x) ∈ l → ∀ H2, aop P q (aev e) H2 = some (x, H2)) → ∀ H', ldOk P bf i H' l := by
      intro l
      induction l with
      | nil => intro _ _; trivial
      | cons a l ih =>
        obtain ⟨y, q, e, x⟩ := a
        intro hl H'
        exact ⟨.inr (hl y q e x List.mem_cons_self H'), ih (fun y q e x hm => hl y q e x (List.mem_cons_of_mem _ hm)) H'⟩
    simp only [WKOps, WKOp] at h
    simp only [WDraw]
    cases ha : awanted ops o env with
    | none => simp only [ha] at h
    | some b =>
      cases b with
      | false => simp only [ha] at h ⊢; exact wdraw_of_k rest _ st ld _ H hld h
      | true =>
        simp only [ha] at h ⊢
        by_cases hp : isP o = true
        · simp only [hp, if_true] at h ⊢
          cases hx : aop P o (aev env) H with
          | none => simp only [hx] at h
          | some y => simp only [hx] at h ⊢; exact wdraw_of_k rest _ st ld _ H hld h
        · by_cases hL : isL o = true
          · simp only [hp, hL, if_true, Bool.false_eq_true, if_false] at h ⊢
            cases hx : aop P o (aev env) H with
            | none => simp only [hx] at h
            | some y =>
              obtain ⟨x, H'⟩ := y
              simp only [hx] at h ⊢
              refine ⟨?_, wdraw_of_k rest _ st _ _ H ?_ h.2⟩
              · have : ∀ (l : List (Nat × Heap)), stOk P bf i o env x l := by
                  intro l
                  induction l with
                  | nil => trivial
                  | cons a l ih => exact ⟨.inr (h.1 a.2), ih⟩
                exact this st
              · intro y q e x' hm
                rcases List.mem_cons.1 hm with e1 | hm
                · cases e1; exact h.1
                · exact hld y q e x' hm
          · simp only [hp, hL, Bool.false_eq_true, if_false] at h ⊢
            exact h.mono fun x H' h' => ⟨hl ld hld H', wdraw_of_k rest _ _ ld _ H' hld h'⟩

/-- A region that draws, whose loads read what is kept. -/
theorem scode_drawK {id : Nat} {Q : Exit → Env → Heap → Prop} {env : Env} {H : Heap} (hm : P.follows .mixedOrders = true) (hk : drawOk sz ops = true) (h : WKOps P ops Q ops.toList env H) : SCode P sz (.region id ops true) Q env H :=
  scode_draw (bf := (Region.before ops).toList) hm hk (by simp) (wdraw_of_k _ _ _ _ _ _ (fun y q e x hm => by cases hm) h)

theorem WKOps.append {Q : Exit → Env → Heap → Prop} {l2 : List Oper} : ∀ {l1 : List Oper} {env : Env} {H : Heap}, WKOps P ops (thenA (WKOps P ops Q l2) Q) l1 env H → WKOps P ops Q (l1 ++ l2) env H
  | [], _, _, h => h
  | _ :: _, _, _, h => WKOp.mono (fun _ _ h => WKOps.append h) h

/-- The next n operations. -/
theorem wk_take (n : Nat) {Q : Exit → Env → Heap → Prop} {l : List Oper} {env : Env} {H : Heap} (h : ∀ K : Env → Heap → Prop, (∀ env H, WKOps P ops Q (l.drop n) env H → K env H) → WKOps P ops (thenA K Q) (l.take n) env H) : WKOps P ops Q l env H := by
  have := WKOps.append (h _ fun _ _ h => h)
  rwa [List.take_append_drop] at this

theorem WOp.mono {o : Oper} {env : Env} {H : Heap} {K K' : Env → Heap → Prop} (hk : ∀ x H, K x H → K' x H) (h : WOp P ops o K env H) : WOp P ops o K' env H := by
  obtain ⟨dst, op, type, pos, after, guard⟩ := o
  unfold WOp at h ⊢
  cases ha : awanted ops ⟨dst, op, type, pos, after, guard⟩ env with
  | none => simp only [ha] at h
  | some b =>
    cases b with
    | false => simp only [ha] at h ⊢; exact hk _ _ h
    | true =>
      simp only [ha] at h ⊢
      have plain : (match aop P ⟨dst, op, type, pos, after, guard⟩ (aev env) H with
        | some (x, H') => K (env.upd dst x) H'
        | none => False) → (match aop P ⟨dst, op, type, pos, after, guard⟩ (aev env) H with
        | some (x, H') => K' (env.upd dst x) H'
        | none => False) := by
        intro h
        cases hx : aop P ⟨dst, op, type, pos, after, guard⟩ (aev env) H with
        | none => simp only [hx] at h
        | some y => simp only [hx] at h ⊢; exact hk _ _ h
      cases op
      case call c =>
        obtain ⟨callee, args, argTypes⟩ := c
        cases callee
        case value f =>
          simp only at h ⊢
          cases hf : aev env f <;> simp only [hf] at h ⊢
          rename_i fr first captured
          cases fr <;> simp only at h ⊢
          obtain ⟨r, H', h1, h2⟩ := h
          exact ⟨r, H', h1, hk _ _ h2⟩
        all_goals exact plain h
      all_goals exact plain h

theorem WOps.append {Q : Exit → Env → Heap → Prop} {l2 : List Oper} : ∀ {l1 : List Oper} {env : Env} {H : Heap}, WOps P ops (thenA (WOps P ops Q l2) Q) l1 env H → WOps P ops Q (l1 ++ l2) env H
  | [], _, _, h => h
  | _ :: _, _, _, h => WOp.mono (fun _ _ h => WOps.append h) h

theorem w_take (n : Nat) {Q : Exit → Env → Heap → Prop} {l : List Oper} {env : Env} {H : Heap} (h : ∀ K : Env → Heap → Prop, (∀ env H, WOps P ops Q (l.drop n) env H → K env H) → WOps P ops (thenA K Q) (l.take n) env H) : WOps P ops Q l env H := by
  have := WOps.append (h _ fun _ _ h => h)
  rwa [List.take_append_drop] at this
end

attribute [go_sem] WKOps WKOp List.take_succ_cons List.drop_succ_cons List.take_zero List.drop_zero
end Go.Fl
