/- Regions that draw, and leave the heap as it is. -/
import Derived.Test.YtmnbicoeahlpcaaFl35
noncomputable section
namespace Go.Fl
open Go

section
variable {P : Program} {sz : Nat} {ops : Array Oper}

def WSOp (P : Program) (ops : Array Oper) (o : Oper) (K : Env → Heap → Prop) (env : Env) (H : Heap) : Prop :=
  match awanted ops o env with
  | none => False
  | some false => K (env.upd o.dst .undef) H
  | some true =>
    if isP o = true then match aop P o (aev env) H with
      | some (x, _) => K (env.upd o.dst x) H
      | none => False
    else if isL o = true then match aop P o (aev env) H with
      | some (x, H') => H' = H ∧ K (env.upd o.dst x) H
      | none => False
    else WStep P o env H fun x H' => H' = H ∧ K (env.upd o.dst x) H

def WSOps (P : Program) (ops : Array Oper) (Q : Exit → Env → Heap → Prop) : List Oper → Env → Heap → Prop
  | [], env, H => Q .normal env H
  | o :: rest, env, H => WSOp P ops o (WSOps P ops Q rest) env H

theorem WSOp.mono {o : Oper} {env : Env} {H : Heap} {K K' : Env → Heap → Prop} (hk : ∀ x H, K x H → K' x H) (h : WSOp P ops o K env H) : WSOp P ops o K' env H := by
  unfold WSOp at h ⊢
  cases ha : awanted ops o env with
  | none => simp only [ha] at h
  | some b =>
    cases b with
    | false => simp only [ha] at h ⊢; exact hk _ _ h
    | true =>
      simp only [ha] at h ⊢
      by_cases hp : isP o = true
      · simp only [hp, if_true] at h ⊢
        cases hx : aop P o (aev env) H with
        | none => simp only [hx] at h
        | some y => simp only [hx] at h ⊢; exact hk _ _ h
      · by_cases hL : isL o = true
        · simp only [hp, hL, if_true, Bool.false_eq_true, if_false] at h ⊢
          cases hx : aop P o (aev env) H with
          | none => simp only [hx] at h
          | some y => simp only [hx] at h ⊢; exact ⟨h.1, hk _ _ h.2⟩
        · simp only [hp, hL, Bool.false_eq_true, if_false] at h ⊢
          exact h.mono fun x H' h' => ⟨h'.1, hk _ _ h'.2⟩

theorem wdraw_of_s {bf : List Nat} {Q : Exit → Env → Heap → Prop} : ∀ (rest : List Oper) (i : Nat) (st : List (Nat × Heap)) (ld : List (Nat × Oper × Env × AV)) (env : Env) (H : Heap),
    (∀ c Hc, (c, Hc) ∈ st → Hc = H) → (∀ y q e x, (y, q, e, x) ∈ ld → aop P q (aev e) H = some (x, H)) → WSOps P ops Q rest env H → WDraw P ops bf i rest st ld Q env H
  | [], i, st, ld, env, H, _, _, h => h
  | o :: rest, i, st, ld, env, H, hst, hld, h => by
    have hl : ∀ (l : List (Nat × Oper × Env × AV)), (∀ y q e x, (y, q, e, x) ∈ l → aop P q (aev e) H = some (x, H)) → ldOk P bf i H l := by
      intro l
      induction l with
      | nil => intro _; trivial
      | cons a l ih =>
        obtain ⟨y, q, e, x⟩ := a
        intro hl
        exact ⟨.inr (hl y q e x List.mem_cons_self), ih (fun y q e x hm => hl y q e x (List.mem_cons_of_mem _ hm))⟩
    simp only [WSOps, WSOp] at h
    simp only [WDraw]
    cases ha : awanted ops o env with
    | none => simp only [ha] at h
    | some b =>
      cases b with
      | false => simp only [ha] at h ⊢; exact wdraw_of_s rest _ st ld _ H hst hld h
      | true =>
        simp only [ha] at h ⊢
        by_cases hp : isP o = true
        · simp only [hp, if_true] at h ⊢
          cases hx : aop P o (aev env) H with
          | none => simp only [hx] at h
          | some y => simp only [hx] at h ⊢; exact wdraw_of_s rest _ st ld _ H hst hld h
        · by_cases hL : isL o = true
          · simp only [hp, hL, if_true, Bool.false_eq_true, if_false] at h ⊢
            cases hx : aop P o (aev env) H with
            | none => simp only [hx] at h
            | some y =>
              obtain ⟨x, H'⟩ := y
              simp only [hx] at h ⊢
              obtain ⟨rfl, h⟩ := h
              refine ⟨?_, wdraw_of_s rest _ st _ _ _ hst ?_ h⟩
              · have : ∀ (l : List (Nat × Heap)), (∀ c Hc, (c, Hc) ∈ l → Hc = H') → stOk P bf i o env x l := by
                  intro l
                  induction l with
                  | nil => intro _; trivial
                  | cons a l ih =>
                    intro hl
                    obtain ⟨c, Hc⟩ := a
                    refine ⟨.inr ?_, ih fun c Hc hm => hl c Hc (List.mem_cons_of_mem _ hm)⟩
                    rw [hl c Hc List.mem_cons_self]
                    exact hx
                exact this st hst
              · intro y q e x' hm
                rcases List.mem_cons.1 hm with e1 | hm
                · cases e1; exact hx
                · exact hld y q e x' hm
          · simp only [hp, hL, Bool.false_eq_true, if_false] at h ⊢
            refine h.mono fun x H' h' => ?_
            obtain ⟨rfl, h'⟩ := h'
            refine ⟨hl ld hld, wdraw_of_s rest _ _ ld _ _ ?_ hld h'⟩
            intro c Hc hm
            rcases List.mem_cons.1 hm with e1 | hm
            · cases e1; rfl
            · exact hst c Hc hm

/-- A region that draws and leaves the heap as it is. -/
theorem scode_drawS {id : Nat} {Q : Exit → Env → Heap → Prop} {env : Env} {H : Heap} (hm : P.follows .mixedOrders = true) (hk : drawOk sz ops = true) (h : WSOps P ops Q ops.toList env H) : SCode P sz (.region id ops true) Q env H :=
  scode_draw (bf := (Region.before ops).toList) hm hk (by simp) (wdraw_of_s _ _ _ _ _ _ (fun c Hc hm => by cases hm) (fun y q e x hm => by cases hm) h)

theorem WSOps.append {Q : Exit → Env → Heap → Prop} {l2 : List Oper} : ∀ {l1 : List Oper} {env : Env} {H : Heap}, WSOps P ops (thenA (WSOps P ops Q l2) Q) l1 env H → WSOps P ops Q (l1 ++ l2) env H
  | [], _, _, h => h
  | _ :: _, _, _, h => WSOp.mono (fun _ _ h => WSOps.append h) h

theorem ws_take (n : Nat) {Q : Exit → Env → Heap → Prop} {l : List Oper} {env : Env} {H : Heap} (h : ∀ K : Env → Heap → Prop, (∀ env H, WSOps P ops Q (l.drop n) env H → K env H) → WSOps P ops (thenA K Q) (l.take n) env H) : WSOps P ops Q l env H := by
  have := WSOps.append (h _ fun _ _ h => h)
  rwa [List.take_append_drop] at this
end

attribute [go_sem] WSOps WSOp
end Go.Fl
