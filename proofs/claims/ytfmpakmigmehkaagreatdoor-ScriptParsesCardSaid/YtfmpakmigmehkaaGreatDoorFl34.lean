/- Long regions: a piece at a time; regions that draw whose loads read what is kept alone. -/
import Derived.Test.YtfmpakmigmehkaaGreatDoorFl29
set_option linter.unusedVariables false
set_option linter.unusedSimpArgs false
noncomputable section Fl34S
namespace Go.Fl
open Go

section
variable {P : Program} {sz : Nat} {ops : Array Oper}

def WKOp (P : Program) (ops : Array Oper) (o : Oper) (K : Env → Heap → Prop) (env : Env) (H : Heap) : Prop :=
  match awanted ops o env with
  | none => False
  | some false => K (env.upd o.dst .undef) H
  | some true =>
    if isP o = true then match aop P o (aev env) H with
      | some (x, _) => K (env.upd o.dst x) H
      | none => False
    else if isL o = true then match aop P o (aev env) H with
      | some (x, _) => (∀ H2, aop P o (aev env) H2 = some (x, H2)) ∧ K (env.upd o.dst x) H
      | none => False
    else WStep P o env H fun x H' => K (env.upd o.dst x) H'

def WKOps (P : Program) (ops : Array Oper) (Q : Exit → Env → Heap → Prop) : List Oper → Env → Heap → Prop
  | [], env, H => Q .normal env H
  | o :: rest, env, H => WKOp P ops o (WKOps P ops Q rest) env H

theorem WStep.mono {o : Oper} {env : Env} {H : Heap} {K K' : AV → Heap → Prop} (hk : ∀ x H, K x H → K' x H) (h : WStep P o env H K) : WStep P o env H K' := by
  unfold WStep at h ⊢
  split at h
  · split at h
    · obtain ⟨r, H', h1, h2⟩ := h
      exact ⟨r, H', h1, hk _ _ h2⟩
    · exact h.elim
  · split at h
    · exact hk _ _ h
    · exact h.elim

theorem WKOp.mono {o : Oper} {env : Env} {H : Heap} {K K' : Env → Heap → Prop} (hk : ∀ x H, K x H → K' x H) (h : WKOp P ops o K env H) : WKOp P ops o K' env H := by
  unfold WKOp at h ⊢
  cases ha : awanted ops o env with
  | none => simp only [ha] at h
  | some b =>
    cases b with
    | false => simp only [ha] at h ⊢; exact hk _ _ h
    | true =>
      simp only [ha] at h ⊢
      by_cases hp : isP o = true
      · simp only [hp, if_true] at h ⊢
        cases hx : aop P o (aev env) H with
        | none => simp only [hx] at h
        | some y => simp only [hx] at h ⊢; exact hk _ _ h
      · by_cases hL : isL o = true
        · simp only [hp, hL, if_true, Bool.false_eq_true, if_false] at h ⊢
          cases hx : aop P o (aev env) H with
          | none => simp only [hx] at h
          | some y => simp only [hx] at h ⊢; exact ⟨h.1, hk _ _ h.2⟩
        · simp only [hp, hL, Bool.false_eq_true, if_false] at h ⊢
          exact h.mono fun x H' h' => hk _ _ h'

theorem wdraw_of_k {bf : List Nat} {Q : Exit → Env → Heap → Prop} : ∀ (rest : List Oper) (i : Nat) (st : List (Nat × Heap)) (ld : List (Nat × Oper × Env × AV)) (env : Env) (H : Heap),
    (∀ y q e x, (y, q, e, x) ∈ ld → ∀ H2, aop P q (aev e) H2 = some (x, H2)) → WKOps P ops Q rest env H → WDraw P ops bf i rest st ld Q env H
  | [], i, st, ld, env, H, _, h => h
  | o :: rest, i, st, ld, env, H, hld, h => by
    have hl : ∀ (l : List (Nat × Oper × Env × AV)), (∀ y q e x, (y, q, e, x) ∈ l → ∀ H2, aop P q (aev e) H2 = some (x, H2)) → ∀ H', ldOk P bf i H' l := by
      intro l
      induction l with
      | nil => intro _ _; trivial
      | cons a l ih =>
        obtain ⟨y, q, e, x⟩ := a
        intro hl H'
        exact ⟨.inr (hl y q e x List.mem_cons_self H'), ih (fun y q e x hm => hl y q e x (List.mem_cons_of_mem _ hm)) H'⟩
    simp only [WKOps, WKOp] at h
    simp only [WDraw]
    cases ha : awanted ops o env with
    | none => simp only [ha] at h
    | some b =>
      cases b with
      | false => simp only [ha] at h ⊢; exact wdraw_of_k rest _ st ld _ H hld h
      | true =>
        simp only [ha] at h ⊢
        by_cases hp : isP o = true
        · simp only [hp, if_true] at h ⊢
          cases hx : aop P o (aev env) H with
          | none => simp only [hx] at h
          | some y => simp only [hx] at h ⊢; exact wdraw_of_k rest _ st ld _ H hld h
        · by_cases hL : isL o = true
          · simp only [hp, hL, if_true, Bool.false_eq_true, if_false] at h ⊢
            cases hx : aop P o (aev env) H with
            | none => simp only [hx] at h
            | some y =>
              obtain ⟨x, H'⟩ := y
              simp only [hx] at h ⊢
              refine ⟨?_, wdraw_of_k rest _ st _ _ H ?_ h.2⟩
              · have : ∀ (l : List (Nat × Heap)), stOk P bf i o env x l := by
                  intro l
                  induction l with
                  | nil => trivial
                  | cons a l ih => exact ⟨.inr (h.1 a.2), ih⟩
                exact this st
              · intro y q e x' hm
                rcases List.mem_cons.1 hm with e1 | hm
                · cases e1; exact h.1
                · exact hld y q e x' hm
          · simp only [hp, hL, Bool.false_eq_true, if_false] at h ⊢
            exact h.mono fun x H' h' => ⟨hl ld hld H', wdraw_of_k rest _ _ ld _ H' hld h'⟩

/-- A region that draws, whose loads read what is kept. -/
theorem scode_drawK {id : Nat} {Q : Exit → Env → Heap → Prop} {env : Env} {H : Heap} (hm : P.follows .mixedOrders = true) (hk : drawOk sz ops = true) (h : WKOps P ops Q ops.toList env H) : SCode P sz (.region id ops true) Q env H :=
  scode_draw (bf := (Region.before ops).toList) hm hk (by simp) (wdraw_of_k _ _ _ _ _ _ (fun y q e x hm => by cases hm) h)

theorem WKOps.append {Q : Exit → Env → Heap → Prop} {l2 : List Oper} : ∀ {l1 : List Oper} {env : Env} {H : Heap}, WKOps P ops (thenA (WKOps P ops Q l2) Q) l1 env H → WKOps P ops Q (l1 ++ l2) env H
  | [], _, _, h => h
  | _ :: _, _, _, h => WKOp.mono (fun _ _ h => WKOps.append h) h

/-- The next n operations. -/
theorem wk_take (n : Nat) {Q : Exit → Env → Heap → Prop} {l : List Oper} {env : Env} {H : Heap} (h : ∀ K : Env → Heap → Prop, (∀ env H, WKOps P ops Q (l.drop n) env H → K env H) → WKOps P ops (thenA K Q) (l.take n) env H) : WKOps P ops Q l env H := by
  have := WKOps.append (h _ fun _ _ h => h)
  rwa [List.take_append_drop] at this

theorem WOp.mono {o : Oper} {env : Env} {H : Heap} {K K' : Env → Heap → Prop} (hk : ∀ x H, K x H → K' x H) (h : WOp P ops o K env H) : WOp P ops o K' env H := by
  obtain ⟨dst, op, type, pos, after, guard⟩ := o
  unfold WOp at h ⊢
  cases ha : awanted ops ⟨dst, op, type, pos, after, guard⟩ env with
  | none => simp only [ha] at h
  | some b =>
    cases b with
    | false => simp only [ha] at h ⊢; exact hk _ _ h
    | true =>
      simp only [ha] at h ⊢
      have plain : (match aop P ⟨dst, op, type, pos, after, guard⟩ (aev env) H with
        | some (x, H') => K (env.upd dst x) H'
        | none => False) → (match aop P ⟨dst, op, type, pos, after, guard⟩ (aev env) H with
        | some (x, H') => K' (env.upd dst x) H'
        | none => False) := by
        intro h
        cases hx : aop P ⟨dst, op, type, pos, after, guard⟩ (aev env) H with
        | none => simp only [hx] at h
        | some y => simp only [hx] at h ⊢; exact hk _ _ h
      cases op
      case call c =>
        obtain ⟨callee, args, argTypes⟩ := c
        cases callee
        case value f =>
          simp only at h ⊢
          cases hf : aev env f <;> simp only [hf] at h ⊢
          rename_i fr first captured
          cases fr <;> simp only at h ⊢
          obtain ⟨r, H', h1, h2⟩ := h
          exact ⟨r, H', h1, hk _ _ h2⟩
        all_goals exact plain h
      all_goals exact plain h

theorem WOps.append {Q : Exit → Env → Heap → Prop} {l2 : List Oper} : ∀ {l1 : List Oper} {env : Env} {H : Heap}, WOps P ops (thenA (WOps P ops Q l2) Q) l1 env H → WOps P ops Q (l1 ++ l2) env H
  | [], _, _, h => h
  | _ :: _, _, _, h => WOp.mono (fun _ _ h => WOps.append h) h

theorem w_take (n : Nat) {Q : Exit → Env → Heap → Prop} {l : List Oper} {env : Env} {H : Heap} (h : ∀ K : Env → Heap → Prop, (∀ env H, WOps P ops Q (l.drop n) env H → K env H) → WOps P ops (thenA K Q) (l.take n) env H) : WOps P ops Q l env H := by
  have := WOps.append (h _ fun _ _ h => h)
  rwa [List.take_append_drop] at this
end

attribute [go_sem] WKOps WKOp List.take_succ_cons List.drop_succ_cons List.take_zero List.drop_zero
end Go.Fl
end Fl34S

noncomputable section Fl35S
namespace Go.Fl
open Go

/-- Blocks are given up; where the frame names them it names what they hold, kept. -/
theorem scode_freeze {P : Program} {sz : Nat} {c : Code} {Q : Exit → Env → Heap → Prop} {env env' : Env} {H H' : Heap} (hle : H'.le H) (hn : H.next = H'.next) (hf : ∀ i, Froz H (fun b => H'.get b = none) (env i) (env' i)) (h : SCode P sz c Q env' H') : SCode P sz c Q env H := by
  intro ρ I w a Q' hrel he hQ
  have hrel' : Rel ρ (keptBy ρ I H H') H' w.heap := hrel.keep hle (by omega)
  refine h ρ _ w a Q' hrel' ⟨he.size, he.defers, fun i => (hf i).vr hrel (he.val i), hrel'.glob⟩ ?_
  rintro e a' w' ⟨env1, H1, ρ', I', h1, h2, h3, hx⟩
  refine hQ e a' w' ⟨env1, H1, ρ', I', h1, h2, h3, { hx with imm := fun cb hcb => hx.imm cb (.inl hcb), kept := fun cb hcb => hx.kept cb (.inl hcb), newI := fun cb hcb => ?_ }⟩
  rcases hx.newI cb hcb with h1 | h1 | h1
  · rcases h1 with h1 | ⟨b, cs, base, _, _, h4⟩
    · exact .inl h1
    · exact .inr (.inr ⟨_, _, h4⟩)
  · exact .inr (.inl h1)
  · exact .inr (.inr h1)

/-- One slot that names a whole row of a block. -/
theorem scode_freeze_slot {P : Program} {sz : Nat} {c : Code} {Q : Exit → Env → Heap → Prop} {env : Env} {H : Heap} (i b len n : Nat) {cs : List AV} (hb : H.get b = some cs) (hi : env i = .ms b 0 len n) (hl : len * n = cs.length) (h : SCode P sz c Q (env.upd (some i) (.vs len n cs)) (H.del b)) : SCode P sz c Q env H := by
  refine scode_freeze (H' := H.del b) (fun k cs hk => by rw [Heap.get_del] at hk; split at hk; cases hk; exact hk) rfl (fun j => ?_) h
  by_cases hj : i = j
  · subst hj
    rw [upd_same, hi]
    exact Froz.row hb (by simp [Heap.get_del]) (by omega) (by rw [List.drop_zero, List.take_of_length_le (by omega)])
  · rw [upd_ne _ _ _ _ hj]
    exact .same _

/-- What is wanted of the frame, and no more. -/
theorem scode_gen {P : Program} {sz : Nat} {c : Code} {Q : Exit → Env → Heap → Prop} {env : Env} {H : Heap} (F : Env → Heap → Prop) (hF : F env H) (h : ∀ env H, F env H → SCode P sz c Q env H) : SCode P sz c Q env H := h env H hF
end Go.Fl
end Fl35S

noncomputable section Fl36S
namespace Go.Fl
open Go

section
variable {P : Program} {sz : Nat} {ops : Array Oper}

def WSOp (P : Program) (ops : Array Oper) (o : Oper) (K : Env → Heap → Prop) (env : Env) (H : Heap) : Prop :=
  match awanted ops o env with
  | none => False
  | some false => K (env.upd o.dst .undef) H
  | some true =>
    if isP o = true then match aop P o (aev env) H with
      | some (x, _) => K (env.upd o.dst x) H
      | none => False
    else if isL o = true then match aop P o (aev env) H with
      | some (x, H') => H' = H ∧ K (env.upd o.dst x) H
      | none => False
    else WStep P o env H fun x H' => H' = H ∧ K (env.upd o.dst x) H

def WSOps (P : Program) (ops : Array Oper) (Q : Exit → Env → Heap → Prop) : List Oper → Env → Heap → Prop
  | [], env, H => Q .normal env H
  | o :: rest, env, H => WSOp P ops o (WSOps P ops Q rest) env H

theorem WSOp.mono {o : Oper} {env : Env} {H : Heap} {K K' : Env → Heap → Prop} (hk : ∀ x H, K x H → K' x H) (h : WSOp P ops o K env H) : WSOp P ops o K' env H := by
  unfold WSOp at h ⊢
  cases ha : awanted ops o env with
  | none => simp only [ha] at h
  | some b =>
    cases b with
    | false => simp only [ha] at h ⊢; exact hk _ _ h
    | true =>
      simp only [ha] at h ⊢
      by_cases hp : isP o = true
      · simp only [hp, if_true] at h ⊢
        cases hx : aop P o (aev env) H with
        | none => simp only [hx] at h
        | some y => simp only [hx] at h ⊢; exact hk _ _ h
      · by_cases hL : isL o = true
        · simp only [hp, hL, if_true, Bool.false_eq_true, if_false] at h ⊢
          cases hx : aop P o (aev env) H with
          | none => simp only [hx] at h
          | some y => simp only [hx] at h ⊢; exact ⟨h.1, hk _ _ h.2⟩
        · simp only [hp, hL, Bool.false_eq_true, if_false] at h ⊢
          exact h.mono fun x H' h' => ⟨h'.1, hk _ _ h'.2⟩

theorem wdraw_of_s {bf : List Nat} {Q : Exit → Env → Heap → Prop} : ∀ (rest : List Oper) (i : Nat) (st : List (Nat × Heap)) (ld : List (Nat × Oper × Env × AV)) (env : Env) (H : Heap),
    (∀ c Hc, (c, Hc) ∈ st → Hc = H) → (∀ y q e x, (y, q, e, x) ∈ ld → aop P q (aev e) H = some (x, H)) → WSOps P ops Q rest env H → WDraw P ops bf i rest st ld Q env H
  | [], i, st, ld, env, H, _, _, h => h
  | o :: rest, i, st, ld, env, H, hst, hld, h => by
    have hl : ∀ (l : List (Nat × Oper × Env × AV)), (∀ y q e x, (y, q, e, x) ∈ l → aop P q (aev e) H = some (x, H)) → ldOk P bf i H l := by
      intro l
      induction l with
      | nil => intro _; trivial
      | cons a l ih =>
        obtain ⟨y, q, e, x⟩ := a
        intro hl
        exact ⟨.inr (hl y q e x List.mem_cons_self), ih (fun y q e x hm => hl y q e x (List.mem_cons_of_mem _ hm))⟩
    simp only [WSOps, WSOp] at h
    simp only [WDraw]
    cases ha : awanted ops o env with
    | none => simp only [ha] at h
    | some b =>
      cases b with
      | false => simp only [ha] at h ⊢; exact wdraw_of_s rest _ st ld _ H hst hld h
      | true =>
        simp only [ha] at h ⊢
        by_cases hp : isP o = true
        · simp only [hp, if_true] at h ⊢
          cases hx : aop P o (aev env) H with
          | none => simp only [hx] at h
          | some y => simp only [hx] at h ⊢; exact wdraw_of_s rest _ st ld _ H hst hld h
        · by_cases hL : isL o = true
          · simp only [hp, hL, if_true, Bool.false_eq_true, if_false] at h ⊢
            cases hx : aop P o (aev env) H with
            | none => simp only [hx] at h
            | some y =>
              obtain ⟨x, H'⟩ := y
              simp only [hx] at h ⊢
              obtain ⟨rfl, h⟩ := h
              refine ⟨?_, wdraw_of_s rest _ st _ _ _ hst ?_ h⟩
              · have : ∀ (l : List (Nat × Heap)), (∀ c Hc, (c, Hc) ∈ l → Hc = H') → stOk P bf i o env x l := by
                  intro l
                  induction l with
                  | nil => intro _; trivial
                  | cons a l ih =>
                    intro hl
                    obtain ⟨c, Hc⟩ := a
                    refine ⟨.inr ?_, ih fun c Hc hm => hl c Hc (List.mem_cons_of_mem _ hm)⟩
                    rw [hl c Hc List.mem_cons_self]
                    exact hx
                exact this st hst
              · intro y q e x' hm
                rcases List.mem_cons.1 hm with e1 | hm
                · cases e1; exact hx
                · exact hld y q e x' hm
          · simp only [hp, hL, Bool.false_eq_true, if_false] at h ⊢
            refine h.mono fun x H' h' => ?_
            obtain ⟨rfl, h'⟩ := h'
            refine ⟨hl ld hld, wdraw_of_s rest _ _ ld _ _ ?_ hld h'⟩
            intro c Hc hm
            rcases List.mem_cons.1 hm with e1 | hm
            · cases e1; rfl
            · exact hst c Hc hm

/-- A region that draws and leaves the heap as it is. -/
theorem scode_drawS {id : Nat} {Q : Exit → Env → Heap → Prop} {env : Env} {H : Heap} (hm : P.follows .mixedOrders = true) (hk : drawOk sz ops = true) (h : WSOps P ops Q ops.toList env H) : SCode P sz (.region id ops true) Q env H :=
  scode_draw (bf := (Region.before ops).toList) hm hk (by simp) (wdraw_of_s _ _ _ _ _ _ (fun c Hc hm => by cases hm) (fun y q e x hm => by cases hm) h)

theorem WSOps.append {Q : Exit → Env → Heap → Prop} {l2 : List Oper} : ∀ {l1 : List Oper} {env : Env} {H : Heap}, WSOps P ops (thenA (WSOps P ops Q l2) Q) l1 env H → WSOps P ops Q (l1 ++ l2) env H
  | [], _, _, h => h
  | _ :: _, _, _, h => WSOp.mono (fun _ _ h => WSOps.append h) h

theorem ws_take (n : Nat) {Q : Exit → Env → Heap → Prop} {l : List Oper} {env : Env} {H : Heap} (h : ∀ K : Env → Heap → Prop, (∀ env H, WSOps P ops Q (l.drop n) env H → K env H) → WSOps P ops (thenA K Q) (l.take n) env H) : WSOps P ops Q l env H := by
  have := WSOps.append (h _ fun _ _ h => h)
  rwa [List.take_append_drop] at this
end

attribute [go_sem] WSOps WSOp
end Go.Fl
end Fl36S

noncomputable section Fl37S
namespace Go.Fl
open Go

section
variable {P : Program} {sz : Nat} {ops : Array Oper} {bf : List Nat}

def WDrawC (P : Program) (ops : Array Oper) (bf : List Nat) : Nat → List Oper → List (Nat × Heap) → List (Nat × Oper × Env × AV) → (List (Nat × Heap) → List (Nat × Oper × Env × AV) → Env → Heap → Prop) → Env → Heap → Prop
  | _, [], st, ld, K, env, H => K st ld env H
  | i, o :: rest, st, ld, K, env, H => match awanted ops o env with
    | none => False
    | some false => WDrawC P ops bf (i + 1) rest st ld K (env.upd o.dst .undef) H
    | some true =>
      if isP o = true then match aop P o (aev env) H with
        | some (x, _) => WDrawC P ops bf (i + 1) rest st ld K (env.upd o.dst x) H
        | none => False
      else if isL o = true then match aop P o (aev env) H with
        | some (x, _) => stOk P bf i o env x st ∧ WDrawC P ops bf (i + 1) rest st ((i, o, env, x) :: ld) K (env.upd o.dst x) H
        | none => False
      else WStep P o env H fun x H' => ldOk P bf i H' ld ∧ WDrawC P ops bf (i + 1) rest ((i, H) :: st) ld K (env.upd o.dst x) H'

theorem WDrawC.append {Q : Exit → Env → Heap → Prop} {l2 : List Oper} : ∀ {l1 : List Oper} {i : Nat} {st : List (Nat × Heap)} {ld : List (Nat × Oper × Env × AV)} {env : Env} {H : Heap},
    WDrawC P ops bf i l1 st ld (fun st ld env H => WDraw P ops bf (i + l1.length) l2 st ld Q env H) env H → WDraw P ops bf i (l1 ++ l2) st ld Q env H
  | [], i, st, ld, env, H, h => h
  | o :: l1, i, st, ld, env, H, h => by
    have e : i + (o :: l1).length = i + 1 + l1.length := by simp; omega
    rw [e] at h
    simp only [WDrawC] at h
    simp only [List.cons_append, WDraw]
    cases ha : awanted ops o env with
    | none => simp only [ha] at h
    | some b =>
      cases b with
      | false => simp only [ha] at h ⊢; exact WDrawC.append h
      | true =>
        simp only [ha] at h ⊢
        by_cases hp : isP o = true
        · simp only [hp, if_true] at h ⊢
          cases hx : aop P o (aev env) H with
          | none => simp only [hx] at h
          | some y => simp only [hx] at h ⊢; exact WDrawC.append h
        · by_cases hL : isL o = true
          · simp only [hp, hL, if_true, Bool.false_eq_true, if_false] at h ⊢
            cases hx : aop P o (aev env) H with
            | none => simp only [hx] at h
            | some y =>
              simp only [hx] at h ⊢
              exact ⟨h.1, WDrawC.append h.2⟩
          · simp only [hp, hL, Bool.false_eq_true, if_false] at h ⊢
            exact h.mono fun x H' h' => ⟨h'.1, WDrawC.append h'.2⟩

/-- The next n operations. -/
theorem wd_take (n : Nat) {Q : Exit → Env → Heap → Prop} {i : Nat} {l : List Oper} {st : List (Nat × Heap)} {ld : List (Nat × Oper × Env × AV)} {env : Env} {H : Heap} (hn : n ≤ l.length)
    (h : ∀ K : List (Nat × Heap) → List (Nat × Oper × Env × AV) → Env → Heap → Prop, (∀ st ld env H, WDraw P ops bf (i + n) (l.drop n) st ld Q env H → K st ld env H) → WDrawC P ops bf i (l.take n) st ld K env H) : WDraw P ops bf i l st ld Q env H := by
  have e : (l.take n).length = n := by rw [List.length_take, Nat.min_eq_left hn]
  have := WDrawC.append (Q := Q) (l2 := l.drop n) (l1 := l.take n) (i := i) (st := st) (ld := ld) (env := env) (H := H) (by rw [e]; exact h _ fun _ _ _ _ h => h)
  rwa [List.take_append_drop] at this

/-- The table of operations out of sight. -/
theorem scode_draw_o {id : Nat} {Q : Exit → Env → Heap → Prop} {env : Env} {H : Heap} (hm : P.follows .mixedOrders = true) (hk : drawOk sz ops = true) (bf : List Nat) (hbf : Region.before ops = bf.toArray)
    (h : ∀ ops', ops' = ops → WDraw P ops' bf 0 ops.toList [] [] Q env H) : SCode P sz (.region id ops true) Q env H := scode_draw hm hk hbf (h _ rfl)
theorem scode_drawS_o {id : Nat} {Q : Exit → Env → Heap → Prop} {env : Env} {H : Heap} (hm : P.follows .mixedOrders = true) (hk : drawOk sz ops = true)
    (h : ∀ ops', ops' = ops → WSOps P ops' Q ops.toList env H) : SCode P sz (.region id ops true) Q env H := scode_drawS hm hk (h _ rfl)
theorem scode_drawK_o {id : Nat} {Q : Exit → Env → Heap → Prop} {env : Env} {H : Heap} (hm : P.follows .mixedOrders = true) (hk : drawOk sz ops = true)
    (h : ∀ ops', ops' = ops → WKOps P ops' Q ops.toList env H) : SCode P sz (.region id ops true) Q env H := scode_drawK hm hk (h _ rfl)
theorem scode_region_o {id : Nat} {Q : Exit → Env → Heap → Prop} {env : Env} {H : Heap} (hd : dstsB sz ops = true)
    (h : ∀ ops', ops' = ops → WOps P ops' Q ops.toList env H) : SCode P sz (.region id ops false) Q env H := scode_region hd (h _ rfl)
end

attribute [go_sem] WDrawC
end Go.Fl
end Fl37S

noncomputable section Fl38S
namespace Go.Fl
open Go

theorem scalls_shed {P : Program} {f : FuncId} {args : List AV} {r r' : AV} {H' : Heap} (h : SCalls P f args Heap.empty r H') (hf : Froz H' (fun _ => True) r r') (hr : r'.Lt 0) : SCalls P f args Heap.empty r' Heap.empty := by
  refine ⟨h.1, Nat.le_refl _, fun ρ I w cargs hrel hargs => (h.2.2 ρ I w cargs hrel hargs).mono ?_⟩
  rintro e w' ⟨u, ρ', I', he, hv, hr', hx⟩
  have hρ : ∀ b, ρ b = none := fun b => by
    cases hb : ρ b with
    | none => rfl
    | some p => have := hrel.rng b p hb; exact absurd this (Nat.not_lt_zero _)
  have hE : Heap.empty.le { H' with } := fun b cs hb => by rw [show Heap.empty.get b = none from rfl] at hb; cases hb
  have hf' : Froz H' (fun b => Heap.empty.get b = none) r r' := hf.mono fun b _ => rfl
  have hv' := (hf'.vr hr' hv).lower hr
  rw [below_zero] at hv'
  refine ⟨u, fun _ => none, keptBy ρ' I' H' Heap.empty, he, hv', ?_, ?_⟩
  · refine ⟨?_, ?_, ?_, ?_, ?_, hr'.glob.ext (fun _ h => .inl h) (fun _ _ => rfl)⟩
    · intro b cs hb; rw [show Heap.empty.get b = none from rfl] at hb; cases hb
    · intro b b' cs cs' cb base base' hb; rw [show Heap.empty.get b = none from rfl] at hb; cases hb
    · intro b p hb; cases hb
    · intro b cb base hb; cases hb
    · rintro cb (h1 | ⟨b, cs, base, h1, h2, h3⟩)
      · exact hr'.irng cb h1
      · obtain ⟨c, e, fz, h4⟩ := hr'.at_ b cb base h3
        exact (Array.getElem?_eq_some_iff.1 h4).1
  · exact { hx with
            rho := fun b p hb => by rw [hρ b] at hb; cases hb
            imm := fun cb hcb => .inl (hx.imm cb hcb)
            newI := fun cb hcb => by
              rcases hcb with hcb | ⟨b, cs, base, h1, h2, h3⟩
              · exact hx.newI cb hcb
              · rcases hx.newR b cb base h3 with h4 | h4 | ⟨b0, base0, h4⟩
                · exact .inr (.inr ⟨_, _, h4⟩)
                · exact .inr (.inl h4)
                · exact .inr (.inr ⟨_, _, h4⟩)
            newR := fun b cb base hb => by cases hb }

/-- Behind the first part stands what is said between. -/
theorem scode_seq_mid {P : Program} {sz : Nat} {x y : Code} {Q : Exit → Env → Heap → Prop} {env : Env} {H : Heap} (F : Env → Heap → Prop) (h1 : SCode P sz x (thenA F Q) env H) (h2 : ∀ env H, F env H → SCode P sz y Q env H) : SCode P sz (.seq x y) Q env H :=
  scode_seq_k fun K hK => scode_cut F h1 fun env H h => hK _ _ (h2 _ _ h)

mutual
def frz : Nat → Heap → AV → Option AV
  | 0, _, _ => none
  | _ + 1, _, .sc v => some (.sc v)
  | n + 1, H, .ms b off len sz => match H.get b with
    | some cs => cond (Nat.ble (off + len * sz) cs.length) (match frzL n H ((cs.drop off).take (len * sz)) with
      | some cells => some (.vs len sz cells)
      | none => none) none
    | none => none
  | n + 1, H, .vs len sz cs => match frzL n H cs with
    | some cells => some (.vs len sz cells)
    | none => none
  | n + 1, H, .agg cs => match frzL n H cs with
    | some cells => some (.agg cells)
    | none => none
  | n + 1, H, .tup cs => match frzL n H cs with
    | some cells => some (.tup cells)
    | none => none
  | _ + 1, _, _ => none
def frzL : Nat → Heap → List AV → Option (List AV)
  | 0, _, _ => none
  | _ + 1, _, [] => some []
  | n + 1, H, x :: r => match frz n H x with
    | some y => match frzL n H r with
      | some ys => some (y :: ys)
      | none => none
    | none => none
end

theorem frz_ok : ∀ (n : Nat) (H : Heap), (∀ x y, frz n H x = some y → Froz H (fun _ => True) x y ∧ y.Lt 0) ∧ (∀ xs ys, frzL n H xs = some ys → FrozL H (fun _ => True) xs ys ∧ ∀ y ∈ ys, y.Lt 0)
  | 0, H => ⟨fun x y h => by simp [frz] at h, fun x y h => by simp [frzL] at h⟩
  | n + 1, H => by
    obtain ⟨ih1, ih2⟩ := frz_ok n H
    refine ⟨fun x y h => ?_, fun xs ys h => ?_⟩
    · cases x <;> simp only [frz] at h
      case sc v => cases h; exact ⟨.same _, .sc v⟩
      case ms b off len sz =>
        split at h
        case h_2 => cases h
        rename_i cs hb
        cases hc : Nat.ble (off + len * sz) cs.length with
        | false => rw [hc, cond_false] at h; cases h
        | true =>
          rw [hc, cond_true] at h
          split at h
          case h_2 => cases h
          rename_i cells hcells
          cases h
          obtain ⟨h1, h2⟩ := ih2 _ _ hcells
          exact ⟨Froz.rowL hb trivial (Nat.le_of_ble_eq_true hc) h1, .vs h2⟩
      case vs len sz cs =>
        split at h
        case h_2 => cases h
        rename_i cells hcells
        cases h
        obtain ⟨h1, h2⟩ := ih2 _ _ hcells
        exact ⟨.vs h1.get.1 fun i x y hx hy => h1.get.2 i x y hx hy, .vs h2⟩
      case agg cs =>
        split at h
        case h_2 => cases h
        rename_i cells hcells
        cases h
        obtain ⟨h1, h2⟩ := ih2 _ _ hcells
        exact ⟨.agg h1.get.1 fun i x y hx hy => h1.get.2 i x y hx hy, .agg h2⟩
      case tup cs =>
        split at h
        case h_2 => cases h
        rename_i cells hcells
        cases h
        obtain ⟨h1, h2⟩ := ih2 _ _ hcells
        exact ⟨.tup h1.get.1 fun i x y hx hy => h1.get.2 i x y hx hy, .tup h2⟩
      all_goals cases h
    · cases xs with
      | nil => simp only [frzL] at h; cases h; exact ⟨.nil, fun y hy => by cases hy⟩
      | cons x r =>
        simp only [frzL] at h
        split at h
        case h_2 => cases h
        rename_i y hy
        split at h
        case h_2 => cases h
        rename_i ys hys
        cases h
        obtain ⟨h1, h2⟩ := ih1 _ _ hy
        obtain ⟨h3, h4⟩ := ih2 _ _ hys
        refine ⟨.cons h1 h3, fun z hz => ?_⟩
        rcases List.mem_cons.1 hz with rfl | hz
        · exact h2
        · exact h4 z hz

/-- A call over the empty heap, its outcome kept. -/
def pcall (P : Program) (fs : List FuncId) (n : Nat) (f : FuncId) (args : List AV) : Option AV := match ecall P fs n f args Heap.empty with
  | some (r, H') => frz 100 H' r
  | none => none

theorem pcall_sound {P : Program} {fs : List FuncId} (hm : P.follows .mixedOrders = true) (hfs : ∀ f ∈ fs, Enters P f) (n : Nat) {f : FuncId} {args : List AV} {r : AV} (h : pcall P fs n f args = some r) : SCalls P f args Heap.empty r Heap.empty ∧ r.Lt 0 := by
  unfold pcall at h
  split at h
  · rename_i u H' hu
    obtain ⟨h1, h2⟩ := (frz_ok 100 H').1 _ _ h
    exact ⟨scalls_shed (ecall_sound hm hfs n _ _ _ _ _ hu) h1 h2, h2⟩
  · cases h
end Go.Fl
end Fl38S
