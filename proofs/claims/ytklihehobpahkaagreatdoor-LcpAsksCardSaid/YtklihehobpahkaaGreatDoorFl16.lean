/- Every order that the edges allow comes to what the text's order comes to. -/
import Derived.Test.YtklihehobpahkaaGreatDoorFl15
set_option linter.unusedVariables false
set_option linter.unusedSimpArgs false
noncomputable section
namespace Go.Fl
open Go

theorem StepTo_aop {P : Program} {o : Oper} {env : Env} {H H' : Heap} {x : AV} (hc : isC o = false) (h : StepTo P o env H x H') : aop P o (aev env) H = some (x, H') := by
  obtain ⟨dst, op, type, pos, after, guard⟩ := o
  unfold StepTo at h
  split at h
  · rename_i f args argTypes hop
    simp only at hop
    subst hop
    simp [isC, isP, isL] at hc
  · exact h

theorem aop_StepTo {P : Program} {o : Oper} {env : Env} {H H' : Heap} {x : AV} (hc : isC o = false) (h : aop P o (aev env) H = some (x, H')) : StepTo P o env H x H' := by
  obtain ⟨dst, op, type, pos, after, guard⟩ := o
  unfold StepTo
  split
  · rename_i f args argTypes hop
    simp only at hop
    subst hop
    simp [isC, isP, isL] at hc
  · exact h

theorem looksAt_operand {ops : Array Oper} {o : Oper} {t : Tmp} (h : Operand.tmp t ∈ o.op.operands) : t ∈ o.looksAt ops := by
  unfold Oper.looksAt
  refine List.mem_append.2 (.inl ?_)
  exact List.mem_filterMap.2 ⟨.tmp t, by simpa using h, rfl⟩

theorem aev_congr {ops : Array Oper} {o : Oper} {env env' : Env} (h : ∀ t ∈ o.looksAt ops, env t = env' t) : ∀ y ∈ o.op.operands, aev env y = aev env' y := by
  intro y hy
  cases y with
  | tmp t => exact h t (looksAt_operand hy)
  | const v => rfl
  | global g => rfl
  | func f => rfl

theorem StepTo_congr {P : Program} {ops : Array Oper} {o : Oper} {env env' : Env} {H H' : Heap} {x : AV} (h : ∀ t ∈ o.looksAt ops, env t = env' t) (hs : StepTo P o env H x H') : StepTo P o env' H x H' := by
  have hc := aev_congr h
  obtain ⟨dst, op, type, pos, after, guard⟩ := o
  unfold StepTo at *
  cases op
  case call c =>
    obtain ⟨callee, args, argTypes⟩ := c
    cases callee
    case value f =>
      simp only at hs ⊢
      obtain ⟨k, first, captured, h1, h2⟩ := hs
      have hf : aev env f = aev env' f := hc f (by simp [Op.operands, Call.operands])
      have ha : args.toList.map (aev env) = args.toList.map (aev env') := List.map_congr_left fun y hy => hc y (by simp [Op.operands, Call.operands]; right; simpa using hy)
      exact ⟨k, first, captured, by rw [← hf]; exact h1, by rw [← ha]; exact h2⟩
    all_goals (simp only at hs ⊢; rw [← aop_congr hc]; exact hs)
  all_goals (simp only at hs ⊢; rw [← aop_congr hc]; exact hs)

theorem awanted_congr {ops : Array Oper} {o : Oper} {env env' : Env} (h : ∀ t ∈ o.looksAt ops, env t = env' t) : awanted ops o env = awanted ops o env' := by
  unfold awanted
  cases hg : o.guard with
  | none => rfl
  | some q =>
    obtain ⟨j, want⟩ := q
    simp only
    cases hd : (ops[j]?).bind (·.dst) with
    | none => rfl
    | some d =>
      have : d ∈ o.looksAt ops := by
        unfold Oper.looksAt
        refine List.mem_append.2 (.inr ?_)
        simp [hg, hd]
      simp only [h d this]

section
variable {P : Program} {sz : Nat} {ops : Array Oper} {env0 : Env} {val : Nat → AV} {hp : Nat → Heap}

def ChainAt (ops : Array Oper) (env0 : Env) (val : Nat → AV) (i : Nat) : Prop := ∃ o, ops[i]? = some o ∧ isC o = true ∧ awanted ops o (envAt ops env0 val i) = some true

theorem Trace.const (T : Trace P ops env0 val hp) {i : Nat} : ∀ (d : Nat), i + d ≤ ops.size → (∀ k, i ≤ k → k < i + d → ¬ ChainAt ops env0 val k) → hp (i + d) = hp i
  | 0, _, _ => rfl
  | d + 1, hle, hno => by
    have ih := T.const d (by omega) (fun k h1 h2 => hno k h1 (by omega))
    have hlt : i + d < ops.size := by omega
    have ho := Array.getElem?_eq_getElem hlt
    rcases T.step (i + d) _ ho with ⟨_, _, h3⟩ | ⟨h1, h2⟩
    · rw [show i + (d + 1) = i + d + 1 by omega, h3, ih]
    · have hnc : isC ops[i + d] = false := by
        cases hc : isC ops[i + d] with
        | false => rfl
        | true => exact absurd ⟨_, ho, hc, h1⟩ (hno (i + d) (by omega) (by omega))
      have h3 := StepTo_aop hnc h2
      have h4 : hp (i + d + 1) = hp (i + d) := by
        cases hP : isP ops[i + d] with
        | true => exact (aop_pure hP h3).1
        | false =>
          cases hL : isL ops[i + d] with
          | true => exact aop_reads hL h3
          | false => simp [isC, hP, hL] at hnc
      rw [show i + (d + 1) = i + d + 1 by omega, h4, ih]

theorem Trace.const' (T : Trace P ops env0 val hp) {i j : Nat} (hij : i ≤ j) (hj : j ≤ ops.size) (hno : ∀ k, i ≤ k → k < j → ¬ ChainAt ops env0 val k) : hp j = hp i := by
  have := T.const (i := i) (j - i) (by omega) (fun k h1 h2 => hno k h1 (by omega))
  rwa [show i + (j - i) = j by omega] at this

/-- What holds when the operations in D have been carried out, in whatever order. -/
structure Inv (P : Program) (sz : Nat) (ops : Array Oper) (env0 : Env) (val : Nat → AV) (hp : Nat → Heap) (ρ0 : Rho) (I0 : Nat → Prop) (w0 : World) (D : Nat → Prop) (ρ : Rho) (I : Nat → Prop) (c : Nat) (a : Act) (w : World) : Prop where
  rel : Rel ρ I (hp c) w.heap
  ext : Ext ρ0 I0 w0 ρ I w
  size : a.tmps.size = sz
  defers : a.defers = []
  le : c ≤ ops.size
  done : ∀ i, ChainAt ops env0 val i → i < c → D i
  todo : ∀ i, ChainAt ops env0 val i → D i → i < c
  slots : ∀ t, (∃ i, D i ∧ dstAt ops i = some t ∧ VR ρ I w.heap (val i) (a.tmps.getD t Go.undef)) ∨ ((∀ i, D i → dstAt ops i ≠ some t) ∧ VR ρ I w.heap (env0 t) (a.tmps.getD t Go.undef))

/-- Down-closed under edges. -/
def Closed (ops : Array Oper) (D : Nat → Prop) : Prop := ∀ i o, D i → ops[i]? = some o → ∀ e ∈ o.after, Region.binds .any e = true → D e.on

theorem Closed.bef {D : Nat → Prop} (hD : Closed ops D) : ∀ (j i : Nat) (o : Oper), ops[j]? = some o → (∀ e ∈ o.after, Region.binds .any e = true → D e.on) → bef ops i j = true → D i := by
  intro j
  induction j using Nat.strongRecOn with
  | _ j ih =>
    intro i o ho hr hb
    obtain ⟨e, h1, h2, h3⟩ := bef_spec ho hb
    rcases h3 with h3 | ⟨h3, h4⟩
    · rw [← h3]; exact hr e h1 h2
    · have hde := hr e h1 h2
      cases hq : ops[e.on]? with
      | none =>
        unfold Fl.bef at h4
        have hsz : (Region.before ops).size = ops.size := by rw [before_eq, befs_size]; simp
        have : ops.size ≤ e.on := by rw [Array.getElem?_eq_none_iff] at hq; exact hq
        rw [Array.getD_eq_getD_getElem?, Array.getElem?_eq_none (by omega)] at h4
        simp at h4
      | some q => exact ih e.on h3 i q hq (fun e' h5 h6 => hD e.on q hde hq e' h5 h6) h4

/-- The slots that an operation names hold what the text's order has there. -/
theorem Inv.named (K : DOk sz ops) {ρ0 : Rho} {I0 : Nat → Prop} {w0 : World} {D : Nat → Prop} {ρ : Rho} {I : Nat → Prop} {c : Nat} {a : Act} {w : World} (hD : Closed ops D)
    (V : Inv P sz ops env0 val hp ρ0 I0 w0 D ρ I c a w) {i : Nat} {o : Oper} (ho : ops[i]? = some o) (hi : ¬ D i) (hr : ∀ e ∈ o.after, Region.binds .any e = true → D e.on) {t : Tmp} (ht : t ∈ o.looksAt ops) :
    VR ρ I w.heap (envAt ops env0 val i t) (a.tmps.getD t Go.undef) := by
  have uniq : ∀ k m, dstAt ops k = some t → dstAt ops m = some t → k = m := by
    intro k m hk hm
    obtain ⟨p, hp1, hp2⟩ := dstAt_some hk
    obtain ⟨q, hq1, hq2⟩ := dstAt_some hm
    rcases Nat.lt_trichotomy k m with h | h | h
    · exact absurd hq2 (K.apart k m p q h hp1 hq1 t hp2)
    · exact h
    · exact absurd hp2 (K.apart m k q p h hq1 hp1 t hq2)
  rcases V.slots t with ⟨k, hk1, hk2, hk3⟩ | ⟨hno, hv⟩
  · -- written by k in D
    obtain ⟨p, hp1, hp2⟩ := dstAt_some hk2
    have hne : k ≠ i := fun e => hi (e ▸ hk1)
    rcases Nat.lt_or_ge k i with h | h
    · rw [envAt_some hk2 i h (fun m h1 _ hm => by have := uniq k m hk2 hm; omega)]
      exact hk3
    · have hlt : i < k := by omega
      have hb := K.up i k o p hlt ho hp1 t hp2 ht
      have hDi : D i := hD.bef k i p hp1 (fun e h1 h2 => hD k p hk1 hp1 e h1 h2) hb
      exact absurd hDi hi
  · -- nobody in D wrote it
    have : ∀ k, k < i → dstAt ops k ≠ some t := by
      intro k hk hd
      obtain ⟨p, hp1, hp2⟩ := dstAt_some hd
      have hb := K.down k i p o hk hp1 ho t hp2 ht
      exact hno k (hD.bef i k o ho hr hb) hd
    rw [envAt_none i this]
    exact hv

end
end Go.Fl
