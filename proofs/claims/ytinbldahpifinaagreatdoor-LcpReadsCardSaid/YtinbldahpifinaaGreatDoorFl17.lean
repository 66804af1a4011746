/- The step, and the whole. -/
import Derived.Test.YtinbldahpifinaaGreatDoorFl16
noncomputable section
namespace Go.Fl
open Go

section
variable {P : Program} {sz : Nat} {ops : Array Oper} {env0 : Env} {val : Nat → AV} {hp : Nat → Heap}

theorem Inv.slots_put (K : DOk sz ops) {ρ0 : Rho} {I0 : Nat → Prop} {w0 : World} {D : Nat → Prop} {ρ ρ' : Rho} {I I' : Nat → Prop} {c : Nat} {a : Act} {w w' : World}
    (V : Inv P sz ops env0 val hp ρ0 I0 w0 D ρ I c a w) {i : Nat} {o : Oper} (ho : ops[i]? = some o) {v : Value} (hv : VR ρ' I' w'.heap (val i) v) (hx : Ext ρ I w ρ' I' w') :
    (a.put o.dst v).tmps.size = sz ∧ (a.put o.dst v).defers = [] ∧
    ∀ t, (∃ k, (D k ∨ k = i) ∧ dstAt ops k = some t ∧ VR ρ' I' w'.heap (val k) ((a.put o.dst v).tmps.getD t Go.undef)) ∨
      ((∀ k, (D k ∨ k = i) → dstAt ops k ≠ some t) ∧ VR ρ' I' w'.heap (env0 t) ((a.put o.dst v).tmps.getD t Go.undef)) := by
  have hdst : dstAt ops i = o.dst := by simp [dstAt, ho]
  cases hd : o.dst with
  | none =>
    refine ⟨V.size, V.defers, fun t => ?_⟩
    simp only [Act.put]
    rcases V.slots t with ⟨k, h1, h2, h3⟩ | ⟨h1, h2⟩
    · exact .inl ⟨k, .inl h1, h2, h3.mono hx⟩
    · refine .inr ⟨?_, h2.mono hx⟩
      rintro k (h3 | h3)
      · exact h1 k h3
      · subst h3; rw [hdst, hd]; simp
  | some d =>
    have hlt : d < a.tmps.size := by rw [V.size]; exact K.dsts i o d ho hd
    refine ⟨by simp [Act.put, V.size], V.defers, fun t => ?_⟩
    simp only [Act.put]
    by_cases e : d = t
    · subst e
      refine .inl ⟨i, .inr rfl, by rw [hdst, hd], ?_⟩
      have e1 : (a.tmps.setIfInBounds d v).getD d Go.undef = v := by simp [hlt]
      rw [e1]; exact hv
    · have e1 : (a.tmps.setIfInBounds d v).getD t Go.undef = a.tmps.getD t Go.undef := by
        simp only [Array.getD_eq_getD_getElem?]
        rw [Array.getElem?_setIfInBounds_ne e]
      rw [e1]
      rcases V.slots t with ⟨k, h1, h2, h3⟩ | ⟨h1, h2⟩
      · exact .inl ⟨k, .inl h1, h2, h3.mono hx⟩
      · refine .inr ⟨?_, h2.mono hx⟩
        rintro k (h3 | h3)
        · exact h1 k h3
        · subst h3; rw [hdst, hd]; simpa using e

/-- ONE STEP, in whatever order. -/
theorem Inv.step (K : DOk sz ops) (T : Trace P ops env0 val hp) {ρ0 : Rho} {I0 : Nat → Prop} {w0 : World} {D : Nat → Prop} {ρ : Rho} {I : Nat → Prop} {c : Nat} {a : Act} {w : World} (hD : Closed ops D)
    (V : Inv P sz ops env0 val hp ρ0 I0 w0 D ρ I c a w) {i : Nat} {o : Oper} (ho : ops[i]? = some o) (hi : ¬ D i) (hr : ∀ e ∈ o.after, Region.binds .any e = true → D e.on) {Kt : Act → World → Prop} {Q : Exit → Act → World → Prop}
    (hK : ∀ ρ' I' c' a' w', Inv P sz ops env0 val hp ρ0 I0 w0 (fun k => D k ∨ k = i) ρ' I' c' a' w' → Kt a' w') : wpOp P ops Q i Kt a w := by
  have hilt := (Array.getElem?_eq_some_iff.1 ho).1
  have hnamed := fun t ht => V.named K hD ho hi hr (t := t) ht
  let env' : Env := fun t => if t ∈ o.looksAt ops then envAt ops env0 val i t else .top
  have hcongr : ∀ t ∈ o.looksAt ops, envAt ops env0 val i t = env' t := fun t ht => by simp only [env', if_pos ht]
  have he : ERel sz ρ I w.heap env' a := ⟨V.size, V.defers, fun t => by
    simp only [env']
    split
    · exact hnamed t (by assumption)
    · exact .top _⟩
  have hw := awanted_congr (o := o) hcongr
  have hbefD : ∀ k, bef ops k i = true → D k := fun k hb => hD.bef i k o ho hr hb
  unfold wpOp
  rw [ho]
  simp only
  rcases T.step i o ho with ⟨h1, h2, h3⟩ | ⟨h1, h2⟩
  · rw [hw] at h1
    rw [if_neg (by rw [awanted_run h1 he K.dsts]; simp)]
    obtain ⟨s1, s2, s3⟩ := V.slots_put K ho (v := Go.undef) (ρ' := ρ) (I' := I) (w' := w) (by rw [h2]; exact .sc _) (Ext.refl _ _ _)
    refine hK ρ I c _ w ⟨V.rel, V.ext, s1, s2, V.le, fun k h4 h5 => .inl (V.done k h4 h5), ?_, s3⟩
    rintro k h4 (h5 | h5)
    · exact V.todo k h4 h5
    · subst h5
      obtain ⟨o', h6, _, h7⟩ := h4
      rw [ho] at h6; cases h6
      rw [← hw] at h1
      rw [h1] at h7; cases h7
  · have h1' := h1
    rw [hw] at h1
    rw [if_pos (awanted_run h1 he K.dsts)]
    refine .inl ?_
    cases hc : isC o with
    | true =>
      have hch : ChainAt ops env0 val i := ⟨o, ho, hc, h1'⟩
      have hci : c ≤ i := by
        rcases Nat.lt_or_ge i c with h | h
        · exact absurd (V.done i hch h) hi
        · exact h
      have hno : ∀ k, c ≤ k → k < i → ¬ ChainAt ops env0 val k := by
        rintro k h4 h5 hk
        obtain ⟨p, hp1, hp2, hp3⟩ := hk
        have hb := K.chain k i p o h5 hp1 ho hp2 hc
        have := V.todo k ⟨p, hp1, hp2, hp3⟩ (hbefD k hb)
        omega
      have heq : hp i = hp c := T.const' hci (by omega) hno
      have hst := StepTo_congr hcongr h2
      rw [heq] at hst
      refine StepTo_run hst V.rel he.eval ?_
      intro v w' ρ' I' h4 h5 h6
      obtain ⟨s1, s2, s3⟩ := V.slots_put K ho h4 h6
      refine hK ρ' I' (i + 1) _ w' ⟨h5, V.ext.trans h6, s1, s2, by omega, ?_, ?_, s3⟩
      · intro k h7 h8
        by_cases e : k = i
        · exact .inr e
        · rcases Nat.lt_or_ge k c with h9 | h9
          · exact .inl (V.done k h7 h9)
          · exact absurd h7 (hno k h9 (by omega))
      · rintro k h7 (h8 | h8)
        · have := V.todo k h7 h8; omega
        · omega
    | false =>
      have haop := StepTo_aop hc h2
      have hat : aop P o (aev (envAt ops env0 val i)) (hp c) = some (val i, hp c) := by
        cases hP : isP o with
        | true => exact (aop_pure hP haop).2 _
        | false =>
          have hL : isL o = true := by
            cases hL : isL o with
            | true => rfl
            | false => simp [isC, hP, hL] at hc
          have hsame := aop_reads hL haop
          rw [hsame] at haop
          have hnoti : ¬ ChainAt ops env0 val i := by
            rintro ⟨o', h6, h7, _⟩
            rw [ho] at h6; cases h6
            rw [hc] at h7; cases h7
          rcases Nat.lt_or_ge i c with hic | hic
          · -- carried out late
            by_cases hex : ∃ k, i ≤ k ∧ k < c ∧ ChainAt ops env0 val k
            · -- the greatest
              have hgr : ∃ k, i ≤ k ∧ k < c ∧ ChainAt ops env0 val k ∧ ∀ m, k < m → m < c → ¬ ChainAt ops env0 val m := by
                obtain ⟨k, h4, h5, h6⟩ := hex
                have : ∀ (d k : Nat), c - k ≤ d → i ≤ k → k < c → ChainAt ops env0 val k → ∃ k, i ≤ k ∧ k < c ∧ ChainAt ops env0 val k ∧ ∀ m, k < m → m < c → ¬ ChainAt ops env0 val m := by
                  intro d
                  induction d with
                  | zero => intro k h7 h8 h9; omega
                  | succ d ih =>
                    intro k h7 h8 h9 h10
                    by_cases h11 : ∃ m, k < m ∧ m < c ∧ ChainAt ops env0 val m
                    · obtain ⟨m, h12, h13, h14⟩ := h11
                      exact ih m (by omega) (by omega) h13 h14
                    · exact ⟨k, h8, h9, h10, fun m h12 h13 h14 => h11 ⟨m, h12, h13, h14⟩⟩
                exact this _ k (Nat.le_refl _) h4 h5 h6
              obtain ⟨k, h4, h5, h6, h7⟩ := hgr
              have hki : i ≠ k := fun e => hnoti (e ▸ h6)
              obtain ⟨p, hp1, hp2, hp3⟩ := h6
              have hDk := V.done k ⟨p, hp1, hp2, hp3⟩ h5
              have hnb : bef ops i k = false := by
                cases hb : bef ops i k with
                | false => rfl
                | true => exact absurd (hD.bef k i p hp1 (fun e h8 h9 => hD k p hDk hp1 e h8 h9) hb) hi
              have := T.late i k o p ho hp1 hL hp2 h1' hp3 (by omega) hnb
              have heq : hp c = hp (k + 1) := T.const' (by omega) V.le (fun m h8 h9 => h7 m (by omega) h9)
              rw [heq]; exact this
            · have heq : hp c = hp i := T.const' (by omega) V.le (fun k h4 h5 h6 => hex ⟨k, h4, h5, h6⟩)
              rw [heq]; exact haop
          · by_cases hex : ∃ k, c ≤ k ∧ k < i ∧ ChainAt ops env0 val k
            · have hls : ∃ k, c ≤ k ∧ k < i ∧ ChainAt ops env0 val k ∧ ∀ m, c ≤ m → m < k → ¬ ChainAt ops env0 val m := by
                obtain ⟨k, h4, h5, h6⟩ := hex
                have : ∀ (k : Nat), c ≤ k → k < i → ChainAt ops env0 val k → ∃ k, c ≤ k ∧ k < i ∧ ChainAt ops env0 val k ∧ ∀ m, c ≤ m → m < k → ¬ ChainAt ops env0 val m := by
                  intro k
                  induction k using Nat.strongRecOn with
                  | _ k ih =>
                    intro h8 h9 h10
                    by_cases h11 : ∃ m, c ≤ m ∧ m < k ∧ ChainAt ops env0 val m
                    · obtain ⟨m, h12, h13, h14⟩ := h11
                      exact ih m h13 h12 (by omega) h14
                    · exact ⟨k, h8, h9, h10, fun m h12 h13 h14 => h11 ⟨m, h12, h13, h14⟩⟩
                exact this k h4 h5 h6
              obtain ⟨k, h4, h5, h6, h7⟩ := hls
              obtain ⟨p, hp1, hp2, hp3⟩ := h6
              have hnb : bef ops k i = false := by
                cases hb : bef ops k i with
                | false => rfl
                | true =>
                  have := V.todo k ⟨p, hp1, hp2, hp3⟩ (hbefD k hb)
                  omega
              have := T.early i k o p ho hp1 hL hp2 h1' hp3 h5 hnb
              have heq : hp k = hp c := T.const' h4 (by omega) h7
              rw [heq] at this
              exact this
            · have heq : hp i = hp c := T.const' hic (by omega) (fun k h4 h5 h6 => hex ⟨k, h4, h5, h6⟩)
              rw [← heq]; exact haop
      have hst := StepTo_congr hcongr (aop_StepTo hc hat)
      refine StepTo_run hst V.rel he.eval ?_
      intro v w' ρ' I' h4 h5 h6
      obtain ⟨s1, s2, s3⟩ := V.slots_put K ho h4 h6
      refine hK ρ' I' c _ w' ⟨h5, V.ext.trans h6, s1, s2, V.le, fun k h7 h8 => .inl (V.done k h7 h8), ?_, s3⟩
      rintro k h7 (h8 | h8)
      · exact V.todo k h7 h8
      · subst h8
        obtain ⟨o', h9, h10, _⟩ := h7
        rw [ho] at h9; cases h9
        rw [hc] at h10; cases h10

end
end Go.Fl
