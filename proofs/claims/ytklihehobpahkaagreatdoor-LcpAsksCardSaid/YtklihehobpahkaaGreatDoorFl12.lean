/- Code. -/
import Derived.Test.YtklihehobpahkaaGreatDoorFl11
set_option linter.unusedVariables false
set_option linter.unusedSimpArgs false
noncomputable section
namespace Go.Fl
open Go

/-- What holds behind code, of whatever stands for the frame and the heap ahead of it. -/
def SCode (P : Program) (sz : Nat) (c : Code) (Q : Exit → Env → Heap → Prop) (env : Env) (H : Heap) : Prop :=
  ∀ ρ I w a (Q' : Exit → Act → World → Prop), Rel ρ I H w.heap → ERel sz ρ I w.heap env a → (∀ e a' w', SPost sz ρ I w Q e a' w' → Q' e a' w') → c.wp P Q' a w

theorem SCode.mono {P : Program} {sz : Nat} {c : Code} {Q Q1 : Exit → Env → Heap → Prop} {env : Env} {H : Heap} (h : SCode P sz c Q env H) (hq : ∀ e env H, Q e env H → Q1 e env H) : SCode P sz c Q1 env H :=
  fun ρ I w a Q' hr he hQ => h ρ I w a Q' hr he fun e a' w' hp => hQ e a' w' (hp.ext (Ext.refl _ _ _) hq)

def thenA (K : Env → Heap → Prop) (Q : Exit → Env → Heap → Prop) : Exit → Env → Heap → Prop
  | .normal => K
  | e => Q e

def inBlockA (id : Nat) (Q : Exit → Env → Heap → Prop) : Exit → Env → Heap → Prop
  | .exit id' => if id' = id then Q .normal else Q (.exit id')
  | e => Q e

def dstsB (sz : Nat) (ops : Array Oper) : Bool := ops.toList.all fun o => match o.dst with | some d => decide (d < sz) | none => true

theorem dstsB_ok {sz : Nat} {ops : Array Oper} (h : dstsB sz ops = true) : dstsOk sz ops := by
  intro j q d hj hd
  have := List.all_eq_true.1 h q (by
    rw [← Array.getElem?_toList] at hj
    exact List.mem_of_getElem? hj)
  rw [hd] at this
  simpa using this

section
variable {P : Program} {sz : Nat}

theorem scode_skip {Q : Exit → Env → Heap → Prop} {env : Env} {H : Heap} (h : Q .normal env H) : SCode P sz .skip Q env H :=
  fun _ _ _ _ _ hr he hQ => wp_skip (hQ _ _ _ ⟨_, _, _, _, h, hr, he, Ext.refl _ _ _⟩)

theorem scode_ret {Q : Exit → Env → Heap → Prop} {env : Env} {H : Heap} (h : Q .ret env H) : SCode P sz .ret Q env H :=
  fun _ _ _ _ _ hr he hQ => wp_ret (hQ _ _ _ ⟨_, _, _, _, h, hr, he, Ext.refl _ _ _⟩)

theorem scode_exit {id : Nat} {Q : Exit → Env → Heap → Prop} {env : Env} {H : Heap} (h : Q (.exit id) env H) : SCode P sz (.exit id) Q env H :=
  fun _ _ _ _ _ hr he hQ => wp_exit (hQ _ _ _ ⟨_, _, _, _, h, hr, he, Ext.refl _ _ _⟩)

theorem scode_seq {x y : Code} {Q : Exit → Env → Heap → Prop} {env : Env} {H : Heap} (h : SCode P sz x (thenA (SCode P sz y Q) Q) env H) : SCode P sz (.seq x y) Q env H := by
  intro ρ I w a Q' hr he hQ
  refine wp_seq (h ρ I w a _ hr he ?_)
  rintro e a' w' ⟨env', H', ρ', I', h1, h2, h3, h4⟩
  cases e with
  | normal =>
    exact h1 ρ' I' w' a' Q' h2 h3 fun e a2 w2 hp => hQ e a2 w2 (hp.ext h4 fun _ _ _ h => h)
  | _ => exact hQ _ _ _ ⟨env', H', ρ', I', h1, h2, h3, h4⟩

theorem scode_cond {c : Operand} {x y : Code} {b : Bool} {Q : Exit → Env → Heap → Prop} {env : Env} {H : Heap} (hc : aev env c = .sc (.bool b)) (h : SCode P sz (if b then x else y) Q env H) : SCode P sz (.cond c x y) Q env H := by
  intro ρ I w a Q' hr he hQ
  have hv := he.eval c
  rw [hc] at hv
  exact wp_cond hv.eq_sc (h ρ I w a Q' hr he hQ)

/-- A test whose outcome cannot be told: both ways. -/
theorem scode_any {c : Operand} {x y : Code} {Q : Exit → Env → Heap → Prop} {env : Env} {H : Heap} (hc : aev env c = .ab) (hx : SCode P sz x Q env H) (hy : SCode P sz y Q env H) : SCode P sz (.cond c x y) Q env H := by
  intro ρ I w a Q' hr he hQ
  have hv := he.eval c
  rw [hc] at hv
  generalize hc' : a.eval c = u at hv
  cases hv with
  | ab b =>
    cases b with
    | true => exact wp_cond hc' (hx ρ I w a Q' hr he hQ)
    | false => exact wp_cond hc' (hy ρ I w a Q' hr he hQ)

theorem scode_block {id : Nat} {c : Code} {Q : Exit → Env → Heap → Prop} {env : Env} {H : Heap} (h : SCode P sz c (inBlockA id Q) env H) : SCode P sz (.block id c) Q env H := by
  intro ρ I w a Q' hr he hQ
  refine wp_block (h ρ I w a _ hr he ?_)
  rintro e a' w' ⟨env', H', ρ', I', h1, h2, h3, h4⟩
  cases e with
  | exit id' =>
    simp only [Exit.inBlock]
    simp only [inBlockA] at h1
    split
    · rename_i e; rw [if_pos e] at h1; exact hQ _ _ _ ⟨env', H', ρ', I', h1, h2, h3, h4⟩
    · rename_i e; rw [if_neg e] at h1; exact hQ _ _ _ ⟨env', H', ρ', I', h1, h2, h3, h4⟩
  | _ => exact hQ _ _ _ ⟨env', H', ρ', I', h1, h2, h3, h4⟩

theorem scode_region {id : Nat} {ops : Array Oper} {Q : Exit → Env → Heap → Prop} {env : Env} {H : Heap} (hd : dstsB sz ops = true) (h : WOps P ops Q ops.toList env H) : SCode P sz (.region id ops false) Q env H := by
  intro ρ I w a Q' hr he hQ
  refine wp_region_list (WOps_sound (dstsB_ok hd) ops.toList (fun o ho d hod => ?_) env H h ρ I w a hr he hQ)
  have := List.all_eq_true.1 hd o ho
  rw [hod] at this
  simpa using this

/-- A loop: a relation with a number that every round lowers. -/
theorem scode_loop {c : Code} {Q : Exit → Env → Heap → Prop} (Inv : Nat → Env → Heap → Prop)
    (step : ∀ n env H, Inv n env H → SCode P sz c (thenA (fun env' H' => ∃ n', n' < n ∧ Inv n' env' H') Q) env H) {n : Nat} {env : Env} {H : Heap} (h0 : Inv n env H) : SCode P sz (.loop c) Q env H := by
  intro ρ I w a Q' hr he hQ b k cs
  have key : ∀ n env H ρ1 I1 w1 a1, Inv n env H → Rel ρ1 I1 H w1.heap → ERel sz ρ1 I1 w1.heap env a1 → Ext ρ I w ρ1 I1 w1 →
      ∃ e a' w', Q' e a' w' ∧ Arrives P (lone (b.at a1 (.code c :: .inLoop c :: k)) cs w1) b k cs e a' w' := by
    intro n
    induction n using Nat.strongRecOn with
    | _ n ih =>
      intro env H ρ1 I1 w1 a1 hI hr1 he1 hx1
      obtain ⟨e, a2, w2, hq, harr⟩ := step n env H hI ρ1 I1 w1 a1 (fun e a' w' => SPost sz ρ1 I1 w1 (thenA (fun env' H' => ∃ n', n' < n ∧ Inv n' env' H') Q) e a' w') hr1 he1 (fun _ _ _ h => h) b (.inLoop c :: k) cs
      obtain ⟨env', H', ρ', I', h1, h2, h3, h4⟩ := hq
      cases e with
      | normal =>
        obtain ⟨n', hlt, hI'⟩ := h1
        obtain ⟨e2, a3, w3, hq2, harr2⟩ := ih n' hlt env' H' ρ' I' w2 a2 hI' h2 h3 (hx1.trans h4)
        exact ⟨e2, a3, w3, hq2, .of_steps (Steps.trans harr (.one step_inLoop)) harr2⟩
      | exit id => exact ⟨_, a2, w2, hQ _ _ _ ⟨env', H', ρ', I', h1, h2, h3, hx1.trans h4⟩, .pass (x := .inLoop c) rfl (fun _ _ => .inl (by simp)) harr⟩
      | goto l => exact ⟨_, a2, w2, hQ _ _ _ ⟨env', H', ρ', I', h1, h2, h3, hx1.trans h4⟩, .pass (x := .inLoop c) rfl (fun _ _ => .inl (by simp)) harr⟩
      | ret => exact ⟨_, a2, w2, hQ _ _ _ ⟨env', H', ρ', I', h1, h2, h3, hx1.trans h4⟩, .pass (x := .inLoop c) rfl (fun _ _ => .inl (by simp)) harr⟩
      | panic ch => exact ⟨_, a2, w2, hQ _ _ _ ⟨env', H', ρ', I', h1, h2, h3, hx1.trans h4⟩, .pass (x := .inLoop c) rfl (fun _ _ => .inl (by simp)) harr⟩
      | outgrown => exact ⟨_, a2, w2, hQ _ _ _ ⟨env', H', ρ', I', h1, h2, h3, hx1.trans h4⟩, .pass (x := .inLoop c) rfl (fun _ _ => .inl (by simp)) harr⟩
  obtain ⟨e, a', w', hq, harr⟩ := key n env H ρ I w a h0 hr he (Ext.refl _ _ _)
  exact ⟨e, a', w', hq, .of_steps (.one step_loop) harr⟩

end
end Go.Fl
