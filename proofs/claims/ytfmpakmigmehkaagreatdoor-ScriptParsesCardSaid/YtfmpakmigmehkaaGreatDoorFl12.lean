/- Code. -/
import Derived.Test.YtfmpakmigmehkaaGreatDoorFl10
set_option linter.unusedVariables false
set_option linter.unusedSimpArgs false
noncomputable section Fl12S
namespace Go.Fl
open Go

/-- What holds behind code, of whatever stands for the frame and the heap ahead of it. -/
def SCode (P : Program) (sz : Nat) (c : Code) (Q : Exit → Env → Heap → Prop) (env : Env) (H : Heap) : Prop :=
  ∀ ρ I w a (Q' : Exit → Act → World → Prop), Rel ρ I H w.heap → ERel sz ρ I w.heap env a → (∀ e a' w', SPost sz ρ I w Q e a' w' → Q' e a' w') → c.wp P Q' a w

theorem SCode.mono {P : Program} {sz : Nat} {c : Code} {Q Q1 : Exit → Env → Heap → Prop} {env : Env} {H : Heap} (h : SCode P sz c Q env H) (hq : ∀ e env H, Q e env H → Q1 e env H) : SCode P sz c Q1 env H :=
  fun ρ I w a Q' hr he hQ => h ρ I w a Q' hr he fun e a' w' hp => hQ e a' w' (hp.ext (Ext.refl _ _ _) hq)

def thenA (K : Env → Heap → Prop) (Q : Exit → Env → Heap → Prop) : Exit → Env → Heap → Prop
  | .normal => K
  | e => Q e

def inBlockA (id : Nat) (Q : Exit → Env → Heap → Prop) : Exit → Env → Heap → Prop
  | .exit id' => if id' = id then Q .normal else Q (.exit id')
  | e => Q e

def dstsB (sz : Nat) (ops : Array Oper) : Bool := ops.toList.all fun o => match o.dst with | some d => decide (d < sz) | none => true

theorem dstsB_ok {sz : Nat} {ops : Array Oper} (h : dstsB sz ops = true) : dstsOk sz ops := by
  intro j q d hj hd
  have := List.all_eq_true.1 h q (by
    rw [← Array.getElem?_toList] at hj
    exact List.mem_of_getElem? hj)
  rw [hd] at this
  simpa using this

section
variable {P : Program} {sz : Nat}

theorem scode_skip {Q : Exit → Env → Heap → Prop} {env : Env} {H : Heap} (h : Q .normal env H) : SCode P sz .skip Q env H :=
  fun _ _ _ _ _ hr he hQ => wp_skip (hQ _ _ _ ⟨_, _, _, _, h, hr, he, Ext.refl _ _ _⟩)

theorem scode_ret {Q : Exit → Env → Heap → Prop} {env : Env} {H : Heap} (h : Q .ret env H) : SCode P sz .ret Q env H :=
  fun _ _ _ _ _ hr he hQ => wp_ret (hQ _ _ _ ⟨_, _, _, _, h, hr, he, Ext.refl _ _ _⟩)

theorem scode_exit {id : Nat} {Q : Exit → Env → Heap → Prop} {env : Env} {H : Heap} (h : Q (.exit id) env H) : SCode P sz (.exit id) Q env H :=
  fun _ _ _ _ _ hr he hQ => wp_exit (hQ _ _ _ ⟨_, _, _, _, h, hr, he, Ext.refl _ _ _⟩)

theorem scode_seq {x y : Code} {Q : Exit → Env → Heap → Prop} {env : Env} {H : Heap} (h : SCode P sz x (thenA (SCode P sz y Q) Q) env H) : SCode P sz (.seq x y) Q env H := by
  intro ρ I w a Q' hr he hQ
  refine wp_seq (h ρ I w a _ hr he ?_)
  rintro e a' w' ⟨env', H', ρ', I', h1, h2, h3, h4⟩
  cases e with
  | normal =>
    exact h1 ρ' I' w' a' Q' h2 h3 fun e a2 w2 hp => hQ e a2 w2 (hp.ext h4 fun _ _ _ h => h)
  | _ => exact hQ _ _ _ ⟨env', H', ρ', I', h1, h2, h3, h4⟩

theorem scode_cond {c : Operand} {x y : Code} {b : Bool} {Q : Exit → Env → Heap → Prop} {env : Env} {H : Heap} (hc : aev env c = .sc (.bool b)) (h : SCode P sz (if b then x else y) Q env H) : SCode P sz (.cond c x y) Q env H := by
  intro ρ I w a Q' hr he hQ
  have hv := he.eval c
  rw [hc] at hv
  exact wp_cond hv.eq_sc (h ρ I w a Q' hr he hQ)

/-- A test whose outcome cannot be told: both ways. -/
theorem scode_any {c : Operand} {x y : Code} {Q : Exit → Env → Heap → Prop} {env : Env} {H : Heap} (hc : aev env c = .ab) (hx : SCode P sz x Q env H) (hy : SCode P sz y Q env H) : SCode P sz (.cond c x y) Q env H := by
  intro ρ I w a Q' hr he hQ
  have hv := he.eval c
  rw [hc] at hv
  generalize hc' : a.eval c = u at hv
  cases hv with
  | ab b =>
    cases b with
    | true => exact wp_cond hc' (hx ρ I w a Q' hr he hQ)
    | false => exact wp_cond hc' (hy ρ I w a Q' hr he hQ)

theorem scode_block {id : Nat} {c : Code} {Q : Exit → Env → Heap → Prop} {env : Env} {H : Heap} (h : SCode P sz c (inBlockA id Q) env H) : SCode P sz (.block id c) Q env H := by
  intro ρ I w a Q' hr he hQ
  refine wp_block (h ρ I w a _ hr he ?_)
  rintro e a' w' ⟨env', H', ρ', I', h1, h2, h3, h4⟩
  cases e with
  | exit id' =>
    simp only [Exit.inBlock]
    simp only [inBlockA] at h1
    split
    · rename_i e; rw [if_pos e] at h1; exact hQ _ _ _ ⟨env', H', ρ', I', h1, h2, h3, h4⟩
    · rename_i e; rw [if_neg e] at h1; exact hQ _ _ _ ⟨env', H', ρ', I', h1, h2, h3, h4⟩
  | _ => exact hQ _ _ _ ⟨env', H', ρ', I', h1, h2, h3, h4⟩

theorem scode_region {id : Nat} {ops : Array Oper} {Q : Exit → Env → Heap → Prop} {env : Env} {H : Heap} (hd : dstsB sz ops = true) (h : WOps P ops Q ops.toList env H) : SCode P sz (.region id ops false) Q env H := by
  intro ρ I w a Q' hr he hQ
  refine wp_region_list (WOps_sound (dstsB_ok hd) ops.toList (fun o ho d hod => ?_) env H h ρ I w a hr he hQ)
  have := List.all_eq_true.1 hd o ho
  rw [hod] at this
  simpa using this

/-- A loop: a relation with a number that every round lowers. -/
theorem scode_loop {c : Code} {Q : Exit → Env → Heap → Prop} (Inv : Nat → Env → Heap → Prop)
    (step : ∀ n env H, Inv n env H → SCode P sz c (thenA (fun env' H' => ∃ n', n' < n ∧ Inv n' env' H') Q) env H) {n : Nat} {env : Env} {H : Heap} (h0 : Inv n env H) : SCode P sz (.loop c) Q env H := by
  intro ρ I w a Q' hr he hQ b k cs
  have key : ∀ n env H ρ1 I1 w1 a1, Inv n env H → Rel ρ1 I1 H w1.heap → ERel sz ρ1 I1 w1.heap env a1 → Ext ρ I w ρ1 I1 w1 →
      ∃ e a' w', Q' e a' w' ∧ Arrives P (lone (b.at a1 (.code c :: .inLoop c :: k)) cs w1) b k cs e a' w' := by
    intro n
    induction n using Nat.strongRecOn with
    | _ n ih =>
      intro env H ρ1 I1 w1 a1 hI hr1 he1 hx1
      obtain ⟨e, a2, w2, hq, harr⟩ := step n env H hI ρ1 I1 w1 a1 (fun e a' w' => SPost sz ρ1 I1 w1 (thenA (fun env' H' => ∃ n', n' < n ∧ Inv n' env' H') Q) e a' w') hr1 he1 (fun _ _ _ h => h) b (.inLoop c :: k) cs
      obtain ⟨env', H', ρ', I', h1, h2, h3, h4⟩ := hq
      cases e with
      | normal =>
        obtain ⟨n', hlt, hI'⟩ := h1
        obtain ⟨e2, a3, w3, hq2, harr2⟩ := ih n' hlt env' H' ρ' I' w2 a2 hI' h2 h3 (hx1.trans h4)
        exact ⟨e2, a3, w3, hq2, .of_steps (Steps.trans harr (.one step_inLoop)) harr2⟩
      | exit id => exact ⟨_, a2, w2, hQ _ _ _ ⟨env', H', ρ', I', h1, h2, h3, hx1.trans h4⟩, .pass (x := .inLoop c) rfl (fun _ _ => .inl (by simp)) harr⟩
      | goto l => exact ⟨_, a2, w2, hQ _ _ _ ⟨env', H', ρ', I', h1, h2, h3, hx1.trans h4⟩, .pass (x := .inLoop c) rfl (fun _ _ => .inl (by simp)) harr⟩
      | ret => exact ⟨_, a2, w2, hQ _ _ _ ⟨env', H', ρ', I', h1, h2, h3, hx1.trans h4⟩, .pass (x := .inLoop c) rfl (fun _ _ => .inl (by simp)) harr⟩
      | panic ch => exact ⟨_, a2, w2, hQ _ _ _ ⟨env', H', ρ', I', h1, h2, h3, hx1.trans h4⟩, .pass (x := .inLoop c) rfl (fun _ _ => .inl (by simp)) harr⟩
      | outgrown => exact ⟨_, a2, w2, hQ _ _ _ ⟨env', H', ρ', I', h1, h2, h3, hx1.trans h4⟩, .pass (x := .inLoop c) rfl (fun _ _ => .inl (by simp)) harr⟩
  obtain ⟨e, a', w', hq, harr⟩ := key n env H ρ I w a h0 hr he (Ext.refl _ _ _)
  exact ⟨e, a', w', hq, .of_steps (.one step_loop) harr⟩

end
end Go.Fl
end Fl12S

noncomputable section Fl13S
namespace Go.Fl
open Go

/-- v, seen as a value that nobody writes any more: slices of blocks that are given up become plain lists. -/
inductive Froz (H : Heap) (dead : Nat → Prop) : AV → AV → Prop
  | same (x : AV) : Froz H dead x x
  | nil (sz : Nat) : Froz H dead .nil (.vs 0 sz [])
  | ms {b off len sz : Nat} {cs cells : List AV} : H.get b = some cs → dead b → off + len * sz ≤ cs.length → cells.length = len * sz →
      (∀ (i : Nat) (x y : AV), cells[i]? = some x → cs[off + i]? = some y → Froz H dead y x) → Froz H dead (.ms b off len sz) (.vs len sz cells)
  | vs {len sz : Nat} {cs cells : List AV} : cs.length = cells.length → (∀ (i : Nat) (x y : AV), cells[i]? = some x → cs[i]? = some y → Froz H dead y x) → Froz H dead (.vs len sz cs) (.vs len sz cells)
  | agg {cs cells : List AV} : cs.length = cells.length → (∀ (i : Nat) (x y : AV), cells[i]? = some x → cs[i]? = some y → Froz H dead y x) → Froz H dead (.agg cs) (.agg cells)
  | tup {cs cells : List AV} : cs.length = cells.length → (∀ (i : Nat) (x y : AV), cells[i]? = some x → cs[i]? = some y → Froz H dead y x) → Froz H dead (.tup cs) (.tup cells)
  | ifc {t : TypeId} {x y : AV} : Froz H dead x y → Froz H dead (.ifc t x) (.ifc t y)
  | top (x : AV) : Froz H dead x .top
  | ai (k : IntKind) (n : Int) : Froz H dead (.sc (.int k n)) (.ai k)
  | ep {b o : Nat} {cs cells : List AV} : H.get b = some cs → dead b → cells ≠ [] → o + cells.length ≤ cs.length →
      (∀ (i : Nat) (x y : AV), cells[i]? = some x → cs[o + i]? = some y → Froz H dead y x) → Froz H dead (.ptr b o) (.ep cells)

/-- All blocks that a value names are below n. -/
inductive AV.Lt (n : Nat) : AV → Prop
  | sc (v : Value) : Lt n (.sc v)
  | top : Lt n .top
  | ab : Lt n .ab
  | ai (k : IntKind) : Lt n (.ai k)
  | ty {t : TypeId} {m : Nat} {x : AV} : Lt n x → Lt n (.ty t m x)
  | ptr {b o : Nat} : b < n → Lt n (.ptr b o)
  | ms {b off len sz : Nat} : b < n → Lt n (.ms b off len sz)
  | vs {len sz : Nat} {cells : List AV} : (∀ x ∈ cells, Lt n x) → Lt n (.vs len sz cells)
  | ep {cells : List AV} : (∀ x ∈ cells, Lt n x) → Lt n (.ep cells)
  | fn {f : Fn} {a b : List AV} : (∀ x ∈ a, Lt n x) → (∀ x ∈ b, Lt n x) → Lt n (.fn f a b)
  | ifc {t : TypeId} {x : AV} : Lt n x → Lt n (.ifc t x)
  | agg {cells : List AV} : (∀ x ∈ cells, Lt n x) → Lt n (.agg cells)
  | tup {cells : List AV} : (∀ x ∈ cells, Lt n x) → Lt n (.tup cells)

theorem AV.Lt.mono {n m : Nat} (h : n ≤ m) {x : AV} (hx : x.Lt n) : x.Lt m := by
  induction hx with
  | sc v => exact .sc v
  | top => exact .top
  | ab => exact .ab
  | ai k => exact .ai k
  | ty _ ih => exact .ty ih
  | ptr h1 => exact .ptr (Nat.lt_of_lt_of_le h1 h)
  | ms h1 => exact .ms (Nat.lt_of_lt_of_le h1 h)
  | vs _ ih => exact .vs ih
  | ep _ ih => exact .ep ih
  | fn _ _ ih1 ih2 => exact .fn ih1 ih2
  | ifc _ ih => exact .ifc ih
  | agg _ ih => exact .agg ih
  | tup _ ih => exact .tup ih

def Rho.below (ρ : Rho) (n : Nat) : Rho := fun b => if b < n then ρ b else none

section
variable {ρ : Rho} {I : Nat → Prop} {hp : Array Obj}

theorem VR.lower {n : Nat} {x : AV} {v : Value} (hx : x.Lt n) (h : VR ρ I hp x v) : VR (ρ.below n) I hp x v := by
  have mem : ∀ {l : List AV} {i : Nat} {y : AV}, l[i]? = some y → y ∈ l := fun h => List.mem_of_getElem? h
  induction h with
  | sc v => exact .sc v
  | top v => exact .top v
  | ab b => exact .ab b
  | ai k n => exact .ai k n
  | ty _ h2 ih => cases hx with | ty h3 => exact .ty (ih h3) h2
  | ptr h1 => cases hx with | ptr h2 => exact .ptr (by simp [Rho.below, h2, h1])
  | ms h1 h2 h3 h4 => cases hx with | ms h5 => exact .ms (by simp [Rho.below, h5, h1]) h2 h3 h4
  | ms0 h1 => cases hx with | ms h5 => exact .ms0 (show (if _ < n then ρ _ else none) = _ by rw [if_pos h5]; exact h1)
  | vs0 h => exact .vs0 h
  | vs h1 h2 h3 h4 h5 _ ih => cases hx with | vs h6 => exact .vs h1 h2 h3 h4 h5 (fun i y hy => ih i y hy (h6 y (mem hy)))
  | ep h1 h2 h3 _ ih => cases hx with | ep h6 => exact .ep h1 h2 h3 (fun i y hy => ih i y hy (h6 y (mem hy)))
  | fn h1 h2 _ _ ih1 ih2 => cases hx with | fn h6 h7 => exact .fn h1 h2 (fun i y hy => ih1 i y hy (h6 y (mem hy))) (fun i y hy => ih2 i y hy (h7 y (mem hy)))
  | ifc _ ih => cases hx with | ifc h6 => exact .ifc (ih h6)
  | agg h1 _ ih => cases hx with | agg h6 => exact .agg h1 (fun i y hy => ih i y hy (h6 y (mem hy)))
  | tup h1 _ ih => cases hx with | tup h6 => exact .tup h1 (fun i y hy => ih i y hy (h6 y (mem hy)))

/-- The kept blocks when all that is live in H1 and not in H' is given up. -/
def keptBy (ρ : Rho) (I : Nat → Prop) (H1 H' : Heap) : Nat → Prop := fun cb => I cb ∨ ∃ b cs base, H1.get b = some cs ∧ H'.get b = none ∧ ρ b = some (some (cb, base))

theorem Froz.vr {H1 H' : Heap} (hr : Rel ρ I H1 hp) {x y : AV} (hf : Froz H1 (fun b => H'.get b = none) x y) : ∀ {v : Value}, VR ρ I hp x v → VR ρ (keptBy ρ I H1 H') hp y v := by
  have up : ∀ {x : AV} {v : Value}, VR ρ I hp x v → VR ρ (keptBy ρ I H1 H') hp x v := fun h =>
    h.mono' (fun _ _ h => h) (fun _ h => .inl h) (fun _ _ => rfl) (fun _ c _ fz h => ⟨c, fz, h, rfl⟩)
  induction hf with
  | same x => exact fun h => up h
  | nil sz => intro v h; cases h.eq_sc; exact .vs0 (fun _ => rfl)
  | ms h1 h2 h3 h4 _ ih =>
    rename_i b off len sz cs cells _
    intro v h
    rcases h.ms_inv with ⟨cb, base, cap, c, e, fz, rfl, k1, k2, k3, k4⟩ | ⟨rfl, a, p, rfl, k1⟩
    · rcases hr.live _ _ h1 with ⟨j1, _⟩ | ⟨cb', base', c', e', j1, j2, ⟨fz3, _, j3⟩, j4, j5⟩
      · rw [k1] at j1; cases j1
      · rw [k1] at j1
        simp only [Option.some.injEq, Prod.mk.injEq] at j1
        obtain ⟨rfl, rfl⟩ := j1
        refine .vs (.inr ⟨b, cs, base, h1, h2, k1⟩) k2 j3 h4 (by omega) (fun i x hx => ?_)
        have hi := (List.getElem?_eq_some_iff.1 hx).1
        have hlt : off + i < cs.length := by omega
        rw [Nat.add_assoc]
        exact ih i x _ hx (List.getElem?_eq_getElem hlt) (j5 _ _ (List.getElem?_eq_getElem hlt))
    · have : cells = [] := List.length_eq_zero_iff.1 (by rw [h4]; simp)
      subst this
      exact .vs0 (fun _ => rfl)
  | vs h1 _ ih =>
    intro v h
    rename_i len sz cs cells _
    cases h with
    | vs0 h0 =>
      have : cells = [] := List.length_eq_zero_iff.1 (by rw [← h1]; rfl)
      subst this
      exact .vs0 h0
    | vs k1 k2 k3 k4 k5 k6 =>
      refine .vs (.inl k1) k2 k3 (by rw [← h1]; exact k4) (by rw [← h1]; exact k5) (fun i x hx => ?_)
      have hlt := (List.getElem?_eq_some_iff.1 hx).1
      rw [← h1] at hlt
      exact ih i x _ hx (List.getElem?_eq_getElem hlt) (k6 _ _ (List.getElem?_eq_getElem hlt))
  | agg h1 _ ih =>
    intro v h
    cases h with
    | agg k1 k2 =>
      refine .agg (by rw [← h1]; exact k1) (fun i x hx => ?_)
      have hlt := (List.getElem?_eq_some_iff.1 hx).1
      rw [← h1] at hlt
      exact ih i x _ hx (List.getElem?_eq_getElem hlt) (k2 _ _ (List.getElem?_eq_getElem hlt))
  | tup h1 _ ih =>
    intro v h
    cases h with
    | tup k1 k2 =>
      refine .tup (by rw [← h1]; exact k1) (fun i x hx => ?_)
      have hlt := (List.getElem?_eq_some_iff.1 hx).1
      rw [← h1] at hlt
      exact ih i x _ hx (List.getElem?_eq_getElem hlt) (k2 _ _ (List.getElem?_eq_getElem hlt))
  | ifc _ ih =>
    intro v h
    cases h with
    | ifc k1 => exact .ifc (ih k1)
  | top x => exact fun _ => .top _
  | ai k n => intro v h; cases h.eq_sc; exact .ai k n
  | ep h1 h2 h0 h3 _ ih =>
    rename_i b o cs cells _
    intro v h
    cases h with
    | ptr k1 =>
      rcases hr.live _ _ h1 with ⟨j1, _⟩ | ⟨cb', base', c', e', j1, j2, ⟨fz3, _, j3⟩, j4, j5⟩
      · rw [k1] at j1; cases j1
      · rw [k1] at j1
        simp only [Option.some.injEq, Prod.mk.injEq] at j1
        obtain ⟨rfl, rfl⟩ := j1
        refine .ep (.inr ⟨b, cs, _, h1, h2, k1⟩) j3 (by omega) (fun i x hx => ?_)
        have hi := (List.getElem?_eq_some_iff.1 hx).1
        have hlt : o + i < cs.length := by omega
        rw [Nat.add_assoc]
        exact ih i x _ hx (List.getElem?_eq_getElem hlt) (j5 _ _ (List.getElem?_eq_getElem hlt))

theorem Rel.keep {H1 H' : Heap} (hr : Rel ρ I H1 hp) (hle : H'.le H1) (hn : H1.next ≤ H'.next) : Rel ρ (keptBy ρ I H1 H') H' hp := by
  have up : ∀ {x : AV} {v : Value}, VR ρ I hp x v → VR ρ (keptBy ρ I H1 H') hp x v := fun h =>
    h.mono' (fun _ _ h => h) (fun _ h => .inl h) (fun _ _ => rfl) (fun _ c _ fz h => ⟨c, fz, h, rfl⟩)
  refine ⟨?_, ?_, ?_, hr.at_, ?_, hr.glob.ext (fun _ h => .inl h) (fun _ _ => rfl)⟩
  · intro b cs hb
    rcases hr.live b cs (hle _ _ hb) with h1 | ⟨cb, base, c, e, h1, h2, h3, h4, h5⟩
    · exact .inl h1
    · refine .inr ⟨cb, base, c, e, h1, ?_, h3, h4, fun i x hx => up (h5 i x hx)⟩
      rintro (h6 | ⟨b2, cs2, base2, h6, h7, h8⟩)
      · exact h2 h6
      · have := hr.inj _ _ _ _ _ _ _ (hle _ _ hb) h6 h1 h8
        subst this
        rw [hb] at h7; cases h7
  · intro b b' cs cs' cb base base' hb hb' h1 h2
    exact hr.inj _ _ _ _ _ _ _ (hle _ _ hb) (hle _ _ hb') h1 h2
  · intro b p hb
    have := hr.rng b p hb; omega
  · rintro cb (h1 | ⟨b, cs, base, h1, _, h3⟩)
    · exact hr.irng cb h1
    · exact hr.lt h3

end

/-- Results, as the machine reads them. -/
def aresult (P : Program) (env : Env) (H : Heap) : ResultVar → Option AV
  | .tmp t => some (env t)
  | .cell a t => aload P H t (env a)

def aresultL (P : Program) (env : Env) (H : Heap) : List ResultVar → Option (List AV)
  | [] => some []
  | x :: l => (aresult P env H x).bind fun v => (aresultL P env H l).map (v :: ·)

def tupOf : List AV → AV
  | [x] => x
  | l => .tup l

def aresults (P : Program) (fn : Func) (env : Env) (H : Heap) : Option AV := (aresultL P env H fn.results.toList).map tupOf

theorem loadAt_run {P : Program} {w : World} {t : TypeId} {v u : Value} (h : (Instr.loadAt t v).run P w = .ok u w) : ((asAddr v).run P w).andThen (fun a w' => (loadVar t a).run P w') = .ok u w := by
  cases v with
  | pointer a =>
    cases a with
    | none => simp [Instr.loadAt, Instr.sureAddr] at h
    | some a => simpa [Instr.loadAt, Instr.sureAddr, asAddr] using h
  | _ => simp [Instr.loadAt, Instr.sureAddr] at h

def resultSem (tmps : Array Value) : ResultVar → Sem Value
  | .tmp t => pure (tmps.getD t Go.undef)
  | .cell a t => do loadVar t (← asAddr (tmps.getD a Go.undef))

theorem aresultL_run {P : Program} {sz : Nat} {ρ : Rho} {I : Nat → Prop} {w : World} {env : Env} {a : Act} {H : Heap} (hr : Rel ρ I H w.heap) (he : ERel sz ρ I w.heap env a) :
    ∀ (l : List ResultVar) (r : List AV), aresultL P env H l = some r → ∃ us : List Value, (l.mapM (resultSem a.tmps)).run P w = .ok us w ∧ VRs ρ I w.heap r us.toArray
  | [], r, h => by
    simp only [aresultL, Option.some.injEq] at h
    subst h
    exact ⟨[], by simp, rfl, fun i x hx => by simp at hx⟩
  | x :: l, r, h => by
    simp only [aresultL] at h
    cases hx : aresult P env H x with
    | none => simp [hx] at h
    | some v =>
      simp only [hx, Option.bind_some, Option.map_eq_some_iff] at h
      obtain ⟨r', h1, rfl⟩ := h
      obtain ⟨us, h2, h3⟩ := aresultL_run hr he l r' h1
      have one : ∃ u, (resultSem a.tmps x).run P w = .ok u w ∧ VR ρ I w.heap v u := by
        cases x with
        | tmp t =>
          simp only [aresult, Option.some.injEq] at hx
          subst hx
          exact ⟨_, rfl, he.val t⟩
        | cell c t =>
          obtain ⟨u, k1, k2⟩ := aload_run (P := P) hr hx (he.val c)
          exact ⟨u, by simp only [resultSem, Sem.run_bind]; exact loadAt_run k1, k2⟩
      obtain ⟨u, k1, k2⟩ := one
      refine ⟨u :: us, by simp [List.mapM_cons, k1, h2], by simp [h3.1], fun i y hy => ?_⟩
      cases i with
      | zero => simp at hy; subst hy; simpa using k2
      | succ i =>
        simp only [List.getElem?_cons_succ] at hy
        have := h3.2 i y hy
        simpa [Array.getD_eq_getD_getElem?] using this

theorem aresults_run {P : Program} {fn : Func} {sz : Nat} {ρ : Rho} {I : Nat → Prop} {w : World} {env : Env} {a : Act} {H : Heap} {r : AV} (hr : Rel ρ I H w.heap) (he : ERel sz ρ I w.heap env a)
    (h : aresults P fn env H = some r) : ∃ v, (results fn a.tmps).run P w = .ok v w ∧ VR ρ I w.heap r v := by
  unfold aresults at h
  simp only [Option.map_eq_some_iff] at h
  obtain ⟨l, h1, rfl⟩ := h
  obtain ⟨us, h2, h3⟩ := aresultL_run hr he _ _ h1
  have hres : results fn a.tmps = (fn.results.mapM (resultSem a.tmps)).bind fun vs => pure (if h : vs.size = 1 then vs[0] else .tuple vs) := by
    unfold results
    have : (fun (x : ResultVar) => (match x with
      | .tmp t => pure (a.tmps.getD t Go.undef)
      | .cell a' t => do loadVar t (← asAddr (a.tmps.getD a' Go.undef)) : Sem Value)) = resultSem a.tmps := by
      funext x; cases x <;> rfl
    rw [← this]
    rfl
  have harr : (fn.results.mapM (resultSem a.tmps)).run P w = .ok us.toArray w := by
    rw [Array.mapM_eq_mapM_toList]
    simp [h2]
  have hrun : (results fn a.tmps).run P w = .ok (if h : us.toArray.size = 1 then us.toArray[0] else .tuple us.toArray) w := by
    rw [hres, Sem.run_bind', harr]; rfl
  rw [hrun]
  have hlen : l.length = us.length := by simpa using h3.1
  clear hrun harr h2 h1
  match l, us, hlen, h3 with
  | [x], [u], _, h3 => exact ⟨u, by simp, show VR ρ I w.heap x u by simpa using h3.2 0 x rfl⟩
  | [], [], _, _ => exact ⟨.tuple #[], by simp, .tup rfl (fun i x hx => by simp at hx)⟩
  | x :: y :: l, u :: v :: us, _, h3 => exact ⟨.tuple (u :: v :: us).toArray, by simp, .tup h3.1 h3.2⟩

def enterEnv (args : List AV) : Env := fun i => (args[i]?).getD .undef

/-- Behind a body: what is handed back, and the heap that is told of: H' at the call's beginning H0. -/
structure Ret (P : Program) (fn : Func) (H0 : Heap) (env : Env) (H1 : Heap) (r : AV) (H' : Heap) : Prop where
  res : ∃ v, aresults P fn env H1 = some v ∧ Froz H1 (fun b => H'.get b = none) v r
  sub : H'.le H1
  lo : H0.next ≤ H'.next
  hi : H'.next ≤ H1.next
  lt : r.Lt H'.next
  cont : ∀ b cs, H'.get b = some cs → H0.get b = some cs ∨ ∀ x ∈ cs, x.Lt H'.next

/-- FROM A BODY TO THE FUNCTION. -/
theorem scalls_of {P : Program} {f : FuncId} {fn : Func} {c : Code} {args : List AV} {H : Heap} {r : AV} {H' : Heap} (hen : Enters P f) (hf : P.funcs[f]? = some fn) (hb : fn.body = some c) (hn : H.next ≤ H'.next)
    (h : SCode P (args.length + (fn.ntmps - args.length)) c (fun e env H1 => (e = .ret ∨ e = .normal) ∧ Ret P fn H env H1 r H') (enterEnv args) H) : SCalls P f args H r H' := by
  refine ⟨hen, hn, fun ρ I w cargs hr hargs => ?_⟩
  refine calls_of_wp hf hb (h ρ I w _ _ hr ?_ ?_)
  · refine ⟨by simp [hargs.1], rfl, fun i => ?_, hr.glob⟩
    simp only [enterEnv]
    by_cases hi : i < args.length
    · rw [List.getElem?_eq_getElem hi]
      have h1 := hargs.2 i _ (List.getElem?_eq_getElem hi)
      have e1 : (cargs ++ Array.replicate (fn.ntmps - cargs.size) Go.undef).getD i Go.undef = cargs.getD i Go.undef := by
        have hi' : i < cargs.size := by rw [← hargs.1]; exact hi
        simp only [Array.getD_eq_getD_getElem?]
        rw [Array.getElem?_append_left hi']
      rw [e1]; exact h1
    · rw [List.getElem?_eq_none (by omega)]
      have hi' : cargs.size ≤ i := by rw [← hargs.1]; omega
      have e1 : (cargs ++ Array.replicate (fn.ntmps - cargs.size) Go.undef).getD i Go.undef = Go.undef := by
        simp only [Array.getD_eq_getD_getElem?]
        rw [Array.getElem?_append_right hi', Array.getElem?_replicate]
        split <;> rfl
      rw [e1]; exact .sc _
  · rintro e a' w' ⟨env', H1, ρ1, I1, ⟨he, hret⟩, hr1, he1, hx⟩
    obtain ⟨v, hv1, hv2⟩ := hret.res
    obtain ⟨u, hu1, hu2⟩ := aresults_run hr1 he1 hv1
    have hz := hv2.vr hr1 hu2
    -- the kept blocks, and the renaming cut off
    have hrel : Rel (ρ1.below H'.next) (keptBy ρ1 I1 H1 H') H' w'.heap := by
      have hb' : ∀ x y, (ρ1.below H'.next) x = some y → ρ1 x = some y ∧ x < H'.next := by
        intro x y hxy
        simp only [Rho.below] at hxy
        split at hxy
        · exact ⟨hxy, by assumption⟩
        · cases hxy
      let Hup : Heap := ⟨H1.next, H'.tree, fun b hb => H'.wf b (Nat.le_trans hret.hi hb)⟩
      have hk : Rel ρ1 (keptBy ρ1 I1 H1 Hup) Hup w'.heap := hr1.keep (H' := Hup) hret.sub (Nat.le_refl _)
      refine ⟨?_, ?_, ?_, ?_, hk.irng, hk.glob⟩
      · intro b cs hb
        have hbl : b < H'.next := Heap.lt_of_get hb
        have hin : (ρ1.below H'.next) b = ρ1 b := by simp [Rho.below, hbl]
        rcases hk.live b cs hb with ⟨k1, k2⟩ | ⟨cb, base, cc, e', k1, k2, k3, k4, k5⟩
        · exact .inl ⟨by rw [hin]; exact k1, k2⟩
        · refine .inr ⟨cb, base, cc, e', by rw [hin]; exact k1, k2, k3, k4, fun i x hx' => ?_⟩
          rcases hret.cont b cs hb with k6 | k6
          · rcases hr.live b cs k6 with ⟨_, m2⟩ | ⟨cb0, base0, cc0, e0, m1, m2, m3, m4, m5⟩
            · subst m2; simp at hx'
            · have hold := m5 i x hx'
              refine VR.restrict (ρ := ρ1.below H'.next) (fun b p hbp => (hb' b p hbp).1) (hold.mono' (ρ' := ρ1.below H'.next) ?_ (fun _ h => h) (fun _ _ => rfl) (fun _ c _ fz h => ⟨c, fz, h, rfl⟩)) (k5 i x hx')
              intro b2 p hb2
              have hlt := hr.rng _ _ hb2
              have : b2 < H'.next := Nat.lt_of_lt_of_le hlt hret.lo
              simp [Rho.below, this, hx.rho _ _ hb2]
          · exact (k5 i x hx').lower (k6 x (List.mem_of_getElem? hx'))
      · intro b b' cs cs' cb base base' h1 h2 h3 h4
        exact hk.inj _ _ _ _ _ _ _ h1 h2 (hb' _ _ h3).1 (hb' _ _ h4).1
      · intro b p hb
        exact (hb' _ _ hb).2
      · intro b cb base hb
        exact hk.at_ _ _ _ (hb' _ _ hb).1
    have hext : Ext ρ I w (ρ1.below H'.next) (keptBy ρ1 I1 H1 H') w' :=
      { rho := fun b p hb => by
          have hlt := hr.rng _ _ hb
          have : b < H'.next := Nat.lt_of_lt_of_le hlt hret.lo
          simp [Rho.below, this, hx.rho _ _ hb]
        imm := fun cb hcb => .inl (hx.imm cb hcb)
        size := hx.size
        kept := hx.kept
        blocks := hx.blocks
        frame := hx.frame
        newI := by
          rintro cb (h1 | ⟨b, cs, base, h1, _, h3⟩)
          · exact hx.newI cb h1
          · rcases hx.newR b cb base h3 with h4 | h4 | h4
            · exact .inr (.inr ⟨_, _, h4⟩)
            · exact .inr (.inl h4)
            · exact .inr (.inr h4)
        newR := fun b cb base hb => by
          simp only [Rho.below] at hb
          split at hb
          · exact hx.newR b cb base hb
          · cases hb
        os := hx.os
        tape := hx.tape
        output := hx.output }
    have hfin : ∃ v ρ' I', Ending.returned u = .returned v ∧ VR ρ' I' w'.heap r v ∧ Rel ρ' I' H' w'.heap ∧ Ext ρ I w ρ' I' w' :=
      ⟨u, _, _, rfl, hz.lower hret.lt, hrel, hext⟩
    rcases he with rfl | rfl
    · exact ⟨he1.defers, u, hu1, hfin⟩
    · exact ⟨he1.defers, u, hu1, hfin⟩

end Go.Fl
end Fl13S
