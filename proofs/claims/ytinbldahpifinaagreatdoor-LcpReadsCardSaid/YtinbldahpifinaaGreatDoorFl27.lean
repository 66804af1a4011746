/- Walking in pieces: from one world to the next; a call of yield. -/
import Derived.Test.YtinbldahpifinaaGreatDoorFl26
import Derived.TacticsIn
import Derived.RangeFuncKeeps
import Derived.RangeFuncFrom
import Derived.RangeFuncBound
import Derived.RangeFuncCalls
import Derived.RangeFuncLeaves
import Derived.RangeFuncNested
noncomputable section
namespace Go.Fl
open Go Go.RowKit

/-- A frame over a world of which nothing is named and all is kept. -/
abbrev E0 (sz : Nat) (w : World) (env : Env) (a : Act) : Prop := ERel sz (fun _ => none) (fun cb => cb < w.heap.size) w.heap env a

/-- What of a frame names no block may be read over the world as it lies. -/
theorem E0.of {sz : Nat} {ρ : Rho} {I : Nat → Prop} {w : World} {env : Env} {a : Act} {H : Heap} (hr : Rel ρ I H w.heap) (he : ERel sz ρ I w.heap env a) (env' : Env) (h : ∀ i, env' i = .top ∨ (env' i = env i ∧ (env i).Lt 0)) : E0 sz w env' a := by
  refine ⟨he.size, he.defers, fun i => ?_⟩
  rcases h i with h1 | ⟨h1, h2⟩
  · rw [h1]; exact .top _
  · rw [h1]
    have := (he.val i).lower h2
    rw [below_zero] at this
    exact this.mono' (fun b p hb => by cases hb) hr.irng (fun _ _ => rfl) (fun _ c _ fz h => ⟨c, fz, h, rfl⟩)

/-- A piece of code, at the wide fence. -/
theorem scode_in {P : Program} {sz n : Nat} {c : Code} {Q : Exit → Env → Heap → Prop} {env : Env} {a : Act} {w : World} {Q' : Exit → Act → World → Prop} (h : SCode P sz c Q env Heap.empty) (he : E0 sz w env a)
    (hq : ∀ e a' w', SPost sz (fun _ => none) (fun cb => cb < w.heap.size) w Q e a' w' → Q' e a' w') : c.wpIn Fence.wide n P Q' a w :=
  wpIn_wide.2 (h _ _ w a _ (Rel.nothing w) he hq)

theorem Ext.grownBy {ρ ρ' : Rho} {I' : Nat → Prop} {w w' : World} (h : Ext ρ (fun cb => cb < w.heap.size) w ρ' I' w') : w.grownBy w' none :=
  ⟨h.os, h.tape, h.output, h.size, fun k hk _ => h.kept k hk⟩

theorem Ext.below {ρ ρ' : Rho} {I' : Nat → Prop} {w w' : World} (h : Ext ρ (fun cb => cb < w.heap.size) w ρ' I' w') : Below w.heap.size w w' :=
  ⟨h.os, h.tape, h.output, h.size, fun k hk => h.kept k hk⟩

section
variable {P : Program} {sz n : Nat} {ops : Array Oper} {Q : Exit → Act → World → Prop}

theorem about_wide (f : FuncId) : Fence.wide.fn f := trivial

theorem uponIn_of_upon {o : Oper} {a : Act} {w : World} {K : Act → World → Prop} {v : Value} {w' : World} (h : (execOp a.eval o).run P w = .ok (.value v) w' ∨ ((execOp a.eval o).run P w = .ok .skip w' ∧ v = undef)) (hk : K (a.put o.dst v) w') (hd : ∀ c, o.op ≠ .defer c) :
    o.wpIn Fence.wide n P a w K Q := by
  refine ⟨fun _ _ => trivial, ?_⟩
  rw [Oper.semAt_eq _ _ _ hd]
  rcases h with h | ⟨h, rfl⟩
  · rw [h]; exact hk
  · rw [h]; exact hk

/-- One operation of a region, at the wide fence. -/
theorem listIn_step {o : Oper} {rest : List Oper} {ρ : Rho} {I : Nat → Prop} {env : Env} {H H' : Heap} {x : AV} {a : Act} {w : World} (hr : Rel ρ I H w.heap) (he : ERel sz ρ I w.heap env a) (hsz : dstsOk sz ops)
    (hw : awanted ops o env = some true) (hs : aop P o (aev env) H = some (x, H')) (hd : ∀ t, o.dst = some t → t < sz) (hnd : ∀ c, o.op ≠ .defer c)
    (k : ∀ a' w' ρ' I', Rel ρ' I' H' w'.heap → ERel sz ρ' I' w'.heap (env.upd o.dst x) a' → Ext ρ I w ρ' I' w' → wpListIn Fence.wide n P ops Q rest a' w') : wpListIn Fence.wide n P ops Q (o :: rest) a w := by
  simp only [wpListIn]
  rw [if_pos (awanted_run hw he hsz)]
  obtain ⟨v, w', ρ', hran, h2, h3, h4⟩ := aop_sound hr (cv := a.eval) he.eval hs
  have := k (a.put o.dst v) w' ρ' I h3 ((he.mono h4).put hd h2) h4
  rcases hran with h5 | h5
  · exact uponIn_of_upon (.inl h5) this hnd
  · exact uponIn_of_upon (.inr ⟨h5.1, h5.2⟩) this hnd

/-- A call of yield. -/
theorem listIn_yield {dst : Option Tmp} {f : Operand} {args : Array Operand} {tys : Array TypeId} {ty : TypeId} {pos : String} {after : Array Edge} {rest : List Oper} {l : Nat} {a : Act} {w : World} {R : Ending → World → Prop}
    (hf : a.eval f = .func (.yield l) #[] #[]) (hY : YieldAt Fence.wide (n - 1) P l (args.map a.eval) w R)
    (k : ∀ e w', R e w' → ∃ v, e = .returned v ∧ wpListIn Fence.wide n P ops Q rest (a.put dst v) w') : wpListIn Fence.wide n P ops Q ({ dst := dst, op := .call { callee := .value f, args := args, argTypes := tys }, type := ty, pos := pos, after := after, guard := none } :: rest) a w := by
  simp only [wpListIn]
  rw [if_pos (by simp [Region.wanted])]
  refine ⟨fun _ _ => trivial, ?_⟩
  rw [Oper.semAt_eq _ _ _ (by intro c hc; cases hc)]
  obtain ⟨fn, tmps, assign, body, hy, hR⟩ := hY
  have hrun : (execOp a.eval { dst := dst, op := .call { callee := .value f, args := args, argTypes := tys }, type := ty, pos := pos, after := after, guard := none }).run P w = .ok (.round l fn tmps assign body) w := by
    simp only [execOp, resolve, hf, Deferred.ofValue, Sem.run_bind, Sem.run_pure, Result.andThen_ok, invoke]
    simpa using hy
  rw [hrun]
  refine ⟨fun h => (by cases h), hR.mono ?_⟩
  intro e w' he
  obtain ⟨v, rfl, h⟩ := k e w' he
  exact h

end
end Go.Fl
