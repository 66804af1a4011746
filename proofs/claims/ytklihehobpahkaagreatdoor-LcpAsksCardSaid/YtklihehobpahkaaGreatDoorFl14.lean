/- Regions that draw their order: the text's order, and a look at what floats. -/
import Derived.Test.YtklihehobpahkaaGreatDoorFl13
set_option linter.unusedVariables false
set_option linter.unusedSimpArgs false
noncomputable section
namespace Go.Fl
open Go

/-- Its value hangs on its operands alone. -/
def isP (o : Oper) : Bool :=
  match o.op with
  | .move _ | .assign _ | .pick .. | .build .. | .nilCheck _ | .binOp .. | .unOp .. | .makeInterface .. | .makeFunc .. | .fieldAddr .. | .field .. | .indexAddr .. | .index .. | .extract .. => true
  | .call { callee := .builtin .len, .. } | .call { callee := .builtin .min, .. } | .call { callee := .builtin .max, .. } => true
  | _ => false

/-- It reads memory, and writes none. -/
def isL (o : Oper) : Bool :=
  match o.op with
  | .load .. | .slice .. => true
  | .convert _ dst _ => !bytesT dst
  | _ => false

def isC (o : Oper) : Bool := !isP o && !isL o

section
variable {P : Program}

theorem abuiltin_pure {b : Builtin} {argTypes : Array TypeId} {ty : TypeId} {args : List AV} {H H' : Heap} {x : AV} (hb : b = .len ∨ b = .min ∨ b = .max) (h : abuiltin P H b argTypes ty args = some (x, H')) :
    H' = H ∧ ∀ H2, abuiltin P H2 b argTypes ty args = some (x, H2) := by
  rcases hb with rfl | rfl | rfl
  · unfold abuiltin at h ⊢
    cases args with
    | nil => simp at h
    | cons a args =>
      cases args with
      | nil =>
        simp only at h ⊢
        cases hl : (argTypes[0]?).bind (fun t => alen P t a) with
        | some r =>
          simp only [hl, Option.some.injEq, Prod.mk.injEq] at h
          obtain ⟨rfl, rfl⟩ := h
          exact ⟨rfl, fun _ => by simp⟩
        | none =>
          simp only [hl] at h
          cases hc : conc a with
          | none => simp [hc] at h
          | some v =>
            simp only [hc, Option.bind_some, Option.map_eq_some_iff, Prod.mk.injEq] at h
            obtain ⟨u, h1, rfl, rfl⟩ := h
            exact ⟨rfl, fun _ => by simp [h1]⟩
      | cons _ _ => simp at h
  · simp only [abuiltin] at h ⊢
    cases hc : concs args with
    | none => simp [hc] at h
    | some v =>
      simp only [hc, Option.bind_some, Option.map_eq_some_iff, Prod.mk.injEq] at h
      obtain ⟨u, h1, rfl, rfl⟩ := h
      exact ⟨rfl, fun _ => by simp [h1]⟩
  · simp only [abuiltin] at h ⊢
    cases hc : concs args with
    | none => simp [hc] at h
    | some v =>
      simp only [hc, Option.bind_some, Option.map_eq_some_iff, Prod.mk.injEq] at h
      obtain ⟨u, h1, rfl, rfl⟩ := h
      exact ⟨rfl, fun _ => by simp [h1]⟩

theorem aop_pure {o : Oper} {ev : Operand → AV} {H H' : Heap} {x : AV} (hp : isP o = true) (h : aop P o ev H = some (x, H')) : H' = H ∧ ∀ H2, aop P o ev H2 = some (x, H2) := by
  obtain ⟨dst, op, type, pos, after, guard⟩ := o
  cases op <;> simp only [isP] at hp <;> try (cases hp; done)
  case call c =>
    obtain ⟨callee, args, argTypes⟩ := c
    cases callee <;> try (cases hp; done)
    rename_i b
    cases b <;> try (cases hp; done)
    all_goals
      simp only [aop] at h ⊢
      exact abuiltin_pure (by simp) h
  case pick =>
    simp only [aop] at h ⊢
    split at h
    · simp only [Option.some.injEq, Prod.mk.injEq] at h; obtain ⟨rfl, rfl⟩ := h; exact ⟨rfl, fun _ => rfl⟩
    · cases h
  case nilCheck =>
    simp only [aop] at h ⊢
    split at h
    · simp only [Option.some.injEq, Prod.mk.injEq] at h; obtain ⟨rfl, rfl⟩ := h; exact ⟨rfl, fun _ => rfl⟩
    · simp only [Option.some.injEq, Prod.mk.injEq] at h; obtain ⟨rfl, rfl⟩ := h; exact ⟨rfl, fun _ => rfl⟩
    · simp only [Option.some.injEq, Prod.mk.injEq] at h; obtain ⟨rfl, rfl⟩ := h; exact ⟨rfl, fun _ => rfl⟩
    · simp only [Option.some.injEq, Prod.mk.injEq] at h; obtain ⟨rfl, rfl⟩ := h; exact ⟨rfl, fun _ => rfl⟩
    · cases h
  case makeInterface t y =>
    simp only [aop] at h ⊢
    split at h
    · cases h
    · simp only [Option.some.injEq, Prod.mk.injEq] at h; obtain ⟨rfl, rfl⟩ := h; exact ⟨rfl, fun _ => rfl⟩
    · cases h
  case extract =>
    simp only [aop] at h ⊢
    split at h
    · simp only [Option.map_eq_some_iff, Prod.mk.injEq] at h; obtain ⟨r, h1, rfl, rfl⟩ := h; exact ⟨rfl, fun _ => by simp [h1]⟩
    · cases h
  case move => simp only [aop, Option.some.injEq, Prod.mk.injEq] at h; obtain ⟨rfl, rfl⟩ := h; exact ⟨rfl, fun _ => rfl⟩
  case assign => simp only [aop, Option.some.injEq, Prod.mk.injEq] at h; obtain ⟨rfl, rfl⟩ := h; exact ⟨rfl, fun _ => rfl⟩
  case makeFunc => simp only [aop, Option.some.injEq, Prod.mk.injEq] at h; obtain ⟨rfl, rfl⟩ := h; exact ⟨rfl, fun _ => rfl⟩
  all_goals
    simp only [aop, Option.map_eq_some_iff, Prod.mk.injEq] at h
    obtain ⟨r, h1, rfl, rfl⟩ := h
    exact ⟨rfl, fun _ => by simp [aop, h1]⟩

theorem aop_reads {o : Oper} {ev : Operand → AV} {H H' : Heap} {x : AV} (hl : isL o = true) (h : aop P o ev H = some (x, H')) : H' = H := by
  obtain ⟨dst, op, type, pos, after, guard⟩ := o
  cases op <;> simp only [isL] at hl <;> try (cases hl; done)
  case convert src dst y =>
    simp only [Bool.not_eq_true'] at hl
    simp only [aop, hl] at h
    split at h
    · simp only [Option.some.injEq, Prod.mk.injEq] at h; exact h.2.symm
    · simp only [Option.map_eq_some_iff, Prod.mk.injEq] at h; obtain ⟨r, _, _, rfl⟩ := h; rfl
  all_goals
    simp only [aop, Option.map_eq_some_iff, Prod.mk.injEq] at h
    obtain ⟨r, _, _, rfl⟩ := h
    rfl

/-- What an operation does hangs on its operands alone. -/
theorem aop_congr {o : Oper} {ev ev' : Operand → AV} (h : ∀ y ∈ o.op.operands, ev y = ev' y) (H : Heap) : aop P o ev H = aop P o ev' H := by
  obtain ⟨dst, op, type, pos, after, guard⟩ := o
  have pairs : ∀ ps : Array (Nat × Operand), (∀ x ∈ ps.map (·.2), ev x = ev' x) → (ps.toList.map fun p => (p.1, ev p.2)) = (ps.toList.map fun p => (p.1, ev' p.2)) := fun ps hp =>
    List.map_congr_left fun p hm => by
      obtain ⟨i, x⟩ := p
      simp only [hp x (Array.mem_map.2 ⟨(i, x), by simpa using hm, rfl⟩)]
  have maps : ∀ xs : Array Operand, (∀ x ∈ xs, ev x = ev' x) → xs.toList.map ev = xs.toList.map ev' := fun xs hx => List.map_congr_left fun x hm => hx x (by simpa using hm)
  cases op <;> simp only [Op.operands] at h <;> simp only [aop]
  case build t ps => rw [pairs ps fun x hx => h x (by simpa using hx)]
  case buildSlice t n ps => rw [pairs ps fun x hx => h x (by simpa using hx)]
  case makeFunc fn first captured =>
    rw [maps first fun x hx => h x (by simp [hx]), maps captured fun x hx => h x (by simp [hx])]
  case slice t x lo hi mx =>
    have h1 : ev x = ev' x := h x (by simp)
    have h2 : lo.map ev = lo.map ev' := by cases lo with | none => rfl | some y => simp [h y (by simp)]
    have h3 : hi.map ev = hi.map ev' := by cases hi with | none => rfl | some y => simp [h y (by simp)]
    have h4 : mx.map ev = mx.map ev' := by cases mx with | none => rfl | some y => simp [h y (by simp)]
    rw [h1, h2, h3, h4]
  case call c =>
    obtain ⟨callee, args, argTypes⟩ := c
    cases callee <;> simp only
    rename_i b
    rw [maps args fun x hx => h x (by simp [Call.operands, hx])]
  case move x => rw [h x (by simp)]
  case assign x => rw [h x (by simp)]
  case pick c a b => rw [h c (by simp), h a (by simp), h b (by simp)]
  case box t x => rw [h x (by simp)]
  case load t x => rw [h x (by simp)]
  case store t a b => rw [h a (by simp), h b (by simp)]
  case nilCheck x => rw [h x (by simp)]
  case binOp op t a b u => rw [h a (by simp), h b (by simp)]
  case unOp op t x => rw [h x (by simp)]
  case convert t u x => rw [h x (by simp)]
  case makeInterface t x => rw [h x (by simp)]
  case makeSlice t a b => rw [h a (by simp), h b (by simp)]
  case fieldAddr t x f => rw [h x (by simp)]
  case field t x f => rw [h x (by simp)]
  case indexAddr t a b => rw [h a (by simp), h b (by simp)]
  case index t a b => rw [h a (by simp), h b (by simp)]
  case extract x i => rw [h x (by simp)]

end
end Go.Fl
