/- Regions that draw their order: the text's order, and a look at what floats. -/
import Derived.Test.YtfmpakmigmehkaaGreatDoorFl12
set_option linter.unusedVariables false
set_option linter.unusedSimpArgs false
noncomputable section Fl14S
namespace Go.Fl
open Go

/-- Its value hangs on its operands alone. -/
def isP (o : Oper) : Bool :=
  match o.op with
  | .move _ | .assign _ | .pick .. | .build .. | .nilCheck _ | .binOp .. | .unOp .. | .makeInterface .. | .makeFunc .. | .fieldAddr .. | .field .. | .indexAddr .. | .index .. | .extract .. => true
  | .call { callee := .builtin .len, .. } | .call { callee := .builtin .min, .. } | .call { callee := .builtin .max, .. } => true
  | .convert _ dst _ => bytesT dst && keepD o.dst
  | _ => false

/-- It reads memory, and writes none. -/
def isL (o : Oper) : Bool :=
  match o.op with
  | .load .. | .slice .. => true
  | .convert _ dst _ => !bytesT dst
  | _ => false

def isC (o : Oper) : Bool := !isP o && !isL o

section
variable {P : Program}

theorem abuiltin_pure {b : Builtin} {argTypes : Array TypeId} {ty : TypeId} {args : List AV} {H H' : Heap} {x : AV} (hb : b = .len ∨ b = .min ∨ b = .max) (h : abuiltin P H b argTypes ty args = some (x, H')) :
    H' = H ∧ ∀ H2, abuiltin P H2 b argTypes ty args = some (x, H2) := by
  rcases hb with rfl | rfl | rfl
  · unfold abuiltin at h ⊢
    cases args with
    | nil => simp at h
    | cons a args =>
      cases args with
      | nil =>
        simp only at h ⊢
        cases hl : (argTypes[0]?).bind (fun t => alen P t a) with
        | some r =>
          simp only [hl, Option.some.injEq, Prod.mk.injEq] at h
          obtain ⟨rfl, rfl⟩ := h
          exact ⟨rfl, fun _ => by simp⟩
        | none =>
          simp only [hl] at h
          cases hc : conc a with
          | none => simp [hc] at h
          | some v =>
            simp only [hc, Option.bind_some, Option.map_eq_some_iff, Prod.mk.injEq] at h
            obtain ⟨u, h1, rfl, rfl⟩ := h
            exact ⟨rfl, fun _ => by simp [h1]⟩
      | cons _ _ => simp at h
  · simp only [abuiltin] at h ⊢
    cases hc : concs args with
    | none => simp [hc] at h
    | some v =>
      simp only [hc, Option.bind_some, Option.map_eq_some_iff, Prod.mk.injEq] at h
      obtain ⟨u, h1, rfl, rfl⟩ := h
      exact ⟨rfl, fun _ => by simp [h1]⟩
  · simp only [abuiltin] at h ⊢
    cases hc : concs args with
    | none => simp [hc] at h
    | some v =>
      simp only [hc, Option.bind_some, Option.map_eq_some_iff, Prod.mk.injEq] at h
      obtain ⟨u, h1, rfl, rfl⟩ := h
      exact ⟨rfl, fun _ => by simp [h1]⟩

theorem aop_pure {o : Oper} {ev : Operand → AV} {H H' : Heap} {x : AV} (hp : isP o = true) (h : aop P o ev H = some (x, H')) : H' = H ∧ ∀ H2, aop P o ev H2 = some (x, H2) := by
  obtain ⟨dst, op, type, pos, after, guard⟩ := o
  cases op <;> simp only [isP] at hp <;> try (cases hp; done)
  case call c =>
    obtain ⟨callee, args, argTypes⟩ := c
    cases callee <;> try (cases hp; done)
    rename_i b
    cases b <;> try (cases hp; done)
    all_goals
      simp only [aop] at h ⊢
      exact abuiltin_pure (by simp) h
  case convert src dst y =>
    simp only [Bool.and_eq_true] at hp
    simp only [aop, hp.1, hp.2, Option.map_eq_some_iff, Prod.mk.injEq] at h ⊢
    obtain ⟨r, h1, rfl, rfl⟩ := h
    exact ⟨rfl, fun _ => by simp [h1]⟩
  case pick =>
    simp only [aop] at h ⊢
    split at h
    · simp only [Option.some.injEq, Prod.mk.injEq] at h; obtain ⟨rfl, rfl⟩ := h; exact ⟨rfl, fun _ => rfl⟩
    · cases h
  case nilCheck =>
    simp only [aop] at h ⊢
    split at h
    · simp only [Option.some.injEq, Prod.mk.injEq] at h; obtain ⟨rfl, rfl⟩ := h; exact ⟨rfl, fun _ => rfl⟩
    · simp only [Option.some.injEq, Prod.mk.injEq] at h; obtain ⟨rfl, rfl⟩ := h; exact ⟨rfl, fun _ => rfl⟩
    · simp only [Option.some.injEq, Prod.mk.injEq] at h; obtain ⟨rfl, rfl⟩ := h; exact ⟨rfl, fun _ => rfl⟩
    · simp only [Option.some.injEq, Prod.mk.injEq] at h; obtain ⟨rfl, rfl⟩ := h; exact ⟨rfl, fun _ => rfl⟩
    · cases h
  case makeInterface t y =>
    simp only [aop] at h ⊢
    split at h
    · cases h
    · simp only [Option.some.injEq, Prod.mk.injEq] at h; obtain ⟨rfl, rfl⟩ := h; exact ⟨rfl, fun _ => rfl⟩
    · cases h
  case extract =>
    simp only [aop] at h ⊢
    split at h
    · simp only [Option.map_eq_some_iff, Prod.mk.injEq] at h; obtain ⟨r, h1, rfl, rfl⟩ := h; exact ⟨rfl, fun _ => by simp [h1]⟩
    · cases h
  case move => simp only [aop, Option.some.injEq, Prod.mk.injEq] at h; obtain ⟨rfl, rfl⟩ := h; exact ⟨rfl, fun _ => rfl⟩
  case assign => simp only [aop, Option.some.injEq, Prod.mk.injEq] at h; obtain ⟨rfl, rfl⟩ := h; exact ⟨rfl, fun _ => rfl⟩
  case makeFunc => simp only [aop, Option.some.injEq, Prod.mk.injEq] at h; obtain ⟨rfl, rfl⟩ := h; exact ⟨rfl, fun _ => rfl⟩
  all_goals
    simp only [aop, Option.map_eq_some_iff, Prod.mk.injEq] at h
    obtain ⟨r, h1, rfl, rfl⟩ := h
    exact ⟨rfl, fun _ => by simp [aop, h1]⟩

theorem aop_reads {o : Oper} {ev : Operand → AV} {H H' : Heap} {x : AV} (hl : isL o = true) (h : aop P o ev H = some (x, H')) : H' = H := by
  obtain ⟨dst, op, type, pos, after, guard⟩ := o
  cases op <;> simp only [isL] at hl <;> try (cases hl; done)
  case convert src dst y =>
    simp only [Bool.not_eq_true'] at hl
    simp only [aop, hl] at h
    split at h
    · simp only [Option.some.injEq, Prod.mk.injEq] at h; exact h.2.symm
    · simp only [Option.map_eq_some_iff, Prod.mk.injEq] at h; obtain ⟨r, _, _, rfl⟩ := h; rfl
  all_goals
    simp only [aop, Option.map_eq_some_iff, Prod.mk.injEq] at h
    obtain ⟨r, _, _, rfl⟩ := h
    rfl

/-- What an operation does hangs on its operands alone. -/
theorem aop_congr {o : Oper} {ev ev' : Operand → AV} (h : ∀ y ∈ o.op.operands, ev y = ev' y) (H : Heap) : aop P o ev H = aop P o ev' H := by
  obtain ⟨dst, op, type, pos, after, guard⟩ := o
  have pairs : ∀ ps : Array (Nat × Operand), (∀ x ∈ ps.map (·.2), ev x = ev' x) → (ps.toList.map fun p => (p.1, ev p.2)) = (ps.toList.map fun p => (p.1, ev' p.2)) := fun ps hp =>
    List.map_congr_left fun p hm => by
      obtain ⟨i, x⟩ := p
      simp only [hp x (Array.mem_map.2 ⟨(i, x), by simpa using hm, rfl⟩)]
  have maps : ∀ xs : Array Operand, (∀ x ∈ xs, ev x = ev' x) → xs.toList.map ev = xs.toList.map ev' := fun xs hx => List.map_congr_left fun x hm => hx x (by simpa using hm)
  cases op <;> simp only [Op.operands] at h <;> simp only [aop]
  case build t ps => rw [pairs ps fun x hx => h x (by simpa using hx)]
  case buildSlice t n ps => rw [pairs ps fun x hx => h x (by simpa using hx)]
  case makeFunc fn first captured =>
    rw [maps first fun x hx => h x (by simp [hx]), maps captured fun x hx => h x (by simp [hx])]
  case slice t x lo hi mx =>
    have h1 : ev x = ev' x := h x (by simp)
    have h2 : lo.map ev = lo.map ev' := by cases lo with | none => rfl | some y => simp [h y (by simp)]
    have h3 : hi.map ev = hi.map ev' := by cases hi with | none => rfl | some y => simp [h y (by simp)]
    have h4 : mx.map ev = mx.map ev' := by cases mx with | none => rfl | some y => simp [h y (by simp)]
    rw [h1, h2, h3, h4]
  case call c =>
    obtain ⟨callee, args, argTypes⟩ := c
    cases callee <;> simp only
    rename_i b
    rw [maps args fun x hx => h x (by simp [Call.operands, hx])]
  case move x => rw [h x (by simp)]
  case assign x => rw [h x (by simp)]
  case pick c a b => rw [h c (by simp), h a (by simp), h b (by simp)]
  case box t x => rw [h x (by simp)]
  case load t x => rw [h x (by simp)]
  case store t a b => rw [h a (by simp), h b (by simp)]
  case nilCheck x => rw [h x (by simp)]
  case binOp op t a b u => rw [h a (by simp), h b (by simp)]
  case unOp op t x => rw [h x (by simp)]
  case convert t u x => rw [h x (by simp)]
  case makeInterface t x => rw [h x (by simp)]
  case makeSlice t a b => rw [h a (by simp), h b (by simp)]
  case fieldAddr t x f => rw [h x (by simp)]
  case field t x f => rw [h x (by simp)]
  case indexAddr t a b => rw [h a (by simp), h b (by simp)]
  case index t a b => rw [h a (by simp), h b (by simp)]
  case extract x i => rw [h x (by simp)]

end
end Go.Fl
end Fl14S

noncomputable section Fl15S
namespace Go.Fl
open Go

/-- i comes before j, whatever is drawn. -/
def bef (ops : Array Oper) (i j : Nat) : Bool := ((Region.before ops).getD j 0).testBit i

theorem edges_fold (acc : Array Nat) (j : Nat) : ∀ (l : List Edge) (s : Nat),
    (l.foldl (fun s e => if Region.binds .any e then s ||| 2 ^ e.on ||| acc.getD e.on 0 else s) s).testBit j = true → s.testBit j = true ∨ ∃ e ∈ l, Region.binds .any e = true ∧ (e.on = j ∨ (acc.getD e.on 0).testBit j = true)
  | [], s, h => .inl h
  | e :: l, s, h => by
    simp only [List.foldl_cons] at h
    rcases edges_fold acc j l _ h with h1 | ⟨e', h1, h2⟩
    · split at h1
      · rename_i hb
        simp only [Nat.testBit_or, Bool.or_eq_true] at h1
        rcases h1 with (h1 | h1) | h1
        · exact .inl h1
        · refine .inr ⟨e, by simp, hb, .inl ?_⟩
          rw [Nat.testBit_two_pow] at h1
          simpa using h1
        · exact .inr ⟨e, by simp, hb, .inr h1⟩
      · exact .inl h1
    · exact .inr ⟨e', by simp [h1], h2⟩

def befStep (acc : Array Nat) (o : Oper) : Array Nat :=
  acc.push (o.after.foldl (fun s e => if Region.binds .any e then s ||| 2 ^ e.on ||| acc.getD e.on 0 else s) 0)

theorem before_eq (ops : Array Oper) : Region.before ops = ops.toList.foldl befStep #[] := by
  unfold Region.before
  rw [← Array.foldl_toList]
  rfl

theorem befs_size : ∀ (l : List Oper) (acc : Array Nat), (l.foldl befStep acc).size = acc.size + l.length
  | [], acc => by simp
  | o :: l, acc => by simp only [List.foldl_cons]; rw [befs_size l]; simp [befStep]; omega

theorem befs_keep : ∀ (l : List Oper) (acc : Array Nat) (k : Nat), k < acc.size → (l.foldl befStep acc).getD k 0 = acc.getD k 0
  | [], acc, k, _ => rfl
  | o :: l, acc, k, h => by
    simp only [List.foldl_cons]
    rw [befs_keep l _ k (by simp [befStep]; omega)]
    simp only [befStep, Array.getD_eq_getD_getElem?]
    rw [Array.getElem?_push_lt (by omega)]
    simp [h]

theorem befs_spec : ∀ (l : List Oper) (acc : Array Nat) (i : Nat) (o : Oper) (j : Nat), l[i]? = some o → ((l.foldl befStep acc).getD (acc.size + i) 0).testBit j = true →
    ∃ e ∈ o.after, Region.binds .any e = true ∧ (e.on = j ∨ (e.on < acc.size + i ∧ ((l.foldl befStep acc).getD e.on 0).testBit j = true))
  | [], acc, i, o, j, h, _ => by simp at h
  | p :: l, acc, 0, o, j, h, ht => by
    simp only [List.getElem?_cons_zero, Option.some.injEq] at h
    subst h
    simp only [List.foldl_cons, Nat.add_zero] at ht ⊢
    rw [befs_keep l _ acc.size (by simp [befStep])] at ht
    have e1 : (befStep acc p).getD acc.size 0 = p.after.foldl (fun s e => if Region.binds .any e then s ||| 2 ^ e.on ||| acc.getD e.on 0 else s) 0 := by
      simp [befStep, Array.getD_eq_getD_getElem?]
    rw [e1, ← Array.foldl_toList] at ht
    rcases edges_fold acc j _ _ ht with h1 | ⟨e, h1, h2, h3⟩
    · simp at h1
    · refine ⟨e, by simpa using h1, h2, ?_⟩
      rcases h3 with h3 | h3
      · exact .inl h3
      · have hlt : e.on < acc.size := by
          rcases Nat.lt_or_ge e.on acc.size with h4 | h4
          · exact h4
          · rw [Array.getD_eq_getD_getElem?, Array.getElem?_eq_none h4] at h3; simp at h3
        refine .inr ⟨hlt, ?_⟩
        rw [befs_keep l _ _ (by simp [befStep]; omega)]
        have : (befStep acc p).getD e.on 0 = acc.getD e.on 0 := by
          simp only [befStep, Array.getD_eq_getD_getElem?]
          rw [Array.getElem?_push_lt hlt]
          simp [hlt]
        rw [this]; exact h3
  | p :: l, acc, i + 1, o, j, h, ht => by
    simp only [List.getElem?_cons_succ] at h
    simp only [List.foldl_cons] at ht ⊢
    have hsz : (befStep acc p).size = acc.size + 1 := by simp [befStep]
    have := befs_spec l (befStep acc p) i o j h (by rw [hsz]; rw [show acc.size + 1 + i = acc.size + (i + 1) by omega]; exact ht)
    rw [hsz, show acc.size + 1 + i = acc.size + (i + 1) by omega] at this
    exact this

theorem bef_spec {ops : Array Oper} {i j : Nat} {o : Oper} (ho : ops[j]? = some o) (h : bef ops i j = true) : ∃ e ∈ o.after, Region.binds .any e = true ∧ (e.on = i ∨ (e.on < j ∧ bef ops i e.on = true)) := by
  unfold bef at *
  rw [before_eq] at *
  have := befs_spec ops.toList #[] j o i (by rw [Array.getElem?_toList]; exact ho) (by simpa using h)
  simpa using this

/-- What floats floats freely: asked of the text alone. -/
def drawOk (sz : Nat) (ops : Array Oper) : Bool :=
  dstsB sz ops && (List.range ops.size).all fun j => match ops[j]? with
    | none => true
    | some q => (q.after.all fun e => !Region.binds .any e || decide (e.on < j)) && (List.range j).all fun i => match ops[i]? with
      | none => true
      | some p => (p.dst.isNone || p.dst != q.dst) && (((q.looksAt ops).all fun t => p.dst != some t) || bef ops i j) && (((p.looksAt ops).all fun t => q.dst != some t) || bef ops i j) && (!isC p || !isC q || bef ops i j)

structure DOk (sz : Nat) (ops : Array Oper) : Prop where
  dsts : dstsOk sz ops
  acyc : ∀ (j : Nat) (q : Oper), ops[j]? = some q → ∀ e ∈ q.after, Region.binds .any e = true → e.on < j
  apart : ∀ (i j : Nat) (p q : Oper), i < j → ops[i]? = some p → ops[j]? = some q → ∀ t, p.dst = some t → q.dst ≠ some t
  down : ∀ (i j : Nat) (p q : Oper), i < j → ops[i]? = some p → ops[j]? = some q → ∀ t, p.dst = some t → t ∈ q.looksAt ops → bef ops i j = true
  up : ∀ (i j : Nat) (p q : Oper), i < j → ops[i]? = some p → ops[j]? = some q → ∀ t, q.dst = some t → t ∈ p.looksAt ops → bef ops i j = true
  chain : ∀ (i j : Nat) (p q : Oper), i < j → ops[i]? = some p → ops[j]? = some q → isC p = true → isC q = true → bef ops i j = true

theorem drawOk_spec {sz : Nat} {ops : Array Oper} (h : drawOk sz ops = true) : DOk sz ops := by
  unfold drawOk at h
  simp only [Bool.and_eq_true] at h
  obtain ⟨h1, h2⟩ := h
  have key : ∀ (i j : Nat) (p q : Oper), i < j → ops[i]? = some p → ops[j]? = some q →
      ((p.dst.isNone || p.dst != q.dst) && (((q.looksAt ops).all fun t => p.dst != some t) || bef ops i j) && (((p.looksAt ops).all fun t => q.dst != some t) || bef ops i j) && (!isC p || !isC q || bef ops i j)) = true := by
    intro i j p q hij hp hq
    have hj := (Array.getElem?_eq_some_iff.1 hq).1
    have h3 := List.all_eq_true.1 h2 j (by simp [hj])
    rw [hq] at h3
    simp only [Bool.and_eq_true] at h3
    have h4 := List.all_eq_true.1 h3.2 i (by simp [hij])
    rw [hp] at h4
    simpa only [Bool.and_eq_true] using h4
  refine ⟨dstsB_ok h1, ?_, ?_, ?_, ?_, ?_⟩
  · intro j q hq e he hb
    have hj := (Array.getElem?_eq_some_iff.1 hq).1
    have h3 := List.all_eq_true.1 h2 j (by simp [hj])
    rw [hq] at h3
    simp only [Bool.and_eq_true] at h3
    have h4 := Array.all_eq_true'.1 h3.1 e he
    simpa [hb] using h4
  · intro i j p q hij hp hq t h3 h4
    have := key i j p q hij hp hq
    simp [h3, h4] at this
  · intro i j p q hij hp hq t h3 h4
    have := key i j p q hij hp hq
    simp only [Bool.and_eq_true, Bool.or_eq_true] at this
    rcases this.1.1.2 with h5 | h5
    · have := List.all_eq_true.1 h5 t h4
      simp [h3] at this
    · exact h5
  · intro i j p q hij hp hq t h3 h4
    have := key i j p q hij hp hq
    simp only [Bool.and_eq_true, Bool.or_eq_true] at this
    rcases this.1.2 with h5 | h5
    · have := List.all_eq_true.1 h5 t h4
      simp [h3] at this
    · exact h5
  · intro i j p q hij hp hq h3 h4
    have := key i j p q hij hp hq
    simp only [Bool.and_eq_true, Bool.or_eq_true, h3, h4] at this
    simpa using this.2

def dstAt (ops : Array Oper) (i : Nat) : Option Tmp := (ops[i]?).bind (·.dst)

/-- The frame ahead of the i-th operation, in the text's order. -/
def envAt (ops : Array Oper) (env0 : Env) (val : Nat → AV) : Nat → Env
  | 0 => env0
  | i + 1 => (envAt ops env0 val i).upd (dstAt ops i) (val i)

theorem envAt_none {ops : Array Oper} {env0 : Env} {val : Nat → AV} {t : Tmp} : ∀ (i : Nat), (∀ k, k < i → dstAt ops k ≠ some t) → envAt ops env0 val i t = env0 t
  | 0, _ => rfl
  | i + 1, h => by
    simp only [envAt, Env.upd]
    rw [if_neg (h i (by omega))]
    exact envAt_none i (fun k hk => h k (by omega))

theorem envAt_some {ops : Array Oper} {env0 : Env} {val : Nat → AV} {t : Tmp} {k : Nat} (hk : dstAt ops k = some t) : ∀ (i : Nat), k < i → (∀ m, k < m → m < i → dstAt ops m ≠ some t) → envAt ops env0 val i t = val k
  | 0, h, _ => by omega
  | i + 1, h, hno => by
    simp only [envAt, Env.upd]
    by_cases e : i = k
    · subst e; rw [if_pos hk]
    · rw [if_neg (hno i (by omega) (by omega))]
      exact envAt_some hk i (by omega) (fun m h1 h2 => hno m h1 (by omega))

theorem dstAt_some {ops : Array Oper} {i : Nat} {t : Tmp} (h : dstAt ops i = some t) : ∃ o, ops[i]? = some o ∧ o.dst = some t := by
  unfold dstAt at h
  cases ho : ops[i]? with
  | none => simp [ho] at h
  | some o => simp [ho] at h; exact ⟨o, rfl, h⟩

/-- The text's order, carried out: values, heaps. -/
structure Trace (P : Program) (ops : Array Oper) (env0 : Env) (val : Nat → AV) (hp : Nat → Heap) : Prop where
  step : ∀ (i : Nat) (o : Oper), ops[i]? = some o → (awanted ops o (envAt ops env0 val i) = some false ∧ val i = .undef ∧ hp (i + 1) = hp i) ∨
    (awanted ops o (envAt ops env0 val i) = some true ∧ StepTo P o (envAt ops env0 val i) (hp i) (val i) (hp (i + 1)))
  early : ∀ (y c : Nat) (q p : Oper), ops[y]? = some q → ops[c]? = some p → isL q = true → isC p = true → awanted ops q (envAt ops env0 val y) = some true → awanted ops p (envAt ops env0 val c) = some true →
    c < y → bef ops c y = false → aop P q (aev (envAt ops env0 val y)) (hp c) = some (val y, hp c)
  late : ∀ (y c : Nat) (q p : Oper), ops[y]? = some q → ops[c]? = some p → isL q = true → isC p = true → awanted ops q (envAt ops env0 val y) = some true → awanted ops p (envAt ops env0 val c) = some true →
    y < c → bef ops y c = false → aop P q (aev (envAt ops env0 val y)) (hp (c + 1)) = some (val y, hp (c + 1))

end Go.Fl
end Fl15S

noncomputable section Fl16S
namespace Go.Fl
open Go

theorem StepTo_aop {P : Program} {o : Oper} {env : Env} {H H' : Heap} {x : AV} (hc : isC o = false) (h : StepTo P o env H x H') : aop P o (aev env) H = some (x, H') := by
  obtain ⟨dst, op, type, pos, after, guard⟩ := o
  unfold StepTo at h
  split at h
  · rename_i f args argTypes hop
    simp only at hop
    subst hop
    simp [isC, isP, isL] at hc
  · exact h

theorem aop_StepTo {P : Program} {o : Oper} {env : Env} {H H' : Heap} {x : AV} (hc : isC o = false) (h : aop P o (aev env) H = some (x, H')) : StepTo P o env H x H' := by
  obtain ⟨dst, op, type, pos, after, guard⟩ := o
  unfold StepTo
  split
  · rename_i f args argTypes hop
    simp only at hop
    subst hop
    simp [isC, isP, isL] at hc
  · exact h

theorem looksAt_operand {ops : Array Oper} {o : Oper} {t : Tmp} (h : Operand.tmp t ∈ o.op.operands) : t ∈ o.looksAt ops := by
  unfold Oper.looksAt
  refine List.mem_append.2 (.inl ?_)
  exact List.mem_filterMap.2 ⟨.tmp t, by simpa using h, rfl⟩

theorem aev_congr {ops : Array Oper} {o : Oper} {env env' : Env} (h : ∀ t ∈ o.looksAt ops, env t = env' t) : ∀ y ∈ o.op.operands, aev env y = aev env' y := by
  intro y hy
  cases y with
  | tmp t => exact h t (looksAt_operand hy)
  | const v => rfl
  | global g => rfl
  | func f => rfl

theorem StepTo_congr {P : Program} {ops : Array Oper} {o : Oper} {env env' : Env} {H H' : Heap} {x : AV} (h : ∀ t ∈ o.looksAt ops, env t = env' t) (hs : StepTo P o env H x H') : StepTo P o env' H x H' := by
  have hc := aev_congr h
  obtain ⟨dst, op, type, pos, after, guard⟩ := o
  unfold StepTo at *
  cases op
  case call c =>
    obtain ⟨callee, args, argTypes⟩ := c
    cases callee
    case value f =>
      simp only at hs ⊢
      obtain ⟨k, first, captured, h1, h2⟩ := hs
      have hf : aev env f = aev env' f := hc f (by simp [Op.operands, Call.operands])
      have ha : args.toList.map (aev env) = args.toList.map (aev env') := List.map_congr_left fun y hy => hc y (by simp [Op.operands, Call.operands]; right; simpa using hy)
      exact ⟨k, first, captured, by rw [← hf]; exact h1, by rw [← ha]; exact h2⟩
    all_goals (simp only at hs ⊢; rw [← aop_congr hc]; exact hs)
  all_goals (simp only at hs ⊢; rw [← aop_congr hc]; exact hs)

theorem awanted_congr {ops : Array Oper} {o : Oper} {env env' : Env} (h : ∀ t ∈ o.looksAt ops, env t = env' t) : awanted ops o env = awanted ops o env' := by
  unfold awanted
  cases hg : o.guard with
  | none => rfl
  | some q =>
    obtain ⟨j, want⟩ := q
    simp only
    cases hd : (ops[j]?).bind (·.dst) with
    | none => rfl
    | some d =>
      have : d ∈ o.looksAt ops := by
        unfold Oper.looksAt
        refine List.mem_append.2 (.inr ?_)
        simp [hg, hd]
      simp only [h d this]

section
variable {P : Program} {sz : Nat} {ops : Array Oper} {env0 : Env} {val : Nat → AV} {hp : Nat → Heap}

def ChainAt (ops : Array Oper) (env0 : Env) (val : Nat → AV) (i : Nat) : Prop := ∃ o, ops[i]? = some o ∧ isC o = true ∧ awanted ops o (envAt ops env0 val i) = some true

theorem Trace.const (T : Trace P ops env0 val hp) {i : Nat} : ∀ (d : Nat), i + d ≤ ops.size → (∀ k, i ≤ k → k < i + d → ¬ ChainAt ops env0 val k) → hp (i + d) = hp i
  | 0, _, _ => rfl
  | d + 1, hle, hno => by
    have ih := T.const d (by omega) (fun k h1 h2 => hno k h1 (by omega))
    have hlt : i + d < ops.size := by omega
    have ho := Array.getElem?_eq_getElem hlt
    rcases T.step (i + d) _ ho with ⟨_, _, h3⟩ | ⟨h1, h2⟩
    · rw [show i + (d + 1) = i + d + 1 by omega, h3, ih]
    · have hnc : isC ops[i + d] = false := by
        cases hc : isC ops[i + d] with
        | false => rfl
        | true => exact absurd ⟨_, ho, hc, h1⟩ (hno (i + d) (by omega) (by omega))
      have h3 := StepTo_aop hnc h2
      have h4 : hp (i + d + 1) = hp (i + d) := by
        cases hP : isP ops[i + d] with
        | true => exact (aop_pure hP h3).1
        | false =>
          cases hL : isL ops[i + d] with
          | true => exact aop_reads hL h3
          | false => simp [isC, hP, hL] at hnc
      rw [show i + (d + 1) = i + d + 1 by omega, h4, ih]

theorem Trace.const' (T : Trace P ops env0 val hp) {i j : Nat} (hij : i ≤ j) (hj : j ≤ ops.size) (hno : ∀ k, i ≤ k → k < j → ¬ ChainAt ops env0 val k) : hp j = hp i := by
  have := T.const (i := i) (j - i) (by omega) (fun k h1 h2 => hno k h1 (by omega))
  rwa [show i + (j - i) = j by omega] at this

/-- What holds when the operations in D have been carried out, in whatever order. -/
structure Inv (P : Program) (sz : Nat) (ops : Array Oper) (env0 : Env) (val : Nat → AV) (hp : Nat → Heap) (ρ0 : Rho) (I0 : Nat → Prop) (w0 : World) (D : Nat → Prop) (ρ : Rho) (I : Nat → Prop) (c : Nat) (a : Act) (w : World) : Prop where
  rel : Rel ρ I (hp c) w.heap
  ext : Ext ρ0 I0 w0 ρ I w
  size : a.tmps.size = sz
  defers : a.defers = []
  le : c ≤ ops.size
  done : ∀ i, ChainAt ops env0 val i → i < c → D i
  todo : ∀ i, ChainAt ops env0 val i → D i → i < c
  slots : ∀ t, (∃ i, D i ∧ dstAt ops i = some t ∧ VR ρ I w.heap (val i) (a.tmps.getD t Go.undef)) ∨ ((∀ i, D i → dstAt ops i ≠ some t) ∧ VR ρ I w.heap (env0 t) (a.tmps.getD t Go.undef))

/-- Down-closed under edges. -/
def Closed (ops : Array Oper) (D : Nat → Prop) : Prop := ∀ i o, D i → ops[i]? = some o → ∀ e ∈ o.after, Region.binds .any e = true → D e.on

theorem Closed.bef {D : Nat → Prop} (hD : Closed ops D) : ∀ (j i : Nat) (o : Oper), ops[j]? = some o → (∀ e ∈ o.after, Region.binds .any e = true → D e.on) → bef ops i j = true → D i := by
  intro j
  induction j using Nat.strongRecOn with
  | _ j ih =>
    intro i o ho hr hb
    obtain ⟨e, h1, h2, h3⟩ := bef_spec ho hb
    rcases h3 with h3 | ⟨h3, h4⟩
    · rw [← h3]; exact hr e h1 h2
    · have hde := hr e h1 h2
      cases hq : ops[e.on]? with
      | none =>
        unfold Fl.bef at h4
        have hsz : (Region.before ops).size = ops.size := by rw [before_eq, befs_size]; simp
        have : ops.size ≤ e.on := by rw [Array.getElem?_eq_none_iff] at hq; exact hq
        rw [Array.getD_eq_getD_getElem?, Array.getElem?_eq_none (by omega)] at h4
        simp at h4
      | some q => exact ih e.on h3 i q hq (fun e' h5 h6 => hD e.on q hde hq e' h5 h6) h4

/-- The slots that an operation names hold what the text's order has there. -/
theorem Inv.named (K : DOk sz ops) {ρ0 : Rho} {I0 : Nat → Prop} {w0 : World} {D : Nat → Prop} {ρ : Rho} {I : Nat → Prop} {c : Nat} {a : Act} {w : World} (hD : Closed ops D)
    (V : Inv P sz ops env0 val hp ρ0 I0 w0 D ρ I c a w) {i : Nat} {o : Oper} (ho : ops[i]? = some o) (hi : ¬ D i) (hr : ∀ e ∈ o.after, Region.binds .any e = true → D e.on) {t : Tmp} (ht : t ∈ o.looksAt ops) :
    VR ρ I w.heap (envAt ops env0 val i t) (a.tmps.getD t Go.undef) := by
  have uniq : ∀ k m, dstAt ops k = some t → dstAt ops m = some t → k = m := by
    intro k m hk hm
    obtain ⟨p, hp1, hp2⟩ := dstAt_some hk
    obtain ⟨q, hq1, hq2⟩ := dstAt_some hm
    rcases Nat.lt_trichotomy k m with h | h | h
    · exact absurd hq2 (K.apart k m p q h hp1 hq1 t hp2)
    · exact h
    · exact absurd hp2 (K.apart m k q p h hq1 hp1 t hq2)
  rcases V.slots t with ⟨k, hk1, hk2, hk3⟩ | ⟨hno, hv⟩
  · -- written by k in D
    obtain ⟨p, hp1, hp2⟩ := dstAt_some hk2
    have hne : k ≠ i := fun e => hi (e ▸ hk1)
    rcases Nat.lt_or_ge k i with h | h
    · rw [envAt_some hk2 i h (fun m h1 _ hm => by have := uniq k m hk2 hm; omega)]
      exact hk3
    · have hlt : i < k := by omega
      have hb := K.up i k o p hlt ho hp1 t hp2 ht
      have hDi : D i := hD.bef k i p hp1 (fun e h1 h2 => hD k p hk1 hp1 e h1 h2) hb
      exact absurd hDi hi
  · -- nobody in D wrote it
    have : ∀ k, k < i → dstAt ops k ≠ some t := by
      intro k hk hd
      obtain ⟨p, hp1, hp2⟩ := dstAt_some hd
      have hb := K.down k i p o hk hp1 ho t hp2 ht
      exact hno k (hD.bef i k o ho hr hb) hd
    rw [envAt_none i this]
    exact hv

end
end Go.Fl
end Fl16S
