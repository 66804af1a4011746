/- Regions that draw their order, proved. -/
import Derived.Test.YtklihehobpahkaaGreatDoorFl14
set_option linter.unusedVariables false
set_option linter.unusedSimpArgs false
noncomputable section
namespace Go.Fl
open Go

/-- i comes before j, whatever is drawn. -/
def bef (ops : Array Oper) (i j : Nat) : Bool := ((Region.before ops).getD j 0).testBit i

theorem edges_fold (acc : Array Nat) (j : Nat) : ∀ (l : List Edge) (s : Nat),
    (l.foldl (fun s e => if Region.binds .any e then s ||| 2 ^ e.on ||| acc.getD e.on 0 else s) s).testBit j = true → s.testBit j = true ∨ ∃ e ∈ l, Region.binds .any e = true ∧ (e.on = j ∨ (acc.getD e.on 0).testBit j = true)
  | [], s, h => .inl h
  | e :: l, s, h => by
    simp only [List.foldl_cons] at h
    rcases edges_fold acc j l _ h with h1 | ⟨e', h1, h2⟩
    · split at h1
      · rename_i hb
        simp only [Nat.testBit_or, Bool.or_eq_true] at h1
        rcases h1 with (h1 | h1) | h1
        · exact .inl h1
        · refine .inr ⟨e, by simp, hb, .inl ?_⟩
          rw [Nat.testBit_two_pow] at h1
          simpa using h1
        · exact .inr ⟨e, by simp, hb, .inr h1⟩
      · exact .inl h1
    · exact .inr ⟨e', by simp [h1], h2⟩

def befStep (acc : Array Nat) (o : Oper) : Array Nat :=
  acc.push (o.after.foldl (fun s e => if Region.binds .any e then s ||| 2 ^ e.on ||| acc.getD e.on 0 else s) 0)

theorem before_eq (ops : Array Oper) : Region.before ops = ops.toList.foldl befStep #[] := by
  unfold Region.before
  rw [← Array.foldl_toList]
  rfl

theorem befs_size : ∀ (l : List Oper) (acc : Array Nat), (l.foldl befStep acc).size = acc.size + l.length
  | [], acc => by simp
  | o :: l, acc => by simp only [List.foldl_cons]; rw [befs_size l]; simp [befStep]; omega

theorem befs_keep : ∀ (l : List Oper) (acc : Array Nat) (k : Nat), k < acc.size → (l.foldl befStep acc).getD k 0 = acc.getD k 0
  | [], acc, k, _ => rfl
  | o :: l, acc, k, h => by
    simp only [List.foldl_cons]
    rw [befs_keep l _ k (by simp [befStep]; omega)]
    simp only [befStep, Array.getD_eq_getD_getElem?]
    rw [Array.getElem?_push_lt (by omega)]
    simp [h]

theorem befs_spec : ∀ (l : List Oper) (acc : Array Nat) (i : Nat) (o : Oper) (j : Nat), l[i]? = some o → ((l.foldl befStep acc).getD (acc.size + i) 0).testBit j = true →
    ∃ e ∈ o.after, Region.binds .any e = true ∧ (e.on = j ∨ (e.on < acc.size + i ∧ ((l.foldl befStep acc).getD e.on 0).testBit j = true))
  | [], acc, i, o, j, h, _ => by simp at h
  | p :: l, acc, 0, o, j, h, ht => by
    simp only [List.getElem?_cons_zero, Option.some.injEq] at h
    subst h
    simp only [List.foldl_cons, Nat.add_zero] at ht ⊢
    rw [befs_keep l _ acc.size (by simp [befStep])] at ht
    have e1 : (befStep acc p).getD acc.size 0 = p.after.foldl (fun s e => if Region.binds .any e then s ||| 2 ^ e.on ||| acc.getD e.on 0 else s) 0 := by
      simp [befStep, Array.getD_eq_getD_getElem?]
    rw [e1, ← Array.foldl_toList] at ht
    rcases edges_fold acc j _ _ ht with h1 | ⟨e, h1, h2, h3⟩
    · simp at h1
    · refine ⟨e, by simpa using h1, h2, ?_⟩
      rcases h3 with h3 | h3
      · exact .inl h3
      · have hlt : e.on < acc.size := by
          rcases Nat.lt_or_ge e.on acc.size with h4 | h4
          · exact h4
          · rw [Array.getD_eq_getD_getElem?, Array.getElem?_eq_none h4] at h3; simp at h3
        refine .inr ⟨hlt, ?_⟩
        rw [befs_keep l _ _ (by simp [befStep]; omega)]
        have : (befStep acc p).getD e.on 0 = acc.getD e.on 0 := by
          simp only [befStep, Array.getD_eq_getD_getElem?]
          rw [Array.getElem?_push_lt hlt]
          simp [hlt]
        rw [this]; exact h3
  | p :: l, acc, i + 1, o, j, h, ht => by
    simp only [List.getElem?_cons_succ] at h
    simp only [List.foldl_cons] at ht ⊢
    have hsz : (befStep acc p).size = acc.size + 1 := by simp [befStep]
    have := befs_spec l (befStep acc p) i o j h (by rw [hsz]; rw [show acc.size + 1 + i = acc.size + (i + 1) by omega]; exact ht)
    rw [hsz, show acc.size + 1 + i = acc.size + (i + 1) by omega] at this
    exact this

theorem bef_spec {ops : Array Oper} {i j : Nat} {o : Oper} (ho : ops[j]? = some o) (h : bef ops i j = true) : ∃ e ∈ o.after, Region.binds .any e = true ∧ (e.on = i ∨ (e.on < j ∧ bef ops i e.on = true)) := by
  unfold bef at *
  rw [before_eq] at *
  have := befs_spec ops.toList #[] j o i (by rw [Array.getElem?_toList]; exact ho) (by simpa using h)
  simpa using this

/-- What floats floats freely: asked of the text alone. -/
def drawOk (sz : Nat) (ops : Array Oper) : Bool :=
  dstsB sz ops && (List.range ops.size).all fun j => match ops[j]? with
    | none => true
    | some q => (q.after.all fun e => !Region.binds .any e || decide (e.on < j)) && (List.range j).all fun i => match ops[i]? with
      | none => true
      | some p => (p.dst.isNone || p.dst != q.dst) && (((q.looksAt ops).all fun t => p.dst != some t) || bef ops i j) && (((p.looksAt ops).all fun t => q.dst != some t) || bef ops i j) && (!isC p || !isC q || bef ops i j)

structure DOk (sz : Nat) (ops : Array Oper) : Prop where
  dsts : dstsOk sz ops
  acyc : ∀ (j : Nat) (q : Oper), ops[j]? = some q → ∀ e ∈ q.after, Region.binds .any e = true → e.on < j
  apart : ∀ (i j : Nat) (p q : Oper), i < j → ops[i]? = some p → ops[j]? = some q → ∀ t, p.dst = some t → q.dst ≠ some t
  down : ∀ (i j : Nat) (p q : Oper), i < j → ops[i]? = some p → ops[j]? = some q → ∀ t, p.dst = some t → t ∈ q.looksAt ops → bef ops i j = true
  up : ∀ (i j : Nat) (p q : Oper), i < j → ops[i]? = some p → ops[j]? = some q → ∀ t, q.dst = some t → t ∈ p.looksAt ops → bef ops i j = true
  chain : ∀ (i j : Nat) (p q : Oper), i < j → ops[i]? = some p → ops[j]? = some q → isC p = true → isC q = true → bef ops i j = true

theorem drawOk_spec {sz : Nat} {ops : Array Oper} (h : drawOk sz ops = true) : DOk sz ops := by
  unfold drawOk at h
  simp only [Bool.and_eq_true] at h
  obtain ⟨h1, h2⟩ := h
  have key : ∀ (i j : Nat) (p q : Oper), i < j → ops[i]? = some p → ops[j]? = some q →
      ((p.dst.isNone || p.dst != q.dst) && (((q.looksAt ops).all fun t => p.dst != some t) || bef ops i j) && (((p.looksAt ops).all fun t => q.dst != some t) || bef ops i j) && (!isC p || !isC q || bef ops i j)) = true := by
    intro i j p q hij hp hq
    have hj := (Array.getElem?_eq_some_iff.1 hq).1
    have h3 := List.all_eq_true.1 h2 j (by simp [hj])
    rw [hq] at h3
    simp only [Bool.and_eq_true] at h3
    have h4 := List.all_eq_true.1 h3.2 i (by simp [hij])
    rw [hp] at h4
    simpa only [Bool.and_eq_true] using h4
  refine ⟨dstsB_ok h1, ?_, ?_, ?_, ?_, ?_⟩
  · intro j q hq e he hb
    have hj := (Array.getElem?_eq_some_iff.1 hq).1
    have h3 := List.all_eq_true.1 h2 j (by simp [hj])
    rw [hq] at h3
    simp only [Bool.and_eq_true] at h3
    have h4 := Array.all_eq_true'.1 h3.1 e he
    simpa [hb] using h4
  · intro i j p q hij hp hq t h3 h4
    have := key i j p q hij hp hq
    simp [h3, h4] at this
  · intro i j p q hij hp hq t h3 h4
    have := key i j p q hij hp hq
    simp only [Bool.and_eq_true, Bool.or_eq_true] at this
    rcases this.1.1.2 with h5 | h5
    · have := List.all_eq_true.1 h5 t h4
      simp [h3] at this
    · exact h5
  · intro i j p q hij hp hq t h3 h4
    have := key i j p q hij hp hq
    simp only [Bool.and_eq_true, Bool.or_eq_true] at this
    rcases this.1.2 with h5 | h5
    · have := List.all_eq_true.1 h5 t h4
      simp [h3] at this
    · exact h5
  · intro i j p q hij hp hq h3 h4
    have := key i j p q hij hp hq
    simp only [Bool.and_eq_true, Bool.or_eq_true, h3, h4] at this
    simpa using this.2

def dstAt (ops : Array Oper) (i : Nat) : Option Tmp := (ops[i]?).bind (·.dst)

/-- The frame ahead of the i-th operation, in the text's order. -/
def envAt (ops : Array Oper) (env0 : Env) (val : Nat → AV) : Nat → Env
  | 0 => env0
  | i + 1 => (envAt ops env0 val i).upd (dstAt ops i) (val i)

theorem envAt_none {ops : Array Oper} {env0 : Env} {val : Nat → AV} {t : Tmp} : ∀ (i : Nat), (∀ k, k < i → dstAt ops k ≠ some t) → envAt ops env0 val i t = env0 t
  | 0, _ => rfl
  | i + 1, h => by
    simp only [envAt, Env.upd]
    rw [if_neg (h i (by omega))]
    exact envAt_none i (fun k hk => h k (by omega))

theorem envAt_some {ops : Array Oper} {env0 : Env} {val : Nat → AV} {t : Tmp} {k : Nat} (hk : dstAt ops k = some t) : ∀ (i : Nat), k < i → (∀ m, k < m → m < i → dstAt ops m ≠ some t) → envAt ops env0 val i t = val k
  | 0, h, _ => by omega
  | i + 1, h, hno => by
    simp only [envAt, Env.upd]
    by_cases e : i = k
    · subst e; rw [if_pos hk]
    · rw [if_neg (hno i (by omega) (by omega))]
      exact envAt_some hk i (by omega) (fun m h1 h2 => hno m h1 (by omega))

theorem dstAt_some {ops : Array Oper} {i : Nat} {t : Tmp} (h : dstAt ops i = some t) : ∃ o, ops[i]? = some o ∧ o.dst = some t := by
  unfold dstAt at h
  cases ho : ops[i]? with
  | none => simp [ho] at h
  | some o => simp [ho] at h; exact ⟨o, rfl, h⟩

/-- The text's order, carried out: values, heaps. -/
structure Trace (P : Program) (ops : Array Oper) (env0 : Env) (val : Nat → AV) (hp : Nat → Heap) : Prop where
  step : ∀ (i : Nat) (o : Oper), ops[i]? = some o → (awanted ops o (envAt ops env0 val i) = some false ∧ val i = .undef ∧ hp (i + 1) = hp i) ∨
    (awanted ops o (envAt ops env0 val i) = some true ∧ StepTo P o (envAt ops env0 val i) (hp i) (val i) (hp (i + 1)))
  early : ∀ (y c : Nat) (q p : Oper), ops[y]? = some q → ops[c]? = some p → isL q = true → isC p = true → awanted ops q (envAt ops env0 val y) = some true → awanted ops p (envAt ops env0 val c) = some true →
    c < y → bef ops c y = false → aop P q (aev (envAt ops env0 val y)) (hp c) = some (val y, hp c)
  late : ∀ (y c : Nat) (q p : Oper), ops[y]? = some q → ops[c]? = some p → isL q = true → isC p = true → awanted ops q (envAt ops env0 val y) = some true → awanted ops p (envAt ops env0 val c) = some true →
    y < c → bef ops y c = false → aop P q (aev (envAt ops env0 val y)) (hp (c + 1)) = some (val y, hp (c + 1))

end Go.Fl
