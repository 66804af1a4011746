/- A run of the abstract machine, by fuel; what it answers holds. -/
import Derived.Test.YtmnbicoeahlpcaaFl22
namespace Go.Fl
open Go

def sameV : Value → Value → Bool
  | .int k a, .int k' b => k == k' && a == b
  | .bool a, .bool b => a == b
  | .pointer none, .pointer none => true
  | .slice none 0 0, .slice none 0 0 => true
  | .nilFunc, .nilFunc => true
  | .nilIface, .nilIface => true
  | .map none, .map none => true
  | _, _ => false

theorem sameV_eq {a b : Value} (h : sameV a b = true) : a = b := by
  unfold sameV at h
  split at h
  · simp only [Bool.and_eq_true, beq_iff_eq] at h; rw [h.1, h.2]
  · simp only [beq_iff_eq] at h; rw [h]
  · rfl
  · rfl
  · rfl
  · rfl
  · rfl
  · cases h

mutual
def same : Nat → AV → AV → Bool
  | 0, _, _ => false
  | _ + 1, .sc a, .sc b => sameV a b
  | _ + 1, .ptr b o, .ptr b' o' => b == b' && o == o'
  | _ + 1, .ms b o l s, .ms b' o' l' s' => b == b' && o == o' && l == l' && s == s'
  | n + 1, .vs l s c, .vs l' s' c' => l == l' && s == s' && sameL n c c'
  | n + 1, .agg c, .agg c' => sameL n c c'
  | n + 1, .tup c, .tup c' => sameL n c c'
  | _ + 1, _, _ => false
def sameL : Nat → List AV → List AV → Bool
  | 0, _, _ => false
  | _ + 1, [], [] => true
  | n + 1, x :: r, y :: r' => same n x y && sameL n r r'
  | _ + 1, _, _ => false
end

theorem same_eq : ∀ (n : Nat), (∀ x y, same n x y = true → x = y) ∧ ∀ x y, sameL n x y = true → x = y := by
  intro n
  induction n with
  | zero => exact ⟨fun x y h => by simp [same] at h, fun x y h => by simp [sameL] at h⟩
  | succ n ih =>
    refine ⟨fun x y h => ?_, fun x y h => ?_⟩
    · cases x <;> cases y <;> simp only [same, Bool.and_eq_true, beq_iff_eq, Bool.false_eq_true] at h
      · rw [sameV_eq h]
      · rw [h.1, h.2]
      · obtain ⟨⟨⟨h1, h2⟩, h3⟩, h4⟩ := h; rw [h1, h2, h3, h4]
      · obtain ⟨⟨h1, h2⟩, h3⟩ := h; rw [h1, h2, ih.2 _ _ h3]
      · rw [ih.2 _ _ h]
      · rw [ih.2 _ _ h]
    · cases x <;> cases y <;> simp only [sameL, Bool.and_eq_true, Bool.false_eq_true] at h
      · rfl
      · rw [ih.1 _ _ h.1, ih.2 _ _ h.2]

mutual
def ltB : Nat → Nat → AV → Bool
  | 0, _, _ => false
  | _ + 1, _, .sc _ => true
  | _ + 1, m, .ptr b _ => decide (b < m)
  | _ + 1, m, .ms b _ _ _ => decide (b < m)
  | n + 1, m, .vs _ _ c => ltL n m c
  | n + 1, m, .ep c => ltL n m c
  | n + 1, m, .agg c => ltL n m c
  | n + 1, m, .tup c => ltL n m c
  | n + 1, m, .ifc _ x => ltB n m x
  | _ + 1, _, .ab => true
  | _ + 1, _, _ => false
def ltL : Nat → Nat → List AV → Bool
  | 0, _, _ => false
  | _ + 1, _, [] => true
  | n + 1, m, x :: r => ltB n m x && ltL n m r
end

theorem ltB_ok : ∀ (n m : Nat), (∀ x, ltB n m x = true → x.Lt m) ∧ ∀ l, ltL n m l = true → ∀ x ∈ l, x.Lt m := by
  intro n m
  induction n with
  | zero => exact ⟨fun x h => by simp [ltB] at h, fun x h => by simp [ltL] at h⟩
  | succ n ih =>
    refine ⟨fun x h => ?_, fun x h => ?_⟩
    · cases x <;> simp only [ltB, decide_eq_true_eq, Bool.false_eq_true] at h
      · exact .sc _
      · exact .ptr h
      · exact .ms h
      · exact .vs (ih.2 _ h)
      · exact .ep (ih.2 _ h)
      · exact .ifc (ih.1 _ h)
      · exact .agg (ih.2 _ h)
      · exact .tup (ih.2 _ h)
      · exact .ab
    · cases x <;> simp only [ltL, Bool.and_eq_true] at h
      · intro x hx; cases hx
      · intro x hx
        rcases List.mem_cons.1 hx with rfl | hx
        · exact ih.1 _ h.1
        · exact ih.2 _ h.2 _ hx

abbrev ACall := FuncId → List AV → Heap → Option (AV × Heap)

def deep : Nat := 4000

section
variable (call : ACall) (P : Program) (sz : Nat)

def eop (o : Oper) (env : Env) (H : Heap) : Option (AV × Heap) :=
  match o.op with
  | .call { callee := .value f, args, argTypes := _ } => match aev env f with
    | .fn (.func k) first captured => call k (first ++ args.toList.map (aev env) ++ captured) H
    | _ => none
  | _ => aop P o (aev env) H

def eops (ops : Array Oper) : List Oper → Env → Heap → Option (Env × Heap)
  | [], env, H => some (env, H)
  | o :: rest, env, H => match awanted ops o env with
    | none => none
    | some false => eops ops rest (env.upd o.dst .undef) H
    | some true => match eop call P o env H with
      | some (x, H') => eops ops rest (env.upd o.dst x) H'
      | none => none

def estOk (bf : List Nat) (i : Nat) (o : Oper) (env : Env) (x : AV) : List (Nat × Heap) → Bool
  | [] => true
  | (c, Hc) :: r => (befL bf c i || (isL o && match aop P o (aev env) Hc with | some (y, _) => same deep y x | none => false)) && estOk bf i o env x r

def eldOk (bf : List Nat) (i : Nat) (H' : Heap) : List (Nat × Oper × Env × AV) → Bool
  | [] => true
  | (y, q, env, x) :: r => (befL bf y i || (isL q && match aop P q (aev env) H' with | some (z, _) => same deep z x | none => false)) && eldOk bf i H' r

def edraw (ops : Array Oper) (bf : List Nat) : Nat → List Oper → List (Nat × Heap) → List (Nat × Oper × Env × AV) → Env → Heap → Option (Env × Heap)
  | _, [], _, _, env, H => some (env, H)
  | i, o :: rest, st, ld, env, H => match awanted ops o env with
    | none => none
    | some false => edraw ops bf (i + 1) rest st ld (env.upd o.dst .undef) H
    | some true =>
      if isP o = true then match aop P o (aev env) H with
        | some (x, _) => edraw ops bf (i + 1) rest st ld (env.upd o.dst x) H
        | none => none
      else if isL o = true then match aop P o (aev env) H with
        | some (x, _) => if estOk P bf i o env x st = true then edraw ops bf (i + 1) rest st ((i, o, env, x) :: ld) (env.upd o.dst x) H else none
        | none => none
      else match eop call P o env H with
        | some (x, H') => if eldOk P bf i H' ld = true then edraw ops bf (i + 1) rest ((i, H) :: st) ld (env.upd o.dst x) H' else none
        | none => none

def ecode : Nat → Code → Env → Heap → Option (Exit × Env × Heap)
  | 0, _, _, _ => none
  | n + 1, c, env, H => match c with
    | .skip => some (.normal, env, H)
    | .ret => some (.ret, env, H)
    | .exit id => some (.exit id, env, H)
    | .region _ ops false => if dstsB sz ops = true then (eops call P ops ops.toList env H).map fun r => (.normal, r.1, r.2) else none
    | .region _ ops true => if drawOk sz ops = true then (edraw call P ops (Region.before ops).toList 0 ops.toList [] [] env H).map fun r => (.normal, r.1, r.2) else none
    | .seq a b => match ecode n a env H with
      | some (.normal, env', H') => ecode n b env' H'
      | r => r
    | .cond c a b => match aev env c with
      | .sc (.bool q) => ecode n (if q then a else b) env H
      | _ => none
    | .block id a => match ecode n a env H with
      | some (.exit id', env', H') => some (if id' = id then .normal else .exit id', env', H')
      | r => r
    | .loop a => match ecode n a env H with
      | some (.normal, env', H') => ecode n (.loop a) env' H'
      | r => r
    | _ => none
end

def doneE : Exit → Bool
  | .ret => true
  | .normal => true
  | _ => false

def ecall (P : Program) (fs : List FuncId) : Nat → ACall
  | 0, _, _, _ => none
  | n + 1, f, args, H => if fs.contains f = true then match P.funcs[f]? with
    | some fn => match fn.body with
      | some c => match ecode (ecall P fs n) P (args.length + (fn.ntmps - args.length)) deep c (enterEnv args) H with
        | some (e, env, H1) => if doneE e = true then match aresults P fn env H1 with
          | some v => if (ltB deep H1.next v && decide (H.next ≤ H1.next) && (List.range H1.next).all fun b => match H1.get b with | some cs => ltL deep H1.next cs | none => true) = true then some (v, H1) else none
          | none => none
          else none
        | none => none
      | none => none
    | none => none
    else none

section
variable {call : ACall} {P : Program} {sz : Nat}

theorem eop_step (hc : ∀ k a H r H', call k a H = some (r, H') → SCalls P k a H r H') {o : Oper} {env : Env} {H H' : Heap} {x : AV} (h : eop call P o env H = some (x, H')) {K : AV → Heap → Prop} (hk : K x H') : WStep P o env H K := by
  obtain ⟨dst, op, type, pos, after, guard⟩ := o
  unfold eop at h
  unfold WStep
  split at h
  · rename_i f args argTypes hop
    simp only at hop
    subst hop
    split at h
    · rename_i k first captured hf
      simp only [hf]
      exact ⟨x, H', hc _ _ _ _ _ h, hk⟩
    · cases h
  · rename_i hno
    split
    · rename_i f args argTypes hop
      exact (hno f args argTypes hop).elim
    · rw [h]; exact hk

theorem eop_wop (hc : ∀ k a H r H', call k a H = some (r, H') → SCalls P k a H r H') {ops : Array Oper} {o : Oper} {env : Env} {H H' : Heap} {x : AV} (hw : awanted ops o env = some true) (h : eop call P o env H = some (x, H')) {K : Env → Heap → Prop} (hk : K (env.upd o.dst x) H') : WOp P ops o K env H := by
  have := eop_step hc h (K := fun x H' => K (env.upd o.dst x) H') hk
  unfold WOp
  rw [hw]
  exact this

theorem eops_sound (hc : ∀ k a H r H', call k a H = some (r, H') → SCalls P k a H r H') {ops : Array Oper} {Q : Exit → Env → Heap → Prop} : ∀ (l : List Oper) (env : Env) (H : Heap) (env' : Env) (H' : Heap), eops call P ops l env H = some (env', H') → Q .normal env' H' → WOps P ops Q l env H
  | [], env, H, env', H', h, hq => by
    simp only [eops, Option.some.injEq, Prod.mk.injEq] at h
    obtain ⟨rfl, rfl⟩ := h
    exact hq
  | o :: rest, env, H, env', H', h, hq => by
    simp only [eops] at h
    simp only [WOps]
    split at h
    · cases h
    · rename_i hw
      unfold WOp; rw [hw]
      exact eops_sound hc rest _ _ _ _ h hq
    · rename_i hw
      split at h
      · rename_i x H1 hx
        exact eop_wop hc hw hx (eops_sound hc rest _ _ _ _ h hq)
      · cases h

theorem estOk_ok {bf : List Nat} {i : Nat} {o : Oper} {env : Env} {x : AV} : ∀ {st : List (Nat × Heap)}, estOk P bf i o env x st = true → stOk P bf i o env x st
  | [], _ => trivial
  | (c, Hc) :: r, h => by
    simp only [estOk, Bool.and_eq_true, Bool.or_eq_true] at h
    refine ⟨?_, estOk_ok h.2⟩
    rcases h.1 with h1 | ⟨hl, h1⟩
    · exact .inl h1
    · split at h1
      · rename_i y Hy hy
        right
        rw [hy, (same_eq _).1 _ _ h1, aop_reads hl hy]
      · cases h1

theorem eldOk_ok {bf : List Nat} {i : Nat} {H' : Heap} : ∀ {ld : List (Nat × Oper × Env × AV)}, eldOk P bf i H' ld = true → ldOk P bf i H' ld
  | [], _ => trivial
  | (y, q, env, x) :: r, h => by
    simp only [eldOk, Bool.and_eq_true, Bool.or_eq_true] at h
    refine ⟨?_, eldOk_ok h.2⟩
    rcases h.1 with h1 | ⟨hl, h1⟩
    · exact .inl h1
    · split at h1
      · rename_i z Hz hz
        right
        rw [hz, (same_eq _).1 _ _ h1, aop_reads hl hz]
      · cases h1

theorem edraw_sound (hc : ∀ k a H r H', call k a H = some (r, H') → SCalls P k a H r H') {ops : Array Oper} {bf : List Nat} {Q : Exit → Env → Heap → Prop} : ∀ (l : List Oper) (i : Nat) (st : List (Nat × Heap)) (ld : List (Nat × Oper × Env × AV)) (env : Env) (H : Heap) (env' : Env) (H' : Heap),
    edraw call P ops bf i l st ld env H = some (env', H') → Q .normal env' H' → WDraw P ops bf i l st ld Q env H
  | [], i, st, ld, env, H, env', H', h, hq => by
    simp only [edraw, Option.some.injEq, Prod.mk.injEq] at h
    obtain ⟨rfl, rfl⟩ := h
    exact hq
  | o :: rest, i, st, ld, env, H, env', H', h, hq => by
    simp only [edraw] at h
    simp only [WDraw]
    split at h
    · cases h
    · rename_i hw
      rw [hw]
      exact edraw_sound hc rest _ _ _ _ _ _ _ h hq
    · rename_i hw
      rw [hw]
      simp only
      split at h
      · rename_i hp
        rw [if_pos hp]
        split at h
        · rename_i x H1 hx
          rw [hx]
          exact edraw_sound hc rest _ _ _ _ _ _ _ h hq
        · cases h
      · rename_i hp
        rw [if_neg hp]
        split at h
        · rename_i hl
          rw [if_pos hl]
          split at h
          · rename_i x H1 hx
            rw [hx]
            split at h
            · rename_i hs
              exact ⟨estOk_ok hs, edraw_sound hc rest _ _ _ _ _ _ _ h hq⟩
            · cases h
          · cases h
        · rename_i hl
          rw [if_neg hl]
          split at h
          · rename_i x H1 hx
            split at h
            · rename_i hs
              exact eop_step hc hx ⟨eldOk_ok hs, edraw_sound hc rest _ _ _ _ _ _ _ h hq⟩
            · cases h
          · cases h

theorem ecode_sound (hm : P.follows .mixedOrders = true) (hc : ∀ k a H r H', call k a H = some (r, H') → SCalls P k a H r H') : ∀ (n : Nat) (c : Code) (Q : Exit → Env → Heap → Prop) (env : Env) (H : Heap) (e : Exit) (env' : Env) (H' : Heap),
    ecode call P sz n c env H = some (e, env', H') → Q e env' H' → SCode P sz c Q env H
  | 0, c, Q, env, H, e, env', H', h, hq => by simp [ecode] at h
  | n + 1, c, Q, env, H, e, env', H', h, hq => by
    have ih := ecode_sound hm hc n
    cases c with
    | skip => simp only [ecode, Option.some.injEq, Prod.mk.injEq] at h; obtain ⟨rfl, rfl, rfl⟩ := h; exact scode_skip hq
    | ret => simp only [ecode, Option.some.injEq, Prod.mk.injEq] at h; obtain ⟨rfl, rfl, rfl⟩ := h; exact scode_ret hq
    | exit id => simp only [ecode, Option.some.injEq, Prod.mk.injEq] at h; obtain ⟨rfl, rfl, rfl⟩ := h; exact scode_exit hq
    | region id ops d =>
      cases d with
      | false =>
        simp only [ecode] at h
        split at h
        · rename_i hd
          simp only [Option.map_eq_some_iff, Prod.mk.injEq] at h
          obtain ⟨⟨e1, H1⟩, h1, rfl, rfl, rfl⟩ := h
          exact scode_region hd (eops_sound hc _ _ _ _ _ h1 hq)
        · cases h
      | true =>
        simp only [ecode] at h
        split at h
        · rename_i hd
          simp only [Option.map_eq_some_iff, Prod.mk.injEq] at h
          obtain ⟨⟨e1, H1⟩, h1, rfl, rfl, rfl⟩ := h
          exact scode_draw hm hd (by simp) (edraw_sound hc _ _ _ _ _ _ _ _ h1 hq)
        · cases h
    | seq a b =>
      simp only [ecode] at h
      refine scode_seq ?_
      split at h
      · rename_i env1 H1 h1
        exact ih a _ _ _ _ _ _ h1 (ih b _ _ _ _ _ _ h hq)
      · rename_i r hr
        refine ih a _ _ _ _ _ _ h ?_
        cases e with
        | normal => exact (hr _ _ h).elim
        | _ => exact hq
    | cond c a b =>
      simp only [ecode] at h
      split at h
      · rename_i q hq'
        exact scode_cond hq' (ih _ _ _ _ _ _ _ h hq)
      · cases h
    | block id a =>
      simp only [ecode] at h
      refine scode_block ?_
      split at h
      · rename_i id' env1 H1 h1
        simp only [Option.some.injEq, Prod.mk.injEq] at h
        obtain ⟨he, rfl, rfl⟩ := h
        refine ih a _ _ _ _ _ _ h1 ?_
        simp only [inBlockA]
        split at he
        · rename_i e1; rw [if_pos e1]; rw [he]; exact hq
        · rename_i e1; rw [if_neg e1]; rw [he]; exact hq
      · rename_i r hr
        refine ih a _ _ _ _ _ _ h ?_
        cases e with
        | exit id' => exact (hr _ _ _ h).elim
        | _ => exact hq
    | loop a =>
      refine scode_loop (Inv := fun m env H => m ≤ n + 1 ∧ ecode call P sz m (.loop a) env H = some (e, env', H')) (n := n + 1) ?_ ⟨Nat.le_refl _, h⟩
      rintro m env1 H1 ⟨hm1, h1⟩
      cases m with
      | zero => simp [ecode] at h1
      | succ m =>
        simp only [ecode] at h1
        have ih' : ∀ (c : Code) (Q : Exit → Env → Heap → Prop) (env : Env) (H : Heap) (e : Exit) (env' : Env) (H' : Heap), ecode call P sz m c env H = some (e, env', H') → Q e env' H' → SCode P sz c Q env H := ecode_sound hm hc m
        split at h1
        · rename_i env2 H2 h2
          exact ih' a _ _ _ _ _ _ h2 ⟨m, Nat.lt_succ_self _, by omega, h1⟩
        · rename_i r hr
          refine ih' a _ _ _ _ _ _ h1 ?_
          cases e with
          | normal => exact (hr _ _ h1).elim
          | _ => exact hq
    | _ => simp [ecode] at h

theorem ecall_sound {fs : List FuncId} (hm : P.follows .mixedOrders = true) (hfs : ∀ f ∈ fs, Enters P f) : ∀ (n : Nat) (f : FuncId) (args : List AV) (H : Heap) (r : AV) (H' : Heap), ecall P fs n f args H = some (r, H') → SCalls P f args H r H'
  | 0, f, args, H, r, H', h => by simp [ecall] at h
  | n + 1, f, args, H, r, H', h => by
    have ih := ecall_sound hm hfs n
    simp only [ecall] at h
    split at h
    case isFalse => cases h
    rename_i hf
    split at h
    case h_2 => cases h
    rename_i fn hfn
    split at h
    case h_2 => cases h
    rename_i c hb
    split at h
    case h_2 => cases h
    rename_i e env H1 h1
    split at h
    case isFalse => cases h
    rename_i he
    split at h
    case h_2 => cases h
    rename_i v hv
    split at h
    case isFalse => cases h
    rename_i hl
    simp only [Option.some.injEq, Prod.mk.injEq] at h
    obtain ⟨rfl, rfl⟩ := h
    simp only [Bool.and_eq_true, decide_eq_true_eq, List.all_eq_true, List.mem_range] at hl
    obtain ⟨⟨l1, l2⟩, l3⟩ := hl
    refine scalls_of (hfs f (by simpa using hf)) hfn hb l2 (ecode_sound hm ih _ _ _ _ _ _ _ _ h1 ⟨?_, ?_⟩)
    · cases e <;> simp [doneE] at he ⊢
    · refine ⟨⟨v, hv, .same _⟩, Heap.le_refl _, l2, Nat.le_refl _, (ltB_ok _ _).1 _ l1, fun b cs hb' => .inr ?_⟩
      have := l3 b (Heap.lt_of_get hb')
      rw [hb'] at this
      exact (ltB_ok _ _).2 _ this

def plainly (v : Value) : Option (AV × Heap) → Bool
  | some (.sc u, _) => sameV u v
  | _ => false

/-- A call over the empty heap whose outcome is a plain value. -/
theorem ecall_plain {fs : List FuncId} (hm : P.follows .mixedOrders = true) (hfs : ∀ f ∈ fs, Enters P f) (n : Nat) {f : FuncId} {args : List AV} {v : Value} (h : plainly v (ecall P fs n f args Heap.empty) = true) : ∃ H, SCalls P f args Heap.empty (.sc v) H := by
  unfold plainly at h
  split at h
  · rename_i u H hu
    have e := sameV_eq h
    subst e
    exact ⟨H, ecall_sound hm hfs n _ _ _ _ _ hu⟩
  · cases h
end
end Go.Fl
