/- The evaluator with calls that are known from elsewhere. -/
import Derived.Test.YtfmpakmigmehkaaGreatDoorFl34
set_option linter.unusedVariables false
set_option linter.unusedSimpArgs false
noncomputable section Fl39S
namespace Go.Fl
open Go

def ecallX (P : Program) (base : ACall) (fs : List FuncId) : Nat → ACall
  | 0, _, _, _ => none
  | n + 1, f, args, H => match base f args H with
    | some r => some r
    | none => if fs.contains f = true then match P.funcs[f]? with
      | some fn => match fn.body with
        | some c => match ecode (ecallX P base fs n) P (args.length + (fn.ntmps - args.length)) deep c (ET.enter args) H with
          | some (e, env, H1) => if doneE e = true then match aresults P fn (ET.fn env) H1 with
            | some v => if H.next ≤ H1.next then some (v, H1) else none
            | none => none
            else none
          | none => none
        | none => none
      | none => none
      else none

theorem ecallX_sound {P : Program} {base : ACall} {fs : List FuncId} (hm : P.follows .mixedOrders = true) (hb : ∀ k a H r H', base k a H = some (r, H') → SCalls P k a H r H') (hfs : ∀ f ∈ fs, Enters P f) :
    ∀ (n : Nat) (f : FuncId) (args : List AV) (H : Heap) (r : AV) (H' : Heap), ecallX P base fs n f args H = some (r, H') → SCalls P f args H r H'
  | 0, f, args, H, r, H', h => by simp [ecallX] at h
  | n + 1, f, args, H, r, H', h => by
    have ih := ecallX_sound hm hb hfs n
    simp only [ecallX] at h
    split at h
    · rename_i q hq
      cases h
      exact hb _ _ _ _ _ hq
    split at h
    case isFalse => cases h
    rename_i hf
    split at h
    case h_2 => cases h
    rename_i fn hfn
    split at h
    case h_2 => cases h
    rename_i c hb
    split at h
    case h_2 => cases h
    rename_i e env H1 h1
    split at h
    case isFalse => cases h
    rename_i he
    split at h
    case h_2 => cases h
    rename_i v hv
    split at h
    case isFalse => cases h
    rename_i hl
    simp only [Option.some.injEq, Prod.mk.injEq] at h
    obtain ⟨rfl, rfl⟩ := h
    have := ecode_sound (sz := args.length + (fn.ntmps - args.length)) hm ih _ _ (fun e env H2 => (e = .ret ∨ e = .normal) ∧ aresults P fn env H2 = some v ∧ H2 = H1) _ _ _ _ _ h1 ⟨by cases e <;> simp [doneE] at he ⊢, hv, rfl⟩
    rw [ET.fn_enter] at this
    exact scalls_all (hfs f (by simpa using hf)) hfn hb hl this

mutual
def fzn : Nat → Heap → AV → Option AV
  | 0, _, _ => none
  | _ + 1, _, .sc v => match v with
    | .slice none 0 0 => some (.vs 0 1 [])
    | v => some (.sc v)
  | n + 1, H, .ms b off len sz => match H.get b with
    | some cs => cond (Nat.ble (off + len * sz) cs.length) (match fznL n H ((cs.drop off).take (len * sz)) with
      | some cells => some (.vs len sz cells)
      | none => none) none
    | none => none
  | n + 1, H, .vs len sz cs => match fznL n H cs with
    | some cells => some (.vs len sz cells)
    | none => none
  | n + 1, H, .agg cs => match fznL n H cs with
    | some cells => some (.agg cells)
    | none => none
  | n + 1, H, .tup cs => match fznL n H cs with
    | some cells => some (.tup cells)
    | none => none
  | _ + 1, _, _ => none
def fznL : Nat → Heap → List AV → Option (List AV)
  | 0, _, _ => none
  | _ + 1, _, [] => some []
  | n + 1, H, x :: r => match fzn n H x with
    | some y => match fznL n H r with
      | some ys => some (y :: ys)
      | none => none
    | none => none
end

theorem fzn_ok : ∀ (n : Nat) (H : Heap), (∀ x y, fzn n H x = some y → Froz H (fun _ => True) x y ∧ y.Lt 0) ∧ (∀ xs ys, fznL n H xs = some ys → FrozL H (fun _ => True) xs ys ∧ ∀ y ∈ ys, y.Lt 0)
  | 0, H => ⟨fun x y h => by simp [fzn] at h, fun x y h => by simp [fznL] at h⟩
  | n + 1, H => by
    obtain ⟨ih1, ih2⟩ := fzn_ok n H
    refine ⟨fun x y h => ?_, fun xs ys h => ?_⟩
    · cases x <;> simp only [fzn] at h
      case sc v =>
        split at h
        · cases h; exact ⟨.nil 1, .vs fun x hx => by cases hx⟩
        · cases h; exact ⟨.same _, .sc _⟩
      case ms b off len sz =>
        split at h
        case h_2 => cases h
        rename_i cs hb
        cases hc : Nat.ble (off + len * sz) cs.length with
        | false => rw [hc, cond_false] at h; cases h
        | true =>
          rw [hc, cond_true] at h
          split at h
          case h_2 => cases h
          rename_i cells hcells
          cases h
          obtain ⟨h1, h2⟩ := ih2 _ _ hcells
          exact ⟨Froz.rowL hb trivial (Nat.le_of_ble_eq_true hc) h1, .vs h2⟩
      case vs len sz cs =>
        split at h
        case h_2 => cases h
        rename_i cells hcells
        cases h
        obtain ⟨h1, h2⟩ := ih2 _ _ hcells
        exact ⟨.vs h1.get.1 fun i x y hx hy => h1.get.2 i x y hx hy, .vs h2⟩
      case agg cs =>
        split at h
        case h_2 => cases h
        rename_i cells hcells
        cases h
        obtain ⟨h1, h2⟩ := ih2 _ _ hcells
        exact ⟨.agg h1.get.1 fun i x y hx hy => h1.get.2 i x y hx hy, .agg h2⟩
      case tup cs =>
        split at h
        case h_2 => cases h
        rename_i cells hcells
        cases h
        obtain ⟨h1, h2⟩ := ih2 _ _ hcells
        exact ⟨.tup h1.get.1 fun i x y hx hy => h1.get.2 i x y hx hy, .tup h2⟩
      all_goals cases h
    · cases xs with
      | nil => simp only [fznL] at h; cases h; exact ⟨.nil, fun y hy => by cases hy⟩
      | cons x r =>
        simp only [fznL] at h
        split at h
        case h_2 => cases h
        rename_i y hy
        split at h
        case h_2 => cases h
        rename_i ys hys
        cases h
        obtain ⟨h1, h2⟩ := ih1 _ _ hy
        obtain ⟨h3, h4⟩ := ih2 _ _ hys
        refine ⟨.cons h1 h3, fun z hz => ?_⟩
        rcases List.mem_cons.1 hz with rfl | hz
        · exact h2
        · exact h4 z hz

/-- nil at the top stands for no rows of sz cells. -/
def fzTop (sz : Nat) (H : Heap) : AV → Option AV
  | .sc (.slice none 0 0) => some (.vs 0 sz [])
  | x => fzn 100 H x

theorem fzTop_ok {sz : Nat} {H : Heap} {x y : AV} (h : fzTop sz H x = some y) : Froz H (fun _ => True) x y ∧ y.Lt 0 := by
  unfold fzTop at h
  split at h
  · cases h; exact ⟨.nil sz, .vs fun x hx => by cases hx⟩
  · exact (fzn_ok 100 H).1 _ _ h

/-- A call over the empty heap, its outcome kept. -/
def pcallX (P : Program) (base : ACall) (fs : List FuncId) (n sz : Nat) (f : FuncId) (args : List AV) : Option AV := match ecallX P base fs n f args Heap.empty with
  | some (r, H') => fzTop sz H' r
  | none => none

theorem pcallX_sound {P : Program} {base : ACall} {fs : List FuncId} (hm : P.follows .mixedOrders = true) (hb : ∀ k a H r H', base k a H = some (r, H') → SCalls P k a H r H') (hfs : ∀ f ∈ fs, Enters P f) (n sz : Nat) {f : FuncId} {args : List AV} {r : AV} (h : pcallX P base fs n sz f args = some r) : SCalls P f args Heap.empty r Heap.empty ∧ r.Lt 0 := by
  unfold pcallX at h
  split at h
  · rename_i u H' hu
    obtain ⟨h1, h2⟩ := fzTop_ok h
    exact ⟨scalls_shed (ecallX_sound hm hb hfs n _ _ _ _ _ hu) h1 h2, h2⟩
  · cases h
end Go.Fl
end Fl39S

noncomputable section Fl40S
namespace Go.Fl
open Go

abbrev Pend := List (AV × AV)
def Pend.ok (E : Pend) : Prop := ∀ p ∈ E, p.1 = p.2
theorem Pend.ok_nil : Pend.ok [] := fun _ h => by cases h
theorem Pend.ok_append {E F : Pend} (h : Pend.ok (E ++ F)) : Pend.ok E ∧ Pend.ok F := ⟨fun p hp => h p (List.mem_append_left _ hp), fun p hp => h p (List.mem_append_right _ hp)⟩
theorem Pend.ok_cons {p : AV × AV} {F : Pend} (h : Pend.ok (p :: F)) : p.1 = p.2 ∧ Pend.ok F := ⟨h p List.mem_cons_self, fun q hq => h q (List.mem_cons_of_mem _ hq)⟩

abbrev PCall := FuncId → List AV → Heap → Option (AV × Heap × Pend)

section
variable (call : PCall) (P : Program) (sz : Nat)

def gop (o : Oper) (env : Env) (H : Heap) : Option (AV × Heap × Pend) :=
  match o.op with
  | .call { callee := .value f, args, argTypes := _ } => match aev env f with
    | .fn (.func k) first captured => call k (first ++ args.toList.map (aev env) ++ captured) H
    | _ => none
  | _ => match eop noCall P o env H with
    | some (x, H') => some (x, H', [])
    | none => none

def gops (ops : Array Oper) : List Oper → ET → Heap → Option (ET × Heap × Pend)
  | [], env, H => some (env, H, [])
  | o :: rest, env, H => match awanted ops o (ET.fn env) with
    | none => none
    | some false => gops ops rest (ET.upd env o.dst .undef) H
    | some true => match gop call P o (ET.fn env) H with
      | some (x, H', E) => match gops ops rest (ET.upd env o.dst x) H' with
        | some (T, H2, F) => some (T, H2, E ++ F)
        | none => none
      | none => none

def gstOk (bf : List Nat) (i : Nat) (o : Oper) (env : Env) (x : AV) : List (Nat × Heap) → Option Pend
  | [] => some []
  | (c, Hc) :: r => cond (befL bf c i) (gstOk bf i o env x r) (match eop noCall P o env Hc with
    | some (y, _) => match gstOk bf i o env x r with
      | some E => some ((y, x) :: E)
      | none => none
    | none => none)

def gldOk (bf : List Nat) (i : Nat) (H' : Heap) : List (Nat × Oper × Env × AV) → Option Pend
  | [] => some []
  | (y, q, env, x) :: r => cond (befL bf y i) (gldOk bf i H' r) (cond (isL q) (match eop noCall P q env H' with
    | some (z, _) => match gldOk bf i H' r with
      | some E => some ((z, x) :: E)
      | none => none
    | none => none) none)

def gdraw (ops : Array Oper) (bf : List Nat) : Nat → List Oper → List (Nat × Heap) → List (Nat × Oper × Env × AV) → ET → Heap → Option (ET × Heap × Pend)
  | _, [], _, _, env, H => some (env, H, [])
  | i, o :: rest, st, ld, env, H => match awanted ops o (ET.fn env) with
    | none => none
    | some false => gdraw ops bf (i + 1) rest st ld (ET.upd env o.dst .undef) H
    | some true =>
      if isP o = true then match eop noCall P o (ET.fn env) H with
        | some (x, _) => gdraw ops bf (i + 1) rest st ld (ET.upd env o.dst x) H
        | none => none
      else if isL o = true then match eop noCall P o (ET.fn env) H with
        | some (x, _) => match gstOk P bf i o (ET.fn env) x st with
          | some E => match gdraw ops bf (i + 1) rest st ((i, o, ET.fn env, x) :: ld) (ET.upd env o.dst x) H with
            | some (T, H2, F) => some (T, H2, E ++ F)
            | none => none
          | none => none
        | none => none
      else match gop call P o (ET.fn env) H with
        | some (x, H', E) => match gldOk P bf i H' ld with
          | some E2 => match gdraw ops bf (i + 1) rest ((i, H) :: st) ld (ET.upd env o.dst x) H' with
            | some (T, H2, F) => some (T, H2, E ++ (E2 ++ F))
            | none => none
          | none => none
        | none => none

def gcode : Nat → Code → ET → Heap → Option (Exit × ET × Heap × Pend)
  | 0, _, _, _ => none
  | n + 1, c, env, H => match c with
    | .skip => some (.normal, env, H, [])
    | .ret => some (.ret, env, H, [])
    | .exit id => some (.exit id, env, H, [])
    | .region _ ops false => if dstsB sz ops = true then (match gops call P ops ops.toList env H with
      | some (T, H2, F) => some (.normal, T, H2, F)
      | none => none) else none
    | .region _ ops true => if drawOk sz ops = true then (match gdraw call P ops (Region.before ops).toList 0 ops.toList [] [] env H with
      | some (T, H2, F) => some (.normal, T, H2, F)
      | none => none) else none
    | .seq a b => match gcode n a env H with
      | some (.normal, env', H', E) => (match gcode n b env' H' with
        | some (e, T, H2, F) => some (e, T, H2, E ++ F)
        | none => none)
      | r => r
    | .cond c a b => match aev (ET.fn env) c with
      | .sc (.bool q) => gcode n (if q then a else b) env H
      | _ => none
    | .block id a => match gcode n a env H with
      | some (.exit id', env', H', E) => some (if id' = id then .normal else .exit id', env', H', E)
      | r => r
    | .loop a => match gcode n a env H with
      | some (.normal, env', H', E) => (match gcode n (.loop a) env' H' with
        | some (e, T, H2, F) => some (e, T, H2, E ++ F)
        | none => none)
      | r => r
    | _ => none
end

def gcall (P : Program) (base : ACall) (fs : List FuncId) : Nat → PCall
  | 0, _, _, _ => none
  | n + 1, f, args, H => match base f args H with
    | some (r, H') => some (r, H', [])
    | none => if fs.contains f = true then match P.funcs[f]? with
      | some fn => match fn.body with
        | some c => match gcode (gcall P base fs n) P (args.length + (fn.ntmps - args.length)) deep c (ET.enter args) H with
          | some (e, env, H1, E) => if doneE e = true then match aresults P fn (ET.fn env) H1 with
            | some v => if H.next ≤ H1.next then some (v, H1, E) else none
            | none => none
            else none
          | none => none
        | none => none
      | none => none
      else none

section
variable {call : PCall} {P : Program} {sz : Nat}

def PSound (P : Program) (call : PCall) : Prop := ∀ k a H r H' E, call k a H = some (r, H', E) → Pend.ok E → SCalls P k a H r H'

theorem gop_step (hc : PSound P call) {o : Oper} {env : Env} {H H' : Heap} {x : AV} {E : Pend} (h : gop call P o env H = some (x, H', E)) (hE : Pend.ok E) {K : AV → Heap → Prop} (hk : K x H') : WStep P o env H K := by
  obtain ⟨dst, op, type, pos, after, guard⟩ := o
  have plain : ∀ q : Option (AV × Heap), (match q with
      | some (x, H') => some (x, H', ([] : Pend))
      | none => none) = some (x, H', E) → q = some (x, H') := by
    intro q hq
    cases q with
    | none => cases hq
    | some y => obtain ⟨y1, y2⟩ := y; simp only [Option.some.injEq, Prod.mk.injEq] at hq; rw [hq.1, hq.2.1]
  unfold gop at h
  unfold WStep
  split at h
  · rename_i f args argTypes hop
    simp only at hop
    subst hop
    simp only
    split at h
    · rename_i k first captured hf
      rw [hf]
      exact ⟨x, H', hc _ _ _ _ _ _ h hE, hk⟩
    · cases h
  · rename_i hno
    have h1 := plain _ h
    rw [eop_no] at h1
    split
    · rename_i f args argTypes hop
      exact (hno f args argTypes hop).elim
    · rw [h1]; exact hk

theorem gop_wop (hc : PSound P call) {ops : Array Oper} {o : Oper} {env : Env} {H H' : Heap} {x : AV} {E : Pend} (hw : awanted ops o env = some true) (h : gop call P o env H = some (x, H', E)) (hE : Pend.ok E) {K : Env → Heap → Prop} (hk : K (env.upd o.dst x) H') : WOp P ops o K env H := by
  have := gop_step hc h hE (K := fun x H' => K (env.upd o.dst x) H') hk
  unfold WOp
  rw [hw]
  exact this

theorem gops_sound (hc : PSound P call) {ops : Array Oper} {Q : Exit → Env → Heap → Prop} : ∀ (l : List Oper) (env : ET) (H : Heap) (env' : ET) (H' : Heap) (E : Pend), gops call P ops l env H = some (env', H', E) → Pend.ok E → Q .normal (ET.fn env') H' → WOps P ops Q l (ET.fn env) H
  | [], env, H, env', H', E, h, _, hq => by
    simp only [gops, Option.some.injEq, Prod.mk.injEq] at h
    obtain ⟨rfl, rfl, _⟩ := h
    exact hq
  | o :: rest, env, H, env', H', E, h, hE, hq => by
    simp only [gops] at h
    simp only [WOps]
    split at h
    · cases h
    · rename_i hw
      unfold WOp; rw [hw]
      have := gops_sound hc rest _ _ _ _ _ h hE hq
      rw [ET.fn_upd] at this
      exact this
    · rename_i hw
      split at h
      · rename_i x H1 E1 hx
        split at h
        · rename_i T H2 F h2
          simp only [Option.some.injEq, Prod.mk.injEq] at h
          obtain ⟨rfl, rfl, rfl⟩ := h
          obtain ⟨hE1, hF⟩ := Pend.ok_append hE
          have := gops_sound hc rest _ _ _ _ _ h2 hF hq
          rw [ET.fn_upd] at this
          exact gop_wop hc hw hx hE1 this
        · cases h
      · cases h

theorem gstOk_ok {bf : List Nat} {i : Nat} {o : Oper} {env : Env} {x : AV} (hl : isL o = true) : ∀ {st : List (Nat × Heap)} {E : Pend}, gstOk P bf i o env x st = some E → Pend.ok E → stOk P bf i o env x st
  | [], _, _, _ => trivial
  | (c, Hc) :: r, E, h, hE => by
    simp only [gstOk, eop_no] at h
    cases hb : befL bf c i with
    | true => rw [hb, cond_true] at h; exact ⟨.inl hb, gstOk_ok hl h hE⟩
    | false =>
      rw [hb, cond_false] at h
      split at h
      · rename_i y Hy hy
        split at h
        · rename_i E1 h1
          cases h
          obtain ⟨e1, hE1⟩ := Pend.ok_cons hE
          simp only at e1
          exact ⟨.inr (by rw [hy, e1, aop_reads hl hy]), gstOk_ok hl h1 hE1⟩
        · cases h
      · cases h

theorem gldOk_ok {bf : List Nat} {i : Nat} {H' : Heap} : ∀ {ld : List (Nat × Oper × Env × AV)} {E : Pend}, gldOk P bf i H' ld = some E → Pend.ok E → ldOk P bf i H' ld
  | [], _, _, _ => trivial
  | (y, q, env, x) :: r, E, h, hE => by
    simp only [gldOk, eop_no] at h
    cases hb : befL bf y i with
    | true => rw [hb, cond_true] at h; exact ⟨.inl hb, gldOk_ok h hE⟩
    | false =>
      rw [hb, cond_false] at h
      cases hl : isL q with
      | false => rw [hl, cond_false] at h; cases h
      | true =>
        rw [hl, cond_true] at h
        split at h
        · rename_i z Hz hz
          split at h
          · rename_i E1 h1
            cases h
            obtain ⟨e1, hE1⟩ := Pend.ok_cons hE
            simp only at e1
            exact ⟨.inr (by rw [hz, e1, aop_reads hl hz]), gldOk_ok h1 hE1⟩
          · cases h
        · cases h

theorem gdraw_sound (hc : PSound P call) {ops : Array Oper} {bf : List Nat} {Q : Exit → Env → Heap → Prop} : ∀ (l : List Oper) (i : Nat) (st : List (Nat × Heap)) (ld : List (Nat × Oper × Env × AV)) (env : ET) (H : Heap) (env' : ET) (H' : Heap) (E : Pend),
    gdraw call P ops bf i l st ld env H = some (env', H', E) → Pend.ok E → Q .normal (ET.fn env') H' → WDraw P ops bf i l st ld Q (ET.fn env) H
  | [], i, st, ld, env, H, env', H', E, h, _, hq => by
    simp only [gdraw, Option.some.injEq, Prod.mk.injEq] at h
    obtain ⟨rfl, rfl, _⟩ := h
    exact hq
  | o :: rest, i, st, ld, env, H, env', H', E, h, hE, hq => by
    simp only [gdraw, eop_no] at h
    simp only [WDraw]
    split at h
    · cases h
    · rename_i hw
      rw [hw]
      have := gdraw_sound hc rest _ _ _ _ _ _ _ _ h hE hq
      rw [ET.fn_upd] at this
      exact this
    · rename_i hw
      rw [hw]
      simp only
      split at h
      · rename_i hp
        rw [if_pos hp]
        split at h
        · rename_i x H1 hx
          rw [hx]
          have := gdraw_sound hc rest _ _ _ _ _ _ _ _ h hE hq
          rw [ET.fn_upd] at this
          exact this
        · cases h
      · rename_i hp
        rw [if_neg hp]
        split at h
        · rename_i hl
          rw [if_pos hl]
          split at h
          · rename_i x H1 hx
            rw [hx]
            split at h
            · rename_i E1 hs
              split at h
              · rename_i T H2 F h2
                simp only [Option.some.injEq, Prod.mk.injEq] at h
                obtain ⟨rfl, rfl, rfl⟩ := h
                obtain ⟨hE1, hF⟩ := Pend.ok_append hE
                have := gdraw_sound hc rest _ _ _ _ _ _ _ _ h2 hF hq
                rw [ET.fn_upd] at this
                exact ⟨gstOk_ok hl hs hE1, this⟩
              · cases h
            · cases h
          · cases h
        · rename_i hl
          rw [if_neg hl]
          split at h
          · rename_i x H1 E0 hx
            split at h
            · rename_i E1 hs
              split at h
              · rename_i T H2 F h2
                simp only [Option.some.injEq, Prod.mk.injEq] at h
                obtain ⟨rfl, rfl, rfl⟩ := h
                obtain ⟨hE0, hE1F⟩ := Pend.ok_append hE
                obtain ⟨hE1, hF⟩ := Pend.ok_append hE1F
                have := gdraw_sound hc rest _ _ _ _ _ _ _ _ h2 hF hq
                rw [ET.fn_upd] at this
                exact gop_step hc hx hE0 ⟨gldOk_ok hs hE1, this⟩
              · cases h
            · cases h
          · cases h

theorem gcode_sound (hm : P.follows .mixedOrders = true) (hc : PSound P call) : ∀ (n : Nat) (c : Code) (Q : Exit → Env → Heap → Prop) (env : ET) (H : Heap) (e : Exit) (env' : ET) (H' : Heap) (E : Pend),
    gcode call P sz n c env H = some (e, env', H', E) → Pend.ok E → Q e (ET.fn env') H' → SCode P sz c Q (ET.fn env) H
  | 0, c, Q, env, H, e, env', H', E, h, _, hq => by simp [gcode] at h
  | n + 1, c, Q, env, H, e, env', H', E, h, hE, hq => by
    have ih := gcode_sound hm hc n
    cases c with
    | skip => simp only [gcode, Option.some.injEq, Prod.mk.injEq] at h; obtain ⟨rfl, rfl, rfl, _⟩ := h; exact scode_skip hq
    | ret => simp only [gcode, Option.some.injEq, Prod.mk.injEq] at h; obtain ⟨rfl, rfl, rfl, _⟩ := h; exact scode_ret hq
    | exit id => simp only [gcode, Option.some.injEq, Prod.mk.injEq] at h; obtain ⟨rfl, rfl, rfl, _⟩ := h; exact scode_exit hq
    | region id ops d =>
      cases d with
      | false =>
        simp only [gcode] at h
        split at h
        · rename_i hd
          split at h
          · rename_i T H2 F h2
            simp only [Option.some.injEq, Prod.mk.injEq] at h
            obtain ⟨rfl, rfl, rfl, rfl⟩ := h
            exact scode_region hd (gops_sound hc _ _ _ _ _ _ h2 hE hq)
          · cases h
        · cases h
      | true =>
        simp only [gcode] at h
        split at h
        · rename_i hd
          split at h
          · rename_i T H2 F h2
            simp only [Option.some.injEq, Prod.mk.injEq] at h
            obtain ⟨rfl, rfl, rfl, rfl⟩ := h
            exact scode_draw hm hd (by simp) (gdraw_sound hc _ _ _ _ _ _ _ _ _ h2 hE hq)
          · cases h
        · cases h
    | seq a b =>
      simp only [gcode] at h
      refine scode_seq ?_
      split at h
      · rename_i env1 H1 E1 h1
        split at h
        · rename_i e2 T H2 F h2
          simp only [Option.some.injEq, Prod.mk.injEq] at h
          obtain ⟨rfl, rfl, rfl, rfl⟩ := h
          obtain ⟨hE1, hF⟩ := Pend.ok_append hE
          exact ih a _ _ _ _ _ _ _ h1 hE1 (ih b _ _ _ _ _ _ _ h2 hF hq)
        · cases h
      · rename_i r hr
        refine ih a _ _ _ _ _ _ _ h hE ?_
        cases e with
        | normal => exact (hr _ _ _ h).elim
        | _ => exact hq
    | cond c a b =>
      simp only [gcode] at h
      split at h
      · rename_i q hq'
        exact scode_cond hq' (ih _ _ _ _ _ _ _ _ h hE hq)
      · cases h
    | block id a =>
      simp only [gcode] at h
      refine scode_block ?_
      split at h
      · rename_i id' env1 H1 E1 h1
        simp only [Option.some.injEq, Prod.mk.injEq] at h
        obtain ⟨he, rfl, rfl, rfl⟩ := h
        refine ih a _ _ _ _ _ _ _ h1 hE ?_
        simp only [inBlockA]
        split at he
        · rename_i e1; rw [if_pos e1]; rw [he]; exact hq
        · rename_i e1; rw [if_neg e1]; rw [he]; exact hq
      · rename_i r hr
        refine ih a _ _ _ _ _ _ _ h hE ?_
        cases e with
        | exit id' => exact (hr _ _ _ _ h).elim
        | _ => exact hq
    | loop a =>
      refine scode_loop (Inv := fun m env H => m ≤ n + 1 ∧ ∃ T E, env = ET.fn T ∧ gcode call P sz m (.loop a) T H = some (e, env', H', E) ∧ Pend.ok E) (n := n + 1) ?_ ⟨Nat.le_refl _, _, _, rfl, h, hE⟩
      rintro m env1 H1 ⟨hm1, T1, E1, rfl, h1, hE1⟩
      cases m with
      | zero => simp [gcode] at h1
      | succ m =>
        simp only [gcode] at h1
        have ih' := gcode_sound hm hc m
        split at h1
        · rename_i env2 H2 E2 h2
          split at h1
          · rename_i e3 T3 H3 F3 h3
            simp only [Option.some.injEq, Prod.mk.injEq] at h1
            obtain ⟨rfl, rfl, rfl, rfl⟩ := h1
            obtain ⟨hE2, hF⟩ := Pend.ok_append hE1
            exact ih' a _ _ _ _ _ _ _ h2 hE2 ⟨m, Nat.lt_succ_self _, by omega, _, _, rfl, h3, hF⟩
          · cases h1
        · rename_i r hr
          refine ih' a _ _ _ _ _ _ _ h1 hE1 ?_
          cases e with
          | normal => exact (hr _ _ _ h1).elim
          | _ => exact hq
    | _ => simp [gcode] at h
end

theorem gcall_sound {P : Program} {base : ACall} {fs : List FuncId} (hm : P.follows .mixedOrders = true) (hb : ∀ k a H r H', base k a H = some (r, H') → SCalls P k a H r H') (hfs : ∀ f ∈ fs, Enters P f) : ∀ n, PSound P (gcall P base fs n)
  | 0, f, args, H, r, H', E, h, _ => by simp [gcall] at h
  | n + 1, f, args, H, r, H', E, h, hE => by
    have ih := gcall_sound hm hb hfs n
    simp only [gcall] at h
    split at h
    · rename_i r1 H1 hq
      simp only [Option.some.injEq, Prod.mk.injEq] at h
      obtain ⟨rfl, rfl, _⟩ := h
      exact hb _ _ _ _ _ hq
    split at h
    case isFalse => cases h
    rename_i hf
    split at h
    case h_2 => cases h
    rename_i fn hfn
    split at h
    case h_2 => cases h
    rename_i c hb
    split at h
    case h_2 => cases h
    rename_i e env H1 E1 h1
    split at h
    case isFalse => cases h
    rename_i he
    split at h
    case h_2 => cases h
    rename_i v hv
    split at h
    case isFalse => cases h
    rename_i hl
    simp only [Option.some.injEq, Prod.mk.injEq] at h
    obtain ⟨rfl, rfl, rfl⟩ := h
    have := gcode_sound (sz := args.length + (fn.ntmps - args.length)) hm ih _ _ (fun e env H2 => (e = .ret ∨ e = .normal) ∧ aresults P fn env H2 = some v ∧ H2 = H1) _ _ _ _ _ _ h1 hE ⟨by cases e <;> simp [doneE] at he ⊢, hv, rfl⟩
    rw [ET.fn_enter] at this
    exact scalls_all (hfs f (by simpa using hf)) hfn hb hl this

/-- A call over the empty heap, its outcome kept, and what is still to be shown. -/
def gpc (P : Program) (base : ACall) (fs : List FuncId) (n sz : Nat) (f : FuncId) (args : List AV) : Option (AV × Pend) := match gcall P base fs n f args Heap.empty with
  | some (r, H', E) => match fzTop sz H' r with
    | some v => some (v, E)
    | none => none
  | none => none

theorem gpc_sound {P : Program} {base : ACall} {fs : List FuncId} (hm : P.follows .mixedOrders = true) (hb : ∀ k a H r H', base k a H = some (r, H') → SCalls P k a H r H') (hfs : ∀ f ∈ fs, Enters P f) (n sz : Nat) {f : FuncId} {args : List AV} {r : AV} {E : Pend} (h : gpc P base fs n sz f args = some (r, E)) (hE : Pend.ok E) : SCalls P f args Heap.empty r Heap.empty ∧ r.Lt 0 := by
  unfold gpc at h
  split at h
  · rename_i u H' E1 hu
    split at h
    · rename_i v hv
      cases h
      obtain ⟨h1, h2⟩ := fzTop_ok hv
      exact ⟨scalls_shed (gcall_sound hm hb hfs n _ _ _ _ _ _ hu hE) h1 h2, h2⟩
    · cases h
  · cases h

def lhsE : Option (AV × Pend) → Option AV × List AV
  | some (r, E) => (some r, E.map Prod.fst)
  | none => (none, [])
def rhsE (v : AV) : Option (AV × Pend) → Option AV × List AV
  | some (_, E) => (some v, E.map Prod.snd)
  | none => (some v, [])

theorem pend_maps : ∀ {E : Pend}, E.map Prod.fst = E.map Prod.snd → Pend.ok E
  | [], _ => Pend.ok_nil
  | p :: E, h => by
    simp only [List.map_cons, List.cons.injEq] at h
    intro q hq
    rcases List.mem_cons.1 hq with rfl | hq
    · exact h.1
    · exact pend_maps h.2 q hq

theorem of_sides {v : AV} {q : Option (AV × Pend)} (h : lhsE q = rhsE v q) : ∃ E, q = some (v, E) ∧ Pend.ok E := by
  cases q with
  | none => simp [lhsE, rhsE] at h
  | some r =>
    obtain ⟨r, E⟩ := r
    simp only [lhsE, rhsE, Prod.mk.injEq, Option.some.injEq] at h
    exact ⟨E, by rw [h.1], pend_maps h.2⟩

theorem gpc_rfl {P : Program} {base : ACall} {fs : List FuncId} (hm : P.follows .mixedOrders = true) (hb : ∀ k a H r H', base k a H = some (r, H') → SCalls P k a H r H') (hfs : ∀ f ∈ fs, Enters P f) (n sz : Nat) {f : FuncId} {args : List AV} {r : AV} (h : lhsE (gpc P base fs n sz f args) = rhsE r (gpc P base fs n sz f args)) : SCalls P f args Heap.empty r Heap.empty ∧ r.Lt 0 := by
  obtain ⟨E, h1, h2⟩ := of_sides h
  exact gpc_sound hm hb hfs n sz h1 h2
end Go.Fl
end Fl40S

noncomputable section Fl41S
namespace Go.Fl
open Go

def Heap.one (cs : List AV) : Heap := Heap.empty.alloc cs

/-- What names block 0 names block b instead; all else names no block. -/
inductive AtB (b : Nat) : AV → AV → Prop
  | ptr (o : Nat) : AtB b (.ptr 0 o) (.ptr b o)
  | ms (off len sz : Nat) : AtB b (.ms 0 off len sz) (.ms b off len sz)
  | same {x : AV} : x.Lt 0 → AtB b x x

inductive AtBs (b : Nat) : List AV → List AV → Prop
  | nil : AtBs b [] []
  | cons {x y : AV} {xs ys : List AV} : AtB b x y → AtBs b xs ys → AtBs b (x :: xs) (y :: ys)

theorem AtBs.get {b : Nat} {xs ys : List AV} (h : AtBs b xs ys) : xs.length = ys.length ∧ ∀ (i : Nat) (x : AV), xs[i]? = some x → ∃ y, ys[i]? = some y ∧ AtB b x y := by
  induction h with
  | nil => exact ⟨rfl, fun i x hx => by simp at hx⟩
  | cons h1 _ ih =>
    refine ⟨by simp [ih.1], fun i x hx => ?_⟩
    cases i with
    | zero => simp at hx; subst hx; exact ⟨_, rfl, h1⟩
    | succ i => exact ih.2 i x (by simpa using hx)

theorem VR.plain {ρ ρ' : Rho} {I : Nat → Prop} {hp : Array Obj} {x : AV} {v : Value} (hx : x.Lt 0) (h : VR ρ I hp x v) : VR ρ' I hp x v := by
  have h1 := h.lower hx
  rw [below_zero] at h1
  exact h1.mono' (fun b p hb => by cases hb) (fun _ h => h) (fun _ _ => rfl) (fun _ c _ fz h => ⟨c, fz, h, rfl⟩)

theorem scalls_one {P : Program} {f : FuncId} {args0 args : List AV} {cs0 cs1 : List AV} {r : AV} {H0' : Heap} (h : SCalls P f args0 (Heap.one cs0) r H0') (h0 : H0'.get 0 = some cs1)
    (hcs0 : ∀ x ∈ cs0, x.Lt 0) (hcs1 : ∀ x ∈ cs1, x.Lt 0) (hr : r.Lt 0) {H : Heap} {b : Nat} (hargs : AtBs b args0 args) (hb : H.get b = some cs0) : SCalls P f args H r (H.set b cs1) := by
  refine ⟨h.1, Nat.le_refl _, fun ρ I w cargs hrel hv => ?_⟩
  have hone : ∀ k cs, (Heap.one cs0).get k = some cs → k = 0 ∧ cs = cs0 := by
    intro k cs hk
    unfold Heap.one at hk
    rw [Heap.get_alloc] at hk
    split at hk
    · rename_i e; cases hk; exact ⟨e, rfl⟩
    · rw [show Heap.empty.get k = none from rfl] at hk; cases hk
  let ρ0 : Rho := fun k => if k = 0 then ρ b else none
  have hρ0 : ∀ k p, ρ0 k = some p → k = 0 ∧ ρ b = some p := by
    intro k p hk
    simp only [ρ0] at hk
    split at hk
    · rename_i e; exact ⟨e, hk⟩
    · cases hk
  have hρ00 : ρ0 0 = ρ b := if_pos rfl
  have hrel0 : Rel ρ0 I (Heap.one cs0) w.heap := by
    refine ⟨?_, ?_, ?_, ?_, hrel.irng, hrel.glob⟩
    · intro k cs hk
      obtain ⟨rfl, rfl⟩ := hone k cs hk
      rcases hrel.live b _ hb with h1 | ⟨cb, base, c, e, k1, k2, k3, k4, k5⟩
      · exact .inl ⟨by rw [hρ00]; exact h1.1, h1.2⟩
      · exact .inr ⟨cb, base, c, e, by rw [hρ00]; exact k1, k2, k3, k4, fun i x hx => (k5 i x hx).plain (hcs0 x (List.mem_of_getElem? hx))⟩
    · intro k k' cs cs' cb base base' hk hk' _ _
      rw [(hone k cs hk).1, (hone k' cs' hk').1]
    · intro k p hk
      rw [(hρ0 k p hk).1]
      show 0 < 1
      omega
    · intro k cb base hk
      exact hrel.at_ b cb base (hρ0 k _ hk).2
  have hargs0 : VRs ρ0 I w.heap args0 cargs := by
    obtain ⟨hl, hg⟩ := hargs.get
    refine ⟨by rw [hl]; exact hv.1, fun i x hx => ?_⟩
    obtain ⟨y, hy, hxy⟩ := hg i x hx
    have hvy := hv.2 i y hy
    obtain ⟨u, hu⟩ : ∃ u, cargs.getD i Go.undef = u := ⟨_, rfl⟩
    rw [hu] at hvy ⊢
    cases hxy with
    | ptr o =>
      cases hvy with
      | ptr h1 => exact .ptr (by rw [hρ00]; exact h1)
    | ms off len sz =>
      cases hvy with
      | ms h1 h2 h3 h4 => exact .ms (by rw [hρ00]; exact h1) h2 h3 h4
      | ms0 h1 => exact .ms0 (by rw [hρ00]; exact h1)
    | same hlt => exact hvy.plain hlt
  refine (h.2.2 _ _ w cargs hrel0 hargs0).mono ?_
  rintro e w' ⟨v, ρ', I', he, hv', hr', hx⟩
  have hsome : ∃ p, ρ b = some p := by
    rcases hrel.live b _ hb with h1 | ⟨cb, base, _, _, k1, _⟩
    · exact ⟨_, h1.1⟩
    · exact ⟨_, k1⟩
  obtain ⟨p, hp⟩ := hsome
  have hp' : ρ' 0 = some p := hx.rho 0 p (by rw [hρ00]; exact hp)
  have hset : ∀ k cs, (H.set b cs1).get k = some cs → (k = b ∧ cs = cs1) ∨ (k ≠ b ∧ H.get k = some cs) := by
    intro k cs hk
    rw [Heap.get_set] at hk
    split at hk
    · rename_i e
      subst e
      rw [hb] at hk
      cases hk
      exact .inl ⟨rfl, rfl⟩
    · rename_i e; exact .inr ⟨e, hk⟩
  have hset' : ∀ k cs, (H.set b cs1).get k = some cs → ∃ cs', H.get k = some cs' := by
    intro k cs hk
    rcases hset k cs hk with ⟨rfl, _⟩ | ⟨_, h1⟩
    · exact ⟨_, hb⟩
    · exact ⟨_, h1⟩
  refine ⟨v, ρ, I', he, hv'.plain hr, ?_, ?_⟩
  · refine ⟨?_, ?_, ?_, ?_, hr'.irng, hr'.glob⟩
    · intro k cs hk
      rcases hset k cs hk with ⟨rfl, rfl⟩ | ⟨hne, hk'⟩
      · rcases hr'.live 0 _ h0 with h1 | ⟨cb, base, c, e', k1, k2, k3, k4, k5⟩
        · left
          rw [hp'] at h1
          exact ⟨by rw [hp]; exact h1.1, h1.2⟩
        · right
          rw [hp'] at k1
          exact ⟨cb, base, c, e', by rw [hp]; exact k1, k2, k3, k4, fun i x hx' => (k5 i x hx').plain (hcs1 x (List.mem_of_getElem? hx'))⟩
      · rcases hrel.live k cs hk' with h1 | ⟨cb, base, c, e', k1, k2, k3, k4, k5⟩
        · exact .inl h1
        · have hno : ∀ b0 base0, ρ0 b0 ≠ some (some (cb, base0)) := by
            intro b0 base0 h2
            obtain ⟨_, h3⟩ := hρ0 b0 _ h2
            exact hne (hrel.inj k b cs cs0 cb base base0 hk' hb k1 h3)
          obtain ⟨fz, hf, k3⟩ := k3
          have hlt : cb < w.heap.size := (Array.getElem?_eq_some_iff.1 k3).1
          refine .inr ⟨cb, base, c, e', k1, fun hI => ?_, ⟨fz, hf, by rw [hx.frame cb hlt hno]; exact k3⟩, k4, fun i x hx' => (k5 i x hx').mono' (fun _ _ h => h) hx.imm hx.kept hx.blocks⟩
          rcases hx.newI cb hI with h1 | h1 | ⟨b0, base0, h1⟩
          · exact k2 h1
          · omega
          · exact hno b0 base0 h1
    · intro k k' cs cs' cb base base' hk hk' h1 h2
      obtain ⟨_, hk⟩ := hset' k cs hk
      obtain ⟨_, hk'⟩ := hset' k' cs' hk'
      exact hrel.inj _ _ _ _ _ _ _ hk hk' h1 h2
    · exact hrel.rng
    · intro k cb base hk
      obtain ⟨c, e', fz, h1⟩ := hrel.at_ k cb base hk
      obtain ⟨c', fz', h2, _⟩ := hx.blocks cb c e' fz h1
      exact ⟨c', e', fz', h2⟩
  · exact { rho := fun _ _ h => h
            imm := hx.imm
            size := hx.size
            kept := hx.kept
            blocks := hx.blocks
            frame := fun cb hlt hno => hx.frame cb hlt fun b0 base0 h2 => hno b base0 (hρ0 b0 _ h2).2
            newI := fun cb hcb => by
              rcases hx.newI cb hcb with h1 | h1 | ⟨b0, base0, h1⟩
              · exact .inl h1
              · exact .inr (.inl h1)
              · exact .inr (.inr ⟨b, base0, (hρ0 b0 _ h1).2⟩)
            newR := fun k cb base hk => .inl hk
            os := hx.os
            tape := hx.tape
            output := hx.output }
end Go.Fl
end Fl41S

noncomputable section Fl42S
namespace Go.Fl
open Go

section
variable {P : Program} {H : Heap} {sz n k : Nat} {s x : AV} {cs new : List AV} {bo : Option Nat}

theorem grown_get {b off len sz' : Nat} (h : grown H sz (.ms b off len sz') = some (n, cs, bo)) : sz' = sz ∧ len = n ∧ bo = some b ∧ ∃ c, H.get b = some c ∧ off + len * sz = c.length ∧ cs = c.drop off := by
  unfold grown at h
  simp only at h
  split at h
  · rename_i e
    cases hb : H.get b with
    | none => simp [hb] at h
    | some c =>
      simp only [hb, Option.bind_some] at h
      split at h
      · rename_i e2
        simp only [Option.some.injEq, Prod.mk.injEq] at h
        exact ⟨e, h.1, h.2.2.symm, c, rfl, e2, h.2.1.symm⟩
      · cases h
  · cases h

theorem grown_cases (h : grown H sz s = some (n, cs, bo)) : (s = .nil ∧ n = 0 ∧ cs = [] ∧ bo = none) ∨ ∃ b off, s = .ms b off n sz ∧ bo = some b ∧ ∃ c, H.get b = some c ∧ off + n * sz = c.length ∧ cs = c.drop off := by
  cases s with
  | sc v =>
    unfold grown at h
    split at h
    · rename_i e
      simp only [Option.some.injEq, Prod.mk.injEq] at h
      exact .inl ⟨e, h.1.symm, h.2.1.symm, h.2.2.symm⟩
    · rename_i e; cases e
    · cases h
  | ms b off len sz' =>
    obtain ⟨rfl, rfl, rfl, h1⟩ := grown_get h
    exact .inr ⟨b, off, rfl, rfl, h1⟩
  | _ => simp [grown] at h

theorem grown_of {b : Nat} {c : List AV} (hb : H.get b = some c) (hl : n * sz = c.length) : grown H sz (.ms b 0 n sz) = some (n, c, some b) := by
  simp [grown, hb, hl]

theorem grown_nil : grown H sz .nil = some (0, [], none) := rfl

theorem grown_size (h : grown H sz s = some (n, cs, bo)) : cs.length = n * sz := by
  rcases grown_cases h with ⟨_, rfl, rfl, _⟩ | ⟨b, off, _, _, c, _, h2, rfl⟩
  · simp
  · simp; omega

theorem grown_alloc {v : List AV} (h : grown H sz s = some (n, cs, bo)) : grown (H.alloc v) sz s = some (n, cs, bo) := by
  rcases grown_cases h with ⟨rfl, rfl, rfl, rfl⟩ | ⟨b, off, rfl, rfl, c, h1, h2, rfl⟩
  · rfl
  · have hne : b ≠ H.next := by have := Heap.lt_of_get h1; omega
    simp [grown, Heap.get_alloc, hne, h1, h2]

theorem grown_set {b' : Nat} {v : List AV} (h : grown H sz s = some (n, cs, bo)) (hb : bo ≠ some b') : grown (H.set b' v) sz s = some (n, cs, bo) := by
  rcases grown_cases h with ⟨rfl, rfl, rfl, rfl⟩ | ⟨b, off, rfl, rfl, c, h1, h2, rfl⟩
  · rfl
  · have hne : b ≠ b' := fun e => hb (by rw [e])
    simp [grown, Heap.get_set, hne, h1, h2]

theorem grown_lt {b : Nat} (h : grown H sz s = some (n, cs, some b)) : b < H.next := by
  rcases grown_cases h with ⟨_, _, _, e⟩ | ⟨b', off, _, e, c, h1, _⟩
  · cases e
  · cases e; exact Heap.lt_of_get h1

theorem grown_len {t e : TypeId} (ht : P.underlying t = some (.slice e)) (h : grown H sz s = some (n, cs, bo)) : alen P t s = some (.int n) := by
  rcases grown_cases h with ⟨rfl, rfl, _, _⟩ | ⟨b, off, rfl, _⟩
  · unfold alen; rw [ht]; rfl
  · unfold alen; rw [ht]

theorem grown_froz {d : Nat → Prop} (h : grown H sz s = some (n, cs, bo)) (hd : ∀ b, bo = some b → d b) : Froz H d s (.vs n sz cs) := by
  rcases grown_cases h with ⟨rfl, rfl, rfl, _⟩ | ⟨b, off, rfl, rfl, c, h1, h2, rfl⟩
  · exact .nil sz
  · exact Froz.row h1 (hd _ rfl) (by omega) (by rw [List.take_of_length_le]; simp; omega)

theorem append_step {t e u : TypeId} {bt : Nat} {zs : List AV} (ht : P.underlying t = some (.slice e)) (hs : csz P e = some sz) (hb : byt P e = some bt) (hz : zeroC P e = some zs) (hzl : zs.length = sz)
    (hsrc : source P H sz u x = some (k, new)) (hg : grown H sz s = some (n, cs, bo)) (h1 : (n + k) * bt ≤ 140737488355328) (h2 : n + k ≤ 140737488355328) (hl : new.all AV.leaf = true) :
    aappend P H t u s x = some (.ms H.next 0 (n + k) sz, H.regrow bo (cs ++ new)) := by
  unfold aappend
  simp [ht, hs, hb, hz, hsrc, hg]
  exact ⟨h1, h2, by simpa using hl, hzl⟩

theorem grown_after (hg : grown H sz s = some (n, cs, bo)) (hk : new.length = k * sz) : grown (H.regrow bo (cs ++ new)) sz (.ms H.next 0 (n + k) sz) = some (n + k, cs ++ new, some H.next) := by
  have h1 := grown_size hg
  refine grown_of ?_ (by simp [h1, hk, Nat.add_mul])
  unfold Heap.regrow
  rw [Heap.get_alloc, Heap.delo_next]
  simp

theorem get_regrow_other {b : Nat} {c : List AV} (hc : H.get b = some c) (hb : bo ≠ some b) : (H.regrow bo new).get b = some c := by
  unfold Heap.regrow
  rw [Heap.get_alloc, Heap.delo_next, if_neg (by have := Heap.lt_of_get hc; omega)]
  cases bo with
  | none => exact hc
  | some b' =>
    show (H.del b').get b = _
    rw [Heap.get_del, if_neg (fun e => hb (by rw [e]))]
    exact hc
end

/-- The heap grew at its end by something that nobody of ours names. -/
theorem rel_junk {ρ : Rho} {I : Nat → Prop} {H : Heap} {w w1 : World} (h : Rel ρ I H w.heap) {c : Array Value} {e : TypeId}
    (h1 : w1.heap = w.heap.push (.cells c e)) (hos : w1.os = w.os) (ht : w1.tape = w.tape) (ho : w1.output = w.output) :
    Rel ρ I H w1.heap ∧ Ext ρ I w ρ I w1 := by
  have hold : ∀ (cb : Nat) (o : Obj), w.heap[cb]? = some o → w1.heap[cb]? = some o := fun cb o hc => by
    have := (Array.getElem?_eq_some_iff.1 hc).1
    rw [h1, Array.getElem?_push, if_neg (by omega)]; exact hc
  have hx : Ext ρ I w ρ I w1 :=
    { rho := fun _ _ h => h
      imm := fun _ h => h
      size := by rw [h1]; simp
      kept := fun cb hcb => by rw [h1, Array.getElem?_push, if_neg (by have := h.irng cb hcb; omega)]
      blocks := fun cb c e fz hcb => ⟨c, fz, hold _ _ hcb, rfl⟩
      frame := fun cb hlt _ => by rw [h1, Array.getElem?_push, if_neg (by omega)]
      newI := fun _ h => .inl h
      newR := fun _ _ _ h => .inl h
      os := hos
      tape := ht
      output := ho }
  refine ⟨⟨?_, h.inj, h.rng, ?_, ?_, h.glob.ext hx.imm hx.kept⟩, hx⟩
  · intro b cs hb
    rcases h.live b cs hb with h2 | ⟨cb, base, c', e', h2, h3, ⟨fz4, hf4, h4⟩, h5, h6⟩
    · exact .inl h2
    · exact .inr ⟨cb, base, c', e', h2, h3, ⟨fz4, hf4, hold _ _ h4⟩, h5, fun i x hx' => (h6 i x hx').mono hx⟩
  · intro b cb base hb
    obtain ⟨c', e', fz', hc'⟩ := h.at_ _ _ _ hb
    exact ⟨c', e', fz', hold _ _ hc'⟩
  · intro cb hcb; have := h.irng _ hcb; have := hx.size; omega

attribute [go_sem] grown_nil
end Go.Fl
end Fl42S
