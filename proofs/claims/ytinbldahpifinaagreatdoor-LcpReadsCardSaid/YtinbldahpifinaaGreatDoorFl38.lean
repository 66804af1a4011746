/- A call run by the evaluator whose outcome is handed over as kept, the heap forgotten. -/
import Derived.Test.YtinbldahpifinaaGreatDoorFl33
noncomputable section
namespace Go.Fl
open Go

theorem scalls_shed {P : Program} {f : FuncId} {args : List AV} {r r' : AV} {H' : Heap} (h : SCalls P f args Heap.empty r H') (hf : Froz H' (fun _ => True) r r') (hr : r'.Lt 0) : SCalls P f args Heap.empty r' Heap.empty := by
  refine ⟨h.1, Nat.le_refl _, fun ρ I w cargs hrel hargs => (h.2.2 ρ I w cargs hrel hargs).mono ?_⟩
  rintro e w' ⟨u, ρ', I', he, hv, hr', hx⟩
  have hρ : ∀ b, ρ b = none := fun b => by
    cases hb : ρ b with
    | none => rfl
    | some p => have := hrel.rng b p hb; exact absurd this (Nat.not_lt_zero _)
  have hE : Heap.empty.le { H' with } := fun b cs hb => by rw [show Heap.empty.get b = none from rfl] at hb; cases hb
  have hf' : Froz H' (fun b => Heap.empty.get b = none) r r' := hf.mono fun b _ => rfl
  have hv' := (hf'.vr hr' hv).lower hr
  rw [below_zero] at hv'
  refine ⟨u, fun _ => none, keptBy ρ' I' H' Heap.empty, he, hv', ?_, ?_⟩
  · refine ⟨?_, ?_, ?_, ?_, ?_⟩
    · intro b cs hb; rw [show Heap.empty.get b = none from rfl] at hb; cases hb
    · intro b b' cs cs' cb base base' hb; rw [show Heap.empty.get b = none from rfl] at hb; cases hb
    · intro b p hb; cases hb
    · intro b cb base hb; cases hb
    · rintro cb (h1 | ⟨b, cs, base, h1, h2, h3⟩)
      · exact hr'.irng cb h1
      · obtain ⟨c, e, fz, h4⟩ := hr'.at_ b cb base h3
        exact (Array.getElem?_eq_some_iff.1 h4).1
  · exact { hx with
            rho := fun b p hb => by rw [hρ b] at hb; cases hb
            imm := fun cb hcb => .inl (hx.imm cb hcb)
            newI := fun cb hcb => by
              rcases hcb with hcb | ⟨b, cs, base, h1, h2, h3⟩
              · exact hx.newI cb hcb
              · rcases hx.newR b cb base h3 with h4 | h4 | ⟨b0, base0, h4⟩
                · exact .inr (.inr ⟨_, _, h4⟩)
                · exact .inr (.inl h4)
                · exact .inr (.inr ⟨_, _, h4⟩)
            newR := fun b cb base hb => by cases hb }

/-- Behind the first part stands what is said between. -/
theorem scode_seq_mid {P : Program} {sz : Nat} {x y : Code} {Q : Exit → Env → Heap → Prop} {env : Env} {H : Heap} (F : Env → Heap → Prop) (h1 : SCode P sz x (thenA F Q) env H) (h2 : ∀ env H, F env H → SCode P sz y Q env H) : SCode P sz (.seq x y) Q env H :=
  scode_seq_k fun K hK => scode_cut F h1 fun env H h => hK _ _ (h2 _ _ h)

mutual
def frz : Nat → Heap → AV → Option AV
  | 0, _, _ => none
  | _ + 1, _, .sc v => some (.sc v)
  | n + 1, H, .ms b off len sz => match H.get b with
    | some cs => cond (Nat.ble (off + len * sz) cs.length) (match frzL n H ((cs.drop off).take (len * sz)) with
      | some cells => some (.vs len sz cells)
      | none => none) none
    | none => none
  | n + 1, H, .vs len sz cs => match frzL n H cs with
    | some cells => some (.vs len sz cells)
    | none => none
  | n + 1, H, .agg cs => match frzL n H cs with
    | some cells => some (.agg cells)
    | none => none
  | n + 1, H, .tup cs => match frzL n H cs with
    | some cells => some (.tup cells)
    | none => none
  | _ + 1, _, _ => none
def frzL : Nat → Heap → List AV → Option (List AV)
  | 0, _, _ => none
  | _ + 1, _, [] => some []
  | n + 1, H, x :: r => match frz n H x with
    | some y => match frzL n H r with
      | some ys => some (y :: ys)
      | none => none
    | none => none
end

theorem frz_ok : ∀ (n : Nat) (H : Heap), (∀ x y, frz n H x = some y → Froz H (fun _ => True) x y ∧ y.Lt 0) ∧ (∀ xs ys, frzL n H xs = some ys → FrozL H (fun _ => True) xs ys ∧ ∀ y ∈ ys, y.Lt 0)
  | 0, H => ⟨fun x y h => by simp [frz] at h, fun x y h => by simp [frzL] at h⟩
  | n + 1, H => by
    obtain ⟨ih1, ih2⟩ := frz_ok n H
    refine ⟨fun x y h => ?_, fun xs ys h => ?_⟩
    · cases x <;> simp only [frz] at h
      case sc v => cases h; exact ⟨.same _, .sc v⟩
      case ms b off len sz =>
        split at h
        case h_2 => cases h
        rename_i cs hb
        cases hc : Nat.ble (off + len * sz) cs.length with
        | false => rw [hc, cond_false] at h; cases h
        | true =>
          rw [hc, cond_true] at h
          split at h
          case h_2 => cases h
          rename_i cells hcells
          cases h
          obtain ⟨h1, h2⟩ := ih2 _ _ hcells
          exact ⟨Froz.rowL hb trivial (Nat.le_of_ble_eq_true hc) h1, .vs h2⟩
      case vs len sz cs =>
        split at h
        case h_2 => cases h
        rename_i cells hcells
        cases h
        obtain ⟨h1, h2⟩ := ih2 _ _ hcells
        exact ⟨.vs h1.get.1 fun i x y hx hy => h1.get.2 i x y hx hy, .vs h2⟩
      case agg cs =>
        split at h
        case h_2 => cases h
        rename_i cells hcells
        cases h
        obtain ⟨h1, h2⟩ := ih2 _ _ hcells
        exact ⟨.agg h1.get.1 fun i x y hx hy => h1.get.2 i x y hx hy, .agg h2⟩
      case tup cs =>
        split at h
        case h_2 => cases h
        rename_i cells hcells
        cases h
        obtain ⟨h1, h2⟩ := ih2 _ _ hcells
        exact ⟨.tup h1.get.1 fun i x y hx hy => h1.get.2 i x y hx hy, .tup h2⟩
      all_goals cases h
    · cases xs with
      | nil => simp only [frzL] at h; cases h; exact ⟨.nil, fun y hy => by cases hy⟩
      | cons x r =>
        simp only [frzL] at h
        split at h
        case h_2 => cases h
        rename_i y hy
        split at h
        case h_2 => cases h
        rename_i ys hys
        cases h
        obtain ⟨h1, h2⟩ := ih1 _ _ hy
        obtain ⟨h3, h4⟩ := ih2 _ _ hys
        refine ⟨.cons h1 h3, fun z hz => ?_⟩
        rcases List.mem_cons.1 hz with rfl | hz
        · exact h2
        · exact h4 z hz

/-- A call over the empty heap, its outcome kept. -/
def pcall (P : Program) (fs : List FuncId) (n : Nat) (f : FuncId) (args : List AV) : Option AV := match ecall P fs n f args Heap.empty with
  | some (r, H') => frz 100 H' r
  | none => none

theorem pcall_sound {P : Program} {fs : List FuncId} (hm : P.follows .mixedOrders = true) (hfs : ∀ f ∈ fs, Enters P f) (n : Nat) {f : FuncId} {args : List AV} {r : AV} (h : pcall P fs n f args = some r) : SCalls P f args Heap.empty r Heap.empty ∧ r.Lt 0 := by
  unfold pcall at h
  split at h
  · rename_i u H' hu
    obtain ⟨h1, h2⟩ := (frz_ok 100 H').1 _ _ h
    exact ⟨scalls_shed (ecall_sound hm hfs n _ _ _ _ _ hu) h1 h2, h2⟩
  · cases h
end Go.Fl

noncomputable section
namespace Go.Fl
open Go

def ecallX (P : Program) (base : ACall) (fs : List FuncId) : Nat → ACall
  | 0, _, _, _ => none
  | n + 1, f, args, H => match base f args H with
    | some r => some r
    | none => if fs.contains f = true then match P.funcs[f]? with
      | some fn => match fn.body with
        | some c => match ecode (ecallX P base fs n) P (args.length + (fn.ntmps - args.length)) deep c (ET.enter args) H with
          | some (e, env, H1) => if doneE e = true then match aresults P fn (ET.fn env) H1 with
            | some v => if H.next ≤ H1.next then some (v, H1) else none
            | none => none
            else none
          | none => none
        | none => none
      | none => none
      else none

theorem ecallX_sound {P : Program} {base : ACall} {fs : List FuncId} (hm : P.follows .mixedOrders = true) (hb : ∀ k a H r H', base k a H = some (r, H') → SCalls P k a H r H') (hfs : ∀ f ∈ fs, Enters P f) :
    ∀ (n : Nat) (f : FuncId) (args : List AV) (H : Heap) (r : AV) (H' : Heap), ecallX P base fs n f args H = some (r, H') → SCalls P f args H r H'
  | 0, f, args, H, r, H', h => by simp [ecallX] at h
  | n + 1, f, args, H, r, H', h => by
    have ih := ecallX_sound hm hb hfs n
    simp only [ecallX] at h
    split at h
    · rename_i q hq
      cases h
      exact hb _ _ _ _ _ hq
    split at h
    case isFalse => cases h
    rename_i hf
    split at h
    case h_2 => cases h
    rename_i fn hfn
    split at h
    case h_2 => cases h
    rename_i c hb
    split at h
    case h_2 => cases h
    rename_i e env H1 h1
    split at h
    case isFalse => cases h
    rename_i he
    split at h
    case h_2 => cases h
    rename_i v hv
    split at h
    case isFalse => cases h
    rename_i hl
    simp only [Option.some.injEq, Prod.mk.injEq] at h
    obtain ⟨rfl, rfl⟩ := h
    have := ecode_sound (sz := args.length + (fn.ntmps - args.length)) hm ih _ _ (fun e env H2 => (e = .ret ∨ e = .normal) ∧ aresults P fn env H2 = some v ∧ H2 = H1) _ _ _ _ _ h1 ⟨by cases e <;> simp [doneE] at he ⊢, hv, rfl⟩
    rw [ET.fn_enter] at this
    exact scalls_all (hfs f (by simpa using hf)) hfn hb hl this

mutual
def fzn : Nat → Heap → AV → Option AV
  | 0, _, _ => none
  | _ + 1, _, .sc v => match v with
    | .slice none 0 0 => some (.vs 0 1 [])
    | v => some (.sc v)
  | n + 1, H, .ms b off len sz => match H.get b with
    | some cs => cond (Nat.ble (off + len * sz) cs.length) (match fznL n H ((cs.drop off).take (len * sz)) with
      | some cells => some (.vs len sz cells)
      | none => none) none
    | none => none
  | n + 1, H, .vs len sz cs => match fznL n H cs with
    | some cells => some (.vs len sz cells)
    | none => none
  | n + 1, H, .agg cs => match fznL n H cs with
    | some cells => some (.agg cells)
    | none => none
  | n + 1, H, .tup cs => match fznL n H cs with
    | some cells => some (.tup cells)
    | none => none
  | _ + 1, _, _ => none
def fznL : Nat → Heap → List AV → Option (List AV)
  | 0, _, _ => none
  | _ + 1, _, [] => some []
  | n + 1, H, x :: r => match fzn n H x with
    | some y => match fznL n H r with
      | some ys => some (y :: ys)
      | none => none
    | none => none
end

theorem fzn_ok : ∀ (n : Nat) (H : Heap), (∀ x y, fzn n H x = some y → Froz H (fun _ => True) x y ∧ y.Lt 0) ∧ (∀ xs ys, fznL n H xs = some ys → FrozL H (fun _ => True) xs ys ∧ ∀ y ∈ ys, y.Lt 0)
  | 0, H => ⟨fun x y h => by simp [fzn] at h, fun x y h => by simp [fznL] at h⟩
  | n + 1, H => by
    obtain ⟨ih1, ih2⟩ := fzn_ok n H
    refine ⟨fun x y h => ?_, fun xs ys h => ?_⟩
    · cases x <;> simp only [fzn] at h
      case sc v =>
        split at h
        · cases h; exact ⟨.nil 1, .vs fun x hx => by cases hx⟩
        · cases h; exact ⟨.same _, .sc _⟩
      case ms b off len sz =>
        split at h
        case h_2 => cases h
        rename_i cs hb
        cases hc : Nat.ble (off + len * sz) cs.length with
        | false => rw [hc, cond_false] at h; cases h
        | true =>
          rw [hc, cond_true] at h
          split at h
          case h_2 => cases h
          rename_i cells hcells
          cases h
          obtain ⟨h1, h2⟩ := ih2 _ _ hcells
          exact ⟨Froz.rowL hb trivial (Nat.le_of_ble_eq_true hc) h1, .vs h2⟩
      case vs len sz cs =>
        split at h
        case h_2 => cases h
        rename_i cells hcells
        cases h
        obtain ⟨h1, h2⟩ := ih2 _ _ hcells
        exact ⟨.vs h1.get.1 fun i x y hx hy => h1.get.2 i x y hx hy, .vs h2⟩
      case agg cs =>
        split at h
        case h_2 => cases h
        rename_i cells hcells
        cases h
        obtain ⟨h1, h2⟩ := ih2 _ _ hcells
        exact ⟨.agg h1.get.1 fun i x y hx hy => h1.get.2 i x y hx hy, .agg h2⟩
      case tup cs =>
        split at h
        case h_2 => cases h
        rename_i cells hcells
        cases h
        obtain ⟨h1, h2⟩ := ih2 _ _ hcells
        exact ⟨.tup h1.get.1 fun i x y hx hy => h1.get.2 i x y hx hy, .tup h2⟩
      all_goals cases h
    · cases xs with
      | nil => simp only [fznL] at h; cases h; exact ⟨.nil, fun y hy => by cases hy⟩
      | cons x r =>
        simp only [fznL] at h
        split at h
        case h_2 => cases h
        rename_i y hy
        split at h
        case h_2 => cases h
        rename_i ys hys
        cases h
        obtain ⟨h1, h2⟩ := ih1 _ _ hy
        obtain ⟨h3, h4⟩ := ih2 _ _ hys
        refine ⟨.cons h1 h3, fun z hz => ?_⟩
        rcases List.mem_cons.1 hz with rfl | hz
        · exact h2
        · exact h4 z hz

/-- nil at the top stands for no rows of sz cells. -/
def fzTop (sz : Nat) (H : Heap) : AV → Option AV
  | .sc (.slice none 0 0) => some (.vs 0 sz [])
  | x => fzn 100 H x

theorem fzTop_ok {sz : Nat} {H : Heap} {x y : AV} (h : fzTop sz H x = some y) : Froz H (fun _ => True) x y ∧ y.Lt 0 := by
  unfold fzTop at h
  split at h
  · cases h; exact ⟨.nil sz, .vs fun x hx => by cases hx⟩
  · exact (fzn_ok 100 H).1 _ _ h

/-- A call over the empty heap, its outcome kept. -/
def pcallX (P : Program) (base : ACall) (fs : List FuncId) (n sz : Nat) (f : FuncId) (args : List AV) : Option AV := match ecallX P base fs n f args Heap.empty with
  | some (r, H') => fzTop sz H' r
  | none => none

theorem pcallX_sound {P : Program} {base : ACall} {fs : List FuncId} (hm : P.follows .mixedOrders = true) (hb : ∀ k a H r H', base k a H = some (r, H') → SCalls P k a H r H') (hfs : ∀ f ∈ fs, Enters P f) (n sz : Nat) {f : FuncId} {args : List AV} {r : AV} (h : pcallX P base fs n sz f args = some r) : SCalls P f args Heap.empty r Heap.empty ∧ r.Lt 0 := by
  unfold pcallX at h
  split at h
  · rename_i u H' hu
    obtain ⟨h1, h2⟩ := fzTop_ok h
    exact ⟨scalls_shed (ecallX_sound hm hb hfs n _ _ _ _ _ hu) h1 h2, h2⟩
  · cases h
end Go.Fl

noncomputable section
namespace Go.Fl
open Go

abbrev Pend := List (AV × AV)
def Pend.ok (E : Pend) : Prop := ∀ p ∈ E, p.1 = p.2
theorem Pend.ok_nil : Pend.ok [] := fun _ h => by cases h
theorem Pend.ok_append {E F : Pend} (h : Pend.ok (E ++ F)) : Pend.ok E ∧ Pend.ok F := ⟨fun p hp => h p (List.mem_append_left _ hp), fun p hp => h p (List.mem_append_right _ hp)⟩
theorem Pend.ok_cons {p : AV × AV} {F : Pend} (h : Pend.ok (p :: F)) : p.1 = p.2 ∧ Pend.ok F := ⟨h p List.mem_cons_self, fun q hq => h q (List.mem_cons_of_mem _ hq)⟩

abbrev PCall := FuncId → List AV → Heap → Option (AV × Heap × Pend)

section
variable (call : PCall) (P : Program) (sz : Nat)

def gop (o : Oper) (env : Env) (H : Heap) : Option (AV × Heap × Pend) :=
  match o.op with
  | .call { callee := .value f, args, argTypes := _ } => match aev env f with
    | .fn (.func k) first captured => call k (first ++ args.toList.map (aev env) ++ captured) H
    | _ => none
  | _ => match eop noCall P o env H with
    | some (x, H') => some (x, H', [])
    | none => none

def gops (ops : Array Oper) : List Oper → ET → Heap → Option (ET × Heap × Pend)
  | [], env, H => some (env, H, [])
  | o :: rest, env, H => match awanted ops o (ET.fn env) with
    | none => none
    | some false => gops ops rest (ET.upd env o.dst .undef) H
    | some true => match gop call P o (ET.fn env) H with
      | some (x, H', E) => match gops ops rest (ET.upd env o.dst x) H' with
        | some (T, H2, F) => some (T, H2, E ++ F)
        | none => none
      | none => none

def gstOk (bf : List Nat) (i : Nat) (o : Oper) (env : Env) (x : AV) : List (Nat × Heap) → Option Pend
  | [] => some []
  | (c, Hc) :: r => cond (befL bf c i) (gstOk bf i o env x r) (match eop noCall P o env Hc with
    | some (y, _) => match gstOk bf i o env x r with
      | some E => some ((y, x) :: E)
      | none => none
    | none => none)

def gldOk (bf : List Nat) (i : Nat) (H' : Heap) : List (Nat × Oper × Env × AV) → Option Pend
  | [] => some []
  | (y, q, env, x) :: r => cond (befL bf y i) (gldOk bf i H' r) (cond (isL q) (match eop noCall P q env H' with
    | some (z, _) => match gldOk bf i H' r with
      | some E => some ((z, x) :: E)
      | none => none
    | none => none) none)

def gdraw (ops : Array Oper) (bf : List Nat) : Nat → List Oper → List (Nat × Heap) → List (Nat × Oper × Env × AV) → ET → Heap → Option (ET × Heap × Pend)
  | _, [], _, _, env, H => some (env, H, [])
  | i, o :: rest, st, ld, env, H => match awanted ops o (ET.fn env) with
    | none => none
    | some false => gdraw ops bf (i + 1) rest st ld (ET.upd env o.dst .undef) H
    | some true =>
      if isP o = true then match eop noCall P o (ET.fn env) H with
        | some (x, _) => gdraw ops bf (i + 1) rest st ld (ET.upd env o.dst x) H
        | none => none
      else if isL o = true then match eop noCall P o (ET.fn env) H with
        | some (x, _) => match gstOk P bf i o (ET.fn env) x st with
          | some E => match gdraw ops bf (i + 1) rest st ((i, o, ET.fn env, x) :: ld) (ET.upd env o.dst x) H with
            | some (T, H2, F) => some (T, H2, E ++ F)
            | none => none
          | none => none
        | none => none
      else match gop call P o (ET.fn env) H with
        | some (x, H', E) => match gldOk P bf i H' ld with
          | some E2 => match gdraw ops bf (i + 1) rest ((i, H) :: st) ld (ET.upd env o.dst x) H' with
            | some (T, H2, F) => some (T, H2, E ++ (E2 ++ F))
            | none => none
          | none => none
        | none => none

def gcode : Nat → Code → ET → Heap → Option (Exit × ET × Heap × Pend)
  | 0, _, _, _ => none
  | n + 1, c, env, H => match c with
    | .skip => some (.normal, env, H, [])
    | .ret => some (.ret, env, H, [])
    | .exit id => some (.exit id, env, H, [])
    | .region _ ops false => if dstsB sz ops = true then (match gops call P ops ops.toList env H with
      | some (T, H2, F) => some (.normal, T, H2, F)
      | none => none) else none
    | .region _ ops true => if drawOk sz ops = true then (match gdraw call P ops (Region.before ops).toList 0 ops.toList [] [] env H with
      | some (T, H2, F) => some (.normal, T, H2, F)
      | none => none) else none
    | .seq a b => match gcode n a env H with
      | some (.normal, env', H', E) => (match gcode n b env' H' with
        | some (e, T, H2, F) => some (e, T, H2, E ++ F)
        | none => none)
      | r => r
    | .cond c a b => match aev (ET.fn env) c with
      | .sc (.bool q) => gcode n (if q then a else b) env H
      | _ => none
    | .block id a => match gcode n a env H with
      | some (.exit id', env', H', E) => some (if id' = id then .normal else .exit id', env', H', E)
      | r => r
    | .loop a => match gcode n a env H with
      | some (.normal, env', H', E) => (match gcode n (.loop a) env' H' with
        | some (e, T, H2, F) => some (e, T, H2, E ++ F)
        | none => none)
      | r => r
    | _ => none
end

def gcall (P : Program) (base : ACall) (fs : List FuncId) : Nat → PCall
  | 0, _, _, _ => none
  | n + 1, f, args, H => match base f args H with
    | some (r, H') => some (r, H', [])
    | none => if fs.contains f = true then match P.funcs[f]? with
      | some fn => match fn.body with
        | some c => match gcode (gcall P base fs n) P (args.length + (fn.ntmps - args.length)) deep c (ET.enter args) H with
          | some (e, env, H1, E) => if doneE e = true then match aresults P fn (ET.fn env) H1 with
            | some v => if H.next ≤ H1.next then some (v, H1, E) else none
            | none => none
            else none
          | none => none
        | none => none
      | none => none
      else none

section
variable {call : PCall} {P : Program} {sz : Nat}

def PSound (P : Program) (call : PCall) : Prop := ∀ k a H r H' E, call k a H = some (r, H', E) → Pend.ok E → SCalls P k a H r H'

theorem gop_step (hc : PSound P call) {o : Oper} {env : Env} {H H' : Heap} {x : AV} {E : Pend} (h : gop call P o env H = some (x, H', E)) (hE : Pend.ok E) {K : AV → Heap → Prop} (hk : K x H') : WStep P o env H K := by
  obtain ⟨dst, op, type, pos, after, guard⟩ := o
  have plain : ∀ q : Option (AV × Heap), (match q with
      | some (x, H') => some (x, H', ([] : Pend))
      | none => none) = some (x, H', E) → q = some (x, H') := by
    intro q hq
    cases q with
    | none => cases hq
    | some y => obtain ⟨y1, y2⟩ := y; simp only [Option.some.injEq, Prod.mk.injEq] at hq; rw [hq.1, hq.2.1]
  unfold gop at h
  unfold WStep
  split at h
  · rename_i f args argTypes hop
    simp only at hop
    subst hop
    simp only
    split at h
    · rename_i k first captured hf
      rw [hf]
      exact ⟨x, H', hc _ _ _ _ _ _ h hE, hk⟩
    · cases h
  · rename_i hno
    have h1 := plain _ h
    rw [eop_no] at h1
    split
    · rename_i f args argTypes hop
      exact (hno f args argTypes hop).elim
    · rw [h1]; exact hk

theorem gop_wop (hc : PSound P call) {ops : Array Oper} {o : Oper} {env : Env} {H H' : Heap} {x : AV} {E : Pend} (hw : awanted ops o env = some true) (h : gop call P o env H = some (x, H', E)) (hE : Pend.ok E) {K : Env → Heap → Prop} (hk : K (env.upd o.dst x) H') : WOp P ops o K env H := by
  have := gop_step hc h hE (K := fun x H' => K (env.upd o.dst x) H') hk
  unfold WOp
  rw [hw]
  exact this

theorem gops_sound (hc : PSound P call) {ops : Array Oper} {Q : Exit → Env → Heap → Prop} : ∀ (l : List Oper) (env : ET) (H : Heap) (env' : ET) (H' : Heap) (E : Pend), gops call P ops l env H = some (env', H', E) → Pend.ok E → Q .normal (ET.fn env') H' → WOps P ops Q l (ET.fn env) H
  | [], env, H, env', H', E, h, _, hq => by
    simp only [gops, Option.some.injEq, Prod.mk.injEq] at h
    obtain ⟨rfl, rfl, _⟩ := h
    exact hq
  | o :: rest, env, H, env', H', E, h, hE, hq => by
    simp only [gops] at h
    simp only [WOps]
    split at h
    · cases h
    · rename_i hw
      unfold WOp; rw [hw]
      have := gops_sound hc rest _ _ _ _ _ h hE hq
      rw [ET.fn_upd] at this
      exact this
    · rename_i hw
      split at h
      · rename_i x H1 E1 hx
        split at h
        · rename_i T H2 F h2
          simp only [Option.some.injEq, Prod.mk.injEq] at h
          obtain ⟨rfl, rfl, rfl⟩ := h
          obtain ⟨hE1, hF⟩ := Pend.ok_append hE
          have := gops_sound hc rest _ _ _ _ _ h2 hF hq
          rw [ET.fn_upd] at this
          exact gop_wop hc hw hx hE1 this
        · cases h
      · cases h

theorem gstOk_ok {bf : List Nat} {i : Nat} {o : Oper} {env : Env} {x : AV} (hl : isL o = true) : ∀ {st : List (Nat × Heap)} {E : Pend}, gstOk P bf i o env x st = some E → Pend.ok E → stOk P bf i o env x st
  | [], _, _, _ => trivial
  | (c, Hc) :: r, E, h, hE => by
    simp only [gstOk, eop_no] at h
    cases hb : befL bf c i with
    | true => rw [hb, cond_true] at h; exact ⟨.inl hb, gstOk_ok hl h hE⟩
    | false =>
      rw [hb, cond_false] at h
      split at h
      · rename_i y Hy hy
        split at h
        · rename_i E1 h1
          cases h
          obtain ⟨e1, hE1⟩ := Pend.ok_cons hE
          simp only at e1
          exact ⟨.inr (by rw [hy, e1, aop_reads hl hy]), gstOk_ok hl h1 hE1⟩
        · cases h
      · cases h

theorem gldOk_ok {bf : List Nat} {i : Nat} {H' : Heap} : ∀ {ld : List (Nat × Oper × Env × AV)} {E : Pend}, gldOk P bf i H' ld = some E → Pend.ok E → ldOk P bf i H' ld
  | [], _, _, _ => trivial
  | (y, q, env, x) :: r, E, h, hE => by
    simp only [gldOk, eop_no] at h
    cases hb : befL bf y i with
    | true => rw [hb, cond_true] at h; exact ⟨.inl hb, gldOk_ok h hE⟩
    | false =>
      rw [hb, cond_false] at h
      cases hl : isL q with
      | false => rw [hl, cond_false] at h; cases h
      | true =>
        rw [hl, cond_true] at h
        split at h
        · rename_i z Hz hz
          split at h
          · rename_i E1 h1
            cases h
            obtain ⟨e1, hE1⟩ := Pend.ok_cons hE
            simp only at e1
            exact ⟨.inr (by rw [hz, e1, aop_reads hl hz]), gldOk_ok h1 hE1⟩
          · cases h
        · cases h

theorem gdraw_sound (hc : PSound P call) {ops : Array Oper} {bf : List Nat} {Q : Exit → Env → Heap → Prop} : ∀ (l : List Oper) (i : Nat) (st : List (Nat × Heap)) (ld : List (Nat × Oper × Env × AV)) (env : ET) (H : Heap) (env' : ET) (H' : Heap) (E : Pend),
    gdraw call P ops bf i l st ld env H = some (env', H', E) → Pend.ok E → Q .normal (ET.fn env') H' → WDraw P ops bf i l st ld Q (ET.fn env) H
  | [], i, st, ld, env, H, env', H', E, h, _, hq => by
    simp only [gdraw, Option.some.injEq, Prod.mk.injEq] at h
    obtain ⟨rfl, rfl, _⟩ := h
    exact hq
  | o :: rest, i, st, ld, env, H, env', H', E, h, hE, hq => by
    simp only [gdraw, eop_no] at h
    simp only [WDraw]
    split at h
    · cases h
    · rename_i hw
      rw [hw]
      have := gdraw_sound hc rest _ _ _ _ _ _ _ _ h hE hq
      rw [ET.fn_upd] at this
      exact this
    · rename_i hw
      rw [hw]
      simp only
      split at h
      · rename_i hp
        rw [if_pos hp]
        split at h
        · rename_i x H1 hx
          rw [hx]
          have := gdraw_sound hc rest _ _ _ _ _ _ _ _ h hE hq
          rw [ET.fn_upd] at this
          exact this
        · cases h
      · rename_i hp
        rw [if_neg hp]
        split at h
        · rename_i hl
          rw [if_pos hl]
          split at h
          · rename_i x H1 hx
            rw [hx]
            split at h
            · rename_i E1 hs
              split at h
              · rename_i T H2 F h2
                simp only [Option.some.injEq, Prod.mk.injEq] at h
                obtain ⟨rfl, rfl, rfl⟩ := h
                obtain ⟨hE1, hF⟩ := Pend.ok_append hE
                have := gdraw_sound hc rest _ _ _ _ _ _ _ _ h2 hF hq
                rw [ET.fn_upd] at this
                exact ⟨gstOk_ok hl hs hE1, this⟩
              · cases h
            · cases h
          · cases h
        · rename_i hl
          rw [if_neg hl]
          split at h
          · rename_i x H1 E0 hx
            split at h
            · rename_i E1 hs
              split at h
              · rename_i T H2 F h2
                simp only [Option.some.injEq, Prod.mk.injEq] at h
                obtain ⟨rfl, rfl, rfl⟩ := h
                obtain ⟨hE0, hE1F⟩ := Pend.ok_append hE
                obtain ⟨hE1, hF⟩ := Pend.ok_append hE1F
                have := gdraw_sound hc rest _ _ _ _ _ _ _ _ h2 hF hq
                rw [ET.fn_upd] at this
                exact gop_step hc hx hE0 ⟨gldOk_ok hs hE1, this⟩
              · cases h
            · cases h
          · cases h

theorem gcode_sound (hm : P.follows .mixedOrders = true) (hc : PSound P call) : ∀ (n : Nat) (c : Code) (Q : Exit → Env → Heap → Prop) (env : ET) (H : Heap) (e : Exit) (env' : ET) (H' : Heap) (E : Pend),
    gcode call P sz n c env H = some (e, env', H', E) → Pend.ok E → Q e (ET.fn env') H' → SCode P sz c Q (ET.fn env) H
  | 0, c, Q, env, H, e, env', H', E, h, _, hq => by simp [gcode] at h
  | n + 1, c, Q, env, H, e, env', H', E, h, hE, hq => by
    have ih := gcode_sound hm hc n
    cases c with
    | skip => simp only [gcode, Option.some.injEq, Prod.mk.injEq] at h; obtain ⟨rfl, rfl, rfl, _⟩ := h; exact scode_skip hq
    | ret => simp only [gcode, Option.some.injEq, Prod.mk.injEq] at h; obtain ⟨rfl, rfl, rfl, _⟩ := h; exact scode_ret hq
    | exit id => simp only [gcode, Option.some.injEq, Prod.mk.injEq] at h; obtain ⟨rfl, rfl, rfl, _⟩ := h; exact scode_exit hq
    | region id ops d =>
      cases d with
      | false =>
        simp only [gcode] at h
        split at h
        · rename_i hd
          split at h
          · rename_i T H2 F h2
            simp only [Option.some.injEq, Prod.mk.injEq] at h
            obtain ⟨rfl, rfl, rfl, rfl⟩ := h
            exact scode_region hd (gops_sound hc _ _ _ _ _ _ h2 hE hq)
          · cases h
        · cases h
      | true =>
        simp only [gcode] at h
        split at h
        · rename_i hd
          split at h
          · rename_i T H2 F h2
            simp only [Option.some.injEq, Prod.mk.injEq] at h
            obtain ⟨rfl, rfl, rfl, rfl⟩ := h
            exact scode_draw hm hd (by simp) (gdraw_sound hc _ _ _ _ _ _ _ _ _ h2 hE hq)
          · cases h
        · cases h
    | seq a b =>
      simp only [gcode] at h
      refine scode_seq ?_
      split at h
      · rename_i env1 H1 E1 h1
        split at h
        · rename_i e2 T H2 F h2
          simp only [Option.some.injEq, Prod.mk.injEq] at h
          obtain ⟨rfl, rfl, rfl, rfl⟩ := h
          obtain ⟨hE1, hF⟩ := Pend.ok_append hE
          exact ih a _ _ _ _ _ _ _ h1 hE1 (ih b _ _ _ _ _ _ _ h2 hF hq)
        · cases h
      · rename_i r hr
        refine ih a _ _ _ _ _ _ _ h hE ?_
        cases e with
        | normal => exact (hr _ _ _ h).elim
        | _ => exact hq
    | cond c a b =>
      simp only [gcode] at h
      split at h
      · rename_i q hq'
        exact scode_cond hq' (ih _ _ _ _ _ _ _ _ h hE hq)
      · cases h
    | block id a =>
      simp only [gcode] at h
      refine scode_block ?_
      split at h
      · rename_i id' env1 H1 E1 h1
        simp only [Option.some.injEq, Prod.mk.injEq] at h
        obtain ⟨he, rfl, rfl, rfl⟩ := h
        refine ih a _ _ _ _ _ _ _ h1 hE ?_
        simp only [inBlockA]
        split at he
        · rename_i e1; rw [if_pos e1]; rw [he]; exact hq
        · rename_i e1; rw [if_neg e1]; rw [he]; exact hq
      · rename_i r hr
        refine ih a _ _ _ _ _ _ _ h hE ?_
        cases e with
        | exit id' => exact (hr _ _ _ _ h).elim
        | _ => exact hq
    | loop a =>
      refine scode_loop (Inv := fun m env H => m ≤ n + 1 ∧ ∃ T E, env = ET.fn T ∧ gcode call P sz m (.loop a) T H = some (e, env', H', E) ∧ Pend.ok E) (n := n + 1) ?_ ⟨Nat.le_refl _, _, _, rfl, h, hE⟩
      rintro m env1 H1 ⟨hm1, T1, E1, rfl, h1, hE1⟩
      cases m with
      | zero => simp [gcode] at h1
      | succ m =>
        simp only [gcode] at h1
        have ih' := gcode_sound hm hc m
        split at h1
        · rename_i env2 H2 E2 h2
          split at h1
          · rename_i e3 T3 H3 F3 h3
            simp only [Option.some.injEq, Prod.mk.injEq] at h1
            obtain ⟨rfl, rfl, rfl, rfl⟩ := h1
            obtain ⟨hE2, hF⟩ := Pend.ok_append hE1
            exact ih' a _ _ _ _ _ _ _ h2 hE2 ⟨m, Nat.lt_succ_self _, by omega, _, _, rfl, h3, hF⟩
          · cases h1
        · rename_i r hr
          refine ih' a _ _ _ _ _ _ _ h1 hE1 ?_
          cases e with
          | normal => exact (hr _ _ _ h1).elim
          | _ => exact hq
    | _ => simp [gcode] at h
end

theorem gcall_sound {P : Program} {base : ACall} {fs : List FuncId} (hm : P.follows .mixedOrders = true) (hb : ∀ k a H r H', base k a H = some (r, H') → SCalls P k a H r H') (hfs : ∀ f ∈ fs, Enters P f) : ∀ n, PSound P (gcall P base fs n)
  | 0, f, args, H, r, H', E, h, _ => by simp [gcall] at h
  | n + 1, f, args, H, r, H', E, h, hE => by
    have ih := gcall_sound hm hb hfs n
    simp only [gcall] at h
    split at h
    · rename_i r1 H1 hq
      simp only [Option.some.injEq, Prod.mk.injEq] at h
      obtain ⟨rfl, rfl, _⟩ := h
      exact hb _ _ _ _ _ hq
    split at h
    case isFalse => cases h
    rename_i hf
    split at h
    case h_2 => cases h
    rename_i fn hfn
    split at h
    case h_2 => cases h
    rename_i c hb
    split at h
    case h_2 => cases h
    rename_i e env H1 E1 h1
    split at h
    case isFalse => cases h
    rename_i he
    split at h
    case h_2 => cases h
    rename_i v hv
    split at h
    case isFalse => cases h
    rename_i hl
    simp only [Option.some.injEq, Prod.mk.injEq] at h
    obtain ⟨rfl, rfl, rfl⟩ := h
    have := gcode_sound (sz := args.length + (fn.ntmps - args.length)) hm ih _ _ (fun e env H2 => (e = .ret ∨ e = .normal) ∧ aresults P fn env H2 = some v ∧ H2 = H1) _ _ _ _ _ _ h1 hE ⟨by cases e <;> simp [doneE] at he ⊢, hv, rfl⟩
    rw [ET.fn_enter] at this
    exact scalls_all (hfs f (by simpa using hf)) hfn hb hl this

/-- A call over the empty heap, its outcome kept, and what is still to be shown. -/
def gpc (P : Program) (base : ACall) (fs : List FuncId) (n sz : Nat) (f : FuncId) (args : List AV) : Option (AV × Pend) := match gcall P base fs n f args Heap.empty with
  | some (r, H', E) => match fzTop sz H' r with
    | some v => some (v, E)
    | none => none
  | none => none

theorem gpc_sound {P : Program} {base : ACall} {fs : List FuncId} (hm : P.follows .mixedOrders = true) (hb : ∀ k a H r H', base k a H = some (r, H') → SCalls P k a H r H') (hfs : ∀ f ∈ fs, Enters P f) (n sz : Nat) {f : FuncId} {args : List AV} {r : AV} {E : Pend} (h : gpc P base fs n sz f args = some (r, E)) (hE : Pend.ok E) : SCalls P f args Heap.empty r Heap.empty ∧ r.Lt 0 := by
  unfold gpc at h
  split at h
  · rename_i u H' E1 hu
    split at h
    · rename_i v hv
      cases h
      obtain ⟨h1, h2⟩ := fzTop_ok hv
      exact ⟨scalls_shed (gcall_sound hm hb hfs n _ _ _ _ _ _ hu hE) h1 h2, h2⟩
    · cases h
  · cases h

def lhsE : Option (AV × Pend) → Option AV × List AV
  | some (r, E) => (some r, E.map Prod.fst)
  | none => (none, [])
def rhsE (v : AV) : Option (AV × Pend) → Option AV × List AV
  | some (_, E) => (some v, E.map Prod.snd)
  | none => (some v, [])

theorem pend_maps : ∀ {E : Pend}, E.map Prod.fst = E.map Prod.snd → Pend.ok E
  | [], _ => Pend.ok_nil
  | p :: E, h => by
    simp only [List.map_cons, List.cons.injEq] at h
    intro q hq
    rcases List.mem_cons.1 hq with rfl | hq
    · exact h.1
    · exact pend_maps h.2 q hq

theorem of_sides {v : AV} {q : Option (AV × Pend)} (h : lhsE q = rhsE v q) : ∃ E, q = some (v, E) ∧ Pend.ok E := by
  cases q with
  | none => simp [lhsE, rhsE] at h
  | some r =>
    obtain ⟨r, E⟩ := r
    simp only [lhsE, rhsE, Prod.mk.injEq, Option.some.injEq] at h
    exact ⟨E, by rw [h.1], pend_maps h.2⟩

theorem gpc_rfl {P : Program} {base : ACall} {fs : List FuncId} (hm : P.follows .mixedOrders = true) (hb : ∀ k a H r H', base k a H = some (r, H') → SCalls P k a H r H') (hfs : ∀ f ∈ fs, Enters P f) (n sz : Nat) {f : FuncId} {args : List AV} {r : AV} (h : lhsE (gpc P base fs n sz f args) = rhsE r (gpc P base fs n sz f args)) : SCalls P f args Heap.empty r Heap.empty ∧ r.Lt 0 := by
  obtain ⟨E, h1, h2⟩ := of_sides h
  exact gpc_sound hm hb hfs n sz h1 h2
end Go.Fl
