/- A run of the abstract machine, by fuel; what it answers holds. -/
import Derived.Test.YtfmpakmigmehkaaGreatDoorFl20
import Derived.IntWalk
set_option linter.unusedVariables false
set_option linter.unusedSimpArgs false
noncomputable section
namespace Go.Fl
open Go

def kcode : IntKind → Nat
  | .i8 => 0 | .i16 => 1 | .i32 => 2 | .i64 => 3 | .u8 => 4 | .u16 => 5 | .u32 => 6 | .u64 => 7

theorem kcode_inj {a b : IntKind} (h : Nat.beq (kcode a) (kcode b) = true) : a = b := by
  cases a <;> cases b <;> first | rfl | (exact absurd h (by decide))

def sameV : Value → Value → Bool
  | .int k a, .int k' b => k == k' && a == b
  | .bool a, .bool b => a == b
  | .pointer none, .pointer none => true
  | .slice none 0 0, .slice none 0 0 => true
  | .nilFunc, .nilFunc => true
  | .nilIface, .nilIface => true
  | .map none, .map none => true
  | _, _ => false

theorem sameV_eq {a b : Value} (h : sameV a b = true) : a = b := by
  unfold sameV at h
  split at h
  · simp only [Bool.and_eq_true, beq_iff_eq] at h; rw [h.1, h.2]
  · simp only [beq_iff_eq] at h; rw [h]
  · rfl
  · rfl
  · rfl
  · rfl
  · rfl
  · cases h

mutual
def same : Nat → AV → AV → Bool
  | 0, _, _ => false
  | _ + 1, .sc a, .sc b => sameV a b
  | _ + 1, .ptr b o, .ptr b' o' => b == b' && o == o'
  | _ + 1, .ms b o l s, .ms b' o' l' s' => b == b' && o == o' && l == l' && s == s'
  | _ + 1, .ai k, .ai k' => Nat.beq (kcode k) (kcode k')
  | _ + 1, .ab, .ab => true
  | n + 1, .vs l s c, .vs l' s' c' => l == l' && s == s' && sameL n c c'
  | n + 1, .agg c, .agg c' => sameL n c c'
  | n + 1, .tup c, .tup c' => sameL n c c'
  | _ + 1, _, _ => false
def sameL : Nat → List AV → List AV → Bool
  | 0, _, _ => false
  | _ + 1, [], [] => true
  | n + 1, x :: r, y :: r' => same n x y && sameL n r r'
  | _ + 1, _, _ => false
end

theorem same_eq : ∀ (n : Nat), (∀ x y, same n x y = true → x = y) ∧ ∀ x y, sameL n x y = true → x = y := by
  intro n
  induction n with
  | zero => exact ⟨fun x y h => by simp [same] at h, fun x y h => by simp [sameL] at h⟩
  | succ n ih =>
    refine ⟨fun x y h => ?_, fun x y h => ?_⟩
    · cases x <;> cases y <;> simp only [same, Bool.and_eq_true, beq_iff_eq, Bool.false_eq_true] at h
      · rw [sameV_eq h]
      · rw [h.1, h.2]
      · obtain ⟨⟨⟨h1, h2⟩, h3⟩, h4⟩ := h; rw [h1, h2, h3, h4]
      · obtain ⟨⟨h1, h2⟩, h3⟩ := h; rw [h1, h2, ih.2 _ _ h3]
      · rw [ih.2 _ _ h]
      · rw [ih.2 _ _ h]
      · rfl
      · rw [kcode_inj h]
    · cases x <;> cases y <;> simp only [sameL, Bool.and_eq_true, Bool.false_eq_true] at h
      · rfl
      · rw [ih.1 _ _ h.1, ih.2 _ _ h.2]

mutual
def ltB : Nat → Nat → AV → Bool
  | 0, _, _ => false
  | _ + 1, _, .sc _ => true
  | _ + 1, m, .ptr b _ => decide (b < m)
  | _ + 1, m, .ms b _ _ _ => decide (b < m)
  | n + 1, m, .vs _ _ c => ltL n m c
  | n + 1, m, .ep c => ltL n m c
  | n + 1, m, .agg c => ltL n m c
  | n + 1, m, .tup c => ltL n m c
  | n + 1, m, .ifc _ x => ltB n m x
  | n + 1, m, .fn _ a b => ltL n m a && ltL n m b
  | _ + 1, _, .ab => true
  | _ + 1, _, .ai _ => true
  | _ + 1, _, _ => false
def ltL : Nat → Nat → List AV → Bool
  | 0, _, _ => false
  | _ + 1, _, [] => true
  | n + 1, m, x :: r => ltB n m x && ltL n m r
end

theorem ltB_ok : ∀ (n m : Nat), (∀ x, ltB n m x = true → x.Lt m) ∧ ∀ l, ltL n m l = true → ∀ x ∈ l, x.Lt m := by
  intro n m
  induction n with
  | zero => exact ⟨fun x h => by simp [ltB] at h, fun x h => by simp [ltL] at h⟩
  | succ n ih =>
    refine ⟨fun x h => ?_, fun x h => ?_⟩
    · cases x <;> simp only [ltB, decide_eq_true_eq, Bool.false_eq_true] at h
      · exact .sc _
      · exact .ptr h
      · exact .ms h
      · exact .vs (ih.2 _ h)
      · exact .ep (ih.2 _ h)
      · simp only [Bool.and_eq_true] at h; exact .fn (ih.2 _ h.1) (ih.2 _ h.2)
      · exact .ifc (ih.1 _ h)
      · exact .agg (ih.2 _ h)
      · exact .tup (ih.2 _ h)
      · exact .ab
      · exact .ai _
    · cases x <;> simp only [ltL, Bool.and_eq_true] at h
      · intro x hx; cases hx
      · intro x hx
        rcases List.mem_cons.1 hx with rfl | hx
        · exact ih.1 _ h.1
        · exact ih.2 _ h.2 _ hx

/-- A frame as the kernel reckons it. -/
abbrev ET := Tr AV

def ET.fn (T : ET) : Env := fun i => (T.get i).getD .undef
def ET.upd (T : ET) (d : Option Tmp) (v : AV) : ET := match d with
  | none => T
  | some d => T.put d (some v)
def ET.enterF : Nat → List AV → ET → ET
  | _, [], T => T
  | n, x :: r, T => ET.enterF (n + 1) r (T.put n (some x))
def ET.enter (args : List AV) : ET := ET.enterF 0 args .leaf

theorem ET.fn_upd (T : ET) (d : Option Tmp) (v : AV) : (T.upd d v).fn = T.fn.upd d v := by
  funext i
  cases d with
  | none => simp [ET.upd, Env.upd]
  | some d =>
    simp only [ET.upd, ET.fn, Env.upd, Tr.get_put, Option.some.injEq]
    by_cases e : i = d
    · rw [if_pos e, if_pos e.symm]; rfl
    · rw [if_neg e, if_neg (fun h => e h.symm)]

theorem ET.fn_enterF : ∀ (l : List AV) (n : Nat) (T : ET) (i : Nat), (ET.enterF n l T).get i = if n ≤ i ∧ i < n + l.length then l[i - n]? else T.get i
  | [], n, T, i => by rw [if_neg (by simp)]; rfl
  | x :: r, n, T, i => by
    rw [ET.enterF, ET.fn_enterF r (n + 1), Tr.get_put]
    by_cases h : i = n
    · subst h
      rw [if_neg (by omega), if_pos rfl, if_pos (by simp)]
      simp
    · by_cases h2 : n + 1 ≤ i ∧ i < n + 1 + r.length
      · rw [if_pos h2, if_pos (by simp; omega)]
        have e : i - n = (i - (n + 1)) + 1 := by omega
        rw [e, List.getElem?_cons_succ]
      · rw [if_neg h2, if_neg h, if_neg (by simp; omega)]

theorem ET.fn_enter (args : List AV) : (ET.enter args).fn = enterEnv args := by
  funext i
  simp only [ET.enter, ET.fn, enterEnv, ET.fn_enterF]
  by_cases h : i < args.length
  · rw [if_pos ⟨Nat.zero_le _, by omega⟩]; rfl
  · rw [if_neg (by omega), List.getElem?_eq_none (by omega)]; rfl

abbrev ACall := FuncId → List AV → Heap → Option (AV × Heap)

def deep : Nat := 4000

section
variable (call : ACall) (P : Program) (sz : Nat)

/-- A number in its kind, where it fits at once. -/
def wrapK (k : IntKind) (n : Int) : Int :=
  match k with
  | .i64 => (match n with
    | .ofNat m => cond (Nat.ble m 9223372036854775807) (.ofNat m) (IntKind.i64.wrap (.ofNat m))
    | .negSucc m => cond (Nat.ble m 9223372036854775807) (.negSucc m) (IntKind.i64.wrap (.negSucc m)))
  | .u8 => (match n with
    | .ofNat m => .ofNat (m % 256)
    | .negSucc m => IntKind.u8.wrap (.negSucc m))
  | .u32 => (match n with
    | .ofNat m => .ofNat (m % 4294967296)
    | .negSucc m => IntKind.u32.wrap (.negSucc m))
  | k => k.wrap n

theorem ble_le {m n : Nat} (h : Nat.ble m n = true) : m ≤ n := Nat.le_of_ble_eq_true h

theorem wrapK_eq (k : IntKind) (n : Int) : wrapK k n = k.wrap n := by
  unfold wrapK
  split
  · split
    · cases h : Nat.ble _ 9223372036854775807 with
      | true =>
        rename_i m
        rw [cond_true]
        have := ble_le h
        exact (IntWalk.i64_in _ (by constructor <;> (show _ ≤ _; first | exact Int.le_trans (by decide) (Int.natCast_nonneg m) | exact Int.ofNat_le.2 this))).symm
      | false => exact (cond_false _ _)
    · cases h : Nat.ble _ 9223372036854775807 with
      | true =>
        rename_i m
        rw [cond_true]
        have := ble_le h
        exact (IntWalk.i64_in (Int.negSucc m) ⟨by rw [Int.negSucc_eq]; omega, by rw [Int.negSucc_eq]; omega⟩).symm
      | false => exact (cond_false _ _)
  · split
    · rename_i m
      rw [IntKind.wrap_u8]
      show ((m % 256 : Nat) : Int) = (m : Int) % 256
      omega
    · rfl
  · split
    · rename_i m
      rw [IntKind.wrap_u32]
      show ((m % 4294967296 : Nat) : Int) = (m : Int) % 4294967296
      omega
    · rfl
  · rfl

def eqI : Int → Int → Bool
  | .ofNat a, .ofNat b => Nat.beq a b
  | .negSucc a, .negSucc b => Nat.beq a b
  | _, _ => false

theorem eqI_eq (a b : Int) : eqI a b = (a == b) := by
  cases a <;> cases b <;> rw [Bool.eq_iff_iff] <;> simp [eqI, Nat.beq_eq]
  · rename_i a b; constructor <;> intro h <;> first | exact congrArg _ h | exact Int.ofNat.inj h

def ltI : Int → Int → Bool
  | .ofNat a, .ofNat b => Nat.ble (a + 1) b
  | .negSucc _, .ofNat _ => true
  | .ofNat _, .negSucc _ => false
  | .negSucc a, .negSucc b => Nat.ble (b + 1) a

theorem ltI_eq (a b : Int) : ltI a b = decide (a < b) := by
  cases a <;> cases b <;> simp [ltI]
  · rename_i a b
    rw [Bool.eq_iff_iff]; simp [Nat.ble_eq]; omega
  · rename_i a b; omega
  · rename_i a b; omega
  · rename_i a b
    rw [Bool.eq_iff_iff]; simp [Nat.ble_eq]; omega

/-- Two numbers of one kind. -/
def intK (op : BinOp) (k : IntKind) (a b : Int) : Option Value :=
  match op with
  | .add => some (.int k (wrapK k (a + b)))
  | .sub => some (.int k (wrapK k (a - b)))
  | .mul => some (.int k (wrapK k (a * b)))
  | .and => some (.int k (band k a b))
  | .or => some (.int k (bor k a b))
  | .xor => some (.int k (bxor k a b))
  | .eql => some (.bool (eqI a b))
  | .neq => some (.bool (!eqI a b))
  | .lss => some (.bool (ltI a b))
  | .leq => some (.bool (!ltI b a))
  | .gtr => some (.bool (ltI b a))
  | .geq => some (.bool (!ltI a b))
  | _ => none

theorem intK_eq {P : Program} {op : BinOp} {t : TypeId} {k : IntKind} {a b : Int} {r : Value} (h : intK op k a b = some r) : srun P (binOp op t (.int k a) (.int k b)) = some r := by
  unfold intK at h
  split at h
  · cases h; rw [wrapK_eq]; exact srun_add _ _ _ _ _
  · cases h; rw [wrapK_eq]; exact srun_sub _ _ _ _ _
  · cases h; rw [wrapK_eq]; exact srun_mul _ _ _ _ _
  · cases h; exact srun_and _ _ _ _ _
  · cases h; exact srun_or _ _ _ _ _
  · cases h; exact srun_xor _ _ _ _ _
  · cases h; rw [eqI_eq]; exact srun_eql _ _ _ _ _
  · cases h; rw [eqI_eq]; exact srun_neq _ _ _ _ _
  · cases h; rw [ltI_eq]; exact srun_lss _ _ _ _ _
  · cases h
    have e : (!ltI b a) = decide (a ≤ b) := by rw [ltI_eq, Bool.eq_iff_iff]; simp
    rw [e]; exact srun_leq _ _ _ _ _
  · cases h; rw [ltI_eq]; exact srun_gtr _ _ _ _ _
  · cases h
    have e : (!ltI a b) = decide (b ≤ a) := by rw [ltI_eq, Bool.eq_iff_iff]; simp
    rw [e]; exact srun_geq _ _ _ _ _
  · cases h

def binV (P : Program) (op : BinOp) (t : TypeId) (x y : Operand) (u v : Value) : Option AV :=
  match u with
  | .int k m => (match v with
    | .int k' n => cond (Nat.beq (kcode k) (kcode k')) (match intK op k m n with
      | some r => some (ofV r)
      | none => abin P op t x y (.sc u) (.sc v)) (abin P op t x y (.sc u) (.sc v))
    | _ => abin P op t x y (.sc u) (.sc v))
  | _ => abin P op t x y (.sc u) (.sc v)

theorem eqGuard_int {op : BinOp} {t : TypeId} {x y : Operand} {k k' : IntKind} {m n : Int} : (do eqGuard op t x y (.int k m) (.int k' n); binOp op t (.int k m) (.int k' n) : Sem Value) = binOp op t (.int k m) (.int k' n) := by
  unfold eqGuard
  cases op <;> rfl

theorem binV_eq (P : Program) (op : BinOp) (t : TypeId) (x y : Operand) (u v : Value) : binV P op t x y u v = abin P op t x y (.sc u) (.sc v) := by
  unfold binV
  split
  · split
    · rename_i k m _ k' n
      cases h : Nat.beq (kcode k) (kcode k') with
      | false => rfl
      | true =>
        obtain rfl := kcode_inj h
        rw [cond_true]
        split
        · rename_i r hr
          simp only [abin, conc]
          rw [eqGuard_int, intK_eq hr]; rfl
        · rfl
    · rfl
  · rfl

def binK (P : Program) (op : BinOp) (t : TypeId) (x y : Operand) (a b : AV) : Option AV :=
  match a with
  | .sc u => (match b with
    | .sc v => binV P op t x y u v
    | _ => abin P op t x y a b)
  | _ => abin P op t x y a b

theorem binK_eq (P : Program) (op : BinOp) (t : TypeId) (x y : Operand) (a b : AV) : binK P op t x y a b = abin P op t x y a b := by
  unfold binK
  split
  · split
    · exact binV_eq _ _ _ _ _ _ _
    · rfl
  · rfl

def cvtK (P : Program) (H : Heap) (src dst : TypeId) (a : AV) : Option (AV × Heap) :=
  match a with
  | .sc u => (match u with
    | .int _ n => cond (bytesT dst) none (match P.underlying src with
      | some (.int _) => (match P.underlying dst with
        | some (.int k) => some (.sc (.int k (wrapK k n)), H)
        | _ => none)
      | _ => none)
    | _ => none)
  | _ => none

abbrev ArmC := ACall → TypeId → Program → (Operand → AV) → Heap → Option (AV × Heap)

def armMove (x : Operand) : ArmC := fun _ _ _ ev H => some (ev x, H)
def pickK (c a b : AV) (H : Heap) : Option (AV × Heap) := match c with
  | .sc (.bool t) => some (if t then a else b, H)
  | _ => none
def armPick (c a b : Operand) : ArmC := fun _ _ _ ev H => pickK (ev c) (ev a) (ev b) H
def armAlloc (t : TypeId) : ArmC := fun _ _ P _ H => (zeroC P t).map fun zs => (.ptr H.next 0, H.alloc zs)
def armBox (x : Operand) : ArmC := fun _ _ _ ev H => (acells (ev x)).map fun cs => (.ptr H.next 0, H.alloc cs)
def armBuild (t : TypeId) (parts : Array (Nat × Operand)) : ArmC := fun _ _ P ev H => (abuild P t (parts.toList.map fun p => (p.1, ev p.2))).map fun r => (r, H)
def armBuildSlice (t : TypeId) (len : Nat) (parts : Array (Nat × Operand)) : ArmC := fun _ _ P ev H => abuildSlice P H t len (parts.toList.map fun p => (p.1, ev p.2))
def armLoad (t : TypeId) (a : Operand) : ArmC := fun _ _ P ev H => (aload P H t (ev a)).map fun r => (r, H)
def armStore (t : TypeId) (a x : Operand) : ArmC := fun _ _ P ev H => (astore P H t (ev a) (ev x)).map fun H' => (.undef, H')
def nilK (a : AV) (H : Heap) : Option (AV × Heap) := match a with
  | .ptr b o => some (.ptr b o, H)
  | .ep cs => some (.ep cs, H)
  | .ifc t v => some (.ifc t v, H)
  | .fn (.func f) a b => some (.fn (.func f) a b, H)
  | _ => none
def armNil (x : Operand) : ArmC := fun _ _ _ ev H => nilK (ev x) H
def armBin (op : BinOp) (t : TypeId) (x y : Operand) : ArmC := fun _ _ P ev H => (binK P op t x y (ev x) (ev y)).map fun r => (r, H)
def armSlow (op : Op) : ArmC := fun _ ty P ev H => aop P { dst := none, op := op, type := ty, pos := "", after := #[], guard := none } ev H
def cvt2 (r : Option (AV × Heap)) (s : Option (AV × Heap)) : Option (AV × Heap) := match r with
  | some r => some r
  | none => s
def armConvert (src dst : TypeId) (x : Operand) : ArmC := fun c ty P ev H => cvt2 (cvtK P H src dst (ev x)) (armSlow (.convert src dst x) c ty P ev H)
def armFieldAddr (s : TypeId) (x : Operand) (f : Nat) : ArmC := fun _ _ P ev H => (afield P s (ev x) f).map fun r => (r, H)
def armField (t : TypeId) (x : Operand) (f : Nat) : ArmC := fun _ _ P ev H => (afld P t (ev x) f).map fun r => (r, H)
def armIndexAddr (t : TypeId) (x i : Operand) : ArmC := fun _ _ P ev H => (aindex P t (ev x) (ev i)).map fun r => (r, H)
def armIndex (t : TypeId) (x i : Operand) : ArmC := fun _ _ P ev H => (aidx P t (ev x) (ev i)).map fun r => (r, H)
def callK (call : ACall) (f : AV) (args : List AV) (H : Heap) : Option (AV × Heap) := match f with
  | .fn (.func k) first captured => call k (first ++ args ++ captured) H
  | _ => none
def armCall (c : Call) : ArmC := fun call ty P ev H => match c with
  | { callee := .value f, args, argTypes := _ } => callK call (ev f) (args.toList.map ev) H
  | { callee := .builtin b, args, argTypes } => abuiltin P H b argTypes ty (args.toList.map ev)
  | _ => none

def opK (op : Op) : ArmC := match op with
  | .move x => armMove x
  | .assign x => armMove x
  | .pick c a b => armPick c a b
  | .alloc t => armAlloc t
  | .box _ x => armBox x
  | .build t parts => armBuild t parts
  | .buildSlice t len parts => armBuildSlice t len parts
  | .load t a => armLoad t a
  | .store t a x => armStore t a x
  | .nilCheck x => armNil x
  | .binOp op t x y _ => armBin op t x y
  | .convert src dst x => armConvert src dst x
  | .fieldAddr s x f => armFieldAddr s x f
  | .field t x f => armField t x f
  | .indexAddr t x i => armIndexAddr t x i
  | .index t x i => armIndex t x i
  | .call c => armCall c
  | op => armSlow op

def noCall : ACall := fun _ _ _ => none

def eop0 (o : Oper) (env : Env) (H : Heap) : Option (AV × Heap) :=
  match o.op with
  | .call { callee := .value f, args, argTypes := _ } => match aev env f with
    | .fn (.func k) first captured => call k (first ++ args.toList.map (aev env) ++ captured) H
    | _ => none
  | _ => aop P o (aev env) H

def eop (o : Oper) (env : Env) (H : Heap) : Option (AV × Heap) := match o.op with
  | .convert src dst x => cvt2 (cvtK P H src dst (aev env x)) (aop P o (aev env) H)
  | op => opK op call o.type P (aev env) H

def eops (ops : Array Oper) : List Oper → ET → Heap → Option (ET × Heap)
  | [], env, H => some (env, H)
  | o :: rest, env, H => match awanted ops o (ET.fn env) with
    | none => none
    | some false => eops ops rest (ET.upd env o.dst .undef) H
    | some true => match eop call P o (ET.fn env) H with
      | some (x, H') => eops ops rest (ET.upd env o.dst x) H'
      | none => none

def estOk (bf : List Nat) (i : Nat) (o : Oper) (env : Env) (x : AV) : List (Nat × Heap) → Bool
  | [] => true
  | (c, Hc) :: r => (befL bf c i || (isL o && match eop noCall P o env Hc with | some (y, _) => same deep y x | none => false)) && estOk bf i o env x r

def eldOk (bf : List Nat) (i : Nat) (H' : Heap) : List (Nat × Oper × Env × AV) → Bool
  | [] => true
  | (y, q, env, x) :: r => (befL bf y i || (isL q && match eop noCall P q env H' with | some (z, _) => same deep z x | none => false)) && eldOk bf i H' r

def edraw (ops : Array Oper) (bf : List Nat) : Nat → List Oper → List (Nat × Heap) → List (Nat × Oper × Env × AV) → ET → Heap → Option (ET × Heap)
  | _, [], _, _, env, H => some (env, H)
  | i, o :: rest, st, ld, env, H => match awanted ops o (ET.fn env) with
    | none => none
    | some false => edraw ops bf (i + 1) rest st ld (ET.upd env o.dst .undef) H
    | some true =>
      if isP o = true then match eop noCall P o (ET.fn env) H with
        | some (x, _) => edraw ops bf (i + 1) rest st ld (ET.upd env o.dst x) H
        | none => none
      else if isL o = true then match eop noCall P o (ET.fn env) H with
        | some (x, _) => if estOk P bf i o (ET.fn env) x st = true then edraw ops bf (i + 1) rest st ((i, o, ET.fn env, x) :: ld) (ET.upd env o.dst x) H else none
        | none => none
      else match eop call P o (ET.fn env) H with
        | some (x, H') => if eldOk P bf i H' ld = true then edraw ops bf (i + 1) rest ((i, H) :: st) ld (ET.upd env o.dst x) H' else none
        | none => none

def ecode : Nat → Code → ET → Heap → Option (Exit × ET × Heap)
  | 0, _, _, _ => none
  | n + 1, c, env, H => match c with
    | .skip => some (.normal, env, H)
    | .ret => some (.ret, env, H)
    | .exit id => some (.exit id, env, H)
    | .region _ ops false => if dstsB sz ops = true then (eops call P ops ops.toList env H).map fun r => (.normal, r.1, r.2) else none
    | .region _ ops true => if drawOk sz ops = true then (edraw call P ops (Region.before ops).toList 0 ops.toList [] [] env H).map fun r => (.normal, r.1, r.2) else none
    | .seq a b => match ecode n a env H with
      | some (.normal, env', H') => ecode n b env' H'
      | r => r
    | .cond c a b => match aev (ET.fn env) c with
      | .sc (.bool q) => ecode n (if q then a else b) env H
      | _ => none
    | .block id a => match ecode n a env H with
      | some (.exit id', env', H') => some (if id' = id then .normal else .exit id', env', H')
      | r => r
    | .loop a => match ecode n a env H with
      | some (.normal, env', H') => ecode n (.loop a) env' H'
      | r => r
    | _ => none
end

def doneE : Exit → Bool
  | .ret => true
  | .normal => true
  | _ => false

def ecall (P : Program) (fs : List FuncId) : Nat → ACall
  | 0, _, _, _ => none
  | n + 1, f, args, H => if fs.contains f = true then match P.funcs[f]? with
    | some fn => match fn.body with
      | some c => match ecode (ecall P fs n) P (args.length + (fn.ntmps - args.length)) deep c (ET.enter args) H with
        | some (e, env, H1) => if doneE e = true then match aresults P fn (ET.fn env) H1 with
          | some v => if H.next ≤ H1.next then some (v, H1) else none
          | none => none
          else none
        | none => none
      | none => none
    | none => none
    else none

section
variable {call : ACall} {P : Program} {sz : Nat}

theorem cvtK_eq {P : Program} {H : Heap} {src dst : TypeId} {a : AV} {r : AV × Heap} (h : cvtK P H src dst a = some r) {o : Oper} {x : Operand} (ho : o.op = .convert src dst x) {ev : Operand → AV} (hx : ev x = a) : aop P o ev H = some r := by
  unfold cvtK at h
  split at h
  case h_2 => cases h
  split at h
  case h_2 => cases h
  rename_i k' n
  cases hb : bytesT dst with
  | true => rw [hb] at h; cases h
  | false =>
  rw [hb, cond_false] at h
  split at h
  case h_2 => cases h
  rename_i ks hs
  split at h
  case h_2 => cases h
  rename_i k hd
  cases h
  unfold aop
  rw [ho]
  simp only [hx]
  have e1 : aconv P H src dst (.sc (.int k' n)) = none := by
    unfold aconv
    rw [hs, hd]
  simp only [hb]
  rw [e1]
  have e2 : convI P src dst n = some (.int k (k.wrap n)) := by unfold convI; rw [hs, hd]
  simp only [acvt, conc]
  rw [srun_convert P n k' (by rw [e2]; rfl), e2, wrapK_eq]
  rfl

theorem eop_eq (o : Oper) (env : Env) (H : Heap) : eop call P o env H = eop0 call P o env H := by
  obtain ⟨dst, op, type, pos, after, guard⟩ := o
  cases op
  case call c =>
    obtain ⟨callee, args, argTypes⟩ := c
    cases callee with
    | value f =>
      simp only [eop, opK, armCall, eop0, callK]
    | builtin b => rfl
    | invoke r m => rfl
  case binOp op t x y n =>
    simp only [eop, opK, armBin, eop0, aop, binK_eq]
  case convert src dst x =>
    simp only [eop, eop0, cvt2]
    split
    · rename_i r hr
      exact (cvtK_eq hr (o := ⟨_, .convert src dst x, type, pos, after, guard⟩) rfl rfl).symm
    · rfl
  all_goals rfl

theorem eop_no {o : Oper} {env : Env} {H : Heap} : eop noCall P o env H = aop P o (aev env) H := by
  rw [eop_eq]
  obtain ⟨dst, op, type, pos, after, guard⟩ := o
  unfold eop0
  split
  · rename_i f args argTypes hop
    simp only at hop
    subst hop
    unfold aop
    simp only
    split
    · rfl
    · rfl
  · rfl

theorem eop_step (hc : ∀ k a H r H', call k a H = some (r, H') → SCalls P k a H r H') {o : Oper} {env : Env} {H H' : Heap} {x : AV} (h : eop call P o env H = some (x, H')) {K : AV → Heap → Prop} (hk : K x H') : WStep P o env H K := by
  obtain ⟨dst, op, type, pos, after, guard⟩ := o
  rw [eop_eq] at h
  unfold eop0 at h
  unfold WStep
  split at h
  · rename_i f args argTypes hop
    simp only at hop
    subst hop
    split at h
    · rename_i k first captured hf
      simp only [hf]
      exact ⟨x, H', hc _ _ _ _ _ h, hk⟩
    · cases h
  · rename_i hno
    split
    · rename_i f args argTypes hop
      exact (hno f args argTypes hop).elim
    · rw [h]; exact hk

theorem eop_wop (hc : ∀ k a H r H', call k a H = some (r, H') → SCalls P k a H r H') {ops : Array Oper} {o : Oper} {env : Env} {H H' : Heap} {x : AV} (hw : awanted ops o env = some true) (h : eop call P o env H = some (x, H')) {K : Env → Heap → Prop} (hk : K (env.upd o.dst x) H') : WOp P ops o K env H := by
  have := eop_step hc h (K := fun x H' => K (env.upd o.dst x) H') hk
  unfold WOp
  rw [hw]
  exact this

theorem eops_sound (hc : ∀ k a H r H', call k a H = some (r, H') → SCalls P k a H r H') {ops : Array Oper} {Q : Exit → Env → Heap → Prop} : ∀ (l : List Oper) (env : ET) (H : Heap) (env' : ET) (H' : Heap), eops call P ops l env H = some (env', H') → Q .normal (ET.fn env') H' → WOps P ops Q l (ET.fn env) H
  | [], env, H, env', H', h, hq => by
    simp only [eops, Option.some.injEq, Prod.mk.injEq] at h
    obtain ⟨rfl, rfl⟩ := h
    exact hq
  | o :: rest, env, H, env', H', h, hq => by
    simp only [eops] at h
    simp only [WOps]
    split at h
    · cases h
    · rename_i hw
      unfold WOp; rw [hw]
      have := eops_sound hc rest _ _ _ _ h hq
      rw [ET.fn_upd] at this
      exact this
    · rename_i hw
      split at h
      · rename_i x H1 hx
        have := eops_sound hc rest _ _ _ _ h hq
        rw [ET.fn_upd] at this
        exact eop_wop hc hw hx this
      · cases h

theorem estOk_ok {bf : List Nat} {i : Nat} {o : Oper} {env : Env} {x : AV} : ∀ {st : List (Nat × Heap)}, estOk P bf i o env x st = true → stOk P bf i o env x st
  | [], _ => trivial
  | (c, Hc) :: r, h => by
    simp only [estOk, Bool.and_eq_true, Bool.or_eq_true, eop_no] at h
    refine ⟨?_, estOk_ok h.2⟩
    rcases h.1 with h1 | ⟨hl, h1⟩
    · exact .inl h1
    · split at h1
      · rename_i y Hy hy
        right
        rw [hy, (same_eq _).1 _ _ h1, aop_reads hl hy]
      · cases h1

theorem eldOk_ok {bf : List Nat} {i : Nat} {H' : Heap} : ∀ {ld : List (Nat × Oper × Env × AV)}, eldOk P bf i H' ld = true → ldOk P bf i H' ld
  | [], _ => trivial
  | (y, q, env, x) :: r, h => by
    simp only [eldOk, Bool.and_eq_true, Bool.or_eq_true, eop_no] at h
    refine ⟨?_, eldOk_ok h.2⟩
    rcases h.1 with h1 | ⟨hl, h1⟩
    · exact .inl h1
    · split at h1
      · rename_i z Hz hz
        right
        rw [hz, (same_eq _).1 _ _ h1, aop_reads hl hz]
      · cases h1

theorem edraw_sound (hc : ∀ k a H r H', call k a H = some (r, H') → SCalls P k a H r H') {ops : Array Oper} {bf : List Nat} {Q : Exit → Env → Heap → Prop} : ∀ (l : List Oper) (i : Nat) (st : List (Nat × Heap)) (ld : List (Nat × Oper × Env × AV)) (env : ET) (H : Heap) (env' : ET) (H' : Heap),
    edraw call P ops bf i l st ld env H = some (env', H') → Q .normal (ET.fn env') H' → WDraw P ops bf i l st ld Q (ET.fn env) H
  | [], i, st, ld, env, H, env', H', h, hq => by
    simp only [edraw, Option.some.injEq, Prod.mk.injEq] at h
    obtain ⟨rfl, rfl⟩ := h
    exact hq
  | o :: rest, i, st, ld, env, H, env', H', h, hq => by
    simp only [edraw, eop_no] at h
    simp only [WDraw]
    split at h
    · cases h
    · rename_i hw
      rw [hw]
      have := edraw_sound hc rest _ _ _ _ _ _ _ h hq
      rw [ET.fn_upd] at this
      exact this
    · rename_i hw
      rw [hw]
      simp only
      split at h
      · rename_i hp
        rw [if_pos hp]
        split at h
        · rename_i x H1 hx
          rw [hx]
          have := edraw_sound hc rest _ _ _ _ _ _ _ h hq
          rw [ET.fn_upd] at this
          exact this
        · cases h
      · rename_i hp
        rw [if_neg hp]
        split at h
        · rename_i hl
          rw [if_pos hl]
          split at h
          · rename_i x H1 hx
            rw [hx]
            split at h
            · rename_i hs
              have := edraw_sound hc rest _ _ _ _ _ _ _ h hq
              rw [ET.fn_upd] at this
              exact ⟨estOk_ok hs, this⟩
            · cases h
          · cases h
        · rename_i hl
          rw [if_neg hl]
          split at h
          · rename_i x H1 hx
            split at h
            · rename_i hs
              have := edraw_sound hc rest _ _ _ _ _ _ _ h hq
              rw [ET.fn_upd] at this
              exact eop_step hc hx ⟨eldOk_ok hs, this⟩
            · cases h
          · cases h

theorem ecode_sound (hm : P.follows .mixedOrders = true) (hc : ∀ k a H r H', call k a H = some (r, H') → SCalls P k a H r H') : ∀ (n : Nat) (c : Code) (Q : Exit → Env → Heap → Prop) (env : ET) (H : Heap) (e : Exit) (env' : ET) (H' : Heap),
    ecode call P sz n c env H = some (e, env', H') → Q e (ET.fn env') H' → SCode P sz c Q (ET.fn env) H
  | 0, c, Q, env, H, e, env', H', h, hq => by simp [ecode] at h
  | n + 1, c, Q, env, H, e, env', H', h, hq => by
    have ih := ecode_sound hm hc n
    cases c with
    | skip => simp only [ecode, Option.some.injEq, Prod.mk.injEq] at h; obtain ⟨rfl, rfl, rfl⟩ := h; exact scode_skip hq
    | ret => simp only [ecode, Option.some.injEq, Prod.mk.injEq] at h; obtain ⟨rfl, rfl, rfl⟩ := h; exact scode_ret hq
    | exit id => simp only [ecode, Option.some.injEq, Prod.mk.injEq] at h; obtain ⟨rfl, rfl, rfl⟩ := h; exact scode_exit hq
    | region id ops d =>
      cases d with
      | false =>
        simp only [ecode] at h
        split at h
        · rename_i hd
          simp only [Option.map_eq_some_iff, Prod.mk.injEq] at h
          obtain ⟨⟨e1, H1⟩, h1, rfl, rfl, rfl⟩ := h
          exact scode_region hd (eops_sound hc _ _ _ _ _ h1 hq)
        · cases h
      | true =>
        simp only [ecode] at h
        split at h
        · rename_i hd
          simp only [Option.map_eq_some_iff, Prod.mk.injEq] at h
          obtain ⟨⟨e1, H1⟩, h1, rfl, rfl, rfl⟩ := h
          exact scode_draw hm hd (by simp) (edraw_sound hc _ _ _ _ _ _ _ _ h1 hq)
        · cases h
    | seq a b =>
      simp only [ecode] at h
      refine scode_seq ?_
      split at h
      · rename_i env1 H1 h1
        exact ih a _ _ _ _ _ _ h1 (ih b _ _ _ _ _ _ h hq)
      · rename_i r hr
        refine ih a _ _ _ _ _ _ h ?_
        cases e with
        | normal => exact (hr _ _ h).elim
        | _ => exact hq
    | cond c a b =>
      simp only [ecode] at h
      split at h
      · rename_i q hq'
        exact scode_cond hq' (ih _ _ _ _ _ _ _ h hq)
      · cases h
    | block id a =>
      simp only [ecode] at h
      refine scode_block ?_
      split at h
      · rename_i id' env1 H1 h1
        simp only [Option.some.injEq, Prod.mk.injEq] at h
        obtain ⟨he, rfl, rfl⟩ := h
        refine ih a _ _ _ _ _ _ h1 ?_
        simp only [inBlockA]
        split at he
        · rename_i e1; rw [if_pos e1]; rw [he]; exact hq
        · rename_i e1; rw [if_neg e1]; rw [he]; exact hq
      · rename_i r hr
        refine ih a _ _ _ _ _ _ h ?_
        cases e with
        | exit id' => exact (hr _ _ _ h).elim
        | _ => exact hq
    | loop a =>
      refine scode_loop (Inv := fun m env H => m ≤ n + 1 ∧ ∃ T, env = ET.fn T ∧ ecode call P sz m (.loop a) T H = some (e, env', H')) (n := n + 1) ?_ ⟨Nat.le_refl _, _, rfl, h⟩
      rintro m env1 H1 ⟨hm1, T1, rfl, h1⟩
      cases m with
      | zero => simp [ecode] at h1
      | succ m =>
        simp only [ecode] at h1
        have ih' : ∀ (c : Code) (Q : Exit → Env → Heap → Prop) (env : ET) (H : Heap) (e : Exit) (env' : ET) (H' : Heap), ecode call P sz m c env H = some (e, env', H') → Q e (ET.fn env') H' → SCode P sz c Q (ET.fn env) H := ecode_sound hm hc m
        split at h1
        · rename_i env2 H2 h2
          exact ih' a _ _ _ _ _ _ h2 ⟨m, Nat.lt_succ_self _, by omega, _, rfl, h1⟩
        · rename_i r hr
          refine ih' a _ _ _ _ _ _ h1 ?_
          cases e with
          | normal => exact (hr _ _ h1).elim
          | _ => exact hq
    | _ => simp [ecode] at h

/-- From a body to the function, where nothing is given up. -/
theorem scalls_all {f : FuncId} {fn : Func} {c : Code} {args : List AV} {H : Heap} {r : AV} {H' : Heap} (hen : Enters P f) (hf : P.funcs[f]? = some fn) (hb : fn.body = some c) (hn : H.next ≤ H'.next)
    (h : SCode P (args.length + (fn.ntmps - args.length)) c (fun e env H1 => (e = .ret ∨ e = .normal) ∧ aresults P fn env H1 = some r ∧ H1 = H') (enterEnv args) H) : SCalls P f args H r H' := by
  refine ⟨hen, hn, fun ρ I w cargs hr hargs => ?_⟩
  refine calls_of_wp hf hb (h ρ I w _ _ hr ?_ ?_)
  · refine ⟨by simp [hargs.1], rfl, fun i => ?_, hr.glob⟩
    simp only [enterEnv]
    by_cases hi : i < args.length
    · rw [List.getElem?_eq_getElem hi]
      have h1 := hargs.2 i _ (List.getElem?_eq_getElem hi)
      have e1 : (cargs ++ Array.replicate (fn.ntmps - cargs.size) Go.undef).getD i Go.undef = cargs.getD i Go.undef := by
        have hi' : i < cargs.size := by rw [← hargs.1]; exact hi
        simp only [Array.getD_eq_getD_getElem?]
        rw [Array.getElem?_append_left hi']
      rw [e1]; exact h1
    · rw [List.getElem?_eq_none (by omega)]
      have hi' : cargs.size ≤ i := by rw [← hargs.1]; omega
      have e1 : (cargs ++ Array.replicate (fn.ntmps - cargs.size) Go.undef).getD i Go.undef = Go.undef := by
        simp only [Array.getD_eq_getD_getElem?]
        rw [Array.getElem?_append_right hi', Array.getElem?_replicate]
        split <;> rfl
      rw [e1]; exact .sc _
  · rintro e a' w' ⟨env', H1, ρ1, I1, ⟨he, hv1, rfl⟩, hr1, he1, hx⟩
    obtain ⟨u, hu1, hu2⟩ := aresults_run hr1 he1 hv1
    have hfin : ∃ v ρ' I', Ending.returned u = .returned v ∧ VR ρ' I' w'.heap r v ∧ Rel ρ' I' H1 w'.heap ∧ Ext ρ I w ρ' I' w' := ⟨u, ρ1, I1, rfl, hu2, hr1, hx⟩
    rcases he with rfl | rfl
    · exact ⟨he1.defers, u, hu1, hfin⟩
    · exact ⟨he1.defers, u, hu1, hfin⟩

theorem ecall_sound {fs : List FuncId} (hm : P.follows .mixedOrders = true) (hfs : ∀ f ∈ fs, Enters P f) : ∀ (n : Nat) (f : FuncId) (args : List AV) (H : Heap) (r : AV) (H' : Heap), ecall P fs n f args H = some (r, H') → SCalls P f args H r H'
  | 0, f, args, H, r, H', h => by simp [ecall] at h
  | n + 1, f, args, H, r, H', h => by
    have ih := ecall_sound hm hfs n
    simp only [ecall] at h
    split at h
    case isFalse => cases h
    rename_i hf
    split at h
    case h_2 => cases h
    rename_i fn hfn
    split at h
    case h_2 => cases h
    rename_i c hb
    split at h
    case h_2 => cases h
    rename_i e env H1 h1
    split at h
    case isFalse => cases h
    rename_i he
    split at h
    case h_2 => cases h
    rename_i v hv
    split at h
    case isFalse => cases h
    rename_i hl
    simp only [Option.some.injEq, Prod.mk.injEq] at h
    obtain ⟨rfl, rfl⟩ := h
    have := ecode_sound (sz := args.length + (fn.ntmps - args.length)) hm ih _ _ (fun e env H2 => (e = .ret ∨ e = .normal) ∧ aresults P fn env H2 = some v ∧ H2 = H1) _ _ _ _ _ h1 ⟨by cases e <;> simp [doneE] at he ⊢, hv, rfl⟩
    rw [ET.fn_enter] at this
    exact scalls_all (hfs f (by simpa using hf)) hfn hb hl this

def plainly (v : Value) : Option (AV × Heap) → Bool
  | some (.sc u, _) => sameV u v
  | _ => false

/-- A call over the empty heap whose outcome is a plain value. -/
theorem ecall_plain {fs : List FuncId} (hm : P.follows .mixedOrders = true) (hfs : ∀ f ∈ fs, Enters P f) (n : Nat) {f : FuncId} {args : List AV} {v : Value} (h : plainly v (ecall P fs n f args Heap.empty) = true) : ∃ H, SCalls P f args Heap.empty (.sc v) H := by
  unfold plainly at h
  split at h
  · rename_i u H hu
    have e := sameV_eq h
    subst e
    exact ⟨H, ecall_sound hm hfs n _ _ _ _ _ hu⟩
  · cases h
end
end Go.Fl
