/- Numbers and texts in a walk. -/
import Derived.Test.YtinbldahpifinaaGreatDoorFl21
noncomputable section
namespace Go.Fl
open Go

section
variable (P : Program) (t : TypeId) (k : IntKind) (a b : Int)

@[go_sem] theorem srun_add : srun P (binOp .add t (.int k a) (.int k b)) = some (.int k (k.wrap (a + b))) := by simp [binOp, Op.intArith]; rfl
@[go_sem] theorem srun_sub : srun P (binOp .sub t (.int k a) (.int k b)) = some (.int k (k.wrap (a - b))) := by simp [binOp, Op.intArith]; rfl
@[go_sem] theorem srun_mul : srun P (binOp .mul t (.int k a) (.int k b)) = some (.int k (k.wrap (a * b))) := by simp [binOp, Op.intArith]; rfl
@[go_sem] theorem srun_eql : srun P (binOp .eql t (.int k a) (.int k b)) = some (.bool (a == b)) := by simp [binOp, Op.intCmp]; rfl
@[go_sem] theorem srun_neq : srun P (binOp .neq t (.int k a) (.int k b)) = some (.bool (a != b)) := by simp [binOp, Op.intCmp]; rfl
@[go_sem] theorem srun_lss : srun P (binOp .lss t (.int k a) (.int k b)) = some (.bool (decide (a < b))) := by simp [binOp, Op.intCmp]; rfl
@[go_sem] theorem srun_leq : srun P (binOp .leq t (.int k a) (.int k b)) = some (.bool (decide (a ≤ b))) := by simp [binOp, Op.intCmp]; rfl
@[go_sem] theorem srun_gtr : srun P (binOp .gtr t (.int k a) (.int k b)) = some (.bool (decide (b < a))) := by simp [binOp, Op.intCmp]; rfl
@[go_sem] theorem srun_geq : srun P (binOp .geq t (.int k a) (.int k b)) = some (.bool (decide (b ≤ a))) := by simp [binOp, Op.intCmp]; rfl

/-- Bits of two numbers. -/
def band (k : IntKind) (a b : Int) : Int := k.wrap (BitVec.ofInt k.bits a &&& BitVec.ofInt k.bits b).toNat
def bor (k : IntKind) (a b : Int) : Int := k.wrap (BitVec.ofInt k.bits a ||| BitVec.ofInt k.bits b).toNat
def bxor (k : IntKind) (a b : Int) : Int := k.wrap (BitVec.ofInt k.bits a ^^^ BitVec.ofInt k.bits b).toNat
def bandNot (k : IntKind) (a b : Int) : Int := k.wrap (BitVec.ofInt k.bits a &&& ~~~(BitVec.ofInt k.bits b)).toNat
def bshl (k : IntKind) (a b : Int) : Int := k.wrap (a * 2 ^ (min b.toNat k.bits))
def bshr (k : IntKind) (a b : Int) : Int := a.fdiv (2 ^ (min b.toNat k.bits))

@[go_sem] theorem srun_and : srun P (binOp .and t (.int k a) (.int k b)) = some (.int k (band k a b)) := by simp [binOp, Op.intBits, band]; rfl
@[go_sem] theorem srun_or : srun P (binOp .or t (.int k a) (.int k b)) = some (.int k (bor k a b)) := by simp [binOp, Op.intBits, bor]; rfl
@[go_sem] theorem srun_xor : srun P (binOp .xor t (.int k a) (.int k b)) = some (.int k (bxor k a b)) := by simp [binOp, Op.intBits, bxor]; rfl
@[go_sem] theorem srun_andNot : srun P (binOp .andNot t (.int k a) (.int k b)) = some (.int k (bandNot k a b)) := by simp [binOp, Op.intBits, bandNot]; rfl
@[go_sem] theorem srun_shl {k' : IntKind} (h : 0 ≤ b) : srun P (binOp .shl t (.int k a) (.int k' b)) = some (.int k (bshl k a b)) := by
  simp only [binOp, Op.shift]; rw [if_neg (by omega)]; rfl
@[go_sem] theorem srun_shr {k' : IntKind} (h : 0 ≤ b) : srun P (binOp .shr t (.int k a) (.int k' b)) = some (.int k (bshr k a b)) := by
  simp only [binOp, Op.shift]; rw [if_neg (by omega)]; rfl
@[go_sem] theorem srun_quo (h : b ≠ 0) : srun P (binOp .quo t (.int k a) (.int k b)) = some (.int k (k.wrap (a.tdiv b))) := by
  simp [binOp, Op.intDiv, h]; rfl
@[go_sem] theorem srun_rem (h : b ≠ 0) : srun P (binOp .rem t (.int k a) (.int k b)) = some (.int k (a.tmod b)) := by
  simp [binOp, Op.intDiv, h]; rfl

@[go_sem] theorem srun_seql (x y : ByteArray) : srun P (binOp .eql t (.string x) (.string y)) = some (.bool (x.toList == y.toList)) := by simp [binOp, Op.stringOp]; rfl
@[go_sem] theorem srun_sneq (x y : ByteArray) : srun P (binOp .neq t (.string x) (.string y)) = some (.bool (!(x.toList == y.toList))) := by simp [binOp, Op.stringOp]; rfl

@[go_sem] theorem srun_not (q : Bool) : srun P (Op.unary .not (.bool q)) = some (.bool !q) := rfl
@[go_sem] theorem srun_neg : srun P (Op.unary .neg (.int k a)) = some (.int k (k.wrap (0 - a))) := rfl

def convI (P : Program) (src dst : TypeId) (a : Int) : Option Value :=
  match P.underlying src, P.underlying dst with
  | some _, some (.int k) => some (.int k (k.wrap a))
  | _, _ => none
attribute [go_sem] convI
theorem srun_bind {α β : Type} (P : Program) (s : Sem α) (f : α → Sem β) (a : α) (h : srun P s = some a) : srun P (s >>= f) = srun P (f a) := by
  induction s with
  | pure b => simp only [srun, Option.some.injEq] at h; subst h; rfl
  | program k ih => exact ih P h
  | _ => simp [srun] at h
theorem srun_underlying {P : Program} {t : TypeId} {d : TypeDesc} (h : P.underlying t = some d) : srun P (underlying t) = some d := by
  unfold underlying
  rw [srun_bind P program _ P rfl, h]
  rfl
@[go_sem] theorem srun_convert {src dst : TypeId} (k' : IntKind) (h : (convI P src dst a).isSome = true) : srun P (convert src dst (.int k' a)) = convI P src dst a := by
  revert h
  unfold convI
  split
  · rename_i u k h1 h2
    intro _
    unfold convert
    rw [srun_bind P _ _ _ (srun_underlying h1), srun_bind P _ _ _ (srun_underlying h2)]
    rfl
  · intro h; simp at h
end
end Go.Fl
