/- CcpAgrees: what hangs on the configuration, by the evaluator. -/
import Derived.Test.YtmnbicoeahlpcaaL3
import Derived.Test.YtmnbicoeahlpcaaFl38
set_option maxRecDepth 20000
noncomputable section
namespace Go.Proofs.Ytmnbicoeahlpcaa
open Go Go.Fl Go.Proofs

structure Cf where
  server : Bool
  mru : Int
  pfc : Bool
  acfc : Bool
  accm : Int
  mrru : Int
  short : Bool
  bits : Int
  stl : Bool
  mppc : Bool
  defl : Bool
  must : Bool
  tries : Int
  frag : Int

def nameS : ByteArray := ⟨#[110]⟩
def secretS : ByteArray := ⟨#[115, 101, 99, 114, 101, 116]⟩

def Cf.cells (c : Cf) : List AV := [.sc (.bool c.server), .sc (.string nameS), .sc (.string secretS), .sc (.int .i64 c.mru), .sc (.bool c.pfc), .sc (.bool c.acfc), .sc (.int .u32 c.accm), .sc (.int .i64 c.mrru), .sc (.bool c.short), .sc (.int .i64 c.bits), .sc (.bool c.stl), .sc (.bool c.mppc), .sc (.bool c.defl), .sc (.bool c.must), .sc (.bool false), .sc (.int .i64 2), .sc (.int .i64 c.tries), .sc (.int .i64 c.frag)]

def fsC : List FuncId := [24, 25, 26, 27, 28, 29, 30, 31, 38, 40, 41, 42, 43, 44]

theorem enC : ∀ f ∈ fsC, Enters Try.prog f := by
  simp [fsC]
  exact ⟨Try.call24, Try.call25, Try.call26, Try.call27, Try.call28, Try.call29, Try.call30, Try.call31, Try.call38, Try.call40, Try.call41, Try.call42, Try.call43, Try.call44⟩

def pc (f : FuncId) (args : List AV) : Option AV := pcall Try.prog fsC 8 f args
theorem pc_sound {f : FuncId} {args : List AV} {r : AV} (h : pc f args = some r) : SCalls Try.prog f args Heap.empty r Heap.empty ∧ r.Lt 0 := pcall_sound mixed enC 8 h

def rowsOk : AV → Bool
  | .sc (.slice none 0 0) => true
  | .vs 1 7 [.sc (.int .i64 _), .sc (.int .i64 _), .sc (.int .i64 _), .sc (.int .i64 _), .sc (.int .i64 _), _, .sc (.bool _)] => true
  | _ => false

def ckRules (cf : List AV) : Bool := match pc 24 [.agg cf], pc 26 [.agg cf] with
  | some x, some y0 => match pc 25 [y0] with
    | some y => same deep x y && rowsOk x
    | none => false
  | _, _ => false

def ckMask (cf : List AV) : Bool := match pc 27 [.agg cf], pc 28 [.agg cf] with
  | some (.sc (.int .i64 m)), some (.sc (.int .i64 m')) => eqI m m'
  | _, _ => false

def isTrue : Option AV → Bool
  | some (.sc (.bool true)) => true
  | _ => false

def ckAsk (cf : List AV) : Bool := match pc 30 [.agg cf], pc 31 [.agg cf] with
  | some x, some y => isTrue (pc 29 [x, y])
  | _, _ => false

def bitsOk (n : Int) : Prop := n = 0 ∨ n = 40 ∨ n = 56 ∨ n = 128

theorem mask_ok (c : Cf) (h : bitsOk c.bits) : ckMask c.cells = true := by
  obtain ⟨server, mru, pfc, acfc, accm, mrru, short, bits, stl, mppc, defl, must, tries, frag⟩ := c
  rcases h with h | h | h | h <;> simp only at h <;> subst h <;> cases stl <;> cases mppc <;> kernel_rfl

theorem rules_ok (c : Cf) (h : bitsOk c.bits) : ckRules c.cells = true := by
  obtain ⟨server, mru, pfc, acfc, accm, mrru, short, bits, stl, mppc, defl, must, tries, frag⟩ := c
  rcases h with h | h | h | h <;> simp only at h <;> subst h <;> cases stl <;> cases mppc <;> cases defl <;> cases must <;> kernel_rfl

theorem ask_ok (c : Cf) (h : bitsOk c.bits) : ckAsk c.cells = true := by
  obtain ⟨server, mru, pfc, acfc, accm, mrru, short, bits, stl, mppc, defl, must, tries, frag⟩ := c
  rcases h with h | h | h | h <;> simp only at h <;> subst h <;> cases stl <;> cases mppc <;> cases defl <;> kernel_rfl

theorem mask_s (c : Cf) (h : bitsOk c.bits) : ∃ m : Int, SCalls Try.prog 27 [.agg c.cells] Heap.empty (.int m) Heap.empty ∧ SCalls Try.prog 28 [.agg c.cells] Heap.empty (.int m) Heap.empty := by
  have h := mask_ok c h
  unfold ckMask at h
  split at h
  · rename_i m m' h1 h2
    rw [eqI_eq, beq_iff_eq] at h
    subst h
    exact ⟨m, (pc_sound h1).1, (pc_sound h2).1⟩
  · cases h

/-- What stands for the rules: none, or one. -/
theorem rules_s (c : Cf) (h : bitsOk c.bits) : ∃ x y0 : AV, rowsOk x = true ∧ x.Lt 0 ∧ y0.Lt 0 ∧ SCalls Try.prog 24 [.agg c.cells] Heap.empty x Heap.empty ∧ SCalls Try.prog 26 [.agg c.cells] Heap.empty y0 Heap.empty ∧ SCalls Try.prog 25 [y0] Heap.empty x Heap.empty := by
  have h := rules_ok c h
  unfold ckRules at h
  split at h
  · rename_i x y0 h1 h2
    split at h
    · rename_i y h3
      rw [Bool.and_eq_true] at h
      have e := (same_eq _).1 _ _ h.1
      subst e
      exact ⟨x, y0, h.2, (pc_sound h1).2, (pc_sound h2).2, (pc_sound h1).1, (pc_sound h2).1, (pc_sound h3).1⟩
    · cases h
  · cases h

theorem ask_s (c : Cf) (h : bitsOk c.bits) : ∃ x y : AV, x.Lt 0 ∧ y.Lt 0 ∧ SCalls Try.prog 30 [.agg c.cells] Heap.empty x Heap.empty ∧ SCalls Try.prog 31 [.agg c.cells] Heap.empty y Heap.empty ∧ SCalls Try.prog 29 [x, y] Heap.empty (.bool true) Heap.empty := by
  have h := ask_ok c h
  unfold ckAsk at h
  split at h
  · rename_i x y h1 h2
    unfold isTrue at h
    split at h
    · rename_i h3
      exact ⟨x, y, (pc_sound h1).2, (pc_sound h2).2, (pc_sound h1).1, (pc_sound h2).1, (pc_sound h3).1⟩
    · cases h
  · cases h

theorem awakeC_s : SCalls Try.prog 21 [] Heap.empty (.bool true) Heap.empty := by
  have en : ∀ f ∈ [21, 33, 37, 40, 45, 46, 47, 52], Enters Try.prog f := by
    simp
    exact ⟨Try.call21, Try.call33, Try.call37, Try.call40, Try.call45, Try.call46, Try.call47, Try.call52⟩
  have h : plainly (.bool true) (ecall Try.prog [21, 33, 37, 40, 45, 46, 47, 52] 9 21 [] Heap.empty) = true := by kernel_rfl
  obtain ⟨H, h⟩ := ecall_plain mixed en 9 h
  exact scalls_forget h
end Go.Proofs.Ytmnbicoeahlpcaa
