/- The abstract values, heaps, and how they stand for the concrete world. -/
import Derived.Test.YtklihehobpahkaaGreatDoorFl0
import Derived.Test.YtklihehobpahkaaGreatDoorFl99
import Derived.Orders
import Derived.Calls
import Derived.Laws.Append
import Derived.Laws.Tables
import Derived.KernelRfl
set_option linter.unusedVariables false
set_option linter.unusedSimpArgs false
noncomputable section
namespace Go.Fl
open Go

inductive AV where
  | sc (v : Value)
  | ptr (b o : Nat)
  | ms (b off len sz : Nat)
  | vs (len sz : Nat) (cells : List AV)
  | ep (cells : List AV)
  | fn (f : Fn) (first captured : List AV)
  | ifc (t : TypeId) (v : AV)
  | agg (cells : List AV)
  | tup (vs : List AV)
  | ab
  | ai (k : IntKind)
  | top

instance : Inhabited AV := ⟨.top⟩

abbrev AV.nil : AV := .sc (.slice none 0 0)
abbrev AV.int (n : Int) : AV := .sc (.int .i64 n)
abbrev AV.bool (b : Bool) : AV := .sc (.bool b)
abbrev AV.undef : AV := .sc Go.undef

def AV.cells : AV → List AV
  | .agg cs => cs
  | v => [v]

def AV.leaf : AV → Bool
  | .sc (.agg _) | .sc (.tuple _) | .agg _ | .tup _ | .top => false
  | _ => true

/-- Where a block of ours lies: nowhere known (none); it has no memory behind it (some none); in a concrete block from a place on. -/
abbrev Rho := Nat → Option (Option (Nat × Nat))

inductive VR (ρ : Rho) (I : Nat → Prop) (hp : Array Obj) : AV → Value → Prop
  | sc (v : Value) : VR ρ I hp (.sc v) v
  | top (v : Value) : VR ρ I hp .top v
  | ab (b : Bool) : VR ρ I hp .ab (.bool b)
  | ai (k : IntKind) (n : Int) : VR ρ I hp (.ai k) (.int k n)
  | ptr {b o cb base : Nat} : ρ b = some (some (cb, base)) → VR ρ I hp (.ptr b o) (.pointer (some ⟨cb, base + o, none⟩))
  | ms {b off len sz cb base cap : Nat} {c : Array Value} {e : TypeId} {fz : Nat × Nat} : ρ b = some (some (cb, base)) → len ≤ cap →
      hp[cb]? = some (.cells c e fz) → base + off + cap * sz ≤ c.size → VR ρ I hp (.ms b off len sz) (.slice (some ⟨cb, base + off, none⟩) len cap)
  | ms0 {b off sz : Nat} {p : Option (Nat × Nat)} {a : Option Addr} : ρ b = some p → VR ρ I hp (.ms b off 0 sz) (.slice a 0 0)
  | vs0 {sz cap : Nat} {a : Option Addr} : (a = none → cap = 0) → VR ρ I hp (.vs 0 sz []) (.slice a 0 cap)
  | vs {len sz cb off cap : Nat} {cells : List AV} {c : Array Value} {e : TypeId} {fz : Nat × Nat} : I cb → len ≤ cap → hp[cb]? = some (.cells c e fz) →
      cells.length = len * sz → off + cells.length ≤ c.size → (∀ i x, cells[i]? = some x → VR ρ I hp x (c.getD (off + i) Go.undef)) →
      VR ρ I hp (.vs len sz cells) (.slice (some ⟨cb, off, none⟩) len cap)
  | ep {cb off : Nat} {cells : List AV} {c : Array Value} {e : TypeId} {fz : Nat × Nat} : I cb → hp[cb]? = some (.cells c e fz) →
      off + cells.length ≤ c.size → (∀ i x, cells[i]? = some x → VR ρ I hp x (c.getD (off + i) Go.undef)) →
      VR ρ I hp (.ep cells) (.pointer (some ⟨cb, off, none⟩))
  | fn {f : Fn} {first captured : List AV} {fs cs : Array Value} : first.length = fs.size → captured.length = cs.size →
      (∀ i x, first[i]? = some x → VR ρ I hp x (fs.getD i Go.undef)) → (∀ i x, captured[i]? = some x → VR ρ I hp x (cs.getD i Go.undef)) →
      VR ρ I hp (.fn f first captured) (.func f fs cs)
  | ifc {t : TypeId} {v : AV} {x : Value} : VR ρ I hp v x → VR ρ I hp (.ifc t v) (.iface t x)
  | agg {cells : List AV} {cs : Array Value} : cells.length = cs.size → (∀ i x, cells[i]? = some x → VR ρ I hp x (cs.getD i Go.undef)) →
      VR ρ I hp (.agg cells) (.agg cs)
  | tup {vs : List AV} {cs : Array Value} : vs.length = cs.size → (∀ i x, vs[i]? = some x → VR ρ I hp x (cs.getD i Go.undef)) →
      VR ρ I hp (.tup vs) (.tuple cs)

/-- Lists of values, place by place. -/
def VRs (ρ : Rho) (I : Nat → Prop) (hp : Array Obj) (xs : List AV) (ys : Array Value) : Prop :=
  xs.length = ys.size ∧ ∀ i x, xs[i]? = some x → VR ρ I hp x (ys.getD i Go.undef)

structure Heap where
  next : Nat
  tree : Tr (List AV)
  wf' : ∀ b, next ≤ b → tree.get b = none

def Heap.get (H : Heap) (b : Nat) : Option (List AV) := H.tree.get b

theorem Heap.wf (H : Heap) (b : Nat) (h : H.next ≤ b) : H.get b = none := H.wf' b h

def Heap.empty : Heap := ⟨0, .leaf, fun _ _ => rfl⟩

def Heap.alloc (H : Heap) (cs : List AV) : Heap :=
  ⟨H.next + 1, H.tree.put H.next (some cs), fun b hb => by
    rw [Tr.get_put, if_neg (by omega)]; exact H.wf b (by omega)⟩

def Heap.set (H : Heap) (b : Nat) (cs : List AV) : Heap :=
  ⟨H.next, H.tree.put b ((H.tree.get b).map fun _ => cs), fun x hx => by
    rw [Tr.get_put]
    split
    · rename_i e; subst e
      have := H.wf x hx
      unfold Heap.get at this
      rw [this]; rfl
    · exact H.wf x hx⟩

def Heap.del (H : Heap) (b : Nat) : Heap :=
  ⟨H.next, H.tree.put b none, fun x hx => by
    rw [Tr.get_put]
    split
    · rfl
    · exact H.wf x hx⟩

/-- Fewer blocks live. -/
def Heap.le (H' H : Heap) : Prop := ∀ b cs, H'.get b = some cs → H.get b = some cs

theorem Heap.lt_of_get {H : Heap} {b : Nat} {cs : List AV} (h : H.get b = some cs) : b < H.next := by
  rcases Nat.lt_or_ge b H.next with h1 | h1
  · exact h1
  · rw [H.wf b h1] at h; cases h

/-- The known package variables stand as they are known, and are kept. -/
def GlobOk (I : Nat → Prop) (hp : Array Obj) : Prop := ∀ g vs, globCells g = some vs → I g ∧ ∃ e fz, hp[g]? = some (.cells vs.toArray e fz)

theorem GlobOk.ext {I I' : Nat → Prop} {hp hp' : Array Obj} (h : GlobOk I hp) (hI : ∀ cb, I cb → I' cb) (hk : ∀ cb, I cb → hp'[cb]? = hp[cb]?) : GlobOk I' hp' := by
  intro g vs hg
  obtain ⟨h1, e, fz, h2⟩ := h g vs hg
  exact ⟨hI g h1, e, fz, by rw [hk g h1]; exact h2⟩

/-- No cell of a block is frozen. -/
def FzOk (n : Nat) (fz : Nat × Nat) : Prop := ∀ i, i < n → ¬ (fz.1 ≤ i ∧ i < fz.2)
theorem FzOk.zero (n : Nat) : FzOk n (0, 0) := fun i _ h => absurd h.2 (Nat.not_lt_zero _)
theorem FzOk.behind (n : Nat) : FzOk n (n, n + 1) := fun i hi h => by have := h.1; simp only at this; omega

structure Rel (ρ : Rho) (I : Nat → Prop) (H : Heap) (hp : Array Obj) : Prop where
  live : ∀ b cs, H.get b = some cs → (ρ b = some none ∧ cs = []) ∨ ∃ cb base c e, ρ b = some (some (cb, base)) ∧ ¬ I cb ∧ (∃ fz, FzOk c.size fz ∧ hp[cb]? = some (.cells c e fz)) ∧
    base + cs.length ≤ c.size ∧ ∀ i x, cs[i]? = some x → VR ρ I hp x (c.getD (base + i) Go.undef)
  inj : ∀ b b' cs cs' cb base base', H.get b = some cs → H.get b' = some cs' → ρ b = some (some (cb, base)) → ρ b' = some (some (cb, base')) → b = b'
  rng : ∀ b p, ρ b = some p → b < H.next
  at_ : ∀ b cb base, ρ b = some (some (cb, base)) → ∃ c e fz, hp[cb]? = some (.cells c e fz)
  irng : ∀ cb, I cb → cb < hp.size
  glob : GlobOk I hp

structure Ext (ρ : Rho) (I : Nat → Prop) (w : World) (ρ' : Rho) (I' : Nat → Prop) (w' : World) : Prop where
  rho : ∀ b p, ρ b = some p → ρ' b = some p
  imm : ∀ cb, I cb → I' cb
  size : w.heap.size ≤ w'.heap.size
  kept : ∀ cb, I cb → w'.heap[cb]? = w.heap[cb]?
  blocks : ∀ (cb : Nat) (c : Array Value) (e : TypeId) (fz : Nat × Nat), w.heap[cb]? = some (Obj.cells c e fz) → ∃ (c' : Array Value) (fz' : Nat × Nat), w'.heap[cb]? = some (Obj.cells c' e fz') ∧ c'.size = c.size
  frame : ∀ cb, cb < w.heap.size → (∀ b base, ρ b ≠ some (some (cb, base))) → w'.heap[cb]? = w.heap[cb]?
  newI : ∀ cb, I' cb → I cb ∨ w.heap.size ≤ cb ∨ ∃ b base, ρ b = some (some (cb, base))
  newR : ∀ b cb base, ρ' b = some (cb, base) → ρ b = some (some (cb, base)) ∨ w.heap.size ≤ cb ∨ ∃ b0 base0, ρ b0 = some (some (cb, base0))
  os : w'.os = w.os
  tape : w'.tape = w.tape
  output : w'.output = w.output

theorem Ext.refl (ρ : Rho) (I : Nat → Prop) (w : World) : Ext ρ I w ρ I w :=
  ⟨fun _ _ h => h, fun _ h => h, Nat.le_refl _, fun _ _ => rfl, fun _ c _ fz h => ⟨c, fz, h, rfl⟩, fun _ _ _ => rfl, fun _ h => .inl h, fun _ _ _ h => .inl h, rfl, rfl, rfl⟩

theorem Ext.trans {ρ ρ1 ρ2 : Rho} {I I1 I2 : Nat → Prop} {w w1 w2 : World} (h : Ext ρ I w ρ1 I1 w1) (k : Ext ρ1 I1 w1 ρ2 I2 w2) : Ext ρ I w ρ2 I2 w2 where
  rho b p hb := k.rho b p (h.rho b p hb)
  imm cb hb := k.imm cb (h.imm cb hb)
  size := Nat.le_trans h.size k.size
  kept cb hb := (k.kept cb (h.imm cb hb)).trans (h.kept cb hb)
  blocks cb c e fz hb := by
    obtain ⟨c1, fz1, h1, hs⟩ := h.blocks cb c e fz hb
    obtain ⟨c2, fz2, h2, hs2⟩ := k.blocks cb c1 e fz1 h1
    exact ⟨c2, fz2, h2, hs2.trans hs⟩
  frame cb hlt hno := by
    rw [k.frame cb (Nat.lt_of_lt_of_le hlt h.size), h.frame cb hlt hno]
    intro b base hb
    rcases h.newR b cb base hb with h1 | h1 | ⟨b0, base0, h1⟩
    · exact hno _ _ h1
    · omega
    · exact hno _ _ h1
  newI cb hb := by
    rcases k.newI cb hb with h1 | h1 | ⟨b, base, h1⟩
    · exact h.newI cb h1
    · exact .inr (.inl (Nat.le_trans h.size h1))
    · rcases h.newR b cb base h1 with h2 | h2 | h2
      · exact .inr (.inr ⟨_, _, h2⟩)
      · exact .inr (.inl h2)
      · exact .inr (.inr h2)
  newR b cb base hb := by
    rcases k.newR b cb base hb with h1 | h1 | ⟨b0, base0, h1⟩
    · exact h.newR b cb base h1
    · exact .inr (.inl (Nat.le_trans h.size h1))
    · rcases h.newR b0 cb base0 h1 with h2 | h2 | h2
      · exact .inr (.inr ⟨_, _, h2⟩)
      · exact .inr (.inl h2)
      · exact .inr (.inr h2)
  os := k.os.trans h.os
  tape := k.tape.trans h.tape
  output := k.output.trans h.output

/-- A reading passes on to a world where the kept blocks lie as they lay and no block has shrunk. -/
theorem VR.mono' {ρ ρ' : Rho} {I I' : Nat → Prop} {hp hp' : Array Obj} (hρ : ∀ b p, ρ b = some p → ρ' b = some p) (hI : ∀ cb, I cb → I' cb)
    (hk : ∀ cb, I cb → hp'[cb]? = hp[cb]?) (hb : ∀ (cb : Nat) (c : Array Value) (e : TypeId) (fz : Nat × Nat), hp[cb]? = some (Obj.cells c e fz) → ∃ (c' : Array Value) (fz' : Nat × Nat), hp'[cb]? = some (Obj.cells c' e fz') ∧ c'.size = c.size)
    {x : AV} {v : Value} (h : VR ρ I hp x v) : VR ρ' I' hp' x v := by
  induction h with
  | sc v => exact .sc v
  | top v => exact .top v
  | ab b => exact .ab b
  | ai k n => exact .ai k n
  | ptr h => exact .ptr (hρ _ _ h)
  | ms h1 h2 h3 h4 =>
    obtain ⟨c', fz', h5, h6⟩ := hb _ _ _ _ h3
    exact .ms (hρ _ _ h1) h2 h5 (by omega)
  | ms0 h => exact .ms0 (hρ _ _ h)
  | vs0 h => exact .vs0 h
  | vs h1 hc h2 h3 h4 _ ih => exact .vs (hI _ h1) hc ((hk _ h1).trans h2) h3 h4 ih
  | ep h1 h2 h3 _ ih => exact .ep (hI _ h1) ((hk _ h1).trans h2) h3 ih
  | fn h1 h2 _ _ ih1 ih2 => exact .fn h1 h2 ih1 ih2
  | ifc _ ih => exact .ifc ih
  | agg h1 _ ih => exact .agg h1 ih
  | tup h1 _ ih => exact .tup h1 ih

theorem VR.mono {ρ ρ' : Rho} {I I' : Nat → Prop} {w w' : World} (k : Ext ρ I w ρ' I' w') {x : AV} {v : Value} (h : VR ρ I w.heap x v) : VR ρ' I' w'.heap x v :=
  h.mono' k.rho k.imm k.kept k.blocks

theorem VRs.mono {ρ ρ' : Rho} {I I' : Nat → Prop} {w w' : World} (k : Ext ρ I w ρ' I' w') {xs : List AV} {ys : Array Value} (h : VRs ρ I w.heap xs ys) :
    VRs ρ' I' w'.heap xs ys := ⟨h.1, fun i x hx => (h.2 i x hx).mono k⟩

/-- What is read under a greater renaming, and was read under the lesser, is read under the lesser. -/
theorem VR.restrict {ρ ρ' : Rho} {I J : Nat → Prop} {hp hq : Array Obj} (hρ : ∀ b p, ρ b = some p → ρ' b = some p) {x : AV} {u v : Value} (h0 : VR ρ J hq x u)
    (h : VR ρ' I hp x v) : VR ρ I hp x v := by
  induction h generalizing u with
  | sc v => exact .sc v
  | top v => exact .top v
  | ab b => exact .ab b
  | ai k n => exact .ai k n
  | ptr h =>
    cases h0 with
    | ptr k => have := hρ _ _ k; rw [h] at this; cases this; exact .ptr k
  | ms h1 h2 h3 h4 =>
    cases h0 with
    | ms k1 k2 k3 k4 => have := hρ _ _ k1; rw [h1] at this; cases this; exact .ms k1 h2 h3 h4
    | ms0 k => have := hρ _ _ k; rw [h1] at this; cases this; exact .ms k h2 h3 h4
  | ms0 h1 =>
    cases h0 with
    | ms k1 k2 k3 k4 => exact .ms0 k1
    | ms0 k => exact .ms0 k
  | vs0 h => exact .vs0 h
  | vs h1 hc h2 h3 h4 _ ih =>
    cases h0 with
    | vs0 => exact .vs h1 hc h2 h3 h4 (fun i x hx => by simp at hx)
    | vs k1 kc k2 k3 k4 k5 => exact .vs h1 hc h2 h3 h4 (fun i x hx => ih i x hx (k5 i x hx))
  | ep h1 h2 h3 _ ih =>
    cases h0 with
    | ep k1 k2 k3 k5 => exact .ep h1 h2 h3 (fun i x hx => ih i x hx (k5 i x hx))
  | fn h1 h2 _ _ ih1 ih2 =>
    cases h0 with
    | fn k1 k2 k3 k4 => exact .fn h1 h2 (fun i x hx => ih1 i x hx (k3 i x hx)) (fun i x hx => ih2 i x hx (k4 i x hx))
  | ifc _ ih => cases h0 with | ifc k => exact .ifc (ih k)
  | agg h1 _ ih => cases h0 with | agg k1 k2 => exact .agg h1 (fun i x hx => ih i x hx (k2 i x hx))
  | tup h1 _ ih => cases h0 with | tup k1 k2 => exact .tup h1 (fun i x hx => ih i x hx (k2 i x hx))

end Go.Fl
