/- The operations on abstract values. -/
import Derived.Test.YtklihehobpahkaaGreatDoorFl2
import Derived.Laws.Entries
set_option linter.unusedVariables false
set_option linter.unusedSimpArgs false
noncomputable section
namespace Go.Fl
open Go

/-- What reads the program's tables alone. -/
def srun {α : Type} (P : Program) : Sem α → Option α
  | .pure a => some a
  | .program k => srun P (k P)
  | _ => none

theorem srun_run {α : Type} {P : Program} {s : Sem α} {a : α} (h : srun P s = some a) (w : World) : s.run P w = .ok a w := by
  induction s with
  | pure b => simp only [srun, Option.some.injEq] at h; subst h; rfl
  | program k ih => simp only [srun] at h; simp only [Sem.run]; exact ih P h
  | _ => simp [srun] at h

def ofV : Value → AV
  | .agg cs => .agg (cs.toList.map .sc)
  | .tuple vs => .tup (vs.toList.map .sc)
  | v => .sc v

def scs : List AV → Option (List Value)
  | [] => some []
  | .sc v :: r => (scs r).map (v :: ·)
  | _ :: _ => none

def conc : AV → Option Value
  | .sc v => some v
  | .agg cs => (scs cs).map fun l => .agg l.toArray
  | .tup cs => (scs cs).map fun l => .tuple l.toArray
  | _ => none

section
variable {ρ : Rho} {I : Nat → Prop} {hp : Array Obj}

theorem VRs_sc (l : List Value) : VRs ρ I hp (l.map .sc) l.toArray := by
  refine ⟨by simp, fun i x hx => ?_⟩
  simp only [List.getElem?_map, Option.map_eq_some_iff] at hx
  obtain ⟨v, hv, rfl⟩ := hx
  have : l.toArray.getD i Go.undef = v := by simp [hv]
  rw [this]; exact .sc v

theorem VR_ofV (v : Value) : VR ρ I hp (ofV v) v := by
  cases v <;> simp only [ofV] <;> first
    | exact .sc _
    | (rename_i cs; exact .agg (by simp) (by have := (VRs_sc (ρ := ρ) (I := I) (hp := hp) cs.toList).2; simpa using this))
    | (rename_i cs; exact .tup (by simp) (by have := (VRs_sc (ρ := ρ) (I := I) (hp := hp) cs.toList).2; simpa using this))

theorem VR.eq_sc {u v : Value} (h : VR ρ I hp (.sc u) v) : v = u := by cases h; rfl

theorem scs_VRs {cs : List AV} {l : List Value} (h : scs cs = some l) {ys : Array Value} (hs : cs.length = ys.size) (hv : ∀ i x, cs[i]? = some x → VR ρ I hp x (ys.getD i Go.undef)) :
    ys = l.toArray := by
  have key : ∀ (cs : List AV) (l : List Value), scs cs = some l → cs = l.map .sc := by
    intro cs
    induction cs with
    | nil => intro l h; simp [scs] at h; subst h; rfl
    | cons x cs ih =>
      intro l h
      cases x <;> simp [scs] at h
      rename_i v
      obtain ⟨l', h1, rfl⟩ := h
      simp [← ih _ h1]
  have e := key _ _ h
  subst e
  apply Array.ext
  · simpa using hs.symm
  · intro i h1 h2
    have hi : i < l.length := by simpa using h2
    have := (hv i (.sc l[i]) (by simp [List.getElem?_eq_getElem hi])).eq_sc
    simp only [Array.getD, h1, dif_pos] at this
    simpa using this

theorem conc_VR {x : AV} {v u : Value} (h : conc x = some v) (hv : VR ρ I hp x u) : u = v := by
  cases x <;> simp only [conc] at h <;> try (cases h; done)
  · cases h; exact hv.eq_sc
  · cases hl : scs ‹List AV› with
    | none => simp [hl] at h
    | some l =>
      simp [hl] at h
      subst h
      cases hv with
      | agg h1 h2 => rw [scs_VRs hl h1 h2]
  · cases hl : scs ‹List AV› with
    | none => simp [hl] at h
    | some l =>
      simp [hl] at h
      subst h
      cases hv with
      | tup h1 h2 => rw [scs_VRs hl h1 h2]
end

/-- The cells of a value: of one whose number of cells is known. -/
def acells : AV → Option (List AV)
  | .agg cs => some cs
  | .sc (.agg _) | .top => none
  | v => some [v]

theorem acells_VRs {ρ : Rho} {I : Nat → Prop} {hp : Array Obj} {x : AV} {cs : List AV} {v : Value} (h : acells x = some cs) (hv : VR ρ I hp x v) : VRs ρ I hp cs v.cells := by
  have one : ∀ (x : AV) (v : Value), v.cells = #[v] → VR ρ I hp x v → VRs ρ I hp [x] v.cells := by
    intro x v e h
    rw [e]
    refine ⟨rfl, fun i y hy => ?_⟩
    cases i with
    | zero => simp at hy; subst hy; exact h
    | succ i => simp at hy
  cases hv with
  | sc =>
    cases v <;> simp only [acells] at h <;> first | (cases h; done) | (cases h; exact one _ _ rfl (.sc _))
  | top => simp [acells] at h
  | ab b => simp only [acells, Option.some.injEq] at h; subst h; exact one _ _ rfl (.ab b)
  | ai k n => simp only [acells, Option.some.injEq] at h; subst h; exact one _ _ rfl (.ai k n)
  | agg h1 h2 => simp only [acells, Option.some.injEq] at h; subst h; exact ⟨h1, h2⟩
  | ptr h1 => simp only [acells, Option.some.injEq] at h; subst h; exact one _ _ rfl (.ptr h1)
  | ms h1 h2 h3 h4 => simp only [acells, Option.some.injEq] at h; subst h; exact one _ _ rfl (.ms h1 h2 h3 h4)
  | ms0 h1 => simp only [acells, Option.some.injEq] at h; subst h; exact one _ _ rfl (.ms0 h1)
  | vs0 h0 => simp only [acells, Option.some.injEq] at h; subst h; exact one _ _ rfl (.vs0 h0)
  | vs h1 hc h2 h3 h4 h5 => simp only [acells, Option.some.injEq] at h; subst h; exact one _ _ rfl (.vs h1 hc h2 h3 h4 h5)
  | ep h1 h2 h3 h4 => simp only [acells, Option.some.injEq] at h; subst h; exact one _ _ rfl (.ep h1 h2 h3 h4)
  | fn h1 h2 h3 h4 => simp only [acells, Option.some.injEq] at h; subst h; exact one _ _ rfl (.fn h1 h2 h3 h4)
  | ifc h1 => simp only [acells, Option.some.injEq] at h; subst h; exact one _ _ rfl (.ifc h1)
  | tup h1 h2 => simp only [acells, Option.some.injEq] at h; subst h; exact one _ _ rfl (.tup h1 h2)

theorem leaf_oneCell {ρ : Rho} {I : Nat → Prop} {hp : Array Obj} {x : AV} {v : Value} (h : x.leaf = true) (hv : VR ρ I hp x v) : v.oneCell' = true := by
  cases hv with
  | sc => cases v <;> simp_all [AV.leaf, Value.oneCell']
  | _ => first | rfl | (simp [AV.leaf] at h)

/-- Cells put in the place of others. -/
def splice (cs : List AV) (o : Nat) (new : List AV) : List AV := cs.take o ++ new ++ cs.drop (o + new.length)

theorem splice_length {cs new : List AV} {o : Nat} (h : o + new.length ≤ cs.length) : (splice cs o new).length = cs.length := by
  simp [splice]; omega

theorem splice_get {cs new : List AV} {o : Nat} (h : o + new.length ≤ cs.length) (i : Nat) :
    (splice cs o new)[i]? = if i < o then cs[i]? else if i < o + new.length then new[i - o]? else cs[i]? := by
  have ho : o ≤ cs.length := by omega
  unfold splice
  rw [List.append_assoc, List.getElem?_append]
  simp only [List.length_take, Nat.min_eq_left ho]
  split
  · rw [List.getElem?_take_of_lt ‹_›]
  · rw [List.getElem?_append]
    split
    · rw [if_pos (by omega)]
    · rw [if_neg (by omega), List.getElem?_drop]
      congr 1
      omega

section ops
variable (P : Program)

/-- The number of cells of a type. -/
def csz (t : TypeId) : Option Nat := (P.info? t).map (·.size)

def isAggT (t : TypeId) : Option Bool :=
  match P.underlying t with
  | some (.struct _) | some (.array _ _) => some true
  | some _ => some false
  | none => none

def zeroC (t : TypeId) : Option (List AV) := (P.info? t).bind fun i => i.zero.map fun v => v.cells.toList.map .sc

theorem csz_run {t : TypeId} {n : Nat} (h : csz P t = some n) (w : World) : (sizeOf t).run P w = .ok n w := by
  unfold csz at h
  cases hi : P.info? t with
  | none => simp [hi] at h
  | some i => simp [hi] at h; subst h; simp [sizeOf, typeInfo, hi]

theorem isAggT_run {t : TypeId} {b : Bool} (h : isAggT P t = some b) (w : World) : (isAgg t).run P w = .ok b w := by
  unfold isAggT at h
  unfold isAgg
  cases hu : P.underlying t with
  | none => simp [hu] at h
  | some d =>
    simp only [Sem.run_bind, run_underlying hu, Result.andThen_ok]
    cases d <;> simp_all

theorem zeroC_run {t : TypeId} {zs : List AV} (h : zeroC P t = some zs) (w : World) : ∃ z, (zeroValue t).run P w = .ok z w ∧ zs = z.cells.toList.map .sc := by
  unfold zeroC at h
  cases hi : P.info? t with
  | none => simp [hi] at h
  | some i =>
    cases hz : i.zero with
    | none => simp [hi, hz] at h
    | some z => simp [hi, hz] at h; exact ⟨z, by simp [zeroValue, typeInfo, hi, hz], h.symm⟩

/-- The cells at an address. -/
def cellsAt (H : Heap) (p : AV) (n : Nat) : Option (List AV) :=
  match p with
  | .ptr b o => (H.get b).bind fun cs => if o + n ≤ cs.length then some ((cs.drop o).take n) else none
  | .ep cells => if n ≤ cells.length then some (cells.take n) else none
  | _ => none

/-- The cells of a slice, and how many elements. -/
def sliceCells (H : Heap) (sz : Nat) (x : AV) : Option (Nat × List AV) :=
  match x with
  | .sc (.slice none 0 0) => some (0, [])
  | .ms b off len sz' => if sz' = sz then (H.get b).bind fun cs => if off + len * sz ≤ cs.length then some (len, (cs.drop off).take (len * sz)) else none else none
  | .vs len sz' cells => if sz' = sz && cells.length == len * sz then some (len, cells) else none
  | _ => none

def aload (H : Heap) (t : TypeId) (p : AV) : Option AV :=
  (isAggT P t).bind fun g => if g then (csz P t).bind fun n => (cellsAt H p n).map .agg else (cellsAt H p 1).bind fun l => l.head?

def astore (H : Heap) (t : TypeId) (p v : AV) : Option Heap :=
  (csz P t).bind fun n => (acells v).bind fun vs =>
    match p with
    | .ptr b o => (H.get b).bind fun cs => if vs.length = n ∧ o + n ≤ cs.length ∧ vs.all AV.leaf = true then some (H.set b (splice cs o vs)) else none
    | _ => none

def ashift (p : AV) (n : Nat) : Option AV :=
  match p with
  | .ptr b o => some (.ptr b (o + n))
  | .ep cells => if n ≤ cells.length then some (.ep (cells.drop n)) else none
  | _ => none

def afield (s : TypeId) (p : AV) (f : Nat) : Option AV :=
  match P.underlying s with
  | some (.struct fields) => (fields[f]?).bind fun fl => (csz P fl.type).bind fun n => if n = 0 then none else ashift p fl.offset
  | _ => none

def aindex (t : TypeId) (x i : AV) : Option AV :=
  match P.underlying t, i with
  | some (.array len e), .sc (.int _ n) => (csz P e).bind fun sz => if 0 ≤ n ∧ n < len then ashift x (n.toNat * sz) else none
  | some (.slice e), .sc (.int _ n) => (csz P e).bind fun sz =>
    match x with
    | .ms b off len sz' => if sz' = sz ∧ 0 ≤ n ∧ n < len then some (.ptr b (off + n.toNat * sz)) else none
    | .vs len sz' cells => if sz' = sz ∧ 0 ≤ n ∧ n < len ∧ cells.length = len * sz then some (.ep (cells.drop (n.toNat * sz))) else none
    | _ => none
  | _, _ => none

def apart (t : TypeId) (cs : List AV) (off : Nat) : Option AV :=
  (isAggT P t).bind fun g => if g then (csz P t).bind fun n => if off + n ≤ cs.length then some (.agg ((cs.drop off).take n)) else none else cs[off]?

end ops
end Go.Fl
