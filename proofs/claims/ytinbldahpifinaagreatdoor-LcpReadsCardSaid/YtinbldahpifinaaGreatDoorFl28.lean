/- What a round keeps: all cells but those of one block. -/
import Derived.Test.YtinbldahpifinaaGreatDoorFl27
noncomputable section
namespace Go.Fl
open Go Go.RowKit

theorem VR.cells {ρ : Rho} {I : Nat → Prop} {hp : Array Obj} {x : AV} {v : Value} (h : VR ρ I hp x v) : VR ρ (fun cb => I cb ∧ ∃ c e fz, hp[cb]? = some (.cells c e fz)) hp x v := by
  induction h with
  | sc v => exact .sc v
  | top v => exact .top v
  | ab b => exact .ab b
  | ptr h => exact .ptr h
  | ms h1 h2 h3 h4 => exact .ms h1 h2 h3 h4
  | ms0 h => exact .ms0 h
  | vs0 h => exact .vs0 h
  | vs h1 h2 h3 h4 h5 _ ih => exact .vs ⟨h1, _, _, _, h3⟩ h2 h3 h4 h5 ih
  | ep h1 h2 h3 _ ih => exact .ep ⟨h1, _, _, _, h2⟩ h2 h3 ih
  | fn h1 h2 _ _ ih1 ih2 => exact .fn h1 h2 ih1 ih2
  | ifc _ ih => exact .ifc ih
  | agg h1 _ ih => exact .agg h1 ih
  | tup h1 _ ih => exact .tup h1 ih

/-- The cells of a world but those of block B. -/
def IB (B : Nat) (w : World) : Nat → Prop := fun cb => (cb < w.heap.size ∧ cb ≠ B) ∧ ∃ c e fz, w.heap[cb]? = some (.cells c e fz)

structure KeepC (B : Nat) (W W' : World) : Prop where
  size : W.heap.size ≤ W'.heap.size
  cells : ∀ (k : Nat) (c : Array Value) (e : TypeId) (fz : Nat × Nat), W.heap[k]? = some (.cells c e fz) → ∃ (c' : Array Value) (fz' : Nat × Nat), W'.heap[k]? = some (.cells c' e fz') ∧ c'.size = c.size ∧ (k ≠ B → c' = c ∧ fz' = fz)

theorem KeepC.refl (B : Nat) (W : World) : KeepC B W W := ⟨Nat.le_refl _, fun _ c _ fz h => ⟨c, fz, h, rfl, fun _ => ⟨rfl, rfl⟩⟩⟩
theorem KeepC.trans {B : Nat} {W W1 W2 : World} (h : KeepC B W W1) (k : KeepC B W1 W2) : KeepC B W W2 := by
  refine ⟨Nat.le_trans h.size k.size, fun b c e fz hb => ?_⟩
  obtain ⟨c1, fz1, h1, h2, h3⟩ := h.cells b c e fz hb
  obtain ⟨c2, fz2, k1, k2, k3⟩ := k.cells b c1 e fz1 h1
  exact ⟨c2, fz2, k1, k2.trans h2, fun hne => ⟨(k3 hne).1.trans (h3 hne).1, (k3 hne).2.trans (h3 hne).2⟩⟩

theorem KeepC.putObj {B : Nat} (W : World) (l : Nat) (o o' : Obj) (h : W.heap[l]? = some o) (ho : o.isCells = false) : KeepC B W (W.putObj l o') := by
  refine ⟨by simp, fun k c e fz hk => ⟨c, fz, ?_, rfl, fun _ => ⟨rfl, rfl⟩⟩⟩
  rw [World.putObj_heap_other]
  · exact hk
  · rintro rfl
    rw [hk] at h; cases h
    simp [Obj.isCells] at ho

/-- A frame over a world of which nothing is named and all cells but those of block B are kept. -/
abbrev EB (B sz : Nat) (w : World) (env : Env) (a : Act) : Prop := ERel sz (fun _ => none) (IB B w) w.heap env a

theorem Rel.nothingB (B : Nat) (w : World) : Rel (fun _ => none) (IB B w) Heap.empty w.heap where
  live b cs hb := by rw [show Heap.empty.get b = none from rfl] at hb; cases hb
  inj b b' cs cs' cb base base' hb := by rw [show Heap.empty.get b = none from rfl] at hb; cases hb
  rng b p hb := by cases hb
  at_ b cb base hb := by cases hb
  irng cb h := h.1.1

theorem Ext.newB {B : Nat} {ρ' : Rho} {I' : Nat → Prop} {w w' : World} (hB : B < w.heap.size) (h : Ext (fun _ => none) (IB B w) w ρ' I' w') {H : Heap} (hr : Rel ρ' I' H w'.heap) : ∀ cb, I' cb → cb < w'.heap.size ∧ cb ≠ B := by
  intro cb hcb
  refine ⟨hr.irng cb hcb, ?_⟩
  rcases h.newI cb hcb with h1 | h1 | ⟨b, base, h1⟩
  · exact h1.1.2
  · omega
  · cases h1

theorem Ext.oldB {B : Nat} {ρ' : Rho} {I' : Nat → Prop} {w w' : World} (h : Ext (fun _ => none) (IB B w) w ρ' I' w') : ∀ k, k < w.heap.size → w'.heap[k]? = w.heap[k]? :=
  fun k hk => h.frame k hk fun b base hb => by cases hb

theorem Ext.grownB {B : Nat} {ρ' : Rho} {I' : Nat → Prop} {w w' : World} (h : Ext (fun _ => none) (IB B w) w ρ' I' w') : w.grownBy w' none :=
  ⟨h.os, h.tape, h.output, h.size, fun k hk _ => h.oldB k hk⟩

/-- Behind a piece: what names no block may be read over the world as it lies now. -/
theorem EB.of {B sz : Nat} {ρ' : Rho} {I' : Nat → Prop} {w w' : World} {env : Env} {a : Act} {H : Heap} (hB : B < w.heap.size) (hx : Ext (fun _ => none) (IB B w) w ρ' I' w') (hr : Rel ρ' I' H w'.heap) (he : ERel sz ρ' I' w'.heap env a)
    (env' : Env) (h : ∀ i, env' i = .top ∨ (env' i = env i ∧ (env i).Lt 0)) : EB B sz w' env' a := by
  refine ⟨he.size, he.defers, fun i => ?_⟩
  rcases h i with h1 | ⟨h1, h2⟩
  · rw [h1]; exact .top _
  · rw [h1]
    have := ((he.val i).lower h2).cells
    rw [below_zero] at this
    exact this.mono' (fun b p hb => by cases hb) (fun cb hcb => ⟨hx.newB hB hr cb hcb.1, hcb.2⟩) (fun _ _ => rfl) (fun _ c _ fz h => ⟨c, fz, h, rfl⟩)

/-- Behind a round. -/
theorem EB.keep {B sz : Nat} {w w' : World} {env : Env} {a : Act} (h : EB B sz w env a) (k : KeepC B w w') : EB B sz w' env a := by
  refine ⟨h.size, h.defers, fun i => (h.val i).mono' (fun _ _ h => h) ?_ ?_ ?_⟩
  · rintro cb ⟨⟨h1, h2⟩, c, e, fz, h3⟩
    obtain ⟨c', fz', h4, _, _⟩ := k.cells cb c e fz h3
    exact ⟨⟨Nat.lt_of_lt_of_le h1 k.size, h2⟩, c', e, fz', h4⟩
  · rintro cb ⟨⟨h1, h2⟩, c, e, fz, h3⟩
    obtain ⟨c', fz', h4, _, h5⟩ := k.cells cb c e fz h3
    rw [h3, h4, (h5 h2).1, (h5 h2).2]
  · intro cb c e fz h3
    obtain ⟨c', fz', h4, h5, _⟩ := k.cells cb c e fz h3
    exact ⟨c', fz', h4, h5⟩

/-- A piece of code, at the wide fence. -/
theorem scode_inB {P : Program} {B sz n : Nat} {c : Code} {Q : Exit → Env → Heap → Prop} {env : Env} {a : Act} {w : World} {Q' : Exit → Act → World → Prop} (h : SCode P sz c Q env Heap.empty) (he : EB B sz w env a)
    (hq : ∀ e a' w', SPost sz (fun _ => none) (IB B w) w Q e a' w' → Q' e a' w') : c.wpIn Fence.wide n P Q' a w :=
  wpIn_wide.2 (h _ _ w a _ (Rel.nothingB B w) he hq)

/-- The frame that a call begins with. -/
theorem enter_rel {ρ : Rho} {I : Nat → Prop} {hp : Array Obj} {args : List AV} {cargs : Array Value} {n sz : Nat} (h : VRs ρ I hp args cargs) (hsz : args.length + (n - args.length) = sz) :
    ERel sz ρ I hp (enterEnv args) { tmps := cargs ++ Array.replicate (n - cargs.size) Go.undef, defers := [] } := by
  subst hsz
  refine ⟨by simp [h.1], rfl, fun i => ?_⟩
  simp only [enterEnv]
  by_cases hi : i < args.length
  · rw [List.getElem?_eq_getElem hi]
    have h1 := h.2 i _ (List.getElem?_eq_getElem hi)
    have e1 : (cargs ++ Array.replicate (n - cargs.size) Go.undef).getD i Go.undef = cargs.getD i Go.undef := by
      have hi' : i < cargs.size := by rw [← h.1]; exact hi
      simp only [Array.getD_eq_getD_getElem?]
      rw [Array.getElem?_append_left hi']
    rw [e1]; exact h1
  · rw [List.getElem?_eq_none (by omega)]
    have hi' : cargs.size ≤ i := by rw [← h.1]; omega
    have e1 : (cargs ++ Array.replicate (n - cargs.size) Go.undef).getD i Go.undef = Go.undef := by
      simp only [Array.getD_eq_getD_getElem?]
      rw [Array.getElem?_append_right hi', Array.getElem?_replicate]
      split <;> rfl
    rw [e1]; exact .sc _

/-- Of a frame, the slots that are asked for. -/
def only (ks : List Nat) (env : Env) : Env := fun k => if ks.contains k then env k else .top

theorem only_in {ks : List Nat} {env : Env} {k : Nat} (h : ks.contains k = true) : only ks env k = env k := by simp only [only, h, if_true]

theorem EB.only {B sz : Nat} {ρ' : Rho} {I' : Nat → Prop} {w w' : World} {env : Env} {a : Act} {H : Heap} (ks : List Nat) (hB : B < w.heap.size) (hx : Ext (fun _ => none) (IB B w) w ρ' I' w') (hr : Rel ρ' I' H w'.heap) (he : ERel sz ρ' I' w'.heap env a)
    (h : ∀ k ∈ ks, (env k).Lt 0) : EB B sz w' (only ks env) a :=
  EB.of hB hx hr he _ fun i => by
    by_cases hk : ks.contains i = true
    · exact .inr ⟨only_in hk, h i (by simpa using hk)⟩
    · exact .inl (by simp only [Go.Fl.only, hk]; rfl)

end Go.Fl
