/- From the abstract call to the machine's, for a law. -/
import Derived.Test.YtfmpakmigmehkaaGreatDoorFl23
import Derived.RowKit3
import Derived.ProofKit
import Derived.ChangeArms
import Derived.DataReads
set_option linter.unusedVariables false
set_option linter.unusedSimpArgs false
noncomputable section Fl24S
namespace Go.Fl
open Go Go.RowKit Go.ChangeShapes

/-- Of what was there nothing has turned. -/
def Kept (w w' : World) : Prop := w.keptBut w' (fun _ => False) ∧ w.heap.size ≤ w'.heap.size

theorem Kept.frame {w w' : World} (h : Kept w w') (may : MemPlace → Prop) : w.keptBut w' may := World.keptBut_mono (fun _ f => f.elim) h.1

theorem Ext.kept_all {ρ ρ' : Rho} {I' : Nat → Prop} {w w' : World} (h : Ext ρ (fun cb => cb < w.heap.size) w ρ' I' w') : Kept w w' := by
  refine ⟨⟨h.os, h.output, fun i hi => ?_⟩, h.size⟩
  rw [h.kept i hi]
  cases w.heap[i]? with
  | none => trivial
  | some o => cases o <;> simp

/-- The package variables that are known hold what they are known to hold. -/
structure GlobsMet (w : World) : Prop where
  cells : ∀ g vs, globCells g = some vs → ∃ e fz, w.heap[g]? = some (.cells vs.toArray e fz)
  like : ∀ g Q, globLike g = some Q → ∃ vs e fz, w.heap[g]? = some (.cells vs e fz) ∧ Q vs

theorem GlobsMet.ok {w : World} (h : GlobsMet w) : GlobOk (fun cb => cb < w.heap.size) w.heap where
  cells g vs hg := by
    obtain ⟨e, fz, h1⟩ := h.cells g vs hg
    exact ⟨(Array.getElem?_eq_some_iff.1 h1).1, e, fz, h1⟩
  like g Q hg := by
    obtain ⟨vs, e, fz, h1, h2⟩ := h.like g Q hg
    exact ⟨(Array.getElem?_eq_some_iff.1 h1).1, vs, e, fz, h1, h2⟩

theorem Rel.nothing (w : World) (hg : GlobsMet w) : Rel (fun _ => none) (fun cb => cb < w.heap.size) Heap.empty w.heap where
  live b cs hb := by rw [show Heap.empty.get b = none from rfl] at hb; cases hb
  inj b b' cs cs' cb base base' hb := by rw [show Heap.empty.get b = none from rfl] at hb; cases hb
  rng b p hb := by cases hb
  at_ b cb base hb := by cases hb
  irng cb h := h
  glob := hg.ok

theorem scalls_law {P : Program} {f : FuncId} {args : List AV} {v : Value} {H : Heap} (h : SCalls P f args Heap.empty (.sc v) H) (w : World) (hg : GlobsMet w) {cargs : Array Value} (ha : VRs (fun _ => none) (fun cb => cb < w.heap.size) w.heap args cargs) :
    Calls P f cargs w fun e w' => e = .returned v ∧ Kept w w' :=
  (h.2.2 _ _ w cargs (Rel.nothing w hg) ha).mono fun e w' ⟨u, ρ', I', h1, h2, h3, h4⟩ => ⟨by rw [h1, h2.eq_sc], h4.kept_all⟩

theorem scalls_law0 {P : Program} {f : FuncId} {v : Value} (h : ∃ H, SCalls P f [] Heap.empty (.sc v) H) (w : World) (hg : GlobsMet w) :
    Calls P f #[] w fun e w' => e = .returned v ∧ Kept w w' := by
  obtain ⟨H, h⟩ := h
  exact scalls_law h w hg ⟨rfl, fun i x hx => by simp at hx⟩

variable {H : Type} {enc : TypeId × Value → H} {P : Program}

/-- What the row asks behind the call, where nothing is asked of a second call. -/
theorem post_of_kept {f : Func} {s : ChangeSpec} {apart fresh handsOn : Bool} {W W' : World} {args : Array Value} {v : Value} {ds gs : List (DataW H)} {before pa pv : List MemPlace}
    (hW : DataW.Whole enc P f.params.toList s.vars apart W args.toList ds gs before)
    (hres : ∀ (b : Nat) (sp : Nat → Bool) (hd : Bool), DataW.TrodAll enc P W' b sp hd f.resultTypes.toList (v.resultList f.resultTypes.size) (s.fn H (ds ++ gs)).results [])
    (hargs : ∀ sp : Nat → Bool, (∀ p ∈ before, sp p.block = true) → DataW.TrodAll enc P W' 0 sp true f.params.toList args.toList (s.fn H (ds ++ gs)).args pa)
    (hvars : ∀ sp : Nat → Bool, (∀ p ∈ before, sp p.block = true) → DataW.TrodVars enc P W' sp s.vars (s.fn H (ds ++ gs)).vars pv)
    (hps : before = pa ++ pv) (hk : W.keptBut W' (· ∈ before)) :
    s.post enc P f apart fresh handsOn false W args v W' := by
  have hold : ∀ p ∈ before, (fun b => decide (b < W.heap.size)) p.block = true := fun p hp => by simpa using hW.lt p hp
  refine ⟨ds, gs, before, [], pa, pv, hW, hres _ _ _, hargs _ hold, hvars _ hold, World.keptBut_mono (fun p hp => ⟨hp, ?_⟩) hk, fun h => by cases h⟩
  rw [hps, List.mem_append] at hp
  exact Or.inr hp

end Go.Fl
end Fl24S

noncomputable section Fl25S
namespace Go.Fl
open Go

theorem below_zero (ρ : Rho) : ρ.below 0 = fun _ => none := by
  funext b
  simp [Rho.below]

theorem scalls_frame {P : Program} {f : FuncId} {args : List AV} {r : AV} (h : SCalls P f args Heap.empty r Heap.empty) (ha : ∀ x ∈ args, x.Lt 0) (hr : r.Lt 0) (H : Heap) : SCalls P f args H r H := by
  refine ⟨h.1, Nat.le_refl _, fun ρ I w cargs hrel hargs => ?_⟩
  have hrel0 : Rel (fun _ => none) I Heap.empty w.heap := by
    refine ⟨?_, ?_, ?_, ?_, hrel.irng, hrel.glob⟩
    · intro b cs hb; rw [show Heap.empty.get b = none from rfl] at hb; cases hb
    · intro b b' cs cs' cb base base' hb; rw [show Heap.empty.get b = none from rfl] at hb; cases hb
    · intro b p hb; cases hb
    · intro b cb base hb; cases hb
  have hargs0 : VRs (fun _ => none) I w.heap args cargs :=
    ⟨hargs.1, fun i x hx => by rw [← below_zero ρ]; exact (hargs.2 i x hx).lower (ha x (List.mem_of_getElem? hx))⟩
  refine (h.2.2 _ _ w cargs hrel0 hargs0).mono ?_
  rintro e w' ⟨v, ρ', I', he, hv, hr', hx⟩
  have hold : ∀ cb, cb < w.heap.size → w'.heap[cb]? = w.heap[cb]? := fun cb hcb => hx.frame cb hcb fun b base hb => by cases hb
  have hnew : ∀ cb, I' cb → I cb ∨ w.heap.size ≤ cb := fun cb hcb => by
    rcases hx.newI cb hcb with h1 | h1 | ⟨b, base, h1⟩
    · exact .inl h1
    · exact .inr h1
    · cases h1
  refine ⟨v, ρ, I', he, ?_, ?_, ?_⟩
  · have h1 := hv.lower hr
    rw [below_zero] at h1
    exact h1.mono' (fun b p hb => by cases hb) (fun _ h => h) (fun _ _ => rfl) (fun _ c _ fz h => ⟨c, fz, h, rfl⟩)
  · refine ⟨?_, hrel.inj, hrel.rng, ?_, hr'.irng, hr'.glob⟩
    · intro b cs hb
      rcases hrel.live b cs hb with h1 | ⟨cb, base, c, e, k1, k2, k3, k4, k5⟩
      · exact .inl h1
      · obtain ⟨fz, hf, k3⟩ := k3
        have hlt : cb < w.heap.size := (Array.getElem?_eq_some_iff.1 k3).1
        refine .inr ⟨cb, base, c, e, k1, fun hI => ?_, ⟨fz, hf, by rw [hold cb hlt]; exact k3⟩, k4, fun i x hx' => ?_⟩
        · rcases hnew cb hI with h1 | h1
          · exact k2 h1
          · omega
        · exact (k5 i x hx').mono' (fun _ _ h => h) hx.imm hx.kept hx.blocks
    · intro b cb base hb
      obtain ⟨c, e, fz, h1⟩ := hrel.at_ b cb base hb
      exact ⟨c, e, fz, by rw [hold cb (Array.getElem?_eq_some_iff.1 h1).1]; exact h1⟩
  · exact { rho := fun _ _ h => h
            imm := hx.imm
            size := hx.size
            kept := hx.kept
            blocks := hx.blocks
            frame := fun cb hlt _ => hold cb hlt
            newI := fun cb hcb => (hnew cb hcb).imp id .inl
            newR := fun b cb base hb => .inl hb
            os := hx.os
            tape := hx.tape
            output := hx.output }

/-- A heap may be forgotten in part behind a call whose value is plain. -/
theorem scalls_forget {P : Program} {f : FuncId} {args : List AV} {v : Value} {H : Heap} (h : SCalls P f args Heap.empty (.sc v) H) : SCalls P f args Heap.empty (.sc v) Heap.empty := by
  refine ⟨h.1, Nat.le_refl _, fun ρ I w cargs hrel hargs => (h.2.2 ρ I w cargs hrel hargs).mono ?_⟩
  rintro e w' ⟨u, ρ', I', he, hv, hr', hx⟩
  have hρ : ∀ b, ρ b = none := fun b => by
    cases hb : ρ b with
    | none => rfl
    | some p => have := hrel.rng b p hb; exact absurd this (Nat.not_lt_zero _)
  have hu := hv.eq_sc
  subst hu
  refine ⟨_, fun _ => none, I', he, .sc _, ?_, ?_⟩
  · refine ⟨?_, ?_, ?_, ?_, hr'.irng, hr'.glob⟩
    · intro b cs hb; rw [show Heap.empty.get b = none from rfl] at hb; cases hb
    · intro b b' cs cs' cb base base' hb; rw [show Heap.empty.get b = none from rfl] at hb; cases hb
    · intro b p hb; cases hb
    · intro b cb base hb; cases hb
  · exact { hx with
            rho := fun b p hb => by rw [hρ b] at hb; cases hb
            newR := fun b cb base hb => by cases hb }

end Go.Fl
end Fl25S

noncomputable section Fl26S
namespace Go.Fl
open Go

/-- What an argument of plain data looks like, cell by cell. -/
inductive Shp (P : Program) : TypeId → List AV → Prop
  | int {t : TypeId} {k : IntKind} {n : Int} : P.underlying t = some (.int k) → k.min ≤ n → n ≤ k.max → Shp P t [.sc (.int k n)]
  | bool {t : TypeId} {b : Bool} : P.underlying t = some .bool → Shp P t [.sc (.bool b)]
  | str {t : TypeId} {s : ByteArray} : P.underlying t = some .string → s.size ≤ maxLen → Shp P t [.sc (.string s)]
  | sl {t e : TypeId} {rows : List (List AV)} : P.underlying t = some (.slice e) → rows.length ≤ maxLen → (∀ (i : Nat) (r : List AV), rows[i]? = some r → Shp P e r) → (∀ r ∈ rows, r.length = P.cellsOf e) → Shp P t [.vs rows.length (P.cellsOf e) rows.flatten]
  | st {t : TypeId} {fs : Array Field} {parts : List (List AV)} : P.underlying t = some (.struct fs) → parts.length = fs.size → (∀ (i : Nat) (f : Field) (p : List AV), fs[i]? = some f → parts[i]? = some p → Shp P f.type p) → (∀ (i : Nat) (f : Field) (p : List AV), fs[i]? = some f → parts[i]? = some p → p.length = P.cellsOf f.type) → Shp P t parts.flatten

/-- The fields lie one behind the other. -/
def tile (P : Program) : Nat → List Field → Option Nat
  | o, [] => some o
  | o, f :: r => if f.offset = o then tile P (o + P.cellsOf f.type) r else none

def plainT (P : Program) : Nat → TypeId → Bool
  | 0, _ => false
  | m + 1, t => match P.underlying t with
    | some (.int _) => P.cellsOf t == 1
    | some .bool => P.cellsOf t == 1
    | some .string => P.cellsOf t == 1
    | some (.slice e) => P.cellsOf t == 1 && Nat.ble 1 (P.cellsOf e) && plainT P m e
    | some (.struct fs) => tile P 0 fs.toList == some (P.cellsOf t) && fs.toList.all fun f => plainT P m f.type
    | _ => false

theorem choose_rows {Q : Nat → List AV → Prop} : ∀ (n : Nat), (∀ i, i < n → ∃ r, Q i r) → ∃ rows : List (List AV), rows.length = n ∧ ∀ (i : Nat) (r : List AV), rows[i]? = some r → Q i r
  | 0, _ => ⟨[], rfl, fun i r h => by simp at h⟩
  | n + 1, h => by
    obtain ⟨rows, h1, h2⟩ := choose_rows n fun i hi => h i (by omega)
    obtain ⟨r, hr⟩ := h n (by omega)
    refine ⟨rows ++ [r], by simp [h1], fun i x hx => ?_⟩
    by_cases hi : i < n
    · rw [List.getElem?_append_left (by omega)] at hx; exact h2 i x hx
    · rw [List.getElem?_append_right (by omega)] at hx
      have : i - rows.length = 0 := by
        have := (List.getElem?_eq_some_iff.1 hx).1
        simp at this; omega
      rw [this] at hx
      simp at hx
      subst hx
      have : i = n := by omega
      subst this; exact hr

/-- Cells of rows of one length. -/
theorem flatten_rows {α : Type} {sz : Nat} : ∀ (rows : List (List α)), (∀ r ∈ rows, r.length = sz) → rows.flatten.length = rows.length * sz ∧ ∀ (k : Nat) (x : α), rows.flatten[k]? = some x → ∃ (i j : Nat) (r : List α), rows[i]? = some r ∧ r[j]? = some x ∧ j < sz ∧ k = i * sz + j
  | [], _ => ⟨by simp, fun k x h => by simp at h⟩
  | r :: rest, h => by
    obtain ⟨h1, h2⟩ := flatten_rows rest fun r hr => h r (List.mem_cons_of_mem _ hr)
    have hr := h r List.mem_cons_self
    refine ⟨by simp [h1, hr, Nat.succ_mul]; omega, fun k x hx => ?_⟩
    rw [List.flatten_cons] at hx
    by_cases hk : k < r.length
    · rw [List.getElem?_append_left hk] at hx
      exact ⟨0, k, r, rfl, hx, by omega, by omega⟩
    · rw [List.getElem?_append_right (by omega)] at hx
      obtain ⟨i, j, r', k1, k2, k3, k4⟩ := h2 _ _ hx
      exact ⟨i + 1, j, r', by simpa using k1, k2, k3, by rw [Nat.succ_mul]; omega⟩

variable {H : Type} {enc : TypeId × Value → H} {P : Program} {w : World}

theorem tile_get {P : Program} : ∀ (fs : List Field) (parts : List (List AV)) (o n : Nat), tile P o fs = some n → parts.length = fs.length → (∀ (i : Nat) (f : Field) (p : List AV), fs[i]? = some f → parts[i]? = some p → p.length = P.cellsOf f.type) →
    o + parts.flatten.length = n ∧ ∀ (k : Nat) (x : AV), parts.flatten[k]? = some x → ∃ (i : Nat) (f : Field) (p : List AV) (j : Nat), fs[i]? = some f ∧ parts[i]? = some p ∧ p[j]? = some x ∧ o + k = f.offset + j
  | [], parts, o, n, h, hl, _ => by
    simp only [tile, Option.some.injEq] at h
    have : parts = [] := List.eq_nil_of_length_eq_zero hl
    subst this; subst h
    exact ⟨rfl, fun k x hx => by simp at hx⟩
  | f :: fs, parts, o, n, h, hl, hp => by
    simp only [tile] at h
    split at h
    case isFalse => cases h
    rename_i ho
    cases parts with
    | nil => simp at hl
    | cons p parts =>
      obtain ⟨h1, h2⟩ := tile_get fs parts _ n h (by simpa using hl) fun i f q hf hq => hp (i + 1) f q (by simpa using hf) (by simpa using hq)
      have hpl := hp 0 f p rfl rfl
      refine ⟨by rw [List.flatten_cons, List.length_append]; omega, fun k x hx => ?_⟩
      rw [List.flatten_cons] at hx
      by_cases hk : k < p.length
      · rw [List.getElem?_append_left hk] at hx
        exact ⟨0, f, p, k, rfl, rfl, hx, by omega⟩
      · rw [List.getElem?_append_right (by omega)] at hx
        obtain ⟨i, f', p', j, k1, k2, k3, k4⟩ := h2 _ _ hx
        exact ⟨i + 1, f', p', j, by simpa using k1, by simpa using k2, k3, by omega⟩

/-- The blocks of a world that is there: none is named, all are kept. -/
abbrev VR0 (w : World) : AV → Value → Prop := VR (fun _ => none) (fun cb => cb < w.heap.size) w.heap

theorem trod_shp : ∀ (fuel m : Nat) (t : TypeId) (cs : List Value) (x : DataW H × List MemPlace), plainT P m t = true → DataW.trod enc P w 0 (fun _ => true) true fuel t cs = some x →
    ∃ avs : List AV, Shp P t avs ∧ avs.length = cs.length ∧ cs.length = P.cellsOf t ∧ ∀ (i : Nat) (a : AV), avs[i]? = some a → VR0 w a (cs.getD i Go.undef) := by
  intro fuel
  induction fuel using Nat.strongRecOn with
  | _ fuel ih =>
  intro m t cs x hp h
  cases m with
  | zero => simp [plainT] at hp
  | succ m =>
  simp only [plainT] at hp
  have one : ∀ (a : AV) (v : Value), VR0 w a v → ∀ (i : Nat) (b : AV), [a][i]? = some b → VR0 w b ([v].getD i Go.undef) := by
    intro a v hv i b hb
    cases i with
    | zero => simp at hb; subst hb; exact hv
    | succ i => simp at hb
  split at hp
  · rename_i k ht
    obtain ⟨n, rfl, rfl, hw⟩ := DataW.trod_int ht h
    simp only [Lit.wf, Bool.and_eq_true, decide_eq_true_eq] at hw
    exact ⟨_, .int ht hw.1 hw.2, rfl, (beq_iff_eq.1 hp).symm, one _ _ (.sc _)⟩
  · rename_i ht
    obtain ⟨b, rfl, rfl⟩ : ∃ b, cs = [.bool b] ∧ x = (.lit (.bool b), []) := by
      cases fuel with
      | zero => simp [DataW.trod] at h
      | succ n =>
        unfold DataW.trod at h
        rw [ht] at h
        split at h <;> simp_all
    exact ⟨_, .bool ht, rfl, (beq_iff_eq.1 hp).symm, one _ _ (.sc _)⟩
  · rename_i ht
    obtain ⟨s, rfl, rfl, hs⟩ := DataW.trod_string ht h
    exact ⟨_, .str ht hs, rfl, (beq_iff_eq.1 hp).symm, one _ _ (.sc _)⟩
  · rename_i e ht
    simp only [Bool.and_eq_true, beq_iff_eq] at hp
    rcases DataW.trod_slice ht h with ⟨rfl, rfl⟩ | ⟨a, len, cap, elems, rest, n, rfl, rfl, rfl, _, hle, hmax, hel, hget, _, _⟩
    · have := Shp.sl (P := P) (rows := []) ht (Nat.zero_le _) (fun i r hr => by simp at hr) (fun r hr => by cases hr)
      exact ⟨_, this, rfl, hp.1.1.symm, one _ _ (.vs0 fun _ => rfl)⟩
    · have hrow : ∀ i, i < len → ∃ r : List AV, Shp P e r ∧ r.length = P.cellsOf e ∧ (∃ vs, w.cells? 0 (a.add (i * P.cellsOf e)) (P.cellsOf e) = some vs ∧ ∀ (j : Nat) (b : AV), r[j]? = some b → VR0 w b (vs.getD j Go.undef)) := by
        intro i hi
        have h1 := hget i hi
        cases hc : w.cells? 0 (a.add (i * P.cellsOf e)) (P.cellsOf e) with
        | none => rw [hc, List.getElem?_eq_getElem (by omega)] at h1; cases h1
        | some vs =>
          rw [hc, List.getElem?_eq_getElem (by omega)] at h1
          obtain ⟨r, k1, k2, k3, k4⟩ := ih n (Nat.lt_succ_self n) m e vs _ hp.2 h1
          exact ⟨r, k1, by omega, vs, rfl, k4⟩
      obtain ⟨rows, hl, hrows⟩ := choose_rows len hrow
      have hlen : ∀ r ∈ rows, r.length = P.cellsOf e := fun r hr => by
        obtain ⟨i, hi⟩ := List.getElem?_of_mem hr
        exact (hrows i r hi).2.1
      obtain ⟨f1, f2⟩ := flatten_rows rows hlen
      refine ⟨_, Shp.sl ht (by omega) (fun i r hr => (hrows i r hr).1) hlen, rfl, hp.1.1.symm, one _ _ ?_⟩
      cases hfl : rows.flatten with
      | nil =>
        by_cases hz : len = 0
        · subst hz
          have : rows = [] := List.eq_nil_of_length_eq_zero hl
          subst this
          exact .vs0 fun h => by cases h
        · rw [hfl, hl] at f1
          have h1 := Nat.le_of_ble_eq_true hp.1.2
          have h2 : 1 * 1 ≤ len * P.cellsOf e := Nat.mul_le_mul (Nat.pos_of_ne_zero hz) h1
          rw [List.length_nil] at f1
          omega
      | cons c0 cr =>
        have hpos : 0 < rows.flatten.length := by rw [hfl]; simp
        have hsz : 0 < P.cellsOf e := by
          rcases Nat.eq_zero_or_pos (P.cellsOf e) with h0 | h0
          · rw [f1, h0] at hpos; omega
          · exact h0
        have hlen0 : 0 < len := by
          rcases Nat.eq_zero_or_pos len with h0 | h0
          · rw [f1, hl, h0] at hpos; omega
          · exact h0
        have cell : ∀ i j, i < len → j < P.cellsOf e → ∃ vs, w.cells? 0 (a.add (i * P.cellsOf e)) (P.cellsOf e) = some vs ∧ w.cell? ((a.add (i * P.cellsOf e)).add j) = vs[j]? ∧ vs.length = P.cellsOf e := by
          intro i j hi hj
          obtain ⟨r, hr⟩ : ∃ r, rows[i]? = some r := ⟨_, List.getElem?_eq_getElem (by omega)⟩
          obtain ⟨_, _, vs, k1, _⟩ := hrows i r hr
          obtain ⟨_, m1, m2⟩ := World.cells?_some k1
          exact ⟨vs, k1, m2 j hj, m1⟩
        -- the block
        obtain ⟨vs0, _, c1, c2⟩ := cell 0 0 hlen0 hsz
        have e0 : (a.add (0 * P.cellsOf e)).add 0 = a := by simp [Addr.add]
        rw [e0, List.getElem?_eq_getElem (by omega)] at c1
        unfold World.cell? at c1
        split at c1
        case h_2 => cases c1
        rename_i c et fz hb
        have hspot : a.spot = none := by
          split at c1
          · cases c1
          · rename_i hn
            cases hs : a.spot with
            | none => rfl
            | some _ => rw [hs] at hn; exact absurd rfl hn
        have at_ : ∀ i j, i < len → j < P.cellsOf e → ∃ vs, w.cells? 0 (a.add (i * P.cellsOf e)) (P.cellsOf e) = some vs ∧ c[a.off + (i * P.cellsOf e + j)]? = vs[j]? ∧ vs.length = P.cellsOf e := by
          intro i j hi hj
          obtain ⟨vs, k1, k2, k3⟩ := cell i j hi hj
          refine ⟨vs, k1, ?_, k3⟩
          have e1 : (a.add (i * P.cellsOf e)).add j = ⟨a.block, a.off + (i * P.cellsOf e + j), none⟩ := by
            obtain ⟨ab, ao, asp⟩ := a
            simp only at hspot; subst hspot
            unfold Addr.add
            split <;> split <;> simp_all <;> omega
          rw [e1] at k2
          unfold World.cell? at k2
          rw [hb] at k2
          simpa using k2
        obtain ⟨ab, ao, asp⟩ := a
        simp only at hspot hb at_
        subst hspot
        rw [← hfl]
        have hbl : ab < w.heap.size := (Array.getElem?_eq_some_iff.1 hb).1
        rw [hl]
        refine .vs hbl hle hb (by rw [f1, hl]) ?_ ?_
        · obtain ⟨vs, _, k2, k3⟩ := at_ (len - 1) (P.cellsOf e - 1) (by omega) (by omega)
          rw [List.getElem?_eq_getElem (by omega)] at k2
          have := (Array.getElem?_eq_some_iff.1 k2).1
          rw [f1, hl]
          have e2 : (len - 1) * P.cellsOf e + P.cellsOf e = len * P.cellsOf e := by
            rw [← Nat.succ_mul]; congr 1; omega
          omega
        · intro k b hkb
          obtain ⟨i, j, r, k1, k2, k3, rfl⟩ := f2 k b hkb
          have hi : i < len := by have := (List.getElem?_eq_some_iff.1 k1).1; omega
          obtain ⟨vs, m1, m2, m3⟩ := at_ i j hi k3
          obtain ⟨_, _, vs', m4, m5⟩ := hrows i r k1
          rw [m1] at m4; cases m4
          have := m5 j b k2
          rw [List.getElem?_eq_getElem (by omega)] at m2
          have e3 : c.getD (ao + (i * P.cellsOf e + j)) Go.undef = vs.getD j Go.undef := by
            rw [Array.getD_eq_getD_getElem?, m2]
            simp [List.getD_eq_getElem?_getD, List.getElem?_eq_getElem (show j < vs.length by omega)]
          rw [e3]; exact this
  · rename_i fs ht
    simp only [Bool.and_eq_true, beq_iff_eq, List.all_eq_true] at hp
    obtain ⟨xs, n, rfl, rfl, hcl, hxl, hget⟩ := DataW.trod_struct ht h
    have hpart : ∀ i, i < fs.size → ∃ r : List AV, ∀ f, fs[i]? = some f → Shp P f.type r ∧ r.length = P.cellsOf f.type ∧ ∀ (j : Nat) (b : AV), r[j]? = some b → VR0 w b (((cs.drop f.offset).take (P.cellsOf f.type)).getD j Go.undef) := by
      intro i hi
      have hf : fs[i]? = some fs[i] := Array.getElem?_eq_getElem hi
      have h1 := hget i _ hf
      rw [List.getElem?_eq_getElem (by omega)] at h1
      obtain ⟨r, k1, k2, k3, k4⟩ := ih n (Nat.lt_succ_self n) m _ _ _ (hp.2 fs[i] (by simp)) h1
      exact ⟨r, fun f hf' => by rw [hf] at hf'; cases hf'; exact ⟨k1, by omega, k4⟩⟩
    obtain ⟨parts, hl, hparts⟩ := choose_rows fs.size hpart
    have hpl : ∀ (i : Nat) (f : Field) (p : List AV), fs.toList[i]? = some f → parts[i]? = some p → p.length = P.cellsOf f.type := fun i f p hf hq => (hparts i p hq f (by simpa using hf)).2.1
    obtain ⟨t1, t2⟩ := tile_get fs.toList parts 0 _ hp.1 (by simpa using hl) hpl
    refine ⟨_, .st ht hl (fun i f p hf hq => (hparts i p hq f hf).1) (fun i f p hf hq => (hparts i p hq f hf).2.1), by omega, hcl, fun k b hb => ?_⟩
    obtain ⟨i, f, p, j, k1, k2, k3, k4⟩ := t2 k b hb
    have := (hparts i p k2 f (by simpa using k1)).2.2 j b k3
    have hj : j < P.cellsOf f.type := by
      have h1 := (hparts i p k2 f (by simpa using k1)).2.1
      have h2 := (List.getElem?_eq_some_iff.1 k3).1
      omega
    have e : ((cs.drop f.offset).take (P.cellsOf f.type)).getD j Go.undef = cs.getD k Go.undef := by
      simp only [List.getD_eq_getElem?_getD]
      rw [List.getElem?_take_of_lt hj, List.getElem?_drop]
      congr 2; omega
    rw [e] at this; exact this
  · cases hp
end Go.Fl
end Fl26S
