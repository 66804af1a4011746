/- From the abstract call to the machine's, for a law. -/
import Derived.Test.YtinbldahpifinaaGreatDoorFl23
import Derived.RowKit3
import Derived.ProofKit
noncomputable section
namespace Go.Fl
open Go Go.RowKit Go.ChangeShapes

/-- Of what was there nothing has turned. -/
def Kept (w w' : World) : Prop := w.keptBut w' (fun _ => False) ∧ w.heap.size ≤ w'.heap.size

theorem Kept.frame {w w' : World} (h : Kept w w') (may : MemPlace → Prop) : w.keptBut w' may := World.keptBut_mono (fun _ f => f.elim) h.1

theorem Ext.kept_all {ρ ρ' : Rho} {I' : Nat → Prop} {w w' : World} (h : Ext ρ (fun cb => cb < w.heap.size) w ρ' I' w') : Kept w w' := by
  refine ⟨⟨h.os, h.output, fun i hi => ?_⟩, h.size⟩
  rw [h.kept i hi]
  cases w.heap[i]? with
  | none => trivial
  | some o => cases o <;> simp

theorem Rel.nothing (w : World) : Rel (fun _ => none) (fun cb => cb < w.heap.size) Heap.empty w.heap where
  live b cs hb := by rw [show Heap.empty.get b = none from rfl] at hb; cases hb
  inj b b' cs cs' cb base base' hb := by rw [show Heap.empty.get b = none from rfl] at hb; cases hb
  rng b p hb := by cases hb
  at_ b cb base hb := by cases hb
  irng cb h := h

theorem scalls_law {P : Program} {f : FuncId} {args : List AV} {v : Value} {H : Heap} (h : SCalls P f args Heap.empty (.sc v) H) (w : World) {cargs : Array Value} (ha : VRs (fun _ => none) (fun cb => cb < w.heap.size) w.heap args cargs) :
    Calls P f cargs w fun e w' => e = .returned v ∧ Kept w w' :=
  (h.2.2 _ _ w cargs (Rel.nothing w) ha).mono fun e w' ⟨u, ρ', I', h1, h2, h3, h4⟩ => ⟨by rw [h1, h2.eq_sc], h4.kept_all⟩

theorem scalls_law0 {P : Program} {f : FuncId} {v : Value} (h : ∃ H, SCalls P f [] Heap.empty (.sc v) H) (w : World) :
    Calls P f #[] w fun e w' => e = .returned v ∧ Kept w w' := by
  obtain ⟨H, h⟩ := h
  exact scalls_law h w ⟨rfl, fun i x hx => by simp at hx⟩

variable {H : Type} {enc : TypeId × Value → H} {P : Program}

/-- What the row asks behind the call, where nothing is asked of a second call. -/
theorem post_of_kept {f : Func} {s : ChangeSpec} {apart fresh handsOn : Bool} {W W' : World} {args : Array Value} {v : Value} {ds gs : List (DataW H)} {before pa pv : List MemPlace}
    (hW : DataW.Whole enc P f.params.toList s.vars apart W args.toList ds gs before)
    (hres : ∀ (b : Nat) (sp : Nat → Bool) (hd : Bool), DataW.TrodAll enc P W' b sp hd f.resultTypes.toList (v.resultList f.resultTypes.size) (s.fn H (ds ++ gs)).results [])
    (hargs : ∀ sp : Nat → Bool, (∀ p ∈ before, sp p.block = true) → DataW.TrodAll enc P W' 0 sp true f.params.toList args.toList (s.fn H (ds ++ gs)).args pa)
    (hvars : ∀ sp : Nat → Bool, (∀ p ∈ before, sp p.block = true) → DataW.TrodVars enc P W' sp s.vars (s.fn H (ds ++ gs)).vars pv)
    (hps : before = pa ++ pv) (hk : W.keptBut W' (· ∈ before)) :
    s.post enc P f apart fresh handsOn false W args v W' := by
  have hold : ∀ p ∈ before, (fun b => decide (b < W.heap.size)) p.block = true := fun p hp => by simpa using hW.lt p hp
  refine ⟨ds, gs, before, [], pa, pv, hW, hres _ _ _, hargs _ hold, hvars _ hold, World.keptBut_mono (fun p hp => ⟨hp, ?_⟩) hk, fun h => by cases h⟩
  rw [hps, List.mem_append] at hp
  exact Or.inr hp

end Go.Fl
