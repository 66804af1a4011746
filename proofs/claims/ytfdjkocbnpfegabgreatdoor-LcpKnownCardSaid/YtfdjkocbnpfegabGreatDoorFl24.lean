/- From the abstract call to the machine's, for a law. -/
import Derived.Test.YtfdjkocbnpfegabGreatDoorFl23
import Derived.RowKit3
noncomputable section
namespace Go.Fl
open Go Go.RowKit

theorem Ext.grown {ρ ρ' : Rho} {I' : Nat → Prop} {w w' : World} (h : Ext ρ (fun cb => cb < w.heap.size) w ρ' I' w') : Grown w w' := by
  refine ⟨⟨h.os, h.output, fun i hi => ?_⟩, h.frz, h.size⟩
  rw [h.kept i hi]
  cases w.heap[i]? with
  | none => trivial
  | some o => cases o <;> simp

theorem Rel.nothing (w : World) : Rel (fun _ => none) (fun cb => cb < w.heap.size) Heap.empty w.heap where
  live b cs hb := by rw [show Heap.empty.get b = none from rfl] at hb; cases hb
  inj b b' cs cs' cb base base' hb := by rw [show Heap.empty.get b = none from rfl] at hb; cases hb
  rng b p hb := by cases hb
  at_ b cb base hb := by cases hb
  irng cb h := h

theorem scalls_law {P : Program} {f : FuncId} {args : List AV} {v : Value} {H : Heap} (h : SCalls P f args Heap.empty (.sc v) H) (w : World) {cargs : Array Value} (ha : VRs (fun _ => none) (fun cb => cb < w.heap.size) w.heap args cargs) :
    Calls P f cargs w fun e w' => e = .returned v ∧ Grown w w' :=
  (h.2.2 _ _ w cargs (Rel.nothing w) ha).mono fun e w' ⟨u, ρ', I', h1, h2, h3, h4⟩ => ⟨by rw [h1, h2.eq_sc], h4.grown⟩

theorem scalls_law0 {P : Program} {f : FuncId} {v : Value} (h : ∃ H, SCalls P f [] Heap.empty (.sc v) H) (w : World) :
    Calls P f #[] w fun e w' => e = .returned v ∧ Grown w w' := by
  obtain ⟨H, h⟩ := h
  exact scalls_law h w ⟨rfl, fun i x hx => by simp at hx⟩

end Go.Fl
