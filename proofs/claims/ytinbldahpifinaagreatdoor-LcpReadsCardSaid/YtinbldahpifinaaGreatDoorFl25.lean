/- A call that needs nothing of the heap, over whatever heap. -/
import Derived.Test.YtinbldahpifinaaGreatDoorFl24
noncomputable section
namespace Go.Fl
open Go

theorem below_zero (ρ : Rho) : ρ.below 0 = fun _ => none := by
  funext b
  simp [Rho.below]

theorem scalls_frame {P : Program} {f : FuncId} {args : List AV} {r : AV} (h : SCalls P f args Heap.empty r Heap.empty) (ha : ∀ x ∈ args, x.Lt 0) (hr : r.Lt 0) (H : Heap) : SCalls P f args H r H := by
  refine ⟨h.1, Nat.le_refl _, fun ρ I w cargs hrel hargs => ?_⟩
  have hrel0 : Rel (fun _ => none) I Heap.empty w.heap := by
    refine ⟨?_, ?_, ?_, ?_, hrel.irng⟩
    · intro b cs hb; rw [show Heap.empty.get b = none from rfl] at hb; cases hb
    · intro b b' cs cs' cb base base' hb; rw [show Heap.empty.get b = none from rfl] at hb; cases hb
    · intro b p hb; cases hb
    · intro b cb base hb; cases hb
  have hargs0 : VRs (fun _ => none) I w.heap args cargs :=
    ⟨hargs.1, fun i x hx => by rw [← below_zero ρ]; exact (hargs.2 i x hx).lower (ha x (List.mem_of_getElem? hx))⟩
  refine (h.2.2 _ _ w cargs hrel0 hargs0).mono ?_
  rintro e w' ⟨v, ρ', I', he, hv, hr', hx⟩
  have hold : ∀ cb, cb < w.heap.size → w'.heap[cb]? = w.heap[cb]? := fun cb hcb => hx.frame cb hcb fun b base hb => by cases hb
  have hnew : ∀ cb, I' cb → I cb ∨ w.heap.size ≤ cb := fun cb hcb => by
    rcases hx.newI cb hcb with h1 | h1 | ⟨b, base, h1⟩
    · exact .inl h1
    · exact .inr h1
    · cases h1
  refine ⟨v, ρ, I', he, ?_, ?_, ?_⟩
  · have h1 := hv.lower hr
    rw [below_zero] at h1
    exact h1.mono' (fun b p hb => by cases hb) (fun _ h => h) (fun _ _ => rfl) (fun _ c _ fz h => ⟨c, fz, h, rfl⟩)
  · refine ⟨?_, hrel.inj, hrel.rng, ?_, hr'.irng⟩
    · intro b cs hb
      rcases hrel.live b cs hb with h1 | ⟨cb, base, c, e, k1, k2, k3, k4, k5⟩
      · exact .inl h1
      · have hlt : cb < w.heap.size := (Array.getElem?_eq_some_iff.1 k3).1
        refine .inr ⟨cb, base, c, e, k1, fun hI => ?_, by rw [hold cb hlt]; exact k3, k4, fun i x hx' => ?_⟩
        · rcases hnew cb hI with h1 | h1
          · exact k2 h1
          · omega
        · exact (k5 i x hx').mono' (fun _ _ h => h) hx.imm hx.kept hx.blocks
    · intro b cb base hb
      obtain ⟨c, e, fz, h1⟩ := hrel.at_ b cb base hb
      exact ⟨c, e, fz, by rw [hold cb (Array.getElem?_eq_some_iff.1 h1).1]; exact h1⟩
  · exact { rho := fun _ _ h => h
            imm := hx.imm
            size := hx.size
            kept := hx.kept
            blocks := hx.blocks
            frame := fun cb hlt _ => hold cb hlt
            newI := fun cb hcb => (hnew cb hcb).imp id .inl
            newR := fun b cb base hb => .inl hb
            os := hx.os
            tape := hx.tape
            output := hx.output }

/-- A heap may be forgotten in part behind a call whose value is plain. -/
theorem scalls_forget {P : Program} {f : FuncId} {args : List AV} {v : Value} {H : Heap} (h : SCalls P f args Heap.empty (.sc v) H) : SCalls P f args Heap.empty (.sc v) Heap.empty := by
  refine ⟨h.1, Nat.le_refl _, fun ρ I w cargs hrel hargs => (h.2.2 ρ I w cargs hrel hargs).mono ?_⟩
  rintro e w' ⟨u, ρ', I', he, hv, hr', hx⟩
  have hρ : ∀ b, ρ b = none := fun b => by
    cases hb : ρ b with
    | none => rfl
    | some p => have := hrel.rng b p hb; exact absurd this (Nat.not_lt_zero _)
  have hu := hv.eq_sc
  subst hu
  refine ⟨_, fun _ => none, I', he, .sc _, ?_, ?_⟩
  · refine ⟨?_, ?_, ?_, ?_, hr'.irng⟩
    · intro b cs hb; rw [show Heap.empty.get b = none from rfl] at hb; cases hb
    · intro b b' cs cs' cb base base' hb; rw [show Heap.empty.get b = none from rfl] at hb; cases hb
    · intro b p hb; cases hb
    · intro b cb base hb; cases hb
  · exact { hx with
            rho := fun b p hb => by rw [hρ b] at hb; cases hb
            newR := fun b cb base hb => by cases hb }

end Go.Fl
