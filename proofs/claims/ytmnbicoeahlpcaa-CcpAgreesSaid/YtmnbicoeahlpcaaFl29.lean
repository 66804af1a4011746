/- Freezing at a call: what lies in the heap is handed over as kept. -/
import Derived.Test.YtmnbicoeahlpcaaFl28
noncomputable section
namespace Go.Fl
open Go

theorem scalls_freeze {P : Program} {f : FuncId} {args args' : List AV} {H H' H'' : Heap} {r : AV} (hle : H'.le H) (hn : H.next = H'.next) (ha : FrozL H (fun b => H'.get b = none) args args') (h : SCalls P f args' H' r H'') : SCalls P f args H r H'' := by
  refine ⟨h.1, by rw [hn]; exact h.2.1, fun ρ I w cargs hrel hargs => ?_⟩
  have hrel' : Rel ρ (keptBy ρ I H H') H' w.heap := hrel.keep hle (by omega)
  have hargs' : VRs ρ (keptBy ρ I H H') w.heap args' cargs := by
    refine ⟨by rw [← ha.get.1]; exact hargs.1, fun i x hx => ?_⟩
    have hi : i < args.length := by rw [ha.get.1]; exact (List.getElem?_eq_some_iff.1 hx).1
    have hy : args[i]? = some args[i] := List.getElem?_eq_getElem hi
    exact (ha.get.2 i x _ hx hy).vr hrel (hargs.2 i _ hy)
  refine (h.2.2 _ _ w cargs hrel' hargs').mono ?_
  rintro e w' ⟨v, ρ', I', he, hv, hr', hx⟩
  refine ⟨v, ρ', I', he, hv, hr', { hx with imm := fun cb hcb => hx.imm cb (.inl hcb), kept := fun cb hcb => hx.kept cb (.inl hcb), newI := fun cb hcb => ?_ }⟩
  rcases hx.newI cb hcb with h1 | h1 | h1
  · rcases h1 with h1 | ⟨b, cs, base, _, _, h4⟩
    · exact .inl h1
    · exact .inr (.inr ⟨_, _, h4⟩)
  · exact .inr (.inl h1)
  · exact .inr (.inr h1)

/-- A slice in the heap, handed to a function that is pure: the block is given up. -/
theorem scalls_give {P : Program} {f : FuncId} {args' : List AV} {r : AV} (h : SCalls P f args' Heap.empty r Heap.empty) (ha' : ∀ x ∈ args', x.Lt 0) (hr : r.Lt 0) {H : Heap} {args : List AV} {b : Nat} (ha : FrozL H (fun k => (H.del b).get k = none) args args') : SCalls P f args H r (H.del b) :=
  scalls_freeze (H' := H.del b) (fun k cs hk => by rw [Heap.get_del] at hk; split at hk; cases hk; exact hk) rfl ha (scalls_frame h ha' hr _)

end Go.Fl
