/- Freezing in the midst of code. -/
import Derived.Test.YtmnbicoeahlpcaaFl34
noncomputable section
namespace Go.Fl
open Go

/-- Blocks are given up; where the frame names them it names what they hold, kept. -/
theorem scode_freeze {P : Program} {sz : Nat} {c : Code} {Q : Exit → Env → Heap → Prop} {env env' : Env} {H H' : Heap} (hle : H'.le H) (hn : H.next = H'.next) (hf : ∀ i, Froz H (fun b => H'.get b = none) (env i) (env' i)) (h : SCode P sz c Q env' H') : SCode P sz c Q env H := by
  intro ρ I w a Q' hrel he hQ
  have hrel' : Rel ρ (keptBy ρ I H H') H' w.heap := hrel.keep hle (by omega)
  refine h ρ _ w a Q' hrel' ⟨he.size, he.defers, fun i => (hf i).vr hrel (he.val i)⟩ ?_
  rintro e a' w' ⟨env1, H1, ρ', I', h1, h2, h3, hx⟩
  refine hQ e a' w' ⟨env1, H1, ρ', I', h1, h2, h3, { hx with imm := fun cb hcb => hx.imm cb (.inl hcb), kept := fun cb hcb => hx.kept cb (.inl hcb), newI := fun cb hcb => ?_ }⟩
  rcases hx.newI cb hcb with h1 | h1 | h1
  · rcases h1 with h1 | ⟨b, cs, base, _, _, h4⟩
    · exact .inl h1
    · exact .inr (.inr ⟨_, _, h4⟩)
  · exact .inr (.inl h1)
  · exact .inr (.inr h1)

/-- One slot that names a whole row of a block. -/
theorem scode_freeze_slot {P : Program} {sz : Nat} {c : Code} {Q : Exit → Env → Heap → Prop} {env : Env} {H : Heap} (i b len n : Nat) {cs : List AV} (hb : H.get b = some cs) (hi : env i = .ms b 0 len n) (hl : len * n = cs.length) (h : SCode P sz c Q (env.upd (some i) (.vs len n cs)) (H.del b)) : SCode P sz c Q env H := by
  refine scode_freeze (H' := H.del b) (fun k cs hk => by rw [Heap.get_del] at hk; split at hk; cases hk; exact hk) rfl (fun j => ?_) h
  by_cases hj : i = j
  · subst hj
    rw [upd_same, hi]
    exact Froz.row hb (by simp [Heap.get_del]) (by omega) (by rw [List.drop_zero, List.take_of_length_le (by omega)])
  · rw [upd_ne _ _ _ _ hj]
    exact .same _

/-- What is wanted of the frame, and no more. -/
theorem scode_gen {P : Program} {sz : Nat} {c : Code} {Q : Exit → Env → Heap → Prop} {env : Env} {H : Heap} (F : Env → Heap → Prop) (hF : F env H) (h : ∀ env H, F env H → SCode P sz c Q env H) : SCode P sz c Q env H := h env H hF
end Go.Fl
