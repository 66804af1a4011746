/- A call run by the evaluator whose outcome is handed over as kept, the heap forgotten. -/
import Derived.Test.YtmnbicoeahlpcaaFl37
noncomputable section
namespace Go.Fl
open Go

theorem scalls_shed {P : Program} {f : FuncId} {args : List AV} {r r' : AV} {H' : Heap} (h : SCalls P f args Heap.empty r H') (hf : Froz H' (fun _ => True) r r') (hr : r'.Lt 0) : SCalls P f args Heap.empty r' Heap.empty := by
  refine ⟨h.1, Nat.le_refl _, fun ρ I w cargs hrel hargs => (h.2.2 ρ I w cargs hrel hargs).mono ?_⟩
  rintro e w' ⟨u, ρ', I', he, hv, hr', hx⟩
  have hρ : ∀ b, ρ b = none := fun b => by
    cases hb : ρ b with
    | none => rfl
    | some p => have := hrel.rng b p hb; exact absurd this (Nat.not_lt_zero _)
  have hE : Heap.empty.le { H' with } := fun b cs hb => by rw [show Heap.empty.get b = none from rfl] at hb; cases hb
  have hf' : Froz H' (fun b => Heap.empty.get b = none) r r' := hf.mono fun b _ => rfl
  have hv' := (hf'.vr hr' hv).lower hr
  rw [below_zero] at hv'
  refine ⟨u, fun _ => none, keptBy ρ' I' H' Heap.empty, he, hv', ?_, ?_⟩
  · refine ⟨?_, ?_, ?_, ?_, ?_⟩
    · intro b cs hb; rw [show Heap.empty.get b = none from rfl] at hb; cases hb
    · intro b b' cs cs' cb base base' hb; rw [show Heap.empty.get b = none from rfl] at hb; cases hb
    · intro b p hb; cases hb
    · intro b cb base hb; cases hb
    · rintro cb (h1 | ⟨b, cs, base, h1, h2, h3⟩)
      · exact hr'.irng cb h1
      · obtain ⟨c, e, fz, h4⟩ := hr'.at_ b cb base h3
        exact (Array.getElem?_eq_some_iff.1 h4).1
  · exact { hx with
            rho := fun b p hb => by rw [hρ b] at hb; cases hb
            imm := fun cb hcb => .inl (hx.imm cb hcb)
            newI := fun cb hcb => by
              rcases hcb with hcb | ⟨b, cs, base, h1, h2, h3⟩
              · exact hx.newI cb hcb
              · rcases hx.newR b cb base h3 with h4 | h4 | ⟨b0, base0, h4⟩
                · exact .inr (.inr ⟨_, _, h4⟩)
                · exact .inr (.inl h4)
                · exact .inr (.inr ⟨_, _, h4⟩)
            newR := fun b cb base hb => by cases hb }

/-- Behind the first part stands what is said between. -/
theorem scode_seq_mid {P : Program} {sz : Nat} {x y : Code} {Q : Exit → Env → Heap → Prop} {env : Env} {H : Heap} (F : Env → Heap → Prop) (h1 : SCode P sz x (thenA F Q) env H) (h2 : ∀ env H, F env H → SCode P sz y Q env H) : SCode P sz (.seq x y) Q env H :=
  scode_seq_k fun K hK => scode_cut F h1 fun env H h => hK _ _ (h2 _ _ h)

mutual
def frz : Nat → Heap → AV → Option AV
  | 0, _, _ => none
  | _ + 1, _, .sc v => some (.sc v)
  | n + 1, H, .ms b off len sz => match H.get b with
    | some cs => cond (Nat.ble (off + len * sz) cs.length) (match frzL n H ((cs.drop off).take (len * sz)) with
      | some cells => some (.vs len sz cells)
      | none => none) none
    | none => none
  | n + 1, H, .vs len sz cs => match frzL n H cs with
    | some cells => some (.vs len sz cells)
    | none => none
  | n + 1, H, .agg cs => match frzL n H cs with
    | some cells => some (.agg cells)
    | none => none
  | n + 1, H, .tup cs => match frzL n H cs with
    | some cells => some (.tup cells)
    | none => none
  | _ + 1, _, _ => none
def frzL : Nat → Heap → List AV → Option (List AV)
  | 0, _, _ => none
  | _ + 1, _, [] => some []
  | n + 1, H, x :: r => match frz n H x with
    | some y => match frzL n H r with
      | some ys => some (y :: ys)
      | none => none
    | none => none
end

theorem frz_ok : ∀ (n : Nat) (H : Heap), (∀ x y, frz n H x = some y → Froz H (fun _ => True) x y ∧ y.Lt 0) ∧ (∀ xs ys, frzL n H xs = some ys → FrozL H (fun _ => True) xs ys ∧ ∀ y ∈ ys, y.Lt 0)
  | 0, H => ⟨fun x y h => by simp [frz] at h, fun x y h => by simp [frzL] at h⟩
  | n + 1, H => by
    obtain ⟨ih1, ih2⟩ := frz_ok n H
    refine ⟨fun x y h => ?_, fun xs ys h => ?_⟩
    · cases x <;> simp only [frz] at h
      case sc v => cases h; exact ⟨.same _, .sc v⟩
      case ms b off len sz =>
        split at h
        case h_2 => cases h
        rename_i cs hb
        cases hc : Nat.ble (off + len * sz) cs.length with
        | false => rw [hc, cond_false] at h; cases h
        | true =>
          rw [hc, cond_true] at h
          split at h
          case h_2 => cases h
          rename_i cells hcells
          cases h
          obtain ⟨h1, h2⟩ := ih2 _ _ hcells
          exact ⟨Froz.rowL hb trivial (Nat.le_of_ble_eq_true hc) h1, .vs h2⟩
      case vs len sz cs =>
        split at h
        case h_2 => cases h
        rename_i cells hcells
        cases h
        obtain ⟨h1, h2⟩ := ih2 _ _ hcells
        exact ⟨.vs h1.get.1 fun i x y hx hy => h1.get.2 i x y hx hy, .vs h2⟩
      case agg cs =>
        split at h
        case h_2 => cases h
        rename_i cells hcells
        cases h
        obtain ⟨h1, h2⟩ := ih2 _ _ hcells
        exact ⟨.agg h1.get.1 fun i x y hx hy => h1.get.2 i x y hx hy, .agg h2⟩
      case tup cs =>
        split at h
        case h_2 => cases h
        rename_i cells hcells
        cases h
        obtain ⟨h1, h2⟩ := ih2 _ _ hcells
        exact ⟨.tup h1.get.1 fun i x y hx hy => h1.get.2 i x y hx hy, .tup h2⟩
      all_goals cases h
    · cases xs with
      | nil => simp only [frzL] at h; cases h; exact ⟨.nil, fun y hy => by cases hy⟩
      | cons x r =>
        simp only [frzL] at h
        split at h
        case h_2 => cases h
        rename_i y hy
        split at h
        case h_2 => cases h
        rename_i ys hys
        cases h
        obtain ⟨h1, h2⟩ := ih1 _ _ hy
        obtain ⟨h3, h4⟩ := ih2 _ _ hys
        refine ⟨.cons h1 h3, fun z hz => ?_⟩
        rcases List.mem_cons.1 hz with rfl | hz
        · exact h2
        · exact h4 z hz

/-- A call over the empty heap, its outcome kept. -/
def pcall (P : Program) (fs : List FuncId) (n : Nat) (f : FuncId) (args : List AV) : Option AV := match ecall P fs n f args Heap.empty with
  | some (r, H') => frz 100 H' r
  | none => none

theorem pcall_sound {P : Program} {fs : List FuncId} (hm : P.follows .mixedOrders = true) (hfs : ∀ f ∈ fs, Enters P f) (n : Nat) {f : FuncId} {args : List AV} {r : AV} (h : pcall P fs n f args = some r) : SCalls P f args Heap.empty r Heap.empty ∧ r.Lt 0 := by
  unfold pcall at h
  split at h
  · rename_i u H' hu
    obtain ⟨h1, h2⟩ := (frz_ok 100 H').1 _ _ h
    exact ⟨scalls_shed (ecall_sound hm hfs n _ _ _ _ _ hu) h1 h2, h2⟩
  · cases h
end Go.Fl
