/- A piece of code run by the evaluator over a frame of which only some slots are known, with a table of calls. -/
import Derived.Test.YtmnbicoeahlpcaaFl29
noncomputable section
namespace Go.Fl
open Go

theorem scode_forget {P : Program} {sz : Nat} {c : Code} {Q : Exit → Env → Heap → Prop} {env env' : Env} {H : Heap} (h : SCode P sz c Q env' H) (hf : ∀ i, i < sz → env' i = .top ∨ env' i = env i) (hu : ∀ i, sz ≤ i → env' i = .undef) : SCode P sz c Q env H :=
  fun ρ I w a Q' hr he hq => h ρ I w a Q' hr ⟨he.size, he.defers, fun i => by
    by_cases hi : i < sz
    · rcases hf i hi with h1 | h1
      · rw [h1]; exact .top _
      · rw [h1]; exact he.val i
    · rw [hu i (by omega)]
      have : a.tmps.getD i Go.undef = Go.undef := by
        rw [Array.getD_eq_getD_getElem?, Array.getElem?_eq_none (by rw [he.size]; omega)]; rfl
      rw [this]; exact .sc _⟩ hq

/-- All slots below n unknown. -/
def tops : Nat → ET
  | 0 => .leaf
  | n + 1 => (tops n).put n (some .top)

theorem tops_get : ∀ (n i : Nat), (tops n).get i = if i < n then some .top else none
  | 0, i => by rw [if_neg (by omega)]; rfl
  | n + 1, i => by
    rw [tops, Tr.get_put, tops_get n i]
    by_cases h : i = n
    · rw [if_pos h, if_pos (by omega)]
    · rw [if_neg h]
      by_cases h2 : i < n
      · rw [if_pos h2, if_pos (by omega)]
      · rw [if_neg h2, if_neg (by omega)]

/-- A frame of which these slots are known. -/
def known (sz : Nat) : List (Nat × AV) → ET
  | [] => tops sz
  | (k, x) :: r => (known sz r).put k (some x)

theorem known_fn (sz : Nat) (env : Env) : ∀ (l : List (Nat × AV)), (∀ p ∈ l, p.1 < sz ∧ env p.1 = p.2) → (∀ i, i < sz → (known sz l).fn i = .top ∨ (known sz l).fn i = env i) ∧ ∀ i, sz ≤ i → (known sz l).fn i = .undef
  | [], _ => ⟨fun i hi => .inl (by simp only [known, ET.fn, tops_get, if_pos hi]; rfl), fun i hi => by simp only [known, ET.fn, tops_get, if_neg (by omega : ¬ i < sz)]; rfl⟩
  | (k, x) :: r, h => by
    obtain ⟨h1, h2⟩ := known_fn sz env r fun p hp => h p (List.mem_cons_of_mem _ hp)
    have hk := h (k, x) List.mem_cons_self
    refine ⟨fun i hi => ?_, fun i hi => ?_⟩
    · simp only [known, ET.fn, Tr.get_put]
      by_cases e : i = k
      · subst e; rw [if_pos rfl]; exact .inr hk.2.symm
      · rw [if_neg e]; exact h1 i hi
    · simp only [known, ET.fn, Tr.get_put]
      rw [if_neg (by have := hk.1; omega)]
      exact h2 i hi

/-- CODE RUN BY THE EVALUATOR: the calls by a table that holds. -/
theorem scode_known {P : Program} {sz n : Nat} {c : Code} {Q : Exit → Env → Heap → Prop} {env : Env} {H H' : Heap} {call : ACall} {e : Exit} {T' : ET} (l : List (Nat × AV)) (hm : P.follows .mixedOrders = true)
    (hc : ∀ k a H r H', call k a H = some (r, H') → SCalls P k a H r H') (hl : ∀ p ∈ l, p.1 < sz ∧ env p.1 = p.2) (h : ecode call P sz n c (known sz l) H = some (e, T', H')) (hq : Q e T'.fn H') : SCode P sz c Q env H :=
  scode_forget (ecode_sound hm hc n c Q _ H e T' H' h hq) (known_fn sz env l hl).1 (known_fn sz env l hl).2
end Go.Fl
