/- A table of calls. -/
import Derived.Test.YtmnbicoeahlpcaaFl30
noncomputable section
namespace Go.Fl
open Go

def tabCall : List (FuncId × List AV × AV) → ACall
  | [], _, _, _ => none
  | t :: r, k, args, H => cond (Nat.beq t.1 k && sameL deep t.2.1 args) (some (t.2.2, H)) (tabCall r k args H)

theorem tabCall_ok {P : Program} : ∀ (tab : List (FuncId × List AV × AV)), (∀ t ∈ tab, ∀ H, SCalls P t.1 t.2.1 H t.2.2 H) → ∀ k a H r H', tabCall tab k a H = some (r, H') → SCalls P k a H r H'
  | [], _, k, a, H, r, H', h => by simp [tabCall] at h
  | t :: rest, ht, k, a, H, r, H', h => by
    simp only [tabCall] at h
    cases hb : (Nat.beq t.1 k && sameL deep t.2.1 a) with
    | false => rw [hb] at h; exact tabCall_ok rest (fun t ht' => ht t (List.mem_cons_of_mem _ ht')) k a H r H' h
    | true =>
      rw [hb, cond_true] at h
      simp only [Bool.and_eq_true] at hb
      have e1 : t.1 = k := Nat.eq_of_beq_eq_true hb.1
      have e2 := (same_eq _).2 _ _ hb.2
      cases h
      rw [← e1, ← e2]
      exact ht t List.mem_cons_self _

def endsB (slot : Nat) (v : Value) : Option (Exit × ET × Heap) → Bool
  | some (.normal, T, _) => same deep (T.fn slot) (.sc v)
  | _ => false

theorem scode_slot {P : Program} {sz n : Nat} {c : Code} {Q : Exit → Env → Heap → Prop} {env : Env} {H : Heap} {call : ACall} (l : List (Nat × AV)) (slot : Nat) (v : Value) (hm : P.follows .mixedOrders = true)
    (hc : ∀ k a H r H', call k a H = some (r, H') → SCalls P k a H r H') (hl : ∀ p ∈ l, p.1 < sz ∧ env p.1 = p.2) (h : endsB slot v (ecode call P sz n c (known sz l) H) = true) (hq : ∀ env' H', env' slot = .sc v → Q .normal env' H') : SCode P sz c Q env H := by
  unfold endsB at h
  split at h
  · rename_i T H' hT
    exact scode_known l hm hc hl hT (hq _ _ ((same_eq _).1 _ _ h))
  · cases h
end Go.Fl
