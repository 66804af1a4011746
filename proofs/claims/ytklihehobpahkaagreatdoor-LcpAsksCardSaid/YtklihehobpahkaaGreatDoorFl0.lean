/- A map of numbers that the kernel reckons fast. -/

set_option linter.unusedVariables false
set_option linter.unusedSimpArgs false
noncomputable section
namespace Go.Fl

inductive Tr (α : Type) where
  | leaf
  | node (v : Option α) (l r : Tr α)

namespace Tr
variable {α : Type}

def get (t : Tr α) : Nat → Option α :=
  Tr.rec (motive := fun _ => Nat → Option α) (fun _ => none) (fun v _ _ ihl ihr n => cond (Nat.beq n 0) v (cond (Nat.beq (n % 2) 1) (ihl (n / 2)) (ihr (n / 2 - 1)))) t

def put1 (x : Option α) (rec_ : Tr α → Nat → Tr α) (t : Tr α) (n : Nat) : Tr α :=
  Tr.casesOn (motive := fun _ => Tr α) t
    (cond (Nat.beq n 0) (node x leaf leaf) (cond (Nat.beq (n % 2) 1) (node none (rec_ leaf (n / 2)) leaf) (node none leaf (rec_ leaf (n / 2 - 1)))))
    (fun v l r => cond (Nat.beq n 0) (node x l r) (cond (Nat.beq (n % 2) 1) (node v (rec_ l (n / 2)) r) (node v l (rec_ r (n / 2 - 1)))))

def putF (f : Nat) (t : Tr α) (n : Nat) (x : Option α) : Tr α :=
  Nat.rec (motive := fun _ => Tr α → Nat → Tr α) (fun t _ => t) (fun _ ih => put1 x ih) f t n

def put (t : Tr α) (n : Nat) (x : Option α) : Tr α := putF (n + 1) t n x

theorem get_leaf (n : Nat) : (leaf : Tr α).get n = none := rfl

theorem beq_cases (a b : Nat) : (Nat.beq a b = true ∧ a = b) ∨ (Nat.beq a b = false ∧ a ≠ b) := by
  cases h : Nat.beq a b with
  | true => exact .inl ⟨rfl, Nat.eq_of_beq_eq_true h⟩
  | false => exact .inr ⟨rfl, Nat.ne_of_beq_eq_false h⟩

theorem get_node (v : Option α) (l r : Tr α) (n : Nat) : (node v l r).get n = if n = 0 then v else if n % 2 = 1 then l.get (n / 2) else r.get (n / 2 - 1) := by
  show cond (Nat.beq n 0) v (cond (Nat.beq (n % 2) 1) (l.get (n / 2)) (r.get (n / 2 - 1))) = _
  rcases beq_cases n 0 with ⟨h1, h2⟩ | ⟨h1, h2⟩
  · rw [h1, if_pos h2]; rfl
  · rw [h1, if_neg h2]
    rcases beq_cases (n % 2) 1 with ⟨h3, h4⟩ | ⟨h3, h4⟩
    · rw [h3, if_pos h4]; rfl
    · rw [h3, if_neg h4]; rfl

theorem putF_node (f : Nat) (v : Option α) (l r : Tr α) (n : Nat) (x : Option α) : putF (f + 1) (node v l r) n x = if n = 0 then node x l r else if n % 2 = 1 then node v (putF f l (n / 2) x) r else node v l (putF f r (n / 2 - 1) x) := by
  show cond (Nat.beq n 0) (node x l r) (cond (Nat.beq (n % 2) 1) (node v (putF f l (n / 2) x) r) (node v l (putF f r (n / 2 - 1) x))) = _
  rcases beq_cases n 0 with ⟨h1, h2⟩ | ⟨h1, h2⟩
  · rw [h1, if_pos h2]; rfl
  · rw [h1, if_neg h2]
    rcases beq_cases (n % 2) 1 with ⟨h3, h4⟩ | ⟨h3, h4⟩
    · rw [h3, if_pos h4]; rfl
    · rw [h3, if_neg h4]; rfl

theorem putF_leaf (f : Nat) (n : Nat) (x : Option α) : putF (f + 1) leaf n x = putF (f + 1) (node none leaf leaf) n x := rfl

theorem get_putF : ∀ (f : Nat) (t : Tr α) (n : Nat) (x : Option α) (m : Nat), n < f → (putF f t n x).get m = if m = n then x else t.get m
  | 0, _, n, _, _, h => by omega
  | f + 1, t, n, x, m, h => by
    have key : ∀ (v : Option α) (l r : Tr α), (putF (f + 1) (node v l r) n x).get m = if m = n then x else (node v l r).get m := by
      intro v l r
      rw [putF_node]
      by_cases h1 : n = 0
      · rw [if_pos h1, get_node, get_node]
        by_cases hm : m = 0
        · rw [if_pos hm, if_pos (by omega)]
        · rw [if_neg hm, if_neg (show ¬ m = n by omega), if_neg hm]
      · rw [if_neg h1]
        by_cases h2 : n % 2 = 1
        · rw [if_pos h2, get_node, get_node]
          by_cases hm : m = 0
          · rw [if_pos hm, if_neg (by omega), if_pos hm]
          · rw [if_neg hm, if_neg hm]
            by_cases hm2 : m % 2 = 1
            · rw [if_pos hm2, if_pos hm2, get_putF f l (n / 2) x (m / 2) (by omega)]
              by_cases e : m = n
              · rw [if_pos e, if_pos (by omega)]
              · rw [if_neg e, if_neg (by omega)]
            · rw [if_neg hm2, if_neg hm2, if_neg (by intro e; rw [e] at hm2; exact hm2 h2)]
        · rw [if_neg h2, get_node, get_node]
          by_cases hm : m = 0
          · rw [if_pos hm, if_neg (by omega), if_pos hm]
          · rw [if_neg hm, if_neg hm]
            by_cases hm2 : m % 2 = 1
            · rw [if_pos hm2, if_pos hm2, if_neg (by intro e; rw [e] at hm2; exact h2 hm2)]
            · rw [if_neg hm2, if_neg hm2, get_putF f r (n / 2 - 1) x (m / 2 - 1) (by omega)]
              by_cases e : m = n
              · rw [if_pos e, if_pos (by omega)]
              · rw [if_neg e, if_neg (by omega)]
    cases t with
    | leaf =>
      rw [putF_leaf, key, get_node, get_leaf]
      by_cases e : m = n
      · rw [if_pos e, if_pos e]
      · rw [if_neg e, if_neg e]; simp [get_leaf]
    | node v l r => exact key v l r

theorem get_put (t : Tr α) (n : Nat) (x : Option α) (m : Nat) : (t.put n x).get m = if m = n then x else t.get m := get_putF (n + 1) t n x m (Nat.lt_succ_self n)

end Tr
end Go.Fl
