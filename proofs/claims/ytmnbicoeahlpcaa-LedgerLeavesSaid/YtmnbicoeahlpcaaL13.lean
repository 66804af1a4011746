/- LedgerAdds: plain laws. -/
import Derived.Test.YtmnbicoeahlpcaaL12
import Derived.Test.YtmnbicoeahlpcaaFl35
set_option maxRecDepth 20000
noncomputable section
namespace Go.Proofs.Ytmnbicoeahlpcaa
open Go Go.Fl Go.Proofs

theorem same_refl (s : Sn) : s.same s = true := by simp [Sn.same]

theorem placeL_le (d : Sn) : ∀ (l : List Sn) (i j : Nat) (s : Sn), l[j]? = some s → s.same d = true → ∃ k : Nat, k ≤ j ∧ placeL l i d = ((i + k : Nat) : Int)
  | [], i, j, s, h, _ => by simp at h
  | x :: r, i, j, s, h, hs => by
    rw [placeL]
    by_cases hx : x.same d = true
    · rw [if_pos hx]; exact ⟨0, Nat.zero_le _, by simp⟩
    · rw [if_neg hx]
      cases j with
      | zero => simp at h; subst h; exact absurd hs hx
      | succ j =>
        obtain ⟨k, h1, h2⟩ := placeL_le d r (i + 1) j s (by simpa using h) hs
        exact ⟨k + 1, by omega, by rw [h2]; congr 1; omega⟩

theorem placeL_append (d : Sn) (c : List Sn) : ∀ (l : List Sn) (i : Nat), 0 ≤ placeL l i d → placeL (l ++ c) i d = placeL l i d
  | [], i, h => by simp [placeL] at h
  | x :: r, i, h => by
    rw [placeL] at h
    rw [List.cons_append, placeL, placeL]
    by_cases hx : x.same d = true
    · rw [if_pos hx, if_pos hx]
    · rw [if_neg hx] at h
      rw [if_neg hx, if_neg hx]
      exact placeL_append d c r _ h

theorem firstL_ge (a : List Sn) : ∀ (b : List Sn) (at_ i : Nat), firstL a b at_ i = -1 ∨ (i : Int) ≤ firstL a b at_ i
  | [], _, _ => .inl rfl
  | d :: r, at_, i => by
    rw [firstL]
    split
    · exact .inr (Int.le_refl _)
    · rcases firstL_ge a r ((placeL (a.drop at_) at_ d).toNat + 1) (i + 1) with h | h
      · exact .inl h
      · exact .inr (by omega)

theorem firstL_adds (a c : List Sn) : ∀ (b : List Sn) (at_ i : Nat), at_ ≤ a.length → firstL (a ++ c) b at_ i = -1 ∨ (firstL a b at_ i ≠ -1 ∧ firstL a b at_ i ≤ firstL (a ++ c) b at_ i)
  | [], _, _, _ => .inl rfl
  | d :: r, at_, i, hat => by
    have hdrop : (a ++ c).drop at_ = a.drop at_ ++ c := by rw [List.drop_append_of_le_length hat]
    rcases placeL_range d (a.drop at_) at_ with h | ⟨k, h1, h2⟩
    · have e1 : firstL a (d :: r) at_ i = i := by rw [firstL, if_pos (by omega)]
      rw [e1]
      rcases firstL_ge (a ++ c) (d :: r) at_ i with h | h
      · exact .inl h
      · exact .inr ⟨by omega, h⟩
    · rw [List.length_drop] at h1
      have e1 : placeL ((a ++ c).drop at_) at_ d = placeL (a.drop at_) at_ d := by rw [hdrop]; exact placeL_append d c _ _ (by omega)
      rw [firstL, firstL, e1, if_neg (by omega), if_neg (by omega)]
      refine firstL_adds a c r _ (i + 1) ?_
      rw [h2]; simp only [Int.toNat_natCast]; omega

theorem firstL_self (a : List Sn) : ∀ (p b : List Sn) (at_ i : Nat), a = p ++ b → at_ ≤ p.length → firstL a b at_ i = -1
  | _, [], _, _, _, _ => rfl
  | p, d :: r, at_, i, h, hat => by
    obtain ⟨k, h1, h2⟩ := placeL_le d (a.drop at_) at_ (p.length - at_) d (by
      rw [List.getElem?_drop, h, List.getElem?_append_right (by omega)]
      have : at_ + (p.length - at_) - p.length = 0 := by omega
      rw [this]; rfl) (same_refl d)
    rw [firstL, if_neg (by omega), h2]
    refine firstL_self a (p ++ [d]) r _ _ (by rw [h]; simp) ?_
    simp only [Int.toNat_natCast, List.length_append, List.length_cons, List.length_nil]
    omega

theorem missing_self (a : List Sn) : missingL a a = 0 := by
  rw [missingL, firstL_self a [] a 0 0 rfl (Nat.zero_le _)]
  simp
theorem missing_nil (a : List Sn) : missingL a [] = a.length := by
  rw [missingL, firstL]
  simp
end Go.Proofs.Ytmnbicoeahlpcaa
