/- LedgerLeaves: plain laws; alone; sent over a row that lies in the heap. -/
import Derived.Test.YtmnbicoeahlpcaaL14
set_option maxRecDepth 20000
noncomputable section
namespace Go.Proofs.Ytmnbicoeahlpcaa
open Go Go.Fl Go.Proofs

theorem placeL_neg (d : Sn) : ∀ (l : List Sn) (i : Nat), placeL l i d < 0 → ∀ s ∈ l, s.same d = false
  | [], _, _, _, hs => by cases hs
  | x :: r, i, h, s, hs => by
    rw [placeL] at h
    by_cases hx : x.same d = true
    · rw [if_pos hx] at h; omega
    · rw [if_neg hx] at h
      rcases List.mem_cons.1 hs with rfl | hs
      · simpa using hx
      · exact placeL_neg d r _ h s hs

theorem placeL_none (d : Sn) : ∀ (l : List Sn) (i : Nat), (∀ s ∈ l, s.same d = false) → placeL l i d = -1
  | [], _, _ => rfl
  | x :: r, i, h => by
    rw [placeL, if_neg (by rw [h x List.mem_cons_self]; simp)]
    exact placeL_none d r _ fun s hs => h s (List.mem_cons_of_mem _ hs)

theorem placeL_at (d : Sn) : ∀ (l : List Sn) (i k : Nat), placeL l i d = ((i + k : Nat) : Int) → (∃ s, l[k]? = some s ∧ s.same d = true) ∧ ∀ j, j < k → ∀ s, l[j]? = some s → s.same d = false
  | [], i, k, h => by simp [placeL] at h; omega
  | x :: r, i, k, h => by
    rw [placeL] at h
    by_cases hx : x.same d = true
    · rw [if_pos hx] at h
      have : k = 0 := by omega
      subst this
      exact ⟨⟨x, rfl, hx⟩, fun j hj => by omega⟩
    · rw [if_neg hx] at h
      cases k with
      | zero =>
        rcases placeL_range d r (i + 1) with h1 | ⟨k, _, h1⟩ <;> omega
      | succ k =>
        obtain ⟨h1, h2⟩ := placeL_at d r (i + 1) k (by rw [h]; congr 1; omega)
        refine ⟨by simpa using h1, fun j hj s hs => ?_⟩
        cases j with
        | zero => simp at hs; subst hs; simpa using hx
        | succ j => exact h2 j (by omega) s (by simpa using hs)

def aloneB (l : List Sn) (d : Sn) : Bool := decide (0 ≤ placeL l 0 d) && decide (placeL (l.drop (placeL l 0 d + 1).toNat) (placeL l 0 d + 1).toNat d < 0)

/-- It comes at q and nowhere else. -/
def Only (a : List Sn) (d : Sn) (q : Nat) : Prop := q < a.length ∧ ∀ j s, a[j]? = some s → (s.same d = true ↔ j = q)

theorem alone_only {a : List Sn} {d : Sn} (h : aloneB a d = true) : ∃ q, Only a d q := by
  simp only [aloneB, Bool.and_eq_true, decide_eq_true_eq] at h
  obtain ⟨h1, h2⟩ := h
  rcases placeL_range d a 0 with h3 | ⟨k, h3, h4⟩
  · omega
  obtain ⟨⟨s, hs, hss⟩, hlow⟩ := placeL_at d a 0 k h4
  rw [h4] at h2
  have e : (((0 + k : Nat) : Int) + 1).toNat = k + 1 := by omega
  rw [e] at h2
  have hhigh := placeL_neg d _ _ h2
  refine ⟨k, h3, fun j s' hs' => ⟨fun hsame => ?_, fun hj => ?_⟩⟩
  · rcases Nat.lt_trichotomy j k with hj | hj | hj
    · rw [hlow j hj s' hs'] at hsame; cases hsame
    · exact hj
    · rw [hhigh s' (List.mem_of_getElem? (i := j - (k + 1)) (by rw [List.getElem?_drop]; rw [← hs']; congr 1; omega))] at hsame; cases hsame
  · subst hj
    rw [hs] at hs'; cases hs'
    exact hss

theorem only_place {a : List Sn} {d : Sn} {q : Nat} (h : Only a d q) (at_ : Nat) : placeL (a.drop at_) at_ d = if at_ ≤ q then (q : Int) else -1 := by
  rcases placeL_range d (a.drop at_) at_ with h1 | ⟨k, h1, h2⟩
  · rw [h1]
    split
    · rename_i hle
      have hn := placeL_neg d (a.drop at_) at_ (by omega)
      obtain ⟨s, hs⟩ : ∃ s, a[q]? = some s := ⟨_, List.getElem?_eq_getElem h.1⟩
      have hsame := (h.2 q s hs).2 rfl
      rw [hn s (List.mem_of_getElem? (i := q - at_) (by rw [List.getElem?_drop]; rw [← hs]; congr 1; omega))] at hsame
      cases hsame
    · rfl
  · obtain ⟨⟨s, hs, hss⟩, _⟩ := placeL_at d _ _ k h2
    rw [List.getElem?_drop] at hs
    have := (h.2 _ s hs).1 hss
    rw [h2, if_pos (by omega)]
    congr 1

theorem first_swap (a : List Sn) (x y : Sn) (post : List Sn) {qx qy : Nat} (hx : Only a x qx) (hy : Only a y qy) : ∀ (pre : List Sn) (at_ i : Nat), firstL a (pre ++ x :: y :: post) at_ i = -1 → firstL a (pre ++ y :: x :: post) at_ i = ((i + pre.length + 1 : Nat) : Int)
  | [], at_, i, h => by
    simp only [List.nil_append, List.length_nil, Nat.add_zero] at h ⊢
    rw [firstL, only_place hx] at h
    by_cases hq : at_ ≤ qx
    · rw [if_pos hq, if_neg (by omega), firstL, only_place hy] at h
      simp only [Int.toNat_natCast] at h
      by_cases hq2 : qx + 1 ≤ qy
      · rw [firstL, only_place hy, if_pos (by omega : at_ ≤ qy), if_neg (by omega), firstL, only_place hx]
        simp only [Int.toNat_natCast]
        rw [if_neg (by omega : ¬ qy + 1 ≤ qx), if_pos (by omega)]
      · rw [if_neg hq2, if_pos (by omega)] at h
        omega
    · rw [if_neg hq, if_pos (by omega)] at h
      omega
  | d :: pre, at_, i, h => by
    rw [List.cons_append, firstL] at h
    rw [List.cons_append, firstL]
    split at h
    · omega
    · rename_i h1
      rw [if_neg h1, first_swap a x y post hx hy pre _ _ h]
      simp only [List.length_cons]
      congr 1; omega

theorem first_sub (a : List Sn) : ∀ (r p b : List Sn) (at_ i : Nat), a = p ++ r → b.Sublist r → at_ ≤ p.length → firstL a b at_ i = -1
  | _, p, [], _, _, _, _, _ => rfl
  | [], p, d :: b, at_, i, h, hs, hat => by cases hs
  | x :: r, p, d :: b, at_, i, h, hs, hat => by
    cases hs with
    | cons _ hs => exact first_sub a r (p ++ [x]) (d :: b) at_ i (by rw [h]; simp) hs (by simp; omega)
    | cons_cons _ hs =>
      obtain ⟨k, h1, h2⟩ := placeL_le x (a.drop at_) at_ (p.length - at_) x (by
        rw [List.getElem?_drop, h, List.getElem?_append_right (by omega)]
        have : at_ + (p.length - at_) - p.length = 0 := by omega
        rw [this]; rfl) (same_refl x)
      rw [firstL, if_neg (by omega), h2]
      refine first_sub a r (p ++ [x]) b _ _ (by rw [h]; simp) hs ?_
      simp only [Int.toNat_natCast, List.length_append, List.length_cons, List.length_nil]
      omega

/-- Is the i-th kept? -/
def keptB (keep : List Int) (i : Nat) : Bool := match keep[i]? with
  | some n => band .u8 n 1 == 1
  | none => true

def leftL (a : List Sn) (keep : List Int) : Nat → List Sn
  | 0 => []
  | i + 1 => leftL a keep i ++ match a[i]? with
    | some s => if keptB keep i = true then [s] else []
    | none => []

theorem left_sub (a : List Sn) (keep : List Int) : ∀ i, (leftL a keep i).Sublist (a.take i)
  | 0 => by simp [leftL]
  | i + 1 => by
    rw [leftL, List.take_add_one]
    refine (left_sub a keep i).append ?_
    cases a[i]? with
    | none => simp
    | some s => simp only [Option.toList_some]; split <;> simp

theorem left_len (a : List Sn) (keep : List Int) (i : Nat) : (leftL a keep i).length ≤ i := by
  have := (left_sub a keep i).length_le
  rw [List.length_take] at this
  omega
end Go.Proofs.Ytmnbicoeahlpcaa
