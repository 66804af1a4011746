/- Decimal numerals: what the library's reader takes back, what the document's does (plain, no program). -/
import Derived.Lib.ItoaNum
import Derived.Lib.ParseIntB
import Derived.Laws.BitsLemmas
import Derived.Lib.SplitLaws
set_option linter.unusedVariables false
set_option linter.unusedSimpArgs false
namespace Go.Fl
open Go.Lib

/-- The document's reading of digits: a number, or none. -/
def refFold (acc : Nat) : List UInt8 → Option Nat
  | [] => some acc
  | c :: r => if 48 ≤ c.toNat ∧ c.toNat ≤ 57 ∧ acc ≤ 922337203685477580 then refFold (acc * 10 + (c.toNat - 48)) r else none

theorem refFold_app (l r : List UInt8) : ∀ acc, refFold acc (l ++ r) = (refFold acc l).bind fun a => refFold a r := by
  induction l with
  | nil => intro acc; rfl
  | cons c l ih =>
    intro acc
    simp only [List.cons_append, refFold]
    split
    · exact ih _
    · rfl
theorem parseUintM_app (M : Nat) (l r : List UInt8) : ∀ acc u, parseUintM M acc l = .ok u → parseUintM M acc (l ++ r) = parseUintM M u r := by
  induction l with
  | nil => intro acc u h; simp only [parseUintM] at h; cases h; rfl
  | cons c l ih =>
    intro acc u h
    simp only [List.cons_append, parseUintM] at h ⊢
    split at h
    · rename_i h1
      split at h
      · cases h
      · rename_i h2
        split at h
        · cases h
        · rename_i h3
          rw [if_pos h1, if_neg h2, if_neg h3]
          exact ih _ _ h
    · cases h

theorem dig_toNat {d : Nat} (h : d < 10) : (UInt8.ofNat (48 + d)).toNat = 48 + d := by
  simp; omega

theorem refFold_dec (u : Nat) (h : u ≤ 9223372036854775808) : refFold 0 (decDigits u) = some u := by
  induction u using Nat.strongRecOn with
  | _ u ih =>
    rw [decDigits]
    split
    · rename_i h1
      simp only [refFold, dig_toNat h1]
      rw [if_pos ⟨by omega, by omega, by omega⟩]
      congr 1; omega
    · rename_i h1
      rw [refFold_app, ih (u / 10) (by omega) (by omega)]
      simp only [Option.bind_some, refFold, dig_toNat (Nat.mod_lt u (by decide : 10 > 0))]
      rw [if_pos ⟨by omega, by omega, by omega⟩]
      congr 1; omega

theorem parseUintM_dec (u : Nat) (h : u ≤ 18446744073709551615) : parseUintM 18446744073709551615 0 (decDigits u) = .ok u := by
  induction u using Nat.strongRecOn with
  | _ u ih =>
    rw [decDigits]
    split
    · rename_i h1
      simp only [parseUintM, dig_toNat h1]
      rw [if_pos ⟨by omega, by omega⟩, if_neg (by omega), if_neg (by omega)]
      congr 1; omega
    · rename_i h1
      rw [parseUintM_app _ _ _ _ _ (ih (u / 10) (by omega) (by omega))]
      simp only [parseUintM, dig_toNat (Nat.mod_lt u (by decide : 10 > 0))]
      rw [if_pos ⟨by omega, by omega⟩, if_neg (by omega), if_neg (by omega)]
      congr 1; omega

theorem dec_ne (u : Nat) : ∃ c r, decDigits u = c :: r ∧ 48 ≤ c.toNat ∧ c.toNat ≤ 57 := by
  induction u using Nat.strongRecOn with
  | _ u ih =>
    rw [decDigits]
    split
    · rename_i h1
      exact ⟨_, [], rfl, by rw [dig_toNat h1]; omega, by rw [dig_toNat h1]; omega⟩
    · rename_i h1
      obtain ⟨c, r, e, h2, h3⟩ := ih (u / 10) (by omega)
      exact ⟨c, r ++ [UInt8.ofNat (48 + u % 10)], by rw [e]; rfl, h2, h3⟩

theorem parseIntB_itoa (v : Int) (h1 : -9223372036854775808 ≤ v) (h2 : v ≤ 9223372036854775807) : parseIntB 64 (itoa v) = .ok v := by
  unfold itoa
  split
  · rename_i hn
    have hne : decDigits v.natAbs ≠ [] := by obtain ⟨c, r, e, _⟩ := dec_ne v.natAbs; rw [e]; simp
    have hp := parseUintM_dec v.natAbs (by omega)
    simp only [parseIntB]
    have e1 : (45 : UInt8).toNat = 45 := rfl
    simp only [e1, or_true, if_true, parseUintB, if_neg hne]
    have e2 : (2 : Nat) ^ 64 - 1 = 18446744073709551615 := by decide
    rw [e2, hp]
    simp only [not_true_eq_false, false_and, if_false, true_and]
    rw [if_neg (by omega)]
    congr 1; omega
  · rename_i hn
    obtain ⟨c, r, e, hc1, hc2⟩ := dec_ne v.toNat
    have hp := parseUintM_dec v.toNat (by omega)
    rw [e] at hp ⊢
    simp only [parseIntB]
    rw [if_neg (by omega)]
    simp only [parseUintB, List.cons_ne_nil, if_false]
    have e2 : (2 : Nat) ^ 64 - 1 = 18446744073709551615 := by decide
    rw [e2, hp]
    have hneg : ¬ (c.toNat = 45) := by omega
    simp only [hneg, not_false_eq_true, true_and, false_and, if_false]
    rw [if_neg (by omega)]
    congr 1; omega

/-- The number that a word is: it stands as it would be printed. -/
def canonV (l : List UInt8) : Option Int := match parseIntB 64 l with
  | .ok v => if itoa v = l then some v else none
  | _ => none

theorem parseIntB_range {l : List UInt8} {v : Int} (h : parseIntB 64 l = .ok v) : -9223372036854775808 ≤ v ∧ v ≤ 9223372036854775807 := by
  cases l with
  | nil => simp [parseIntB] at h
  | cons c r =>
    simp only [parseIntB] at h
    split at h
    · cases h
    · cases h
    · rename_i u hu
      split at h
      · cases h
      · rename_i h1
        split at h
        · cases h
        · rename_i h2
          cases h
          by_cases hn : c.toNat = 45
          · simp only [hn, true_and] at h2
            rw [if_pos hn]; omega
          · simp only [hn, not_false_eq_true, true_and] at h1
            rw [if_neg hn]; omega

theorem canonV_iff (l : List UInt8) (v : Int) : canonV l = some v ↔ (-9223372036854775808 ≤ v ∧ v ≤ 9223372036854775807 ∧ itoa v = l) := by
  unfold canonV
  constructor
  · intro h
    split at h
    · rename_i w hw
      split at h
      · rename_i he
        cases h
        exact ⟨(parseIntB_range hw).1, (parseIntB_range hw).2, he⟩
      · cases h
    · cases h
  · rintro ⟨h1, h2, rfl⟩
    rw [parseIntB_itoa v h1 h2]
    simp

/-- The document's reading of a number. -/
def refX (neg : Bool) (n : Nat) : Int := if neg then IntKind.i64.wrap (-(IntKind.i64.wrap (n : Int))) else IntKind.i64.wrap (n : Int)
def refNum (l : List UInt8) : Option Int := match l with
  | [] => none
  | c :: r => if 20 < l.length then none else match refFold 0 (if c.toNat = 45 then r else l) with
    | none => none
    | some n => if itoa (refX (decide (c.toNat = 45)) n) = l then some (refX (decide (c.toNat = 45)) n) else none

theorem wrap_i64' (n : Int) : IntKind.i64.wrap n = (n + 9223372036854775808) % 18446744073709551616 - 9223372036854775808 := by
  exact IntKind.wrap_i64 n

theorem wrap_range (n : Int) : -9223372036854775808 ≤ IntKind.i64.wrap n ∧ IntKind.i64.wrap n ≤ 9223372036854775807 := by
  rw [wrap_i64']; omega

theorem nDigits_le : ∀ (k u : Nat), u < 10 ^ (k + 1) → nDigits u ≤ k + 1
  | 0, u, h => by rw [nDigits_small (by simpa using h)]; omega
  | k + 1, u, h => by
    by_cases h1 : u < 10
    · rw [nDigits_small h1]; omega
    · rw [nDigits_big h1]
      have : u / 10 < 10 ^ (k + 1) := by
        rw [Nat.pow_succ] at h
        exact Nat.div_lt_of_lt_mul (by rw [Nat.mul_comm]; exact h)
      have := nDigits_le k (u / 10) this
      omega
theorem dec_len (u : Nat) (h : u ≤ 9223372036854775808) : (decDigits u).length ≤ 19 := by
  rw [decDigits_length]
  exact nDigits_le 18 u (by omega)

theorem refNum_iff (l : List UInt8) (v : Int) : refNum l = some v ↔ (-9223372036854775808 ≤ v ∧ v ≤ 9223372036854775807 ∧ itoa v = l) := by
  constructor
  · intro h
    cases l with
    | nil => cases h
    | cons c r =>
      simp only [refNum] at h
      split at h
      · cases h
      · split at h
        · cases h
        · rename_i n hn
          split at h
          · rename_i he
            cases h
            refine ⟨?_, ?_, he⟩
            · unfold refX; split
              · exact (wrap_range _).1
              · exact (wrap_range _).1
            · unfold refX; split
              · exact (wrap_range _).2
              · exact (wrap_range _).2
          · cases h
  · rintro ⟨h1, h2, rfl⟩
    unfold itoa
    by_cases hn : v < 0
    · rw [if_pos hn]
      have hf := refFold_dec v.natAbs (by omega)
      have hl := dec_len v.natAbs (by omega)
      simp only [refNum]
      have e1 : (45 : UInt8).toNat = 45 := rfl
      rw [if_neg (by simp only [List.length_cons]; omega)]
      simp only [e1, if_true, hf, decide_true]
      have hx : refX true v.natAbs = v := by
        simp only [refX, if_true, wrap_i64']; omega
      rw [hx]
      have : itoa v = 45 :: decDigits v.natAbs := by unfold itoa; rw [if_pos hn]
      rw [if_pos this]
    · rw [if_neg hn]
      have hf := refFold_dec v.toNat (by omega)
      have hl := dec_len v.toNat (by omega)
      obtain ⟨c, r, e, hc1, hc2⟩ := dec_ne v.toNat
      rw [e] at hf hl ⊢
      simp only [refNum]
      rw [if_neg (by omega)]
      have hc : ¬ c.toNat = 45 := by omega
      simp only [hc, if_false, hf, decide_false]
      have hx : refX false v.toNat = v := by
        simp only [refX, Bool.false_eq_true, if_false, wrap_i64']; omega
      rw [hx]
      have : itoa v = c :: r := by unfold itoa; rw [if_neg hn, e]
      rw [if_pos this]

/-- Both read the same numbers. -/
theorem refNum_eq (l : List UInt8) : refNum l = canonV l := by
  cases h : canonV l with
  | some v => exact (refNum_iff l v).2 ((canonV_iff l v).1 h)
  | none =>
    cases h2 : refNum l with
    | none => rfl
    | some v => rw [(canonV_iff l v).2 ((refNum_iff l v).1 h2)] at h; cases h
end Go.Fl

namespace Go.Fl
open Go.Lib

/-- The pieces between bytes c. -/
def pieces (c : UInt8) : List UInt8 → List (List UInt8)
  | [] => [[]]
  | b :: r => if b = c then [] :: pieces c r else match pieces c r with
    | [] => [[b]]
    | w :: ws => (b :: w) :: ws

theorem pieces_ne (c : UInt8) (l : List UInt8) : ∃ w ws, pieces c l = w :: ws := by
  cases l with
  | nil => exact ⟨[], [], rfl⟩
  | cons b r =>
    simp only [pieces]
    split
    · exact ⟨_, _, rfl⟩
    · split
      · exact ⟨_, _, rfl⟩
      · exact ⟨_, _, rfl⟩

theorem splitK_cons (b c : UInt8) (h : b ≠ c) (l : List UInt8) : ∀ k, splitK [c] 0 k (b :: l) = match splitK [c] 0 k l with
    | [] => [[b]]
    | w :: ws => (b :: w) :: ws := by
  have hp : ([c] : List UInt8).isPrefixOf (b :: l) = false := by simp [List.isPrefixOf, Ne.symm h]
  have hix : index (b :: l) [c] = if index l [c] == -1 then -1 else index l [c] + 1 := by rw [index, hp]; simp
  intro k
  cases k with
  | zero => rfl
  | succ k =>
    by_cases hm : index l [c] = -1
    · have h1 : index (b :: l) [c] = -1 := by rw [hix, if_pos (beq_iff_eq.2 hm)]
      simp [splitK, h1, hm]
    · have hge := index_ge l [c]
      obtain ⟨j, hj⟩ : ∃ j : Nat, index l [c] = j := ⟨(index l [c]).toNat, by omega⟩
      have hix' : index (b :: l) [c] = ((j + 1 : Nat) : Int) := by rw [hix, if_neg (fun e => hm (beq_iff_eq.1 e)), hj]; omega
      have n1 : ¬ (((j + 1 : Nat) : Int) == -1) = true := by rw [beq_iff_eq]; omega
      have n2 : ¬ (((j : Nat) : Int) == -1) = true := by rw [beq_iff_eq]; omega
      rw [splitK, splitK, hix', hj, if_neg n1, if_neg n2]
      have e1 : (((j + 1 : Nat) : Int)).toNat = j + 1 := by omega
      have e2 : ((j : Nat) : Int).toNat = j := by omega
      rw [e1, e2]
      simp

theorem split_pieces (c : UInt8) (l : List UInt8) : split l [c] = pieces c l := by
  unfold split
  induction l with
  | nil => rw [count_miss (by simp [index])]; rfl
  | cons b r ih =>
    by_cases h : b = c
    · subst h
      have hix : index (b :: r) [b] = 0 := by rw [index]; simp [List.isPrefixOf]
      rw [count_cons_eq, Nat.add_comm]
      simp only [splitK, hix, pieces, if_true]
      rw [← ih]
      simp
    · rw [count_cons_ne b c r h, splitK_cons b c h, ih]
      simp only [pieces, if_neg h]

/-- The document's way: from a place on, what stands between is put behind the others. -/
def cutAt (c : UInt8) (from_ : List UInt8) : List UInt8 → List (List UInt8)
  | [] => [from_]
  | b :: r => if b = c then from_ :: cutAt c [] r else cutAt c (from_ ++ [b]) r
theorem cutAt_pieces (c : UInt8) (l : List UInt8) : ∀ p, cutAt c p l = match pieces c l with
    | [] => [p]
    | w :: ws => (p ++ w) :: ws := by
  induction l with
  | nil => intro p; simp [cutAt, pieces]
  | cons b r ih =>
    intro p
    simp only [cutAt, pieces]
    by_cases h : b = c
    · rw [if_pos h, if_pos h, ih]
      obtain ⟨w, ws, e⟩ := pieces_ne c r
      rw [e]; simp
    · rw [if_neg h, if_neg h, ih]
      obtain ⟨w, ws, e⟩ := pieces_ne c r
      rw [e]; simp
theorem cutAt_eq (c : UInt8) (l : List UInt8) : cutAt c [] l = split l [c] := by
  rw [cutAt_pieces, split_pieces]
  obtain ⟨w, ws, e⟩ := pieces_ne c l
  rw [e]; rfl
end Go.Fl

namespace Go.Fl
open Go.Lib

theorem itoa_zero : itoa 0 = [48] := by
  unfold itoa
  rw [if_neg (by decide)]
  exact decDigits_one (i := 0) (by decide)
theorem itoa_one : itoa 1 = [49] := by
  unfold itoa
  rw [if_neg (by decide)]
  exact decDigits_one (i := 1) (by decide)
theorem canonV_zero (l : List UInt8) : canonV l = some 0 ↔ l = [48] := by
  rw [canonV_iff, itoa_zero]
  exact ⟨fun h => h.2.2.symm, fun h => ⟨by decide, by decide, h.symm⟩⟩
theorem canonV_one (l : List UInt8) : canonV l = some 1 ↔ l = [49] := by
  rw [canonV_iff, itoa_one]
  exact ⟨fun h => h.2.2.symm, fun h => ⟨by decide, by decide, h.symm⟩⟩

/-- A flag's word. -/
def bitL (b : Bool) : List UInt8 := if b then [49] else [48]
def flagV (l : List UInt8) : Option Bool := if l = [48] then some false else if l = [49] then some true else none
theorem flagV_iff (l : List UInt8) (b : Bool) : flagV l = some b ↔ l = bitL b := by
  unfold flagV bitL
  by_cases h1 : l = [48]
  · subst h1; cases b <;> simp
  · by_cases h2 : l = [49]
    · subst h2; cases b <;> simp
    · cases b <;> simp [h1, h2]

/-- A digit of base 16. -/
def hexV (c : UInt8) : Option Nat := if 48 ≤ c.toNat ∧ c.toNat ≤ 57 then some (c.toNat - 48) else if 97 ≤ c.toNat ∧ c.toNat ≤ 102 then some (c.toNat - 87) else none
def hexC (d : Nat) : UInt8 := if d < 10 then UInt8.ofNat (48 + d) else UInt8.ofNat (87 + d)
theorem hexV_lt {c : UInt8} {d : Nat} (h : hexV c = some d) : d < 16 := by
  unfold hexV at h
  split at h
  · cases h; omega
  · split at h
    · cases h; omega
    · cases h
theorem hexV_iff (c : UInt8) (d : Nat) : hexV c = some d ↔ d < 16 ∧ hexC d = c := by
  constructor
  · intro h
    refine ⟨hexV_lt h, ?_⟩
    unfold hexV at h
    unfold hexC
    split at h
    · rename_i h1
      cases h
      rw [if_pos (by omega)]
      apply UInt8.toNat_inj.1
      simp; omega
    · split at h
      · rename_i h1
        cases h
        rw [if_neg (by omega)]
        apply UInt8.toNat_inj.1
        simp; omega
      · cases h
  · rintro ⟨h1, rfl⟩
    unfold hexV hexC
    by_cases h2 : d < 10
    · rw [if_pos h2]
      have e : (UInt8.ofNat (48 + d)).toNat = 48 + d := by simp; omega
      rw [e, if_pos (by omega)]
      congr 1; omega
    · rw [if_neg h2]
      have e : (UInt8.ofNat (87 + d)).toNat = 87 + d := by simp; omega
      rw [e, if_neg (by omega), if_pos (by omega)]
      congr 1; omega

/-- Bytes in base 16, two digits each. -/
def pairsV : List UInt8 → Option (List UInt8)
  | [] => some []
  | [_] => none
  | a :: b :: r => match hexV a, hexV b, pairsV r with
    | some x, some y, some l => some (UInt8.ofNat (x * 16 + y) :: l)
    | _, _, _ => none
def rawV' (l : List UInt8) : Option (List UInt8) := if l = [45] then some [] else if l = [] then none else pairsV l
def pairsL (b : List UInt8) : List UInt8 := b.flatMap fun x => [hexC (x.toNat / 16), hexC (x.toNat % 16)]
def hexL (b : List UInt8) : List UInt8 := if b = [] then [45] else pairsL b

theorem pairs_back (b : List UInt8) : pairsV (pairsL b) = some b := by
  induction b with
  | nil => rfl
  | cons x b ih =>
    have hx := x.toNat_lt
    simp only [pairsL, List.flatMap_cons, List.cons_append, List.nil_append, pairsV]
    have h1 := (hexV_iff (hexC (x.toNat / 16)) (x.toNat / 16)).2 ⟨by omega, rfl⟩
    have h2 := (hexV_iff (hexC (x.toNat % 16)) (x.toNat % 16)).2 ⟨by omega, rfl⟩
    have ih' : pairsV (List.flatMap (fun x => [hexC (x.toNat / 16), hexC (x.toNat % 16)]) b) = some b := ih
    rw [h1, h2, ih']
    simp only [Option.some.injEq, List.cons.injEq, and_true]
    have e : x.toNat / 16 * 16 + x.toNat % 16 = x.toNat := by omega
    rw [e]; simp
theorem pairs_forth : ∀ (n : Nat) (l b : List UInt8), l.length ≤ n → pairsV l = some b → pairsL b = l
  | _, [], b, _, h => by simp only [pairsV] at h; cases h; rfl
  | _, [_], b, _, h => by simp [pairsV] at h
  | 0, _ :: _ :: _, _, hn, _ => by simp at hn
  | n + 1, a :: c :: r, b, hn, h => by
    simp only [pairsV] at h
    split at h
    · rename_i x y l hx hy hl
      cases h
      have ih := pairs_forth n r l (by simp only [List.length_cons] at hn; omega) hl
      obtain ⟨x1, x2⟩ := (hexV_iff a x).1 hx
      obtain ⟨y1, y2⟩ := (hexV_iff c y).1 hy
      have e : (UInt8.ofNat (x * 16 + y)).toNat = x * 16 + y := by simp; omega
      simp only [pairsL, List.flatMap_cons, e]
      have e1 : (x * 16 + y) / 16 = x := by omega
      have e2 : (x * 16 + y) % 16 = y := by omega
      rw [e1, e2, x2, y2]
      have ih' : List.flatMap (fun x => [hexC (x.toNat / 16), hexC (x.toNat % 16)]) l = r := ih
      rw [ih']; rfl
    · cases h
theorem rawV_iff (l b : List UInt8) : rawV' l = some b ↔ hexL b = l := by
  unfold rawV' hexL
  constructor
  · intro h
    by_cases h1 : l = [45]
    · rw [if_pos h1] at h; cases h; rw [h1]; rfl
    · rw [if_neg h1] at h
      by_cases h2 : l = []
      · rw [if_pos h2] at h; cases h
      · rw [if_neg h2] at h
        have := pairs_forth _ l b (Nat.le_refl _) h
        by_cases h3 : b = []
        · subst h3; exact absurd this.symm h2
        · rw [if_neg h3]; exact this
  · intro h
    by_cases h3 : b = []
    · rw [if_pos h3] at h; subst h; rw [if_pos rfl, h3]
    · rw [if_neg h3] at h
      subst h
      have hb := pairs_back b
      have h1 : pairsL b ≠ [45] := by
        intro e; rw [e] at hb; simp [pairsV] at hb
      have h2 : pairsL b ≠ [] := by
        intro e; rw [e] at hb; simp only [pairsV, Option.some.injEq] at hb; exact h3 hb.symm
      rw [if_neg h1, if_neg h2, hb]
end Go.Fl
