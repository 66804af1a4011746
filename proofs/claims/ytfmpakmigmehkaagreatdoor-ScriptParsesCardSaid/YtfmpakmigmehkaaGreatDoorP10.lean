/- The document's way through a text (plain, no program). -/
import Derived.Test.YtfmpakmigmehkaaGreatDoorP7
set_option linter.unusedVariables false
set_option linter.unusedSimpArgs false
namespace Go.Fl
open Go.Lib

/-- The first line that is not so, where the last one may have no end. -/
def badR (ended : Bool) (n : Nat) : Nat → List Word → Option Nat
  | _, [] => none
  | i, l :: r => if ((ended || decide (i + 1 < n)) && lineOk i l) = true then badR ended n (i + 1) r else some i
def refParse (t : Word) : ResS :=
  if 65536 < t.length then .bad 0 3 else
  let ps := pieces 10 t
  let last := ps.getLast?.getD []
  let l := if last = [] then ps.dropLast else ps.dropLast ++ [last]
  if 2048 < l.length then .bad 0 3 else
  match badR (decide (last = [])) l.length 0 l with
  | some i => .bad (i + 1) 11
  | none => if l.length < 2 then .bad (l.length + 1) 11 else
    match l with
    | x :: y :: r => match cfgV x, cfgV y, evsV r with
      | some a, some b, some es => .good a b es
      | _, _, _ => .bad 0 0
    | _ => .bad 0 0

theorem badR_ended (n : Nat) : ∀ (ls : List Word) (i : Nat), badR true n i ls = badAt i ls
  | [], _ => rfl
  | l :: r, i => by
    simp only [badR, badAt, Bool.true_or, Bool.true_and]
    rw [badR_ended n r]
theorem badR_open (n : Nat) (last : Word) : ∀ (ls : List Word) (i : Nat), i + ls.length + 1 = n → badR false n i (ls ++ [last]) = match badAt i ls with
    | some j => some j
    | none => some (i + ls.length)
  | [], i, h => by
    simp only [List.nil_append, badR, badAt, List.length_nil, Nat.add_zero] at h ⊢
    rw [if_neg (by simp; omega)]
  | l :: r, i, h => by
    simp only [List.length_cons] at h
    simp only [List.cons_append, badR, badAt, Bool.false_or]
    have h1 : decide (i + 1 < n) = true := decide_eq_true (by omega)
    rw [h1, Bool.true_and]
    split
    · rw [badR_open n last r (i + 1) (by omega)]
      split
      · rfl
      · congr 1; simp only [List.length_cons]; omega
    · rfl

theorem refParse_eq (t : Word) : refParse t = parseT t := by
  unfold refParse parseT
  split
  · rfl
  · simp only
    generalize (pieces 10 t).dropLast = ls
    generalize (pieces 10 t).getLast?.getD [] = last
    by_cases hl : last = []
    · subst hl
      rw [if_pos rfl]
      simp only [decide_true, badR_ended]
      by_cases h1 : 2048 < ls.length
      · rw [if_pos h1, if_pos (.inl h1)]
      · have g1 : ¬ (2048 < ls.length ∨ (ls.length = 2048 ∧ (([] : Word) ≠ []))) := by
          rintro (h | ⟨_, h⟩)
          · exact h1 h
          · exact h rfl
        rw [if_neg h1, if_neg g1]
        cases badAt 0 ls with
        | some j => rfl
        | none =>
          simp only
          by_cases h2 : ls.length < 2
          · rw [if_pos h2, if_pos (.inl h2)]
          · have g2 : ¬ (ls.length < 2 ∨ (([] : Word) ≠ [])) := by
              rintro (h | h)
              · exact h2 h
              · exact h rfl
            rw [if_neg h2, if_neg g2]
            rcases ls with _ | ⟨x, _ | ⟨y, r⟩⟩ <;> rfl
    · rw [if_neg hl]
      have hd : decide (last = []) = false := decide_eq_false hl
      have hlen : (ls ++ [last]).length = ls.length + 1 := by simp
      rw [hd, hlen]
      by_cases h1 : 2048 < ls.length ∨ (ls.length = 2048 ∧ last ≠ [])
      · rw [if_pos h1, if_pos (by rcases h1 with h | h <;> omega)]
      · have h2 : ¬ 2048 < ls.length + 1 := by
          intro h
          rcases Nat.lt_or_ge 2048 ls.length with h3 | h3
          · exact h1 (.inl h3)
          · exact h1 (.inr ⟨by omega, hl⟩)
        rw [if_neg h1, if_neg h2, badR_open _ last ls 0 (by omega)]
        cases badAt 0 ls with
        | some j => rfl
        | none =>
          simp only [Nat.zero_add]
          rw [if_pos (.inr hl)]
end Go.Fl

namespace Go.Fl
open Go.Lib

def EvS.spare (e : EvS) : EvS := match evKind e.do_ with
  | 1 => ⟨e.do_, e.end_, e.n, 0, []⟩
  | 2 => ⟨e.do_, e.end_, 0, e.proto, e.b⟩
  | 3 => ⟨e.do_, e.end_, e.n, 0, e.b⟩
  | 4 => ⟨e.do_, e.end_, 0, 0, e.b⟩
  | _ => ⟨e.do_, e.end_, 0, 0, []⟩
/-- Numbers that are int64s. -/
def EvS.ints (e : EvS) : Prop := inI e.end_ ∧ inI e.n ∧ inI e.proto

theorem spare_words (e : EvS) : e.spare.words = e.words := by
  obtain ⟨d, en, n, p, b⟩ := e
  have hk := kind_le d
  unfold EvS.spare EvS.words EvS.tail
  simp only
  obtain ⟨k, hkk⟩ : ∃ k, evKind d = k := ⟨_, rfl⟩
  have hk' : k = 0 ∨ k = 1 ∨ k = 2 ∨ k = 3 ∨ k = 4 := by omega
  rcases hk' with rfl | rfl | rfl | rfl | rfl <;> simp only [hkk]
theorem spare_line (e : EvS) : e.spare.line = e.line := by unfold EvS.line; rw [spare_words]
theorem spare_ok (e : EvS) (hd : 1 ≤ e.do_ ∧ e.do_ ≤ 11) (h : e.ints) : e.spare.ok := by
  obtain ⟨d, en, n, p, b⟩ := e
  obtain ⟨h1, h2, h3⟩ := h
  have hk := kind_le d
  unfold EvS.spare EvS.ok
  simp only
  obtain ⟨k, hkk⟩ : ∃ k, evKind d = k := ⟨_, rfl⟩
  have hk' : k = 0 ∨ k = 1 ∨ k = 2 ∨ k = 3 ∨ k = 4 := by omega
  rcases hk' with rfl | rfl | rfl | rfl | rfl <;> simp only [hkk] <;> refine ⟨hd, h1, ?_⟩
  · exact ⟨trivial, trivial, trivial⟩
  · exact ⟨h2, trivial, trivial⟩
  · exact ⟨h3, trivial⟩
  · exact ⟨h2, trivial⟩
  · exact ⟨trivial, trivial⟩
theorem printT_spare (a b : CfgS) (l : List EvS) : printT a b (l.map EvS.spare) = printT a b l := by
  unfold printT
  rw [List.map_map]
  congr 3
  exact List.map_congr_left (fun e _ => spare_line e)

/-- What Print answers: the text, the error's number. -/
def printR (a b : CfgS) (l : List EvS) : Word × Int :=
  if (l.any fun e => !(decide (1 ≤ e.do_) && decide (e.do_ ≤ 11))) = true then ([], 1)
  else if 2046 < l.length then ([], 3)
  else if 65536 < (printT a b l).length then ([], 3)
  else (printT a b l, 0)

/-- What is printed, read back, is what was printed, with what the lines have alone. -/
theorem printR_back (a b : CfgS) (l : List EvS) (ha : a.ok) (hb : b.ok) (hl : ∀ e ∈ l, e.ints) (h : (printR a b l).2 = 0) : parseT (printR a b l).1 = .good a b (l.map EvS.spare) := by
  unfold printR at h ⊢
  split at h
  · cases h
  · rename_i h1
    split at h
    · cases h
    · rename_i h2
      split at h
      · cases h
      · rename_i h3
        rw [if_neg h1, if_neg h2, if_neg h3]
        simp only
        rw [← printT_spare]
        have hany : ∀ e ∈ l, 1 ≤ e.do_ ∧ e.do_ ≤ 11 := by
          intro e he
          have h1' : ¬ ∃ e ∈ l, (!(decide (1 ≤ e.do_) && decide (e.do_ ≤ 11))) = true := by
            rw [← List.any_eq_true]; exact h1
          by_cases hx : 1 ≤ e.do_ ∧ e.do_ ≤ 11
          · exact hx
          · exact absurd ⟨e, he, by simp only [Bool.not_eq_true', Bool.and_eq_false_iff, decide_eq_false_iff_not]; omega⟩ h1'
        refine parse_print a b _ ha hb (fun e he => ?_) (by rw [List.length_map]; omega) (by rw [printT_spare]; omega)
        obtain ⟨x, hx, rfl⟩ := List.mem_map.1 he
        exact spare_ok x (hany x hx) (hl x hx)
end Go.Fl

namespace Go.Fl
open Go.Lib

theorem itoa_len (v : Int) (h : inI v) : (itoa v).length ≤ 20 := by
  unfold itoa
  obtain ⟨h1, h2⟩ := h
  split
  · have := dec_len v.natAbs (by omega)
    simp only [List.length_cons]; omega
  · have := dec_len v.toNat (by omega)
    omega
theorem pairsL_len (b : Word) : (pairsL b).length = 2 * b.length := by
  induction b with
  | nil => rfl
  | cons x b ih =>
    have ih' : (List.flatMap (fun x => [hexC (x.toNat / 16), hexC (x.toNat % 16)]) b).length = 2 * b.length := ih
    simp only [pairsL, List.flatMap_cons, List.length_append, List.length_cons, List.length_nil, ih']
    omega
theorem hexL_len (b : Word) : (hexL b).length ≤ 2 * b.length + 1 := by
  unfold hexL
  split
  · simp
  · rw [pairsL_len]; omega
theorem bitL_len (b : Bool) : (bitL b).length = 1 := by cases b <;> rfl
theorem evName_len (d : Nat) : (evName d).length ≤ 6 := by unfold evName; split <;> simp

def sumL (ws : List Word) : Nat := (ws.map List.length).sum
theorem joinW_len (ws : List Word) : (joinW ws).length ≤ sumL ws + ws.length := by
  match ws with
  | [] => simp [joinW, sumL]
  | [w] => simp [joinW, sumL]
  | w :: x :: r =>
    have ih := joinW_len (x :: r)
    simp only [joinW, sumL, List.map_cons, List.sum_cons, List.length_append, List.length_cons] at ih ⊢
    omega

theorem inI_u32 {n : Int} (h : 0 ≤ n ∧ n ≤ 4294967295) : inI n := ⟨by omega, by omega⟩
theorem sum_bound (x1 x2 x3 x4 x5 x6 x7 y1 y2 z1 z2 : Nat) (i1 : x1 ≤ 20) (i2 : x2 ≤ 20) (i3 : x3 ≤ 20) (i4 : x4 ≤ 20) (i5 : x5 ≤ 20) (i6 : x6 ≤ 20) (i7 : x7 ≤ 20) (e1 : y1 ≤ 2 * z1 + 1) (e2 : y2 ≤ 2 * z2 + 1) :
    3 + (1 + (y1 + (y2 + (x1 + (1 + (1 + (x2 + (x3 + (1 + (x4 + (1 + (1 + (1 + (1 + (1 + (x5 + (x6 + (x7 + 0)))))))))))))))))) + 19 ≤ 2 * z1 + 2 * z2 + 173 := by omega
theorem cfg_line_len (c : CfgS) (h : c.ok) : c.line.length ≤ 2 * c.name.length + 2 * c.secret.length + 173 := by
  obtain ⟨k1, k2, k3, k4, k5, k6, k7⟩ := h
  refine Nat.le_trans (joinW_len c.words) ?_
  have w0 : wEnd.length = 3 := rfl
  simp only [CfgS.words, sumL, List.map_cons, List.map_nil, List.sum_cons, List.sum_nil, bitL_len, w0, List.length_cons, List.length_nil]
  exact sum_bound _ _ _ _ _ _ _ _ _ _ _ (itoa_len _ k1) (itoa_len _ (inI_u32 k2)) (itoa_len _ k3) (itoa_len _ k4) (itoa_len _ k5) (itoa_len _ k6) (itoa_len _ k7) (hexL_len _) (hexL_len _)

theorem ev_line_len (e : EvS) (h : e.ints) : e.line.length ≤ 2 * e.b.length + 52 := by
  obtain ⟨h1, h2, h3⟩ := h
  have := joinW_len e.words
  have n0 := evName_len e.do_
  have i1 := itoa_len e.end_ h1
  have i2 := itoa_len e.n h2
  have i3 := itoa_len e.proto h3
  have e1 := hexL_len e.b
  unfold EvS.line
  unfold EvS.words EvS.tail at this ⊢
  have hk := kind_le e.do_
  obtain ⟨k, hkk⟩ : ∃ k, evKind e.do_ = k := ⟨_, rfl⟩
  have hk' : k = 0 ∨ k = 1 ∨ k = 2 ∨ k = 3 ∨ k = 4 := by omega
  rcases hk' with rfl | rfl | rfl | rfl | rfl <;> simp only [hkk, sumL, List.map_cons, List.map_nil, List.sum_cons, List.sum_nil, List.length_cons, List.length_nil] at this ⊢ <;> omega

theorem textL_len (ls : List Word) (n : Nat) (h : ∀ l ∈ ls, l.length ≤ n) : (textL ls).length ≤ ls.length * (n + 1) := by
  induction ls with
  | nil => simp [textL]
  | cons l r ih =>
    have h1 := h l List.mem_cons_self
    have h2 := ih (fun x hx => h x (List.mem_cons_of_mem _ hx))
    simp only [textL, List.flatMap_cons, List.length_append, List.length_cons, List.length_nil, Nat.succ_mul] at h2 ⊢
    omega
end Go.Fl

namespace Go.Fl
open Go.Lib

theorem textL_app (x y : List Word) : textL (x ++ y) = textL x ++ textL y := by simp [textL]
theorem printT_app (a b : CfgS) (l1 l2 : List EvS) : printT a b l1 ++ textL (l2.map EvS.line) = printT a b (l1 ++ l2) := by
  unfold printT
  rw [← textL_app]
  congr 1
  simp
theorem printT_bad (a b : CfgS) (l1 l2 : List EvS) (bad : Word) : printT a b l1 ++ ((bad ++ [10]) ++ textL (l2.map EvS.line)) = textL (a.line :: b.line :: (l1.map EvS.line ++ bad :: l2.map EvS.line)) := by
  have e : (bad ++ [10]) ++ textL (l2.map EvS.line) = textL (bad :: l2.map EvS.line) := by simp [textL]
  unfold printT
  rw [e, ← textL_app]
  congr 1
/-- Behind the two ends' lines stand the events'. -/
theorem printT_drop (a b : CfgS) (l : List EvS) : (printT a b l).drop (a.line.length + 1 + (b.line.length + 1)) = textL (l.map EvS.line) := by
  have e : printT a b l = ((a.line ++ [10]) ++ (b.line ++ [10])) ++ textL (l.map EvS.line) := by simp [printT, textL]
  rw [e]
  have hl : a.line.length + 1 + (b.line.length + 1) = ((a.line ++ [10]) ++ (b.line ++ [10])).length := by simp; omega
  rw [hl, List.drop_left]

theorem lines_good (a b : CfgS) (l1 l2 : List EvS) (ha : a.ok) (hb : b.ok) (h : ∀ e ∈ l1 ++ l2, e.ints ∧ 1 ≤ e.do_ ∧ e.do_ ≤ 11) (hn : (l1 ++ l2).length ≤ 2046) (hs : (printT a b (l1 ++ l2)).length ≤ 65536) :
    parseT (printT a b l1 ++ textL (l2.map EvS.line)) = .good a b ((l1 ++ l2).map EvS.spare) := by
  rw [printT_app, ← printT_spare]
  refine parse_print a b _ ha hb (fun e he => ?_) (by rw [List.length_map]; exact hn) (by rw [printT_spare]; exact hs)
  obtain ⟨x, hx, rfl⟩ := List.mem_map.1 he
  exact spare_ok x (h x hx).2 (h x hx).1

theorem lines_bad (a b : CfgS) (l1 l2 : List EvS) (bad : Word) (ha : a.ok) (hb : b.ok) (h : ∀ e ∈ l1 ++ l2, e.ints ∧ 1 ≤ e.do_ ∧ e.do_ ≤ 11) (hm : bad ∈ badLines) (hn : (l1 ++ l2).length ≤ 2000)
    (hs : (printT a b l1 ++ ((bad ++ [10]) ++ textL (l2.map EvS.line))).length ≤ 65536) :
    parseT (printT a b l1 ++ ((bad ++ [10]) ++ textL (l2.map EvS.line))) = .bad (l1.length + 3) 11 := by
  obtain ⟨b1, b2⟩ := bad_lines bad hm
  have hl1 : l1.map EvS.line = (l1.map EvS.spare).map EvS.line := by
    rw [List.map_map]; exact List.map_congr_left (fun e _ => (spare_line e).symm)
  rw [printT_bad] at hs ⊢
  rw [hl1] at hs ⊢
  have hp := parse_bad a b (l1.map EvS.spare) bad (l2.map EvS.line) ha hb (fun e he => ?_) b1 b2 (fun x hx => ?_) (by rw [List.length_map, List.length_map, ← List.length_append]; exact hn) hs
  · rw [hp, List.length_map]
  · obtain ⟨x, hx, rfl⟩ := List.mem_map.1 he
    exact spare_ok x (h x (List.mem_append_left _ hx)).2 (h x (List.mem_append_left _ hx)).1
  · obtain ⟨e, _, rfl⟩ := List.mem_map.1 hx
    exact join_plain _ (ev_plain e)
end Go.Fl
