/- A whole text: what it says, what is printed, there and back (plain, no program). -/
import Derived.Test.YtfmpakmigmehkaaGreatDoorP4
set_option linter.unusedVariables false
set_option linter.unusedSimpArgs false
namespace Go.Fl
open Go.Lib

/-- A byte that words are made of. -/
def plainB (x : UInt8) : Prop := x ≠ 32 ∧ x ≠ 10
theorem plainB_of {x : UInt8} (h : 33 ≤ x.toNat) : plainB x := by
  constructor
  · rintro rfl; revert h; decide
  · rintro rfl; revert h; decide
theorem dec_plain (u : Nat) : ∀ x ∈ decDigits u, plainB x := by
  induction u using Nat.strongRecOn with
  | _ u ih =>
    intro x hx
    rw [decDigits] at hx
    split at hx
    · rename_i h1
      rw [List.mem_singleton.1 hx]
      exact plainB_of (by rw [dig_toNat h1]; omega)
    · rename_i h1
      rcases List.mem_append.1 hx with h | h
      · exact ih (u / 10) (by omega) x h
      · rw [List.mem_singleton.1 h]
        exact plainB_of (by rw [dig_toNat (Nat.mod_lt u (by decide))]; omega)
theorem itoa_plain (v : Int) : ∀ x ∈ itoa v, plainB x := by
  intro x hx
  unfold itoa at hx
  split at hx
  · rcases List.mem_cons.1 hx with rfl | h
    · exact ⟨by decide, by decide⟩
    · exact dec_plain _ x h
  · exact dec_plain _ x hx
theorem hexC_plain {d : Nat} (h : d < 16) : plainB (hexC d) := by
  refine plainB_of ?_
  unfold hexC
  split
  · have e : (UInt8.ofNat (48 + d)).toNat = 48 + d := by simp; omega
    rw [e]; omega
  · have e : (UInt8.ofNat (87 + d)).toNat = 87 + d := by simp; omega
    rw [e]; omega
theorem hexL_plain (b : Word) : ∀ x ∈ hexL b, plainB x := by
  intro x hx
  unfold hexL at hx
  split at hx
  · rw [List.mem_singleton.1 hx]; exact ⟨by decide, by decide⟩
  · simp only [pairsL, List.mem_flatMap, List.mem_cons, List.mem_nil_iff, or_false] at hx
    obtain ⟨y, _, rfl | rfl⟩ := hx
    · exact hexC_plain (by have := y.toNat_lt; omega)
    · exact hexC_plain (by omega)
theorem bitL_plain (b : Bool) : ∀ x ∈ bitL b, plainB x := by
  intro x hx
  cases b <;> (simp [bitL] at hx; subst hx; exact ⟨by decide, by decide⟩)
theorem wEnd_plain : ∀ x ∈ wEnd, plainB x := by
  intro x hx
  simp only [wEnd, List.mem_cons, List.mem_nil_iff, or_false] at hx
  rcases hx with rfl | rfl | rfl <;> exact ⟨by decide, by decide⟩
theorem evName_plain (d : Nat) : ∀ x ∈ evName d, plainB x := by
  intro x hx
  unfold evName at hx
  split at hx <;> simp only [List.mem_cons, List.mem_nil_iff, or_false, List.not_mem_nil] at hx
  all_goals (first | exact hx.elim | (rcases hx with rfl | rfl | rfl | rfl | rfl | rfl <;> exact ⟨by decide, by decide⟩) | (rcases hx with rfl | rfl | rfl | rfl | rfl <;> exact ⟨by decide, by decide⟩) | (rcases hx with rfl | rfl | rfl | rfl <;> exact ⟨by decide, by decide⟩))

theorem cfg_plain (c : CfgS) : ∀ w ∈ c.words, ∀ x ∈ w, plainB x := by
  intro w hw
  simp only [CfgS.words, List.mem_cons, List.mem_nil_iff, or_false] at hw
  rcases hw with rfl | rfl | rfl | rfl | rfl | rfl | rfl | rfl | rfl | rfl | rfl | rfl | rfl | rfl | rfl | rfl | rfl | rfl | rfl <;>
    first | exact wEnd_plain | exact bitL_plain _ | exact hexL_plain _ | exact itoa_plain _
theorem ev_plain (e : EvS) : ∀ w ∈ e.words, ∀ x ∈ w, plainB x := by
  intro w hw
  simp only [EvS.words, List.mem_cons] at hw
  rcases hw with rfl | rfl | hw
  · exact evName_plain _
  · exact itoa_plain _
  · unfold EvS.tail at hw
    split at hw <;> simp only [List.mem_cons, List.mem_nil_iff, or_false, List.not_mem_nil] at hw
    · subst hw; exact itoa_plain _
    · rcases hw with rfl | rfl
      · exact itoa_plain _
      · exact hexL_plain _
    · rcases hw with rfl | rfl
      · exact itoa_plain _
      · exact hexL_plain _
    · subst hw; exact hexL_plain _

theorem join_plain (ws : List Word) (h : ∀ w ∈ ws, ∀ x ∈ w, plainB x) : (10 : UInt8) ∉ joinW ws := by
  match ws with
  | [] => simp [joinW]
  | [w] => exact fun hm => (h w List.mem_cons_self 10 hm).2 rfl
  | w :: x :: r =>
    have ih := join_plain (x :: r) (fun y hy => h y (List.mem_cons_of_mem _ hy))
    simp only [joinW]
    intro hm
    rcases List.mem_append.1 hm with hm | hm
    · exact (h w List.mem_cons_self 10 hm).2 rfl
    · rcases List.mem_cons.1 hm with hm | hm
      · cases hm
      · exact ih hm

/-- An end's line, an event's line (without its end). -/
def CfgS.line (c : CfgS) : Word := joinW c.words
def EvS.line (e : EvS) : Word := joinW e.words
def cfgV (l : Word) : Option CfgS := parseCfg (pieces 32 l)
def evV (l : Word) : Option EvS := parseEv (pieces 32 l)
theorem cfgV_iff (l : Word) (c : CfgS) : cfgV l = some c ↔ c.ok ∧ l = c.line := by
  unfold cfgV
  rw [parseCfg_iff]
  constructor
  · rintro ⟨h1, h2⟩
    exact ⟨h1, by rw [CfgS.line, ← h2, join_pieces]⟩
  · rintro ⟨h1, rfl⟩
    exact ⟨h1, pieces_join _ (by simp [CfgS.words]) (fun w hw hm => (cfg_plain c w hw 32 hm).1 rfl)⟩
theorem evV_iff (l : Word) (e : EvS) : evV l = some e ↔ e.ok ∧ l = e.line := by
  unfold evV
  rw [parseEv_iff]
  constructor
  · rintro ⟨h1, h2⟩
    exact ⟨h1, by rw [EvS.line, ← h2, join_pieces]⟩
  · rintro ⟨h1, rfl⟩
    exact ⟨h1, pieces_join _ (by simp [EvS.words]) (fun w hw hm => (ev_plain e w hw 32 hm).1 rfl)⟩

/-- Is the line at that place as it is to be? -/
def lineOk (i : Nat) (l : Word) : Bool := if i < 2 then (cfgV l).isSome else (evV l).isSome
/-- The first line that is not, from place i on. -/
def badAt : Nat → List Word → Option Nat
  | _, [] => none
  | i, l :: r => if lineOk i l = true then badAt (i + 1) r else some i

inductive ResS where
  | bad (at_ : Int) (e : Int)
  | good (a b : CfgS) (l : List EvS)

def evsV : List Word → Option (List EvS)
  | [] => some []
  | l :: r => (evV l).bind fun e => (evsV r).map fun es => e :: es

/-- What a text says: by the program's order of asking. -/
def parseT (t : Word) : ResS :=
  if 65536 < t.length then .bad 0 3 else
  let ps := pieces 10 t
  let ls := ps.dropLast
  let last := ps.getLast?.getD []
  if 2048 < ls.length ∨ (ls.length = 2048 ∧ last ≠ []) then .bad 0 3 else
  match badAt 0 ls with
  | some i => .bad (i + 1) 11
  | none => if ls.length < 2 ∨ last ≠ [] then .bad (ls.length + 1) 11 else
    match ls with
    | x :: y :: r => match cfgV x, cfgV y, evsV r with
      | some a, some b, some es => .good a b es
      | _, _, _ => .bad 0 0
    | _ => .bad 0 0

/-- The text of two ends and events. -/
def printT (a b : CfgS) (l : List EvS) : Word := textL (a.line :: b.line :: l.map EvS.line)

theorem badAt_good (l : List EvS) (h : ∀ e ∈ l, e.ok) : ∀ i, 2 ≤ i → badAt i (l.map EvS.line) = none := by
  induction l with
  | nil => intro i _; rfl
  | cons e r ih =>
    intro i hi
    have he := (evV_iff e.line e).2 ⟨h e List.mem_cons_self, rfl⟩
    simp only [List.map_cons, badAt, lineOk, if_neg (by omega : ¬ i < 2), he, Option.isSome_some, if_true]
    exact ih (fun x hx => h x (List.mem_cons_of_mem _ hx)) (i + 1) (by omega)
theorem evsV_good (l : List EvS) (h : ∀ e ∈ l, e.ok) : evsV (l.map EvS.line) = some l := by
  induction l with
  | nil => rfl
  | cons e r ih =>
    have he := (evV_iff e.line e).2 ⟨h e List.mem_cons_self, rfl⟩
    simp only [List.map_cons, evsV, he, Option.bind_some, ih (fun x hx => h x (List.mem_cons_of_mem _ hx)), Option.map_some]

/-- What is printed is read back. -/
theorem parse_print (a b : CfgS) (l : List EvS) (ha : a.ok) (hb : b.ok) (hl : ∀ e ∈ l, e.ok) (hn : l.length ≤ 2046) (hs : (printT a b l).length ≤ 65536) : parseT (printT a b l) = .good a b l := by
  have hp : pieces 10 (printT a b l) = (a.line :: b.line :: l.map EvS.line) ++ [[]] := by
    have := pieces_text (a.line :: b.line :: l.map EvS.line) (fun x hx => ?_) [] (by simp)
    · rw [List.append_nil] at this; exact this
    · simp only [List.mem_cons, List.mem_map] at hx
      rcases hx with rfl | rfl | ⟨e, _, rfl⟩
      · exact join_plain _ (cfg_plain a)
      · exact join_plain _ (cfg_plain b)
      · exact join_plain _ (ev_plain e)
  have h1 := (cfgV_iff a.line a).2 ⟨ha, rfl⟩
  have h2 := (cfgV_iff b.line b).2 ⟨hb, rfl⟩
  unfold parseT
  rw [if_neg (by omega)]
  simp only [hp, List.dropLast_concat, List.getLast?_concat, Option.getD_some]
  rw [if_neg (by
    rintro (h | ⟨_, h⟩)
    · simp only [List.length_cons, List.length_map] at h; omega
    · exact h rfl)]
  have hbad : badAt 0 (a.line :: b.line :: l.map EvS.line) = none := by
    simp only [badAt, lineOk, h1, h2, Option.isSome_some, if_true]
    simp only [Nat.zero_add]
    exact badAt_good l hl 2 (by omega)
  simp only [hbad]
  rw [if_neg (by simp)]
  simp only [h1, h2, evsV_good l hl]
end Go.Fl

namespace Go.Fl
open Go.Lib

theorem evsV_iff : ∀ (ls : List Word) (es : List EvS), evsV ls = some es ↔ (∀ e ∈ es, e.ok) ∧ ls = es.map EvS.line
  | [], es => by
    simp only [evsV, Option.some.injEq]
    constructor
    · rintro rfl; exact ⟨fun e he => (by cases he), rfl⟩
    · rintro ⟨_, h⟩
      cases es with
      | nil => rfl
      | cons => simp at h
  | l :: r, es => by
    simp only [evsV, Option.bind_eq_some_iff, Option.map_eq_some_iff]
    constructor
    · rintro ⟨e, h1, es', h2, rfl⟩
      obtain ⟨k1, k2⟩ := (evV_iff l e).1 h1
      obtain ⟨m1, m2⟩ := (evsV_iff r es').1 h2
      refine ⟨fun x hx => ?_, by rw [k2, m2]; rfl⟩
      rcases List.mem_cons.1 hx with rfl | hx
      · exact k1
      · exact m1 x hx
    · rintro ⟨h1, h2⟩
      cases es with
      | nil => simp at h2
      | cons e es' =>
        simp only [List.map_cons, List.cons.injEq] at h2
        exact ⟨e, (evV_iff l e).2 ⟨h1 e List.mem_cons_self, h2.1⟩, es', (evsV_iff r es').2 ⟨fun x hx => h1 x (List.mem_cons_of_mem _ hx), h2.2⟩, rfl⟩

theorem print_parse (t : Word) (a b : CfgS) (l : List EvS) (h : parseT t = .good a b l) : t = printT a b l ∧ a.ok ∧ b.ok ∧ (∀ e ∈ l, e.ok) ∧ t.length ≤ 65536 ∧ l.length ≤ 2046 := by
  unfold parseT at h
  split at h
  · cases h
  · rename_i hlen
    simp only at h
    split at h
    · cases h
    · rename_i hmany
      split at h
      · cases h
      · split at h
        · cases h
        · rename_i hlast
          split at h
          · rename_i x y r hps
            split at h
            · rename_i a' b' es h1 h2 h3
              cases h
              obtain ⟨k1, rfl⟩ := (cfgV_iff x a).1 h1
              obtain ⟨k2, rfl⟩ := (cfgV_iff y b).1 h2
              obtain ⟨k3, rfl⟩ := (evsV_iff r l).1 h3
              have htp := text_pieces t
              obtain ⟨w, ws, e⟩ := pieces_ne 10 t
              have hl : (pieces 10 t).getLast?.getD [] = (pieces 10 t).getLast (by rw [e]; simp) := by
                rw [List.getLast?_eq_some_getLast (by rw [e]; simp)]; rfl
              have hl0 : (pieces 10 t).getLast?.getD [] = [] := by
                by_cases hx : (pieces 10 t).getLast?.getD [] = []
                · exact hx
                · exact absurd (.inr hx) hlast
              rw [← hl, hl0, List.append_nil, hps] at htp
              have hcount : ¬ 2048 < (pieces 10 t).dropLast.length := fun hx => hmany (.inl hx)
              rw [hps] at hcount
              simp only [List.length_cons, List.length_map] at hcount
              exact ⟨htp.symm, k1, k2, k3, by omega, by omega⟩
            · cases h
          · cases h
end Go.Fl

namespace Go.Fl
open Go.Lib

theorem badAt_app (l : List EvS) (h : ∀ e ∈ l, e.ok) (bad : Word) (rest : List Word) (hb : evV bad = none) : ∀ i, 2 ≤ i → badAt i (l.map EvS.line ++ bad :: rest) = some (i + l.length) := by
  induction l with
  | nil =>
    intro i hi
    simp only [List.map_nil, List.nil_append, badAt, lineOk, if_neg (by omega : ¬ i < 2), hb, Option.isSome_none, Bool.false_eq_true, if_false, List.length_nil, Nat.add_zero]
  | cons e r ih =>
    intro i hi
    have he := (evV_iff e.line e).2 ⟨h e List.mem_cons_self, rfl⟩
    simp only [List.map_cons, List.cons_append, badAt, lineOk, if_neg (by omega : ¬ i < 2), he, Option.isSome_some, if_true]
    rw [ih (fun x hx => h x (List.mem_cons_of_mem _ hx)) (i + 1) (by omega), List.length_cons]
    congr 1; omega

theorem parse_bad (a b : CfgS) (l : List EvS) (bad : Word) (rest : List Word) (ha : a.ok) (hb : b.ok) (hl : ∀ e ∈ l, e.ok) (hbad : evV bad = none) (hb10 : (10 : UInt8) ∉ bad) (hr10 : ∀ x ∈ rest, (10 : UInt8) ∉ x)
    (hn : l.length + rest.length ≤ 2000) (hs : (textL (a.line :: b.line :: (l.map EvS.line ++ bad :: rest))).length ≤ 65536) :
    parseT (textL (a.line :: b.line :: (l.map EvS.line ++ bad :: rest))) = .bad (l.length + 3) 11 := by
  have hp : pieces 10 (textL (a.line :: b.line :: (l.map EvS.line ++ bad :: rest))) = (a.line :: b.line :: (l.map EvS.line ++ bad :: rest)) ++ [[]] := by
    have := pieces_text (a.line :: b.line :: (l.map EvS.line ++ bad :: rest)) (fun x hx => ?_) [] (by simp)
    · rw [List.append_nil] at this; exact this
    · simp only [List.mem_cons, List.mem_append, List.mem_map] at hx
      rcases hx with rfl | rfl | ⟨e, _, rfl⟩ | rfl | hx
      · exact join_plain _ (cfg_plain a)
      · exact join_plain _ (cfg_plain b)
      · exact join_plain _ (ev_plain e)
      · exact hb10
      · exact hr10 x hx
  have h1 := (cfgV_iff a.line a).2 ⟨ha, rfl⟩
  have h2 := (cfgV_iff b.line b).2 ⟨hb, rfl⟩
  unfold parseT
  rw [if_neg (by omega)]
  simp only [hp, List.dropLast_concat, List.getLast?_concat, Option.getD_some]
  rw [if_neg (by
    rintro (h | ⟨_, h⟩)
    · simp only [List.length_cons, List.length_append, List.length_map] at h; omega
    · exact h rfl)]
  have hbd : badAt 0 (a.line :: b.line :: (l.map EvS.line ++ bad :: rest)) = some (2 + l.length) := by
    simp only [badAt, lineOk, h1, h2, Option.isSome_some, if_true]
    simp only [Nat.zero_add]
    exact badAt_app l hl bad rest hbad 2 (by omega)
  simp only [hbd]
  congr 1
  push_cast
  omega

/-- The lines that ScriptLines puts in. -/
def badLines : List Word := [[], [111, 112, 101, 110], [79, 80, 69, 78, 32, 48], [32, 111, 112, 101, 110, 32, 48], [115, 101, 110, 100, 32, 48, 32, 51, 51], [112, 97, 115, 115, 32, 48, 32, 48, 49], [115, 112, 111, 105, 108, 32, 48, 32, 48],
  [100, 114, 97, 119, 32, 48, 32, 97, 98, 99], [116, 105, 99, 107, 32, 48, 32, 48], [101, 110, 100, 32, 48]]
theorem canon_01 : canonV [48, 49] = none := by
  cases h : canonV [48, 49] with
  | none => rfl
  | some v =>
    have h1 := (canonV_iff' _ v).1 h
    have h2 : parseIntB 64 [48, 49] = .ok 1 := by rfl
    have h3 : parseIntB 64 (itoa v) = .ok v := parseIntB_itoa v h1.1.1 h1.1.2
    rw [← h1.2, h2] at h3
    cases h3
    have := h1.2
    rw [itoa_one] at this
    cases this
theorem canon_0 : canonV [48] = some 0 := (canonV_zero _).2 rfl
theorem bad_lines : ∀ w ∈ badLines, evV w = none ∧ (10 : UInt8) ∉ w := by
  intro w hw
  simp only [badLines, List.mem_cons, List.mem_nil_iff, or_false] at hw
  rcases hw with rfl | rfl | rfl | rfl | rfl | rfl | rfl | rfl | rfl | rfl
  · exact ⟨rfl, by decide⟩
  · exact ⟨rfl, by decide⟩
  · exact ⟨rfl, by decide⟩
  · exact ⟨rfl, by decide⟩
  · refine ⟨?_, by decide⟩
    show (nameV [115, 101, 110, 100]).bind (fun d => (canonV [48]).bind fun e => (tailV (evKind d) [[51, 51]]).map fun t => (⟨d, e, t.1, t.2.1, t.2.2⟩ : EvS)) = none
    rw [canon_0]; rfl
  · refine ⟨?_, by decide⟩
    show (nameV [112, 97, 115, 115]).bind (fun d => (canonV [48]).bind fun e => (tailV (evKind d) [[48, 49]]).map fun t => (⟨d, e, t.1, t.2.1, t.2.2⟩ : EvS)) = none
    rw [canon_0]
    show (tailV 1 [[48, 49]]).map (fun t => (⟨5, 0, t.1, t.2.1, t.2.2⟩ : EvS)) = none
    simp only [tailV, canon_01, Option.map_none]
  · refine ⟨?_, by decide⟩
    show (nameV [115, 112, 111, 105, 108]).bind (fun d => (canonV [48]).bind fun e => (tailV (evKind d) [[48]]).map fun t => (⟨d, e, t.1, t.2.1, t.2.2⟩ : EvS)) = none
    rw [canon_0]; rfl
  · refine ⟨?_, by decide⟩
    show (nameV [100, 114, 97, 119]).bind (fun d => (canonV [48]).bind fun e => (tailV (evKind d) [[97, 98, 99]]).map fun t => (⟨d, e, t.1, t.2.1, t.2.2⟩ : EvS)) = none
    rw [canon_0]; rfl
  · refine ⟨?_, by decide⟩
    show (nameV [116, 105, 99, 107]).bind (fun d => (canonV [48]).bind fun e => (tailV (evKind d) [[48]]).map fun t => (⟨d, e, t.1, t.2.1, t.2.2⟩ : EvS)) = none
    rw [canon_0]; rfl
  · exact ⟨rfl, by decide⟩
end Go.Fl
