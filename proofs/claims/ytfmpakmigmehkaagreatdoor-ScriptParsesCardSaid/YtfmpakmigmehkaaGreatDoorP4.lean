/- An end's line, an event's line: what is read is what would be printed (plain, no program). -/
import Derived.Test.YtfmpakmigmehkaaGreatDoorP1
set_option linter.unusedVariables false
set_option linter.unusedSimpArgs false
namespace Go.Fl
open Go.Lib

abbrev Word := List UInt8
def inI (n : Int) : Prop := -9223372036854775808 ≤ n ∧ n ≤ 9223372036854775807
theorem canonV_iff' (l : Word) (v : Int) : canonV l = some v ↔ inI v ∧ l = itoa v := by
  rw [canonV_iff]
  exact ⟨fun ⟨a, b, c⟩ => ⟨⟨a, b⟩, c.symm⟩, fun ⟨⟨a, b⟩, c⟩ => ⟨a, b, c.symm⟩⟩
theorem rawV_iff' (l b : Word) : rawV' l = some b ↔ l = hexL b := by
  rw [rawV_iff]; exact ⟨Eq.symm, Eq.symm⟩

structure CfgS where
  server : Bool
  name : Word
  secret : Word
  mru : Int
  pfc : Bool
  acfc : Bool
  accm : Int
  mrru : Int
  short : Bool
  bits : Int
  stl : Bool
  mppc : Bool
  defl : Bool
  must : Bool
  sym : Bool
  tmo : Int
  tries : Int
  frag : Int

def wEnd : Word := [101, 110, 100]
def CfgS.words (c : CfgS) : List Word := [wEnd, bitL c.server, hexL c.name, hexL c.secret, itoa c.mru, bitL c.pfc, bitL c.acfc, itoa c.accm, itoa c.mrru, bitL c.short, itoa c.bits, bitL c.stl, bitL c.mppc, bitL c.defl, bitL c.must, bitL c.sym, itoa c.tmo, itoa c.tries, itoa c.frag]
def CfgS.ok (c : CfgS) : Prop := inI c.mru ∧ (0 ≤ c.accm ∧ c.accm ≤ 4294967295) ∧ inI c.mrru ∧ inI c.bits ∧ inI c.tmo ∧ inI c.tries ∧ inI c.frag

def accmV (l : Word) : Option Int := (canonV l).bind fun n => if 0 ≤ n ∧ n ≤ 4294967295 then some n else none
theorem accmV_iff (l : Word) (v : Int) : accmV l = some v ↔ (0 ≤ v ∧ v ≤ 4294967295) ∧ l = itoa v := by
  unfold accmV
  rw [Option.bind_eq_some_iff]
  constructor
  · rintro ⟨n, h1, h2⟩
    split at h2
    · rename_i h3
      cases h2
      exact ⟨h3, ((canonV_iff' l v).1 h1).2⟩
    · cases h2
  · rintro ⟨h1, h2⟩
    exact ⟨v, (canonV_iff' l v).2 ⟨⟨by omega, by omega⟩, h2⟩, by rw [if_pos h1]⟩

/-- An end's line, by its words. -/
def parseCfg : List Word → Option CfgS
  | [w0, w1, w2, w3, w4, w5, w6, w7, w8, w9, w10, w11, w12, w13, w14, w15, w16, w17, w18] =>
    if w0 = wEnd then
      (flagV w1).bind fun a1 => (rawV' w2).bind fun a2 => (rawV' w3).bind fun a3 => (canonV w4).bind fun a4 => (flagV w5).bind fun a5 => (flagV w6).bind fun a6 => (accmV w7).bind fun a7 => (canonV w8).bind fun a8 =>
      (flagV w9).bind fun a9 => (canonV w10).bind fun a10 => (flagV w11).bind fun a11 => (flagV w12).bind fun a12 => (flagV w13).bind fun a13 => (flagV w14).bind fun a14 => (flagV w15).bind fun a15 =>
      (canonV w16).bind fun a16 => (canonV w17).bind fun a17 => (canonV w18).bind fun a18 => some ⟨a1, a2, a3, a4, a5, a6, a7, a8, a9, a10, a11, a12, a13, a14, a15, a16, a17, a18⟩
    else none
  | _ => none

theorem parseCfg_iff (ws : List Word) (c : CfgS) : parseCfg ws = some c ↔ c.ok ∧ ws = c.words := by
  constructor
  · intro h
    unfold parseCfg at h
    split at h
    · split at h
      · rename_i he
        simp only [Option.bind_eq_some_iff, Option.some.injEq] at h
        obtain ⟨a1, h1, a2, h2, a3, h3, a4, h4, a5, h5, a6, h6, a7, h7, a8, h8, a9, h9, a10, h10, a11, h11, a12, h12, a13, h13, a14, h14, a15, h15, a16, h16, a17, h17, a18, h18, rfl⟩ := h
        rw [flagV_iff] at h1 h5 h6 h9 h11 h12 h13 h14 h15
        rw [rawV_iff'] at h2 h3
        rw [canonV_iff'] at h4 h8 h10 h16 h17 h18
        rw [accmV_iff] at h7
        refine ⟨⟨h4.1, h7.1, h8.1, h10.1, h16.1, h17.1, h18.1⟩, ?_⟩
        simp only [CfgS.words]
        rw [he, h1, h2, h3, h4.2, h5, h6, h7.2, h8.2, h9, h10.2, h11, h12, h13, h14, h15, h16.2, h17.2, h18.2]
      · cases h
    · cases h
  · rintro ⟨⟨k1, k2, k3, k4, k5, k6, k7⟩, rfl⟩
    simp only [CfgS.words, parseCfg, if_true]
    have f := fun b => (flagV_iff (bitL b) b).2 rfl
    have r := fun b => (rawV_iff' (hexL b) b).2 rfl
    have n := fun v (h : inI v) => (canonV_iff' (itoa v) v).2 ⟨h, rfl⟩
    rw [f, r, r, n _ k1, f, f, (accmV_iff _ _).2 ⟨k2, rfl⟩, n _ k3, f, n _ k4, f, f, f, f, f, n _ k5, n _ k6, n _ k7]
    rfl
end Go.Fl

namespace Go.Fl
open Go.Lib

/-- The events' words: open, close, send, tick, pass, drop, double, late, spoil, forge, draw. -/
def evName : Nat → Word
  | 1 => [111, 112, 101, 110]
  | 2 => [99, 108, 111, 115, 101]
  | 3 => [115, 101, 110, 100]
  | 4 => [116, 105, 99, 107]
  | 5 => [112, 97, 115, 115]
  | 6 => [100, 114, 111, 112]
  | 7 => [100, 111, 117, 98, 108, 101]
  | 8 => [108, 97, 116, 101]
  | 9 => [115, 112, 111, 105, 108]
  | 10 => [102, 111, 114, 103, 101]
  | 11 => [100, 114, 97, 119]
  | _ => []
/-- What an event's line has behind the end: 0 nothing, 1 a number, 2 a protocol and bytes, 3 a number and bytes, 4 bytes. -/
def evKind : Nat → Nat
  | 3 => 2
  | 5 => 1
  | 6 => 1
  | 7 => 1
  | 8 => 1
  | 9 => 3
  | 10 => 4
  | 11 => 4
  | _ => 0

structure EvS where
  do_ : Nat
  end_ : Int
  n : Int
  proto : Int
  b : Word

def EvS.tail (e : EvS) : List Word := match evKind e.do_ with
  | 1 => [itoa e.n]
  | 2 => [itoa e.proto, hexL e.b]
  | 3 => [itoa e.n, hexL e.b]
  | 4 => [hexL e.b]
  | _ => []
def EvS.words (e : EvS) : List Word := evName e.do_ :: itoa e.end_ :: e.tail
/-- An event that bears just what its line has. -/
def EvS.ok (e : EvS) : Prop := (1 ≤ e.do_ ∧ e.do_ ≤ 11) ∧ inI e.end_ ∧ match evKind e.do_ with
  | 1 => inI e.n ∧ e.proto = 0 ∧ e.b = []
  | 2 => inI e.proto ∧ e.n = 0
  | 3 => inI e.n ∧ e.proto = 0
  | 4 => e.n = 0 ∧ e.proto = 0
  | _ => e.n = 0 ∧ e.proto = 0 ∧ e.b = []

def nameIn (w : Word) : List Nat → Option Nat
  | [] => none
  | d :: r => if evName d = w then some d else nameIn w r
def nameV (w : Word) : Option Nat := nameIn w [1, 2, 3, 4, 5, 6, 7, 8, 9, 10, 11]
theorem nameIn_some {w : Word} : ∀ {l : List Nat} {d : Nat}, nameIn w l = some d → d ∈ l ∧ evName d = w
  | [], d, h => by cases h
  | a :: r, d, h => by
    unfold nameIn at h
    split at h
    · rename_i h1; cases h; exact ⟨List.mem_cons_self, h1⟩
    · obtain ⟨h1, h2⟩ := nameIn_some h; exact ⟨List.mem_cons_of_mem _ h1, h2⟩
theorem nameV_iff (w : Word) (d : Nat) : nameV w = some d ↔ (1 ≤ d ∧ d ≤ 11) ∧ w = evName d := by
  constructor
  · intro h
    obtain ⟨h1, h2⟩ := nameIn_some h
    simp only [List.mem_cons, List.mem_nil_iff, or_false] at h1
    exact ⟨by omega, h2.symm⟩
  · rintro ⟨h1, rfl⟩
    have : d = 1 ∨ d = 2 ∨ d = 3 ∨ d = 4 ∨ d = 5 ∨ d = 6 ∨ d = 7 ∨ d = 8 ∨ d = 9 ∨ d = 10 ∨ d = 11 := by omega
    rcases this with rfl | rfl | rfl | rfl | rfl | rfl | rfl | rfl | rfl | rfl | rfl <;> rfl

/-- What stands behind the end. -/
def tailV (k : Nat) (ws : List Word) : Option (Int × Int × Word) := match k, ws with
  | 1, [w] => (canonV w).map fun n => (n, 0, [])
  | 2, [w, x] => (canonV w).bind fun p => (rawV' x).map fun b => (0, p, b)
  | 3, [w, x] => (canonV w).bind fun n => (rawV' x).map fun b => (n, 0, b)
  | 4, [x] => (rawV' x).map fun b => (0, 0, b)
  | 1, _ => none
  | 2, _ => none
  | 3, _ => none
  | 4, _ => none
  | _, [] => some (0, 0, [])
  | _, _ => none
def parseEv : List Word → Option EvS
  | w :: x :: r => (nameV w).bind fun d => (canonV x).bind fun e => (tailV (evKind d) r).map fun t => ⟨d, e, t.1, t.2.1, t.2.2⟩
  | _ => none

theorem kind_le (d : Nat) : evKind d ≤ 4 := by unfold evKind; split <;> omega

theorem tailV_iff (k : Nat) (hk : k ≤ 4) (ws : List Word) (n p : Int) (b : Word) : tailV k ws = some (n, p, b) ↔ match k with
  | 1 => (inI n ∧ p = 0 ∧ b = []) ∧ ws = [itoa n]
  | 2 => (inI p ∧ n = 0) ∧ ws = [itoa p, hexL b]
  | 3 => (inI n ∧ p = 0) ∧ ws = [itoa n, hexL b]
  | 4 => (n = 0 ∧ p = 0) ∧ ws = [hexL b]
  | _ => (n = 0 ∧ p = 0 ∧ b = []) ∧ ws = [] := by
  have hk' : k = 0 ∨ k = 1 ∨ k = 2 ∨ k = 3 ∨ k = 4 := by omega
  rcases hk' with rfl | rfl | rfl | rfl | rfl
  · match ws with
    | [] => simp [tailV]; constructor <;> rintro ⟨rfl, rfl, rfl⟩ <;> simp
    | _ :: _ => simp [tailV]
  · match ws with
    | [] => simp [tailV]
    | [w] =>
      simp only [tailV, Option.map_eq_some_iff, Prod.mk.injEq, canonV_iff', List.cons.injEq, and_true]
      constructor
      · rintro ⟨a, ⟨h1, h2⟩, rfl, rfl, rfl⟩; exact ⟨⟨h1, rfl, rfl⟩, h2⟩
      · rintro ⟨⟨h1, rfl, rfl⟩, h2⟩; exact ⟨n, ⟨h1, h2⟩, rfl, rfl, rfl⟩
    | _ :: _ :: _ => simp [tailV]
  · match ws with
    | [] => simp [tailV]
    | [_] => simp [tailV]
    | [w, x] =>
      simp only [tailV, Option.bind_eq_some_iff, Option.map_eq_some_iff, Prod.mk.injEq, canonV_iff', rawV_iff', List.cons.injEq, and_true]
      constructor
      · rintro ⟨a, ⟨h1, h2⟩, c, h3, rfl, rfl, rfl⟩; exact ⟨⟨h1, rfl⟩, h2, h3⟩
      · rintro ⟨⟨h1, rfl⟩, h2, h3⟩; exact ⟨p, ⟨h1, h2⟩, b, h3, rfl, rfl, rfl⟩
    | _ :: _ :: _ :: _ => simp [tailV]
  · match ws with
    | [] => simp [tailV]
    | [_] => simp [tailV]
    | [w, x] =>
      simp only [tailV, Option.bind_eq_some_iff, Option.map_eq_some_iff, Prod.mk.injEq, canonV_iff', rawV_iff', List.cons.injEq, and_true]
      constructor
      · rintro ⟨a, ⟨h1, h2⟩, c, h3, rfl, rfl, rfl⟩; exact ⟨⟨h1, rfl⟩, h2, h3⟩
      · rintro ⟨⟨h1, rfl⟩, h2, h3⟩; exact ⟨n, ⟨h1, h2⟩, b, h3, rfl, rfl, rfl⟩
    | _ :: _ :: _ :: _ => simp [tailV]
  · match ws with
    | [] => simp [tailV]
    | [x] =>
      simp only [tailV, Option.map_eq_some_iff, Prod.mk.injEq, rawV_iff', List.cons.injEq, and_true]
      constructor
      · rintro ⟨a, h1, rfl, rfl, rfl⟩; exact ⟨⟨rfl, rfl⟩, h1⟩
      · rintro ⟨⟨rfl, rfl⟩, h1⟩; exact ⟨b, h1, rfl, rfl, rfl⟩
    | _ :: _ :: _ => simp [tailV]

theorem parseEv_iff (ws : List Word) (e : EvS) : parseEv ws = some e ↔ e.ok ∧ ws = e.words := by
  obtain ⟨d, en, n, p, b⟩ := e
  have hk := kind_le d
  constructor
  · intro h
    match ws, h with
    | w :: x :: r, h =>
      simp only [parseEv, Option.bind_eq_some_iff, Option.map_eq_some_iff, EvS.mk.injEq] at h
      obtain ⟨d', h1, e', h2, ⟨t1, t2, t3⟩, h3, rfl, rfl, rfl, rfl, rfl⟩ := h
      rw [nameV_iff] at h1
      rw [canonV_iff'] at h2
      have h4 := (tailV_iff _ hk r t1 t2 t3).1 h3
      simp only [EvS.ok, EvS.words, EvS.tail]
      rw [h1.2, h2.2]
      generalize evKind d' = k at *
      have hk' : k = 0 ∨ k = 1 ∨ k = 2 ∨ k = 3 ∨ k = 4 := by omega
      rcases hk' with rfl | rfl | rfl | rfl | rfl <;> exact ⟨⟨h1.1, h2.1, h4.1⟩, by rw [h4.2]; rfl⟩
  · rintro ⟨⟨h1, h2, h3⟩, rfl⟩
    simp only [EvS.words, parseEv, EvS.tail] at h3 ⊢
    rw [(nameV_iff _ d).2 ⟨h1, rfl⟩, (canonV_iff' _ en).2 ⟨h2, rfl⟩]
    simp only [Option.bind_some]
    have h4 : tailV (evKind d) (match evKind d with
      | 1 => [itoa n]
      | 2 => [itoa p, hexL b]
      | 3 => [itoa n, hexL b]
      | 4 => [hexL b]
      | _ => []) = some (n, p, b) := by
      rw [tailV_iff _ hk]
      try simp only at h3
      generalize evKind d = k at *
      have hk' : k = 0 ∨ k = 1 ∨ k = 2 ∨ k = 3 ∨ k = 4 := by omega
      rcases hk' with rfl | rfl | rfl | rfl | rfl <;> exact ⟨h3, rfl⟩
    rw [h4]
    rfl
end Go.Fl

namespace Go.Fl
open Go.Lib

/-- Words with blanks between. -/
def joinW : List Word → Word
  | [] => []
  | [w] => w
  | w :: x :: r => w ++ 32 :: joinW (x :: r)
/-- Lines, each with its end. -/
def textL (ls : List Word) : Word := ls.flatMap fun l => l ++ [10]

theorem pieces_app (c : UInt8) (w : Word) (h : c ∉ w) (r : Word) : pieces c (w ++ c :: r) = w :: pieces c r := by
  induction w with
  | nil => simp [pieces]
  | cons b w ih =>
    have hb : b ≠ c := fun e => h (by rw [e]; exact List.mem_cons_self)
    have hw : c ∉ w := fun e => h (List.mem_cons_of_mem _ e)
    simp only [List.cons_append, pieces, if_neg hb, ih hw]
theorem pieces_none (c : UInt8) (w : Word) (h : c ∉ w) : pieces c w = [w] := by
  induction w with
  | nil => rfl
  | cons b w ih =>
    have hb : b ≠ c := fun e => h (by rw [e]; exact List.mem_cons_self)
    have hw : c ∉ w := fun e => h (List.mem_cons_of_mem _ e)
    simp only [pieces, if_neg hb, ih hw]
theorem pieces_no (c : UInt8) : ∀ (l : Word), ∀ w ∈ pieces c l, c ∉ w
  | [], w, hw => by simp [pieces] at hw; subst hw; simp
  | b :: r, w, hw => by
    have ih := pieces_no c r
    unfold pieces at hw
    split at hw
    · rcases List.mem_cons.1 hw with rfl | h
      · simp
      · exact ih w h
    · rename_i hb
      obtain ⟨x, xs, e⟩ := pieces_ne c r
      rw [e] at hw ih
      simp only at hw
      rcases List.mem_cons.1 hw with rfl | h
      · intro hm
        rcases List.mem_cons.1 hm with e' | hm
        · exact hb e'.symm
        · exact ih x List.mem_cons_self hm
      · exact ih w (List.mem_cons_of_mem _ h)

theorem pieces_join (ws : List Word) (hne : ws ≠ []) (h : ∀ w ∈ ws, (32 : UInt8) ∉ w) : pieces 32 (joinW ws) = ws := by
  match ws, hne with
  | [w], _ => exact pieces_none 32 w (h w List.mem_cons_self)
  | w :: x :: r, _ =>
    have ih := pieces_join (x :: r) (by simp) (fun y hy => h y (List.mem_cons_of_mem _ hy))
    simp only [joinW]
    rw [pieces_app 32 w (h w List.mem_cons_self), ih]
theorem join_pieces (l : Word) : joinW (pieces 32 l) = l := by
  induction l with
  | nil => rfl
  | cons b r ih =>
    obtain ⟨w, ws, e⟩ := pieces_ne 32 r
    simp only [pieces]
    split
    · rename_i hb
      rw [e] at ih ⊢
      simp only [joinW, List.nil_append]
      rw [ih, hb]
    · rw [e] at ih ⊢
      simp only
      cases ws with
      | nil => simp only [joinW] at ih ⊢; rw [ih]
      | cons x xs => simp only [joinW, List.cons_append] at ih ⊢; rw [ih]

theorem pieces_text (ls : List Word) (h : ∀ l ∈ ls, (10 : UInt8) ∉ l) (last : Word) (hl : (10 : UInt8) ∉ last) : pieces 10 (textL ls ++ last) = ls ++ [last] := by
  induction ls with
  | nil => exact pieces_none 10 last hl
  | cons l r ih =>
    have := ih (fun y hy => h y (List.mem_cons_of_mem _ hy))
    simp only [textL, List.flatMap_cons, List.append_assoc, List.cons_append, List.nil_append] at this ⊢
    rw [pieces_app 10 l (h l List.mem_cons_self), this]
theorem text_pieces (t : Word) : textL (pieces 10 t).dropLast ++ (pieces 10 t).getLast (by obtain ⟨w, ws, e⟩ := pieces_ne 10 t; rw [e]; simp) = t := by
  induction t with
  | nil => rfl
  | cons b r ih =>
    obtain ⟨w, ws, e⟩ := pieces_ne 10 r
    by_cases hb : b = 10
    · have hp : pieces 10 (b :: r) = [] :: pieces 10 r := by simp only [pieces, if_pos hb]
      simp only [hp, e] at ih ⊢
      rw [List.dropLast_cons_of_ne_nil (by simp), List.getLast_cons (by simp)]
      simp only [textL, List.flatMap_cons, List.nil_append, List.append_assoc] at ih ⊢
      rw [ih, hb]; rfl
    · have hp : pieces 10 (b :: r) = (b :: w) :: ws := by simp only [pieces, if_neg hb, e]
      simp only [hp, e] at ih ⊢
      cases ws with
      | nil => simp only [List.dropLast_singleton, List.getLast_singleton, textL, List.flatMap_nil, List.nil_append] at ih ⊢; rw [ih]
      | cons x xs =>
        rw [List.dropLast_cons_of_ne_nil (by simp), List.getLast_cons (by simp)] at ih ⊢
        simp only [textL, List.flatMap_cons, List.cons_append] at ih ⊢
        rw [ih]
end Go.Fl
