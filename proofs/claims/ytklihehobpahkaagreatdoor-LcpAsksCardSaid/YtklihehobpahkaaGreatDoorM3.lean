/- The contract of utf8.DecodeRuneInString, laid off the library's shelf at this seat. -/
import Derived.Test.YtklihehobpahkaaGreatDoorM1
import Derived.Shelf.Unicode.DecodeAny
set_option linter.unusedVariables false
set_option linter.unusedSimpArgs false
set_option maxRecDepth 20000
noncomputable section M3S
namespace Go.Proofs.YtklihehobpahkaaGreatDoor
open Go Go.Fl Go.Proofs

def lays197_ren : Go.Shelf.Ren where
  f := fun | 197 => 71 | 260 => 84 | n => n
  t := fun | 9 => 9 | 21 => 21 | 3 => 3 | 4 => 4 | 5 => 5 | 105 => 124 | 119 => 172 | 0 => 0 | 46 => 83 | 139 => 175 | 138 => 174 | n => n
  g := fun | 3 => 1 | 4 => 2 | n => n

theorem lays197 : Go.Proofs.Lays.n197 Tryz.prog lays197_ren where
  mixed := by kernel_rfl
  f197 := Tryz.func71.trans (congrArg some (by kernel_rfl))
  f260 := Tryz.func84.trans (congrArg some (by kernel_rfl))
  t0 := Tryz.underlying0
  a0 := Tryz.isAgg0
  z0 := Tryz.sizeOf0
  v0 := Tryz.zeroValue0
  t3 := Tryz.underlying3
  a3 := Tryz.isAgg3
  z3 := Tryz.sizeOf3
  v3 := Tryz.zeroValue3
  t4 := Tryz.underlying4
  a4 := Tryz.isAgg4
  z4 := Tryz.sizeOf4
  v4 := Tryz.zeroValue4
  t5 := Tryz.underlying5
  a5 := Tryz.isAgg5
  z5 := Tryz.sizeOf5
  v5 := Tryz.zeroValue5
  t9 := Tryz.underlying9
  a9 := Tryz.isAgg9
  z9 := Tryz.sizeOf9
  v9 := Tryz.zeroValue9
  t21 := Tryz.underlying21
  a21 := Tryz.isAgg21
  z21 := Tryz.sizeOf21
  v21 := Tryz.zeroValue21
  t46 := Tryz.underlying83
  a46 := Tryz.isAgg83
  z46 := Tryz.sizeOf83
  v46 := Tryz.zeroValue83
  t105 := Tryz.underlying124
  a105 := Tryz.isAgg124
  z105 := Tryz.sizeOf124
  v105 := Tryz.zeroValue124
  t119 := Tryz.underlying172
  a119 := Tryz.isAgg172
  z119 := Tryz.sizeOf172
  t138 := Tryz.underlying174
  a138 := Tryz.isAgg174
  z138 := Tryz.sizeOf174
  v138 := Tryz.zeroValue174
  t139 := Tryz.underlying175
  a139 := Tryz.isAgg175
  z139 := Tryz.sizeOf175
  v139 := Tryz.zeroValue175
  g3 := by kernel_rfl
  g4 := by kernel_rfl

set_option maxRecDepth 100000 in
theorem first_ok : ∀ c : Fin 256, firstTab[c.val]? = some (Lib.firstT c.val) := by decide
set_option maxRecDepth 100000 in
theorem accept_ok : ∀ c : Fin 16, acceptTab[2 * c.val]? = some (Lib.accLo c.val) ∧ acceptTab[2 * c.val + 1]? = some (Lib.accHi c.val) := by decide

theorem cell_u8 {w : World} {g : Nat} {l : List Nat} {e : TypeId} {fz : Nat × Nat} (h : w.heap[g]? = some (.cells (u8vals l).toArray e fz)) {i n : Nat} (hi : l[i]? = some n) : w.cell? ⟨g, i, none⟩ = some (.int .u8 n) := by
  simp [World.cell?, h, u8vals, hi]

theorem tabs_of {w : World} {I : Nat → Prop} (h : GlobOk I w.heap) : Lib.Utf8Tabs 1 2 w := by
  obtain ⟨_, e1, f1, h1⟩ := h 1 _ rfl
  obtain ⟨_, e2, f2, h2⟩ := h 2 _ rfl
  exact ⟨fun c hc => cell_u8 h1 (first_ok ⟨c, hc⟩), fun i hi => ⟨cell_u8 h2 (accept_ok ⟨i, hi⟩).1, cell_u8 h2 (accept_ok ⟨i, hi⟩).2⟩⟩

theorem rel_below {ρ : Rho} {I : Nat → Prop} {H : Heap} {w w1 : World} (h : Rel ρ I H w.heap) (hb : Go.RowKit.Below w.heap.size w w1) :
    Rel ρ I H w1.heap ∧ Ext ρ I w ρ I w1 := by
  have hold : ∀ (cb : Nat) (o : Obj), w.heap[cb]? = some o → w1.heap[cb]? = some o := fun cb o hc => by
    rw [hb.block cb (Array.getElem?_eq_some_iff.1 hc).1]; exact hc
  have hx : Ext ρ I w ρ I w1 :=
    { rho := fun _ _ h => h
      imm := fun _ h => h
      size := hb.size
      kept := fun cb hcb => hb.block cb (h.irng cb hcb)
      blocks := fun cb c e fz hcb => ⟨c, fz, hold _ _ hcb, rfl⟩
      frame := fun cb hlt _ => hb.block cb hlt
      newI := fun _ h => .inl h
      newR := fun _ _ _ h => .inl h
      os := hb.os
      tape := hb.tape
      output := hb.output }
  refine ⟨⟨?_, h.inj, h.rng, ?_, ?_, h.glob.ext hx.imm hx.kept⟩, hx⟩
  · intro b cs hb'
    rcases h.live b cs hb' with h2 | ⟨cb, base, c', e', h2, h3, ⟨fz4, hf4, h4⟩, h5, h6⟩
    · exact .inl h2
    · exact .inr ⟨cb, base, c', e', h2, h3, ⟨fz4, hf4, hold _ _ h4⟩, h5, fun i x hx' => (h6 i x hx').mono hx⟩
  · intro b cb base hb'
    obtain ⟨c', e', fz', hc'⟩ := h.at_ _ _ _ hb'
    exact ⟨c', e', fz', hold _ _ hc'⟩
  · intro cb hcb; have := h.irng _ hcb; have := hx.size; omega

theorem decGo_eq (s : ByteArray) (h : 0 < s.size) : Lib.decodeGo s = decD s := by
  unfold Lib.decodeGo decD
  rw [if_neg (by omega), Lib.decode_at]
  rfl

theorem dec_s (s : ByteArray) (h : 0 < s.size) (H : Heap) : SCalls Tryz.prog 71 [.sc (.string s)] H (.tup [.sc (.int .i32 (decD s).1), .int (decD s).2]) H := by
  refine ⟨Tryz.call71, Nat.le_refl _, fun ρ I w cargs hrel hargs => ?_⟩
  obtain ⟨u, rfl⟩ : ∃ u, cargs = #[u] := by
    have := hargs.1
    match cargs, this with
    | ⟨[u]⟩, _ => exact ⟨u, rfl⟩
  have hu := hargs.2 0 _ rfl
  cases hu.eq_sc
  refine (Any.utf8_DecodeRuneInString lays197 s w (tabs_of hrel.glob)).mono ?_
  rintro e w' ⟨rfl, hb⟩
  obtain ⟨r1, x1⟩ := rel_below hrel hb
  rw [decGo_eq s h]
  refine ⟨_, ρ, I, rfl, .tup rfl (fun i x hx => ?_), r1, x1⟩
  match i with
  | 0 => simp at hx; subst hx; exact .sc _
  | 1 => simp at hx; subst hx; exact .sc _
  | i + 2 => simp at hx
end Go.Proofs.YtklihehobpahkaaGreatDoor
end M3S

set_option maxRecDepth 20000
noncomputable section M4S
namespace Go.Proofs.YtklihehobpahkaaGreatDoor
open Go Go.Fl Go.Proofs

/-- How many bytes a letter has by its first one, and what that bears. -/
def cls (b : Nat) : Nat × Nat := if 194 ≤ b ∧ b ≤ 223 then (2, b % 32) else if 224 ≤ b ∧ b ≤ 239 then (3, b % 16) else if 240 ≤ b ∧ b ≤ 244 then (4, b % 8) else (0, 0)
def accB (s : ByteArray) (m : Nat) : Nat → Nat
  | 0 => m
  | i + 1 => accB s m i * 64 + gb s (i + 1) % 64
def least : Nat → Nat
  | 2 => 128
  | 3 => 2048
  | 4 => 65536
  | _ => 0
def badL (x n : Nat) : Bool := decide (x < least n) || decide (1114111 < x) || (decide (55296 ≤ x) && decide (x ≤ 57343))

theorem cls_cases (b : Nat) : (194 ≤ b ∧ b ≤ 223 ∧ cls b = (2, b % 32)) ∨ (224 ≤ b ∧ b ≤ 239 ∧ cls b = (3, b % 16)) ∨ (240 ≤ b ∧ b ≤ 244 ∧ cls b = (4, b % 8)) ∨ ((b < 194 ∨ 244 < b) ∧ cls b = (0, 0)) := by
  unfold cls
  split
  · left; rename_i h; exact ⟨h.1, h.2, rfl⟩
  · split
    · right; left; rename_i h; exact ⟨h.1, h.2, rfl⟩
    · split
      · right; right; left; rename_i h; exact ⟨h.1, h.2, rfl⟩
      · right; right; right; exact ⟨by omega, rfl⟩

theorem bad_eq (n b0 b1 b2 b3 : Nat) (h : Lib.decodeN n b0 b1 b2 b3 = (65533, 1)) : (if Lib.decodeN n b0 b1 b2 b3 = (65533, 1) then ((0, 0) : Nat × Nat) else Lib.decodeN n b0 b1 b2 b3) = (0, 0) := if_pos h

theorem let_ascii (s : ByteArray) (h : gb s 0 < 128) : letD s = (gb s 0, 1) := by
  unfold letD decD Lib.decodeN
  rw [if_pos h, if_neg]
  intro e
  have := congrArg Prod.fst e
  simp only at this
  omega

theorem let_none (s : ByteArray) (h : ¬ gb s 0 < 128) (hc : (cls (gb s 0)).1 = 0) : letD s = (0, 0) := by
  have h0 := gb_lt s 0; have h1 := gb_lt s 1; have h2 := gb_lt s 2; have h3 := gb_lt s 3
  refine bad_eq _ _ _ _ _ ?_
  rcases cls_cases (gb s 0) with ⟨_, _, e⟩ | ⟨_, _, e⟩ | ⟨_, _, e⟩ | ⟨hr, _⟩
  · rw [e] at hc; cases hc
  · rw [e] at hc; cases hc
  · rw [e] at hc; cases hc
  · generalize gb s 0 = b0 at *; generalize gb s 1 = b1 at *; generalize gb s 2 = b2 at *; generalize gb s 3 = b3 at *
    unfold Lib.decodeN
    repeat' split
    all_goals first | rfl | (exfalso; omega)

theorem let_short (s : ByteArray) (hc : s.size < (cls (gb s 0)).1) : letD s = (0, 0) := by
  have h0 := gb_lt s 0; have h1 := gb_lt s 1; have h2 := gb_lt s 2; have h3 := gb_lt s 3
  refine bad_eq _ _ _ _ _ ?_
  rcases cls_cases (gb s 0) with ⟨_, _, e⟩ | ⟨_, _, e⟩ | ⟨_, _, e⟩ | ⟨_, e⟩ <;> rw [e] at hc
  all_goals
    generalize gb s 0 = b0 at *; generalize gb s 1 = b1 at *; generalize gb s 2 = b2 at *; generalize gb s 3 = b3 at *
    simp only at hc
    unfold Lib.decodeN
    repeat' split
    all_goals first | rfl | (exfalso; omega)

theorem let_cont (s : ByteArray) (j : Nat) (h1 : 1 ≤ j) (h2 : j < (cls (gb s 0)).1) (h3 : gb s j / 64 ≠ 2) : letD s = (0, 0) := by
  have k0 := gb_lt s 0; have k1 := gb_lt s 1; have k2 := gb_lt s 2; have k3 := gb_lt s 3
  refine bad_eq _ _ _ _ _ ?_
  have hj : j = 1 ∨ j = 2 ∨ j = 3 := by
    rcases cls_cases (gb s 0) with ⟨_, _, e⟩ | ⟨_, _, e⟩ | ⟨_, _, e⟩ | ⟨_, e⟩ <;> rw [e] at h2 <;> simp only at h2 <;> omega
  rcases cls_cases (gb s 0) with ⟨_, _, e⟩ | ⟨_, _, e⟩ | ⟨_, _, e⟩ | ⟨_, e⟩ <;> rw [e] at h2 <;> simp only at h2 <;> rcases hj with rfl | rfl | rfl
  all_goals
    generalize gb s 0 = b0 at *; generalize gb s 1 = b1 at *; generalize gb s 2 = b2 at *; generalize gb s 3 = b3 at *
    unfold Lib.decodeN
    repeat' split
    all_goals first | rfl | (exfalso; omega)

theorem let_val (s : ByteArray) (h0 : (cls (gb s 0)).1 ≠ 0) (hsz : (cls (gb s 0)).1 ≤ s.size) (hc : ∀ j, 1 ≤ j → j < (cls (gb s 0)).1 → gb s j / 64 = 2) :
    letD s = if badL (accB s (cls (gb s 0)).2 ((cls (gb s 0)).1 - 1)) (cls (gb s 0)).1 = true then (0, 0) else (accB s (cls (gb s 0)).2 ((cls (gb s 0)).1 - 1), (cls (gb s 0)).1) := by
  have k0 := gb_lt s 0; have k1 := gb_lt s 1; have k2 := gb_lt s 2; have k3 := gb_lt s 3
  unfold letD decD badL
  simp only [Bool.or_eq_true, Bool.and_eq_true, decide_eq_true_eq]
  rcases cls_cases (gb s 0) with ⟨_, _, e⟩ | ⟨_, _, e⟩ | ⟨_, _, e⟩ | ⟨_, e⟩
  · rw [e] at hsz hc ⊢
    have c1 := hc 1 (by omega) (by simp)
    simp only [accB, least] at hsz ⊢
    generalize gb s 0 = b0 at *; generalize gb s 1 = b1 at *; generalize gb s 2 = b2 at *; generalize gb s 3 = b3 at *
    unfold Lib.decodeN
    repeat' split
    all_goals first | rfl | (exfalso; omega) | (exfalso; rename_i hh _; exact hh rfl) | (exfalso; simp only [Prod.mk.injEq] at *; omega) | (simp only [Prod.mk.injEq, and_true]; omega)
  · rw [e] at hsz hc ⊢
    have c1 := hc 1 (by omega) (by simp)
    have c2 := hc 2 (by omega) (by simp)
    simp only [accB, least] at hsz ⊢
    generalize gb s 0 = b0 at *; generalize gb s 1 = b1 at *; generalize gb s 2 = b2 at *; generalize gb s 3 = b3 at *
    unfold Lib.decodeN
    repeat' split
    all_goals first | rfl | (exfalso; omega) | (exfalso; rename_i hh _; exact hh rfl) | (exfalso; simp only [Prod.mk.injEq] at *; omega) | (simp only [Prod.mk.injEq, and_true]; omega)
  · rw [e] at hsz hc ⊢
    have c1 := hc 1 (by omega) (by simp)
    have c2 := hc 2 (by omega) (by simp)
    have c3 := hc 3 (by omega) (by simp)
    simp only [accB, least] at hsz ⊢
    generalize gb s 0 = b0 at *; generalize gb s 1 = b1 at *; generalize gb s 2 = b2 at *; generalize gb s 3 = b3 at *
    unfold Lib.decodeN
    repeat' split
    all_goals first | rfl | (exfalso; omega) | (exfalso; rename_i hh _; exact hh rfl) | (exfalso; simp only [Prod.mk.injEq] at *; omega) | (simp only [Prod.mk.injEq, and_true]; omega)
  · rw [e] at h0; exact absurd rfl h0

theorem acc_lt (s : ByteArray) (b : Nat) : ∀ i, i < 4 → accB s (cls b).2 i < 134217728 := by
  have hm : (cls b).2 < 32 := by
    rcases cls_cases b with ⟨_, _, e⟩ | ⟨_, _, e⟩ | ⟨_, _, e⟩ | ⟨_, e⟩ <;> rw [e] <;> simp only <;> omega
  intro i hi
  match i, hi with
  | 0, _ => simp only [accB]; omega
  | 1, _ => simp only [accB]; omega
  | 2, _ => simp only [accB]; omega
  | 3, _ => simp only [accB]; omega

theorem cls_n (b : Nat) : (cls b).1 ≤ 4 := by
  rcases cls_cases b with ⟨_, _, e⟩ | ⟨_, _, e⟩ | ⟨_, _, e⟩ | ⟨_, e⟩ <;> rw [e] <;> simp

/-- What is told of a text's first letter: a number, and of how many bytes (0: it is none). -/
theorem dec_let (s : ByteArray) (h : 0 < s.size) : (letD s = (0, 0) ∧ decD s = (65533, 1)) ∨ (letD s = decD s ∧ ¬ (decD s = (65533, 1)) ∧ 1 ≤ (decD s).2 ∧ (decD s).2 ≤ 4 ∧ (decD s).2 ≤ s.size ∧ (decD s).1 ≤ 1114111 ∧ ((decD s).2 < 2 → (decD s).1 < 128)) := by
  unfold letD
  by_cases hd : decD s = (65533, 1)
  · rw [if_pos hd]; exact .inl ⟨rfl, hd⟩
  · rw [if_neg hd]
    right
    refine ⟨rfl, hd, ?_⟩
    have k0 := gb_lt s 0; have k1 := gb_lt s 1; have k2 := gb_lt s 2; have k3 := gb_lt s 3
    revert hd
    unfold decD Lib.decodeN
    generalize gb s 0 = b0 at *; generalize gb s 1 = b1 at *; generalize gb s 2 = b2 at *; generalize gb s 3 = b3 at *
    repeat' split
    all_goals (intro hd; simp only [Prod.mk.injEq, not_true_eq_false] at hd ⊢)
    all_goals first | omega | exact absurd ⟨rfl, rfl⟩ hd
end Go.Proofs.YtklihehobpahkaaGreatDoor
end M4S
