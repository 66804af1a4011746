/- What end reads, plain. -/
import Derived.Test.YtfmpakmigmehkaaGreatDoorS17
set_option linter.unusedVariables false
set_option linter.unusedSimpArgs false
set_option maxRecDepth 20000
noncomputable section
namespace Go.Proofs.YtfmpakmigmehkaaGreatDoor
open Go Go.Fl Go.Proofs

theorem word_fwd (w : Word) (r : List Word) : wordR ⟨w :: r, false⟩ = (w, ⟨r, false⟩) := rfl
theorem num_fwd {w : Word} {n : Int} (h : canonV w = some n) (r : List Word) : numR2 ⟨w :: r, false⟩ = (n, ⟨r, false⟩) := by
  unfold numR2
  rw [word_fwd]
  simp only [h]
theorem bytes_fwd {w b : Word} (h : rawV' w = some b) (r : List Word) : bytesR ⟨w :: r, false⟩ = (b, ⟨r, false⟩) := by
  unfold bytesR
  rw [word_fwd]
  simp only [h]
theorem flag_fwd {w : Word} {b : Bool} (h : flagV w = some b) (r : List Word) : flagR ⟨w :: r, false⟩ = (b, ⟨r, false⟩) := by
  have hw := (flagV_iff w b).1 h
  unfold flagR
  cases b with
  | false =>
    have : canonV w = some 0 := (canonV_zero w).2 hw
    rw [num_fwd this]
    rfl
  | true =>
    have : canonV w = some 1 := (canonV_one w).2 hw
    rw [num_fwd this]
    rfl
theorem word_inv {s : RS} (h : (wordR s).2.bad = false) : ∃ w r, s = ⟨w :: r, false⟩ ∧ wordR s = (w, ⟨r, false⟩) := by
  obtain ⟨ws, bad⟩ := s
  cases ws with
  | nil => cases h
  | cons w r => cases bad with
    | true => cases h
    | false => exact ⟨w, r, rfl, rfl⟩
theorem num_inv {s : RS} (h : (numR2 s).2.bad = false) : ∃ w r n, s = ⟨w :: r, false⟩ ∧ canonV w = some n ∧ numR2 s = (n, ⟨r, false⟩) := by
  have hb : (wordR s).2.bad = false := by
    unfold numR2 at h
    split at h
    · exact h
    · cases h
  obtain ⟨w, r, rfl, hw⟩ := word_inv hb
  cases hc : canonV w with
  | some n => exact ⟨w, r, n, rfl, hc, num_fwd hc r⟩
  | none =>
    unfold numR2 at h
    rw [hw] at h
    simp only [hc] at h
    cases h
theorem bytes_inv {s : RS} (h : (bytesR s).2.bad = false) : ∃ w r b, s = ⟨w :: r, false⟩ ∧ rawV' w = some b ∧ bytesR s = (b, ⟨r, false⟩) := by
  have hb : (wordR s).2.bad = false := by
    unfold bytesR at h
    split at h
    · exact h
    · cases h
  obtain ⟨w, r, rfl, hw⟩ := word_inv hb
  cases hc : rawV' w with
  | some n => exact ⟨w, r, n, rfl, hc, bytes_fwd hc r⟩
  | none =>
    unfold bytesR at h
    rw [hw] at h
    simp only [hc] at h
    cases h
theorem flag_inv {s : RS} (h : (flagR s).2.bad = false) : ∃ w r b, s = ⟨w :: r, false⟩ ∧ flagV w = some b ∧ flagR s = (b, ⟨r, false⟩) := by
  have hb : (numR2 s).2.bad = false := by
    unfold flagR at h
    simp only at h
    split at h
    · cases h
    · exact h
  obtain ⟨w, r, n, rfl, hc, hn⟩ := num_inv hb
  unfold flagR at h
  rw [hn] at h
  simp only at h
  by_cases h0 : n = 0
  · subst h0
    have hf : flagV w = some false := (flagV_iff w false).2 ((canonV_zero w).1 hc)
    exact ⟨w, r, false, rfl, hf, flag_fwd hf r⟩
  · by_cases h1 : n = 1
    · subst h1
      have hf : flagV w = some true := (flagV_iff w true).2 ((canonV_one w).1 hc)
      exact ⟨w, r, true, rfl, hf, flag_fwd hf r⟩
    · have g0 : (n != 0) = true := by simp [h0]
      have g1 : (n != 1) = true := by simp [h1]
      rw [g0, g1] at h
      simp [RS.fail] at h
theorem over_inv {s : RS} (h : overR s = false) : s = ⟨[], false⟩ := by
  obtain ⟨ws, bad⟩ := s
  cases ws with
  | nil => cases bad with
    | false => rfl
    | true => simp [overR] at h
  | cons w r => cases bad <;> simp [overR] at h
theorem goFail_inv {b : Bool} {s s' : RS} (h : goFail b s = s') (hb : s'.bad = false) : b = false ∧ s = s' := by
  cases b with
  | true => rw [← h] at hb; cases hb
  | false => exact ⟨rfl, h⟩

theorem endR_ok {l : Word} {c : CfgS} (h : cfgV l = some c) : endR l = (c, false) := by
  obtain ⟨hok, hws⟩ := (parseCfg_iff _ c).1 h
  obtain ⟨i1, i2, i3, i4, i5, i6, i7⟩ := hok
  have hacc : accB c.accm = false := by unfold accB; simp; omega
  have hw32 : IntKind.u32.wrap c.accm = c.accm := by show c.accm % 4294967296 = c.accm; omega
  have hwe : (!(wEnd == wEnd)) = false := by decide
  have fb : ∀ (b : Bool) (r : List Word), flagR ⟨bitL b :: r, false⟩ = (b, ⟨r, false⟩) := fun b r => flag_fwd ((flagV_iff _ b).2 rfl) r
  have fx : ∀ (b : Word) (r : List Word), bytesR ⟨hexL b :: r, false⟩ = (b, ⟨r, false⟩) := fun b r => bytes_fwd ((rawV_iff' _ b).2 rfl) r
  have fn : ∀ (n : Int), inI n → ∀ (r : List Word), numR2 ⟨Lib.itoa n :: r, false⟩ = (n, ⟨r, false⟩) := fun n hn r => num_fwd ((canonV_iff' _ n).2 ⟨hn, rfl⟩) r
  have n1 := fn c.mru i1
  have n2 := fn c.accm (inI_u32 i2)
  have n3 := fn c.mrru i3
  have n4 := fn c.bits i4
  have n5 := fn c.tmo i5
  have n6 := fn c.tries i6
  have n7 := fn c.frag i7
  unfold endR
  rw [hws]
  simp only [CfgS.words, word_fwd, hwe, goFail, Bool.false_eq_true, if_false, fb, fx, n1, n2, n3, n4, n5, n6, n7, hacc, hw32]
  rfl

theorem endR_inv {l : Word} (h : (endR l).2 = false) : ∃ c, cfgV l = some c := by
  obtain ⟨w0, q0, h0⟩ : ∃ w q, wordR ⟨pieces 32 l, false⟩ = (w, q) := ⟨_, _, rfl⟩
  obtain ⟨s0, hs0⟩ : ∃ s, goFail (!(w0 == wEnd)) q0 = s := ⟨_, rfl⟩
  obtain ⟨v1, s1, h1⟩ : ∃ v s, flagR s0 = (v, s) := ⟨_, _, rfl⟩
  obtain ⟨v2, s2, h2⟩ : ∃ v s, bytesR s1 = (v, s) := ⟨_, _, rfl⟩
  obtain ⟨v3, s3, h3⟩ : ∃ v s, bytesR s2 = (v, s) := ⟨_, _, rfl⟩
  obtain ⟨v4, s4, h4⟩ : ∃ v s, numR2 s3 = (v, s) := ⟨_, _, rfl⟩
  obtain ⟨v5, s5, h5⟩ : ∃ v s, flagR s4 = (v, s) := ⟨_, _, rfl⟩
  obtain ⟨v6, s6, h6⟩ : ∃ v s, flagR s5 = (v, s) := ⟨_, _, rfl⟩
  obtain ⟨v7, s7, h7⟩ : ∃ v s, numR2 s6 = (v, s) := ⟨_, _, rfl⟩
  obtain ⟨sa, hsa⟩ : ∃ s, goFail (accB v7) s7 = s := ⟨_, rfl⟩
  obtain ⟨v8, s8, h8⟩ : ∃ v s, numR2 sa = (v, s) := ⟨_, _, rfl⟩
  obtain ⟨v9, s9, h9⟩ : ∃ v s, flagR s8 = (v, s) := ⟨_, _, rfl⟩
  obtain ⟨v10, s10, h10⟩ : ∃ v s, numR2 s9 = (v, s) := ⟨_, _, rfl⟩
  obtain ⟨v11, s11, h11⟩ : ∃ v s, flagR s10 = (v, s) := ⟨_, _, rfl⟩
  obtain ⟨v12, s12, h12⟩ : ∃ v s, flagR s11 = (v, s) := ⟨_, _, rfl⟩
  obtain ⟨v13, s13, h13⟩ : ∃ v s, flagR s12 = (v, s) := ⟨_, _, rfl⟩
  obtain ⟨v14, s14, h14⟩ : ∃ v s, flagR s13 = (v, s) := ⟨_, _, rfl⟩
  obtain ⟨v15, s15, h15⟩ : ∃ v s, flagR s14 = (v, s) := ⟨_, _, rfl⟩
  obtain ⟨v16, s16, h16⟩ : ∃ v s, numR2 s15 = (v, s) := ⟨_, _, rfl⟩
  obtain ⟨v17, s17, h17⟩ : ∃ v s, numR2 s16 = (v, s) := ⟨_, _, rfl⟩
  obtain ⟨v18, s18, h18⟩ : ∃ v s, numR2 s17 = (v, s) := ⟨_, _, rfl⟩
  have hres : (endR l).2 = overR s18 := by unfold endR; simp only [h0, hs0, hsa, h1, h2, h3, h4, h5, h6, h7, h8, h9, h10, h11, h12, h13, h14, h15, h16, h17, h18]
  rw [hres] at h
  have e18 := over_inv h
  obtain ⟨w18, r18, b18, e17, c18, f18⟩ := num_inv (s := s17) (by rw [h18, e18])
  rw [h18, e18] at f18
  simp only [Prod.mk.injEq, RS.mk.injEq, and_true] at f18
  obtain ⟨rfl, rfl⟩ := f18
  obtain ⟨w17, r17, b17, e16, c17, f17⟩ := num_inv (s := s16) (by rw [h17, e17])
  rw [h17, e17] at f17
  simp only [Prod.mk.injEq, RS.mk.injEq, and_true] at f17
  obtain ⟨rfl, rfl⟩ := f17
  obtain ⟨w16, r16, b16, e15, c16, f16⟩ := num_inv (s := s15) (by rw [h16, e16])
  rw [h16, e16] at f16
  simp only [Prod.mk.injEq, RS.mk.injEq, and_true] at f16
  obtain ⟨rfl, rfl⟩ := f16
  obtain ⟨w15, r15, b15, e14, c15, f15⟩ := flag_inv (s := s14) (by rw [h15, e15])
  rw [h15, e15] at f15
  simp only [Prod.mk.injEq, RS.mk.injEq, and_true] at f15
  obtain ⟨rfl, rfl⟩ := f15
  obtain ⟨w14, r14, b14, e13, c14, f14⟩ := flag_inv (s := s13) (by rw [h14, e14])
  rw [h14, e14] at f14
  simp only [Prod.mk.injEq, RS.mk.injEq, and_true] at f14
  obtain ⟨rfl, rfl⟩ := f14
  obtain ⟨w13, r13, b13, e12, c13, f13⟩ := flag_inv (s := s12) (by rw [h13, e13])
  rw [h13, e13] at f13
  simp only [Prod.mk.injEq, RS.mk.injEq, and_true] at f13
  obtain ⟨rfl, rfl⟩ := f13
  obtain ⟨w12, r12, b12, e11, c12, f12⟩ := flag_inv (s := s11) (by rw [h12, e12])
  rw [h12, e12] at f12
  simp only [Prod.mk.injEq, RS.mk.injEq, and_true] at f12
  obtain ⟨rfl, rfl⟩ := f12
  obtain ⟨w11, r11, b11, e10, c11, f11⟩ := flag_inv (s := s10) (by rw [h11, e11])
  rw [h11, e11] at f11
  simp only [Prod.mk.injEq, RS.mk.injEq, and_true] at f11
  obtain ⟨rfl, rfl⟩ := f11
  obtain ⟨w10, r10, b10, e9, c10, f10⟩ := num_inv (s := s9) (by rw [h10, e10])
  rw [h10, e10] at f10
  simp only [Prod.mk.injEq, RS.mk.injEq, and_true] at f10
  obtain ⟨rfl, rfl⟩ := f10
  obtain ⟨w9, r9, b9, e8, c9, f9⟩ := flag_inv (s := s8) (by rw [h9, e9])
  rw [h9, e9] at f9
  simp only [Prod.mk.injEq, RS.mk.injEq, and_true] at f9
  obtain ⟨rfl, rfl⟩ := f9
  obtain ⟨w8, r8, b8, e7a, c8, f8⟩ := num_inv (s := sa) (by rw [h8, e8])
  rw [h8, e8] at f8
  simp only [Prod.mk.injEq, RS.mk.injEq, and_true] at f8
  obtain ⟨rfl, rfl⟩ := f8
  obtain ⟨hacc, esa⟩ := goFail_inv hsa (by rw [e7a])
  have e7 : s7 = _ := esa.trans e7a
  obtain ⟨w7, r7, b7, e6, c7, f7⟩ := num_inv (s := s6) (by rw [h7, e7])
  rw [h7, e7] at f7
  simp only [Prod.mk.injEq, RS.mk.injEq, and_true] at f7
  obtain ⟨rfl, rfl⟩ := f7
  obtain ⟨w6, r6, b6, e5, c6, f6⟩ := flag_inv (s := s5) (by rw [h6, e6])
  rw [h6, e6] at f6
  simp only [Prod.mk.injEq, RS.mk.injEq, and_true] at f6
  obtain ⟨rfl, rfl⟩ := f6
  obtain ⟨w5, r5, b5, e4, c5, f5⟩ := flag_inv (s := s4) (by rw [h5, e5])
  rw [h5, e5] at f5
  simp only [Prod.mk.injEq, RS.mk.injEq, and_true] at f5
  obtain ⟨rfl, rfl⟩ := f5
  obtain ⟨w4, r4, b4, e3, c4, f4⟩ := num_inv (s := s3) (by rw [h4, e4])
  rw [h4, e4] at f4
  simp only [Prod.mk.injEq, RS.mk.injEq, and_true] at f4
  obtain ⟨rfl, rfl⟩ := f4
  obtain ⟨w3, r3, b3, e2, c3, f3⟩ := bytes_inv (s := s2) (by rw [h3, e3])
  rw [h3, e3] at f3
  simp only [Prod.mk.injEq, RS.mk.injEq, and_true] at f3
  obtain ⟨rfl, rfl⟩ := f3
  obtain ⟨w2, r2, b2, e1, c2, f2⟩ := bytes_inv (s := s1) (by rw [h2, e2])
  rw [h2, e2] at f2
  simp only [Prod.mk.injEq, RS.mk.injEq, and_true] at f2
  obtain ⟨rfl, rfl⟩ := f2
  obtain ⟨w1, r1, b1, e0, c1, f1⟩ := flag_inv (s := s0) (by rw [h1, e1])
  rw [h1, e1] at f1
  simp only [Prod.mk.injEq, RS.mk.injEq, and_true] at f1
  obtain ⟨rfl, rfl⟩ := f1
  obtain ⟨hwe, es0⟩ := goFail_inv hs0 (by rw [e0])
  have eq0 : q0 = _ := es0.trans e0
  obtain ⟨x0, y0, ep, f0⟩ := word_inv (s := ⟨pieces 32 l, false⟩) (by rw [h0, eq0])
  rw [h0, eq0] at f0
  simp only [Prod.mk.injEq, RS.mk.injEq, and_true] at f0
  obtain ⟨rfl, rfl⟩ := f0
  simp only [RS.mk.injEq, and_true] at ep
  have hwE : w0 = wEnd := by simpa using hwe
  have ha : accmV w7 = some v7 := by unfold accmV; rw [c7]; unfold accB at hacc; simp at hacc; simp; omega
  refine ⟨⟨v1, v2, v3, v4, v5, v6, v7, v8, v9, v10, v11, v12, v13, v14, v15, v16, v17, v18⟩, ?_⟩
  unfold cfgV
  rw [ep]
  simp only [parseCfg, if_pos hwE, c1, c2, c3, c4, c5, c6, ha, c8, c9, c10, c11, c12, c13, c14, c15, c16, c17, c18, Option.bind_some]

theorem endR_spec (l : Word) : (endR l).2 = (cfgV l).isNone ∧ ∀ c, cfgV l = some c → (endR l).1 = c := by
  cases hc : cfgV l with
  | some c => rw [endR_ok hc]; exact ⟨rfl, fun c' h => by cases h; rfl⟩
  | none =>
    refine ⟨?_, fun c h => by cases h⟩
    cases hb : (endR l).2 with
    | true => rfl
    | false =>
      obtain ⟨c, h⟩ := endR_inv hb
      rw [hc] at h; cases h

theorem kind12 : evKind 12 = 0 := rfl
theorem evR_ok {l : Word} {e : EvS} (h : evV l = some e) : evR l = (e, false) := by
  obtain ⟨hok, hws⟩ := (parseEv_iff _ e).1 h
  obtain ⟨d, en, n, p, b⟩ := e
  obtain ⟨⟨d1, d2⟩, i1, hk⟩ := hok
  simp only at d1 d2 i1 hk
  have fx : ∀ (b : Word) (r : List Word), bytesR ⟨hexL b :: r, false⟩ = (b, ⟨r, false⟩) := fun b r => bytes_fwd ((rawV_iff' _ b).2 rfl) r
  have fn : ∀ (n : Int), inI n → ∀ (r : List Word), numR2 ⟨Lib.itoa n :: r, false⟩ = (n, ⟨r, false⟩) := fun n hn r => num_fwd ((canonV_iff' _ n).2 ⟨hn, rfl⟩) r
  have hd : doV (evName d) = d := doV_hit _ d d1 d2 rfl
  have n1 := fn en i1
  have hd12 : ¬ d = 12 := by omega
  unfold evR
  rw [hws]
  simp only [EvS.words, EvS.tail, word_fwd, hd, n1, if_neg hd12]
  have hkl := kind_le d
  obtain ⟨k, hkk⟩ : ∃ k, evKind d = k := ⟨_, rfl⟩
  have hk' : k = 0 ∨ k = 1 ∨ k = 2 ∨ k = 3 ∨ k = 4 := by omega
  rw [hkk] at hk
  rcases hk' with rfl | rfl | rfl | rfl | rfl <;> simp only [hkk] at hk ⊢
  · obtain ⟨rfl, rfl, rfl⟩ := hk
    rfl
  · obtain ⟨i2, rfl, rfl⟩ := hk
    simp only [fn n i2]
    rfl
  · obtain ⟨i2, rfl⟩ := hk
    simp only [fn p i2, fx]
    rfl
  · obtain ⟨i2, rfl⟩ := hk
    simp only [fn n i2, fx]
    rfl
  · obtain ⟨rfl, rfl⟩ := hk
    simp only [fx]
    rfl
theorem evR_inv {l : Word} (h : (evR l).2 = false) : ∃ e, evV l = some e := by
  obtain ⟨w0, q0, h0⟩ : ∃ w q, wordR ⟨pieces 32 l, false⟩ = (w, q) := ⟨_, _, rfl⟩
  obtain ⟨v1, s1, h1⟩ : ∃ v s, numR2 q0 = (v, s) := ⟨_, _, rfl⟩
  obtain ⟨d, hd⟩ : ∃ d, doV w0 = d := ⟨_, rfl⟩
  have back : ∀ ws, s1 = ⟨ws, false⟩ → ∃ x, pieces 32 l = w0 :: x :: ws ∧ canonV x = some v1 := by
    intro ws hs
    obtain ⟨x, r, n, e0, c1, f1⟩ := num_inv (s := q0) (by rw [h1, hs])
    rw [h1, hs] at f1
    simp only [Prod.mk.injEq, RS.mk.injEq, and_true] at f1
    obtain ⟨rfl, rfl⟩ := f1
    obtain ⟨y, r2, e1, f0⟩ := word_inv (s := ⟨pieces 32 l, false⟩) (by rw [h0, e0])
    rw [h0, e0] at f0
    simp only [Prod.mk.injEq, RS.mk.injEq, and_true] at f0
    obtain ⟨rfl, rfl⟩ := f0
    simp only [RS.mk.injEq, and_true] at e1
    exact ⟨x, e1, c1⟩
  have hname : d ≠ 12 → nameV w0 = some d := by
    intro hne
    unfold doV at hd
    cases hn : nameV w0 with
    | none => rw [hn] at hd; exact absurd hd.symm hne
    | some d' => rw [hn] at hd; cases hd; rfl
  have build : ∀ (ws : List Word) (t : Int × Int × Word), d ≠ 12 → s1 = ⟨ws, false⟩ → tailV (evKind d) ws = some t → ∃ e, evV l = some e := by
    intro ws t hne hs ht
    obtain ⟨x, hp, hc⟩ := back ws hs
    refine ⟨⟨d, v1, t.1, t.2.1, t.2.2⟩, ?_⟩
    unfold evV parseEv
    rw [hp]
    simp only [hname hne, hc, ht, Option.bind_some, Option.map_some]
  unfold evR at h
  simp only [h0, hd, h1] at h
  by_cases h12 : d = 12
  · rw [if_pos h12] at h
    have h : overR s1.fail = false := h
    have := congrArg RS.bad (over_inv h)
    simp [RS.fail] at this
  · rw [if_neg h12] at h
    have hkl := kind_le d
    obtain ⟨k, hkk⟩ : ∃ k, evKind d = k := ⟨_, rfl⟩
    have hk' : k = 0 ∨ k = 1 ∨ k = 2 ∨ k = 3 ∨ k = 4 := by omega
    rw [hkk] at h build
    rcases hk' with rfl | rfl | rfl | rfl | rfl <;> simp only at h
    · exact build [] _ h12 (over_inv h) rfl
    · have e2 := over_inv h
      obtain ⟨x, r, n, es, c2, f2⟩ := num_inv (s := s1) (by rw [e2])
      rw [f2] at e2
      simp only [RS.mk.injEq, and_true] at e2
      subst e2
      exact build [x] (n, 0, []) h12 es (by simp [tailV, c2])
    · have e3 := over_inv h
      obtain ⟨y, r2, b, es2, c3, f3⟩ := bytes_inv (s := (numR2 s1).2) (by rw [e3])
      rw [f3] at e3
      simp only [RS.mk.injEq, and_true] at e3
      subst e3
      obtain ⟨x, r, n, es, c2, f2⟩ := num_inv (s := s1) (by rw [es2])
      rw [f2] at es2
      simp only [RS.mk.injEq, and_true] at es2
      subst es2
      exact build [x, y] (0, n, b) h12 es (by simp [tailV, c2, c3])
    · have e3 := over_inv h
      obtain ⟨y, r2, b, es2, c3, f3⟩ := bytes_inv (s := (numR2 s1).2) (by rw [e3])
      rw [f3] at e3
      simp only [RS.mk.injEq, and_true] at e3
      subst e3
      obtain ⟨x, r, n, es, c2, f2⟩ := num_inv (s := s1) (by rw [es2])
      rw [f2] at es2
      simp only [RS.mk.injEq, and_true] at es2
      subst es2
      exact build [x, y] (n, 0, b) h12 es (by simp [tailV, c2, c3])
    · have e2 := over_inv h
      obtain ⟨x, r, b, es, c2, f2⟩ := bytes_inv (s := s1) (by rw [e2])
      rw [f2] at e2
      simp only [RS.mk.injEq, and_true] at e2
      subst e2
      exact build [x] (0, 0, b) h12 es (by simp [tailV, c2])
theorem evR_spec (l : Word) : (evR l).2 = (evV l).isNone ∧ ∀ e, evV l = some e → (evR l).1 = e := by
  cases hc : evV l with
  | some c => rw [evR_ok hc]; exact ⟨rfl, fun c' h => by cases h; rfl⟩
  | none =>
    refine ⟨?_, fun c h => by cases h⟩
    cases hb : (evR l).2 with
    | true => rfl
    | false =>
      obtain ⟨c, h⟩ := evR_inv hb
      rw [hc] at h; cases h

end Go.Proofs.YtfmpakmigmehkaaGreatDoor
