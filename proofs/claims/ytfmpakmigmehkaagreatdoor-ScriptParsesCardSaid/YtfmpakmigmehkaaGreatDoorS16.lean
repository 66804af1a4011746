/- Contract: end. -/
import Derived.Test.YtfmpakmigmehkaaGreatDoorS14
set_option linter.unusedVariables false
set_option linter.unusedSimpArgs false
set_option maxRecDepth 20000
noncomputable section
namespace Go.Proofs.YtfmpakmigmehkaaGreatDoor
open Go Go.Fl Go.Proofs

/-- A configuration's cells. -/
def cfgC (c : CfgS) : List AV := [.bool c.server, sA c.name, sA c.secret, .int c.mru, .bool c.pfc, .bool c.acfc, .sc (.int .u32 c.accm), .int c.mrru, .bool c.short, .int c.bits, .bool c.stl, .bool c.mppc, .bool c.defl, .bool c.must, .bool c.sym, .int c.tmo, .int c.tries, .int c.frag]
def noCfg : CfgS := ⟨false, [], [], 0, false, false, 0, 0, false, 0, false, false, false, false, false, 0, 0, 0⟩
theorem cfgC_lt (c : CfgS) (n : Nat) : ∀ x ∈ cfgC c, x.Lt n := by simp [cfgC, go_sem]
def accB (n : Int) : Bool := decide (n < 0) || decide (4294967295 < n)
def goFail (b : Bool) (s : RS) : RS := if b = true then s.fail else s

/-- What end reads. -/
def endR (l : Word) : CfgS × Bool :=
  let p0 := wordR ⟨pieces 32 l, false⟩
  let s0 := goFail (!(p0.1 == wEnd)) p0.2
  let p1 := flagR s0
  let p2 := bytesR p1.2
  let p3 := bytesR p2.2
  let p4 := numR2 p3.2
  let p5 := flagR p4.2
  let p6 := flagR p5.2
  let p7 := numR2 p6.2
  let sa := goFail (accB p7.1) p7.2
  let p8 := numR2 sa
  let p9 := flagR p8.2
  let p10 := numR2 p9.2
  let p11 := flagR p10.2
  let p12 := flagR p11.2
  let p13 := flagR p12.2
  let p14 := flagR p13.2
  let p15 := flagR p14.2
  let p16 := numR2 p15.2
  let p17 := numR2 p16.2
  let p18 := numR2 p17.2
  (⟨p1.1, p2.1, p3.1, p4.1, p5.1, p6.1, IntKind.u32.wrap p7.1, p8.1, p9.1, p10.1, p11.1, p12.1, p13.1, p14.1, p15.1, p16.1, p17.1, p18.1⟩, overR p18.2)

theorem goFail_len (b : Bool) (s : RS) (n : Nat) (h : ∀ w ∈ s.ws, w.length ≤ n) : ∀ w ∈ (goFail b s).ws, w.length ≤ n := by
  cases b <;> exact h
theorem pieces_len (c : UInt8) (l : Word) : ∀ w ∈ pieces c l, w.length ≤ l.length := by
  induction l with
  | nil => intro w hw; simp [pieces] at hw; subst hw; simp
  | cons b r ih =>
    obtain ⟨p, ps, e⟩ := pieces_ne c r
    rw [e] at ih
    intro w hw
    rw [pieces, e] at hw
    split at hw
    · simp only [List.mem_cons] at hw
      rcases hw with rfl | hw
      · simp
      · have := ih w (by simpa using hw); simp; omega
    · simp only [List.mem_cons] at hw
      rcases hw with rfl | hw
      · have := ih p List.mem_cons_self; simp; omega
      · have := ih w (List.mem_cons_of_mem _ hw); simp; omega
def EndSt (s : RS) (cs : List AV) (env : Env) (H : Heap) : Prop := env 2 = .ptr 0 0 ∧ env 4 = .ptr 1 0 ∧ env 5 = .ptr 2 0 ∧ H.get 0 = some (cfgC noCfg) ∧ H.get 1 = some (rC s) ∧ H.get 2 = some cs
def EndS0 (s : RS) (env : Env) (H : Heap) : Prop := env 2 = .ptr 0 0 ∧ env 4 = .ptr 1 0 ∧ H.get 0 = some (cfgC noCfg) ∧ H.get 1 = some (rC s) ∧ H.next = 2

theorem acc_cases (n : Int) : (n < 0) ∨ (¬ n < 0 ∧ 4294967295 < n) ∨ (¬ n < 0 ∧ ¬ 4294967295 < n) := by omega

theorem end_s (l : Word) (hl : l.length ≤ 1000000) : SCalls Tryz.prog 19 [sA l] Heap.empty (.tup [.agg (cfgC (endR l).1), errA (endR l).2]) Heap.empty := by
  have c18 := split_s 32 l (by omega)
  obtain ⟨w0, q0, h0⟩ : ∃ w q, wordR ⟨pieces 32 l, false⟩ = (w, q) := ⟨_, _, rfl⟩
  have l00 : ∀ w ∈ (⟨pieces 32 l, false⟩ : RS).ws, w.length ≤ 1000000 := fun w hw => Nat.le_trans (pieces_len 32 l w hw) (by omega)
  have l0q := (wordR_len _ _ l00).2
  rw [h0] at l0q
  obtain ⟨s0, hs0⟩ : ∃ s, goFail (!(w0 == wEnd)) q0 = s := ⟨_, rfl⟩
  have l0 := goFail_len (!(w0 == wEnd)) q0 _ l0q
  rw [hs0] at l0
  obtain ⟨v1, s1, h1⟩ : ∃ v s, flagR s0 = (v, s) := ⟨_, _, rfl⟩
  have l1 := flagR_len s0 _ l0
  rw [h1] at l1
  obtain ⟨v2, s2, h2⟩ : ∃ v s, bytesR s1 = (v, s) := ⟨_, _, rfl⟩
  have l2 := bytesR_len s1 _ l1
  rw [h2] at l2
  obtain ⟨v3, s3, h3⟩ : ∃ v s, bytesR s2 = (v, s) := ⟨_, _, rfl⟩
  have l3 := bytesR_len s2 _ l2
  rw [h3] at l3
  obtain ⟨v4, s4, h4⟩ : ∃ v s, numR2 s3 = (v, s) := ⟨_, _, rfl⟩
  have l4 := numR2_len s3 _ l3
  rw [h4] at l4
  obtain ⟨v5, s5, h5⟩ : ∃ v s, flagR s4 = (v, s) := ⟨_, _, rfl⟩
  have l5 := flagR_len s4 _ l4
  rw [h5] at l5
  obtain ⟨v6, s6, h6⟩ : ∃ v s, flagR s5 = (v, s) := ⟨_, _, rfl⟩
  have l6 := flagR_len s5 _ l5
  rw [h6] at l6
  obtain ⟨v7, s7, h7⟩ : ∃ v s, numR2 s6 = (v, s) := ⟨_, _, rfl⟩
  have l7 := numR2_len s6 _ l6
  rw [h7] at l7
  obtain ⟨sa, hsa⟩ : ∃ s, goFail (accB v7) s7 = s := ⟨_, rfl⟩
  have la := goFail_len (accB v7) s7 _ l7
  rw [hsa] at la
  obtain ⟨v8, s8, h8⟩ : ∃ v s, numR2 sa = (v, s) := ⟨_, _, rfl⟩
  have l8 := numR2_len sa _ la
  rw [h8] at l8
  obtain ⟨v9, s9, h9⟩ : ∃ v s, flagR s8 = (v, s) := ⟨_, _, rfl⟩
  have l9 := flagR_len s8 _ l8
  rw [h9] at l9
  obtain ⟨v10, s10, h10⟩ : ∃ v s, numR2 s9 = (v, s) := ⟨_, _, rfl⟩
  have l10 := numR2_len s9 _ l9
  rw [h10] at l10
  obtain ⟨v11, s11, h11⟩ : ∃ v s, flagR s10 = (v, s) := ⟨_, _, rfl⟩
  have l11 := flagR_len s10 _ l10
  rw [h11] at l11
  obtain ⟨v12, s12, h12⟩ : ∃ v s, flagR s11 = (v, s) := ⟨_, _, rfl⟩
  have l12 := flagR_len s11 _ l11
  rw [h12] at l12
  obtain ⟨v13, s13, h13⟩ : ∃ v s, flagR s12 = (v, s) := ⟨_, _, rfl⟩
  have l13 := flagR_len s12 _ l12
  rw [h13] at l13
  obtain ⟨v14, s14, h14⟩ : ∃ v s, flagR s13 = (v, s) := ⟨_, _, rfl⟩
  have l14 := flagR_len s13 _ l13
  rw [h14] at l14
  obtain ⟨v15, s15, h15⟩ : ∃ v s, flagR s14 = (v, s) := ⟨_, _, rfl⟩
  have l15 := flagR_len s14 _ l14
  rw [h15] at l15
  obtain ⟨v16, s16, h16⟩ : ∃ v s, numR2 s15 = (v, s) := ⟨_, _, rfl⟩
  have l16 := numR2_len s15 _ l15
  rw [h16] at l16
  obtain ⟨v17, s17, h17⟩ : ∃ v s, numR2 s16 = (v, s) := ⟨_, _, rfl⟩
  have l17 := numR2_len s16 _ l16
  rw [h17] at l17
  obtain ⟨v18, s18, h18⟩ : ∃ v s, numR2 s17 = (v, s) := ⟨_, _, rfl⟩
  have l18 := numR2_len s17 _ l17
  rw [h18] at l18
  have hres : endR l = (⟨v1, v2, v3, v4, v5, v6, IntKind.u32.wrap v7, v8, v9, v10, v11, v12, v13, v14, v15, v16, v17, v18⟩, overR s18) := by unfold endR; simp only [h0, hs0, hsa, h1, h2, h3, h4, h5, h6, h7, h8, h9, h10, h11, h12, h13, h14, h15, h16, h17, h18]
  rw [hres]
  refine scalls_of_k (sz := 85) (Tryz.call19) Tryz.func19 rfl (Nat.zero_le _) (by kernel_rfl) (fun R hR => ?_)
  refine scode_seq_k (fun K1 hK1 => ?_)
  refine scode_region (by kernel_rfl) ?_
  simp [go_sem]
  refine hK1 _ _ ?_
  try clear hK1 K1
  refine scode_seq_mid (EndS0 ⟨pieces 32 l, false⟩) ?_ ?_
  · skip
    refine scode_region (by kernel_rfl) ?_
    refine w_take 2 (fun K3 hK3 => ?_)
    simp [go_sem]
    refine ⟨_, _, scalls_frame c18 (by simp [go_sem]) (by simp [wA_lt]) _, ?_⟩
    refine hK3 _ _ ?_
    clear hK3 K3
    simp [go_sem]
    exact ⟨by simp [go_sem], by simp [go_sem], by simp [go_sem, cfgC, noCfg]; rfl, by simp [go_sem, rC, errA], by simp [go_sem]⟩
  rintro env H ⟨e2, e4, g0, g1, hn⟩
  have cw := word_s g1
  rw [h0] at cw
  refine scode_seq_mid (EndS0 s0) ?_ ?_
  · skip
    refine scode_seq_k (fun K5 hK5 => ?_)
    refine scode_region (by kernel_rfl) ?_
    refine w_take 2 (fun K6 hK6 => ?_)
    simp [go_sem, e4]
    refine ⟨_, _, cw, ?_⟩
    refine hK6 _ _ ?_
    clear hK6 K6
    simp [go_sem, e4]
    refine hK5 _ _ ?_
    try clear hK5 K5
    refine scode_if (b := !(w0 == wEnd)) (by simp [go_sem, wEnd]) (fun hb => ?_) (fun hb => ?_)
    · skip
      have hs : q0.fail = s0 := by rw [← hs0, hb]; rfl
      have cfl := fail_s (H := H.set 1 (rC q0)) (b := 1) (s := q0) (by rw [Heap.get_set, if_pos rfl, g1]; rfl)
      refine scode_hide (fun K7 hK7 => ?_)
      refine scode_region (by kernel_rfl) ?_
      simp [go_sem, e4]
      refine ⟨_, _, cfl, ?_⟩
      refine hK7 _ _ ?_
      exact ⟨by simp [go_sem, e2], by simp [go_sem, e4], by simp [go_sem, g0], by simp [go_sem, g1, hs], by simp [go_sem, hn]⟩
    · skip
      have hs : q0 = s0 := by rw [← hs0, hb]; rfl
      refine scode_skip ?_
      exact ⟨by simp [go_sem, e2], by simp [go_sem, e4], by simp [go_sem, g0], by simp [go_sem, g1, hs], by simp [go_sem, hn]⟩
  rintro env H ⟨e2, e4, g0, g1, hn⟩
  refine scode_seq_mid (EndSt s0 [.bool false, sA [], sA [], .int 0, .bool false, .bool false, .sc (.int .u32 0), .int 0, .bool false, .int 0, .bool false, .bool false, .bool false, .bool false, .bool false, .int 0, .int 0, .int 0]) ?_ ?_
  · skip
    refine scode_hide (fun K10 hK10 => ?_)
    refine scode_region (by kernel_rfl) ?_
    simp [go_sem]
    refine hK10 _ _ ?_
    exact ⟨by simp [go_sem, e2], by simp [go_sem, e4], by simp [go_sem, hn], by simp [go_sem, g0, hn], by simp [go_sem, g1, hn], by simp [go_sem, hn]; rfl⟩
  rintro env H ⟨e2, e4, e5, g0, g1, g2⟩
  have cc := flag_s l0 g1
  rw [h1] at cc
  refine scode_seq_mid (EndSt s1 [.bool v1, sA [], sA [], .int 0, .bool false, .bool false, .sc (.int .u32 0), .int 0, .bool false, .int 0, .bool false, .bool false, .bool false, .bool false, .bool false, .int 0, .int 0, .int 0]) ?_ ?_
  · skip
    refine scode_hide (fun K12 hK12 => ?_)
    refine scode_region (by kernel_rfl) ?_
    refine w_take 2 (fun K13 hK13 => ?_)
    simp [go_sem, e4, e5, g2]
    refine ⟨_, _, cc, ?_⟩
    refine hK13 _ _ ?_
    clear hK13 K13
    simp [go_sem, e4, e5, g2]
    refine hK12 _ _ ?_
    exact ⟨by simp [go_sem, e2], by simp [go_sem, e4], by simp [go_sem, e5], by simp [go_sem, g0], by simp [go_sem, g1], by simp [go_sem, g2]⟩
  rintro env H ⟨e2, e4, e5, g0, g1, g2⟩
  have cc := bytes_s l1 g1
  rw [h2] at cc
  refine scode_seq_mid (EndSt s2 [.bool v1, sA v2, sA [], .int 0, .bool false, .bool false, .sc (.int .u32 0), .int 0, .bool false, .int 0, .bool false, .bool false, .bool false, .bool false, .bool false, .int 0, .int 0, .int 0]) ?_ ?_
  · skip
    refine scode_hide (fun K15 hK15 => ?_)
    refine scode_region (by kernel_rfl) ?_
    refine w_take 2 (fun K16 hK16 => ?_)
    simp [go_sem, e4, e5, g2, bA, bV_len, u8s_bV, strOf_bs]
    refine ⟨_, _, cc, ?_⟩
    refine hK16 _ _ ?_
    clear hK16 K16
    simp [go_sem, e4, e5, g2, bA, bV_len, u8s_bV, strOf_bs]
    refine hK15 _ _ ?_
    exact ⟨by simp [go_sem, e2], by simp [go_sem, e4], by simp [go_sem, e5], by simp [go_sem, g0], by simp [go_sem, g1], by simp [go_sem, g2]⟩
  rintro env H ⟨e2, e4, e5, g0, g1, g2⟩
  have cc := bytes_s l2 g1
  rw [h3] at cc
  refine scode_seq_mid (EndSt s3 [.bool v1, sA v2, sA v3, .int 0, .bool false, .bool false, .sc (.int .u32 0), .int 0, .bool false, .int 0, .bool false, .bool false, .bool false, .bool false, .bool false, .int 0, .int 0, .int 0]) ?_ ?_
  · skip
    refine scode_hide (fun K18 hK18 => ?_)
    refine scode_region (by kernel_rfl) ?_
    refine w_take 2 (fun K19 hK19 => ?_)
    simp [go_sem, e4, e5, g2, bA, bV_len, u8s_bV, strOf_bs]
    refine ⟨_, _, cc, ?_⟩
    refine hK19 _ _ ?_
    clear hK19 K19
    simp [go_sem, e4, e5, g2, bA, bV_len, u8s_bV, strOf_bs]
    refine hK18 _ _ ?_
    exact ⟨by simp [go_sem, e2], by simp [go_sem, e4], by simp [go_sem, e5], by simp [go_sem, g0], by simp [go_sem, g1], by simp [go_sem, g2]⟩
  rintro env H ⟨e2, e4, e5, g0, g1, g2⟩
  have cc := num_s l3 g1
  rw [h4] at cc
  refine scode_seq_mid (EndSt s4 [.bool v1, sA v2, sA v3, .int v4, .bool false, .bool false, .sc (.int .u32 0), .int 0, .bool false, .int 0, .bool false, .bool false, .bool false, .bool false, .bool false, .int 0, .int 0, .int 0]) ?_ ?_
  · skip
    refine scode_hide (fun K21 hK21 => ?_)
    refine scode_region (by kernel_rfl) ?_
    refine w_take 2 (fun K22 hK22 => ?_)
    simp [go_sem, e4, e5, g2]
    refine ⟨_, _, cc, ?_⟩
    refine hK22 _ _ ?_
    clear hK22 K22
    simp [go_sem, e4, e5, g2]
    refine hK21 _ _ ?_
    exact ⟨by simp [go_sem, e2], by simp [go_sem, e4], by simp [go_sem, e5], by simp [go_sem, g0], by simp [go_sem, g1], by simp [go_sem, g2]⟩
  rintro env H ⟨e2, e4, e5, g0, g1, g2⟩
  have cc := flag_s l4 g1
  rw [h5] at cc
  refine scode_seq_mid (EndSt s5 [.bool v1, sA v2, sA v3, .int v4, .bool v5, .bool false, .sc (.int .u32 0), .int 0, .bool false, .int 0, .bool false, .bool false, .bool false, .bool false, .bool false, .int 0, .int 0, .int 0]) ?_ ?_
  · skip
    refine scode_hide (fun K24 hK24 => ?_)
    refine scode_region (by kernel_rfl) ?_
    refine w_take 2 (fun K25 hK25 => ?_)
    simp [go_sem, e4, e5, g2]
    refine ⟨_, _, cc, ?_⟩
    refine hK25 _ _ ?_
    clear hK25 K25
    simp [go_sem, e4, e5, g2]
    refine hK24 _ _ ?_
    exact ⟨by simp [go_sem, e2], by simp [go_sem, e4], by simp [go_sem, e5], by simp [go_sem, g0], by simp [go_sem, g1], by simp [go_sem, g2]⟩
  rintro env H ⟨e2, e4, e5, g0, g1, g2⟩
  have cc := flag_s l5 g1
  rw [h6] at cc
  refine scode_seq_mid (EndSt s6 [.bool v1, sA v2, sA v3, .int v4, .bool v5, .bool v6, .sc (.int .u32 0), .int 0, .bool false, .int 0, .bool false, .bool false, .bool false, .bool false, .bool false, .int 0, .int 0, .int 0]) ?_ ?_
  · skip
    refine scode_hide (fun K27 hK27 => ?_)
    refine scode_region (by kernel_rfl) ?_
    refine w_take 2 (fun K28 hK28 => ?_)
    simp [go_sem, e4, e5, g2]
    refine ⟨_, _, cc, ?_⟩
    refine hK28 _ _ ?_
    clear hK28 K28
    simp [go_sem, e4, e5, g2]
    refine hK27 _ _ ?_
    exact ⟨by simp [go_sem, e2], by simp [go_sem, e4], by simp [go_sem, e5], by simp [go_sem, g0], by simp [go_sem, g1], by simp [go_sem, g2]⟩
  rintro env H ⟨e2, e4, e5, g0, g1, g2⟩
  have cc := num_s l6 g1
  rw [h7] at cc
  refine scode_seq_mid (fun env H => EndSt s7 [.bool v1, sA v2, sA v3, .int v4, .bool v5, .bool v6, .sc (.int .u32 0), .int 0, .bool false, .int 0, .bool false, .bool false, .bool false, .bool false, .bool false, .int 0, .int 0, .int 0] env H ∧ env 6 = .int v7) ?_ ?_
  · skip
    refine scode_hide (fun K30 hK30 => ?_)
    refine scode_region (by kernel_rfl) ?_
    refine w_take 2 (fun K31 hK31 => ?_)
    simp [go_sem, e4]
    refine ⟨_, _, cc, ?_⟩
    refine hK31 _ _ ?_
    clear hK31 K31
    simp [go_sem, e4]
    refine hK30 _ _ ?_
    exact ⟨⟨by simp [go_sem, e2], by simp [go_sem, e4], by simp [go_sem, e5], by simp [go_sem, g0], by simp [go_sem, g1], by simp [go_sem, g2]⟩, by simp [go_sem]⟩
  rintro env H ⟨⟨e2, e4, e5, g0, g1, g2⟩, e6⟩
  refine scode_seq_mid (fun env H => EndSt sa [.bool v1, sA v2, sA v3, .int v4, .bool v5, .bool v6, .sc (.int .u32 0), .int 0, .bool false, .int 0, .bool false, .bool false, .bool false, .bool false, .bool false, .int 0, .int 0, .int 0] env H ∧ env 6 = .int v7) ?_ ?_
  · skip
    refine scode_seq_k (fun K33 hK33 => ?_)
    rcases acc_cases v7 with d1 | ⟨d1, d2⟩ | ⟨d1, d2⟩
    · skip
      refine scode_region (by kernel_rfl) ?_
      simp [go_sem, e6, d1]
      refine hK33 _ _ ?_
      try clear hK33 K33
      refine scode_if (b := true) (by simp [go_sem]) (fun _ => ?_) (fun h => by cases h)
      have hs : s7.fail = sa := by rw [← hsa]; unfold goFail accB; simp [d1]
      have cfl := fail_s g1
      refine scode_hide (fun K34 hK34 => ?_)
      refine scode_region (by kernel_rfl) ?_
      simp [go_sem, e4]
      refine ⟨_, _, cfl, ?_⟩
      refine hK34 _ _ ?_
      exact ⟨⟨by simp [go_sem, e2], by simp [go_sem, e4], by simp [go_sem, e5], by simp [go_sem, g0], by simp [go_sem, g1, hs], by simp [go_sem, g2]⟩, by simp [go_sem, e6]⟩
    · skip
      refine scode_region (by kernel_rfl) ?_
      simp [go_sem, e6, d1, d2]
      refine hK33 _ _ ?_
      try clear hK33 K33
      refine scode_if (b := true) (by simp [go_sem]) (fun _ => ?_) (fun h => by cases h)
      have hs : s7.fail = sa := by rw [← hsa]; unfold goFail accB; simp [d1, d2]
      have cfl := fail_s g1
      refine scode_hide (fun K36 hK36 => ?_)
      refine scode_region (by kernel_rfl) ?_
      simp [go_sem, e4]
      refine ⟨_, _, cfl, ?_⟩
      refine hK36 _ _ ?_
      exact ⟨⟨by simp [go_sem, e2], by simp [go_sem, e4], by simp [go_sem, e5], by simp [go_sem, g0], by simp [go_sem, g1, hs], by simp [go_sem, g2]⟩, by simp [go_sem, e6]⟩
    · skip
      have hs : s7 = sa := by rw [← hsa]; unfold goFail accB; simp [d1, d2]
      refine scode_region (by kernel_rfl) ?_
      simp [go_sem, e6, d1, d2]
      refine hK33 _ _ ?_
      try clear hK33 K33
      refine scode_if (b := false) (by simp [go_sem]) (fun h => by cases h) (fun _ => ?_)
      refine scode_skip ?_
      exact ⟨⟨by simp [go_sem, e2], by simp [go_sem, e4], by simp [go_sem, e5], by simp [go_sem, g0], by simp [go_sem, g1, hs], by simp [go_sem, g2]⟩, by simp [go_sem, e6]⟩
  rintro env H ⟨⟨e2, e4, e5, g0, g1, g2⟩, e6⟩
  refine scode_seq_mid (EndSt sa [.bool v1, sA v2, sA v3, .int v4, .bool v5, .bool v6, .sc (.int .u32 (IntKind.u32.wrap v7)), .int 0, .bool false, .int 0, .bool false, .bool false, .bool false, .bool false, .bool false, .int 0, .int 0, .int 0]) ?_ ?_
  · skip
    refine scode_hide (fun K39 hK39 => ?_)
    refine scode_region (by kernel_rfl) ?_
    simp [go_sem, e6, e5, g2]
    refine hK39 _ _ ?_
    exact ⟨by simp [go_sem, e2], by simp [go_sem, e4], by simp [go_sem, e5], by simp [go_sem, g0], by simp [go_sem, g1], by simp [go_sem, g2]⟩
  rintro env H ⟨e2, e4, e5, g0, g1, g2⟩
  have cc := num_s la g1
  rw [h8] at cc
  refine scode_seq_mid (EndSt s8 [.bool v1, sA v2, sA v3, .int v4, .bool v5, .bool v6, .sc (.int .u32 (IntKind.u32.wrap v7)), .int v8, .bool false, .int 0, .bool false, .bool false, .bool false, .bool false, .bool false, .int 0, .int 0, .int 0]) ?_ ?_
  · skip
    refine scode_hide (fun K41 hK41 => ?_)
    refine scode_region (by kernel_rfl) ?_
    refine w_take 2 (fun K42 hK42 => ?_)
    simp [go_sem, e4, e5, g2]
    refine ⟨_, _, cc, ?_⟩
    refine hK42 _ _ ?_
    clear hK42 K42
    simp [go_sem, e4, e5, g2]
    refine hK41 _ _ ?_
    exact ⟨by simp [go_sem, e2], by simp [go_sem, e4], by simp [go_sem, e5], by simp [go_sem, g0], by simp [go_sem, g1], by simp [go_sem, g2]⟩
  rintro env H ⟨e2, e4, e5, g0, g1, g2⟩
  have cc := flag_s l8 g1
  rw [h9] at cc
  refine scode_seq_mid (EndSt s9 [.bool v1, sA v2, sA v3, .int v4, .bool v5, .bool v6, .sc (.int .u32 (IntKind.u32.wrap v7)), .int v8, .bool v9, .int 0, .bool false, .bool false, .bool false, .bool false, .bool false, .int 0, .int 0, .int 0]) ?_ ?_
  · skip
    refine scode_hide (fun K44 hK44 => ?_)
    refine scode_region (by kernel_rfl) ?_
    refine w_take 2 (fun K45 hK45 => ?_)
    simp [go_sem, e4, e5, g2]
    refine ⟨_, _, cc, ?_⟩
    refine hK45 _ _ ?_
    clear hK45 K45
    simp [go_sem, e4, e5, g2]
    refine hK44 _ _ ?_
    exact ⟨by simp [go_sem, e2], by simp [go_sem, e4], by simp [go_sem, e5], by simp [go_sem, g0], by simp [go_sem, g1], by simp [go_sem, g2]⟩
  rintro env H ⟨e2, e4, e5, g0, g1, g2⟩
  have cc := num_s l9 g1
  rw [h10] at cc
  refine scode_seq_mid (EndSt s10 [.bool v1, sA v2, sA v3, .int v4, .bool v5, .bool v6, .sc (.int .u32 (IntKind.u32.wrap v7)), .int v8, .bool v9, .int v10, .bool false, .bool false, .bool false, .bool false, .bool false, .int 0, .int 0, .int 0]) ?_ ?_
  · skip
    refine scode_hide (fun K47 hK47 => ?_)
    refine scode_region (by kernel_rfl) ?_
    refine w_take 2 (fun K48 hK48 => ?_)
    simp [go_sem, e4, e5, g2]
    refine ⟨_, _, cc, ?_⟩
    refine hK48 _ _ ?_
    clear hK48 K48
    simp [go_sem, e4, e5, g2]
    refine hK47 _ _ ?_
    exact ⟨by simp [go_sem, e2], by simp [go_sem, e4], by simp [go_sem, e5], by simp [go_sem, g0], by simp [go_sem, g1], by simp [go_sem, g2]⟩
  rintro env H ⟨e2, e4, e5, g0, g1, g2⟩
  have cc := flag_s l10 g1
  rw [h11] at cc
  refine scode_seq_mid (EndSt s11 [.bool v1, sA v2, sA v3, .int v4, .bool v5, .bool v6, .sc (.int .u32 (IntKind.u32.wrap v7)), .int v8, .bool v9, .int v10, .bool v11, .bool false, .bool false, .bool false, .bool false, .int 0, .int 0, .int 0]) ?_ ?_
  · skip
    refine scode_hide (fun K50 hK50 => ?_)
    refine scode_region (by kernel_rfl) ?_
    refine w_take 2 (fun K51 hK51 => ?_)
    simp [go_sem, e4, e5, g2]
    refine ⟨_, _, cc, ?_⟩
    refine hK51 _ _ ?_
    clear hK51 K51
    simp [go_sem, e4, e5, g2]
    refine hK50 _ _ ?_
    exact ⟨by simp [go_sem, e2], by simp [go_sem, e4], by simp [go_sem, e5], by simp [go_sem, g0], by simp [go_sem, g1], by simp [go_sem, g2]⟩
  rintro env H ⟨e2, e4, e5, g0, g1, g2⟩
  have cc := flag_s l11 g1
  rw [h12] at cc
  refine scode_seq_mid (EndSt s12 [.bool v1, sA v2, sA v3, .int v4, .bool v5, .bool v6, .sc (.int .u32 (IntKind.u32.wrap v7)), .int v8, .bool v9, .int v10, .bool v11, .bool v12, .bool false, .bool false, .bool false, .int 0, .int 0, .int 0]) ?_ ?_
  · skip
    refine scode_hide (fun K53 hK53 => ?_)
    refine scode_region (by kernel_rfl) ?_
    refine w_take 2 (fun K54 hK54 => ?_)
    simp [go_sem, e4, e5, g2]
    refine ⟨_, _, cc, ?_⟩
    refine hK54 _ _ ?_
    clear hK54 K54
    simp [go_sem, e4, e5, g2]
    refine hK53 _ _ ?_
    exact ⟨by simp [go_sem, e2], by simp [go_sem, e4], by simp [go_sem, e5], by simp [go_sem, g0], by simp [go_sem, g1], by simp [go_sem, g2]⟩
  rintro env H ⟨e2, e4, e5, g0, g1, g2⟩
  have cc := flag_s l12 g1
  rw [h13] at cc
  refine scode_seq_mid (EndSt s13 [.bool v1, sA v2, sA v3, .int v4, .bool v5, .bool v6, .sc (.int .u32 (IntKind.u32.wrap v7)), .int v8, .bool v9, .int v10, .bool v11, .bool v12, .bool v13, .bool false, .bool false, .int 0, .int 0, .int 0]) ?_ ?_
  · skip
    refine scode_hide (fun K56 hK56 => ?_)
    refine scode_region (by kernel_rfl) ?_
    refine w_take 2 (fun K57 hK57 => ?_)
    simp [go_sem, e4, e5, g2]
    refine ⟨_, _, cc, ?_⟩
    refine hK57 _ _ ?_
    clear hK57 K57
    simp [go_sem, e4, e5, g2]
    refine hK56 _ _ ?_
    exact ⟨by simp [go_sem, e2], by simp [go_sem, e4], by simp [go_sem, e5], by simp [go_sem, g0], by simp [go_sem, g1], by simp [go_sem, g2]⟩
  rintro env H ⟨e2, e4, e5, g0, g1, g2⟩
  have cc := flag_s l13 g1
  rw [h14] at cc
  refine scode_seq_mid (EndSt s14 [.bool v1, sA v2, sA v3, .int v4, .bool v5, .bool v6, .sc (.int .u32 (IntKind.u32.wrap v7)), .int v8, .bool v9, .int v10, .bool v11, .bool v12, .bool v13, .bool v14, .bool false, .int 0, .int 0, .int 0]) ?_ ?_
  · skip
    refine scode_hide (fun K59 hK59 => ?_)
    refine scode_region (by kernel_rfl) ?_
    refine w_take 2 (fun K60 hK60 => ?_)
    simp [go_sem, e4, e5, g2]
    refine ⟨_, _, cc, ?_⟩
    refine hK60 _ _ ?_
    clear hK60 K60
    simp [go_sem, e4, e5, g2]
    refine hK59 _ _ ?_
    exact ⟨by simp [go_sem, e2], by simp [go_sem, e4], by simp [go_sem, e5], by simp [go_sem, g0], by simp [go_sem, g1], by simp [go_sem, g2]⟩
  rintro env H ⟨e2, e4, e5, g0, g1, g2⟩
  have cc := flag_s l14 g1
  rw [h15] at cc
  refine scode_seq_mid (EndSt s15 [.bool v1, sA v2, sA v3, .int v4, .bool v5, .bool v6, .sc (.int .u32 (IntKind.u32.wrap v7)), .int v8, .bool v9, .int v10, .bool v11, .bool v12, .bool v13, .bool v14, .bool v15, .int 0, .int 0, .int 0]) ?_ ?_
  · skip
    refine scode_hide (fun K62 hK62 => ?_)
    refine scode_region (by kernel_rfl) ?_
    refine w_take 2 (fun K63 hK63 => ?_)
    simp [go_sem, e4, e5, g2]
    refine ⟨_, _, cc, ?_⟩
    refine hK63 _ _ ?_
    clear hK63 K63
    simp [go_sem, e4, e5, g2]
    refine hK62 _ _ ?_
    exact ⟨by simp [go_sem, e2], by simp [go_sem, e4], by simp [go_sem, e5], by simp [go_sem, g0], by simp [go_sem, g1], by simp [go_sem, g2]⟩
  rintro env H ⟨e2, e4, e5, g0, g1, g2⟩
  have cc := num_s l15 g1
  rw [h16] at cc
  refine scode_seq_mid (EndSt s16 [.bool v1, sA v2, sA v3, .int v4, .bool v5, .bool v6, .sc (.int .u32 (IntKind.u32.wrap v7)), .int v8, .bool v9, .int v10, .bool v11, .bool v12, .bool v13, .bool v14, .bool v15, .int v16, .int 0, .int 0]) ?_ ?_
  · skip
    refine scode_hide (fun K65 hK65 => ?_)
    refine scode_region (by kernel_rfl) ?_
    refine w_take 2 (fun K66 hK66 => ?_)
    simp [go_sem, e4, e5, g2]
    refine ⟨_, _, cc, ?_⟩
    refine hK66 _ _ ?_
    clear hK66 K66
    simp [go_sem, e4, e5, g2]
    refine hK65 _ _ ?_
    exact ⟨by simp [go_sem, e2], by simp [go_sem, e4], by simp [go_sem, e5], by simp [go_sem, g0], by simp [go_sem, g1], by simp [go_sem, g2]⟩
  rintro env H ⟨e2, e4, e5, g0, g1, g2⟩
  have cc := num_s l16 g1
  rw [h17] at cc
  refine scode_seq_mid (EndSt s17 [.bool v1, sA v2, sA v3, .int v4, .bool v5, .bool v6, .sc (.int .u32 (IntKind.u32.wrap v7)), .int v8, .bool v9, .int v10, .bool v11, .bool v12, .bool v13, .bool v14, .bool v15, .int v16, .int v17, .int 0]) ?_ ?_
  · skip
    refine scode_hide (fun K68 hK68 => ?_)
    refine scode_region (by kernel_rfl) ?_
    refine w_take 2 (fun K69 hK69 => ?_)
    simp [go_sem, e4, e5, g2]
    refine ⟨_, _, cc, ?_⟩
    refine hK69 _ _ ?_
    clear hK69 K69
    simp [go_sem, e4, e5, g2]
    refine hK68 _ _ ?_
    exact ⟨by simp [go_sem, e2], by simp [go_sem, e4], by simp [go_sem, e5], by simp [go_sem, g0], by simp [go_sem, g1], by simp [go_sem, g2]⟩
  rintro env H ⟨e2, e4, e5, g0, g1, g2⟩
  have cc := num_s l17 g1
  rw [h18] at cc
  refine scode_seq_mid (EndSt s18 [.bool v1, sA v2, sA v3, .int v4, .bool v5, .bool v6, .sc (.int .u32 (IntKind.u32.wrap v7)), .int v8, .bool v9, .int v10, .bool v11, .bool v12, .bool v13, .bool v14, .bool v15, .int v16, .int v17, .int v18]) ?_ ?_
  · skip
    refine scode_hide (fun K71 hK71 => ?_)
    refine scode_region (by kernel_rfl) ?_
    refine w_take 2 (fun K72 hK72 => ?_)
    simp [go_sem, e4, e5, g2]
    refine ⟨_, _, cc, ?_⟩
    refine hK72 _ _ ?_
    clear hK72 K72
    simp [go_sem, e4, e5, g2]
    refine hK71 _ _ ?_
    exact ⟨by simp [go_sem, e2], by simp [go_sem, e4], by simp [go_sem, e5], by simp [go_sem, g0], by simp [go_sem, g1], by simp [go_sem, g2]⟩
  rintro env H ⟨e2, e4, e5, g0, g1, g2⟩
  refine scode_seq_k (fun K73 hK73 => ?_)
  obtain ⟨s19, co⟩ := over_s g1
  refine scode_draw mixed (by kernel_rfl) (bf := [0, 0, 2, 7, 15]) (by kernel_rfl) ?_
  simp [go_sem, e4, e5, g2, befL]
  refine ⟨_, _, co, ?_⟩
  simp [go_sem, e2, e5, g0, g1, g2, befL, cfgC, noCfg]
  refine hK73 _ _ ?_
  try clear hK73 K73
  refine scode_ret ?_
  simp only [go_sem]
  refine hR _ _ ?_
  exact ret_plain (by simp [go_sem, e2, g0, g1, g2, cfgC, noCfg]) (empty_le _) (Nat.zero_le _) (by simp [go_sem, cfgC, errA_lt])

end Go.Proofs.YtfmpakmigmehkaaGreatDoor
