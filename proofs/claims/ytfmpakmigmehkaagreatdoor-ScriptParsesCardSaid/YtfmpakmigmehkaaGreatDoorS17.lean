/- Contract: event. -/
import Derived.Test.YtfmpakmigmehkaaGreatDoorS16
set_option linter.unusedVariables false
set_option linter.unusedSimpArgs false
set_option maxRecDepth 20000
noncomputable section
namespace Go.Proofs.YtfmpakmigmehkaaGreatDoor
open Go Go.Fl Go.Proofs

/-- The number of an event's word; 12: there is none. -/
def doV (w : Word) : Nat := (nameV w).getD 12
theorem doV_hit (w : Word) (k : Nat) (h1 : 1 ≤ k) (h2 : k ≤ 11) (h : evName k = w) : doV w = k := by
  unfold doV
  rw [(nameV_iff w k).2 ⟨⟨h1, h2⟩, h.symm⟩]
  rfl
theorem doV_miss (w : Word) (h : ∀ j, 1 ≤ j → j ≤ 11 → evName j ≠ w) : doV w = 12 := by
  unfold doV
  cases hn : nameV w with
  | none => rfl
  | some d =>
    obtain ⟨⟨h1, h2⟩, h3⟩ := (nameV_iff w d).1 hn
    exact absurd h3.symm (h d h1 h2)
theorem doV_le (w : Word) : 1 ≤ doV w ∧ doV w ≤ 12 := by
  unfold doV
  cases hn : nameV w with
  | none => exact ⟨by decide, by decide⟩
  | some d =>
    obtain ⟨⟨h1, h2⟩, h3⟩ := (nameV_iff w d).1 hn
    exact ⟨h1, by simp; omega⟩
/-- An event's cells. -/
def evC (e : EvS) : List AV := [.int e.do_, .int e.end_, .int e.n, .int e.proto, bA e.b]
theorem evC_lt (e : EvS) (n : Nat) : ∀ x ∈ evC e, x.Lt n := by simp [evC, bA_lt, go_sem]
/-- What event reads. -/
def evR (l : Word) : EvS × Bool :=
  let p0 := wordR ⟨pieces 32 l, false⟩
  let d := doV p0.1
  let p1 := numR2 p0.2
  match (if d = 12 then 5 else evKind d) with
  | 0 => (⟨d, p1.1, 0, 0, []⟩, overR p1.2)
  | 1 => (⟨d, p1.1, (numR2 p1.2).1, 0, []⟩, overR (numR2 p1.2).2)
  | 2 => (⟨d, p1.1, 0, (numR2 p1.2).1, (bytesR (numR2 p1.2).2).1⟩, overR (bytesR (numR2 p1.2).2).2)
  | 3 => (⟨d, p1.1, (numR2 p1.2).1, 0, (bytesR (numR2 p1.2).2).1⟩, overR (bytesR (numR2 p1.2).2).2)
  | 4 => (⟨d, p1.1, 0, 0, (bytesR p1.2).1⟩, overR (bytesR p1.2).2)
  | _ => (⟨d, p1.1, 0, 0, []⟩, overR p1.2.fail)
def EvS0 (s : RS) (env : Env) (H : Heap) : Prop := env 2 = .ptr 0 0 ∧ env 4 = .ptr 1 0 ∧ H.get 0 = some [.int 0, .int 0, .int 0, .int 0, .nil] ∧ H.get 1 = some (rC s) ∧ H.next = 2
theorem name_H (d : Int) (H : Heap) : SCalls Tryz.prog 27 [.int d] H (sA (nmI d)) H := scalls_frame (name_s d) (by simp [go_sem]) (by simp [go_sem]) H
theorem twelve (d : Nat) (h : 1 ≤ d ∧ d ≤ 12) : d = 1 ∨ d = 2 ∨ d = 3 ∨ d = 4 ∨ d = 5 ∨ d = 6 ∨ d = 7 ∨ d = 8 ∨ d = 9 ∨ d = 10 ∨ d = 11 ∨ d = 12 := by omega
theorem froz_ev {H : Heap} {dd : Nat → Prop} (d e n p : Int) (x : AV) (b : Word) (h : x = bA b ∨ (x = .nil ∧ b = [])) : Froz H dd (.agg [.int d, .int e, .int n, .int p, x]) (.agg [.int d, .int e, .int n, .int p, bA b]) := by
  refine .aggL (.cons (.same _) (.cons (.same _) (.cons (.same _) (.cons (.same _) (.cons ?_ .nil)))))
  rcases h with rfl | ⟨rfl, rfl⟩
  · exact .same _
  · exact .nil 1

theorem k_cases (k : Nat) (w : Word) (h : k ≤ 12) : k = 12 ∨ (k ≤ 11 ∧ evName k = w) ∨ (k ≤ 11 ∧ evName k ≠ w) := by
  by_cases h1 : k = 12
  · exact .inl h1
  · by_cases h2 : evName k = w
    · exact .inr (.inl ⟨by omega, h2⟩)
    · exact .inr (.inr ⟨by omega, h2⟩)

theorem event_s (l : Word) (hl : l.length ≤ 1000000) : SCalls Tryz.prog 20 [sA l] Heap.empty (.tup [.agg (evC (evR l).1), errA (evR l).2]) Heap.empty := by
  have c18 := split_s 32 l (by omega)
  obtain ⟨w0, q0, h0⟩ : ∃ w q, wordR ⟨pieces 32 l, false⟩ = (w, q) := ⟨_, _, rfl⟩
  have l00 : ∀ w ∈ (⟨pieces 32 l, false⟩ : RS).ws, w.length ≤ 1000000 := fun w hw => Nat.le_trans (pieces_len 32 l w hw) (by omega)
  have l0 := (wordR_len _ _ l00).2
  rw [h0] at l0
  obtain ⟨d, hd⟩ : ∃ d, doV w0 = d := ⟨_, rfl⟩
  have hd12 := doV_le w0
  rw [hd] at hd12
  obtain ⟨v1, s1, h1⟩ : ∃ v s, numR2 q0 = (v, s) := ⟨_, _, rfl⟩
  have l1 := numR2_len q0 _ l0
  rw [h1] at l1
  refine scalls_of_k (sz := 65) (Tryz.call20) Tryz.func20 rfl (Nat.zero_le _) (by kernel_rfl) (fun R hR => ?_)
  refine scode_seq_k (fun K1 hK1 => ?_)
  refine scode_region (by kernel_rfl) ?_
  simp [go_sem]
  refine hK1 _ _ ?_
  try clear hK1 K1
  refine scode_seq_mid (EvS0 ⟨pieces 32 l, false⟩) ?_ ?_
  · skip
    refine scode_region (by kernel_rfl) ?_
    refine w_take 2 (fun K3 hK3 => ?_)
    simp [go_sem]
    refine ⟨_, _, scalls_frame c18 (by simp [go_sem]) (by simp [wA_lt]) _, ?_⟩
    refine hK3 _ _ ?_
    clear hK3 K3
    simp [go_sem]
    exact ⟨by simp [go_sem], by simp [go_sem], by simp [go_sem], by simp [go_sem, rC, errA], by simp [go_sem]⟩
  rintro env H ⟨e2, e4, g0, g1, hn⟩
  have cw := word_s g1
  rw [h0] at cw
  refine scode_seq_mid (fun env H => EvS0 q0 env H ∧ env 5 = sA w0) ?_ ?_
  · skip
    refine scode_hide (fun K5 hK5 => ?_)
    refine scode_region (by kernel_rfl) ?_
    refine w_take 2 (fun K6 hK6 => ?_)
    simp [go_sem, e4]
    refine ⟨_, _, cw, ?_⟩
    refine hK6 _ _ ?_
    clear hK6 K6
    simp [go_sem, e4]
    refine hK5 _ _ ?_
    exact ⟨⟨by simp [go_sem, e2], by simp [go_sem, e4], by simp [go_sem, g0], by simp [go_sem, g1], by simp [go_sem, hn]⟩, by simp [go_sem]⟩
  rintro env H ⟨⟨e2, e4, g0, g1, hn⟩, e5⟩
  refine scode_seq_mid (fun env H => EvS0 q0 env H ∧ env 5 = sA w0 ∧ env 6 = .int 1) ?_ ?_
  · skip
    refine scode_hide (fun K8 hK8 => ?_)
    refine scode_region (by kernel_rfl) ?_
    simp [go_sem]
    refine hK8 _ _ ?_
    exact ⟨⟨by simp [go_sem, e2], by simp [go_sem, e4], by simp [go_sem, g0], by simp [go_sem, g1], by simp [go_sem, hn]⟩, by simp [go_sem, e5], by simp [go_sem]⟩
  rintro env H ⟨⟨e2, e4, g0, g1, hn⟩, e5, e6⟩
  refine scode_seq_mid (fun env H => EvS0 q0 env H ∧ env 6 = .int d) ?_ ?_
  · skip
    refine scode_block ?_
    refine scode_loop (Inv := fun n env H => ∃ k : Nat, n = 12 - k ∧ 1 ≤ k ∧ k ≤ 12 ∧ EvS0 q0 env H ∧ env 5 = sA w0 ∧ env 6 = .int k ∧ ∀ j, 1 ≤ j → j < k → evName j ≠ w0) ?_ (n := 11) (⟨1, rfl, by omega, by omega, ⟨e2, e4, g0, g1, hn⟩, e5, e6, fun j h1 h2 => by omega⟩)
    clear e2 e4 g0 g1 hn e5 e6
    rintro n env H ⟨k, rfl, hk1, hk2, ⟨e2, e4, g0, g1, hn⟩, e5, e6, hno⟩
    refine scode_seq_k (fun K10 hK10 => ?_)
    refine scode_seq_k (fun K11 hK11 => ?_)
    rcases k_cases k w0 hk2 with hk | ⟨hk, hmk⟩ | ⟨hk, hmk⟩
    · skip
      subst hk
      have hdd : d = 12 := by rw [← hd]; exact doV_miss w0 fun j j1 j2 => hno j j1 (by omega)
      subst hdd
      refine scode_region (by kernel_rfl) ?_
      simp [go_sem, e6]
      refine hK11 _ _ ?_
      try clear hK11 K11
      refine scode_if (b := false) (by simp [go_sem]) (fun h => by cases h) (fun _ => ?_)
      refine scode_exit ?_
      exact ⟨⟨e2, e4, g0, g1, hn⟩, e6⟩
    · skip
      have hdd : d = k := by rw [← hd]; exact doV_hit w0 k hk1 hk hmk
      subst hdd
      have hki : (d : Int) ≤ 11 := by omega
      have hnm : (nmI (d : Int) == w0) = true := by unfold nmI; simp [hmk]
      refine scode_region (by kernel_rfl) ?_
      refine w_take 5 (fun K12 hK12 => ?_)
      simp [go_sem, e5, e6, hki, hnm]
      refine ⟨_, _, name_H _ _, ?_⟩
      refine hK12 _ _ ?_
      clear hK12 K12
      simp [go_sem, e5, e6, hki, hnm]
      refine hK11 _ _ ?_
      try clear hK11 K11
      refine scode_if (b := false) (by simp [go_sem]) (fun h => by cases h) (fun _ => ?_)
      refine scode_exit ?_
      exact ⟨⟨e2, e4, g0, g1, hn⟩, e6⟩
    · skip
      have hki : (k : Int) ≤ 11 := by omega
      have hnm : (nmI (k : Int) == w0) = false := by unfold nmI; simp [hmk]
      refine scode_region (by kernel_rfl) ?_
      refine w_take 5 (fun K13 hK13 => ?_)
      simp [go_sem, e5, e6, hki, hnm]
      refine ⟨_, _, name_H _ _, ?_⟩
      refine hK13 _ _ ?_
      clear hK13 K13
      simp [go_sem, e5, e6, hki, hnm]
      refine hK11 _ _ ?_
      try clear hK11 K11
      refine scode_if (b := true) (by simp [go_sem]) (fun _ => ?_) (fun h => by cases h)
      refine scode_skip ?_
      refine hK10 _ _ ?_
      try clear hK10 K10
      refine scode_block ?_
      refine scode_hide (fun K14 hK14 => ?_)
      refine scode_region (by kernel_rfl) ?_
      simp [go_sem, e6]
      refine hK14 _ _ ?_
      have hw := i64_succ k (by omega)
      exact ⟨12 - (k + 1), by omega, k + 1, rfl, by omega, by omega, ⟨by simp [go_sem, e2], by simp [go_sem, e4], by simp [go_sem, g0], by simp [go_sem, g1], by simp [go_sem, hn]⟩, by simp [go_sem, e5], by simp [go_sem, hw], fun j j1 j2 => by
        rcases Nat.lt_or_ge j k with h | h
        · exact hno j j1 h
        · obtain rfl : j = k := by omega
          exact hmk⟩
  rintro env H ⟨⟨e2, e4, g0, g1, hn⟩, e6⟩
  have cn := num_s l0 g1
  rw [h1] at cn
  refine scode_seq_mid (fun env H => env 2 = .ptr 0 0 ∧ env 4 = .ptr 1 0 ∧ env 6 = .int d ∧ env 7 = .ptr 2 0 ∧ H.get 0 = some [.int 0, .int 0, .int 0, .int 0, .nil] ∧ H.get 1 = some (rC s1) ∧ H.get 2 = some [.int d, .int v1, .int 0, .int 0, .nil]) ?_ ?_
  · skip
    refine scode_hide (fun K16 hK16 => ?_)
    refine scode_region (by kernel_rfl) ?_
    refine w_take 3 (fun K17 hK17 => ?_)
    simp [go_sem, e4, e6, hn]
    refine ⟨_, _, cn, ?_⟩
    refine hK17 _ _ ?_
    clear hK17 K17
    simp [go_sem, e4, e6, hn]
    refine hK16 _ _ ?_
    exact ⟨by simp [go_sem, e2], by simp [go_sem, e4], by simp [go_sem, e6], by simp [go_sem, hn], by simp [go_sem, g0, hn], by simp [go_sem, g1, hn], by simp [go_sem, hn]⟩
  rintro env H ⟨e2, e4, e6, e7, g0, g1, g2⟩
  refine scode_seq_k (fun K18 hK18 => ?_)
  refine scode_seq_k (fun K19 hK19 => ?_)
  rcases twelve d hd12 with rfl | rfl | rfl | rfl | rfl | rfl | rfl | rfl | rfl | rfl | rfl | rfl
  · skip
    refine scode_region (by kernel_rfl) ?_
    simp [go_sem, e6]
    refine hK19 _ _ ?_
    try clear hK19 K19
    refine scode_block ?_
    refine scode_seq_k (fun K20 hK20 => ?_)
    refine scode_block ?_
    refine scode_seq_k (fun K21 hK21 => ?_)
    refine scode_block ?_
    refine scode_seq_k (fun K22 hK22 => ?_)
    refine scode_block ?_
    refine scode_seq_k (fun K23 hK23 => ?_)
    refine scode_block ?_
    refine scode_seq_k (fun K24 hK24 => ?_)
    refine scode_block ?_
    refine scode_seq_k (fun K25 hK25 => ?_)
    refine scode_block ?_
    refine scode_seq_k (fun K26 hK26 => ?_)
    refine scode_seq_k (fun K27 hK27 => ?_)
    refine scode_seq_k (fun K28 hK28 => ?_)
    refine scode_seq_k (fun K29 hK29 => ?_)
    refine scode_region (by kernel_rfl) ?_
    simp [go_sem]
    refine hK29 _ _ ?_
    try clear hK29 K29
    refine scode_if (b := true) (by simp [go_sem]) (fun _ => ?_) (fun h => by cases h)
    refine scode_skip ?_
    refine hK28 _ _ ?_
    try clear hK28 K28
    refine scode_if (b := true) (by simp [go_sem]) (fun _ => ?_) (fun h => by cases h)
    refine scode_exit ?_
    refine hK25 _ _ ?_
    try clear hK25 K25
    refine scode_exit ?_
    refine hK18 _ _ ?_
    try clear hK18 K18
    refine scode_seq_k (fun K30 hK30 => ?_)
    refine scode_gen (fun env H => env 2 = .ptr 0 0 ∧ env 4 = .ptr 1 0 ∧ env 7 = .ptr 2 0 ∧ H.get 0 = some [.int 0, .int 0, .int 0, .int 0, .nil] ∧ H.get 1 = some (rC s1) ∧ H.get 2 = some [.int 1, .int v1, .int 0, .int 0, .nil]) ⟨by simp [go_sem, e2], by simp [go_sem, e4], by simp [go_sem, e7], by simp [go_sem, g0], by simp [go_sem, g1], by simp [go_sem, g2, bA]⟩ ?_
    clear e2 e4 e7 g0 g1 g2
    rintro env H ⟨e2, e4, e7, g0, g1, g2⟩
    obtain ⟨sz, co⟩ := over_s g1
    have hres : evR l = (⟨1, v1, 0, 0, []⟩, overR s1) := by unfold evR; simp only [h0, hd, h1]; rfl
    refine scode_draw mixed (by kernel_rfl) (bf := [0, 0, 2, 7, 15]) (by kernel_rfl) ?_
    simp [go_sem, e4, e7, g2, befL, bA]
    refine ⟨_, _, co, ?_⟩
    simp [go_sem, e2, e7, g0, g1, g2, befL, bA]
    refine hK30 _ _ ?_
    try clear hK30 K30
    refine scode_ret ?_
    simp only [go_sem]
    refine hR _ _ ?_
    rw [hres]
    refine ret_pure (v := .tup [.agg [.int 1, .int v1, .int 0, .int 0, .nil], errA (overR s1)]) (by simp [go_sem, e2, g0, g1, g2, bA]) ?_ (empty_le _) (Nat.zero_le _) (by simp [go_sem, evC, errA_lt, bA_lt])
    exact .tupL (.cons (froz_ev 1 v1 0 0 _ [] (.inr ⟨rfl, rfl⟩)) (.cons (.same _) .nil))
  · skip
    refine scode_region (by kernel_rfl) ?_
    simp [go_sem, e6]
    refine hK19 _ _ ?_
    try clear hK19 K19
    refine scode_block ?_
    refine scode_seq_k (fun K31 hK31 => ?_)
    refine scode_block ?_
    refine scode_seq_k (fun K32 hK32 => ?_)
    refine scode_block ?_
    refine scode_seq_k (fun K33 hK33 => ?_)
    refine scode_block ?_
    refine scode_seq_k (fun K34 hK34 => ?_)
    refine scode_block ?_
    refine scode_seq_k (fun K35 hK35 => ?_)
    refine scode_block ?_
    refine scode_seq_k (fun K36 hK36 => ?_)
    refine scode_block ?_
    refine scode_seq_k (fun K37 hK37 => ?_)
    refine scode_seq_k (fun K38 hK38 => ?_)
    refine scode_seq_k (fun K39 hK39 => ?_)
    refine scode_seq_k (fun K40 hK40 => ?_)
    refine scode_region (by kernel_rfl) ?_
    simp [go_sem]
    refine hK40 _ _ ?_
    try clear hK40 K40
    refine scode_if (b := false) (by simp [go_sem]) (fun h => by cases h) (fun _ => ?_)
    refine scode_seq_k (fun K41 hK41 => ?_)
    refine scode_region (by kernel_rfl) ?_
    simp [go_sem]
    refine hK41 _ _ ?_
    try clear hK41 K41
    refine scode_if (b := true) (by simp [go_sem]) (fun _ => ?_) (fun h => by cases h)
    refine scode_skip ?_
    refine hK39 _ _ ?_
    try clear hK39 K39
    refine scode_if (b := true) (by simp [go_sem]) (fun _ => ?_) (fun h => by cases h)
    refine scode_exit ?_
    refine hK36 _ _ ?_
    try clear hK36 K36
    refine scode_exit ?_
    refine hK18 _ _ ?_
    try clear hK18 K18
    refine scode_seq_k (fun K42 hK42 => ?_)
    refine scode_gen (fun env H => env 2 = .ptr 0 0 ∧ env 4 = .ptr 1 0 ∧ env 7 = .ptr 2 0 ∧ H.get 0 = some [.int 0, .int 0, .int 0, .int 0, .nil] ∧ H.get 1 = some (rC s1) ∧ H.get 2 = some [.int 2, .int v1, .int 0, .int 0, .nil]) ⟨by simp [go_sem, e2], by simp [go_sem, e4], by simp [go_sem, e7], by simp [go_sem, g0], by simp [go_sem, g1], by simp [go_sem, g2, bA]⟩ ?_
    clear e2 e4 e7 g0 g1 g2
    rintro env H ⟨e2, e4, e7, g0, g1, g2⟩
    obtain ⟨sz, co⟩ := over_s g1
    have hres : evR l = (⟨2, v1, 0, 0, []⟩, overR s1) := by unfold evR; simp only [h0, hd, h1]; rfl
    refine scode_draw mixed (by kernel_rfl) (bf := [0, 0, 2, 7, 15]) (by kernel_rfl) ?_
    simp [go_sem, e4, e7, g2, befL, bA]
    refine ⟨_, _, co, ?_⟩
    simp [go_sem, e2, e7, g0, g1, g2, befL, bA]
    refine hK42 _ _ ?_
    try clear hK42 K42
    refine scode_ret ?_
    simp only [go_sem]
    refine hR _ _ ?_
    rw [hres]
    refine ret_pure (v := .tup [.agg [.int 2, .int v1, .int 0, .int 0, .nil], errA (overR s1)]) (by simp [go_sem, e2, g0, g1, g2, bA]) ?_ (empty_le _) (Nat.zero_le _) (by simp [go_sem, evC, errA_lt, bA_lt])
    exact .tupL (.cons (froz_ev 2 v1 0 0 _ [] (.inr ⟨rfl, rfl⟩)) (.cons (.same _) .nil))
  · skip
    refine scode_region (by kernel_rfl) ?_
    simp [go_sem, e6]
    refine hK19 _ _ ?_
    try clear hK19 K19
    refine scode_block ?_
    refine scode_seq_k (fun K43 hK43 => ?_)
    refine scode_block ?_
    refine scode_seq_k (fun K44 hK44 => ?_)
    refine scode_block ?_
    refine scode_seq_k (fun K45 hK45 => ?_)
    refine scode_block ?_
    refine scode_seq_k (fun K46 hK46 => ?_)
    refine scode_block ?_
    refine scode_seq_k (fun K47 hK47 => ?_)
    refine scode_block ?_
    refine scode_seq_k (fun K48 hK48 => ?_)
    refine scode_block ?_
    refine scode_seq_k (fun K49 hK49 => ?_)
    refine scode_seq_k (fun K50 hK50 => ?_)
    refine scode_seq_k (fun K51 hK51 => ?_)
    refine scode_seq_k (fun K52 hK52 => ?_)
    refine scode_region (by kernel_rfl) ?_
    simp [go_sem]
    refine hK52 _ _ ?_
    try clear hK52 K52
    refine scode_if (b := false) (by simp [go_sem]) (fun h => by cases h) (fun _ => ?_)
    refine scode_seq_k (fun K53 hK53 => ?_)
    refine scode_region (by kernel_rfl) ?_
    simp [go_sem]
    refine hK53 _ _ ?_
    try clear hK53 K53
    refine scode_if (b := false) (by simp [go_sem]) (fun h => by cases h) (fun _ => ?_)
    refine scode_region (by kernel_rfl) ?_
    simp [go_sem]
    refine hK51 _ _ ?_
    try clear hK51 K51
    refine scode_if (b := false) (by simp [go_sem]) (fun h => by cases h) (fun _ => ?_)
    refine scode_skip ?_
    refine hK50 _ _ ?_
    try clear hK50 K50
    refine scode_seq_k (fun K54 hK54 => ?_)
    refine scode_seq_k (fun K55 hK55 => ?_)
    refine scode_seq_k (fun K56 hK56 => ?_)
    refine scode_region (by kernel_rfl) ?_
    simp [go_sem]
    refine hK56 _ _ ?_
    try clear hK56 K56
    refine scode_if (b := false) (by simp [go_sem]) (fun h => by cases h) (fun _ => ?_)
    refine scode_seq_k (fun K57 hK57 => ?_)
    refine scode_region (by kernel_rfl) ?_
    simp [go_sem]
    refine hK57 _ _ ?_
    try clear hK57 K57
    refine scode_if (b := false) (by simp [go_sem]) (fun h => by cases h) (fun _ => ?_)
    refine scode_seq_k (fun K58 hK58 => ?_)
    refine scode_region (by kernel_rfl) ?_
    simp [go_sem]
    refine hK58 _ _ ?_
    try clear hK58 K58
    refine scode_if (b := false) (by simp [go_sem]) (fun h => by cases h) (fun _ => ?_)
    refine scode_region (by kernel_rfl) ?_
    simp [go_sem]
    refine hK55 _ _ ?_
    try clear hK55 K55
    refine scode_if (b := false) (by simp [go_sem]) (fun h => by cases h) (fun _ => ?_)
    refine scode_skip ?_
    refine hK54 _ _ ?_
    try clear hK54 K54
    refine scode_seq_k (fun K59 hK59 => ?_)
    refine scode_seq_k (fun K60 hK60 => ?_)
    refine scode_region (by kernel_rfl) ?_
    simp [go_sem]
    refine hK60 _ _ ?_
    try clear hK60 K60
    refine scode_if (b := true) (by simp [go_sem]) (fun _ => ?_) (fun h => by cases h)
    refine scode_exit ?_
    refine hK46 _ _ ?_
    try clear hK46 K46
    refine scode_seq_k (fun K61 hK61 => ?_)
    refine scode_seq_k (fun K62 hK62 => ?_)
    obtain ⟨v2, s2, h2⟩ : ∃ v s, numR2 s1 = (v, s) := ⟨_, _, rfl⟩
    have l2 := numR2_len s1 _ l1
    rw [h2] at l2
    have cc := num_s l1 g1
    rw [h2] at cc
    refine scode_region (by kernel_rfl) ?_
    refine w_take 2 (fun K63 hK63 => ?_)
    simp [go_sem, e4, e7, g2]
    refine ⟨_, _, cc, ?_⟩
    refine hK63 _ _ ?_
    clear hK63 K63
    simp [go_sem, e4, e7, g2]
    refine hK62 _ _ ?_
    try clear hK62 K62
    refine scode_gen (fun env H => env 2 = .ptr 0 0 ∧ env 4 = .ptr 1 0 ∧ env 7 = .ptr 2 0 ∧ H.get 0 = some [.int 0, .int 0, .int 0, .int 0, .nil] ∧ H.get 1 = some (rC s2) ∧ H.get 2 = some [.int 3, .int v1, .int 0, .int v2, .nil]) ⟨by simp [go_sem, e2], by simp [go_sem, e4], by simp [go_sem, e7], by simp [go_sem, g0], by simp [go_sem, g1], by simp [go_sem, g2, bA]⟩ ?_
    clear e2 e4 e7 g0 g1 g2
    rintro env H ⟨e2, e4, e7, g0, g1, g2⟩
    obtain ⟨v3, s3, h3⟩ : ∃ v s, bytesR s2 = (v, s) := ⟨_, _, rfl⟩
    have cc := bytes_s l2 g1
    rw [h3] at cc
    refine scode_region (by kernel_rfl) ?_
    refine w_take 2 (fun K64 hK64 => ?_)
    simp [go_sem, e4, e7, g2, bA]
    refine ⟨_, _, cc, ?_⟩
    refine hK64 _ _ ?_
    clear hK64 K64
    simp [go_sem, e4, e7, g2, bA]
    refine hK61 _ _ ?_
    try clear hK61 K61
    refine scode_exit ?_
    refine hK18 _ _ ?_
    try clear hK18 K18
    refine scode_seq_k (fun K65 hK65 => ?_)
    refine scode_gen (fun env H => env 2 = .ptr 0 0 ∧ env 4 = .ptr 1 0 ∧ env 7 = .ptr 2 0 ∧ H.get 0 = some [.int 0, .int 0, .int 0, .int 0, .nil] ∧ H.get 1 = some (rC s3) ∧ H.get 2 = some [.int 3, .int v1, .int 0, .int v2, bA v3]) ⟨by simp [go_sem, e2], by simp [go_sem, e4], by simp [go_sem, e7], by simp [go_sem, g0], by simp [go_sem, g1], by simp [go_sem, g2, bA]⟩ ?_
    clear e2 e4 e7 g0 g1 g2
    rintro env H ⟨e2, e4, e7, g0, g1, g2⟩
    obtain ⟨sz, co⟩ := over_s g1
    have hres : evR l = (⟨3, v1, 0, v2, v3⟩, overR s3) := by unfold evR; simp only [h0, hd, h1, h2, h3]; rfl
    refine scode_draw mixed (by kernel_rfl) (bf := [0, 0, 2, 7, 15]) (by kernel_rfl) ?_
    simp [go_sem, e4, e7, g2, befL, bA]
    refine ⟨_, _, co, ?_⟩
    simp [go_sem, e2, e7, g0, g1, g2, befL, bA]
    refine hK65 _ _ ?_
    try clear hK65 K65
    refine scode_ret ?_
    simp only [go_sem]
    refine hR _ _ ?_
    rw [hres]
    refine ret_pure (v := .tup [.agg [.int 3, .int v1, .int 0, .int v2, bA v3], errA (overR s3)]) (by simp [go_sem, e2, g0, g1, g2, bA]) ?_ (empty_le _) (Nat.zero_le _) (by simp [go_sem, evC, errA_lt, bA_lt])
    exact .tupL (.cons (froz_ev 3 v1 0 v2 _ v3 (.inl rfl)) (.cons (.same _) .nil))
  · skip
    refine scode_region (by kernel_rfl) ?_
    simp [go_sem, e6]
    refine hK19 _ _ ?_
    try clear hK19 K19
    refine scode_block ?_
    refine scode_seq_k (fun K66 hK66 => ?_)
    refine scode_block ?_
    refine scode_seq_k (fun K67 hK67 => ?_)
    refine scode_block ?_
    refine scode_seq_k (fun K68 hK68 => ?_)
    refine scode_block ?_
    refine scode_seq_k (fun K69 hK69 => ?_)
    refine scode_block ?_
    refine scode_seq_k (fun K70 hK70 => ?_)
    refine scode_block ?_
    refine scode_seq_k (fun K71 hK71 => ?_)
    refine scode_block ?_
    refine scode_seq_k (fun K72 hK72 => ?_)
    refine scode_seq_k (fun K73 hK73 => ?_)
    refine scode_seq_k (fun K74 hK74 => ?_)
    refine scode_seq_k (fun K75 hK75 => ?_)
    refine scode_region (by kernel_rfl) ?_
    simp [go_sem]
    refine hK75 _ _ ?_
    try clear hK75 K75
    refine scode_if (b := false) (by simp [go_sem]) (fun h => by cases h) (fun _ => ?_)
    refine scode_seq_k (fun K76 hK76 => ?_)
    refine scode_region (by kernel_rfl) ?_
    simp [go_sem]
    refine hK76 _ _ ?_
    try clear hK76 K76
    refine scode_if (b := false) (by simp [go_sem]) (fun h => by cases h) (fun _ => ?_)
    refine scode_region (by kernel_rfl) ?_
    simp [go_sem]
    refine hK74 _ _ ?_
    try clear hK74 K74
    refine scode_if (b := true) (by simp [go_sem]) (fun _ => ?_) (fun h => by cases h)
    refine scode_exit ?_
    refine hK71 _ _ ?_
    try clear hK71 K71
    refine scode_exit ?_
    refine hK18 _ _ ?_
    try clear hK18 K18
    refine scode_seq_k (fun K77 hK77 => ?_)
    refine scode_gen (fun env H => env 2 = .ptr 0 0 ∧ env 4 = .ptr 1 0 ∧ env 7 = .ptr 2 0 ∧ H.get 0 = some [.int 0, .int 0, .int 0, .int 0, .nil] ∧ H.get 1 = some (rC s1) ∧ H.get 2 = some [.int 4, .int v1, .int 0, .int 0, .nil]) ⟨by simp [go_sem, e2], by simp [go_sem, e4], by simp [go_sem, e7], by simp [go_sem, g0], by simp [go_sem, g1], by simp [go_sem, g2, bA]⟩ ?_
    clear e2 e4 e7 g0 g1 g2
    rintro env H ⟨e2, e4, e7, g0, g1, g2⟩
    obtain ⟨sz, co⟩ := over_s g1
    have hres : evR l = (⟨4, v1, 0, 0, []⟩, overR s1) := by unfold evR; simp only [h0, hd, h1]; rfl
    refine scode_draw mixed (by kernel_rfl) (bf := [0, 0, 2, 7, 15]) (by kernel_rfl) ?_
    simp [go_sem, e4, e7, g2, befL, bA]
    refine ⟨_, _, co, ?_⟩
    simp [go_sem, e2, e7, g0, g1, g2, befL, bA]
    refine hK77 _ _ ?_
    try clear hK77 K77
    refine scode_ret ?_
    simp only [go_sem]
    refine hR _ _ ?_
    rw [hres]
    refine ret_pure (v := .tup [.agg [.int 4, .int v1, .int 0, .int 0, .nil], errA (overR s1)]) (by simp [go_sem, e2, g0, g1, g2, bA]) ?_ (empty_le _) (Nat.zero_le _) (by simp [go_sem, evC, errA_lt, bA_lt])
    exact .tupL (.cons (froz_ev 4 v1 0 0 _ [] (.inr ⟨rfl, rfl⟩)) (.cons (.same _) .nil))
  · skip
    refine scode_region (by kernel_rfl) ?_
    simp [go_sem, e6]
    refine hK19 _ _ ?_
    try clear hK19 K19
    refine scode_block ?_
    refine scode_seq_k (fun K78 hK78 => ?_)
    refine scode_block ?_
    refine scode_seq_k (fun K79 hK79 => ?_)
    refine scode_block ?_
    refine scode_seq_k (fun K80 hK80 => ?_)
    refine scode_block ?_
    refine scode_seq_k (fun K81 hK81 => ?_)
    refine scode_block ?_
    refine scode_seq_k (fun K82 hK82 => ?_)
    refine scode_block ?_
    refine scode_seq_k (fun K83 hK83 => ?_)
    refine scode_block ?_
    refine scode_seq_k (fun K84 hK84 => ?_)
    refine scode_seq_k (fun K85 hK85 => ?_)
    refine scode_seq_k (fun K86 hK86 => ?_)
    refine scode_seq_k (fun K87 hK87 => ?_)
    refine scode_region (by kernel_rfl) ?_
    simp [go_sem]
    refine hK87 _ _ ?_
    try clear hK87 K87
    refine scode_if (b := false) (by simp [go_sem]) (fun h => by cases h) (fun _ => ?_)
    refine scode_seq_k (fun K88 hK88 => ?_)
    refine scode_region (by kernel_rfl) ?_
    simp [go_sem]
    refine hK88 _ _ ?_
    try clear hK88 K88
    refine scode_if (b := false) (by simp [go_sem]) (fun h => by cases h) (fun _ => ?_)
    refine scode_region (by kernel_rfl) ?_
    simp [go_sem]
    refine hK86 _ _ ?_
    try clear hK86 K86
    refine scode_if (b := false) (by simp [go_sem]) (fun h => by cases h) (fun _ => ?_)
    refine scode_skip ?_
    refine hK85 _ _ ?_
    try clear hK85 K85
    refine scode_seq_k (fun K89 hK89 => ?_)
    refine scode_seq_k (fun K90 hK90 => ?_)
    refine scode_seq_k (fun K91 hK91 => ?_)
    refine scode_region (by kernel_rfl) ?_
    simp [go_sem]
    refine hK91 _ _ ?_
    try clear hK91 K91
    refine scode_if (b := true) (by simp [go_sem]) (fun _ => ?_) (fun h => by cases h)
    refine scode_skip ?_
    refine hK90 _ _ ?_
    try clear hK90 K90
    refine scode_if (b := true) (by simp [go_sem]) (fun _ => ?_) (fun h => by cases h)
    refine scode_exit ?_
    refine hK82 _ _ ?_
    try clear hK82 K82
    refine scode_seq_k (fun K92 hK92 => ?_)
    obtain ⟨v2, s2, h2⟩ : ∃ v s, numR2 s1 = (v, s) := ⟨_, _, rfl⟩
    have l2 := numR2_len s1 _ l1
    rw [h2] at l2
    have cc := num_s l1 g1
    rw [h2] at cc
    refine scode_region (by kernel_rfl) ?_
    refine w_take 2 (fun K93 hK93 => ?_)
    simp [go_sem, e4, e7, g2]
    refine ⟨_, _, cc, ?_⟩
    refine hK93 _ _ ?_
    clear hK93 K93
    simp [go_sem, e4, e7, g2]
    refine hK92 _ _ ?_
    try clear hK92 K92
    refine scode_exit ?_
    refine hK18 _ _ ?_
    try clear hK18 K18
    refine scode_seq_k (fun K94 hK94 => ?_)
    refine scode_gen (fun env H => env 2 = .ptr 0 0 ∧ env 4 = .ptr 1 0 ∧ env 7 = .ptr 2 0 ∧ H.get 0 = some [.int 0, .int 0, .int 0, .int 0, .nil] ∧ H.get 1 = some (rC s2) ∧ H.get 2 = some [.int 5, .int v1, .int v2, .int 0, .nil]) ⟨by simp [go_sem, e2], by simp [go_sem, e4], by simp [go_sem, e7], by simp [go_sem, g0], by simp [go_sem, g1], by simp [go_sem, g2, bA]⟩ ?_
    clear e2 e4 e7 g0 g1 g2
    rintro env H ⟨e2, e4, e7, g0, g1, g2⟩
    obtain ⟨sz, co⟩ := over_s g1
    have hres : evR l = (⟨5, v1, v2, 0, []⟩, overR s2) := by unfold evR; simp only [h0, hd, h1, h2]; rfl
    refine scode_draw mixed (by kernel_rfl) (bf := [0, 0, 2, 7, 15]) (by kernel_rfl) ?_
    simp [go_sem, e4, e7, g2, befL, bA]
    refine ⟨_, _, co, ?_⟩
    simp [go_sem, e2, e7, g0, g1, g2, befL, bA]
    refine hK94 _ _ ?_
    try clear hK94 K94
    refine scode_ret ?_
    simp only [go_sem]
    refine hR _ _ ?_
    rw [hres]
    refine ret_pure (v := .tup [.agg [.int 5, .int v1, .int v2, .int 0, .nil], errA (overR s2)]) (by simp [go_sem, e2, g0, g1, g2, bA]) ?_ (empty_le _) (Nat.zero_le _) (by simp [go_sem, evC, errA_lt, bA_lt])
    exact .tupL (.cons (froz_ev 5 v1 v2 0 _ [] (.inr ⟨rfl, rfl⟩)) (.cons (.same _) .nil))
  · skip
    refine scode_region (by kernel_rfl) ?_
    simp [go_sem, e6]
    refine hK19 _ _ ?_
    try clear hK19 K19
    refine scode_block ?_
    refine scode_seq_k (fun K95 hK95 => ?_)
    refine scode_block ?_
    refine scode_seq_k (fun K96 hK96 => ?_)
    refine scode_block ?_
    refine scode_seq_k (fun K97 hK97 => ?_)
    refine scode_block ?_
    refine scode_seq_k (fun K98 hK98 => ?_)
    refine scode_block ?_
    refine scode_seq_k (fun K99 hK99 => ?_)
    refine scode_block ?_
    refine scode_seq_k (fun K100 hK100 => ?_)
    refine scode_block ?_
    refine scode_seq_k (fun K101 hK101 => ?_)
    refine scode_seq_k (fun K102 hK102 => ?_)
    refine scode_seq_k (fun K103 hK103 => ?_)
    refine scode_seq_k (fun K104 hK104 => ?_)
    refine scode_region (by kernel_rfl) ?_
    simp [go_sem]
    refine hK104 _ _ ?_
    try clear hK104 K104
    refine scode_if (b := false) (by simp [go_sem]) (fun h => by cases h) (fun _ => ?_)
    refine scode_seq_k (fun K105 hK105 => ?_)
    refine scode_region (by kernel_rfl) ?_
    simp [go_sem]
    refine hK105 _ _ ?_
    try clear hK105 K105
    refine scode_if (b := false) (by simp [go_sem]) (fun h => by cases h) (fun _ => ?_)
    refine scode_region (by kernel_rfl) ?_
    simp [go_sem]
    refine hK103 _ _ ?_
    try clear hK103 K103
    refine scode_if (b := false) (by simp [go_sem]) (fun h => by cases h) (fun _ => ?_)
    refine scode_skip ?_
    refine hK102 _ _ ?_
    try clear hK102 K102
    refine scode_seq_k (fun K106 hK106 => ?_)
    refine scode_seq_k (fun K107 hK107 => ?_)
    refine scode_seq_k (fun K108 hK108 => ?_)
    refine scode_region (by kernel_rfl) ?_
    simp [go_sem]
    refine hK108 _ _ ?_
    try clear hK108 K108
    refine scode_if (b := false) (by simp [go_sem]) (fun h => by cases h) (fun _ => ?_)
    refine scode_seq_k (fun K109 hK109 => ?_)
    refine scode_region (by kernel_rfl) ?_
    simp [go_sem]
    refine hK109 _ _ ?_
    try clear hK109 K109
    refine scode_if (b := true) (by simp [go_sem]) (fun _ => ?_) (fun h => by cases h)
    refine scode_skip ?_
    refine hK107 _ _ ?_
    try clear hK107 K107
    refine scode_if (b := true) (by simp [go_sem]) (fun _ => ?_) (fun h => by cases h)
    refine scode_exit ?_
    refine hK99 _ _ ?_
    try clear hK99 K99
    refine scode_seq_k (fun K110 hK110 => ?_)
    obtain ⟨v2, s2, h2⟩ : ∃ v s, numR2 s1 = (v, s) := ⟨_, _, rfl⟩
    have l2 := numR2_len s1 _ l1
    rw [h2] at l2
    have cc := num_s l1 g1
    rw [h2] at cc
    refine scode_region (by kernel_rfl) ?_
    refine w_take 2 (fun K111 hK111 => ?_)
    simp [go_sem, e4, e7, g2]
    refine ⟨_, _, cc, ?_⟩
    refine hK111 _ _ ?_
    clear hK111 K111
    simp [go_sem, e4, e7, g2]
    refine hK110 _ _ ?_
    try clear hK110 K110
    refine scode_exit ?_
    refine hK18 _ _ ?_
    try clear hK18 K18
    refine scode_seq_k (fun K112 hK112 => ?_)
    refine scode_gen (fun env H => env 2 = .ptr 0 0 ∧ env 4 = .ptr 1 0 ∧ env 7 = .ptr 2 0 ∧ H.get 0 = some [.int 0, .int 0, .int 0, .int 0, .nil] ∧ H.get 1 = some (rC s2) ∧ H.get 2 = some [.int 6, .int v1, .int v2, .int 0, .nil]) ⟨by simp [go_sem, e2], by simp [go_sem, e4], by simp [go_sem, e7], by simp [go_sem, g0], by simp [go_sem, g1], by simp [go_sem, g2, bA]⟩ ?_
    clear e2 e4 e7 g0 g1 g2
    rintro env H ⟨e2, e4, e7, g0, g1, g2⟩
    obtain ⟨sz, co⟩ := over_s g1
    have hres : evR l = (⟨6, v1, v2, 0, []⟩, overR s2) := by unfold evR; simp only [h0, hd, h1, h2]; rfl
    refine scode_draw mixed (by kernel_rfl) (bf := [0, 0, 2, 7, 15]) (by kernel_rfl) ?_
    simp [go_sem, e4, e7, g2, befL, bA]
    refine ⟨_, _, co, ?_⟩
    simp [go_sem, e2, e7, g0, g1, g2, befL, bA]
    refine hK112 _ _ ?_
    try clear hK112 K112
    refine scode_ret ?_
    simp only [go_sem]
    refine hR _ _ ?_
    rw [hres]
    refine ret_pure (v := .tup [.agg [.int 6, .int v1, .int v2, .int 0, .nil], errA (overR s2)]) (by simp [go_sem, e2, g0, g1, g2, bA]) ?_ (empty_le _) (Nat.zero_le _) (by simp [go_sem, evC, errA_lt, bA_lt])
    exact .tupL (.cons (froz_ev 6 v1 v2 0 _ [] (.inr ⟨rfl, rfl⟩)) (.cons (.same _) .nil))
  · skip
    refine scode_region (by kernel_rfl) ?_
    simp [go_sem, e6]
    refine hK19 _ _ ?_
    try clear hK19 K19
    refine scode_block ?_
    refine scode_seq_k (fun K113 hK113 => ?_)
    refine scode_block ?_
    refine scode_seq_k (fun K114 hK114 => ?_)
    refine scode_block ?_
    refine scode_seq_k (fun K115 hK115 => ?_)
    refine scode_block ?_
    refine scode_seq_k (fun K116 hK116 => ?_)
    refine scode_block ?_
    refine scode_seq_k (fun K117 hK117 => ?_)
    refine scode_block ?_
    refine scode_seq_k (fun K118 hK118 => ?_)
    refine scode_block ?_
    refine scode_seq_k (fun K119 hK119 => ?_)
    refine scode_seq_k (fun K120 hK120 => ?_)
    refine scode_seq_k (fun K121 hK121 => ?_)
    refine scode_seq_k (fun K122 hK122 => ?_)
    refine scode_region (by kernel_rfl) ?_
    simp [go_sem]
    refine hK122 _ _ ?_
    try clear hK122 K122
    refine scode_if (b := false) (by simp [go_sem]) (fun h => by cases h) (fun _ => ?_)
    refine scode_seq_k (fun K123 hK123 => ?_)
    refine scode_region (by kernel_rfl) ?_
    simp [go_sem]
    refine hK123 _ _ ?_
    try clear hK123 K123
    refine scode_if (b := false) (by simp [go_sem]) (fun h => by cases h) (fun _ => ?_)
    refine scode_region (by kernel_rfl) ?_
    simp [go_sem]
    refine hK121 _ _ ?_
    try clear hK121 K121
    refine scode_if (b := false) (by simp [go_sem]) (fun h => by cases h) (fun _ => ?_)
    refine scode_skip ?_
    refine hK120 _ _ ?_
    try clear hK120 K120
    refine scode_seq_k (fun K124 hK124 => ?_)
    refine scode_seq_k (fun K125 hK125 => ?_)
    refine scode_seq_k (fun K126 hK126 => ?_)
    refine scode_region (by kernel_rfl) ?_
    simp [go_sem]
    refine hK126 _ _ ?_
    try clear hK126 K126
    refine scode_if (b := false) (by simp [go_sem]) (fun h => by cases h) (fun _ => ?_)
    refine scode_seq_k (fun K127 hK127 => ?_)
    refine scode_region (by kernel_rfl) ?_
    simp [go_sem]
    refine hK127 _ _ ?_
    try clear hK127 K127
    refine scode_if (b := false) (by simp [go_sem]) (fun h => by cases h) (fun _ => ?_)
    refine scode_seq_k (fun K128 hK128 => ?_)
    refine scode_region (by kernel_rfl) ?_
    simp [go_sem]
    refine hK128 _ _ ?_
    try clear hK128 K128
    refine scode_if (b := true) (by simp [go_sem]) (fun _ => ?_) (fun h => by cases h)
    refine scode_skip ?_
    refine hK125 _ _ ?_
    try clear hK125 K125
    refine scode_if (b := true) (by simp [go_sem]) (fun _ => ?_) (fun h => by cases h)
    refine scode_exit ?_
    refine hK117 _ _ ?_
    try clear hK117 K117
    refine scode_seq_k (fun K129 hK129 => ?_)
    obtain ⟨v2, s2, h2⟩ : ∃ v s, numR2 s1 = (v, s) := ⟨_, _, rfl⟩
    have l2 := numR2_len s1 _ l1
    rw [h2] at l2
    have cc := num_s l1 g1
    rw [h2] at cc
    refine scode_region (by kernel_rfl) ?_
    refine w_take 2 (fun K130 hK130 => ?_)
    simp [go_sem, e4, e7, g2]
    refine ⟨_, _, cc, ?_⟩
    refine hK130 _ _ ?_
    clear hK130 K130
    simp [go_sem, e4, e7, g2]
    refine hK129 _ _ ?_
    try clear hK129 K129
    refine scode_exit ?_
    refine hK18 _ _ ?_
    try clear hK18 K18
    refine scode_seq_k (fun K131 hK131 => ?_)
    refine scode_gen (fun env H => env 2 = .ptr 0 0 ∧ env 4 = .ptr 1 0 ∧ env 7 = .ptr 2 0 ∧ H.get 0 = some [.int 0, .int 0, .int 0, .int 0, .nil] ∧ H.get 1 = some (rC s2) ∧ H.get 2 = some [.int 7, .int v1, .int v2, .int 0, .nil]) ⟨by simp [go_sem, e2], by simp [go_sem, e4], by simp [go_sem, e7], by simp [go_sem, g0], by simp [go_sem, g1], by simp [go_sem, g2, bA]⟩ ?_
    clear e2 e4 e7 g0 g1 g2
    rintro env H ⟨e2, e4, e7, g0, g1, g2⟩
    obtain ⟨sz, co⟩ := over_s g1
    have hres : evR l = (⟨7, v1, v2, 0, []⟩, overR s2) := by unfold evR; simp only [h0, hd, h1, h2]; rfl
    refine scode_draw mixed (by kernel_rfl) (bf := [0, 0, 2, 7, 15]) (by kernel_rfl) ?_
    simp [go_sem, e4, e7, g2, befL, bA]
    refine ⟨_, _, co, ?_⟩
    simp [go_sem, e2, e7, g0, g1, g2, befL, bA]
    refine hK131 _ _ ?_
    try clear hK131 K131
    refine scode_ret ?_
    simp only [go_sem]
    refine hR _ _ ?_
    rw [hres]
    refine ret_pure (v := .tup [.agg [.int 7, .int v1, .int v2, .int 0, .nil], errA (overR s2)]) (by simp [go_sem, e2, g0, g1, g2, bA]) ?_ (empty_le _) (Nat.zero_le _) (by simp [go_sem, evC, errA_lt, bA_lt])
    exact .tupL (.cons (froz_ev 7 v1 v2 0 _ [] (.inr ⟨rfl, rfl⟩)) (.cons (.same _) .nil))
  · skip
    refine scode_region (by kernel_rfl) ?_
    simp [go_sem, e6]
    refine hK19 _ _ ?_
    try clear hK19 K19
    refine scode_block ?_
    refine scode_seq_k (fun K132 hK132 => ?_)
    refine scode_block ?_
    refine scode_seq_k (fun K133 hK133 => ?_)
    refine scode_block ?_
    refine scode_seq_k (fun K134 hK134 => ?_)
    refine scode_block ?_
    refine scode_seq_k (fun K135 hK135 => ?_)
    refine scode_block ?_
    refine scode_seq_k (fun K136 hK136 => ?_)
    refine scode_block ?_
    refine scode_seq_k (fun K137 hK137 => ?_)
    refine scode_block ?_
    refine scode_seq_k (fun K138 hK138 => ?_)
    refine scode_seq_k (fun K139 hK139 => ?_)
    refine scode_seq_k (fun K140 hK140 => ?_)
    refine scode_seq_k (fun K141 hK141 => ?_)
    refine scode_region (by kernel_rfl) ?_
    simp [go_sem]
    refine hK141 _ _ ?_
    try clear hK141 K141
    refine scode_if (b := false) (by simp [go_sem]) (fun h => by cases h) (fun _ => ?_)
    refine scode_seq_k (fun K142 hK142 => ?_)
    refine scode_region (by kernel_rfl) ?_
    simp [go_sem]
    refine hK142 _ _ ?_
    try clear hK142 K142
    refine scode_if (b := false) (by simp [go_sem]) (fun h => by cases h) (fun _ => ?_)
    refine scode_region (by kernel_rfl) ?_
    simp [go_sem]
    refine hK140 _ _ ?_
    try clear hK140 K140
    refine scode_if (b := false) (by simp [go_sem]) (fun h => by cases h) (fun _ => ?_)
    refine scode_skip ?_
    refine hK139 _ _ ?_
    try clear hK139 K139
    refine scode_seq_k (fun K143 hK143 => ?_)
    refine scode_seq_k (fun K144 hK144 => ?_)
    refine scode_seq_k (fun K145 hK145 => ?_)
    refine scode_region (by kernel_rfl) ?_
    simp [go_sem]
    refine hK145 _ _ ?_
    try clear hK145 K145
    refine scode_if (b := false) (by simp [go_sem]) (fun h => by cases h) (fun _ => ?_)
    refine scode_seq_k (fun K146 hK146 => ?_)
    refine scode_region (by kernel_rfl) ?_
    simp [go_sem]
    refine hK146 _ _ ?_
    try clear hK146 K146
    refine scode_if (b := false) (by simp [go_sem]) (fun h => by cases h) (fun _ => ?_)
    refine scode_seq_k (fun K147 hK147 => ?_)
    refine scode_region (by kernel_rfl) ?_
    simp [go_sem]
    refine hK147 _ _ ?_
    try clear hK147 K147
    refine scode_if (b := false) (by simp [go_sem]) (fun h => by cases h) (fun _ => ?_)
    refine scode_region (by kernel_rfl) ?_
    simp [go_sem]
    refine hK144 _ _ ?_
    try clear hK144 K144
    refine scode_if (b := true) (by simp [go_sem]) (fun _ => ?_) (fun h => by cases h)
    refine scode_exit ?_
    refine hK136 _ _ ?_
    try clear hK136 K136
    refine scode_seq_k (fun K148 hK148 => ?_)
    obtain ⟨v2, s2, h2⟩ : ∃ v s, numR2 s1 = (v, s) := ⟨_, _, rfl⟩
    have l2 := numR2_len s1 _ l1
    rw [h2] at l2
    have cc := num_s l1 g1
    rw [h2] at cc
    refine scode_region (by kernel_rfl) ?_
    refine w_take 2 (fun K149 hK149 => ?_)
    simp [go_sem, e4, e7, g2]
    refine ⟨_, _, cc, ?_⟩
    refine hK149 _ _ ?_
    clear hK149 K149
    simp [go_sem, e4, e7, g2]
    refine hK148 _ _ ?_
    try clear hK148 K148
    refine scode_exit ?_
    refine hK18 _ _ ?_
    try clear hK18 K18
    refine scode_seq_k (fun K150 hK150 => ?_)
    refine scode_gen (fun env H => env 2 = .ptr 0 0 ∧ env 4 = .ptr 1 0 ∧ env 7 = .ptr 2 0 ∧ H.get 0 = some [.int 0, .int 0, .int 0, .int 0, .nil] ∧ H.get 1 = some (rC s2) ∧ H.get 2 = some [.int 8, .int v1, .int v2, .int 0, .nil]) ⟨by simp [go_sem, e2], by simp [go_sem, e4], by simp [go_sem, e7], by simp [go_sem, g0], by simp [go_sem, g1], by simp [go_sem, g2, bA]⟩ ?_
    clear e2 e4 e7 g0 g1 g2
    rintro env H ⟨e2, e4, e7, g0, g1, g2⟩
    obtain ⟨sz, co⟩ := over_s g1
    have hres : evR l = (⟨8, v1, v2, 0, []⟩, overR s2) := by unfold evR; simp only [h0, hd, h1, h2]; rfl
    refine scode_draw mixed (by kernel_rfl) (bf := [0, 0, 2, 7, 15]) (by kernel_rfl) ?_
    simp [go_sem, e4, e7, g2, befL, bA]
    refine ⟨_, _, co, ?_⟩
    simp [go_sem, e2, e7, g0, g1, g2, befL, bA]
    refine hK150 _ _ ?_
    try clear hK150 K150
    refine scode_ret ?_
    simp only [go_sem]
    refine hR _ _ ?_
    rw [hres]
    refine ret_pure (v := .tup [.agg [.int 8, .int v1, .int v2, .int 0, .nil], errA (overR s2)]) (by simp [go_sem, e2, g0, g1, g2, bA]) ?_ (empty_le _) (Nat.zero_le _) (by simp [go_sem, evC, errA_lt, bA_lt])
    exact .tupL (.cons (froz_ev 8 v1 v2 0 _ [] (.inr ⟨rfl, rfl⟩)) (.cons (.same _) .nil))
  · skip
    refine scode_region (by kernel_rfl) ?_
    simp [go_sem, e6]
    refine hK19 _ _ ?_
    try clear hK19 K19
    refine scode_block ?_
    refine scode_seq_k (fun K151 hK151 => ?_)
    refine scode_block ?_
    refine scode_seq_k (fun K152 hK152 => ?_)
    refine scode_block ?_
    refine scode_seq_k (fun K153 hK153 => ?_)
    refine scode_block ?_
    refine scode_seq_k (fun K154 hK154 => ?_)
    refine scode_block ?_
    refine scode_seq_k (fun K155 hK155 => ?_)
    refine scode_block ?_
    refine scode_seq_k (fun K156 hK156 => ?_)
    refine scode_block ?_
    refine scode_seq_k (fun K157 hK157 => ?_)
    refine scode_seq_k (fun K158 hK158 => ?_)
    refine scode_seq_k (fun K159 hK159 => ?_)
    refine scode_seq_k (fun K160 hK160 => ?_)
    refine scode_region (by kernel_rfl) ?_
    simp [go_sem]
    refine hK160 _ _ ?_
    try clear hK160 K160
    refine scode_if (b := false) (by simp [go_sem]) (fun h => by cases h) (fun _ => ?_)
    refine scode_seq_k (fun K161 hK161 => ?_)
    refine scode_region (by kernel_rfl) ?_
    simp [go_sem]
    refine hK161 _ _ ?_
    try clear hK161 K161
    refine scode_if (b := false) (by simp [go_sem]) (fun h => by cases h) (fun _ => ?_)
    refine scode_region (by kernel_rfl) ?_
    simp [go_sem]
    refine hK159 _ _ ?_
    try clear hK159 K159
    refine scode_if (b := false) (by simp [go_sem]) (fun h => by cases h) (fun _ => ?_)
    refine scode_skip ?_
    refine hK158 _ _ ?_
    try clear hK158 K158
    refine scode_seq_k (fun K162 hK162 => ?_)
    refine scode_seq_k (fun K163 hK163 => ?_)
    refine scode_seq_k (fun K164 hK164 => ?_)
    refine scode_region (by kernel_rfl) ?_
    simp [go_sem]
    refine hK164 _ _ ?_
    try clear hK164 K164
    refine scode_if (b := false) (by simp [go_sem]) (fun h => by cases h) (fun _ => ?_)
    refine scode_seq_k (fun K165 hK165 => ?_)
    refine scode_region (by kernel_rfl) ?_
    simp [go_sem]
    refine hK165 _ _ ?_
    try clear hK165 K165
    refine scode_if (b := false) (by simp [go_sem]) (fun h => by cases h) (fun _ => ?_)
    refine scode_seq_k (fun K166 hK166 => ?_)
    refine scode_region (by kernel_rfl) ?_
    simp [go_sem]
    refine hK166 _ _ ?_
    try clear hK166 K166
    refine scode_if (b := false) (by simp [go_sem]) (fun h => by cases h) (fun _ => ?_)
    refine scode_region (by kernel_rfl) ?_
    simp [go_sem]
    refine hK163 _ _ ?_
    try clear hK163 K163
    refine scode_if (b := false) (by simp [go_sem]) (fun h => by cases h) (fun _ => ?_)
    refine scode_skip ?_
    refine hK162 _ _ ?_
    try clear hK162 K162
    refine scode_seq_k (fun K167 hK167 => ?_)
    refine scode_seq_k (fun K168 hK168 => ?_)
    refine scode_region (by kernel_rfl) ?_
    simp [go_sem]
    refine hK168 _ _ ?_
    try clear hK168 K168
    refine scode_if (b := false) (by simp [go_sem]) (fun h => by cases h) (fun _ => ?_)
    refine scode_skip ?_
    refine hK167 _ _ ?_
    try clear hK167 K167
    refine scode_seq_k (fun K169 hK169 => ?_)
    refine scode_seq_k (fun K170 hK170 => ?_)
    refine scode_region (by kernel_rfl) ?_
    simp [go_sem]
    refine hK170 _ _ ?_
    try clear hK170 K170
    refine scode_if (b := true) (by simp [go_sem]) (fun _ => ?_) (fun h => by cases h)
    refine scode_exit ?_
    refine hK153 _ _ ?_
    try clear hK153 K153
    obtain ⟨v2, s2, h2⟩ : ∃ v s, numR2 s1 = (v, s) := ⟨_, _, rfl⟩
    have l2 := numR2_len s1 _ l1
    rw [h2] at l2
    have cc := num_s l1 g1
    rw [h2] at cc
    refine scode_region (by kernel_rfl) ?_
    refine w_take 2 (fun K171 hK171 => ?_)
    simp [go_sem, e4, e7, g2]
    refine ⟨_, _, cc, ?_⟩
    refine hK171 _ _ ?_
    clear hK171 K171
    simp [go_sem, e4, e7, g2]
    refine hK152 _ _ ?_
    try clear hK152 K152
    refine scode_seq_k (fun K172 hK172 => ?_)
    refine scode_gen (fun env H => env 2 = .ptr 0 0 ∧ env 4 = .ptr 1 0 ∧ env 7 = .ptr 2 0 ∧ H.get 0 = some [.int 0, .int 0, .int 0, .int 0, .nil] ∧ H.get 1 = some (rC s2) ∧ H.get 2 = some [.int 9, .int v1, .int v2, .int 0, .nil]) ⟨by simp [go_sem, e2], by simp [go_sem, e4], by simp [go_sem, e7], by simp [go_sem, g0], by simp [go_sem, g1], by simp [go_sem, g2, bA]⟩ ?_
    clear e2 e4 e7 g0 g1 g2
    rintro env H ⟨e2, e4, e7, g0, g1, g2⟩
    obtain ⟨v3, s3, h3⟩ : ∃ v s, bytesR s2 = (v, s) := ⟨_, _, rfl⟩
    have cc := bytes_s l2 g1
    rw [h3] at cc
    refine scode_region (by kernel_rfl) ?_
    refine w_take 2 (fun K173 hK173 => ?_)
    simp [go_sem, e4, e7, g2, bA]
    refine ⟨_, _, cc, ?_⟩
    refine hK173 _ _ ?_
    clear hK173 K173
    simp [go_sem, e4, e7, g2, bA]
    refine hK172 _ _ ?_
    try clear hK172 K172
    refine scode_exit ?_
    refine hK18 _ _ ?_
    try clear hK18 K18
    refine scode_seq_k (fun K174 hK174 => ?_)
    refine scode_gen (fun env H => env 2 = .ptr 0 0 ∧ env 4 = .ptr 1 0 ∧ env 7 = .ptr 2 0 ∧ H.get 0 = some [.int 0, .int 0, .int 0, .int 0, .nil] ∧ H.get 1 = some (rC s3) ∧ H.get 2 = some [.int 9, .int v1, .int v2, .int 0, bA v3]) ⟨by simp [go_sem, e2], by simp [go_sem, e4], by simp [go_sem, e7], by simp [go_sem, g0], by simp [go_sem, g1], by simp [go_sem, g2, bA]⟩ ?_
    clear e2 e4 e7 g0 g1 g2
    rintro env H ⟨e2, e4, e7, g0, g1, g2⟩
    obtain ⟨sz, co⟩ := over_s g1
    have hres : evR l = (⟨9, v1, v2, 0, v3⟩, overR s3) := by unfold evR; simp only [h0, hd, h1, h2, h3]; rfl
    refine scode_draw mixed (by kernel_rfl) (bf := [0, 0, 2, 7, 15]) (by kernel_rfl) ?_
    simp [go_sem, e4, e7, g2, befL, bA]
    refine ⟨_, _, co, ?_⟩
    simp [go_sem, e2, e7, g0, g1, g2, befL, bA]
    refine hK174 _ _ ?_
    try clear hK174 K174
    refine scode_ret ?_
    simp only [go_sem]
    refine hR _ _ ?_
    rw [hres]
    refine ret_pure (v := .tup [.agg [.int 9, .int v1, .int v2, .int 0, bA v3], errA (overR s3)]) (by simp [go_sem, e2, g0, g1, g2, bA]) ?_ (empty_le _) (Nat.zero_le _) (by simp [go_sem, evC, errA_lt, bA_lt])
    exact .tupL (.cons (froz_ev 9 v1 v2 0 _ v3 (.inl rfl)) (.cons (.same _) .nil))
  · skip
    refine scode_region (by kernel_rfl) ?_
    simp [go_sem, e6]
    refine hK19 _ _ ?_
    try clear hK19 K19
    refine scode_block ?_
    refine scode_seq_k (fun K175 hK175 => ?_)
    refine scode_block ?_
    refine scode_seq_k (fun K176 hK176 => ?_)
    refine scode_block ?_
    refine scode_seq_k (fun K177 hK177 => ?_)
    refine scode_block ?_
    refine scode_seq_k (fun K178 hK178 => ?_)
    refine scode_block ?_
    refine scode_seq_k (fun K179 hK179 => ?_)
    refine scode_block ?_
    refine scode_seq_k (fun K180 hK180 => ?_)
    refine scode_block ?_
    refine scode_seq_k (fun K181 hK181 => ?_)
    refine scode_seq_k (fun K182 hK182 => ?_)
    refine scode_seq_k (fun K183 hK183 => ?_)
    refine scode_seq_k (fun K184 hK184 => ?_)
    refine scode_region (by kernel_rfl) ?_
    simp [go_sem]
    refine hK184 _ _ ?_
    try clear hK184 K184
    refine scode_if (b := false) (by simp [go_sem]) (fun h => by cases h) (fun _ => ?_)
    refine scode_seq_k (fun K185 hK185 => ?_)
    refine scode_region (by kernel_rfl) ?_
    simp [go_sem]
    refine hK185 _ _ ?_
    try clear hK185 K185
    refine scode_if (b := false) (by simp [go_sem]) (fun h => by cases h) (fun _ => ?_)
    refine scode_region (by kernel_rfl) ?_
    simp [go_sem]
    refine hK183 _ _ ?_
    try clear hK183 K183
    refine scode_if (b := false) (by simp [go_sem]) (fun h => by cases h) (fun _ => ?_)
    refine scode_skip ?_
    refine hK182 _ _ ?_
    try clear hK182 K182
    refine scode_seq_k (fun K186 hK186 => ?_)
    refine scode_seq_k (fun K187 hK187 => ?_)
    refine scode_seq_k (fun K188 hK188 => ?_)
    refine scode_region (by kernel_rfl) ?_
    simp [go_sem]
    refine hK188 _ _ ?_
    try clear hK188 K188
    refine scode_if (b := false) (by simp [go_sem]) (fun h => by cases h) (fun _ => ?_)
    refine scode_seq_k (fun K189 hK189 => ?_)
    refine scode_region (by kernel_rfl) ?_
    simp [go_sem]
    refine hK189 _ _ ?_
    try clear hK189 K189
    refine scode_if (b := false) (by simp [go_sem]) (fun h => by cases h) (fun _ => ?_)
    refine scode_seq_k (fun K190 hK190 => ?_)
    refine scode_region (by kernel_rfl) ?_
    simp [go_sem]
    refine hK190 _ _ ?_
    try clear hK190 K190
    refine scode_if (b := false) (by simp [go_sem]) (fun h => by cases h) (fun _ => ?_)
    refine scode_region (by kernel_rfl) ?_
    simp [go_sem]
    refine hK187 _ _ ?_
    try clear hK187 K187
    refine scode_if (b := false) (by simp [go_sem]) (fun h => by cases h) (fun _ => ?_)
    refine scode_skip ?_
    refine hK186 _ _ ?_
    try clear hK186 K186
    refine scode_seq_k (fun K191 hK191 => ?_)
    refine scode_seq_k (fun K192 hK192 => ?_)
    refine scode_region (by kernel_rfl) ?_
    simp [go_sem]
    refine hK192 _ _ ?_
    try clear hK192 K192
    refine scode_if (b := false) (by simp [go_sem]) (fun h => by cases h) (fun _ => ?_)
    refine scode_skip ?_
    refine hK191 _ _ ?_
    try clear hK191 K191
    refine scode_seq_k (fun K193 hK193 => ?_)
    refine scode_seq_k (fun K194 hK194 => ?_)
    refine scode_region (by kernel_rfl) ?_
    simp [go_sem]
    refine hK194 _ _ ?_
    try clear hK194 K194
    refine scode_if (b := false) (by simp [go_sem]) (fun h => by cases h) (fun _ => ?_)
    refine scode_skip ?_
    refine hK193 _ _ ?_
    try clear hK193 K193
    refine scode_seq_k (fun K195 hK195 => ?_)
    refine scode_seq_k (fun K196 hK196 => ?_)
    refine scode_region (by kernel_rfl) ?_
    simp [go_sem]
    refine hK196 _ _ ?_
    try clear hK196 K196
    refine scode_if (b := true) (by simp [go_sem]) (fun _ => ?_) (fun h => by cases h)
    refine scode_skip ?_
    refine hK195 _ _ ?_
    try clear hK195 K195
    refine scode_if (b := true) (by simp [go_sem]) (fun _ => ?_) (fun h => by cases h)
    refine scode_exit ?_
    refine hK176 _ _ ?_
    try clear hK176 K176
    refine scode_seq_k (fun K197 hK197 => ?_)
    obtain ⟨v2, s2, h2⟩ : ∃ v s, bytesR s1 = (v, s) := ⟨_, _, rfl⟩
    have cc := bytes_s l1 g1
    rw [h2] at cc
    refine scode_region (by kernel_rfl) ?_
    refine w_take 2 (fun K198 hK198 => ?_)
    simp [go_sem, e4, e7, g2, bA]
    refine ⟨_, _, cc, ?_⟩
    refine hK198 _ _ ?_
    clear hK198 K198
    simp [go_sem, e4, e7, g2, bA]
    refine hK197 _ _ ?_
    try clear hK197 K197
    refine scode_exit ?_
    refine hK18 _ _ ?_
    try clear hK18 K18
    refine scode_seq_k (fun K199 hK199 => ?_)
    refine scode_gen (fun env H => env 2 = .ptr 0 0 ∧ env 4 = .ptr 1 0 ∧ env 7 = .ptr 2 0 ∧ H.get 0 = some [.int 0, .int 0, .int 0, .int 0, .nil] ∧ H.get 1 = some (rC s2) ∧ H.get 2 = some [.int 10, .int v1, .int 0, .int 0, bA v2]) ⟨by simp [go_sem, e2], by simp [go_sem, e4], by simp [go_sem, e7], by simp [go_sem, g0], by simp [go_sem, g1], by simp [go_sem, g2, bA]⟩ ?_
    clear e2 e4 e7 g0 g1 g2
    rintro env H ⟨e2, e4, e7, g0, g1, g2⟩
    obtain ⟨sz, co⟩ := over_s g1
    have hres : evR l = (⟨10, v1, 0, 0, v2⟩, overR s2) := by unfold evR; simp only [h0, hd, h1, h2]; rfl
    refine scode_draw mixed (by kernel_rfl) (bf := [0, 0, 2, 7, 15]) (by kernel_rfl) ?_
    simp [go_sem, e4, e7, g2, befL, bA]
    refine ⟨_, _, co, ?_⟩
    simp [go_sem, e2, e7, g0, g1, g2, befL, bA]
    refine hK199 _ _ ?_
    try clear hK199 K199
    refine scode_ret ?_
    simp only [go_sem]
    refine hR _ _ ?_
    rw [hres]
    refine ret_pure (v := .tup [.agg [.int 10, .int v1, .int 0, .int 0, bA v2], errA (overR s2)]) (by simp [go_sem, e2, g0, g1, g2, bA]) ?_ (empty_le _) (Nat.zero_le _) (by simp [go_sem, evC, errA_lt, bA_lt])
    exact .tupL (.cons (froz_ev 10 v1 0 0 _ v2 (.inl rfl)) (.cons (.same _) .nil))
  · skip
    refine scode_region (by kernel_rfl) ?_
    simp [go_sem, e6]
    refine hK19 _ _ ?_
    try clear hK19 K19
    refine scode_block ?_
    refine scode_seq_k (fun K200 hK200 => ?_)
    refine scode_block ?_
    refine scode_seq_k (fun K201 hK201 => ?_)
    refine scode_block ?_
    refine scode_seq_k (fun K202 hK202 => ?_)
    refine scode_block ?_
    refine scode_seq_k (fun K203 hK203 => ?_)
    refine scode_block ?_
    refine scode_seq_k (fun K204 hK204 => ?_)
    refine scode_block ?_
    refine scode_seq_k (fun K205 hK205 => ?_)
    refine scode_block ?_
    refine scode_seq_k (fun K206 hK206 => ?_)
    refine scode_seq_k (fun K207 hK207 => ?_)
    refine scode_seq_k (fun K208 hK208 => ?_)
    refine scode_seq_k (fun K209 hK209 => ?_)
    refine scode_region (by kernel_rfl) ?_
    simp [go_sem]
    refine hK209 _ _ ?_
    try clear hK209 K209
    refine scode_if (b := false) (by simp [go_sem]) (fun h => by cases h) (fun _ => ?_)
    refine scode_seq_k (fun K210 hK210 => ?_)
    refine scode_region (by kernel_rfl) ?_
    simp [go_sem]
    refine hK210 _ _ ?_
    try clear hK210 K210
    refine scode_if (b := false) (by simp [go_sem]) (fun h => by cases h) (fun _ => ?_)
    refine scode_region (by kernel_rfl) ?_
    simp [go_sem]
    refine hK208 _ _ ?_
    try clear hK208 K208
    refine scode_if (b := false) (by simp [go_sem]) (fun h => by cases h) (fun _ => ?_)
    refine scode_skip ?_
    refine hK207 _ _ ?_
    try clear hK207 K207
    refine scode_seq_k (fun K211 hK211 => ?_)
    refine scode_seq_k (fun K212 hK212 => ?_)
    refine scode_seq_k (fun K213 hK213 => ?_)
    refine scode_region (by kernel_rfl) ?_
    simp [go_sem]
    refine hK213 _ _ ?_
    try clear hK213 K213
    refine scode_if (b := false) (by simp [go_sem]) (fun h => by cases h) (fun _ => ?_)
    refine scode_seq_k (fun K214 hK214 => ?_)
    refine scode_region (by kernel_rfl) ?_
    simp [go_sem]
    refine hK214 _ _ ?_
    try clear hK214 K214
    refine scode_if (b := false) (by simp [go_sem]) (fun h => by cases h) (fun _ => ?_)
    refine scode_seq_k (fun K215 hK215 => ?_)
    refine scode_region (by kernel_rfl) ?_
    simp [go_sem]
    refine hK215 _ _ ?_
    try clear hK215 K215
    refine scode_if (b := false) (by simp [go_sem]) (fun h => by cases h) (fun _ => ?_)
    refine scode_region (by kernel_rfl) ?_
    simp [go_sem]
    refine hK212 _ _ ?_
    try clear hK212 K212
    refine scode_if (b := false) (by simp [go_sem]) (fun h => by cases h) (fun _ => ?_)
    refine scode_skip ?_
    refine hK211 _ _ ?_
    try clear hK211 K211
    refine scode_seq_k (fun K216 hK216 => ?_)
    refine scode_seq_k (fun K217 hK217 => ?_)
    refine scode_region (by kernel_rfl) ?_
    simp [go_sem]
    refine hK217 _ _ ?_
    try clear hK217 K217
    refine scode_if (b := false) (by simp [go_sem]) (fun h => by cases h) (fun _ => ?_)
    refine scode_skip ?_
    refine hK216 _ _ ?_
    try clear hK216 K216
    refine scode_seq_k (fun K218 hK218 => ?_)
    refine scode_seq_k (fun K219 hK219 => ?_)
    refine scode_region (by kernel_rfl) ?_
    simp [go_sem]
    refine hK219 _ _ ?_
    try clear hK219 K219
    refine scode_if (b := false) (by simp [go_sem]) (fun h => by cases h) (fun _ => ?_)
    refine scode_skip ?_
    refine hK218 _ _ ?_
    try clear hK218 K218
    refine scode_seq_k (fun K220 hK220 => ?_)
    refine scode_seq_k (fun K221 hK221 => ?_)
    refine scode_region (by kernel_rfl) ?_
    simp [go_sem]
    refine hK221 _ _ ?_
    try clear hK221 K221
    refine scode_if (b := false) (by simp [go_sem]) (fun h => by cases h) (fun _ => ?_)
    refine scode_region (by kernel_rfl) ?_
    simp [go_sem]
    refine hK220 _ _ ?_
    try clear hK220 K220
    refine scode_if (b := true) (by simp [go_sem]) (fun _ => ?_) (fun h => by cases h)
    refine scode_exit ?_
    refine hK201 _ _ ?_
    try clear hK201 K201
    refine scode_seq_k (fun K222 hK222 => ?_)
    obtain ⟨v2, s2, h2⟩ : ∃ v s, bytesR s1 = (v, s) := ⟨_, _, rfl⟩
    have cc := bytes_s l1 g1
    rw [h2] at cc
    refine scode_region (by kernel_rfl) ?_
    refine w_take 2 (fun K223 hK223 => ?_)
    simp [go_sem, e4, e7, g2, bA]
    refine ⟨_, _, cc, ?_⟩
    refine hK223 _ _ ?_
    clear hK223 K223
    simp [go_sem, e4, e7, g2, bA]
    refine hK222 _ _ ?_
    try clear hK222 K222
    refine scode_exit ?_
    refine hK18 _ _ ?_
    try clear hK18 K18
    refine scode_seq_k (fun K224 hK224 => ?_)
    refine scode_gen (fun env H => env 2 = .ptr 0 0 ∧ env 4 = .ptr 1 0 ∧ env 7 = .ptr 2 0 ∧ H.get 0 = some [.int 0, .int 0, .int 0, .int 0, .nil] ∧ H.get 1 = some (rC s2) ∧ H.get 2 = some [.int 11, .int v1, .int 0, .int 0, bA v2]) ⟨by simp [go_sem, e2], by simp [go_sem, e4], by simp [go_sem, e7], by simp [go_sem, g0], by simp [go_sem, g1], by simp [go_sem, g2, bA]⟩ ?_
    clear e2 e4 e7 g0 g1 g2
    rintro env H ⟨e2, e4, e7, g0, g1, g2⟩
    obtain ⟨sz, co⟩ := over_s g1
    have hres : evR l = (⟨11, v1, 0, 0, v2⟩, overR s2) := by unfold evR; simp only [h0, hd, h1, h2]; rfl
    refine scode_draw mixed (by kernel_rfl) (bf := [0, 0, 2, 7, 15]) (by kernel_rfl) ?_
    simp [go_sem, e4, e7, g2, befL, bA]
    refine ⟨_, _, co, ?_⟩
    simp [go_sem, e2, e7, g0, g1, g2, befL, bA]
    refine hK224 _ _ ?_
    try clear hK224 K224
    refine scode_ret ?_
    simp only [go_sem]
    refine hR _ _ ?_
    rw [hres]
    refine ret_pure (v := .tup [.agg [.int 11, .int v1, .int 0, .int 0, bA v2], errA (overR s2)]) (by simp [go_sem, e2, g0, g1, g2, bA]) ?_ (empty_le _) (Nat.zero_le _) (by simp [go_sem, evC, errA_lt, bA_lt])
    exact .tupL (.cons (froz_ev 11 v1 0 0 _ v2 (.inl rfl)) (.cons (.same _) .nil))
  · skip
    refine scode_region (by kernel_rfl) ?_
    simp [go_sem, e6]
    refine hK19 _ _ ?_
    try clear hK19 K19
    refine scode_block ?_
    refine scode_seq_k (fun K225 hK225 => ?_)
    refine scode_block ?_
    refine scode_seq_k (fun K226 hK226 => ?_)
    refine scode_block ?_
    refine scode_seq_k (fun K227 hK227 => ?_)
    refine scode_block ?_
    refine scode_seq_k (fun K228 hK228 => ?_)
    refine scode_block ?_
    refine scode_seq_k (fun K229 hK229 => ?_)
    refine scode_block ?_
    refine scode_seq_k (fun K230 hK230 => ?_)
    refine scode_block ?_
    refine scode_seq_k (fun K231 hK231 => ?_)
    refine scode_seq_k (fun K232 hK232 => ?_)
    refine scode_seq_k (fun K233 hK233 => ?_)
    refine scode_seq_k (fun K234 hK234 => ?_)
    refine scode_region (by kernel_rfl) ?_
    simp [go_sem]
    refine hK234 _ _ ?_
    try clear hK234 K234
    refine scode_if (b := false) (by simp [go_sem]) (fun h => by cases h) (fun _ => ?_)
    refine scode_seq_k (fun K235 hK235 => ?_)
    refine scode_region (by kernel_rfl) ?_
    simp [go_sem]
    refine hK235 _ _ ?_
    try clear hK235 K235
    refine scode_if (b := false) (by simp [go_sem]) (fun h => by cases h) (fun _ => ?_)
    refine scode_region (by kernel_rfl) ?_
    simp [go_sem]
    refine hK233 _ _ ?_
    try clear hK233 K233
    refine scode_if (b := false) (by simp [go_sem]) (fun h => by cases h) (fun _ => ?_)
    refine scode_skip ?_
    refine hK232 _ _ ?_
    try clear hK232 K232
    refine scode_seq_k (fun K236 hK236 => ?_)
    refine scode_seq_k (fun K237 hK237 => ?_)
    refine scode_seq_k (fun K238 hK238 => ?_)
    refine scode_region (by kernel_rfl) ?_
    simp [go_sem]
    refine hK238 _ _ ?_
    try clear hK238 K238
    refine scode_if (b := false) (by simp [go_sem]) (fun h => by cases h) (fun _ => ?_)
    refine scode_seq_k (fun K239 hK239 => ?_)
    refine scode_region (by kernel_rfl) ?_
    simp [go_sem]
    refine hK239 _ _ ?_
    try clear hK239 K239
    refine scode_if (b := false) (by simp [go_sem]) (fun h => by cases h) (fun _ => ?_)
    refine scode_seq_k (fun K240 hK240 => ?_)
    refine scode_region (by kernel_rfl) ?_
    simp [go_sem]
    refine hK240 _ _ ?_
    try clear hK240 K240
    refine scode_if (b := false) (by simp [go_sem]) (fun h => by cases h) (fun _ => ?_)
    refine scode_region (by kernel_rfl) ?_
    simp [go_sem]
    refine hK237 _ _ ?_
    try clear hK237 K237
    refine scode_if (b := false) (by simp [go_sem]) (fun h => by cases h) (fun _ => ?_)
    refine scode_skip ?_
    refine hK236 _ _ ?_
    try clear hK236 K236
    refine scode_seq_k (fun K241 hK241 => ?_)
    refine scode_seq_k (fun K242 hK242 => ?_)
    refine scode_region (by kernel_rfl) ?_
    simp [go_sem]
    refine hK242 _ _ ?_
    try clear hK242 K242
    refine scode_if (b := false) (by simp [go_sem]) (fun h => by cases h) (fun _ => ?_)
    refine scode_skip ?_
    refine hK241 _ _ ?_
    try clear hK241 K241
    refine scode_seq_k (fun K243 hK243 => ?_)
    refine scode_seq_k (fun K244 hK244 => ?_)
    refine scode_region (by kernel_rfl) ?_
    simp [go_sem]
    refine hK244 _ _ ?_
    try clear hK244 K244
    refine scode_if (b := false) (by simp [go_sem]) (fun h => by cases h) (fun _ => ?_)
    refine scode_skip ?_
    refine hK243 _ _ ?_
    try clear hK243 K243
    refine scode_seq_k (fun K245 hK245 => ?_)
    refine scode_seq_k (fun K246 hK246 => ?_)
    refine scode_region (by kernel_rfl) ?_
    simp [go_sem]
    refine hK246 _ _ ?_
    try clear hK246 K246
    refine scode_if (b := false) (by simp [go_sem]) (fun h => by cases h) (fun _ => ?_)
    refine scode_region (by kernel_rfl) ?_
    simp [go_sem]
    refine hK245 _ _ ?_
    try clear hK245 K245
    refine scode_if (b := false) (by simp [go_sem]) (fun h => by cases h) (fun _ => ?_)
    refine scode_skip ?_
    refine hK231 _ _ ?_
    try clear hK231 K231
    refine scode_exit ?_
    refine hK225 _ _ ?_
    try clear hK225 K225
    refine scode_seq_k (fun K247 hK247 => ?_)
    have cfl := fail_s g1
    refine scode_region (by kernel_rfl) ?_
    simp [go_sem, e4]
    refine ⟨_, _, cfl, ?_⟩
    refine hK247 _ _ ?_
    try clear hK247 K247
    refine scode_exit ?_
    refine hK18 _ _ ?_
    try clear hK18 K18
    refine scode_seq_k (fun K249 hK249 => ?_)
    refine scode_gen (fun env H => env 2 = .ptr 0 0 ∧ env 4 = .ptr 1 0 ∧ env 7 = .ptr 2 0 ∧ H.get 0 = some [.int 0, .int 0, .int 0, .int 0, .nil] ∧ H.get 1 = some (rC s1.fail) ∧ H.get 2 = some [.int 12, .int v1, .int 0, .int 0, .nil]) ⟨by simp [go_sem, e2], by simp [go_sem, e4], by simp [go_sem, e7], by simp [go_sem, g0], by simp [go_sem, g1], by simp [go_sem, g2, bA]⟩ ?_
    clear e2 e4 e7 g0 g1 g2
    rintro env H ⟨e2, e4, e7, g0, g1, g2⟩
    obtain ⟨sz, co⟩ := over_s g1
    have hres : evR l = (⟨12, v1, 0, 0, []⟩, overR s1.fail) := by unfold evR; simp only [h0, hd, h1]; rfl
    refine scode_draw mixed (by kernel_rfl) (bf := [0, 0, 2, 7, 15]) (by kernel_rfl) ?_
    simp [go_sem, e4, e7, g2, befL, bA]
    refine ⟨_, _, co, ?_⟩
    simp [go_sem, e2, e7, g0, g1, g2, befL, bA]
    refine hK249 _ _ ?_
    try clear hK249 K249
    refine scode_ret ?_
    simp only [go_sem]
    refine hR _ _ ?_
    rw [hres]
    refine ret_pure (v := .tup [.agg [.int 12, .int v1, .int 0, .int 0, .nil], errA (overR s1.fail)]) (by simp [go_sem, e2, g0, g1, g2, bA]) ?_ (empty_le _) (Nat.zero_le _) (by simp [go_sem, evC, errA_lt, bA_lt])
    exact .tupL (.cons (froz_ev 12 v1 0 0 _ [] (.inr ⟨rfl, rfl⟩)) (.cons (.same _) .nil))

end Go.Proofs.YtfmpakmigmehkaaGreatDoor
