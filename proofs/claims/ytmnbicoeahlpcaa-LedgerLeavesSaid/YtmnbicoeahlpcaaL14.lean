/- LedgerAdds. -/
import Derived.Test.YtmnbicoeahlpcaaL13
set_option maxRecDepth 20000
noncomputable section
namespace Go.Proofs.Ytmnbicoeahlpcaa
open Go Go.Fl Go.Proofs

theorem sent_H (l : List Sn) (hlen : l.length ≤ 1048576) (H : Heap) : SCalls Try.prog 10 [sentsA l] H (sentsA l) H :=
  scalls_frame (sent_s l hlen) (by simp; exact sentsA_lt _ _) (sentsA_lt _ _) H
theorem first_H (a b : List Sn) (ha : ∀ s ∈ a, s.ok) (hb : ∀ s ∈ b, s.ok) (hl1 : a.length ≤ 1048576) (hl2 : b.length ≤ 1048576) (H : Heap) : SCalls Try.prog 12 [sentsA a, sentsA b] H (.int (firstL a b 0 0)) H :=
  scalls_frame (first_s a b ha hb hl1 hl2) (by simp; exact ⟨sentsA_lt _ _, sentsA_lt _ _⟩) (by simp [go_sem]) H
theorem missing_H (a b : List Sn) (ha : ∀ s ∈ a, s.ok) (hb : ∀ s ∈ b, s.ok) (hl1 : a.length ≤ 1048576) (hl2 : b.length ≤ 1048576) (H : Heap) : SCalls Try.prog 13 [sentsA a, sentsA b] H (.int (missingL a b)) H :=
  scalls_frame (missing_s a b ha hb hl1 hl2) (by simp; exact ⟨sentsA_lt _ _, sentsA_lt _ _⟩) (by simp [go_sem]) H
theorem first24_H (a b : List Sn) (ha : ∀ s ∈ a, s.info.length ≤ maxLen) (hla : a.length ≤ 1048576) (hlb : b.length ≤ 1048576) (H : Heap) : SCalls Try.prog 17 [sentsA a, sentsA b] H (.int (firstL a b 0 0)) H :=
  scalls_frame (first24_s a b ha hla hlb) (by simp; exact ⟨sentsA_lt _ _, sentsA_lt _ _⟩) (by simp [go_sem]) H
/-- nil handed for a row of none. -/
theorem missing_nilH (a : List Sn) (ha : ∀ s ∈ a, s.ok) (hl1 : a.length ≤ 1048576) (H : Heap) : SCalls Try.prog 13 [sentsA a, .nil] H (.int (missingL a [])) H :=
  scalls_freeze (H' := H) (Heap.le_refl _) rfl (.cons (.same _) (.cons (.nil 3) .nil)) (missing_H a [] ha (by simp) hl1 (by simp) H)

theorem leaf_sents (l : List Sn) (x : AV) (h : x ∈ sentsV l) : x.leaf = true := by
  simp only [sentsV, List.mem_flatMap] at h
  obtain ⟨s, _, h⟩ := h
  simp only [Sn.cells, List.mem_cons, List.mem_nil_iff, or_false, bytesA] at h
  rcases h with rfl | rfl | rfl <;> rfl
theorem sentsV_append (a b : List Sn) : sentsV (a ++ b) = sentsV a ++ sentsV b := by simp [sentsV]

theorem empty_le (H : Heap) : Heap.empty.le H := fun b cs hb => by rw [get_empty] at hb; cases hb

set_option maxHeartbeats 8000000 in
theorem adds_s (a b c : List Sn) (ha : good a) (hb : good b) (hc : good c) : SCalls Try.prog 6 [sentsA a, sentsA b, sentsA c] Heap.empty (.bool true) Heap.empty := by
  refine scalls_of_k (sz := 92) (Try.call6) Try.func6 rfl (Nat.le_refl _) (by kernel_rfl) (fun R hR => ?_)
  have fin : ∀ (env : Env) (H : Heap), env 6 = .sc (.bool true) → R env H := by
    intro env H h6
    refine hR _ _ ?_
    exact ret_plain (by simp [go_sem, h6]) (empty_le _) (Nat.zero_le _) (by simp [go_sem])
  refine scode_seq_k (fun K1 hK1 => ?_)
  refine scode_region (by kernel_rfl) ?_
  simp [go_sem]
  refine hK1 _ _ ?_
  clear hK1 K1
  refine scode_seq_k (fun K1 hK1 => ?_)
  refine scode_seq_k (fun K2 hK2 => ?_)
  refine scode_region (by kernel_rfl) ?_
  simp [go_sem]
  refine ⟨_, _, awake_s, ?_⟩
  simp [go_sem]
  refine hK2 _ _ ?_
  refine scode_if (b := false) (by simp [go_sem]) (fun h => by cases h) (fun _ => ?_)
  refine scode_skip ?_
  refine hK1 _ _ ?_
  clear hK1 hK2 K1 K2
  refine scode_seq_k (fun K1 hK1 => ?_)
  refine scode_seq_k (fun K2 hK2 => ?_)
  have out : ∀ (env : Env) (H : Heap), env 24 = .sc (.bool true) → K2 env H := by
    intro env H h
    refine hK2 _ _ ?_
    refine scode_if (b := true) (by simp [go_sem, h]) (fun _ => ?_) (fun h => by cases h)
    refine scode_seq_k (fun K3 hK3 => ?_)
    refine scode_region (by kernel_rfl) ?_
    simp [go_sem]
    refine hK3 _ _ ?_
    refine scode_ret ?_
    simp only [go_sem]
    exact fin _ _ (by simp [go_sem])
  refine scode_region (by kernel_rfl) ?_
  refine w_take 2 (fun K6 hK6 => ?_)
  simp [go_sem]
  refine ⟨_, _, small_s a, ?_⟩
  refine hK6 _ _ ?_
  clear hK6 K6
  obtain ⟨q, hq⟩ : ∃ q, smallB a = q := ⟨_, rfl⟩
  rw [hq]
  cases q
  · simp [go_sem]
    exact out _ _ (by simp [go_sem])
  refine w_take 4 (fun K6 hK6 => ?_)
  simp [go_sem]
  refine ⟨_, _, small_s b, ?_⟩
  refine hK6 _ _ ?_
  clear hK6 K6
  obtain ⟨q', hq'⟩ : ∃ q', smallB b = q' := ⟨_, rfl⟩
  rw [hq']
  cases q'
  · simp [go_sem]
    exact out _ _ (by simp [go_sem])
  refine w_take 5 (fun K6 hK6 => ?_)
  simp [go_sem]
  refine ⟨_, _, small_s c, ?_⟩
  refine hK6 _ _ ?_
  clear hK6 K6
  obtain ⟨q'', hq''⟩ : ∃ q'', smallB c = q'' := ⟨_, rfl⟩
  rw [hq'']
  cases q''
  · simp [go_sem]
    exact out _ _ (by simp [go_sem])
  simp [go_sem]
  refine hK2 _ _ ?_
  clear hK2 K2 out
  have hla := smallB_len hq
  have hlb := smallB_len hq'
  have hlc := smallB_len hq''
  have oka : ∀ s ∈ a, s.ok := fun s hs => (ha.2 s hs).1
  have okb : ∀ s ∈ b, s.ok := fun s hs => (hb.2 s hs).1
  have okl : ∀ s ∈ a ++ c, s.ok := fun s hs => by
    rcases List.mem_append.1 hs with h | h
    · exact (ha.2 s h).1
    · exact (hc.2 s h).1
  have lena : ∀ s ∈ a, s.info.length ≤ maxLen := fun s hs => (ha.2 s hs).2
  have hll : (a ++ c).length ≤ 1048576 := by rw [List.length_append]; omega
  refine scode_if (b := false) (by simp [go_sem]) (fun h => by cases h) (fun _ => ?_)
  refine scode_skip ?_
  refine hK1 _ _ ?_
  clear hK1 K1
  obtain ⟨p, hp⟩ : ∃ p, firstL a b 0 0 = p := ⟨_, rfl⟩
  obtain ⟨m, hm⟩ : ∃ m, firstL (a ++ c) b 0 0 = m := ⟨_, rfl⟩
  obtain ⟨g, hg⟩ : ∃ g, firstL a (a ++ c) 0 0 = g := ⟨_, rfl⟩
  refine scode_seq_k (fun K1 hK1 => ?_)
  refine scode_region (by kernel_rfl) ?_
  simp [go_sem]
  refine ⟨_, _, sent_H a (by omega) _, ?_⟩
  refine ⟨_, _, sent_H b (by omega) _, ?_⟩
  have c1 := first_H a b oka okb (by omega) (by omega) Heap.empty
  rw [hp] at c1
  refine ⟨_, _, c1, ?_⟩
  refine hK1 _ _ ?_
  clear hK1 K1
  refine scode_seq_k (fun K1 hK1 => ?_)
  refine scode_region (by kernel_rfl) ?_
  have hz1 : a.length * 40 ≤ 140737488355328 := by omega
  have hz2 : (a.length + c.length) * 40 ≤ 140737488355328 := by omega
  have hz3 : a.length ≤ 140737488355328 := by omega
  have hz4 : a.length + c.length ≤ 140737488355328 := by omega
  have hfa := leaf_sents a
  have hfc := leaf_sents c
  simp only [AV.leaf] at hfa hfc
  simp [go_sem, sentsA, sentsV_len, hz1, hz2, hz3, hz4, zrep, eq_true hfa, eq_true hfc]
  refine hK1 _ _ ?_
  clear hK1 K1
  refine scode_freeze_slot 8 2 (a.length + c.length) 3 (cs := sentsV a ++ sentsV c) (by simp [go_sem]) (by simp [go_sem]) (by simp [sentsV_len]; omega) ?_
  refine scode_gen (fun env _ => env 0 = sentsA a ∧ env 1 = sentsA b ∧ env 7 = .int p ∧ env 8 = sentsA (a ++ c)) ?_ ?_
  · simp [go_sem, sentsA, sentsV_append]
  rintro env H ⟨h0, h1, h7, h8⟩
  have c2 := first_H (a ++ c) b okl okb hll (by omega) H
  rw [hm] at c2
  refine scode_seq_k (fun K1 hK1 => ?_)
  refine scode_region (by kernel_rfl) ?_
  simp [go_sem, h0, h1, h7, h8]
  refine ⟨_, _, sent_H (a ++ c) hll _, ?_⟩
  refine ⟨_, _, sent_H b (by omega) _, ?_⟩
  refine ⟨_, _, c2, ?_⟩
  refine hK1 _ _ ?_
  clear hK1 K1
  refine scode_gen (fun env _ => env 0 = sentsA a ∧ env 1 = sentsA b ∧ env 7 = .int p ∧ env 8 = sentsA (a ++ c) ∧ env 9 = .int m) ?_ ?_
  · simp [go_sem, h0, h1, h7, h8]
  clear h0 h1 h7 h8 env c2 H
  rintro env H ⟨h0, h1, h7, h8, h9⟩
  refine scode_seq_k (fun K1 hK1 => ?_)
  refine scode_seq_k (fun K2 hK2 => ?_)
  refine scode_region (by kernel_rfl) ?_
  have hadd := firstL_adds a c b 0 0 (Nat.zero_le _)
  have hge := firstL_ge a b 0 0
  rw [hp] at hadd hge
  rw [hm] at hadd
  have rest : ∀ (env : Env) (H : Heap), env 0 = sentsA a → env 1 = sentsA b → env 8 = sentsA (a ++ c) → env 58 = .sc (.bool false) → K2 env H := by
    clear h0 h1 h7 h8 h9 env H
    intro env H h0 h1 h8 h58
    refine hK2 _ _ ?_
    refine scode_if (b := false) (by simp [go_sem, h58]) (fun h => by cases h) (fun _ => ?_)
    refine scode_skip ?_
    refine hK1 _ _ ?_
    clear hK1 hK2 K1 K2
    have f1 := first_H a a oka oka (by omega) (by omega) H
    rw [firstL_self a [] a 0 0 rfl (Nat.zero_le _)] at f1
    have f2 := missing_H a a oka oka (by omega) (by omega) H
    rw [missing_self] at f2
    have f3 := missing_nilH a oka (by omega) H
    rw [missing_nil] at f3
    have f4 := first_H a (a ++ c) oka okl (by omega) hll H
    rw [hg] at f4
    have f5 := first24_H a (a ++ c) lena (by omega) hll H
    rw [hg] at f5
    refine scode_seq_k (fun K1 hK1 => ?_)
    refine scode_region (by kernel_rfl) ?_
    have hsa : ∀ H, SCalls Try.prog 10 [sentsA a] H (sentsA a) H := sent_H a (by omega)
    refine w_take 5 (fun K6 hK6 => ?_)
    simp [go_sem, h0, h1, h8]
    refine ⟨_, _, hsa _, ?_⟩
    refine ⟨_, _, hsa _, ?_⟩
    refine ⟨_, _, f1, ?_⟩
    refine hK6 _ _ ?_
    clear hK6 K6
    refine w_take 7 (fun K6 hK6 => ?_)
    simp [go_sem, h0, h1, h8]
    refine ⟨_, _, hsa _, ?_⟩
    refine ⟨_, _, hsa _, ?_⟩
    refine ⟨_, _, f2, ?_⟩
    refine hK6 _ _ ?_
    clear hK6 K6
    refine w_take 6 (fun K6 hK6 => ?_)
    simp [go_sem, h0, h1, h8]
    refine ⟨_, _, hsa _, ?_⟩
    refine ⟨_, _, f3, ?_⟩
    refine hK6 _ _ ?_
    clear hK6 K6
    refine w_take 2 (fun K6 hK6 => ?_)
    simp [go_sem, h0, sentsA]
    refine hK6 _ _ ?_
    clear hK6 K6
    refine w_take 8 (fun K6 hK6 => ?_)
    simp [go_sem, h0, h1, h8]
    refine ⟨_, _, hsa _, ?_⟩
    refine ⟨_, _, sent_H (a ++ c) hll _, ?_⟩
    refine ⟨_, _, f4, ?_⟩
    refine hK6 _ _ ?_
    clear hK6 K6
    refine w_take 3 (fun K6 hK6 => ?_)
    simp [go_sem, h0, h1, h8]
    refine ⟨_, _, f5, ?_⟩
    refine hK6 _ _ ?_
    clear hK6 K6
    simp [go_sem]
    refine hK1 _ _ ?_
    refine scode_ret ?_
    simp only [go_sem]
    exact fin _ _ (by simp [go_sem])
  rcases hadd with hadd | ⟨hadd, hadd2⟩
  · subst hadd
    by_cases hpn : p = -1
    · subst hpn
      simp [go_sem, h7, h9]
      exact rest _ _ (by simp [go_sem, h0]) (by simp [go_sem, h1]) (by simp [go_sem, h8]) (by simp [go_sem])
    · have hp0 : 0 ≤ p := by omega
      have hpb : (p == -1) = false := by simp [hpn]
      simp [go_sem, h7, h9, hpb, hp0]
      exact rest _ _ (by simp [go_sem, h0]) (by simp [go_sem, h1]) (by simp [go_sem, h8]) (by simp [go_sem])
  · have hp0 : 0 ≤ p := by omega
    have hm0 : 0 ≤ m := by omega
    have hlt : ¬ m < p := by omega
    have hpb : (p == -1) = false := by simp [hadd]
    simp [go_sem, h7, h9, hpb, hp0, hm0, hlt]
    exact rest _ _ (by simp [go_sem, h0]) (by simp [go_sem, h1]) (by simp [go_sem, h8]) (by simp [go_sem])
end Go.Proofs.Ytmnbicoeahlpcaa
