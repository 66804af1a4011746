/- Contract: the law of ScriptParses. -/
import Derived.Test.YtfmpakmigmehkaaGreatDoorFl43
import Derived.Test.YtfmpakmigmehkaaGreatDoorS39
import Derived.Test.YtfmpakmigmehkaaGreatDoorS29
import Derived.Test.YtfmpakmigmehkaaGreatDoorS31
import Derived.Test.YtfmpakmigmehkaaGreatDoorS35
set_option linter.unusedVariables false
set_option linter.unusedSimpArgs false
set_option maxRecDepth 20000
noncomputable section
namespace Go.Proofs.YtfmpakmigmehkaaGreatDoor
open Go Go.Fl Go.Proofs

theorem resA_of (t : Word) : ∃ c1 c2 L p e, resA (parseT t) = .tup [.agg (cfgC c1), .agg (cfgC c2), eA L, .int p, .int e] ∧ L.length ≤ 1000000 ∧ ∀ x ∈ L, x.b.length ≤ 1000000 := by
  cases h : parseT t with
  | bad p e => exact ⟨_, _, _, _, _, rfl, by simp, by simp⟩
  | good a b l =>
    refine ⟨_, _, _, _, _, rfl, ?_, ?_⟩
    · obtain ⟨_, _, _, _, _, hn⟩ := print_parse t a b l h
      rw [List.length_map]
      omega
    · obtain ⟨h1, oka, okb, hl, hlen, hn⟩ := print_parse t a b l h
      intro x hx
      obtain ⟨e, he, rfl⟩ := List.mem_map.1 hx
      have h2 := (ev_sat (hl e he)).2
      have h3 := line_le_text (a.line :: b.line :: l.map EvS.line) e.line (List.mem_cons_of_mem _ (List.mem_cons_of_mem _ (List.mem_map.2 ⟨e, he, rfl⟩)))
      rw [h1] at hlen
      unfold printT at hlen
      show e.b.length ≤ _
      omega
theorem parse_over (t : Word) (h : 65536 < t.length) : parseT t = .bad 0 3 := by unfold parseT; rw [if_pos (by omega)]

theorem rparse_H (t : Word) (ht : t.length ≤ 1000000) (H : Heap) : SCalls Tryz.prog 9 [sA t] H (resA (refParse t)) H := scalls_frame (rparse_s t ht) (by simp [go_sem]) (by unfold resA; split <;> simp [go_sem, eA, cfgC] <;> exact eV_lt _ _) H

theorem parse_long (t : Word) (h : 65536 < t.length) : SCalls Tryz.prog 8 [sA t] Heap.empty (.tup [.agg (cfgC noCfg), .agg (cfgC noCfg), eA [], .int 0, .int 3]) Heap.empty := by
  have hl : (65536 : Int) < t.length := by omega
  refine scalls_of_k (sz := 100) (Tryz.call8) Tryz.func8 rfl (Nat.zero_le _) (by kernel_rfl) (fun R hR => ?_)
  refine scode_seq_k (fun K1 hK1 => ?_)
  refine scode_region (by kernel_rfl) ?_
  simp [go_sem]
  refine hK1 _ _ ?_
  try clear hK1 K1
  refine scode_seq_mid (fun env H => env 0 = sA t ∧ env 2 = .ptr 0 0 ∧ env 3 = .ptr 1 0 ∧ env 7 = .ptr 2 0 ∧ H.get 0 = some (cfgC noCfg) ∧ H.get 1 = some (cfgC noCfg) ∧ H.get 2 = some (cfgC noCfg ++ cfgC noCfg) ∧ H.next = 3) ?_ ?_
  · skip
    refine scode_region (by kernel_rfl) ?_
    simp [go_sem]
    refine ⟨?_, ?_⟩ <;> rfl
  rintro env H ⟨e0, e2, e3, e7, g0, g1, g2, hn⟩
  refine scode_seq_k (fun K3 hK3 => ?_)
  refine scode_seq_k (fun K4 hK4 => ?_)
  refine scode_region (by kernel_rfl) ?_
  simp [go_sem, e0, hl]
  refine hK4 _ _ ?_
  try clear hK4 K4
  refine scode_if (b := true) (by simp [go_sem]) (fun _ => ?_) (fun h => by cases h)
  refine scode_seq_k (fun K5 hK5 => ?_)
  refine scode_region (by kernel_rfl) ?_
  simp [go_sem, e2, e3, g0, g1, cl, cfl]
  refine hK5 _ _ ?_
  try clear hK5 K5
  refine scode_ret ?_
  simp only [go_sem]
  refine hR _ _ ?_
  refine ret_pure (v := .tup [.agg (cfgC noCfg), .agg (cfgC noCfg), .nil, .int 0, .int 3]) (by first | (simp [go_sem, e2, e3, g0, g1, c_d18']; done) | (simp [go_sem, e2, e3, g0, g1, c_d18']; rfl)) ?_ (empty_le _) (Nat.zero_le _) (by simp [eA, eV, go_sem, cfgC])
  exact .tupL (.cons (.same _) (.cons (.same _) (.cons (.nil 5) (.cons (.same _) (.cons (.same _) .nil)))))

theorem parse_longH (t : Word) (h : 65536 < t.length) (H : Heap) : SCalls Tryz.prog 8 [sA t] H (.tup [.agg (cfgC noCfg), .agg (cfgC noCfg), eA [], .int 0, .int 3]) H := scalls_frame (parse_long t h) (by simp [go_sem]) (by simp [go_sem, cfgC, eA, eV]) H
theorem evs11_H (l : List EvI) (hn : l.length ≤ 1000000) (H : Heap) : SCalls Tryz.prog 11 [eA l] H (eA l) H := scalls_frame (evs11_s l hn) (by simp [eA_lt]) (eA_lt _ _) H
theorem same10_H (l : List EvI) (hn : l.length ≤ 1000000) (hl : ∀ e ∈ l, e.b.length ≤ 1000000) (H : Heap) : SCalls Tryz.prog 10 [eA l, eA l] H (.bool true) H := scalls_frame (same_s l hn hl) (by simp [eA_lt]) (by simp [go_sem]) H

set_option maxHeartbeats 4000000 in
theorem parses_law (t : Word) : SCalls Tryz.prog 3 [sA t] Heap.empty (.bool true) Heap.empty := by
  refine scalls_of_k (sz := 77) (Tryz.call3) Tryz.func3 rfl (Nat.zero_le _) (by kernel_rfl) (fun R hR => ?_)
  refine scode_seq_k (fun K1 hK1 => ?_)
  refine scode_region (by kernel_rfl) ?_
  simp [go_sem]
  refine hK1 _ _ ?_
  try clear hK1 K1
  refine scode_seq_k (fun K2 hK2 => ?_)
  refine scode_seq_k (fun K3 hK3 => ?_)
  refine scode_region (by kernel_rfl) ?_
  refine w_take 1 (fun K4 hK4 => ?_)
  simp [go_sem]
  refine ⟨_, _, awake_H _, ?_⟩
  refine hK4 _ _ ?_
  clear hK4 K4
  simp [go_sem]
  refine hK3 _ _ ?_
  try clear hK3 K3
  refine scode_if (b := false) (by simp [go_sem]) (fun h => by cases h) (fun _ => ?_)
  refine scode_skip ?_
  refine hK2 _ _ ?_
  try clear hK2 K2
  refine scode_seq_k (fun K5 hK5 => ?_)
  refine scode_seq_k (fun K6 hK6 => ?_)
  refine scode_region (by kernel_rfl) ?_
  simp [go_sem]
  refine hK6 _ _ ?_
  try clear hK6 K6
  refine scode_if (b := decide (70000 < (t.length : Int))) (by simp [go_sem]) (fun hb => ?_) (fun hb => ?_)
  · skip
    simp only [decide_eq_true_eq] at hb
    have c8 := fun H => parse_longH t (by omega) H
    refine scode_seq_k (fun K7 hK7 => ?_)
    refine scode_region (by kernel_rfl) ?_
    refine w_take 2 (fun K8 hK8 => ?_)
    simp [go_sem, cl, c_t18', c_d18']
    refine ⟨_, _, c8 _, ?_⟩
    refine hK8 _ _ ?_
    clear hK8 K8
    simp [go_sem, cl, c_t18', c_d18']
    refine hK7 _ _ ?_
    try clear hK7 K7
    refine scode_seq_k (fun K9 hK9 => ?_)
    refine scode_region (by kernel_rfl) ?_
    simp [go_sem]
    refine hK9 _ _ ?_
    try clear hK9 K9
    refine scode_ret ?_
    simp only [go_sem]
    refine hR _ _ ?_
    exact ret_plain (by simp [go_sem]) (empty_le _) (Nat.zero_le _) (by simp [go_sem])
  · skip
    simp only [decide_eq_false_iff_not] at hb
    have c8 := parse_H t (by omega)
    have c9 := rparse_H t (by omega)
    rw [refParse_eq] at c9
    obtain ⟨c1, c2, L, p, e, hq, hL, hLb⟩ := resA_of t
    rw [hq] at c8 c9
    have c11 := evs11_H L hL
    have c10 := same10_H L hL hLb
    have l1 := cfl c1
    have l2 := cfl c2
    simp only [AV.leaf] at l1 l2
    refine scode_skip ?_
    refine hK5 _ _ ?_
    try clear hK5 K5
    refine scode_seq_mid (fun env H => env 0 = sA t ∧ env 8 = .ptr 0 0 ∧ env 9 = .ptr 1 0 ∧ H.get 0 = some (cfgC c1) ∧ H.get 1 = some (cfgC c2) ∧ env 10 = eA L ∧ env 11 = .int p ∧ env 12 = .int e ∧ H.next = 2) ?_ ?_
    · skip
      refine scode_region (by kernel_rfl) ?_
      refine w_take 2 (fun K11 hK11 => ?_)
      simp [go_sem, cl, l1, l2, c_t18', c_d18']
      refine ⟨_, _, c8 _, ?_⟩
      refine hK11 _ _ ?_
      clear hK11 K11
      simp [go_sem, cl, l1, l2, c_t18', c_d18']
      first
        | done
        | simp [go_sem, cl, c_t18', c_d18']
    rintro env H ⟨e0, e8, e9, g0, g1, e10, e11, e12, hn⟩
    refine scode_seq_mid (fun env H => env 8 = .ptr 0 0 ∧ env 9 = .ptr 1 0 ∧ H.get 0 = some (cfgC c1) ∧ H.get 1 = some (cfgC c2) ∧ env 10 = eA L ∧ env 11 = .int p ∧ env 12 = .int e ∧ env 13 = .ptr 2 0 ∧ env 14 = .ptr 3 0 ∧ H.get 2 = some (cfgC c1) ∧ H.get 3 = some (cfgC c2) ∧ env 15 = eA L ∧ env 16 = .int p ∧ env 17 = .int e) ?_ ?_
    · skip
      refine scode_region (by kernel_rfl) ?_
      refine w_take 2 (fun K13 hK13 => ?_)
      simp [go_sem, e0, hn, g0, g1, cl, l1, l2, c_t18', c_d18']
      refine ⟨_, _, c9 _, ?_⟩
      refine hK13 _ _ ?_
      clear hK13 K13
      simp [go_sem, e0, hn, g0, g1, cl, l1, l2, c_t18', c_d18']
      first
        | done
        | simp [go_sem, e8, e9, e10, e11, e12, g0, g1, hn, cl, c_t18', c_d18']
    clear e0 e8 e9 g0 g1 e10 e11 e12 hn
    rintro env H ⟨e8, e9, g0, g1, e10, e11, e12, e13, e14, g2, g3, e15, e16, e17⟩
    refine scode_seq_k (fun K14 hK14 => ?_)
    refine scode_region (by kernel_rfl) ?_
    refine w_take 21 (fun K15 hK15 => ?_)
    simp [go_sem, e8, e9, g0, g1, e10, e11, e12, e13, e14, g2, g3, e15, e16, e17, cl, l1, l2, c_t18', scs_cfg, eql_cfg]
    refine ⟨_, _, c11 _, ?_⟩
    refine hK15 _ _ ?_
    clear hK15 K15
    refine w_take 2 (fun K16 hK16 => ?_)
    simp [go_sem, e8, e9, g0, g1, e10, e11, e12, e13, e14, g2, g3, e15, e16, e17, cl, l1, l2, c_t18', scs_cfg, eql_cfg]
    refine ⟨_, _, c10 _, ?_⟩
    refine hK16 _ _ ?_
    clear hK16 K16
    simp [go_sem, e8, e9, g0, g1, e10, e11, e12, e13, e14, g2, g3, e15, e16, e17, cl, l1, l2, c_t18', scs_cfg, eql_cfg]
    refine hK14 _ _ ?_
    try clear hK14 K14
    refine scode_ret ?_
    simp only [go_sem]
    refine hR _ _ ?_
    exact ret_plain (by simp [go_sem]) (empty_le _) (Nat.zero_le _) (by simp [go_sem])

end Go.Proofs.YtfmpakmigmehkaaGreatDoor
