/- Contracts: awake. -/
import Derived.Test.YtfmpakmigmehkaaGreatDoorFl43
import Derived.Test.YtfmpakmigmehkaaGreatDoorS24
set_option linter.unusedVariables false
set_option linter.unusedSimpArgs false
set_option maxRecDepth 20000
noncomputable section S26S
namespace Go.Proofs.YtfmpakmigmehkaaGreatDoor
open Go Go.Fl Go.Proofs

def Md (c : CfgS) (s : Bool) : Prop := c.ok ∧ c.name = wN ∧ c.secret = wS ∧ c.server = s
theorem wrap_inI (n : Int) : inI (IntKind.i64.wrap n) := wrap_range n
theorem mdA_ok (a m : Int) : Md (mdA a m) (Go.bits .and .i64 a 1 == 1) := ⟨⟨by simp [mdA, inI], by simp [mdA], by simp [mdA, inI], by simp [mdA, inI], by simp [mdA, inI], wrap_inI _, by simp [mdA, inI]⟩, rfl, rfl, rfl⟩
theorem mdB_ok {a : Int} {c : CfgS} {s : Bool} (h : Md c s) : Md (mdB a c) s := by
  obtain ⟨⟨h1, h2, h3, h4, h5, h6, h7⟩, hr⟩ := h
  unfold mdB
  split
  · exact ⟨⟨by simp [inI], h2, h3, h4, h5, h6, h7⟩, hr⟩
  · exact ⟨⟨h1, h2, h3, h4, h5, h6, h7⟩, hr⟩
theorem mdC_ok {a : Int} {c : CfgS} {s : Bool} (h : Md c s) : Md (mdC a c) s := by
  obtain ⟨⟨h1, h2, h3, h4, h5, h6, h7⟩, hr⟩ := h
  unfold mdC
  split
  · exact ⟨⟨h1, by simp, h3, h4, h5, h6, h7⟩, hr⟩
  · exact ⟨⟨h1, h2, h3, h4, h5, h6, h7⟩, hr⟩
theorem mdD_ok {a : Int} {c : CfgS} {s : Bool} (h : Md c s) : Md (mdD a c) s := by
  obtain ⟨⟨h1, h2, h3, h4, h5, h6, h7⟩, hr⟩ := h
  unfold mdD
  split
  · split
    · exact ⟨⟨h1, h2, by simp [inI], h4, h5, h6, wrap_inI _⟩, hr⟩
    · exact ⟨⟨h1, h2, by simp [inI], h4, h5, h6, h7⟩, hr⟩
  · exact ⟨⟨h1, h2, h3, h4, h5, h6, h7⟩, hr⟩
theorem mdE_ok {a : Int} {c : CfgS} {s : Bool} (h : Md c s) : Md (mdE a c) s := by
  obtain ⟨⟨h1, h2, h3, h4, h5, h6, h7⟩, hr⟩ := h
  unfold mdE
  split
  · exact ⟨⟨h1, h2, h3, by simp [inI], h5, h6, h7⟩, hr⟩
  · split
    · exact ⟨⟨h1, h2, h3, by simp [inI], h5, h6, h7⟩, hr⟩
    · split
      · exact ⟨⟨h1, h2, h3, by simp [inI], h5, h6, h7⟩, hr⟩
      · exact ⟨⟨h1, h2, h3, h4, h5, h6, h7⟩, hr⟩
theorem mdF_ok {a : Int} {c : CfgS} {s : Bool} (h : Md c s) : Md (mdF a c) s := by
  obtain ⟨⟨h1, h2, h3, h4, h5, h6, h7⟩, hr⟩ := h
  unfold mdF
  split
  · exact ⟨⟨h1, h2, h3, h4, h5, h6, h7⟩, hr⟩
  · exact ⟨⟨h1, h2, h3, h4, h5, h6, h7⟩, hr⟩
theorem md14_ok (n m : Int) : Md (md14 n m) (Go.bits .and .i64 (Go.bits .and .i64 n 268435455) 1 == 1) := mdF_ok (mdE_ok (mdD_ok (mdC_ok (mdB_ok (mdA_ok _ m)))))
theorem Md.sym {c : CfgS} {s : Bool} (h : Md c s) (v : Bool) : Md { c with sym := v } s := h
theorem two1_ok (n : Int) : Md (two1 n) (Go.bits .and .i64 (Go.bits .and .i64 (Go.bits .or .i64 n 1) 268435455) 1 == 1) := (md14_ok _ _).sym _
theorem two2_ok (n : Int) : Md (two2 n) (Go.bits .and .i64 (Go.bits .and .i64 (Go.bits .andNot .i64 n 1) 268435455) 1 == 1) := ((md14_ok _ _).sym _).sym _
theorem two1_one : (two1 1).server = true := by
  rw [(two1_ok 1).2.2.2]
  kernel_rfl
theorem Md.name_le {c : CfgS} {s : Bool} (h : Md c s) : c.name.length ≤ 1000000 := by rw [h.2.1]; simp [wN]
theorem Md.secret_le {c : CfgS} {s : Bool} (h : Md c s) : c.secret.length ≤ 1000000 := by rw [h.2.2.1]; simp [wS]
theorem Md.line_le {c : CfgS} {s : Bool} (h : Md c s) : c.line.length ≤ 187 := by
  have := cfg_line_len c h.1
  rw [h.2.1, h.2.2.1] at this
  exact this
def e1I : EvI := ⟨1, 0, 0, 0, []⟩
theorem print_one {a b : CfgS} {s u : Bool} (ha : Md a s) (hb : Md b u) : printR a b ([e1I].map EvI.toS) = (printT a b ([e1I].map EvI.toS), 0) := by
  have h1 := ha.line_le
  have h2 := hb.line_le
  have h3 : (EvI.toS e1I).line.length ≤ 52 := ev_line_len (EvI.toS e1I) (by simp [EvS.ints, EvI.toS, e1I, inI])
  have hl : (printT a b ([e1I].map EvI.toS)).length ≤ 65536 := by
    have : printT a b ([e1I].map EvI.toS) = a.line ++ [10] ++ (b.line ++ [10] ++ ((EvI.toS e1I).line ++ [10])) := by simp [printT, textL]
    rw [this]
    simp only [List.length_append, List.length_singleton]
    omega
  unfold printR
  rw [if_neg (by simp [EvI.toS, e1I]), if_neg (by simp), if_neg (by omega)]
theorem print_len {a b : CfgS} {s u : Bool} (ha : Md a s) (hb : Md b u) : (printT a b ([e1I].map EvI.toS)).length ≤ 65536 := by
  have h := print_one ha hb
  unfold printR at h
  split at h
  · simp at h
  · split at h
    · simp at h
    · split at h
      · simp at h
      · omega
theorem parse_one {a b : CfgS} {s u : Bool} (ha : Md a s) (hb : Md b u) : parseT (printT a b ([e1I].map EvI.toS)) = .good a b ([e1I].map EvI.toS) := by
  have h := printR_back a b ([e1I].map EvI.toS) ha.1 hb.1 (by simp [EvS.ints, EvI.toS, e1I, inI]) (by rw [print_one ha hb])
  rw [print_one ha hb] at h
  exact h
theorem print_give {a b : CfgS} {s u : Bool} (ha : Md a s) (hb : Md b u) {H : Heap} {k : Nat} (hk : H.get k = some [.int 1, .int 0, .int 0, .int 0, .nil]) :
    SCalls Tryz.prog 13 [.agg (cfgC a), .agg (cfgC b), .ms k 0 1 5] H (.tup [sA (printT a b ([e1I].map EvI.toS)), .int 0]) (H.del k) := by
  have h := print_s a b [e1I] ha.1 hb.1 ha.name_le ha.secret_le hb.name_le hb.secret_le (by simp [EvI.sat, EvS.ints, EvI.toS, e1I, inI]) (by simp)
  rw [print_one ha hb] at h
  refine scalls_give h (by simp [go_sem, eA, eV, evI, e1I, bA_lt, cfgC]) (by simp [go_sem]) (.cons (.same _) (.cons (.same _) (.cons ?_ .nil)))
  exact Froz.rowL hk (by rw [Heap.get_del, if_pos rfl]) (by simp) (.cons (.same _) (.cons (.same _) (.cons (.same _) (.cons (.same _) (.cons (.nil 1) .nil)))))
theorem parse_H (t : Word) (ht : t.length ≤ 1000000) (H : Heap) : SCalls Tryz.prog 8 [sA t] H (resA (parseT t)) H := scalls_frame (parse_s t ht) (by simp [go_sem]) (by unfold resA; split <;> simp [go_sem, eA, cfgC] <;> exact eV_lt _ _) H
theorem ld0 (c : CfgS) : List.take 1 (cfgC c) = [.bool c.server] := rfl
theorem ld2 (c : CfgS) : List.take 1 (List.drop 2 (cfgC c)) = [sA c.secret] := rfl

set_option maxHeartbeats 4000000 in
theorem awake_s  : SCalls Tryz.prog 7 [] Heap.empty (.bool true) Heap.empty := by
  refine scalls_of_k (sz := 61) (Tryz.call7) Tryz.func7 rfl (Nat.zero_le _) (by kernel_rfl) (fun R hR => ?_)
  refine scode_seq_k (fun K1 hK1 => ?_)
  refine scode_region (by kernel_rfl) ?_
  simp [go_sem]
  refine hK1 _ _ ?_
  try clear hK1 K1
  refine scode_seq_k (fun K2 hK2 => ?_)
  obtain ⟨a, ha⟩ : ∃ c, two1 1 = c := ⟨_, rfl⟩
  obtain ⟨b, hb⟩ : ∃ c, two2 1 = c := ⟨_, rfl⟩
  have ma := two1_ok 1
  have mb := two2_ok 1
  have hsv := two1_one
  have c17 := two_s 1
  rw [ha] at ma hsv c17
  rw [hb] at mb c17
  have la := cfl a
  have lb := cfl b
  simp only [AV.leaf] at la lb
  refine scode_region (by kernel_rfl) ?_
  refine w_take 1 (fun K3 hK3 => ?_)
  simp [go_sem, cl, la, lb, c_d18']
  refine ⟨_, _, scalls_frame c17 (by simp [go_sem]) (by simp [go_sem, cfgC]) _, ?_⟩
  refine hK3 _ _ ?_
  clear hK3 K3
  simp [go_sem, cl, la, lb, c_d18']
  refine hK2 _ _ ?_
  try clear hK2 K2
  refine scode_seq_mid (fun env H => H.get 0 = some (cfgC a) ∧ env 3 = sA (printT a b [e1I.toS]) ∧ env 4 = .int 0) ?_ ?_
  · skip
    refine scode_region (by kernel_rfl) ?_
    refine w_take 5 (fun K5 hK5 => ?_)
    simp [go_sem, cl, c_t18', zrep5]
    refine ⟨_, _, print_give ma mb (by simp [go_sem]), ?_⟩
    refine hK5 _ _ ?_
    clear hK5 K5
    simp [go_sem, cl, c_t18', zrep5]
    first
      | done
      | rfl
  rintro env H ⟨g0, e3, e4⟩
  refine scode_seq_mid (fun env H => ∃ k, env 4 = .int 0 ∧ env 5 = .ptr k 0 ∧ H.get k = some (cfgC a) ∧ env 7 = .vs 1 5 [.int 1, .int 0, .int 0, .int 0, bA []] ∧ env 8 = .int 0 ∧ env 9 = .int 0) ?_ ?_
  · skip
    have c8 : SCalls Tryz.prog 8 [sA (printT a b [e1I.toS])] H (.tup [.agg (cfgC a), .agg (cfgC b), .vs 1 5 [.int 1, .int 0, .int 0, .int 0, bA []], .int 0, .int 0]) H := by
      have h := parse_H (printT a b ([e1I].map EvI.toS)) (by have := print_len ma mb; omega) H
      rw [parse_one ma mb] at h
      exact h
    obtain ⟨pT, hpT⟩ : ∃ p, printT a b [e1I.toS] = p := ⟨_, rfl⟩
    rw [hpT] at c8 e3
    refine scode_region (by kernel_rfl) ?_
    refine w_take 2 (fun K7 hK7 => ?_)
    simp [go_sem, e3, cl, la, lb, c_d18']
    refine ⟨_, _, c8, ?_⟩
    refine hK7 _ _ ?_
    clear hK7 K7
    simp [go_sem, e3, cl, la, lb, c_d18']
    exact e4
  rintro env H ⟨k, e4, e5, gk, e7, e8, e9⟩
  have hsc : a.secret = [115, 101, 99, 114, 101, 116] := ma.2.2.1
  refine scode_seq_k (fun K8 hK8 => ?_)
  refine scode_region (by kernel_rfl) ?_
  simp [go_sem, e4, e5, e7, e8, e9, gk, cl, ld0, ld2, hsv, hsc]
  refine hK8 _ _ ?_
  try clear hK8 K8
  refine scode_ret ?_
  simp only [go_sem]
  refine hR _ _ ?_
  exact ret_plain (by simp [go_sem]) (empty_le _) (Nat.zero_le _) (by simp [go_sem])

end Go.Proofs.YtfmpakmigmehkaaGreatDoor
end S26S

set_option maxRecDepth 20000
noncomputable section S27S
namespace Go.Proofs.YtfmpakmigmehkaaGreatDoor
open Go Go.Fl Go.Proofs

theorem word_le_join : ∀ (ws : List Word) (w : Word), w ∈ ws → w.length ≤ (joinW ws).length
  | [], w, h => by cases h
  | [a], w, h => by simp at h; subst h; simp [joinW]
  | a :: b :: ws, w, h => by
    rcases List.mem_cons.1 h with rfl | h
    · simp [joinW]
    · have := word_le_join (b :: ws) w h
      simp [joinW] at this ⊢
      omega
theorem line_le_text (ls : List Word) (l : Word) (h : l ∈ ls) : l.length ≤ (textL ls).length := by
  induction ls with
  | nil => cases h
  | cons a ls ih =>
    simp only [textL, List.flatMap_cons, List.length_append] at ih ⊢
    rcases List.mem_cons.1 h with rfl | h
    · simp; omega
    · have := ih h
      omega
theorem hexL_ge (b : Word) : b.length ≤ (hexL b).length := by
  unfold hexL
  split
  · rename_i h; rw [h]; simp
  · rw [pairsL_len]; omega
theorem cfg_le_line (c : CfgS) : c.name.length ≤ c.line.length ∧ c.secret.length ≤ c.line.length := by
  have h1 := word_le_join c.words (hexL c.name) (by simp [CfgS.words])
  have h2 := word_le_join c.words (hexL c.secret) (by simp [CfgS.words])
  have h3 := hexL_ge c.name
  have h4 := hexL_ge c.secret
  unfold CfgS.line
  omega
theorem ev_sat {e : EvS} (h : e.ok) : e.ints ∧ e.b.length ≤ e.line.length := by
  obtain ⟨h1, h2, h3⟩ := h
  have hz : inI 0 := by simp [inI]
  have hb : hexL e.b ∈ e.words → e.b.length ≤ e.line.length := fun hm => Nat.le_trans (hexL_ge e.b) (word_le_join e.words (hexL e.b) hm)
  unfold EvS.ints
  unfold EvS.words EvS.tail at hb
  split at h3
  · obtain ⟨k1, k2, k3⟩ := h3; rw [k2, k3]; exact ⟨⟨h2, k1, hz⟩, by simp⟩
  · rename_i hk; obtain ⟨k1, k2⟩ := h3; rw [k2]; exact ⟨⟨h2, hz, k1⟩, hb (by rw [hk]; simp)⟩
  · rename_i hk; obtain ⟨k1, k2⟩ := h3; rw [k2]; exact ⟨⟨h2, k1, hz⟩, hb (by rw [hk]; simp)⟩
  · rename_i hk; obtain ⟨k1, k2⟩ := h3; rw [k1, k2]; exact ⟨⟨h2, hz, hz⟩, hb (by rw [hk]; simp)⟩
  · obtain ⟨k1, k2, k3⟩ := h3; rw [k1, k2, k3]; exact ⟨⟨h2, hz, hz⟩, by simp⟩
theorem parseT_cases (t : Word) : (∃ p e, parseT t = .bad p e ∧ (e = 3 ∨ e = 11)) ∨ ∃ a b l, parseT t = .good a b l := by
  by_cases h0 : 65536 < t.length
  · exact .inl ⟨0, 3, by unfold parseT; rw [if_pos h0], .inl rfl⟩
  obtain ⟨ls, last, hps⟩ : ∃ ls last, pieces 10 t = ls ++ [last] := ⟨_, _, (List.dropLast_concat_getLast (by obtain ⟨w, ws, e⟩ := pieces_ne 10 t; rw [e]; simp)).symm⟩
  by_cases h2 : 2048 < ls.length ∨ (ls.length = 2048 ∧ last ≠ [])
  · exact .inl ⟨0, 3, parseT_many t ls last hps (by omega) h2, .inl rfl⟩
  cases hb : badAt 0 ls with
  | some i => exact .inl ⟨_, 11, parseT_bad t ls last i hps (by omega) h2 hb, .inr rfl⟩
  | none =>
    by_cases h3 : ls.length < 2 ∨ last ≠ []
    · exact .inl ⟨_, 11, parseT_open t ls last hps (by omega) h2 hb h3, .inr rfl⟩
    · exact .inr ⟨_, _, _, parseT_good t ls last hps (by omega) h2 hb h3⟩
/-- What Print makes of what Parse read. -/
theorem print_again (t : Word) (a b : CfgS) (l : List EvS) (h : parseT t = .good a b l) : SCalls Tryz.prog 13 [.agg (cfgC a), .agg (cfgC b), eA (l.map toI)] Heap.empty (.tup [sA t, .int 0]) Heap.empty := by
  obtain ⟨h1, oka, okb, hl, hlen, hn⟩ := print_parse t a b l h
  have hm : ∀ w, w ∈ a.line :: b.line :: l.map EvS.line → w.length ≤ 65536 := fun w hw => by
    have := line_le_text _ w hw
    rw [h1] at hlen
    unfold printT at hlen
    omega
  have ha := cfg_le_line a
  have hb := cfg_le_line b
  have la := hm a.line (by simp)
  have lb := hm b.line (by simp)
  have hmap : (l.map toI).map EvI.toS = l := by rw [List.map_map]; exact (List.map_congr_left fun e _ => toI_toS e).trans (List.map_id l)
  have hp := print_s a b (l.map toI) oka okb (by omega) (by omega) (by omega) (by omega) (fun e he => by
    obtain ⟨e0, he0, rfl⟩ := List.mem_map.1 he
    have k := ev_sat (hl e0 he0)
    have k2 := hm e0.line (by simp; exact .inr (.inr ⟨e0, he0, rfl⟩))
    refine ⟨by rw [toI_toS]; exact k.1, ?_⟩
    have : (toI e0).b = e0.b := rfl
    rw [this]
    omega) (by simp; omega)
  rw [hmap] at hp
  have hr : printR a b l = (t, 0) := by
    unfold printR
    rw [if_neg, if_neg (by omega), if_neg (by rw [← h1]; omega), ← h1]
    rw [List.any_eq_true]
    rintro ⟨e, he, hx⟩
    have := (hl e he).1
    simp at hx
    omega
  rw [hr] at hp
  exact hp
theorem eA_lt (l : List EvI) (n : Nat) : (eA l).Lt n := by unfold eA; simp only [go_sem]; exact eV_lt l n

set_option maxHeartbeats 4000000 in
theorem again_s (t : Word) : SCalls Tryz.prog 5 [sA t] Heap.empty (.bool true) Heap.empty := by
  refine scalls_of_k (sz := 42) (Tryz.call5) Tryz.func5 rfl (Nat.zero_le _) (by kernel_rfl) (fun R hR => ?_)
  refine scode_seq_k (fun K1 hK1 => ?_)
  refine scode_region (by kernel_rfl) ?_
  simp [go_sem]
  refine hK1 _ _ ?_
  try clear hK1 K1
  refine scode_seq_k (fun K2 hK2 => ?_)
  refine scode_seq_k (fun K3 hK3 => ?_)
  refine scode_region (by kernel_rfl) ?_
  refine w_take 1 (fun K4 hK4 => ?_)
  simp [go_sem]
  refine ⟨_, _, scalls_frame awake_s (by simp) (by simp [go_sem]) _, ?_⟩
  refine hK4 _ _ ?_
  clear hK4 K4
  simp [go_sem]
  refine hK3 _ _ ?_
  try clear hK3 K3
  refine scode_if (b := false) (by simp [go_sem]) (fun h => by cases h) (fun _ => ?_)
  refine scode_skip ?_
  refine hK2 _ _ ?_
  try clear hK2 K2
  refine scode_seq_k (fun K5 hK5 => ?_)
  refine scode_seq_k (fun K6 hK6 => ?_)
  refine scode_region (by kernel_rfl) ?_
  simp [go_sem]
  refine hK6 _ _ ?_
  try clear hK6 K6
  refine scode_if (b := decide (70000 < (t.length : Int))) (by simp [go_sem]) (fun hb => ?_) (fun hb => ?_)
  · skip
    refine scode_seq_k (fun K7 hK7 => ?_)
    refine scode_region (by kernel_rfl) ?_
    simp [go_sem]
    refine hK7 _ _ ?_
    try clear hK7 K7
    refine scode_ret ?_
    simp only [go_sem]
    refine hR _ _ ?_
    exact ret_plain (by simp [go_sem]) (empty_le _) (Nat.zero_le _) (by simp [go_sem])
  · skip
    simp only [decide_eq_false_iff_not] at hb
    refine scode_skip ?_
    refine hK5 _ _ ?_
    try clear hK5 K5
    refine scode_seq_k (fun K8 hK8 => ?_)
    have cp := parse_s t (by omega)
    rcases parseT_cases t with ⟨p, er, hp, her⟩ | ⟨a, b, l, hp⟩
    · skip
      rw [hp] at cp
      unfold resA at cp
      have hl0 := cfl noCfg
      simp only [AV.leaf] at hl0
      have hne0 : ¬ er = 0 := by omega
      refine scode_region (by kernel_rfl) ?_
      refine w_take 2 (fun K9 hK9 => ?_)
      simp [go_sem, cl, hl0, c_d18']
      refine ⟨_, _, scalls_frame cp (by simp [go_sem]) (by simp [go_sem, eA, eV, cfgC]) _, ?_⟩
      refine hK9 _ _ ?_
      clear hK9 K9
      simp [go_sem, cl, hl0, c_d18']
      refine hK8 _ _ ?_
      try clear hK8 K8
      refine scode_seq_k (fun K10 hK10 => ?_)
      refine scode_seq_k (fun K11 hK11 => ?_)
      refine scode_region (by kernel_rfl) ?_
      simp [go_sem, hne0]
      refine hK11 _ _ ?_
      try clear hK11 K11
      refine scode_if (b := true) (by simp [go_sem, hne0]) (fun _ => ?_) (fun h => by cases h)
      refine scode_seq_k (fun K12 hK12 => ?_)
      refine scode_region (by kernel_rfl) ?_
      simp [go_sem, eA]
      refine hK12 _ _ ?_
      try clear hK12 K12
      refine scode_ret ?_
      simp only [go_sem]
      refine hR _ _ ?_
      exact ret_plain (by simp [go_sem]) (empty_le _) (Nat.zero_le _) (by simp [go_sem])
    · skip
      rw [hp] at cp
      unfold resA at cp
      have la := cfl a
      have lb := cfl b
      simp only [AV.leaf] at la lb
      have cpr := print_again t a b l hp
      refine scode_region (by kernel_rfl) ?_
      refine w_take 2 (fun K13 hK13 => ?_)
      simp [go_sem, cl, la, lb, c_d18']
      refine ⟨_, _, scalls_frame cp (by simp [go_sem]) (by simp [go_sem, eA_lt, cfgC]) _, ?_⟩
      refine hK13 _ _ ?_
      clear hK13 K13
      simp [go_sem, cl, la, lb, c_d18']
      refine hK8 _ _ ?_
      try clear hK8 K8
      refine scode_seq_k (fun K14 hK14 => ?_)
      refine scode_seq_k (fun K15 hK15 => ?_)
      refine scode_region (by kernel_rfl) ?_
      simp [go_sem]
      refine hK15 _ _ ?_
      try clear hK15 K15
      refine scode_if (b := false) (by simp [go_sem]) (fun h => by cases h) (fun _ => ?_)
      refine scode_skip ?_
      refine hK14 _ _ ?_
      try clear hK14 K14
      refine scode_seq_k (fun K16 hK16 => ?_)
      refine scode_region (by kernel_rfl) ?_
      refine w_take 4 (fun K17 hK17 => ?_)
      simp [go_sem, cl, c_t18']
      refine ⟨_, _, scalls_frame cpr (by simp [go_sem, eA_lt, cfgC]) (by simp [go_sem]) _, ?_⟩
      refine hK17 _ _ ?_
      clear hK17 K17
      simp [go_sem, cl, c_t18']
      refine hK16 _ _ ?_
      try clear hK16 K16
      refine scode_seq_k (fun K18 hK18 => ?_)
      refine scode_region (by kernel_rfl) ?_
      simp [go_sem]
      refine hK18 _ _ ?_
      try clear hK18 K18
      refine scode_ret ?_
      simp only [go_sem]
      refine hR _ _ ?_
      exact ret_plain (by simp [go_sem]) (empty_le _) (Nat.zero_le _) (by simp [go_sem])

end Go.Proofs.YtfmpakmigmehkaaGreatDoor
end S27S
