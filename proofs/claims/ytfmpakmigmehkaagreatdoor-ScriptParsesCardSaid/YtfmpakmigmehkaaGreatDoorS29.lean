/- Contract: the law of ScriptLines. -/
import Derived.Test.YtfmpakmigmehkaaGreatDoorFl43
import Derived.Test.YtfmpakmigmehkaaGreatDoorS28
set_option linter.unusedVariables false
set_option linter.unusedSimpArgs false
set_option maxRecDepth 20000
noncomputable section
namespace Go.Proofs.YtfmpakmigmehkaaGreatDoor
open Go Go.Fl Go.Proofs

theorem small_H (c : CfgS) (l : List EvI) (H : Heap) : SCalls Tryz.prog 12 [.agg (cfgC c), eA l] H (.bool (smallB c l)) H := scalls_frame (small_s c l) (by simp [go_sem, eA_lt, cfgC]) (by simp [go_sem]) H
theorem events_H (l : List EvI) (hn : l.length ≤ 1000000) (H : Heap) : SCalls Tryz.prog 14 [eA l] H (eA l) H := scalls_frame (events_s l hn) (by simp [eA_lt]) (eA_lt _ _) H
theorem two_H (n : Int) (H : Heap) : SCalls Tryz.prog 17 [.int n, .bool true] H (.tup [.agg (cfgC (two1 n)), .agg (cfgC (two2 n))]) H := scalls_frame (two_s n) (by simp [go_sem]) (by simp [go_sem, cfgC]) H
theorem awake_H (H : Heap) : SCalls Tryz.prog 7 [] H (.bool true) H := scalls_frame awake_s (by simp) (by simp [go_sem]) H
theorem print_H (a b : CfgS) (l : List EvI) (oka : a.ok) (okb : b.ok) (hna : a.name.length ≤ 1000000) (hsa : a.secret.length ≤ 1000000) (hnb : b.name.length ≤ 1000000) (hsb : b.secret.length ≤ 1000000) (hl : ∀ e ∈ l, e.sat) (hn : l.length ≤ 1000000) (H : Heap) :
    SCalls Tryz.prog 13 [.agg (cfgC a), .agg (cfgC b), eA l] H (.tup [sA (printR a b (l.map EvI.toS)).1, .int (printR a b (l.map EvI.toS)).2]) H := scalls_frame (print_s a b l oka okb hna hsa hnb hsb hl hn) (by simp [go_sem, eA_lt, cfgC]) (by simp [go_sem]) H
theorem printR_zero {a b : CfgS} {l : List EvS} {t : Word} (h : printR a b l = (t, 0)) : t = printT a b l ∧ (∀ e ∈ l, 1 ≤ e.do_ ∧ e.do_ ≤ 11) ∧ l.length ≤ 2046 ∧ t.length ≤ 65536 := by
  unfold printR at h
  split at h
  · simp at h
  · rename_i h1
    split at h
    · simp at h
    · split at h
      · simp at h
      · have e : printT a b l = t := (Prod.mk.inj h).1
        subst e
        refine ⟨rfl, fun e he => ?_, by omega, by omega⟩
        rw [List.any_eq_true] at h1
        by_cases k : 1 ≤ e.do_ ∧ e.do_ ≤ 11
        · exact k
        · exact absurd ⟨e, he, by simp; omega⟩ h1
/-- How many of the first two lines end ahead of a place. -/
def cnt (A B : Word) (j : Nat) : Nat := if j ≤ A.length then 0 else if j ≤ A.length + 1 + B.length then 1 else 2
theorem cnt_lt {A B : Word} {j : Nat} (h : j < A.length + B.length + 2) : cnt A B j < 2 := by
  unfold cnt
  split
  · omega
  · split
    · omega
    · omega
theorem cnt_end (A B : Word) : cnt A B (A.length + B.length + 2) = 2 := by
  unfold cnt
  rw [if_neg (by omega), if_neg (by omega)]
theorem cnt_step (A B R : Word) (hA : (10 : UInt8) ∉ A) (hB : (10 : UInt8) ∉ B) (j : Nat) (hj : j < A.length + B.length + 2) : ∃ x, (A ++ 10 :: (B ++ 10 :: R))[j]? = some x ∧ cnt A B (j + 1) = if x = 10 then cnt A B j + 1 else cnt A B j := by
  rcases Nat.lt_trichotomy j A.length with h | h | h
  · refine ⟨A[j], by rw [List.getElem?_append_left h]; simp [h], ?_⟩
    have : A[j] ≠ 10 := fun e => hA (e ▸ List.getElem_mem h)
    rw [if_neg this]
    unfold cnt
    rw [if_pos (by omega), if_pos (by omega)]
  · subst h
    refine ⟨10, by rw [List.getElem?_append_right (Nat.le_refl _)]; simp, ?_⟩
    rw [if_pos rfl]
    unfold cnt
    rw [if_neg (by omega), if_pos (by omega), if_pos (by omega)]
  · rw [List.getElem?_append_right (by omega)]
    obtain ⟨k, hk⟩ : ∃ k, j - A.length = k + 1 := ⟨j - A.length - 1, by omega⟩
    rw [hk, List.getElem?_cons_succ]
    rcases Nat.lt_or_ge k B.length with h2 | h2
    · refine ⟨B[k], by rw [List.getElem?_append_left h2]; simp [h2], ?_⟩
      have : B[k] ≠ 10 := fun e => hB (e ▸ List.getElem_mem h2)
      rw [if_neg this]
      unfold cnt
      rw [if_neg (by omega), if_pos (by omega), if_neg (by omega), if_pos (by omega)]
    · have : k = B.length := by omega
      subst this
      refine ⟨10, by rw [List.getElem?_append_right (Nat.le_refl _)]; simp, ?_⟩
      rw [if_pos rfl]
      unfold cnt
      rw [if_neg (by omega), if_neg (by omega), if_neg (by omega), if_pos (by omega)]
theorem zrep1_10 (a : AV) : zrep [a] 10 = [a, a, a, a, a, a, a, a, a, a] := by kernel_rfl
def badLits : List Word := badLines.map fun w => w ++ [10]
theorem whole_len {a b : CfgS} {s u : Bool} (ha : Md a s) (hb : Md b u) {l : List EvI} (hl : ∀ e ∈ l, e.toS.ints ∧ e.b.length ≤ 400) (hn : l.length ≤ 60) : (printT a b (l.map EvI.toS)).length ≤ 52000 := by
  have h1 := ha.line_le
  have h2 := hb.line_le
  have h3 := textL_len ((l.map EvI.toS).map EvS.line) 852 (fun w hw => by
    obtain ⟨e, he, rfl⟩ := List.mem_map.1 hw
    obtain ⟨e0, he0, rfl⟩ := List.mem_map.1 he
    obtain ⟨k1, k2⟩ := hl e0 he0
    have := ev_line_len e0.toS k1
    have hbb : e0.toS.b = e0.b := rfl
    rw [hbb] at this
    omega)
  rw [List.length_map, List.length_map] at h3
  have e : printT a b (l.map EvI.toS) = (a.line ++ [10]) ++ ((b.line ++ [10]) ++ textL ((l.map EvI.toS).map EvS.line)) := by simp [printT, textL]
  rw [e, List.length_append, List.length_append, List.length_append, List.length_append, List.length_singleton]
  omega
theorem pick_at (m : Int) (hm : 0 ≤ m ∧ m ≤ 65535) : ∃ q : Nat, (IntKind.i64.wrap m).tmod 10 = (q : Int) ∧ q < 10 := by
  have hw : IntKind.i64.wrap m = m := i64in _ (by omega) (by omega)
  obtain ⟨x, hx⟩ : ∃ x : Nat, m = (x : Int) := ⟨m.toNat, by omega⟩
  refine ⟨x % 10, ?_, Nat.mod_lt x (by omega)⟩
  rw [hw, hx]
  rfl
theorem lit_at (q : Nat) (h : q < 10) : ∃ w, w ∈ badLines ∧ badLits[q]? = some (w ++ [10]) := by
  have hl : q < badLines.length := h
  refine ⟨badLines[q], List.getElem_mem hl, ?_⟩
  unfold badLits
  rw [List.getElem?_map, List.getElem?_eq_getElem hl]
  rfl
theorem bad_len : ∀ w ∈ badLines, w.length ≤ 10 := by decide
theorem printT_two (a b : CfgS) (l : List EvS) : printT a b l = a.line ++ 10 :: (b.line ++ 10 :: textL (l.map EvS.line)) := by simp [printT, textL]
theorem cfg_no10 (c : CfgS) : (10 : UInt8) ∉ c.line := join_plain _ (cfg_plain c)
theorem cut_at (m : Int) (k : Nat) (hm : 0 ≤ m ∧ m ≤ 65535) : ∃ i : Nat, (IntKind.i64.wrap (m / 16)).tmod ((k : Int) + 1) = (i : Int) ∧ i ≤ k := by
  have hw : IntKind.i64.wrap (m / 16) = m / 16 := i64in _ (by omega) (by omega)
  obtain ⟨x, hx⟩ : ∃ x : Nat, m / 16 = (x : Int) := ⟨(m / 16).toNat, by omega⟩
  have hlt := Nat.mod_lt x (show k + 1 > 0 by omega)
  refine ⟨x % (k + 1), ?_, by omega⟩
  rw [hw, hx]
  rfl
theorem small_two {c : CfgS} {s : Bool} (h : Md c s) (l : List EvI) : smallB c l = roomB l 150 := by
  unfold smallB
  rw [h.2.1, h.2.2.1]
  rfl

theorem lines_law (n m : Int) (l : List EvI) (hm : 0 ≤ m ∧ m ≤ 65535) (hi : ∀ e ∈ l, e.toS.ints) : SCalls Tryz.prog 6 [.int n, eA l, .sc (.int .u16 m)] Heap.empty (.bool true) Heap.empty := by
  obtain ⟨a, ha⟩ : ∃ c, two1 n = c := ⟨_, rfl⟩
  obtain ⟨b, hb0⟩ : ∃ c, two2 n = c := ⟨_, rfl⟩
  obtain ⟨sa, ma⟩ : ∃ s, Md a s := ⟨_, ha ▸ two1_ok n⟩
  obtain ⟨sb, mb⟩ : ∃ s, Md b s := ⟨_, hb0 ▸ two2_ok n⟩
  have c17 := two_H n
  rw [ha, hb0] at c17
  have la := cfl a
  have lb := cfl b
  simp only [AV.leaf] at la lb
  have csm := small_H a l
  rw [small_two ma l] at csm
  have hLk : (eV l).length = l.length * 5 := eV_len l
  refine scalls_of_k (sz := 154) (Tryz.call6) Tryz.func6 rfl (Nat.zero_le _) (by kernel_rfl) (fun R hR => ?_)
  refine scode_seq_k (fun K1 hK1 => ?_)
  refine scode_region (by kernel_rfl) ?_
  simp [go_sem]
  refine hK1 _ _ ?_
  try clear hK1 K1
  refine scode_seq_k (fun K2 hK2 => ?_)
  refine scode_seq_k (fun K3 hK3 => ?_)
  refine scode_region (by kernel_rfl) ?_
  refine w_take 1 (fun K4 hK4 => ?_)
  simp [go_sem]
  refine ⟨_, _, awake_H _, ?_⟩
  refine hK4 _ _ ?_
  clear hK4 K4
  simp [go_sem]
  refine hK3 _ _ ?_
  try clear hK3 K3
  refine scode_if (b := false) (by simp [go_sem]) (fun h => by cases h) (fun _ => ?_)
  refine scode_skip ?_
  refine hK2 _ _ ?_
  try clear hK2 K2
  refine scode_seq_mid (fun env H => env 1 = .vs l.length 5 (eV l) ∧ env 2 = .sc (.int .u16 m) ∧ env 7 = .ptr 0 0 ∧ env 8 = .ptr 1 0 ∧ H.get 0 = some (cfgC a) ∧ H.get 1 = some (cfgC b)) ?_ ?_
  · skip
    refine scode_region (by kernel_rfl) ?_
    refine w_take 2 (fun K6 hK6 => ?_)
    simp [go_sem, cl, la, lb, c_d18']
    refine ⟨_, _, c17 _, ?_⟩
    refine hK6 _ _ ?_
    clear hK6 K6
    simp [go_sem, cl, la, lb, c_d18']
    first
      | done
      | rfl
  rintro env H ⟨e1, e2, e7, e8, g0, g1⟩
  refine scode_seq_mid (fun env H => (env 1 = .vs l.length 5 (eV l) ∧ env 2 = .sc (.int .u16 m) ∧ env 7 = .ptr 0 0 ∧ env 8 = .ptr 1 0 ∧ H.get 0 = some (cfgC a) ∧ H.get 1 = some (cfgC b)) ∧ roomB l 150 = true ∧ l.length ≤ 60) ?_ ?_
  · skip
    refine scode_seq_k (fun K8 hK8 => ?_)
    rcases Bool.eq_false_or_eq_true (roomB l 150) with hr | hr
    · skip
      rw [hr] at csm
      unfold eA at csm
      refine scode_region (by kernel_rfl) ?_
      refine w_take 3 (fun K9 hK9 => ?_)
      simp [go_sem, e1, e7, g0, cl, c_t18']
      refine ⟨_, _, csm _, ?_⟩
      refine hK9 _ _ ?_
      clear hK9 K9
      simp [go_sem, e1, e7, g0, cl, c_t18']
      refine hK8 _ _ ?_
      try clear hK8 K8
      refine scode_if (b := decide (60 < (l.length : Int))) (by simp [go_sem]) (fun hb => ?_) (fun hb => ?_)
      · skip
        refine scode_seq_k (fun K10 hK10 => ?_)
        refine scode_region (by kernel_rfl) ?_
        simp [go_sem]
        refine hK10 _ _ ?_
        try clear hK10 K10
        refine scode_ret ?_
        simp only [go_sem]
        refine hR _ _ ?_
        exact ret_plain (by simp [go_sem]) (empty_le _) (Nat.zero_le _) (by simp [go_sem])
      · skip
        simp only [decide_eq_false_iff_not] at hb
        refine scode_skip ?_
        exact ⟨⟨by simp [go_sem, e1], by simp [go_sem, e2], by simp [go_sem, e7], by simp [go_sem, e8], by simp [go_sem, g0], by simp [go_sem, g1]⟩, hr, by omega⟩
    · skip
      rw [hr] at csm
      unfold eA at csm
      refine scode_region (by kernel_rfl) ?_
      refine w_take 3 (fun K11 hK11 => ?_)
      simp [go_sem, e1, e7, g0, cl, c_t18']
      refine ⟨_, _, csm _, ?_⟩
      refine hK11 _ _ ?_
      clear hK11 K11
      simp [go_sem, e1, e7, g0, cl, c_t18']
      refine hK8 _ _ ?_
      try clear hK8 K8
      refine scode_if (b := true) (by simp [go_sem]) (fun _ => ?_) (fun h => by cases h)
      refine scode_seq_k (fun K12 hK12 => ?_)
      refine scode_region (by kernel_rfl) ?_
      simp [go_sem]
      refine hK12 _ _ ?_
      try clear hK12 K12
      refine scode_ret ?_
      simp only [go_sem]
      refine hR _ _ ?_
      exact ret_plain (by simp [go_sem]) (empty_le _) (Nat.zero_le _) (by simp [go_sem])
  clear e1 e2 e7 e8 g0 g1
  rintro env H ⟨⟨e1, e2, e7, e8, g0, g1⟩, hr, hlen⟩
  have hsat : ∀ e ∈ l, e.sat := fun e he => ⟨hi e he, by
    have := (Bool.and_eq_true_iff.1 hr).2
    have := List.all_eq_true.1 this e he
    simp [shortB] at this
    omega⟩
  have hL1 := i64_succ l.length (by omega)
  have hz1 : ¬ ((l.length : Int) + 1 = 0) := by omega
  obtain ⟨i, hcut, hil⟩ := cut_at m l.length hm
  refine scode_seq_mid (fun env H => (env 1 = .vs l.length 5 (eV l) ∧ env 2 = .sc (.int .u16 m) ∧ env 7 = .ptr 0 0 ∧ env 8 = .ptr 1 0 ∧ H.get 0 = some (cfgC a) ∧ H.get 1 = some (cfgC b)) ∧ env 9 = .int i) ?_ ?_
  · skip
    refine scode_region (by kernel_rfl) ?_
    simp [go_sem, e1, e2, hL1, hcut, hz1]
    first
      | done
      | (simp [go_sem, e1, e2, e7, e8, g0, g1]; done)
  clear e1 e2 e7 e8 g0 g1
  rintro env H ⟨⟨e1, e2, e7, e8, g0, g1⟩, e9⟩
  have hti : (l.take i).length = i := by simp; omega
  have htd : (l.drop i).length = l.length - i := by simp
  obtain ⟨t1, x1, hp1⟩ : ∃ t x, printR a b ((l.take i).map EvI.toS) = (t, x) := ⟨_, _, rfl⟩
  obtain ⟨t2, x2, hp2⟩ : ∃ t x, printR a b ((l.drop i).map EvI.toS) = (t, x) := ⟨_, _, rfl⟩
  have htk : (eV (l.drop i)).take ((l.length - i) * 5) = eV (l.drop i) := List.take_of_length_le (by rw [eV_len, htd]; exact Nat.le_refl _)
  have c14 := events_H (l.take i) (by omega)
  have d14 := events_H (l.drop i) (by omega)
  have c13 := print_H a b (l.take i) ma.1 mb.1 ma.name_le ma.secret_le mb.name_le mb.secret_le (fun e he => hsat e (List.mem_of_mem_take he)) (by omega)
  have d13 := print_H a b (l.drop i) ma.1 mb.1 ma.name_le ma.secret_le mb.name_le mb.secret_le (fun e he => hsat e (List.mem_of_mem_drop he)) (by omega)
  unfold eA at c14 d14 c13 d13
  rw [hti] at c14 c13
  rw [htd] at d14 d13
  rw [hp1] at c13
  rw [hp2] at d13
  refine scode_seq_mid (fun env H => (env 1 = .vs l.length 5 (eV l) ∧ env 2 = .sc (.int .u16 m) ∧ env 7 = .ptr 0 0 ∧ env 8 = .ptr 1 0 ∧ H.get 0 = some (cfgC a) ∧ H.get 1 = some (cfgC b)) ∧ env 9 = .int i ∧ env 10 = sA t1 ∧ env 11 = .int x1) ?_ ?_
  · skip
    refine scode_drawS mixed (by kernel_rfl) ?_
    refine ws_take 6 (fun K15 hK15 => ?_)
    simp [go_sem, e1, e7, e8, e9, g0, g1, cl, c_t18', eV_take, hil, hLk]
    refine ⟨_, _, c14 _, rfl, ?_⟩
    refine hK15 _ _ ?_
    clear hK15 K15
    refine ws_take 1 (fun K16 hK16 => ?_)
    simp [go_sem, e1, e7, e8, e9, g0, g1, cl, c_t18', eV_take, hil, hLk]
    refine ⟨_, _, c13 _, rfl, ?_⟩
    refine hK16 _ _ ?_
    clear hK16 K16
    simp [go_sem, e1, e7, e8, e9, g0, g1, cl, c_t18', eV_take, hil, hLk]
    first
      | done
      | (simp [go_sem, e1, e2, e7, e8, e9, g0, g1]; done)
  clear e1 e2 e7 e8 g0 g1 e9
  rintro env H ⟨⟨e1, e2, e7, e8, g0, g1⟩, e9, e10, e11⟩
  refine scode_seq_mid (fun env H => (env 1 = .vs l.length 5 (eV l) ∧ env 2 = .sc (.int .u16 m) ∧ env 7 = .ptr 0 0 ∧ env 8 = .ptr 1 0 ∧ H.get 0 = some (cfgC a) ∧ H.get 1 = some (cfgC b)) ∧ env 9 = .int i ∧ env 10 = sA t1 ∧ env 11 = .int x1 ∧ env 12 = sA t2 ∧ env 13 = .int x2) ?_ ?_
  · skip
    refine scode_drawS mixed (by kernel_rfl) ?_
    refine ws_take 6 (fun K18 hK18 => ?_)
    simp [go_sem, e1, e7, e8, e9, g0, g1, cl, c_t18', eV_dropL, hil, hLk, htk]
    refine ⟨_, _, d14 _, rfl, ?_⟩
    refine hK18 _ _ ?_
    clear hK18 K18
    refine ws_take 1 (fun K19 hK19 => ?_)
    simp [go_sem, e1, e7, e8, e9, g0, g1, cl, c_t18', eV_dropL, hil, hLk, htk]
    refine ⟨_, _, d13 _, rfl, ?_⟩
    refine hK19 _ _ ?_
    clear hK19 K19
    simp [go_sem, e1, e7, e8, e9, g0, g1, cl, c_t18', eV_dropL, hil, hLk, htk]
    first
      | done
      | (simp [go_sem, e1, e2, e7, e8, e9, e10, e11, g0, g1]; done)
  clear e1 e2 e7 e8 g0 g1 e9 e10 e11
  rintro env H ⟨⟨e1, e2, e7, e8, g0, g1⟩, e9, e10, e11, e12, e13⟩
  refine scode_seq_mid (fun env H => (env 1 = .vs l.length 5 (eV l) ∧ env 2 = .sc (.int .u16 m) ∧ env 9 = .int i ∧ env 10 = sA t1 ∧ env 12 = sA t2) ∧ x1 = 0 ∧ x2 = 0) ?_ ?_
  · skip
    refine scode_seq_k (fun K21 hK21 => ?_)
    rcases (by omega : x1 ≠ 0 ∨ (x1 = 0 ∧ x2 ≠ 0) ∨ (x1 = 0 ∧ x2 = 0)) with h1 | ⟨hx1, h1⟩ | ⟨hx1, hx2⟩
    · skip
      have h1b : (x1 != 0) = true := by simpa using h1
      refine scode_region (by kernel_rfl) ?_
      simp [go_sem, e11, e13, h1b]
      refine hK21 _ _ ?_
      try clear hK21 K21
      refine scode_if (b := true) (by simp [go_sem]) (fun _ => ?_) (fun h => by cases h)
      refine scode_seq_k (fun K22 hK22 => ?_)
      refine scode_region (by kernel_rfl) ?_
      simp [go_sem]
      refine hK22 _ _ ?_
      try clear hK22 K22
      refine scode_ret ?_
      simp only [go_sem]
      refine hR _ _ ?_
      exact ret_plain (by simp [go_sem]) (empty_le _) (Nat.zero_le _) (by simp [go_sem])
    · skip
      have h1b : (x2 != 0) = true := by simpa using h1
      refine scode_region (by kernel_rfl) ?_
      simp [go_sem, e11, e13, hx1, h1b]
      refine hK21 _ _ ?_
      try clear hK21 K21
      refine scode_if (b := true) (by simp [go_sem]) (fun _ => ?_) (fun h => by cases h)
      refine scode_seq_k (fun K23 hK23 => ?_)
      refine scode_region (by kernel_rfl) ?_
      simp [go_sem]
      refine hK23 _ _ ?_
      try clear hK23 K23
      refine scode_ret ?_
      simp only [go_sem]
      refine hR _ _ ?_
      exact ret_plain (by simp [go_sem]) (empty_le _) (Nat.zero_le _) (by simp [go_sem])
    · skip
      refine scode_region (by kernel_rfl) ?_
      simp [go_sem, e11, e13, hx1, hx2]
      refine hK21 _ _ ?_
      try clear hK21 K21
      refine scode_if (b := false) (by simp [go_sem]) (fun h => by cases h) (fun _ => ?_)
      refine scode_skip ?_
      exact ⟨⟨by simp [go_sem, e1], by simp [go_sem, e2], by simp [go_sem, e9], by simp [go_sem, e10], by simp [go_sem, e12]⟩, hx1, hx2⟩
  clear e1 e2 e7 e8 g0 g1 e9 e10 e11 e12 e13
  rintro env H ⟨⟨e1, e2, e9, e10, e12⟩, hx1, hx2⟩
  subst hx1
  subst hx2
  refine scode_seq_k (fun K24 hK24 => ?_)
  refine scode_region (by kernel_rfl) ?_
  simp [go_sem]
  refine hK24 _ _ ?_
  try clear hK24 K24
  obtain ⟨hT1, hG1, _, hS1⟩ := printR_zero hp1
  obtain ⟨hT2, hG2, _, hS2⟩ := printR_zero hp2
  have hT2c := hT2
  rw [printT_two] at hT2
  obtain ⟨A, hA⟩ : ∃ A, a.line = A := ⟨_, rfl⟩
  obtain ⟨B, hB⟩ : ∃ B, b.line = B := ⟨_, rfl⟩
  obtain ⟨R, hRR⟩ : ∃ R, textL (((l.drop i).map EvI.toS).map EvS.line) = R := ⟨_, rfl⟩
  rw [hA, hB, hRR] at hT2
  have hA10 : (10 : UInt8) ∉ A := hA ▸ cfg_no10 a
  have hB10 : (10 : UInt8) ∉ B := hB ▸ cfg_no10 b
  obtain ⟨N, hN⟩ : ∃ N, A.length + B.length + 2 = N := ⟨_, rfl⟩
  have hNle : N ≤ t2.length := by rw [hT2, ← hN]; simp; omega
  refine scode_seq_mid (fun env H => env 1 = .vs l.length 5 (eV l) ∧ env 2 = .sc (.int .u16 m) ∧ env 9 = .int i ∧ env 10 = sA t1 ∧ env 12 = sA t2 ∧ env 14 = .int N) ?_ ?_
  · skip
    refine scode_seq_k (fun K26 hK26 => ?_)
    refine scode_region (by kernel_rfl) ?_
    simp [go_sem]
    refine hK26 _ _ ?_
    try clear hK26 K26
    refine scode_block ?_
    refine scode_loop (Inv := fun n env H => ∃ j : Nat, n = N - j ∧ j ≤ N ∧ env 1 = .vs l.length 5 (eV l) ∧ env 2 = .sc (.int .u16 m) ∧ env 9 = .int i ∧ env 10 = sA t1 ∧ env 12 = sA t2 ∧ env 14 = .int j ∧ env 15 = .int (cnt A B j)) ?_ (n := N) (⟨0, by omega, by omega, by simp [go_sem, e1], by simp [go_sem, e2], by simp [go_sem, e9], by simp [go_sem, e10], by simp [go_sem, e12], by simp [go_sem], by simp [go_sem]; unfold cnt; rw [if_pos (Nat.zero_le _)]; rfl⟩)
    clear e1 e2 e9 e10 e12
    rintro n env H ⟨j, rfl, hj, e1, e2, e9, e10, e12, e14, e15⟩
    refine scode_seq_k (fun K27 hK27 => ?_)
    refine scode_seq_k (fun K28 hK28 => ?_)
    rcases (by omega : j < N ∨ (j = N ∧ j < t2.length) ∨ (j = N ∧ ¬ j < t2.length)) with hjN | ⟨hjN, hjl⟩ | ⟨hjN, hjl⟩
    · skip
      have hjl : j < t2.length := by omega
      have hc2 := cnt_lt (A := A) (B := B) (j := j) (by omega)
      have hc2i : (cnt A B j : Int) < 2 := by omega
      obtain ⟨x, hx, hst⟩ := cnt_step A B R hA10 hB10 j (by omega)
      rw [← hT2] at hx
      have hat := str_at t2 .i64 j j x rfl hx
      refine scode_region (by kernel_rfl) ?_
      simp [go_sem, e12, e14, e15, hjl, hc2i]
      refine hK28 _ _ ?_
      try clear hK28 K28
      refine scode_if (b := true) (by simp [go_sem]) (fun _ => ?_) (fun h => by cases h)
      refine scode_skip ?_
      refine hK27 _ _ ?_
      try clear hK27 K27
      refine scode_seq_k (fun K29 hK29 => ?_)
      refine scode_block ?_
      refine scode_seq_k (fun K30 hK30 => ?_)
      refine scode_region (by kernel_rfl) ?_
      simp [go_sem, e12, e14, hat]
      refine hK30 _ _ ?_
      try clear hK30 K30
      refine scode_if (b := ((x.toNat : Int) == 10)) (by simp [go_sem]) (fun hb => ?_) (fun hb => ?_)
      · skip
        obtain rfl : x = 10 := byte_eq (n := 10) hb (by omega)
        rw [if_pos rfl] at hst
        have hw15 : IntKind.i64.wrap ((cnt A B j : Int) + 1) = ((cnt A B j : Int) + 1) := i64in _ (by omega) (by omega)
        refine scode_region (by kernel_rfl) ?_
        simp [go_sem, e15, hw15]
        refine hK29 _ _ ?_
        try clear hK29 K29
        refine scode_region (by kernel_rfl) ?_
        simp [go_sem, e14]
        have hw := i64_succ j (by omega)
        exact ⟨N - (j + 1), by omega, j + 1, rfl, by omega, by simp [go_sem, e1], by simp [go_sem, e2], by simp [go_sem, e9], by simp [go_sem, e10], by simp [go_sem, e12], by simp [go_sem, hw], by simp [go_sem, e15, hst]⟩
      · skip
        have hx10 : x ≠ 10 := byte_ne (n := 10) hb (by omega)
        rw [if_neg hx10] at hst
        refine scode_skip ?_
        refine hK29 _ _ ?_
        try clear hK29 K29
        refine scode_region (by kernel_rfl) ?_
        simp [go_sem, e14]
        have hw := i64_succ j (by omega)
        exact ⟨N - (j + 1), by omega, j + 1, rfl, by omega, by simp [go_sem, e1], by simp [go_sem, e2], by simp [go_sem, e9], by simp [go_sem, e10], by simp [go_sem, e12], by simp [go_sem, hw], by simp [go_sem, e15, hst]⟩
    · skip
      subst hjN
      have hc2 : cnt A B j = 2 := by rw [← hN]; exact cnt_end A B
      refine scode_region (by kernel_rfl) ?_
      simp [go_sem, e12, e14, e15, hjl, hc2]
      refine hK28 _ _ ?_
      try clear hK28 K28
      refine scode_if (b := false) (by simp [go_sem]) (fun h => by cases h) (fun _ => ?_)
      refine scode_exit ?_
      exact ⟨e1, e2, e9, e10, e12, e14⟩
    · skip
      subst hjN
      refine scode_region (by kernel_rfl) ?_
      simp [go_sem, e12, e14, e15, hjl]
      refine hK28 _ _ ?_
      try clear hK28 K28
      refine scode_if (b := false) (by simp [go_sem]) (fun h => by cases h) (fun _ => ?_)
      refine scode_exit ?_
      exact ⟨e1, e2, e9, e10, e12, e14⟩
  clear e1 e2 e9 e10 e12
  rintro env H ⟨e1, e2, e9, e10, e12, e14⟩
  refine scode_seq_mid (fun env H => env 1 = .vs l.length 5 (eV l) ∧ env 2 = .sc (.int .u16 m) ∧ env 9 = .int i ∧ env 10 = sA t1 ∧ env 12 = sA t2 ∧ env 14 = .int N ∧ ∃ k, env 16 = .ms k 0 10 1 ∧ H.get k = some (wV badLits)) ?_ ?_
  · skip
    refine scode_region (by kernel_rfl) ?_
    simp [go_sem, zrep1_10]
    exact ⟨e1, e2, e9, e10, e12, e14, rfl⟩
  clear e1 e2 e9 e10 e12 e14
  rintro env H ⟨e1, e2, e9, e10, e12, e14, k, e16, gk⟩
  refine scode_freeze_grown 16 e16 (grown_of gk (by rw [wV_len]; rfl)) ?_
  refine scode_gen (fun env H => env 1 = .vs l.length 5 (eV l) ∧ env 2 = .sc (.int .u16 m) ∧ env 9 = .int i ∧ env 10 = sA t1 ∧ env 12 = sA t2 ∧ env 14 = .int N ∧ env 16 = .vs 10 1 (wV badLits)) (by simp [go_sem, e1, e2, e9, e10, e12, e14]) ?_
  clear e1 e2 e9 e10 e12 e14 e16 gk
  rintro env H ⟨e1, e2, e9, e10, e12, e14, e16⟩
  have hRd : t2.drop N = R := by
    have : N = (A ++ 10 :: (B ++ [10])).length := by rw [← hN]; simp; omega
    rw [hT2, this, show A ++ 10 :: (B ++ 10 :: R) = (A ++ 10 :: (B ++ [10])) ++ R by simp, List.drop_left]
  have hsl := str_slice_lo t2 .i64 N N rfl hNle
  rw [hRd] at hsl
  have hall : ∀ e ∈ (l.take i).map EvI.toS ++ (l.drop i).map EvI.toS, e.ints ∧ 1 ≤ e.do_ ∧ e.do_ ≤ 11 := by
    intro e he
    rcases List.mem_append.1 he with h | h
    · obtain ⟨e0, he0, rfl⟩ := List.mem_map.1 h
      exact ⟨hi e0 (List.mem_of_mem_take he0), hG1 _ h⟩
    · obtain ⟨e0, he0, rfl⟩ := List.mem_map.1 h
      exact ⟨hi e0 (List.mem_of_mem_drop he0), hG2 _ h⟩
  have hcat : (l.take i).map EvI.toS ++ (l.drop i).map EvI.toS = l.map EvI.toS := by rw [← List.map_append, List.take_append_drop]
  have hwhole : (printT a b (l.map EvI.toS)).length ≤ 52000 := whole_len ma mb (fun e he => ⟨hi e he, by
    have := List.all_eq_true.1 (Bool.and_eq_true_iff.1 hr).2 e he
    simp [shortB] at this
    omega⟩) hlen
  have htR : t1 ++ R = printT a b (l.map EvI.toS) := by rw [hT1, ← hRR, printT_app, hcat]
  have hadd := srun_sadd Tryz.prog t1 R (by have := congrArg List.length htR; simp at this; omega)
  have hgood := lines_good a b _ _ ma.1 mb.1 hall (by rw [hcat, List.length_map]; omega) (by rw [hcat]; omega)
  rw [printT_app, hcat] at hgood
  have c8 := parse_H (t1 ++ R) (by rw [htR]; omega)
  rw [htR, hgood] at c8
  rw [htR] at hadd
  simp only [resA, eA] at c8
  obtain ⟨ev, hev⟩ : ∃ ev, List.map toI ((l.map EvI.toS).map EvS.spare) = ev := ⟨_, rfl⟩
  rw [hev] at c8
  have hle : ev.length = l.length := by rw [← hev]; simp
  rw [hle] at c8
  refine scode_seq_mid (fun env H => env 1 = .vs l.length 5 (eV l) ∧ env 2 = .sc (.int .u16 m) ∧ env 9 = .int i ∧ env 10 = sA t1 ∧ env 12 = sA t2 ∧ env 14 = .int N ∧ env 16 = .vs 10 1 (wV badLits) ∧ env 19 = .vs l.length 5 (eV ev) ∧ env 20 = .int 0 ∧ env 21 = .int 0) ?_ ?_
  · skip
    refine scode_region (by kernel_rfl) ?_
    refine w_take 6 (fun K33 hK33 => ?_)
    simp [go_sem, e10, e12, e14, hsl, hadd, cl, la, lb, c_d18']
    refine ⟨_, _, c8 _, ?_⟩
    refine hK33 _ _ ?_
    clear hK33 K33
    simp [go_sem, e10, e12, e14, hsl, hadd, cl, la, lb, c_d18']
    simp [go_sem, e1, e2, e9, e10, e12, e14, e16]
  clear e1 e2 e9 e10 e12 e14 e16
  rintro env H ⟨e1, e2, e9, e10, e12, e14, e16, e19, e20, e21⟩
  obtain ⟨q, hq, hq10⟩ := pick_at m hm
  have hq10i : (q : Int) < 10 := by omega
  obtain ⟨w, hwm, hwq⟩ : ∃ w, w ∈ badLines ∧ badLits[q]? = some (w ++ [10]) := lit_at q hq10
  obtain ⟨r, hdb⟩ := wV_at hwq
  have hLb : (wV badLits).length = 10 := by rw [wV_len]; rfl
  have hlw := bad_len w hwm
  have had1 := srun_sadd Tryz.prog t1 (w ++ [10]) (by simp; omega)
  have htl : t1.length + R.length ≤ 52000 := by have := congrArg List.length htR; rw [List.length_append] at this; omega
  have had2 := srun_sadd Tryz.prog (t1 ++ (w ++ [10])) R (by simp; omega)
  have hbad := lines_bad a b _ _ w ma.1 mb.1 hall hwm (by rw [hcat, List.length_map]; omega) (by rw [← hT1, hRR]; simp; omega)
  rw [← hT1, hRR, ← List.append_assoc] at hbad
  have d8 := parse_H (t1 ++ (w ++ [10]) ++ R) (by simp; omega)
  rw [hbad] at d8
  simp only [resA, eA, eV, List.flatMap_nil, List.length_nil] at d8
  rw [List.length_map, hti] at d8
  have happ : t1 ++ (w ++ [10]) ++ R = t1 ++ (w ++ 10 :: R) := by simp
  rw [happ] at d8 had2
  have hl0 := cfl noCfg
  simp only [AV.leaf] at hl0
  refine scode_seq_mid (fun env H => env 1 = .vs l.length 5 (eV l) ∧ env 9 = .int i ∧ env 19 = .vs l.length 5 (eV ev) ∧ env 20 = .int 0 ∧ env 21 = .int 0 ∧ env 24 = .vs 0 5 [] ∧ env 25 = .int ((i : Int) + 3) ∧ env 26 = .int 11) ?_ ?_
  · skip
    refine scode_draw3 (bf := [0, 0, 0, 4, 0, 16, 60, 126, 254, 511, 0, 0, 3072, 8191, 16383, 32767, 65535, 65535, 65535, 65535, 65535, 0, 0, 6422527, 14942207, 31981567, 66060287, 134217727]) 21 mixed (by kernel_rfl) rfl rfl tZ25 (by kernel_rfl) ?_
    refine wd_take 15 (by decide) (fun K91 hK91 => ?_)
    simp [go_sem, e2, e10, e12, e14, e16, befL, hq, hq10i, hLb, hdb, hsl, had1, had2]
    refine ⟨_, _, d8 _, ?_⟩
    try simp [go_sem, befL]
    refine hK91 _ _ _ _ ?_
    clear hK91 K91
    simp [go_sem, befL, cl, hl0, c_d18']
    first
      | done
      | (simp [go_sem, e1, e9, e19, e20, e21, hsl, had1, had2]; done)
  clear e1 e2 e9 e10 e12 e14 e16 e19 e20 e21
  rintro env H ⟨e1, e9, e19, e20, e21, e24, e25, e26⟩
  have hw3 : IntKind.i64.wrap ((i : Int) + 3) = (i : Int) + 3 := i64in _ (by omega) (by omega)
  refine scode_seq_k (fun K35 hK35 => ?_)
  refine scode_region (by kernel_rfl) ?_
  simp [go_sem, e1, e9, e19, e20, e21, e24, e25, e26, hw3]
  refine hK35 _ _ ?_
  try clear hK35 K35
  refine scode_ret ?_
  simp only [go_sem]
  refine hR _ _ ?_
  exact ret_plain (by simp [go_sem]) (empty_le _) (Nat.zero_le _) (by simp [go_sem])

end Go.Proofs.YtfmpakmigmehkaaGreatDoor
