/- Contract: the law of ScriptPrints. -/
import Derived.Test.YtfmpakmigmehkaaGreatDoorFl43
import Derived.Test.YtfmpakmigmehkaaGreatDoorS29
import Derived.Test.YtfmpakmigmehkaaGreatDoorS33
import Derived.Test.YtfmpakmigmehkaaGreatDoorS35
set_option linter.unusedVariables false
set_option linter.unusedSimpArgs false
set_option maxRecDepth 20000
noncomputable section
namespace Go.Proofs.YtfmpakmigmehkaaGreatDoor
open Go Go.Fl Go.Proofs

theorem small_nil (c : CfgS) (H : Heap) : SCalls Tryz.prog 12 [.agg (cfgC c), .nil] H (.bool (smallB c [])) H :=
  scalls_freeze (H' := H) (fun _ _ h => h) rfl (.cons (.same _) (.cons (.nil 5) .nil)) (scalls_frame (small_s c []) (by simp [go_sem, eA_lt, cfgC]) (by simp [go_sem]) H)
theorem rprint_H (a b : CfgS) (l : List EvI) (oka : a.ok) (okb : b.ok) (hna : a.name.length ≤ 1000000) (hsa : a.secret.length ≤ 1000000) (hnb : b.name.length ≤ 1000000) (hsb : b.secret.length ≤ 1000000) (hl : ∀ e ∈ l, e.sat) (hn : l.length ≤ 1000000) (H : Heap) :
    SCalls Tryz.prog 15 [.agg (cfgC a), .agg (cfgC b), eA l] H (.tup [sA (printR a b (l.map EvI.toS)).1, .int (printR a b (l.map EvI.toS)).2]) H := scalls_frame (rprint_s a b l oka okb hna hsa hnb hsb hl hn) (by simp [go_sem, eA_lt, cfgC]) (by simp [go_sem]) H
theorem spare_H (e : EvI) (H : Heap) : SCalls Tryz.prog 16 [.agg [.int e.do_, .int e.end_, .int e.n, .int e.proto, bA e.b]] H (.agg (evI (spareI e))) H := scalls_frame (spare_s e) (by simp [go_sem, bA_lt, evI]) (by simp [go_sem, evI, bA_lt]) H
theorem spare_eq (e : EvI) (h : 1 ≤ e.do_) : toI e.toS.spare = spareI e := by
  have hd : ((e.do_.toNat : Nat) : Int) = e.do_ := by omega
  unfold spareI EvS.spare
  show toI (match evKind e.do_.toNat with | _ => _) = _
  rcases kinds e.do_.toNat with hk | hk | hk | hk | hk <;> simp only [EvI.toS, hk, toI, hd]
def SpSt (l : List EvI) (i : Nat) (env : Env) (H : Heap) : Prop := ∃ x bo, env 16 = x ∧ grown H 5 x = some (((l.map spareI).take i).length, eV ((l.map spareI).take i), bo)
theorem smallB_le {c : CfgS} {l : List EvI} (h : smallB c l = true) : c.name.length ≤ 200 ∧ c.secret.length ≤ 500 ∧ roomB l 150 = true := by
  unfold smallB at h
  simp only [Bool.and_eq_true, decide_eq_true_eq] at h
  exact h

set_option maxHeartbeats 4000000 in
theorem prints_law (a b : CfgS) (l : List EvI) (oka : a.ok) (okb : b.ok) (hi : ∀ e ∈ l, e.toS.ints) : SCalls Tryz.prog 4 [.agg (cfgC a), .agg (cfgC b), eA l] Heap.empty (.bool true) Heap.empty := by
  have la := cfl a
  have lb := cfl b
  simp only [AV.leaf] at la lb
  have csa := small_H a l
  have csb := small_nil b
  have hLk : (eV l).length = l.length * 5 := eV_len l
  unfold eA at csa
  refine scalls_of_k (sz := 96) (Tryz.call4) Tryz.func4 rfl (Nat.zero_le _) (by kernel_rfl) (fun R hR => ?_)
  refine scode_seq_mid (fun env H => env 2 = .vs l.length 5 (eV l) ∧ env 3 = .ptr 0 0 ∧ env 4 = .ptr 1 0 ∧ H.get 0 = some (cfgC a) ∧ H.get 1 = some (cfgC b)) ?_ ?_
  · skip
    refine scode_region (by kernel_rfl) ?_
    simp [go_sem]
    first
      | done
      | rfl
      | exact ⟨rfl, rfl⟩
      | simp [go_sem, eA]
  rintro env H ⟨e2, e3, e4, g0, g1⟩
  refine scode_seq_k (fun K2 hK2 => ?_)
  refine scode_seq_k (fun K3 hK3 => ?_)
  refine scode_region (by kernel_rfl) ?_
  refine w_take 1 (fun K4 hK4 => ?_)
  simp [go_sem]
  refine ⟨_, _, awake_H _, ?_⟩
  refine hK4 _ _ ?_
  clear hK4 K4
  simp [go_sem]
  refine hK3 _ _ ?_
  try clear hK3 K3
  refine scode_if (b := false) (by simp [go_sem]) (fun h => by cases h) (fun _ => ?_)
  refine scode_skip ?_
  refine hK2 _ _ ?_
  try clear hK2 K2
  refine scode_seq_mid (fun env H => (env 2 = .vs l.length 5 (eV l) ∧ env 3 = .ptr 0 0 ∧ env 4 = .ptr 1 0 ∧ H.get 0 = some (cfgC a) ∧ H.get 1 = some (cfgC b)) ∧ smallB a l = true ∧ smallB b [] = true) ?_ ?_
  · skip
    refine scode_seq_k (fun K6 hK6 => ?_)
    rcases Bool.eq_false_or_eq_true (smallB a l) with hsa | hsa
    · skip
      rcases Bool.eq_false_or_eq_true (smallB b []) with hsb | hsb
      · skip
        rw [hsa] at csa
        rw [hsb] at csb
        refine scode_region (by kernel_rfl) ?_
        refine w_take 3 (fun K7 hK7 => ?_)
        simp [go_sem, e2, e3, e4, g0, g1, cl, c_t18']
        refine ⟨_, _, csa _, ?_⟩
        refine hK7 _ _ ?_
        clear hK7 K7
        refine w_take 4 (fun K8 hK8 => ?_)
        simp [go_sem, e2, e3, e4, g0, g1, cl, c_t18']
        refine ⟨_, _, csb _, ?_⟩
        refine hK8 _ _ ?_
        clear hK8 K8
        simp [go_sem, e2, e3, e4, g0, g1, cl, c_t18']
        refine hK6 _ _ ?_
        try clear hK6 K6
        refine scode_if (b := false) (by simp [go_sem]) (fun h => by cases h) (fun _ => ?_)
        refine scode_skip ?_
        exact ⟨⟨by simp [go_sem, e2], by simp [go_sem, e3], by simp [go_sem, e4], by simp [go_sem, g0], by simp [go_sem, g1]⟩, hsa, hsb⟩
      · skip
        rw [hsa] at csa
        rw [hsb] at csb
        refine scode_region (by kernel_rfl) ?_
        refine w_take 3 (fun K9 hK9 => ?_)
        simp [go_sem, e2, e3, e4, g0, g1, cl, c_t18']
        refine ⟨_, _, csa _, ?_⟩
        refine hK9 _ _ ?_
        clear hK9 K9
        refine w_take 4 (fun K10 hK10 => ?_)
        simp [go_sem, e2, e3, e4, g0, g1, cl, c_t18']
        refine ⟨_, _, csb _, ?_⟩
        refine hK10 _ _ ?_
        clear hK10 K10
        simp [go_sem, e2, e3, e4, g0, g1, cl, c_t18']
        refine hK6 _ _ ?_
        try clear hK6 K6
        refine scode_if (b := true) (by simp [go_sem]) (fun _ => ?_) (fun h => by cases h)
        refine scode_seq_k (fun K11 hK11 => ?_)
        refine scode_region (by kernel_rfl) ?_
        simp [go_sem]
        refine hK11 _ _ ?_
        try clear hK11 K11
        refine scode_ret ?_
        simp only [go_sem]
        refine hR _ _ ?_
        exact ret_plain (by simp [go_sem]) (empty_le _) (Nat.zero_le _) (by simp [go_sem])
    · skip
      rw [hsa] at csa
      refine scode_region (by kernel_rfl) ?_
      refine w_take 3 (fun K91 hK91 => ?_)
      simp [go_sem, e2, e3, e4, g0, g1, cl, c_t18']
      refine ⟨_, _, csa _, ?_⟩
      refine hK91 _ _ ?_
      simp [go_sem, e2, e3, e4, g0, g1, cl, c_t18']
      refine hK6 _ _ ?_
      try clear hK6 K6
      refine scode_if (b := true) (by simp [go_sem]) (fun _ => ?_) (fun h => by cases h)
      refine scode_seq_k (fun K12 hK12 => ?_)
      refine scode_region (by kernel_rfl) ?_
      simp [go_sem]
      refine hK12 _ _ ?_
      try clear hK12 K12
      refine scode_ret ?_
      simp only [go_sem]
      refine hR _ _ ?_
      exact ret_plain (by simp [go_sem]) (empty_le _) (Nat.zero_le _) (by simp [go_sem])
  clear e2 e3 e4 g0 g1
  rintro env H ⟨⟨e2, e3, e4, g0, g1⟩, hsa, hsb⟩
  obtain ⟨ha1, ha2, hr⟩ := smallB_le hsa
  obtain ⟨hb1, hb2, _⟩ := smallB_le hsb
  have hlen : l.length ≤ 150 := by
    have := (Bool.and_eq_true_iff.1 hr).1
    simp at this
    omega
  have hsat : ∀ e ∈ l, e.sat := fun e he => ⟨hi e he, by
    have := (Bool.and_eq_true_iff.1 hr).2
    have := List.all_eq_true.1 this e he
    simp [shortB] at this
    omega⟩
  obtain ⟨t, x, hp⟩ : ∃ t x, printR a b (l.map EvI.toS) = (t, x) := ⟨_, _, rfl⟩
  have c14 := events_H l (by omega)
  have c13 := print_H a b l oka okb (by omega) (by omega) (by omega) (by omega) hsat (by omega)
  have c15 := rprint_H a b l oka okb (by omega) (by omega) (by omega) (by omega) hsat (by omega)
  unfold eA at c14 c13 c15
  rw [hp] at c13 c15
  refine scode_seq_mid (fun env H => (env 2 = .vs l.length 5 (eV l) ∧ env 3 = .ptr 0 0 ∧ env 4 = .ptr 1 0 ∧ H.get 0 = some (cfgC a) ∧ H.get 1 = some (cfgC b)) ∧ env 7 = sA t ∧ env 8 = .int x) ?_ ?_
  · skip
    refine scode_drawS mixed (by kernel_rfl) ?_
    refine ws_take 4 (fun K14 hK14 => ?_)
    simp [go_sem, e2, e3, e4, g0, g1, cl, c_t18']
    refine ⟨_, _, c14 _, rfl, ?_⟩
    refine hK14 _ _ ?_
    clear hK14 K14
    refine ws_take 1 (fun K15 hK15 => ?_)
    simp [go_sem, e2, e3, e4, g0, g1, cl, c_t18']
    refine ⟨_, _, c13 _, rfl, ?_⟩
    refine hK15 _ _ ?_
    clear hK15 K15
    simp [go_sem, e2, e3, e4, g0, g1, cl, c_t18']
    first
      | done
      | (simp [go_sem, e2, e3, e4, g0, g1]; done)
      | exact ⟨rfl, rfl⟩
      | rfl
  clear e2 e3 e4 g0 g1
  rintro env H ⟨⟨e2, e3, e4, g0, g1⟩, e7, e8⟩
  refine scode_seq_mid (fun env H => (env 2 = .vs l.length 5 (eV l) ∧ env 3 = .ptr 0 0 ∧ env 4 = .ptr 1 0 ∧ H.get 0 = some (cfgC a) ∧ H.get 1 = some (cfgC b)) ∧ env 7 = sA t ∧ env 8 = .int x ∧ env 9 = sA t ∧ env 10 = .int x) ?_ ?_
  · skip
    refine scode_region (by kernel_rfl) ?_
    refine w_take 4 (fun K17 hK17 => ?_)
    simp [go_sem, e2, e3, e4, g0, g1, cl, c_t18']
    refine ⟨_, _, c15 _, ?_⟩
    refine hK17 _ _ ?_
    clear hK17 K17
    simp [go_sem, e2, e3, e4, g0, g1, cl, c_t18']
    first
      | done
      | (simp [go_sem, e2, e3, e4, g0, g1, e7, e8]; done)
      | exact ⟨rfl, rfl⟩
      | rfl
  clear e2 e3 e4 g0 g1 e7 e8
  rintro env H ⟨⟨e2, e3, e4, g0, g1⟩, e7, e8, e9, e10⟩
  refine scode_seq_k (fun K18 hK18 => ?_)
  refine scode_seq_k (fun K19 hK19 => ?_)
  refine scode_region (by kernel_rfl) ?_
  simp [go_sem, e7, e8, e9, e10]
  refine hK19 _ _ ?_
  try clear hK19 K19
  refine scode_if (b := false) (by simp [go_sem]) (fun h => by cases h) (fun _ => ?_)
  refine scode_skip ?_
  refine hK18 _ _ ?_
  try clear hK18 K18
  refine scode_seq_mid (fun env H => ((env 2 = .vs l.length 5 (eV l) ∧ env 3 = .ptr 0 0 ∧ env 4 = .ptr 1 0 ∧ H.get 0 = some (cfgC a) ∧ H.get 1 = some (cfgC b)) ∧ env 7 = sA t) ∧ x = 0) ?_ ?_
  · skip
    refine scode_seq_k (fun K21 hK21 => ?_)
    by_cases hx0 : x = 0
    · skip
      have hxb : (x != 0) = false := by rw [hx0]; rfl
      refine scode_region (by kernel_rfl) ?_
      simp [go_sem, e10, hxb]
      refine hK21 _ _ ?_
      try clear hK21 K21
      refine scode_if (b := false) (by simp [go_sem]) (fun h => by cases h) (fun _ => ?_)
      refine scode_skip ?_
      exact ⟨⟨⟨by simp [go_sem, e2], by simp [go_sem, e3], by simp [go_sem, e4], by simp [go_sem, g0], by simp [go_sem, g1]⟩, by simp [go_sem, e7]⟩, hx0⟩
    · skip
      have hxb : (x != 0) = true := by simpa using hx0
      refine scode_region (by kernel_rfl) ?_
      simp [go_sem, e10, hxb]
      refine hK21 _ _ ?_
      try clear hK21 K21
      refine scode_if (b := true) (by simp [go_sem]) (fun _ => ?_) (fun h => by cases h)
      refine scode_seq_k (fun K22 hK22 => ?_)
      refine scode_region (by kernel_rfl) ?_
      simp [go_sem]
      refine hK22 _ _ ?_
      try clear hK22 K22
      refine scode_ret ?_
      simp only [go_sem]
      refine hR _ _ ?_
      exact ret_plain (by simp [go_sem]) (empty_le _) (Nat.zero_le _) (by simp [go_sem])
  clear e2 e3 e4 g0 g1 e7 e8 e9 e10
  rintro env H ⟨⟨⟨e2, e3, e4, g0, g1⟩, e7⟩, hx0⟩
  subst hx0
  obtain ⟨ht1, ht2, _, ht4⟩ := printR_zero hp
  have hback := printR_back a b (l.map EvI.toS) oka okb (by
    intro e he
    obtain ⟨e0, he0, rfl⟩ := List.mem_map.1 he
    exact hi e0 he0) (by rw [hp])
  rw [hp] at hback
  have c8 := parse_H t (by omega)
  rw [show parseT t = _ from hback] at c8
  simp only [resA] at c8
  have hsp : List.map toI ((l.map EvI.toS).map EvS.spare) = l.map spareI := by
    rw [List.map_map, List.map_map]
    exact List.map_congr_left fun e he => spare_eq e (by have := (ht2 e.toS (List.mem_map_of_mem he)).1; simp only [EvI.toS] at this; omega)
  rw [hsp] at c8
  unfold eA at c8
  rw [List.length_map] at c8
  have q0 := Heap.lt_of_get g0
  have q1 := Heap.lt_of_get g1
  have m0 : ¬ (0 = H.next) := by omega
  have m1 : ¬ (1 = H.next) := by omega
  have m2 : ¬ (H.next = 0) := by omega
  refine scode_seq_mid (fun env H => (env 2 = .vs l.length 5 (eV l) ∧ env 3 = .ptr 0 0 ∧ env 4 = .ptr 1 0 ∧ H.get 0 = some (cfgC a) ∧ H.get 1 = some (cfgC b)) ∧ ∃ k, env 11 = .ptr k 0 ∧ env 12 = .ptr (k + 1) 0 ∧ H.get k = some (cfgC a) ∧ H.get (k + 1) = some (cfgC b) ∧ env 13 = .vs l.length 5 (eV (l.map spareI)) ∧ env 14 = .int 0 ∧ env 15 = .int 0) ?_ ?_
  · skip
    refine scode_region (by kernel_rfl) ?_
    refine w_take 2 (fun K24 hK24 => ?_)
    simp [go_sem, e7, cl, la, lb, c_d18']
    refine ⟨_, _, c8 _, ?_⟩
    refine hK24 _ _ ?_
    clear hK24 K24
    simp [go_sem, e7, cl, la, lb, c_d18']
    simp [go_sem, e2, e3, e4, g0, g1, m0, m1, m2]
  clear e2 e3 e4 g0 g1 e7
  rintro env H ⟨⟨e2, e3, e4, g0, g1⟩, k, e11, e12, gk, gk1, e13, e14, e15⟩
  refine scode_seq_mid (fun env H => env 2 = .vs l.length 5 (eV l) ∧ env 13 = .vs l.length 5 (eV (l.map spareI))) ?_ ?_
  · skip
    refine scode_seq_k (fun K26 hK26 => ?_)
    refine scode_region (by kernel_rfl) ?_
    simp [go_sem, e3, e4, e11, e12, e14, e15, g0, g1, gk, gk1, cl, c_t18', scs_cfg, neq_cfg]
    refine hK26 _ _ ?_
    try clear hK26 K26
    refine scode_if (b := false) (by simp [go_sem]) (fun h => by cases h) (fun _ => ?_)
    refine scode_skip ?_
    exact ⟨by simp [go_sem, e2], by simp [go_sem, e13]⟩
  clear e2 e3 e4 g0 g1 e11 e12 gk gk1 e13 e14 e15
  rintro env H ⟨e2, e13⟩
  refine scode_seq_k (fun K27 hK27 => ?_)
  refine scode_region (by kernel_rfl) ?_
  simp [go_sem]
  refine hK27 _ _ ?_
  try clear hK27 K27
  refine scode_seq_mid (fun env H => env 13 = .vs l.length 5 (eV (l.map spareI)) ∧ ∃ x bo, env 16 = x ∧ grown H 5 x = some (l.length, eV (l.map spareI), bo)) ?_ ?_
  · skip
    refine scode_seq_k (fun K29 hK29 => ?_)
    refine scode_region (by kernel_rfl) ?_
    simp [go_sem]
    refine hK29 _ _ ?_
    try clear hK29 K29
    refine scode_block ?_
    refine scode_loop (Inv := fun n env H => ∃ i : Nat, n = l.length - i ∧ i ≤ l.length ∧ env 2 = .vs l.length 5 (eV l) ∧ env 13 = .vs l.length 5 (eV (l.map spareI)) ∧ env 17 = .int i ∧ SpSt l i env H) ?_ (n := l.length) (⟨0, rfl, by omega, by simp [go_sem, e2], by simp [go_sem, e13], by simp [go_sem], .nil, none, by simp [go_sem], rfl⟩)
    clear e2 e13
    rintro n env H ⟨i, rfl, hi1, e2, e13, e17, x, bo, e16, hg⟩
    refine scode_seq_k (fun K30 hK30 => ?_)
    refine scode_seq_k (fun K31 hK31 => ?_)
    refine scode_region (by kernel_rfl) ?_
    simp [go_sem, e2, e17]
    refine hK31 _ _ ?_
    try clear hK31 K31
    refine scode_if (b := decide (i < l.length)) (by simp [go_sem]) (fun hb => ?_) (fun hb => ?_)
    · skip
      simp only [decide_eq_true_eq] at hb
      obtain ⟨e, he⟩ := get_of_lt l i hb
      obtain ⟨r, hdr, hrl⟩ := eV_cell he
      have hcl : ((l.map spareI).take (i + 1)).length = ((l.map spareI).take i).length + 1 ∧ eV ((l.map spareI).take (i + 1)) = eV ((l.map spareI).take i) ++ evI (spareI e) := by
        rw [List.take_add_one, List.getElem?_map, he]
        exact ⟨by simp, by rw [eV_app]; simp [eV]⟩
      obtain ⟨ha, hg2⟩ := appE3 (spareI e) hg (by simp; omega)
      have csp := spare_H e
      obtain ⟨se, hse⟩ : ∃ s, spareI e = s := ⟨_, rfl⟩
      rw [hse] at csp ha hg2 hcl
      unfold evI bA at ha
      refine scode_skip ?_
      refine hK30 _ _ ?_
      try clear hK30 K30
      refine scode_seq_k (fun K32 hK32 => ?_)
      refine scode_block ?_
      refine scode_region (by kernel_rfl) ?_
      refine w_take 6 (fun K33 hK33 => ?_)
      simp [go_sem, e2, e16, e17, hLk, hdr, hb, hrl, zrep5, ha, evI, bA]
      refine ⟨_, _, csp _, ?_⟩
      refine hK33 _ _ ?_
      clear hK33 K33
      simp [go_sem, e2, e16, e17, hLk, hdr, hb, hrl, zrep5, ha, evI, bA]
      refine hK32 _ _ ?_
      try clear hK32 K32
      refine scode_region (by kernel_rfl) ?_
      simp [go_sem, e17]
      have hw := i64_succ i (by omega)
      exact ⟨l.length - (i + 1), by omega, i + 1, rfl, by omega, by simp [go_sem, e2], by simp [go_sem, e13], by simp [go_sem, hw], .ms (H.next + 1) 0 (((l.map spareI).take i).length + 1) 5, some (H.next + 1), by simp [go_sem, Nat.min_eq_left hi1], by rw [hcl.1, hcl.2]; exact hg2⟩
    · skip
      simp only [decide_eq_false_iff_not] at hb
      obtain rfl : i = l.length := by omega
      rw [List.take_of_length_le (by simp)] at hg
      refine scode_exit ?_
      exact ⟨e13, x, bo, e16, by rw [List.length_map] at hg; exact hg⟩
  clear e2 e13
  rintro env H ⟨e13, x, bo, e16, hg⟩
  refine scode_freeze_grown 16 e16 hg ?_
  refine scode_gen (fun env H => env 13 = .vs l.length 5 (eV (l.map spareI)) ∧ env 16 = .vs l.length 5 (eV (l.map spareI))) ⟨by simp [go_sem, e13], by simp [go_sem]⟩ ?_
  clear e13 e16 hg
  rintro env H ⟨e13, e16⟩
  have hsl : (l.map spareI).length = l.length := List.length_map ..
  have hsb2 : ∀ e ∈ l.map spareI, e.b.length ≤ 1000000 := by
    intro e he
    obtain ⟨e0, he0, rfl⟩ := List.mem_map.1 he
    have := (hsat e0 he0).2
    unfold spareI
    split <;> simp <;> exact this
  have c11 := fun H => scalls_frame (evs11_s (l.map spareI) (by omega)) (by simp [eA_lt]) (eA_lt _ _) H
  have c10 := fun H => scalls_frame (same_s (l.map spareI) (by omega) hsb2) (by simp [eA_lt]) (by simp [go_sem]) H
  unfold eA at c11 c10
  rw [hsl] at c11 c10
  refine scode_seq_k (fun K34 hK34 => ?_)
  refine scode_region (by kernel_rfl) ?_
  refine w_take 2 (fun K35 hK35 => ?_)
  simp [go_sem, e13, e16]
  refine ⟨_, _, c11 _, ?_⟩
  refine hK35 _ _ ?_
  clear hK35 K35
  refine w_take 2 (fun K36 hK36 => ?_)
  simp [go_sem, e13, e16]
  refine ⟨_, _, c10 _, ?_⟩
  refine hK36 _ _ ?_
  clear hK36 K36
  simp [go_sem, e13, e16]
  refine hK34 _ _ ?_
  try clear hK34 K34
  refine scode_ret ?_
  simp only [go_sem]
  refine hR _ _ ?_
  exact ret_plain (by simp [go_sem]) (empty_le _) (Nat.zero_le _) (by simp [go_sem])

end Go.Proofs.YtfmpakmigmehkaaGreatDoor
