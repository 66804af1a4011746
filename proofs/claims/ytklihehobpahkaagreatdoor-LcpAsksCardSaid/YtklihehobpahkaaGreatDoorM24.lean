/- Contracts: Small. -/
import Derived.Test.YtklihehobpahkaaGreatDoorM13
import Derived.Test.YtklihehobpahkaaGreatDoorM15
import Derived.Test.YtklihehobpahkaaGreatDoorM19
import Derived.Test.YtklihehobpahkaaGreatDoorM23
set_option linter.unusedVariables false
set_option linter.unusedSimpArgs false
set_option maxRecDepth 20000
noncomputable section M24S
namespace Go.Proofs.YtklihehobpahkaaGreatDoor
open Go Go.Fl Go.Proofs

def fewL (l : List Opt) : Bool := decide (l.length ≤ 60) && l.all fun o => decide (o.data.length ≤ 300)

theorem small_s (l : List Opt) : SCalls Tryz.prog 5 [optsA l] Heap.empty (.bool (fewL l)) Heap.empty := by
  refine scalls_of_k (sz := 20) (Tryz.call5) Tryz.func5 rfl (Nat.le_refl _) (by kernel_rfl) (fun R hR => ?_)
  refine scode_seq_k (fun K1 hK1 => ?_)
  refine scode_region (by kernel_rfl) ?_
  simp [go_sem]
  refine hK1 _ _ ?_
  clear hK1 K1
  refine scode_seq_k (fun K2 hK2 => ?_)
  refine scode_seq_k (fun K3 hK3 => ?_)
  refine scode_region (by kernel_rfl) ?_
  simp [go_sem, optsA]
  refine hK3 _ _ ?_
  clear hK3 K3
  refine scode_if (b := decide ((60 : Int) < l.length)) (by simp [go_sem]) (fun hb => ?_) (fun hb => ?_)
  · have hv : fewL l = false := by
      have : ¬ l.length ≤ 60 := by simp at hb; omega
      simp [fewL, this]
    refine scode_seq_k (fun K2 hK2 => ?_)
    refine scode_region (by kernel_rfl) ?_
    simp [go_sem]
    refine hK2 _ _ ?_
    refine scode_ret ?_
    simp only [go_sem]
    refine hR _ _ ?_
    exact ret_plain (by simp [go_sem, hv]) (empty_le _) (Nat.zero_le _) (by simp [go_sem])
  have hlen : l.length ≤ 60 := by simp at hb; omega
  clear hb
  refine scode_skip ?_
  refine hK2 _ _ ?_
  clear hK2 K2
  refine scode_gen (fun env H => env 0 = optsA l ∧ H = Heap.empty) ⟨by simp [go_sem, optsA], rfl⟩ ?_
  rintro env H ⟨h0, rfl⟩
  refine scode_seq_mid (fun env H => fewL l = true) ?_ ?_
  · refine scode_seq_k (fun K3 hK3 => ?_)
    refine scode_region (by kernel_rfl) ?_
    simp [go_sem]
    refine hK3 _ _ ?_
    clear hK3 K3
    refine scode_block ?_
    refine scode_loop (Inv := fun n env H => ∃ i : Nat, n = l.length - i ∧ i ≤ l.length ∧ env 0 = optsA l ∧ env 3 = .int i ∧ ∀ o ∈ l.take i, o.data.length ≤ 300) ?_ (n := l.length) ⟨0, rfl, by omega, by simp [go_sem, h0], by simp [go_sem], fun o ho => by simp at ho⟩
    clear h0
    rintro n env H ⟨i, rfl, hi, h0, h3, hall⟩
    refine scode_seq_k (fun K6 hK6 => ?_)
    refine scode_seq_k (fun K7 hK7 => ?_)
    refine scode_region (by kernel_rfl) ?_
    simp [go_sem, h0, h3, optsA]
    refine hK7 _ _ ?_
    clear hK7 K7
    refine scode_if (b := decide (i < l.length)) (by simp [go_sem]) (fun hb => ?_) (fun hb => ?_)
    · refine scode_skip ?_
      refine hK6 _ _ ?_
      clear hK6 K6
      simp only [decide_eq_true_eq] at hb
      obtain ⟨o, r, e1, e2, e3⟩ := drop_cons hb
      have hrow : (optsV l).drop (i * 2) = .int o.kind :: bytesA o.data :: optsV r := by rw [optsV_drop, e1]; simp [optsV, Opt.cells]
      have hrow1 : (optsV l).drop (i * 2 + 1) = bytesA o.data :: optsV r := by rw [← List.drop_drop, hrow]; rfl
      have hle : 2 ≤ l.length * 2 - i * 2 := by omega
      have hle1 : i * 2 + 1 < l.length * 2 := by omega
      have hle2 : i * 2 < l.length * 2 := by omega
      have hle3 : i * 2 + 2 ≤ l.length * 2 := by omega
      have hw : IntKind.i64.wrap ((i : Int) + 1) = ((i + 1 : Nat) : Int) := by rw [IntWalk.i64_in _ (by omega)]; rfl
      refine scode_seq_k (fun K8 hK8 => ?_)
      refine scode_block ?_
      refine scode_seq_k (fun K9 hK9 => ?_)
      refine scode_region (by kernel_rfl) ?_
      simp [go_sem, h0, h3, optsA, optsV_len, hb, hrow, hrow1, hle, hle1, hle2, hle3, bytesA]
      refine hK9 _ _ ?_
      clear hK9 K9
      refine scode_if (b := decide ((300 : Int) < o.data.length)) (by simp [go_sem]) (fun hx => ?_) (fun hx => ?_)
      · have hv : fewL l = false := by
          have h1 : ¬ o.data.length ≤ 300 := by simp at hx; omega
          have h2 : l.all (fun o => decide (o.data.length ≤ 300)) = false := by
            rw [List.all_eq_false]
            exact ⟨o, List.mem_of_getElem? e3, by simpa using h1⟩
          simp [fewL, h2]
        refine scode_seq_k (fun K2 hK2 => ?_)
        refine scode_region (by kernel_rfl) ?_
        simp [go_sem]
        refine hK2 _ _ ?_
        refine scode_ret ?_
        simp only [go_sem]
        refine hR _ _ ?_
        exact ret_plain (by simp [go_sem, hv]) (empty_le _) (Nat.zero_le _) (by simp [go_sem])
      · have h1 : o.data.length ≤ 300 := by simp at hx; omega
        refine scode_skip ?_
        refine hK8 _ _ ?_
        clear hK8 K8
        refine scode_hide (fun K hK => ?_)
        refine scode_region (by kernel_rfl) ?_
        simp [go_sem, h3, hw]
        refine hK _ _ ?_
        refine ⟨l.length - (i + 1), by omega, i + 1, rfl, by omega, by simp [go_sem, h0], by simp [go_sem], fun o' ho' => ?_⟩
        rw [List.take_succ_eq_append_getElem hb] at ho'
        rcases List.mem_append.1 ho' with h | h
        · exact hall o' h
        · have he : l[i] = o := by have := List.getElem?_eq_getElem hb; rw [e3] at this; exact (Option.some.inj this).symm
          rw [List.mem_singleton.1 h, he]; exact h1
    · refine scode_exit ?_
      have e : i = l.length := by have := of_decide_eq_false hb; omega
      subst e
      rw [List.take_length] at hall
      show fewL l = true
      simp only [fewL, hlen, decide_true, Bool.true_and, List.all_eq_true, decide_eq_true_eq]
      exact hall
  intro env H hv
  refine scode_seq_k (fun K2 hK2 => ?_)
  refine scode_region (by kernel_rfl) ?_
  simp [go_sem]
  refine hK2 _ _ ?_
  refine scode_ret ?_
  simp only [go_sem]
  refine hR _ _ ?_
  exact ret_plain (by simp [go_sem, hv]) (empty_le _) (Nat.zero_le _) (by simp [go_sem])
end Go.Proofs.YtklihehobpahkaaGreatDoor
end M24S

set_option maxRecDepth 20000
noncomputable section M25S
namespace Go.Proofs.YtklihehobpahkaaGreatDoor
open Go Go.Fl Go.Proofs

theorem onl_dat {b : Bool} {o x : Opt} (h : x ∈ onl b o) : x = o := by
  unfold onl at h
  split at h
  · simpa using h
  · cases h
theorem askL_ok (c : Cfg) (m : Int) : (askL c m).length ≤ 1048576 ∧ ∀ o ∈ askL c m, o.data.length ≤ maxLen := by
  constructor
  · unfold askL
    simp only [List.length_append, List.length_nil]
    have := onl_len (c.mru != 1500) ⟨1, hf c.mru⟩
    have := onl_len (c.accm != 4294967295) ⟨2, wd c.accm⟩
    have := onl_len c.server ⟨3, proofL⟩
    have := onl_len (m != 0) ⟨5, wd m⟩
    have := onl_len c.pfc ⟨7, []⟩
    have := onl_len c.acfc ⟨8, []⟩
    have := onl_len (c.mrru != 0) ⟨17, hf c.mrru⟩
    have := onl_len (c.mrru != 0 && c.short) ⟨18, []⟩
    omega
  · intro o ho
    have h4 : 4 ≤ maxLen := by decide
    unfold askL at ho
    simp only [List.nil_append, List.mem_append] at ho
    rcases ho with ((((((ho | ho) | ho) | ho) | ho) | ho) | ho) | ho <;> (rw [onl_dat ho]; simp [hf, wd, proofL]; try omega)

set_option maxHeartbeats 4000000 in
theorem asks_s (hrules : ∀ c : Cfg, SCalls Tryz.prog 14 [.agg c.cells] Heap.empty (.bool true) Heap.empty) (c : Cfg) (m : Int) (l : List Opt) (hm : 0 ≤ m ∧ m ≤ 4294967295) (hac : 0 ≤ c.accm ∧ c.accm ≤ 4294967295) (hby : ∀ o ∈ l, isBytes o.data) :
    SCalls Tryz.prog 3 [.agg c.cells, .sc (.int .u32 m), optsA l] Heap.empty (.bool true) Heap.empty := by
  have hcl : ∀ x ∈ [AV.agg c.cells], x.Lt 0 := lt_one (c.lt 0)
  have c4 := fun H => scalls_frame awake_s (by simp) (by simp [go_sem]) H
  have c5 := fun H => scalls_frame (small_s l) (lt_one (optsA_lt _ _)) (by simp [go_sem]) H
  have c14 := fun H => scalls_frame (hrules c) hcl (by simp [go_sem]) H
  obtain ⟨⟨r1, d1⟩, ⟨r2, d2⟩, _⟩ := cfg_drop c
  have t18 : List.take 18 c.cells = c.cells := rfl
  refine scalls_of_k (sz := 51) (Tryz.call3) Tryz.func3 rfl (Nat.le_refl _) (by kernel_rfl) (fun R hR => ?_)
  refine scode_seq_k (fun K1 hK1 => ?_)
  refine scode_region (by kernel_rfl) ?_
  simp [go_sem]
  refine hK1 _ _ ?_
  clear hK1 K1
  rw [empty_alloc]
  refine scode_seq_k (fun K2 hK2 => ?_)
  refine scode_seq_k (fun K3 hK3 => ?_)
  refine scode_region (by kernel_rfl) ?_
  refine w_take 1 (fun K6 hK6 => ?_)
  simp [go_sem]
  refine ⟨_, _, c4 _, ?_⟩
  refine hK6 _ _ ?_
  clear hK6 K6
  simp [go_sem]
  refine hK3 _ _ ?_
  clear hK3 K3
  refine scode_if (b := false) (by simp [go_sem]) (fun h => by cases h) (fun _ => ?_)
  refine scode_skip ?_
  refine hK2 _ _ ?_
  clear hK2 K2
  refine scode_gen (fun env H => env 1 = .sc (.int .u32 m) ∧ env 2 = optsA l ∧ env 3 = .ptr 0 0 ∧ H = Heap.one c.cells) ⟨by simp [go_sem], by simp [go_sem], by simp [go_sem], rfl⟩ ?_
  rintro env H ⟨h1, h2, h3, rfl⟩
  refine scode_seq_k (fun K2 hK2 => ?_)
  refine scode_seq_mid (fun env H => env 1 = .sc (.int .u32 m) ∧ env 2 = optsA l ∧ env 3 = .ptr 0 0 ∧ env 23 = .bool (decide (300 < c.name.size) || (decide (2000 < c.secret.size) || !fewL l)) ∧ H = Heap.one c.cells) ?_ ?_
  · refine scode_hide (fun K hK => ?_)
    refine scode_region (by kernel_rfl) ?_
    by_cases p1 : 300 < c.name.size
    · have q1 : (300 : Int) < (c.name.size : Int) := by omega
      simp [go_sem, h3, cfg_len, d1, q1, p1]
      refine hK _ _ ?_
      exact ⟨by simp [go_sem, h1], by simp [go_sem, h2], by simp [go_sem, h3], by simp [go_sem, p1], rfl⟩
    · have q1 : ¬ (300 : Int) < (c.name.size : Int) := by omega
      by_cases p2 : 2000 < c.secret.size
      · have q2 : (2000 : Int) < (c.secret.size : Int) := by omega
        simp [go_sem, h3, cfg_len, d1, d2, q1, q2, p1, p2]
        refine hK _ _ ?_
        exact ⟨by simp [go_sem, h1], by simp [go_sem, h2], by simp [go_sem, h3], by simp [go_sem, p1, p2], rfl⟩
      · have q2 : ¬ (2000 : Int) < (c.secret.size : Int) := by omega
        refine w_take 13 (fun K6 hK6 => ?_)
        simp [go_sem, h2, h3, cfg_len, d1, d2, q1, q2, p1, p2]
        refine ⟨_, _, c5 _, ?_⟩
        refine hK6 _ _ ?_
        clear hK6 K6
        simp [go_sem]
        refine hK _ _ ?_
        exact ⟨by simp [go_sem, h1], by simp [go_sem, h2], by simp [go_sem, h3], by simp [go_sem, p1, p2], rfl⟩
  clear h1 h2 h3
  rintro env H ⟨h1, h2, h3, ht, rfl⟩
  refine scode_if (b := decide (300 < c.name.size) || (decide (2000 < c.secret.size) || !fewL l)) (by simp [go_sem, ht]) (fun hb => ?_) (fun hb => ?_)
  · refine scode_seq_k (fun K5 hK5 => ?_)
    refine scode_region (by kernel_rfl) ?_
    simp [go_sem]
    refine hK5 _ _ ?_
    refine scode_ret ?_
    simp only [go_sem]
    refine hR _ _ ?_
    exact ret_plain (by simp [go_sem]) (empty_le _) (Nat.zero_le _) (by simp [go_sem])
  simp only [Bool.or_eq_false_iff, decide_eq_false_iff_not, Bool.not_eq_false'] at hb
  obtain ⟨_, hsec, hfew⟩ := hb
  have hfew' : l.length ≤ 60 ∧ ∀ o ∈ l, o.data.length ≤ 300 := by simpa [fewL] using hfew
  have hd : ∀ o ∈ l, o.data.length ≤ 1000 ∧ isBytes o.data := fun o ho => ⟨by have := hfew'.2 o ho; omega, hby o ho⟩
  have hbl : (hashB c.secret).Lt 0 := by have := hashR_lt c.secret 0; rw [Lt_tup] at this; exact this _ (by simp)
  have c6 := fun H => scalls_frame (check_s c _ _ hbl (Hash_s c.secret (by omega))) hcl (by simp [go_sem]) H
  have c7 := fun H => scalls_frame (check2_s c _ _ hbl (hash2_s c.secret (by omega))) hcl (by simp [go_sem]) H
  have vlt : ∀ v : Vals, (AV.agg v.cells).Lt 0 := fun v => by simp [Vals.cells, go_sem]
  have c9 := fun H => scalls_frame (read_s l (by omega) hd) (lt_one (optsA_lt _ _)) (vlt _) H
  have c10 := fun H => scalls_frame (read2_s l (by omega) hd) (lt_one (optsA_lt _ _)) (vlt _) H
  have c8 := fun H => scalls_frame (values_s (readV l)) (by intro x hx; simp only [List.mem_cons, List.mem_nil_iff, or_false] at hx; rcases hx with rfl | rfl <;> exact vlt _) (by simp [go_sem]) H
  have ha := askL_ok c m
  have hal : ∀ x ∈ [AV.agg c.cells, .sc (.int .u32 m)], x.Lt 0 := by intro x hx; simp only [List.mem_cons, List.mem_nil_iff, or_false] at hx; rcases hx with rfl | rfl; exact c.lt 0; exact .sc _
  have c12 := fun H => scalls_frame (ask_s c m) hal (optsA_lt _ _) H
  have c13 := fun H => scalls_frame (ask2_s c m hm hac) hal (optsA_lt _ _) H
  have c11 := fun H => scalls_frame (sameO_refl (askL c m) ha.1 ha.2) (by intro x hx; simp only [List.mem_cons, List.mem_nil_iff, or_false] at hx; rcases hx with rfl | rfl <;> exact optsA_lt _ _) (by simp [go_sem]) H
  generalize checkV c (hashE c.secret) = k at c6 c7
  generalize readV l = v at c8 c9 c10
  refine scode_skip ?_
  refine hK2 _ _ ?_
  clear hK2 K2
  refine scode_seq_k (fun K2 hK2 => ?_)
  refine scode_seq_mid (fun env H => env 1 = .sc (.int .u32 m) ∧ env 3 = .ptr 0 0 ∧ env 36 = .bool false ∧ H = Heap.one c.cells) ?_ ?_
  · refine scode_hide (fun K hK => ?_)
    refine scode_drawS mixed (by kernel_rfl) ?_
    refine ws_take 2 (fun K6 hK6 => ?_)
    simp [go_sem, h3, cfg_len, t18]
    refine ⟨_, _, c6 _, rfl, ?_⟩
    refine hK6 _ _ ?_
    clear hK6 K6
    refine ws_take 2 (fun K6 hK6 => ?_)
    simp [go_sem, h3, cfg_len, t18]
    refine ⟨_, _, c7 _, rfl, ?_⟩
    refine hK6 _ _ ?_
    clear hK6 K6
    refine ws_take 4 (fun K6 hK6 => ?_)
    simp [go_sem, h2]
    refine ⟨_, _, c9 _, rfl, ?_⟩
    refine hK6 _ _ ?_
    clear hK6 K6
    refine ws_take 2 (fun K6 hK6 => ?_)
    simp [go_sem, h2]
    refine ⟨_, _, c10 _, rfl, ?_⟩
    refine hK6 _ _ ?_
    clear hK6 K6
    refine ws_take 1 (fun K6 hK6 => ?_)
    simp [go_sem]
    refine ⟨_, _, c8 _, rfl, ?_⟩
    refine hK6 _ _ ?_
    clear hK6 K6
    simp [go_sem]
    refine hK _ _ ?_
    exact ⟨by simp [go_sem, h1], by simp [go_sem, h3], by simp [go_sem], rfl⟩
  clear h1 h2 h3 ht
  rintro env H ⟨h1, h3, ht, rfl⟩
  refine scode_if (b := false) (by simp [go_sem, ht]) (fun h => by cases h) (fun _ => ?_)
  refine scode_skip ?_
  refine hK2 _ _ ?_
  clear hK2 K2
  refine scode_seq_k (fun K2 hK2 => ?_)
  refine scode_seq_k (fun K3 hK3 => ?_)
  refine scode_region (by kernel_rfl) ?_
  refine w_take 2 (fun K6 hK6 => ?_)
  simp [go_sem, h3, cfg_len, t18]
  refine ⟨_, _, c7 _, ?_⟩
  refine hK6 _ _ ?_
  clear hK6 K6
  simp [go_sem]
  refine hK3 _ _ ?_
  clear hK3 K3
  refine scode_if (b := k != 0) (by simp [go_sem]) (fun hb => ?_) (fun hb => ?_)
  · refine scode_seq_k (fun K5 hK5 => ?_)
    refine scode_region (by kernel_rfl) ?_
    simp [go_sem]
    refine hK5 _ _ ?_
    refine scode_ret ?_
    simp only [go_sem]
    refine hR _ _ ?_
    exact ret_plain (by simp [go_sem]) (empty_le _) (Nat.zero_le _) (by simp [go_sem])
  refine scode_skip ?_
  refine hK2 _ _ ?_
  clear hK2 K2
  refine scode_gen (fun env H => env 1 = .sc (.int .u32 m) ∧ env 3 = .ptr 0 0 ∧ H = Heap.one c.cells) ⟨by simp [go_sem, h1], by simp [go_sem, h3], rfl⟩ ?_
  clear h1 h3 ht
  rintro env H ⟨h1, h3, rfl⟩
  refine scode_seq_k (fun K2 hK2 => ?_)
  refine scode_drawS mixed (by kernel_rfl) ?_
  refine ws_take 3 (fun K6 hK6 => ?_)
  simp [go_sem, h1, h3, cfg_len, t18]
  refine ⟨_, _, c12 _, rfl, ?_⟩
  refine hK6 _ _ ?_
  clear hK6 K6
  refine ws_take 3 (fun K6 hK6 => ?_)
  simp [go_sem, h1, h3, cfg_len, t18]
  refine ⟨_, _, c13 _, rfl, ?_⟩
  refine hK6 _ _ ?_
  clear hK6 K6
  refine ws_take 1 (fun K6 hK6 => ?_)
  simp [go_sem]
  refine ⟨_, _, c11 _, rfl, ?_⟩
  refine hK6 _ _ ?_
  clear hK6 K6
  refine ws_take 3 (fun K6 hK6 => ?_)
  simp [go_sem, h3, cfg_len, t18]
  refine ⟨_, _, c14 _, rfl, ?_⟩
  refine hK6 _ _ ?_
  clear hK6 K6
  simp [go_sem]
  refine hK2 _ _ ?_
  refine scode_ret ?_
  simp only [go_sem]
  refine hR _ _ ?_
  exact ret_plain (by simp [go_sem]) (empty_le _) (Nat.zero_le _) (by simp [go_sem])
end Go.Proofs.YtklihehobpahkaaGreatDoor
end M25S
