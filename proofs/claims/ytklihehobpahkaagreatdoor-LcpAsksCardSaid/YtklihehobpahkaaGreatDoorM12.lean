/- Contracts: the document's letter. -/
import Derived.Test.YtklihehobpahkaaGreatDoorM10
set_option linter.unusedVariables false
set_option linter.unusedSimpArgs false
set_option maxRecDepth 100000
noncomputable section
namespace Go.Proofs.YtklihehobpahkaaGreatDoor
open Go Go.Fl Go.Proofs

set_option maxHeartbeats 8000000 in
theorem letter_s (s : ByteArray) (h : 0 < s.size) (hsz : s.size ≤ 1048576) : SCalls Tryz.prog 60 [.sc (.string s)] Heap.empty (.tup [.int (letD s).1, .int (letD s).2]) Heap.empty := by
  have hb0 := gb_lt s 0
  have i0 := str_at' s .i64 0 0 rfl h
  have hc0 : IntKind.i64.wrap (gb s 0 : Int) = (gb s 0 : Int) := i64_nat _ (by omega)
  refine scalls_of_k (sz := 89) (Tryz.call60) Tryz.func60 rfl (Nat.le_refl _) (by kernel_rfl) (fun R hR => ?_)
  refine scode_seq_k (fun K1 hK1 => ?_)
  refine scode_region (by kernel_rfl) ?_
  simp [go_sem]
  refine hK1 _ _ ?_
  clear hK1 K1
  refine scode_seq_k (fun K2 hK2 => ?_)
  refine scode_region (by kernel_rfl) ?_
  simp [go_sem, i0, hc0]
  refine hK2 _ _ ?_
  clear hK2 K2
  refine scode_seq_k (fun K3 hK3 => ?_)
  refine scode_seq_k (fun K4 hK4 => ?_)
  refine scode_region (by kernel_rfl) ?_
  simp [go_sem]
  refine hK4 _ _ ?_
  clear hK4 K4
  refine scode_if (b := decide ((gb s 0 : Int) < 128)) (by simp [go_sem]) (fun hb => ?_) (fun hb => ?_)
  · have hlt : gb s 0 < 128 := by simp at hb; omega
    refine scode_seq_k (fun K5 hK5 => ?_)
    refine scode_region (by kernel_rfl) ?_
    simp [go_sem]
    refine hK5 _ _ ?_
    clear hK5 K5
    refine scode_ret ?_
    simp only [go_sem]
    refine hR _ _ ?_
    rw [let_ascii s hlt]
    exact ret_plain (by simp [go_sem]) (empty_le _) (Nat.zero_le _) (by simp [go_sem])
  have hge : ¬ gb s 0 < 128 := by simp at hb; omega
  clear hb
  refine scode_skip ?_
  refine hK3 _ _ ?_
  clear hK3 K3
  refine scode_seq_k (fun K6 hK6 => ?_)
  refine scode_region (by kernel_rfl) ?_
  simp [go_sem]
  refine hK6 _ _ ?_
  clear hK6 K6
  refine scode_seq_k (fun K7 hK7 => ?_)
  refine scode_region (by kernel_rfl) ?_
  simp [go_sem]
  refine hK7 _ _ ?_
  clear hK7 K7
  refine scode_gen (fun env H => env 0 = .sc (.string s) ∧ env 4 = .int (gb s 0) ∧ env 5 = .int 0 ∧ env 6 = .int 0 ∧ H = Heap.empty) ⟨by simp [go_sem], by simp [go_sem], by simp [go_sem], by simp [go_sem], rfl⟩ ?_
  rintro env H ⟨h0, h4, h5, h6, rfl⟩
  refine scode_seq_mid (fun env H => env 0 = .sc (.string s) ∧ env 5 = .int ((cls (gb s 0)).1 : Nat) ∧ env 6 = .int ((cls (gb s 0)).2 : Nat) ∧ H = Heap.empty) ?_ ?_
  · refine scode_block ?_
    have w5 := mask5 (gb s 0) (by omega)
    have w4 := mask4 (gb s 0) (by omega)
    have w3 := mask3 (gb s 0) (by omega)
    rcases cls_cases (gb s 0) with ⟨l1, l2, e⟩ | ⟨l1, l2, e⟩ | ⟨l1, l2, e⟩ | ⟨hr, e⟩
    · have q0 : (194 : Int) ≤ (gb s 0 : Int) := by omega
      have q1 : (gb s 0 : Int) ≤ 223 := by omega
      refine scode_seq_k (fun K20 hK20 => ?_)
      refine scode_region (by kernel_rfl) ?_
      simp [go_sem, h4, q0, q1]
      refine hK20 _ _ ?_
      clear hK20 K20
      refine scode_if (b := true) (by simp [go_sem]) (fun _ => ?_) (fun hb => by cases hb)
      refine scode_seq_k (fun K30 hK30 => ?_)
      refine scode_region (by kernel_rfl) ?_
      simp [go_sem, h4]
      refine hK30 _ _ ?_
      clear hK30 K30
      refine scode_region (by kernel_rfl) ?_
      simp [go_sem, h4, w5]
      exact ⟨h0, by simp [e], by simp [e]⟩
    · have q0 : (194 : Int) ≤ (gb s 0 : Int) := by omega
      have q1 : ¬ (gb s 0 : Int) ≤ 223 := by omega
      have q2 : (224 : Int) ≤ (gb s 0 : Int) := by omega
      have q3 : (gb s 0 : Int) ≤ 239 := by omega
      refine scode_seq_k (fun K20 hK20 => ?_)
      refine scode_region (by kernel_rfl) ?_
      simp [go_sem, h4, q0, q1, q2, q3]
      refine hK20 _ _ ?_
      clear hK20 K20
      refine scode_if (b := false) (by simp [go_sem]) (fun hb => by cases hb) (fun _ => ?_)
      refine scode_seq_k (fun K21 hK21 => ?_)
      refine scode_region (by kernel_rfl) ?_
      simp [go_sem, h4, q0, q1, q2, q3]
      refine hK21 _ _ ?_
      clear hK21 K21
      refine scode_if (b := true) (by simp [go_sem]) (fun _ => ?_) (fun hb => by cases hb)
      refine scode_seq_k (fun K30 hK30 => ?_)
      refine scode_region (by kernel_rfl) ?_
      simp [go_sem, h4]
      refine hK30 _ _ ?_
      clear hK30 K30
      refine scode_region (by kernel_rfl) ?_
      simp [go_sem, h4, w4]
      exact ⟨h0, by simp [e], by simp [e]⟩
    · have q0 : (194 : Int) ≤ (gb s 0 : Int) := by omega
      have q1 : ¬ (gb s 0 : Int) ≤ 223 := by omega
      have q2 : (224 : Int) ≤ (gb s 0 : Int) := by omega
      have q3 : ¬ (gb s 0 : Int) ≤ 239 := by omega
      have q4 : (240 : Int) ≤ (gb s 0 : Int) := by omega
      have q5 : (gb s 0 : Int) ≤ 244 := by omega
      refine scode_seq_k (fun K20 hK20 => ?_)
      refine scode_region (by kernel_rfl) ?_
      simp [go_sem, h4, q0, q1, q2, q3, q4, q5]
      refine hK20 _ _ ?_
      clear hK20 K20
      refine scode_if (b := false) (by simp [go_sem]) (fun hb => by cases hb) (fun _ => ?_)
      refine scode_seq_k (fun K21 hK21 => ?_)
      refine scode_region (by kernel_rfl) ?_
      simp [go_sem, h4, q0, q1, q2, q3, q4, q5]
      refine hK21 _ _ ?_
      clear hK21 K21
      refine scode_if (b := false) (by simp [go_sem]) (fun hb => by cases hb) (fun _ => ?_)
      refine scode_seq_k (fun K22 hK22 => ?_)
      refine scode_region (by kernel_rfl) ?_
      simp [go_sem, h4, q0, q1, q2, q3, q4, q5]
      refine hK22 _ _ ?_
      clear hK22 K22
      refine scode_if (b := true) (by simp [go_sem]) (fun _ => ?_) (fun hb => by cases hb)
      refine scode_seq_k (fun K30 hK30 => ?_)
      refine scode_region (by kernel_rfl) ?_
      simp [go_sem, h4]
      refine hK30 _ _ ?_
      clear hK30 K30
      refine scode_region (by kernel_rfl) ?_
      simp [go_sem, h4, w3]
      exact ⟨h0, by simp [e], by simp [e]⟩
    · rcases Nat.lt_or_ge (gb s 0) 194 with hx | hx
      · have q0 : ¬ (194 : Int) ≤ (gb s 0 : Int) := by omega
        have q2 : ¬ (224 : Int) ≤ (gb s 0 : Int) := by omega
        have q4 : ¬ (240 : Int) ≤ (gb s 0 : Int) := by omega
        refine scode_seq_k (fun K20 hK20 => ?_)
        refine scode_region (by kernel_rfl) ?_
        simp [go_sem, h4, q0, q2, q4]
        refine hK20 _ _ ?_
        clear hK20 K20
        refine scode_if (b := false) (by simp [go_sem]) (fun hb => by cases hb) (fun _ => ?_)
        refine scode_seq_k (fun K21 hK21 => ?_)
        refine scode_region (by kernel_rfl) ?_
        simp [go_sem, h4, q0, q2, q4]
        refine hK21 _ _ ?_
        clear hK21 K21
        refine scode_if (b := false) (by simp [go_sem]) (fun hb => by cases hb) (fun _ => ?_)
        refine scode_seq_k (fun K22 hK22 => ?_)
        refine scode_region (by kernel_rfl) ?_
        simp [go_sem, h4, q0, q2, q4]
        refine hK22 _ _ ?_
        clear hK22 K22
        refine scode_if (b := false) (by simp [go_sem]) (fun hb => by cases hb) (fun _ => ?_)
        refine scode_skip ?_
        simp [go_sem]
        exact ⟨h0, by simp [e, h5], by simp [e, h6]⟩
      · have q0 : (194 : Int) ≤ (gb s 0 : Int) := by omega
        have q1 : ¬ (gb s 0 : Int) ≤ 223 := by omega
        have q2 : (224 : Int) ≤ (gb s 0 : Int) := by omega
        have q3 : ¬ (gb s 0 : Int) ≤ 239 := by omega
        have q4 : (240 : Int) ≤ (gb s 0 : Int) := by omega
        have q5 : ¬ (gb s 0 : Int) ≤ 244 := by omega
        refine scode_seq_k (fun K20 hK20 => ?_)
        refine scode_region (by kernel_rfl) ?_
        simp [go_sem, h4, q0, q1, q2, q3, q4, q5]
        refine hK20 _ _ ?_
        clear hK20 K20
        refine scode_if (b := false) (by simp [go_sem]) (fun hb => by cases hb) (fun _ => ?_)
        refine scode_seq_k (fun K21 hK21 => ?_)
        refine scode_region (by kernel_rfl) ?_
        simp [go_sem, h4, q0, q1, q2, q3, q4, q5]
        refine hK21 _ _ ?_
        clear hK21 K21
        refine scode_if (b := false) (by simp [go_sem]) (fun hb => by cases hb) (fun _ => ?_)
        refine scode_seq_k (fun K22 hK22 => ?_)
        refine scode_region (by kernel_rfl) ?_
        simp [go_sem, h4, q0, q1, q2, q3, q4, q5]
        refine hK22 _ _ ?_
        clear hK22 K22
        refine scode_if (b := false) (by simp [go_sem]) (fun hb => by cases hb) (fun _ => ?_)
        refine scode_skip ?_
        simp [go_sem]
        exact ⟨h0, by simp [e, h5], by simp [e, h6]⟩
  clear h0 h4 h5 h6
  have hm := fun i hi => acc_lt s (gb s 0) i hi
  have hn4 := cls_n (gb s 0)
  have hnone := let_none s hge
  have hshort := let_short s
  have hcont := let_cont s
  have hval := let_val s
  have hn3 : (cls (gb s 0)).1 = 0 ∨ (cls (gb s 0)).1 = 2 ∨ (cls (gb s 0)).1 = 3 ∨ (cls (gb s 0)).1 = 4 := by
    rcases cls_cases (gb s 0) with ⟨_, _, e⟩ | ⟨_, _, e⟩ | ⟨_, _, e⟩ | ⟨_, e⟩ <;> rw [e] <;> simp
  generalize (cls (gb s 0)).1 = n at *
  generalize (cls (gb s 0)).2 = m at *
  rintro env H ⟨h0, h5, h6, rfl⟩
  refine scode_seq_k (fun K3 hK3 => ?_)
  refine scode_seq_mid (fun env H => env 0 = .sc (.string s) ∧ env 5 = .int n ∧ env 6 = .int m ∧ env 49 = .bool (decide (n = 0) || decide (s.size < n)) ∧ H = Heap.empty) ?_ ?_
  · refine scode_hide (fun K hK => ?_)
    refine scode_region (by kernel_rfl) ?_
    by_cases hz : n = 0
    · subst hz
      simp [go_sem, h0, h5]
      refine hK _ _ ?_
      exact ⟨by simp [go_sem, h0], by simp [go_sem, h5], by simp [go_sem, h6], by simp [go_sem], rfl⟩
    · have hz' : ((n : Int) == 0) = false := by rw [beq_eq_false_iff_ne]; omega
      simp [go_sem, h0, h5, hz']
      refine hK _ _ ?_
      exact ⟨by simp [go_sem, h0], by simp [go_sem, h5], by simp [go_sem, h6], by simp [go_sem, hz], rfl⟩
  clear h0 h5 h6
  rintro env H ⟨h0, h5, h6, ht, rfl⟩
  refine scode_if (b := decide (n = 0) || decide (s.size < n)) (by simp [go_sem, ht]) (fun hb => ?_) (fun hb => ?_)
  · have hv : letD s = (0, 0) := by
      simp at hb
      rcases hb with hb | hb
      · exact hnone hb
      · exact hshort hb
    refine scode_seq_k (fun K5 hK5 => ?_)
    refine scode_region (by kernel_rfl) ?_
    simp [go_sem]
    refine hK5 _ _ ?_
    clear hK5 K5
    refine scode_ret ?_
    simp only [go_sem]
    refine hR _ _ ?_
    rw [hv]
    exact ret_plain (by simp [go_sem]) (empty_le _) (Nat.zero_le _) (by simp [go_sem])
  simp only [Bool.or_eq_false_iff, decide_eq_false_iff_not] at hb
  obtain ⟨hz, hsn⟩ := hb
  refine scode_skip ?_
  refine hK3 _ _ ?_
  clear hK3 K3 ht
  refine scode_seq_mid (fun env H => env 5 = .int n ∧ env 6 = .int (accB s m (n - 1)) ∧ H = Heap.empty ∧ ∀ j, 1 ≤ j → j < n → gb s j / 64 = 2) ?_ ?_
  · refine scode_seq_k (fun K3 hK3 => ?_)
    refine scode_region (by kernel_rfl) ?_
    simp [go_sem]
    refine hK3 _ _ ?_
    clear hK3 K3
    refine scode_block ?_
    refine scode_loop (Inv := fun k env H => ∃ i : Nat, k = n - i ∧ 1 ≤ i ∧ i ≤ n ∧ env 0 = .sc (.string s) ∧ env 5 = .int n ∧ env 6 = .int (accB s m (i - 1)) ∧ env 7 = .int i ∧ H = Heap.empty ∧ ∀ j, 1 ≤ j → j < i → gb s j / 64 = 2) ?_ (n := n - 1) ⟨1, rfl, by omega, by omega, by simp [go_sem, h0], by simp [go_sem, h5], by simp [go_sem, h6, accB], by simp [go_sem], rfl, fun j h1 h2 => by omega⟩
    clear h0 h5 h6
    rintro k env H ⟨i, rfl, hi1, hin, h0, h5, h6, h7, rfl, hj⟩
    refine scode_seq_k (fun K6 hK6 => ?_)
    refine scode_seq_k (fun K5 hK5 => ?_)
    refine scode_region (by kernel_rfl) ?_
    simp [go_sem, h5, h7]
    refine hK5 _ _ ?_
    clear hK5 K5
    refine scode_if (b := decide (i < n)) (by simp [go_sem]) (fun hb => ?_) (fun hb => ?_)
    · refine scode_skip ?_
      refine hK6 _ _ ?_
      clear hK6 K6
      have hlt : i < n := by simpa using hb
      have his : i < s.size := by omega
      have at1 := str_at s .i64 i his
      have t2 := top2' (gb s i) (gb_lt s i)
      refine scode_seq_k (fun K7 hK7 => ?_)
      refine scode_block ?_
      refine scode_seq_k (fun K8 hK8 => ?_)
      refine scode_seq_k (fun K9 hK9 => ?_)
      refine scode_region (by kernel_rfl) ?_
      simp [go_sem, h0, h7, at1, t2]
      refine hK9 _ _ ?_
      clear hK9 K9
      refine scode_if (b := !decide (gb s i / 64 = 2)) (by simp [go_sem]) (fun hb2 => ?_) (fun hb2 => ?_)
      · have hv : letD s = (0, 0) := hcont i hi1 hlt (by simpa using hb2)
        refine scode_seq_k (fun K5 hK5 => ?_)
        refine scode_region (by kernel_rfl) ?_
        simp [go_sem]
        refine hK5 _ _ ?_
        clear hK5 K5
        refine scode_ret ?_
        simp only [go_sem]
        refine hR _ _ ?_
        rw [hv]
        exact ret_plain (by simp [go_sem]) (empty_le _) (Nat.zero_le _) (by simp [go_sem])
      · have hg2 : gb s i / 64 = 2 := by simpa using hb2
        refine scode_skip ?_
        refine hK8 _ _ ?_
        clear hK8 K8
        have ha := hm (i - 1) (by omega)
        obtain ⟨a, hae⟩ : ∃ a, accB s m (i - 1) = a := ⟨_, rfl⟩
        rw [hae] at ha h6
        have hg64 : IntKind.i64.wrap ((gb s i : Int) % 64) = ((gb s i % 64 : Nat) : Int) := by rw [IntWalk.i64_in _ (by omega)]; omega
        have hsh : IntKind.i64.wrap ((a : Int) * 64) = ((a * 64 : Nat) : Int) := by rw [IntWalk.i64_in _ (by omega)]; omega
        have hj6 := join6 a (gb s i % 64) (by omega) (by omega)
        have hm6 := mask6u (gb s i) (gb_lt s i)
        refine scode_hide (fun K10 hK10 => ?_)
        refine scode_region (by kernel_rfl) ?_
        rw [show ((gb s i % 64 : Nat) : Int) = (gb s i : Int) % 64 by omega] at hg64 hj6 hm6; rw [show ((a * 64 : Nat) : Int) = (a : Int) * 64 by omega] at hsh hj6
        refine w_take 7 (fun K6 hK6 => ?_)
        simp [go_sem, h0, h6, h7, at1, hm6, hg64, hsh, hj6]
        refine hK6 _ _ ?_
        clear hK6 K6
        generalize hzz : bits BinOp.or IntKind.i64 ((a : Int) * 64) ((gb s i : Int) % 64) = zz at *
        simp [go_sem, hzz]
        refine hK10 _ _ ?_
        clear hK10 K10
        refine hK7 _ _ ?_
        have hw : IntKind.i64.wrap ((i : Int) + 1) = ((i + 1 : Nat) : Int) := by rw [IntWalk.i64_in _ (by omega)]; rfl
        refine scode_hide (fun K11 hK11 => ?_)
        refine scode_region (by kernel_rfl) ?_
        simp [go_sem, h7, hw]
        refine hK11 _ _ ?_
        refine ⟨n - (i + 1), by omega, i + 1, rfl, by omega, by omega, by simp [go_sem, h0], by simp [go_sem, h5], ?_, by simp [go_sem], rfl, fun j h1 h2 => ?_⟩
        · obtain ⟨i', rfl⟩ : ∃ i', i = i' + 1 := ⟨i - 1, by omega⟩
          simp only [Nat.add_sub_cancel] at hae
          have he : ((accB s m (i' + 1 + 1 - 1) : Nat) : Int) = zz := by
            rw [hj6]
            show ((accB s m i' * 64 + gb s (i' + 1) % 64 : Nat) : Int) = _
            rw [hae]
          rw [he]
          simp [go_sem]
        · rcases Nat.lt_or_ge j i with h3 | h3
          · exact hj j h1 h3
          · obtain rfl : j = i := by omega
            exact hg2
    · refine scode_exit ?_
      have hin2 : i = n := by simp at hb; omega
      subst hin2
      simp [go_sem]
      exact ⟨h5, h6, hj⟩
  clear h0 h5 h6
  rintro env H ⟨h5, h6, rfl, hj⟩
  have hv := hval hz (by omega) hj
  have hx := hm (n - 1) (by omega)
  generalize accB s m (n - 1) = x at *
  refine scode_seq_k (fun K3 hK3 => ?_)
  refine scode_region (by kernel_rfl) ?_
  simp [go_sem]
  refine hK3 _ _ ?_
  clear hK3 K3
  refine scode_gen (fun env H => env 5 = .int n ∧ env 6 = .int x ∧ env 8 = .ms 0 0 5 1 ∧ H.get 0 = some [.int 0, .int 0, .int 128, .int 2048, .int 65536]) ⟨by simp [go_sem, h5], by simp [go_sem, h6], by simp [go_sem], rfl⟩ ?_
  clear h5 h6
  rintro env H ⟨h5, h6, h8, hg⟩
  obtain ⟨r, hr⟩ : ∃ r, [AV.int 0, .int 0, .int 128, .int 2048, .int 65536].drop n = .int (least n) :: r := by
    rcases hn3 with rfl | rfl | rfl | rfl
    · exact absurd rfl hz
    · exact ⟨[.int 2048, .int 65536], by simp [least]⟩
    · exact ⟨[.int 65536], by simp [least]⟩
    · exact ⟨[], by simp [least]⟩
  have hn5 : n < 5 := by omega
  have hn5' : (n : Int) < 5 := by omega
  have hn51 : n + 1 ≤ 5 := by omega
  refine scode_seq_k (fun K3 hK3 => ?_)
  refine scode_seq_mid (fun env H => env 5 = .int n ∧ env 6 = .int x ∧ env 86 = .bool (badL x n)) ?_ ?_
  · refine scode_hide (fun K hK => ?_)
    refine scode_region (by kernel_rfl) ?_
    by_cases p1 : x < least n
    · have q1 : (x : Int) < (least n : Int) := by omega
      refine w_take 5 (fun K6 hK6 => ?_)
      simp [go_sem, h5, h6, h8, hg, hr, hn5, hn5', hn51, p1]
      refine hK6 _ _ ?_
      clear hK6 K6
      refine w_take 5 (fun K6 hK6 => ?_)
      simp [go_sem, h5, h6, h8, hg, hr, hn5, hn5', hn51, p1]
      refine hK6 _ _ ?_
      clear hK6 K6
      refine w_take 4 (fun K6 hK6 => ?_)
      simp [go_sem, h5, h6, h8, hg, hr, hn5, hn5', hn51, p1]
      refine hK6 _ _ ?_
      clear hK6 K6
      simp [go_sem, h5, h6, h8, hg, hr, hn5, hn5', hn51, p1]
      refine hK _ _ ?_
      exact ⟨by simp [go_sem, h5], by simp [go_sem, h6], by simp [go_sem, badL, p1]⟩
    · by_cases p2 : 1114111 < x
      · have q2 : (1114111 : Int) < (x : Int) := by omega
        refine w_take 5 (fun K6 hK6 => ?_)
        simp [go_sem, h5, h6, h8, hg, hr, hn5, hn5', hn51, p1, q2]
        refine hK6 _ _ ?_
        clear hK6 K6
        refine w_take 5 (fun K6 hK6 => ?_)
        simp [go_sem, h5, h6, h8, hg, hr, hn5, hn5', hn51, p1, q2]
        refine hK6 _ _ ?_
        clear hK6 K6
        refine w_take 4 (fun K6 hK6 => ?_)
        simp [go_sem, h5, h6, h8, hg, hr, hn5, hn5', hn51, p1, q2]
        refine hK6 _ _ ?_
        clear hK6 K6
        simp [go_sem, h5, h6, h8, hg, hr, hn5, hn5', hn51, p1, q2]
        refine hK _ _ ?_
        exact ⟨by simp [go_sem, h5], by simp [go_sem, h6], by simp [go_sem, badL, p1, p2]⟩
      · have q2 : ¬ (1114111 : Int) < (x : Int) := by omega
        by_cases p3 : 55296 ≤ x
        · have q3 : (55296 : Int) ≤ (x : Int) := by omega
          by_cases p4 : x ≤ 57343
          · have q4 : (x : Int) ≤ 57343 := by omega
            refine w_take 5 (fun K6 hK6 => ?_)
            simp [go_sem, h5, h6, h8, hg, hr, hn5, hn5', hn51, p1, q2, q3, q4]
            refine hK6 _ _ ?_
            clear hK6 K6
            refine w_take 5 (fun K6 hK6 => ?_)
            simp [go_sem, h5, h6, h8, hg, hr, hn5, hn5', hn51, p1, q2, q3, q4]
            refine hK6 _ _ ?_
            clear hK6 K6
            refine w_take 4 (fun K6 hK6 => ?_)
            simp [go_sem, h5, h6, h8, hg, hr, hn5, hn5', hn51, p1, q2, q3, q4]
            refine hK6 _ _ ?_
            clear hK6 K6
            simp [go_sem, h5, h6, h8, hg, hr, hn5, hn5', hn51, p1, q2, q3, q4]
            refine hK _ _ ?_
            exact ⟨by simp [go_sem, h5], by simp [go_sem, h6], by simp [go_sem, badL, p1, p2, p3, p4]⟩
          · have q4 : ¬ (x : Int) ≤ 57343 := by omega
            refine w_take 5 (fun K6 hK6 => ?_)
            simp [go_sem, h5, h6, h8, hg, hr, hn5, hn5', hn51, p1, q2, q3, q4]
            refine hK6 _ _ ?_
            clear hK6 K6
            refine w_take 5 (fun K6 hK6 => ?_)
            simp [go_sem, h5, h6, h8, hg, hr, hn5, hn5', hn51, p1, q2, q3, q4]
            refine hK6 _ _ ?_
            clear hK6 K6
            refine w_take 4 (fun K6 hK6 => ?_)
            simp [go_sem, h5, h6, h8, hg, hr, hn5, hn5', hn51, p1, q2, q3, q4]
            refine hK6 _ _ ?_
            clear hK6 K6
            simp [go_sem, h5, h6, h8, hg, hr, hn5, hn5', hn51, p1, q2, q3, q4]
            refine hK _ _ ?_
            exact ⟨by simp [go_sem, h5], by simp [go_sem, h6], by simp [go_sem, badL, p1, p2, p3, p4]⟩
        · have q3 : ¬ (55296 : Int) ≤ (x : Int) := by omega
          refine w_take 5 (fun K6 hK6 => ?_)
          simp [go_sem, h5, h6, h8, hg, hr, hn5, hn5', hn51, p1, q2, q3]
          refine hK6 _ _ ?_
          clear hK6 K6
          refine w_take 5 (fun K6 hK6 => ?_)
          simp [go_sem, h5, h6, h8, hg, hr, hn5, hn5', hn51, p1, q2, q3]
          refine hK6 _ _ ?_
          clear hK6 K6
          refine w_take 4 (fun K6 hK6 => ?_)
          simp [go_sem, h5, h6, h8, hg, hr, hn5, hn5', hn51, p1, q2, q3]
          refine hK6 _ _ ?_
          clear hK6 K6
          simp [go_sem, h5, h6, h8, hg, hr, hn5, hn5', hn51, p1, q2, q3]
          refine hK _ _ ?_
          exact ⟨by simp [go_sem, h5], by simp [go_sem, h6], by simp [go_sem, badL, p1, p2, p3]⟩
  clear h5 h6 h8 hg
  rintro env H ⟨h5, h6, ht⟩
  refine scode_if (b := badL x n) (by simp [go_sem, ht]) (fun hb => ?_) (fun hb => ?_)
  · rw [if_pos hb] at hv
    refine scode_seq_k (fun K5 hK5 => ?_)
    refine scode_region (by kernel_rfl) ?_
    simp [go_sem]
    refine hK5 _ _ ?_
    clear hK5 K5
    refine scode_ret ?_
    simp only [go_sem]
    refine hR _ _ ?_
    rw [hv]
    exact ret_plain (by simp [go_sem]) (empty_le _) (Nat.zero_le _) (by simp [go_sem])
  · rw [if_neg (by rw [hb]; decide)] at hv
    refine scode_skip ?_
    refine hK3 _ _ ?_
    clear hK3 K3
    refine scode_seq_k (fun K5 hK5 => ?_)
    refine scode_region (by kernel_rfl) ?_
    simp [go_sem, h5, h6]
    refine hK5 _ _ ?_
    clear hK5 K5
    refine scode_ret ?_
    simp only [go_sem]
    refine hR _ _ ?_
    rw [hv]
    exact ret_plain (by simp [go_sem]) (empty_le _) (Nat.zero_le _) (by simp [go_sem])
end Go.Proofs.YtklihehobpahkaaGreatDoor
