/- Contracts: the document's number. -/
import Derived.Test.YtfmpakmigmehkaaGreatDoorS9
set_option linter.unusedVariables false
set_option linter.unusedSimpArgs false
set_option maxRecDepth 20000
noncomputable section
namespace Go.Proofs.YtfmpakmigmehkaaGreatDoor
open Go Go.Fl Go.Proofs

theorem refnum_nil  : SCalls Tryz.prog 50 [sA []] Heap.empty (.tup [.int 0, .bool false]) Heap.empty := by
  refine scalls_of_k (sz := 59) (Tryz.call50) Tryz.func50 rfl (Nat.zero_le _) (by kernel_rfl) (fun R hR => ?_)
  refine scode_seq_k (fun K1 hK1 => ?_)
  refine scode_region (by kernel_rfl) ?_
  simp [go_sem]
  refine hK1 _ _ ?_
  try clear hK1 K1
  refine scode_seq_k (fun K2 hK2 => ?_)
  refine scode_seq_k (fun K3 hK3 => ?_)
  refine scode_region (by kernel_rfl) ?_
  simp [go_sem]
  refine hK3 _ _ ?_
  try clear hK3 K3
  refine scode_if (b := true) (by simp [go_sem]) (fun _ => ?_) (fun h => by cases h)
  refine scode_seq_k (fun K4 hK4 => ?_)
  refine scode_region (by kernel_rfl) ?_
  simp [go_sem]
  refine hK4 _ _ ?_
  try clear hK4 K4
  refine scode_ret ?_
  simp only [go_sem]
  refine hR _ _ ?_
  exact ret_plain (by simp [go_sem]) (empty_le _) (Nat.zero_le _) (by simp [go_sem])

theorem refnum_long (l : List UInt8) (h0 : (l.length == 0) = false) (h1 : 20 < l.length) : SCalls Tryz.prog 50 [sA l] Heap.empty (.tup [.int 0, .bool false]) Heap.empty := by
  have h2 : ¬ l = [] := by rintro rfl; simp at h1
  have h1b : (20 : Int) < (l.length : Int) := by omega
  have h3 : ((l.length : Int) == 0) = false := by simp; exact h2
  refine scalls_of_k (sz := 59) (Tryz.call50) Tryz.func50 rfl (Nat.zero_le _) (by kernel_rfl) (fun R hR => ?_)
  refine scode_seq_k (fun K1 hK1 => ?_)
  refine scode_region (by kernel_rfl) ?_
  simp [go_sem]
  refine hK1 _ _ ?_
  try clear hK1 K1
  refine scode_seq_k (fun K2 hK2 => ?_)
  refine scode_seq_k (fun K3 hK3 => ?_)
  refine scode_region (by kernel_rfl) ?_
  simp [go_sem, h1b, h2, h3]
  refine hK3 _ _ ?_
  try clear hK3 K3
  refine scode_if (b := true) (by simp [go_sem]) (fun _ => ?_) (fun h => by cases h)
  refine scode_seq_k (fun K4 hK4 => ?_)
  refine scode_region (by kernel_rfl) ?_
  simp [go_sem]
  refine hK4 _ _ ?_
  try clear hK4 K4
  refine scode_ret ?_
  simp only [go_sem]
  refine hR _ _ ?_
  exact ret_plain (by simp [go_sem]) (empty_le _) (Nat.zero_le _) (by simp [go_sem])

theorem num_cases (b acc : Nat) : ((b : Int) < 48) ∨ (¬ (b : Int) < 48 ∧ 57 < (b : Int)) ∨ (¬ (b : Int) < 48 ∧ ¬ 57 < (b : Int) ∧ 922337203685477580 < (acc : Int)) ∨ (¬ (b : Int) < 48 ∧ ¬ 57 < (b : Int) ∧ ¬ 922337203685477580 < (acc : Int)) := by omega
theorem fold_bad {acc : Nat} {b : UInt8} {r : List UInt8} (h : b.toNat < 48 ∨ 57 < b.toNat ∨ 922337203685477580 < acc) : refFold acc (b :: r) = none := by
  unfold refFold
  rw [if_neg (by omega)]
theorem fold_ok {acc : Nat} {b : UInt8} {r : List UInt8} (h1 : ¬ b.toNat < 48) (h2 : ¬ 57 < b.toNat) (h3 : ¬ 922337203685477580 < acc) : refFold acc (b :: r) = refFold (acc * 10 + (b.toNat - 48)) r := by
  conv => lhs; unfold refFold
  rw [if_pos (by omega)]
theorem int_H (n : Int) (h : inI n) (H : Heap) : SCalls Tryz.prog 36 [.sc (.int .i64 n)] H (sA (Lib.itoa n)) H := scalls_frame (int_s n h) (by simp [go_sem]) (by simp [go_sem]) H

theorem refnum_neg (c : UInt8) (r0 : List UInt8) (hl : (c :: r0).length ≤ 20) (hc : c = 45) (V : Int × Bool) (hV : (match refFold 0 r0 with | none => (0, false) | some n => if Lib.itoa (refX true n) = c :: r0 then (refX true n, true) else (0, false)) = V) : SCalls Tryz.prog 50 [sA (c :: r0)] Heap.empty (.tup [.int V.1, .bool V.2]) Heap.empty := by
  obtain ⟨l, hL⟩ : ∃ l, c :: r0 = l := ⟨_, rfl⟩
  have h2 : ¬ l = [] := by rw [← hL]; simp
  have hlen : l.length ≤ 20 := by rw [← hL]; exact hl
  have hpos : 1 ≤ l.length := by rw [← hL]; simp
  have h3 : ((l.length : Int) == 0) = false := by simp; exact h2
  have h4 : ¬ (20 : Int) < (l.length : Int) := by omega
  have hat0 : srun Tryz.prog (Instr.index 9 (.string (bs l)) (.int .i64 0)) = some (.int .u8 c.toNat) := str_at l .i64 0 0 c rfl (by rw [← hL]; rfl)
  have hc45 : ((c.toNat : Int) == 45) = true := by rw [hc]; rfl
  have hsrc : r0 = l.drop 1 := by rw [← hL]; rfl
  rw [hL] at hV ⊢
  rw [show r0 = l.drop 1 from hsrc] at hV
  refine scalls_of_k (sz := 59) (Tryz.call50) Tryz.func50 rfl (Nat.zero_le _) (by kernel_rfl) (fun R hR => ?_)
  refine scode_seq_k (fun K1 hK1 => ?_)
  refine scode_region (by kernel_rfl) ?_
  simp [go_sem]
  refine hK1 _ _ ?_
  try clear hK1 K1
  refine scode_seq_k (fun K2 hK2 => ?_)
  refine scode_seq_k (fun K3 hK3 => ?_)
  refine scode_region (by kernel_rfl) ?_
  simp [go_sem, h2, h3, h4]
  refine hK3 _ _ ?_
  try clear hK3 K3
  refine scode_if (b := false) (by simp [go_sem]) (fun h => by cases h) (fun _ => ?_)
  refine scode_skip ?_
  refine hK2 _ _ ?_
  try clear hK2 K2
  refine scode_seq_k (fun K4 hK4 => ?_)
  refine scode_region (by kernel_rfl) ?_
  simp [go_sem]
  refine hK4 _ _ ?_
  try clear hK4 K4
  refine scode_seq_k (fun K5 hK5 => ?_)
  refine scode_region (by kernel_rfl) ?_
  simp [go_sem]
  refine hK5 _ _ ?_
  try clear hK5 K5
  refine scode_seq_k (fun K6 hK6 => ?_)
  refine scode_seq_k (fun K7 hK7 => ?_)
  refine scode_region (by kernel_rfl) ?_
  simp [go_sem, hat0, hc45]
  refine hK7 _ _ ?_
  try clear hK7 K7
  refine scode_if (b := true) (by simp [go_sem]) (fun _ => ?_) (fun h => by cases h)
  refine scode_region (by kernel_rfl) ?_
  simp [go_sem]
  refine hK6 _ _ ?_
  try clear hK6 K6
  refine scode_seq_k (fun K8 hK8 => ?_)
  refine scode_seq_k (fun K9 hK9 => ?_)
  refine scode_region (by kernel_rfl) ?_
  simp [go_sem]
  refine hK9 _ _ ?_
  try clear hK9 K9
  refine scode_block ?_
  refine scode_loop (Inv := fun n env H => ∃ (k acc : Nat), n = l.length - k ∧ k ≤ l.length ∧ acc < 18446744073709551616 ∧ env 0 = sA l ∧ env 4 = .sc (.int .u64 acc) ∧ env 5 = .int 1 ∧ env 6 = .int k ∧ refFold acc (l.drop k) = refFold 0 (l.drop 1)) ?_ (n := l.length - 1) (⟨1, 0, rfl, by omega, by omega, by simp [go_sem], by simp [go_sem], by simp [go_sem], by simp [go_sem], rfl⟩)
  rintro n env H ⟨k, acc, rfl, hk, hac, e0, e4, e5, e6, hp⟩
  refine scode_seq_k (fun K10 hK10 => ?_)
  refine scode_seq_k (fun K11 hK11 => ?_)
  refine scode_region (by kernel_rfl) ?_
  simp [go_sem, e0, e6]
  refine hK11 _ _ ?_
  try clear hK11 K11
  refine scode_if (b := decide (k < l.length)) (by simp [go_sem]) (fun hb => ?_) (fun hb => ?_)
  · skip
    simp only [decide_eq_true_eq] at hb
    obtain ⟨b, r, g1, g2, g3⟩ := drop_cons hb
    have hat := str_at l .i64 k k b rfl g3
    refine scode_skip ?_
    refine hK10 _ _ ?_
    try clear hK10 K10
    refine scode_seq_k (fun K12 hK12 => ?_)
    refine scode_block ?_
    refine scode_seq_k (fun K13 hK13 => ?_)
    refine scode_seq_k (fun K14 hK14 => ?_)
    rcases num_cases b.toNat acc with g | g | g | g
    · skip
      refine scode_region (by kernel_rfl) ?_
      simp [go_sem, e0, e6, e4, hat, g]
      refine hK14 _ _ ?_
      try clear hK14 K14
      refine scode_if (b := true) (by simp [go_sem]) (fun _ => ?_) (fun h => by cases h)
      refine scode_seq_k (fun K15 hK15 => ?_)
      refine scode_region (by kernel_rfl) ?_
      simp [go_sem]
      refine hK15 _ _ ?_
      try clear hK15 K15
      refine scode_ret ?_
      simp only [go_sem]
      refine hR _ _ ?_
      have hbad : refFold acc (l.drop k) = none := by rw [g1]; exact fold_bad (by omega)
      have hv : V = (0, false) := by rw [← hV, ← hp, hbad]
      rw [hv]
      exact ret_plain (by simp [go_sem]) (empty_le _) (Nat.zero_le _) (by simp [go_sem])
    · skip
      refine scode_region (by kernel_rfl) ?_
      simp [go_sem, e0, e6, e4, hat, g]
      refine hK14 _ _ ?_
      try clear hK14 K14
      refine scode_if (b := true) (by simp [go_sem]) (fun _ => ?_) (fun h => by cases h)
      refine scode_seq_k (fun K16 hK16 => ?_)
      refine scode_region (by kernel_rfl) ?_
      simp [go_sem]
      refine hK16 _ _ ?_
      try clear hK16 K16
      refine scode_ret ?_
      simp only [go_sem]
      refine hR _ _ ?_
      have hbad : refFold acc (l.drop k) = none := by rw [g1]; exact fold_bad (by omega)
      have hv : V = (0, false) := by rw [← hV, ← hp, hbad]
      rw [hv]
      exact ret_plain (by simp [go_sem]) (empty_le _) (Nat.zero_le _) (by simp [go_sem])
    · skip
      refine scode_region (by kernel_rfl) ?_
      simp [go_sem, e0, e6, e4, hat, g]
      refine hK14 _ _ ?_
      try clear hK14 K14
      refine scode_if (b := true) (by simp [go_sem]) (fun _ => ?_) (fun h => by cases h)
      refine scode_seq_k (fun K17 hK17 => ?_)
      refine scode_region (by kernel_rfl) ?_
      simp [go_sem]
      refine hK17 _ _ ?_
      try clear hK17 K17
      refine scode_ret ?_
      simp only [go_sem]
      refine hR _ _ ?_
      have hbad : refFold acc (l.drop k) = none := by rw [g1]; exact fold_bad (by omega)
      have hv : V = (0, false) := by rw [← hV, ← hp, hbad]
      rw [hv]
      exact ret_plain (by simp [go_sem]) (empty_le _) (Nat.zero_le _) (by simp [go_sem])
    · skip
      obtain ⟨a2, ha2⟩ : ∃ a2, acc * 10 + (b.toNat - 48) = a2 := ⟨_, rfl⟩
      have hb8 := UInt8.toNat_lt b
      have w1 : IntKind.u64.wrap ((acc : Int) * 10) = (acc : Int) * 10 := u64in _ (by omega) (by omega)
      have w2 : IntKind.u8.wrap ((b.toNat : Int) - 48) = (b.toNat : Int) - 48 := u8in _ (by omega) (by omega)
      have w3 : IntKind.u64.wrap ((b.toNat : Int) - 48) = (b.toNat : Int) - 48 := u64in _ (by omega) (by omega)
      have w4 : IntKind.u64.wrap ((acc : Int) * 10 + ((b.toNat : Int) - 48)) = (a2 : Int) := by rw [u64in _ (by omega) (by omega)]; omega
      refine scode_region (by kernel_rfl) ?_
      simp [go_sem, e0, e6, e4, hat, g]
      refine hK14 _ _ ?_
      try clear hK14 K14
      refine scode_if (b := false) (by simp [go_sem]) (fun h => by cases h) (fun _ => ?_)
      refine scode_skip ?_
      refine hK13 _ _ ?_
      try clear hK13 K13
      refine scode_region (by kernel_rfl) ?_
      simp [go_sem, e0, e4, e6, hat, w1, w2, w3, w4]
      refine hK12 _ _ ?_
      try clear hK12 K12
      refine scode_hide (fun K18 hK18 => ?_)
      refine scode_region (by kernel_rfl) ?_
      simp [go_sem, e6]
      refine hK18 _ _ ?_
      have hw := i64_succ k (by omega)
      exact ⟨l.length - (k + 1), by omega, k + 1, a2, rfl, by omega, by omega, by simp [go_sem, e0], by simp [go_sem], by simp [go_sem, e5], by simp [go_sem, hw], by rw [← hp, g1, g2, fold_ok (by omega) (by omega) (by omega), ha2]⟩
  · skip
    simp only [decide_eq_false_iff_not] at hb
    obtain rfl : k = l.length := by omega
    rw [List.drop_eq_nil_of_le (Nat.le_refl _)] at hp
    have hp : some acc = refFold 0 (l.drop 1) := hp
    obtain ⟨X, hX⟩ : ∃ X, IntKind.i64.wrap (-(IntKind.i64.wrap (acc : Int))) = X := ⟨_, rfl⟩
    have hXr : refX true acc = X := by rw [← hX]; rfl
    have hXi : inI X := by rw [← hX]; exact wrap_range _
    refine scode_exit ?_
    refine hK8 _ _ ?_
    try clear hK8 K8
    refine scode_seq_k (fun K19 hK19 => ?_)
    refine scode_region (by kernel_rfl) ?_
    simp [go_sem, e4]
    refine hK19 _ _ ?_
    try clear hK19 K19
    refine scode_seq_k (fun K20 hK20 => ?_)
    refine scode_seq_k (fun K21 hK21 => ?_)
    refine scode_region (by kernel_rfl) ?_
    simp [go_sem, e5]
    refine hK21 _ _ ?_
    try clear hK21 K21
    refine scode_if (b := true) (by simp [go_sem]) (fun _ => ?_) (fun h => by cases h)
    refine scode_region (by kernel_rfl) ?_
    simp [go_sem, hX]
    refine hK20 _ _ ?_
    try clear hK20 K20
    refine scode_seq_k (fun K22 hK22 => ?_)
    refine scode_seq_k (fun K23 hK23 => ?_)
    refine scode_region (by kernel_rfl) ?_
    refine w_take 2 (fun K24 hK24 => ?_)
    simp [go_sem, e0, hX]
    refine ⟨_, _, int_H X hXi _, ?_⟩
    refine hK24 _ _ ?_
    clear hK24 K24
    simp [go_sem, e0, hX]
    refine hK23 _ _ ?_
    try clear hK23 K23
    refine scode_if (b := !(Lib.itoa X == l)) (by simp [go_sem, hX]) (fun hb => ?_) (fun hb => ?_)
    · skip
      have hne : ¬ Lib.itoa X = l := by simpa using hb
      have hv : V = (0, false) := by rw [← hV, ← hp]; simp only [hXr, List.drop_zero]; rw [if_neg hne]
      refine scode_seq_k (fun K25 hK25 => ?_)
      refine scode_region (by kernel_rfl) ?_
      simp [go_sem]
      refine hK25 _ _ ?_
      try clear hK25 K25
      refine scode_ret ?_
      simp only [go_sem]
      refine hR _ _ ?_
      rw [hv]
      exact ret_plain (by simp [go_sem, hX]) (empty_le _) (Nat.zero_le _) (by simp [go_sem])
    · skip
      have heq : Lib.itoa X = l := by simpa using hb
      have hv : V = (X, true) := by rw [← hV, ← hp]; simp only [hXr, List.drop_zero]; rw [if_pos heq]
      refine scode_skip ?_
      refine hK22 _ _ ?_
      try clear hK22 K22
      refine scode_seq_k (fun K26 hK26 => ?_)
      refine scode_region (by kernel_rfl) ?_
      simp [go_sem, hX]
      refine hK26 _ _ ?_
      try clear hK26 K26
      refine scode_ret ?_
      simp only [go_sem]
      refine hR _ _ ?_
      rw [hv]
      exact ret_plain (by simp [go_sem, hX]) (empty_le _) (Nat.zero_le _) (by simp [go_sem])

theorem refnum_pos (c : UInt8) (r0 : List UInt8) (hl : (c :: r0).length ≤ 20) (hc : c ≠ 45) (V : Int × Bool) (hV : (match refFold 0 (c :: r0) with | none => (0, false) | some n => if Lib.itoa (refX false n) = c :: r0 then (refX false n, true) else (0, false)) = V) : SCalls Tryz.prog 50 [sA (c :: r0)] Heap.empty (.tup [.int V.1, .bool V.2]) Heap.empty := by
  obtain ⟨l, hL⟩ : ∃ l, c :: r0 = l := ⟨_, rfl⟩
  have h2 : ¬ l = [] := by rw [← hL]; simp
  have hlen : l.length ≤ 20 := by rw [← hL]; exact hl
  have hpos : 1 ≤ l.length := by rw [← hL]; simp
  have h3 : ((l.length : Int) == 0) = false := by simp; exact h2
  have h4 : ¬ (20 : Int) < (l.length : Int) := by omega
  have hat0 : srun Tryz.prog (Instr.index 9 (.string (bs l)) (.int .i64 0)) = some (.int .u8 c.toNat) := str_at l .i64 0 0 c rfl (by rw [← hL]; rfl)
  have hc45 : ((c.toNat : Int) == 45) = false := by
    cases hz : ((c.toNat : Int) == 45) with
    | false => rfl
    | true => exact absurd (byte_eq (n := 45) hz (by omega)) hc
  have hsrc : (c :: r0) = l.drop 0 := by rw [← hL]; rfl
  rw [hL] at hV ⊢
  rw [show l = l.drop 0 from by rfl] at hV
  refine scalls_of_k (sz := 59) (Tryz.call50) Tryz.func50 rfl (Nat.zero_le _) (by kernel_rfl) (fun R hR => ?_)
  refine scode_seq_k (fun K1 hK1 => ?_)
  refine scode_region (by kernel_rfl) ?_
  simp [go_sem]
  refine hK1 _ _ ?_
  try clear hK1 K1
  refine scode_seq_k (fun K2 hK2 => ?_)
  refine scode_seq_k (fun K3 hK3 => ?_)
  refine scode_region (by kernel_rfl) ?_
  simp [go_sem, h2, h3, h4]
  refine hK3 _ _ ?_
  try clear hK3 K3
  refine scode_if (b := false) (by simp [go_sem]) (fun h => by cases h) (fun _ => ?_)
  refine scode_skip ?_
  refine hK2 _ _ ?_
  try clear hK2 K2
  refine scode_seq_k (fun K4 hK4 => ?_)
  refine scode_region (by kernel_rfl) ?_
  simp [go_sem]
  refine hK4 _ _ ?_
  try clear hK4 K4
  refine scode_seq_k (fun K5 hK5 => ?_)
  refine scode_region (by kernel_rfl) ?_
  simp [go_sem]
  refine hK5 _ _ ?_
  try clear hK5 K5
  refine scode_seq_k (fun K6 hK6 => ?_)
  refine scode_seq_k (fun K7 hK7 => ?_)
  refine scode_region (by kernel_rfl) ?_
  simp [go_sem, hat0, hc45]
  refine hK7 _ _ ?_
  try clear hK7 K7
  refine scode_if (b := false) (by simp [go_sem]) (fun h => by cases h) (fun _ => ?_)
  refine scode_skip ?_
  refine hK6 _ _ ?_
  try clear hK6 K6
  refine scode_seq_k (fun K8 hK8 => ?_)
  refine scode_seq_k (fun K9 hK9 => ?_)
  refine scode_region (by kernel_rfl) ?_
  simp [go_sem]
  refine hK9 _ _ ?_
  try clear hK9 K9
  refine scode_block ?_
  refine scode_loop (Inv := fun n env H => ∃ (k acc : Nat), n = l.length - k ∧ k ≤ l.length ∧ acc < 18446744073709551616 ∧ env 0 = sA l ∧ env 4 = .sc (.int .u64 acc) ∧ env 5 = .int 0 ∧ env 6 = .int k ∧ refFold acc (l.drop k) = refFold 0 (l.drop 0)) ?_ (n := l.length - 0) (⟨0, 0, rfl, by omega, by omega, by simp [go_sem], by simp [go_sem], by simp [go_sem], by simp [go_sem], rfl⟩)
  rintro n env H ⟨k, acc, rfl, hk, hac, e0, e4, e5, e6, hp⟩
  refine scode_seq_k (fun K10 hK10 => ?_)
  refine scode_seq_k (fun K11 hK11 => ?_)
  refine scode_region (by kernel_rfl) ?_
  simp [go_sem, e0, e6]
  refine hK11 _ _ ?_
  try clear hK11 K11
  refine scode_if (b := decide (k < l.length)) (by simp [go_sem]) (fun hb => ?_) (fun hb => ?_)
  · skip
    simp only [decide_eq_true_eq] at hb
    obtain ⟨b, r, g1, g2, g3⟩ := drop_cons hb
    have hat := str_at l .i64 k k b rfl g3
    refine scode_skip ?_
    refine hK10 _ _ ?_
    try clear hK10 K10
    refine scode_seq_k (fun K12 hK12 => ?_)
    refine scode_block ?_
    refine scode_seq_k (fun K13 hK13 => ?_)
    refine scode_seq_k (fun K14 hK14 => ?_)
    rcases num_cases b.toNat acc with g | g | g | g
    · skip
      refine scode_region (by kernel_rfl) ?_
      simp [go_sem, e0, e6, e4, hat, g]
      refine hK14 _ _ ?_
      try clear hK14 K14
      refine scode_if (b := true) (by simp [go_sem]) (fun _ => ?_) (fun h => by cases h)
      refine scode_seq_k (fun K15 hK15 => ?_)
      refine scode_region (by kernel_rfl) ?_
      simp [go_sem]
      refine hK15 _ _ ?_
      try clear hK15 K15
      refine scode_ret ?_
      simp only [go_sem]
      refine hR _ _ ?_
      have hbad : refFold acc (l.drop k) = none := by rw [g1]; exact fold_bad (by omega)
      have hv : V = (0, false) := by rw [← hV, ← hp, hbad]
      rw [hv]
      exact ret_plain (by simp [go_sem]) (empty_le _) (Nat.zero_le _) (by simp [go_sem])
    · skip
      refine scode_region (by kernel_rfl) ?_
      simp [go_sem, e0, e6, e4, hat, g]
      refine hK14 _ _ ?_
      try clear hK14 K14
      refine scode_if (b := true) (by simp [go_sem]) (fun _ => ?_) (fun h => by cases h)
      refine scode_seq_k (fun K16 hK16 => ?_)
      refine scode_region (by kernel_rfl) ?_
      simp [go_sem]
      refine hK16 _ _ ?_
      try clear hK16 K16
      refine scode_ret ?_
      simp only [go_sem]
      refine hR _ _ ?_
      have hbad : refFold acc (l.drop k) = none := by rw [g1]; exact fold_bad (by omega)
      have hv : V = (0, false) := by rw [← hV, ← hp, hbad]
      rw [hv]
      exact ret_plain (by simp [go_sem]) (empty_le _) (Nat.zero_le _) (by simp [go_sem])
    · skip
      refine scode_region (by kernel_rfl) ?_
      simp [go_sem, e0, e6, e4, hat, g]
      refine hK14 _ _ ?_
      try clear hK14 K14
      refine scode_if (b := true) (by simp [go_sem]) (fun _ => ?_) (fun h => by cases h)
      refine scode_seq_k (fun K17 hK17 => ?_)
      refine scode_region (by kernel_rfl) ?_
      simp [go_sem]
      refine hK17 _ _ ?_
      try clear hK17 K17
      refine scode_ret ?_
      simp only [go_sem]
      refine hR _ _ ?_
      have hbad : refFold acc (l.drop k) = none := by rw [g1]; exact fold_bad (by omega)
      have hv : V = (0, false) := by rw [← hV, ← hp, hbad]
      rw [hv]
      exact ret_plain (by simp [go_sem]) (empty_le _) (Nat.zero_le _) (by simp [go_sem])
    · skip
      obtain ⟨a2, ha2⟩ : ∃ a2, acc * 10 + (b.toNat - 48) = a2 := ⟨_, rfl⟩
      have hb8 := UInt8.toNat_lt b
      have w1 : IntKind.u64.wrap ((acc : Int) * 10) = (acc : Int) * 10 := u64in _ (by omega) (by omega)
      have w2 : IntKind.u8.wrap ((b.toNat : Int) - 48) = (b.toNat : Int) - 48 := u8in _ (by omega) (by omega)
      have w3 : IntKind.u64.wrap ((b.toNat : Int) - 48) = (b.toNat : Int) - 48 := u64in _ (by omega) (by omega)
      have w4 : IntKind.u64.wrap ((acc : Int) * 10 + ((b.toNat : Int) - 48)) = (a2 : Int) := by rw [u64in _ (by omega) (by omega)]; omega
      refine scode_region (by kernel_rfl) ?_
      simp [go_sem, e0, e6, e4, hat, g]
      refine hK14 _ _ ?_
      try clear hK14 K14
      refine scode_if (b := false) (by simp [go_sem]) (fun h => by cases h) (fun _ => ?_)
      refine scode_skip ?_
      refine hK13 _ _ ?_
      try clear hK13 K13
      refine scode_region (by kernel_rfl) ?_
      simp [go_sem, e0, e4, e6, hat, w1, w2, w3, w4]
      refine hK12 _ _ ?_
      try clear hK12 K12
      refine scode_hide (fun K18 hK18 => ?_)
      refine scode_region (by kernel_rfl) ?_
      simp [go_sem, e6]
      refine hK18 _ _ ?_
      have hw := i64_succ k (by omega)
      exact ⟨l.length - (k + 1), by omega, k + 1, a2, rfl, by omega, by omega, by simp [go_sem, e0], by simp [go_sem], by simp [go_sem, e5], by simp [go_sem, hw], by rw [← hp, g1, g2, fold_ok (by omega) (by omega) (by omega), ha2]⟩
  · skip
    simp only [decide_eq_false_iff_not] at hb
    obtain rfl : k = l.length := by omega
    rw [List.drop_eq_nil_of_le (Nat.le_refl _)] at hp
    have hp : some acc = refFold 0 (l.drop 0) := hp
    obtain ⟨X, hX⟩ : ∃ X, IntKind.i64.wrap (acc : Int) = X := ⟨_, rfl⟩
    have hXr : refX false acc = X := by rw [← hX]; rfl
    have hXi : inI X := by rw [← hX]; exact wrap_range _
    refine scode_exit ?_
    refine hK8 _ _ ?_
    try clear hK8 K8
    refine scode_seq_k (fun K19 hK19 => ?_)
    refine scode_region (by kernel_rfl) ?_
    simp [go_sem, e4]
    refine hK19 _ _ ?_
    try clear hK19 K19
    refine scode_seq_k (fun K20 hK20 => ?_)
    refine scode_seq_k (fun K21 hK21 => ?_)
    refine scode_region (by kernel_rfl) ?_
    simp [go_sem, e5]
    refine hK21 _ _ ?_
    try clear hK21 K21
    refine scode_if (b := false) (by simp [go_sem]) (fun h => by cases h) (fun _ => ?_)
    refine scode_skip ?_
    refine hK20 _ _ ?_
    try clear hK20 K20
    refine scode_seq_k (fun K22 hK22 => ?_)
    refine scode_seq_k (fun K23 hK23 => ?_)
    refine scode_region (by kernel_rfl) ?_
    refine w_take 2 (fun K24 hK24 => ?_)
    simp [go_sem, e0, hX]
    refine ⟨_, _, int_H X hXi _, ?_⟩
    refine hK24 _ _ ?_
    clear hK24 K24
    simp [go_sem, e0, hX]
    refine hK23 _ _ ?_
    try clear hK23 K23
    refine scode_if (b := !(Lib.itoa X == l)) (by simp [go_sem, hX]) (fun hb => ?_) (fun hb => ?_)
    · skip
      have hne : ¬ Lib.itoa X = l := by simpa using hb
      have hv : V = (0, false) := by rw [← hV, ← hp]; simp only [hXr, List.drop_zero]; rw [if_neg hne]
      refine scode_seq_k (fun K25 hK25 => ?_)
      refine scode_region (by kernel_rfl) ?_
      simp [go_sem]
      refine hK25 _ _ ?_
      try clear hK25 K25
      refine scode_ret ?_
      simp only [go_sem]
      refine hR _ _ ?_
      rw [hv]
      exact ret_plain (by simp [go_sem, hX]) (empty_le _) (Nat.zero_le _) (by simp [go_sem])
    · skip
      have heq : Lib.itoa X = l := by simpa using hb
      have hv : V = (X, true) := by rw [← hV, ← hp]; simp only [hXr, List.drop_zero]; rw [if_pos heq]
      refine scode_skip ?_
      refine hK22 _ _ ?_
      try clear hK22 K22
      refine scode_seq_k (fun K26 hK26 => ?_)
      refine scode_region (by kernel_rfl) ?_
      simp [go_sem, hX]
      refine hK26 _ _ ?_
      try clear hK26 K26
      refine scode_ret ?_
      simp only [go_sem]
      refine hR _ _ ?_
      rw [hv]
      exact ret_plain (by simp [go_sem, hX]) (empty_le _) (Nat.zero_le _) (by simp [go_sem])

/-- What the document's number says of a word. -/
def numR (l : List UInt8) : AV := .tup [.int ((refNum l).getD 0), .bool (refNum l).isSome]
theorem refnum_s (l : List UInt8) : SCalls Tryz.prog 50 [sA l] Heap.empty (numR l) Heap.empty := by
  cases l with
  | nil => exact refnum_nil
  | cons c r =>
    by_cases h20 : 20 < (c :: r).length
    · have : refNum (c :: r) = none := by unfold refNum; simp only; rw [if_pos h20]
      unfold numR
      rw [this]
      exact refnum_long (c :: r) (by simp) h20
    · by_cases hc : c = 45
      · have h := refnum_neg c r (by omega) hc _ rfl
        have e : refNum (c :: r) = match refFold 0 r with | none => none | some n => if Lib.itoa (refX true n) = c :: r then some (refX true n) else none := by
          have h45 : c.toNat = 45 := by rw [hc]; rfl
          unfold refNum
          simp only
          rw [if_neg h20]
          simp only [h45, if_true, decide_true]
          cases refFold 0 r <;> rfl
        unfold numR
        rw [e]
        cases hf : refFold 0 r with
        | none => simp only [hf] at h; exact h
        | some n =>
          simp only [hf] at h ⊢
          split at h <;> rename_i hz
          · simp only [if_pos hz, Option.getD_some, Option.isSome_some]; exact h
          · simp only [if_neg hz, Option.getD_none, Option.isSome_none]; exact h
      · have h := refnum_pos c r (by omega) hc _ rfl
        have e : refNum (c :: r) = match refFold 0 (c :: r) with | none => none | some n => if Lib.itoa (refX false n) = c :: r then some (refX false n) else none := by
          have h45 : ¬ c.toNat = 45 := fun h => hc (by rw [show c = UInt8.ofNat c.toNat by simp, h]; rfl)
          unfold refNum
          simp only
          rw [if_neg h20]
          simp only [h45, if_false, decide_false]
          cases refFold 0 (c :: r) <;> rfl
        unfold numR
        rw [e]
        cases hf : refFold 0 (c :: r) with
        | none => simp only [hf] at h; exact h
        | some n =>
          simp only [hf] at h ⊢
          split at h <;> rename_i hz
          · simp only [if_pos hz, Option.getD_some, Option.isSome_some]; exact h
          · simp only [if_neg hz, Option.getD_none, Option.isSome_none]; exact h
theorem numR_lt (l : List UInt8) (n : Nat) : (numR l).Lt n = True := by simp [numR, go_sem]

end Go.Proofs.YtfmpakmigmehkaaGreatDoor
