/- CcpAgrees: both, number, strengths. -/
import Derived.Test.YtmnbicoeahlpcaaL22
set_option maxRecDepth 20000
noncomputable section
namespace Go.Proofs.Ytmnbicoeahlpcaa
open Go Go.Fl Go.Proofs

def goodO (l : List Opt) : Prop := l.length ≤ maxLen ∧ ∀ o ∈ l, isBytes o.data ∧ o.data.length ≤ maxLen

theorem findO_ok {l : List Opt} (h : ∀ o ∈ l, isBytes o.data ∧ o.data.length ≤ maxLen) {k : Int} {d : List Int} (hd : findO l k = some d) : isBytes d ∧ d.length ≤ maxLen := by
  induction l with
  | nil => simp [findO] at hd
  | cons o r ih =>
    rw [findO] at hd
    split at hd
    · cases hd; exact h o List.mem_cons_self
    · exact ih (fun o ho => h o (List.mem_cons_of_mem _ ho)) hd

def bothB : Option (List Int) → Option (List Int) → Bool
  | some a, some b => a == b
  | _, _ => false

theorem option_H (l : List Opt) (k : Int) (hlen : l.length ≤ maxLen) (H : Heap) : SCalls Try.prog 52 [optsA l, .int k] H (optR (findO l k)) H :=
  scalls_frame (option_s l k hlen) (by simp [go_sem]; exact optsA_lt _ _) (optR_lt _ _) H
theorem data_H (l : List Opt) (k : Int) (hlen : l.length ≤ maxLen) (H : Heap) : SCalls Try.prog 48 [optsA l, .int k] H (optR (findO l k)) H :=
  scalls_frame (data_s l k hlen) (by simp [go_sem]; exact optsA_lt _ _) (optR_lt _ _) H
theorem equal_H (a b : List Int) (ha : isBytes a) (hb : isBytes b) (H : Heap) : SCalls Try.prog 37 [bytesA a, bytesA b] H (.bool (a == b)) H :=
  scalls_frame (equal_s a b ha hb) (by simp [bytesA_lt]) (by simp [go_sem]) H
theorem refSame_H (a b : List Int) (ha : a.length ≤ maxLen) (H : Heap) : SCalls Try.prog 38 [bytesA a, bytesA b] H (.bool (a == b)) H :=
  scalls_frame (refSame_s a b ha) (by simp [bytesA_lt]) (by simp [go_sem]) H

theorem both_s (l1 l2 : List Opt) (k : Int) (h1 : goodO l1) (h2 : goodO l2) : SCalls Try.prog 45 [optsA l1, optsA l2, .int k] Heap.empty (.tup [foundA (findO l1 k), .sc (.bool (bothB (findO l1 k) (findO l2 k)))]) Heap.empty := by
  have ok1 := fun d => @findO_ok l1 h1.2 k d
  have ok2 := fun d => @findO_ok l2 h2.2 k d
  have c1 := option_H l1 k h1.1 Heap.empty
  have c2 := option_H l2 k h2.1 Heap.empty
  obtain ⟨x, hx⟩ : ∃ x, findO l1 k = x := ⟨_, rfl⟩
  obtain ⟨y, hy⟩ : ∃ y, findO l2 k = y := ⟨_, rfl⟩
  rw [hx] at c1 ok1
  rw [hy] at c2 ok2
  rw [hx, hy]
  refine scalls_of_k (sz := 34) (Try.call45) Try.func45 rfl (Nat.le_refl _) (by kernel_rfl) (fun R hR => ?_)
  have fin : ∀ env : Env, env 6 = foundA x → env 7 = .sc (.bool (bothB x y)) → R env Heap.empty := by
    intro env e6 e7
    refine hR _ _ ?_
    refine ret_pure (by simp [go_sem, e6, e7]) (.same _) (empty_le _) (Nat.zero_le _) ?_
    simp [go_sem]; exact foundA_lt _ _
  refine scode_seq_k (fun K1 hK1 => ?_)
  refine scode_region (by kernel_rfl) ?_
  simp [go_sem]
  refine hK1 _ _ ?_
  clear hK1 K1
  refine scode_seq_k (fun K1 hK1 => ?_)
  refine scode_region (by kernel_rfl) ?_
  refine w_take 3 (fun K6 hK6 => ?_)
  simp [go_sem]
  refine ⟨_, _, c1, ?_⟩
  refine hK6 _ _ ?_
  clear hK6 K6
  simp [go_sem, optR]
  refine hK1 _ _ ?_
  clear hK1 K1
  refine scode_seq_k (fun K1 hK1 => ?_)
  refine scode_region (by kernel_rfl) ?_
  refine w_take 3 (fun K6 hK6 => ?_)
  simp [go_sem]
  refine ⟨_, _, c2, ?_⟩
  refine hK6 _ _ ?_
  clear hK6 K6
  simp [go_sem, optR]
  refine hK1 _ _ ?_
  clear hK1 K1
  refine scode_seq_k (fun K1 hK1 => ?_)
  refine scode_region (by kernel_rfl) ?_
  rcases x with _ | a
  · simp [go_sem]
    refine hK1 _ _ ?_
    refine scode_ret ?_
    simp only [go_sem]
    exact fin _ (by simp [go_sem]) (by simp [go_sem, bothB])
  rcases y with _ | b
  · simp [go_sem]
    refine hK1 _ _ ?_
    refine scode_ret ?_
    simp only [go_sem]
    exact fin _ (by simp [go_sem]) (by simp [go_sem, bothB])
  simp [go_sem]
  refine ⟨_, _, equal_H a b (ok1 a rfl).1 (ok2 b rfl).1 _, ?_⟩
  refine hK1 _ _ ?_
  refine scode_ret ?_
  simp only [go_sem]
  exact fin _ (by simp [go_sem]) (by simp [go_sem, bothB])

def strR (s : Int) : AV := if s = 64 then .tup [.int 128, .sc (.bool true)] else if s = 128 then .tup [.int 56, .sc (.bool true)] else if s = 32 then .tup [.int 40, .sc (.bool true)] else if s = 0 then .tup [.int 0, .sc (.bool true)] else .tup [.int 0, .sc (.bool false)]
theorem strR_lt (s : Int) (n : Nat) : (strR s).Lt n := by
  unfold strR
  repeat' split
  all_goals simp [go_sem]

theorem strengths_s (x s : Int) (hs : Go.bits .and .i64 x 224 = s) : SCalls Try.prog 47 [.int x] Heap.empty (strR s) Heap.empty := by
  refine scalls_of_k (sz := 14) (Try.call47) Try.func47 rfl (Nat.le_refl _) (by kernel_rfl) (fun R hR => ?_)
  refine scode_seq_k (fun K1 hK1 => ?_)
  refine scode_region (by kernel_rfl) ?_
  simp [go_sem]
  refine hK1 _ _ ?_
  clear hK1 K1
  refine scode_seq_k (fun K1 hK1 => ?_)
  refine scode_seq_k (fun K2 hK2 => ?_)
  refine scode_region (by kernel_rfl) ?_
  simp [go_sem, hs]
  refine hK2 _ _ ?_
  clear hK2 K2
  have fin : ∀ (env : Env) (a : Int) (q : Bool), env 2 = .int a → env 3 = .sc (.bool q) → strR s = .tup [.int a, .sc (.bool q)] → R env Heap.empty := by
    intro env a q e2 e3 e
    refine hR _ _ ?_
    exact ret_pure (v := .tup [.int a, .sc (.bool q)]) (by simp [go_sem, e2, e3]) (by rw [e]; exact .same _) (empty_le _) (Nat.zero_le _) (strR_lt _ _)
  refine scode_block ?_
  refine scode_seq_k (fun K2 hK2 => ?_)
  refine scode_region (by kernel_rfl) ?_
  simp [go_sem]
  refine hK2 _ _ ?_
  clear hK2 K2
  by_cases s1 : s = 64
  · refine scode_if (b := true) (by simp [go_sem, s1]) (fun _ => ?_) (fun h => by cases h)
    refine scode_seq_k (fun K2 hK2 => ?_)
    refine scode_region (by kernel_rfl) ?_
    simp [go_sem]
    refine hK2 _ _ ?_
    refine scode_ret ?_
    simp only [go_sem]
    exact fin _ 128 true (by simp [go_sem]) (by simp [go_sem]) (by simp [strR, s1])
  refine scode_if (b := false) (by simp [go_sem, s1]) (fun h => by cases h) (fun _ => ?_)
  refine scode_seq_k (fun K2 hK2 => ?_)
  refine scode_region (by kernel_rfl) ?_
  simp [go_sem]
  refine hK2 _ _ ?_
  clear hK2 K2
  by_cases s2 : s = 128
  · refine scode_if (b := true) (by simp [go_sem, s2]) (fun _ => ?_) (fun h => by cases h)
    refine scode_seq_k (fun K2 hK2 => ?_)
    refine scode_region (by kernel_rfl) ?_
    simp [go_sem]
    refine hK2 _ _ ?_
    refine scode_ret ?_
    simp only [go_sem]
    exact fin _ 56 true (by simp [go_sem]) (by simp [go_sem]) (by simp [strR, s2])
  refine scode_if (b := false) (by simp [go_sem, s2]) (fun h => by cases h) (fun _ => ?_)
  refine scode_seq_k (fun K2 hK2 => ?_)
  refine scode_region (by kernel_rfl) ?_
  simp [go_sem]
  refine hK2 _ _ ?_
  clear hK2 K2
  by_cases s3 : s = 32
  · refine scode_if (b := true) (by simp [go_sem, s3]) (fun _ => ?_) (fun h => by cases h)
    refine scode_seq_k (fun K2 hK2 => ?_)
    refine scode_region (by kernel_rfl) ?_
    simp [go_sem]
    refine hK2 _ _ ?_
    refine scode_ret ?_
    simp only [go_sem]
    exact fin _ 40 true (by simp [go_sem]) (by simp [go_sem]) (by simp [strR, s3])
  refine scode_if (b := false) (by simp [go_sem, s3]) (fun h => by cases h) (fun _ => ?_)
  refine scode_seq_k (fun K2 hK2 => ?_)
  refine scode_region (by kernel_rfl) ?_
  simp [go_sem]
  refine hK2 _ _ ?_
  clear hK2 K2
  by_cases s4 : s = 0
  · refine scode_if (b := true) (by simp [go_sem, s4]) (fun _ => ?_) (fun h => by cases h)
    refine scode_seq_k (fun K2 hK2 => ?_)
    refine scode_region (by kernel_rfl) ?_
    simp [go_sem]
    refine hK2 _ _ ?_
    refine scode_ret ?_
    simp only [go_sem]
    exact fin _ 0 true (by simp [go_sem]) (by simp [go_sem]) (by simp [strR, s4])
  refine scode_if (b := false) (by simp [go_sem, s4]) (fun h => by cases h) (fun _ => ?_)
  refine scode_skip ?_
  refine hK1 _ _ ?_
  refine scode_seq_k (fun K2 hK2 => ?_)
  refine scode_region (by kernel_rfl) ?_
  simp [go_sem]
  refine hK2 _ _ ?_
  refine scode_ret ?_
  simp only [go_sem]
  exact fin _ 0 false (by simp [go_sem]) (by simp [go_sem]) (by simp [strR, s1, s2, s3, s4])

theorem word_lt : ∀ n : Int, 0 ≤ n → n < 2 ^ 40 → IntKind.i64.wrap n = n := fun n h0 h1 => IntWalk.i64_in _ (by omega)
theorem or_add (i : Nat) (x y : Int) (hx₀ : 0 ≤ x) (hx : x % 2 ^ i = 0) (hx₁ : x < 2 ^ 40) (hy₀ : 0 ≤ y) (hy : y < 2 ^ i) (hy₁ : y < 2 ^ 40) : Go.bits .or .i64 x y = x + y :=
  bits_join .i64 40 (by decide) word_lt i x y hx₀ hx hx₁ hy₀ hy hy₁

def num4 (b0 b1 b2 b3 : Int) : Int := b0 * 16777216 + b1 * 65536 + b2 * 256 + b3

theorem number4_s (b0 b1 b2 b3 : Int) (h : isBytes [b0, b1, b2, b3]) : SCalls Try.prog 46 [bytesA [b0, b1, b2, b3]] Heap.empty (.tup [.int (num4 b0 b1 b2 b3), .sc (.bool true)]) Heap.empty := by
  have k0 := h b0 (by simp)
  have k1 := h b1 (by simp)
  have k2 := h b2 (by simp)
  have k3 := h b3 (by simp)
  have w0 : IntKind.i64.wrap b0 = b0 := IntWalk.i64_in _ (by omega)
  have w1 : IntKind.i64.wrap b1 = b1 := IntWalk.i64_in _ (by omega)
  have w2 : IntKind.i64.wrap b2 = b2 := IntWalk.i64_in _ (by omega)
  have w3 : IntKind.i64.wrap b3 = b3 := IntWalk.i64_in _ (by omega)
  refine scalls_of_k (sz := 29) (Try.call46) Try.func46 rfl (Nat.le_refl _) (by kernel_rfl) (fun R hR => ?_)
  refine scode_seq_k (fun K1 hK1 => ?_)
  refine scode_region (by kernel_rfl) ?_
  simp [go_sem]
  refine hK1 _ _ ?_
  clear hK1 K1
  refine scode_seq_k (fun K1 hK1 => ?_)
  refine scode_seq_k (fun K2 hK2 => ?_)
  refine scode_region (by kernel_rfl) ?_
  simp [go_sem, bytesA, bytesV]
  refine hK2 _ _ ?_
  clear hK2 K2
  refine scode_if (b := false) (by simp [go_sem]) (fun h => by cases h) (fun _ => ?_)
  refine scode_skip ?_
  refine hK1 _ _ ?_
  clear hK1 K1
  refine scode_seq_k (fun K1 hK1 => ?_)
  refine scode_drawK mixed (by kernel_rfl) ?_
  have v0 : IntKind.i64.wrap (b0 * 16777216) = b0 * 16777216 := IntWalk.i64_in _ (by omega)
  have v1 : IntKind.i64.wrap (b1 * 65536) = b1 * 65536 := IntWalk.i64_in _ (by omega)
  have v2 : IntKind.i64.wrap (b2 * 256) = b2 * 256 := IntWalk.i64_in _ (by omega)
  have o1 : Go.bits .or .i64 (b0 * 16777216) (b1 * 65536) = b0 * 16777216 + b1 * 65536 := or_add 24 _ _ (by omega) (by omega) (by omega) (by omega) (by omega) (by omega)
  have o2 : Go.bits .or .i64 (b0 * 16777216 + b1 * 65536) (b2 * 256) = b0 * 16777216 + b1 * 65536 + b2 * 256 := or_add 16 _ _ (by omega) (by omega) (by omega) (by omega) (by omega) (by omega)
  have o3 : Go.bits .or .i64 (b0 * 16777216 + b1 * 65536 + b2 * 256) b3 = num4 b0 b1 b2 b3 := or_add 8 _ _ (by omega) (by omega) (by omega) (by omega) (by omega) (by omega)
  refine wk_take 11 (fun K6 hK6 => ?_)
  simp [go_sem, w0, w1, v0, v1, o1]
  refine hK6 _ _ ?_
  clear hK6 K6
  simp [go_sem, w2, w3, v2, o2, o3]
  refine hK1 _ _ ?_
  refine scode_ret ?_
  simp only [go_sem]
  refine hR _ _ ?_
  exact ret_pure (v := .tup [.int (num4 b0 b1 b2 b3), .sc (.bool true)]) (by simp [go_sem]) (.same _) (empty_le _) (Nat.zero_le _) (by simp [go_sem])

theorem number_no (d : List Int) (h : d.length ≠ 4) : SCalls Try.prog 46 [bytesA d] Heap.empty (.tup [.int 0, .sc (.bool false)]) Heap.empty := by
  have hne : ((d.length : Int) != 4) = true := by simp; omega
  refine scalls_of_k (sz := 29) (Try.call46) Try.func46 rfl (Nat.le_refl _) (by kernel_rfl) (fun R hR => ?_)
  refine scode_seq_k (fun K1 hK1 => ?_)
  refine scode_region (by kernel_rfl) ?_
  simp [go_sem]
  refine hK1 _ _ ?_
  clear hK1 K1
  refine scode_seq_k (fun K1 hK1 => ?_)
  refine scode_seq_k (fun K2 hK2 => ?_)
  refine scode_region (by kernel_rfl) ?_
  simp [go_sem, bytesA, hne]
  refine hK2 _ _ ?_
  clear hK2 K2
  refine scode_if (b := true) (by simp [go_sem]) (fun _ => ?_) (fun h => by cases h)
  refine scode_seq_k (fun K2 hK2 => ?_)
  refine scode_region (by kernel_rfl) ?_
  simp [go_sem]
  refine hK2 _ _ ?_
  refine scode_ret ?_
  simp only [go_sem]
  refine hR _ _ ?_
  exact ret_pure (v := .tup [.int 0, .sc (.bool false)]) (by simp [go_sem]) (.same _) (empty_le _) (Nat.zero_le _) (by simp [go_sem])

theorem Num_s (b0 b1 b2 b3 : Int) (h : isBytes [b0, b1, b2, b3]) : SCalls Try.prog 49 [bytesA [b0, b1, b2, b3]] Heap.empty (.int (num4 b0 b1 b2 b3)) Heap.empty := by
  have k0 := h b0 (by simp)
  have k1 := h b1 (by simp)
  have k2 := h b2 (by simp)
  have k3 := h b3 (by simp)
  have w0 : IntKind.i64.wrap b0 = b0 := IntWalk.i64_in _ (by omega)
  have w1 : IntKind.i64.wrap b1 = b1 := IntWalk.i64_in _ (by omega)
  have w2 : IntKind.i64.wrap b2 = b2 := IntWalk.i64_in _ (by omega)
  have w3 : IntKind.i64.wrap b3 = b3 := IntWalk.i64_in _ (by omega)
  obtain ⟨f, hf⟩ : ∃ f : Nat → Int, f = fun i => match i with | 0 => 0 | 1 => b0 | 2 => b0 * 256 + b1 | 3 => b0 * 65536 + b1 * 256 + b2 | _ => num4 b0 b1 b2 b3 := ⟨_, rfl⟩
  have f0 : f 0 = 0 := by subst hf; rfl
  have f1 : f 1 = b0 := by subst hf; rfl
  have f2 : f 2 = b0 * 256 + b1 := by subst hf; rfl
  have f3 : f 3 = b0 * 65536 + b1 * 256 + b2 := by subst hf; rfl
  have f4 : f 4 = num4 b0 b1 b2 b3 := by subst hf; rfl
  clear hf
  refine scalls_of_k (sz := 20) (Try.call49) Try.func49 rfl (Nat.le_refl _) (by kernel_rfl) (fun R hR => ?_)
  refine scode_seq_k (fun K1 hK1 => ?_)
  refine scode_region (by kernel_rfl) ?_
  simp [go_sem]
  refine hK1 _ _ ?_
  clear hK1 K1
  refine scode_seq_k (fun K1 hK1 => ?_)
  refine scode_region (by kernel_rfl) ?_
  simp [go_sem]
  refine hK1 _ _ ?_
  clear hK1 K1
  refine scode_seq_k (fun K1 hK1 => ?_)
  refine scode_seq_k (fun K2 hK2 => ?_)
  refine scode_region (by kernel_rfl) ?_
  simp [go_sem]
  refine hK2 _ _ ?_
  clear hK2 K2
  refine scode_block ?_
  refine scode_loop (Inv := fun n env H => ∃ i : Nat, n = 4 - i ∧ i ≤ 4 ∧ env 0 = bytesA [b0, b1, b2, b3] ∧ env 3 = .sc (.int .i64 (f i)) ∧ env 4 = .sc (.int .i64 i) ∧ H = Heap.empty) ?_ (n := 4) ⟨0, rfl, by omega, by simp [go_sem], by simp [go_sem, f0], by simp [go_sem], rfl⟩
  rintro n env H ⟨i, rfl, hi, e0, e3, e4, rfl⟩
  refine scode_seq_k (fun K2 hK2 => ?_)
  refine scode_seq_k (fun K3 hK3 => ?_)
  refine scode_region (by kernel_rfl) ?_
  have hlen : ([b0, b1, b2, b3] : List Int).length = 4 := rfl
  simp [go_sem, e0, e4, bytesA, len_bytesV]
  refine hK3 _ _ ?_
  clear hK3 K3
  refine scode_if (b := decide (i < 4)) (by simp [go_sem]; omega) (fun hb => ?_) (fun hb => ?_)
  · refine scode_skip ?_
    refine hK2 _ _ ?_
    clear hK2 K2
    simp only [decide_eq_true_eq] at hb
    have hii : i = 0 ∨ i = 1 ∨ i = 2 ∨ i = 3 := by omega
    obtain ⟨b, rest, e1, g1, g2, g3⟩ : ∃ b rest, ([b0, b1, b2, b3] : List Int).drop i = b :: rest ∧ IntKind.i64.wrap b = b ∧ IntKind.i64.wrap (f i * 256) = f i * 256 ∧ Go.bits .or .i64 (f i * 256) b = f (i + 1) := by
      rcases hii with rfl | rfl | rfl | rfl
      · exact ⟨b0, _, rfl, w0, by rw [f0]; rfl, by rw [f0, f1]; rw [or_add 8 _ _ (by omega) (by omega) (by omega) (by omega) (by omega) (by omega)]; omega⟩
      · exact ⟨b1, _, rfl, w1, by rw [f1]; exact IntWalk.i64_in _ (by omega), by rw [f1, f2]; exact or_add 8 _ _ (by omega) (by omega) (by omega) (by omega) (by omega) (by omega)⟩
      · exact ⟨b2, _, rfl, w2, by rw [f2]; exact IntWalk.i64_in _ (by omega), by rw [f2, f3, or_add 8 _ _ (by omega) (by omega) (by omega) (by omega) (by omega) (by omega)]; omega⟩
      · exact ⟨b3, _, rfl, w3, by rw [f3]; exact IntWalk.i64_in _ (by omega), by rw [f3, f4, or_add 8 _ _ (by omega) (by omega) (by omega) (by omega) (by omega) (by omega), num4]; omega⟩
    have hrow : (bytesV [b0, b1, b2, b3]).drop i = .sc (.int .u8 b) :: bytesV rest := by rw [bytesV_drop, e1]; rfl
    refine scode_seq_k (fun K4 hK4 => ?_)
    refine scode_block ?_
    refine scode_region (by kernel_rfl) ?_
    have hb4 : (i : Int) < 4 := by omega
    simp [go_sem, e0, e3, e4, bytesA, len_bytesV, hb, hrow, g1, g2, g3, hb4]
    refine hK4 _ _ ?_
    refine scode_region (by kernel_rfl) ?_
    have hw : IntKind.i64.wrap ((i : Int) + 1) = ((i + 1 : Nat) : Int) := by
      rw [IntWalk.i64_in _ (by omega)]; rfl
    simp [go_sem, e0, e4, hw]
    exact ⟨4 - (i + 1), by omega, i + 1, rfl, by omega, rfl, rfl⟩
  · refine scode_exit ?_
    refine hK1 _ _ ?_
    refine scode_seq_k (fun K4 hK4 => ?_)
    refine scode_region (by kernel_rfl) ?_
    simp only [decide_eq_false_iff_not] at hb
    obtain rfl : i = 4 := by omega
    simp [go_sem, e3]
    refine hK4 _ _ ?_
    refine scode_ret ?_
    simp only [go_sem]
    refine hR _ _ ?_
    exact ret_plain (by simp [go_sem, f4]) (empty_le _) (Nat.zero_le _) (by simp [go_sem])
end Go.Proofs.Ytmnbicoeahlpcaa
