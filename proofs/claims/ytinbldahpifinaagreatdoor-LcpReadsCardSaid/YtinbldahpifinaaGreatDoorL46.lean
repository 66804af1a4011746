/- LcpReads: the walk, of contracts. -/
import Derived.Test.YtinbldahpifinaaGreatDoorL43
import Derived.Laws.BitsLemmas
set_option maxRecDepth 20000
noncomputable section
namespace Go.Proofs.YtinbldahpifinaaGreatDoor
open Go Go.Fl Go.Proofs

@[go_sem] theorem srun_bneq (a b : Bool) : srun Tryz.prog (binOp .neq 4 (.bool a) (.bool b)) = some (.bool (a != b)) := by
  cases a <;> cases b <;> kernel_rfl

theorem word_lt : ∀ n : Int, 0 ≤ n → n < 2 ^ 40 → IntKind.i64.wrap n = n := fun n h0 h1 => IntWalk.i64_in _ (by omega)
theorem nR_eq (x b : Int) (hx : 0 ≤ x) (hx1 : x < 16777216) (hb : 0 ≤ b) (hb1 : b < 256) : nR x b = x * 256 + b := by
  unfold nR
  rw [word_lt (x * 256) (by omega) (by omega), word_lt b hb (by omega)]
  exact bits_join .i64 40 (by decide) word_lt 8 _ _ (by omega) (by omega) (by omega) hb (by omega) (by omega)

theorem mR_eq (m : Int) (h0 : 0 ≤ m) (h1 : m ≤ 4294967295) : mR m = m := by
  have w8 : ∀ n : Int, IntKind.u8.wrap n = n % 256 := IntKind.wrap_u8
  unfold mR nR4
  rw [wrapK_eq, w8, w8, w8, w8]
  rw [nR_eq 0 _ (by omega) (by omega) (by omega) (by omega)]
  rw [nR_eq (0 * 256 + m / 16777216 % 256) _ (by omega) (by omega) (by omega) (by omega)]
  rw [nR_eq ((0 * 256 + m / 16777216 % 256) * 256 + m / 65536 % 256) _ (by omega) (by omega) (by omega) (by omega)]
  rw [nR_eq (((0 * 256 + m / 16777216 % 256) * 256 + m / 65536 % 256) * 256 + m / 256 % 256) _ (by omega) (by omega) (by omega) (by omega)]
  have e : (((0 * 256 + m / 16777216 % 256) * 256 + m / 65536 % 256) * 256 + m / 256 % 256) * 256 + m % 256 = m := by omega
  rw [e]
  rw [IntKind.wrap_u32]
  omega

theorem cells_leaf (c : Cf) : ∀ x, x ∈ c.cells → x.leaf = true := by
  intro x hx
  simp only [Cf.cells, List.mem_cons, List.mem_nil_iff, or_false] at hx
  rcases hx with rfl | rfl | rfl | rfl | rfl | rfl | rfl | rfl | rfl | rfl | rfl | rfl | rfl | rfl | rfl | rfl | rfl | rfl <;> rfl

set_option maxHeartbeats 8000000 in
theorem reads_aux (n m : Int) (c : Cf) (L : List Opt) (r : AV) (hshort : c.short = true → 0 < c.mrru) (hlen : L.length ≤ 1000) (hdat : ∀ o ∈ L, o.data.length ≤ maxLen) (hrl : r.Lt 0)
    (hawake : SCalls Tryz.prog 4 [] Heap.empty (.bool true) Heap.empty)
    (hmade : SCalls Tryz.prog 5 [.int n, .int 3] Heap.empty (.agg c.cells) Heap.empty)
    (h6 : SCalls Tryz.prog 6 [.agg c.cells, .sc (.int .u32 m)] Heap.empty (optsA L) Heap.empty)
    (h7 : SCalls Tryz.prog 7 [optsA L] Heap.empty (.agg [.int c.mru, .int c.mrru, .sc (.int .u32 c.accm), .sc (.bool c.server), .sc (.bool c.pfc), .sc (.bool c.acfc), .sc (.bool c.short), .sc (.int .u32 m)]) Heap.empty)
    (h8 : SCalls Tryz.prog 8 [.agg (Cf.cells { c with server := false })] Heap.empty r Heap.empty)
    (h9 : SCalls Tryz.prog 9 [r, optsA L, .sc (.bool false)] Heap.empty (judgeV c.server L) Heap.empty) :
    SCalls Tryz.prog 3 [.int n, .sc (.int .u32 m)] Heap.empty (.bool true) Heap.empty := by
  have ha6 : ∀ x ∈ [AV.agg c.cells, .sc (.int .u32 m)], x.Lt 0 := by
    intro x hx
    simp only [List.mem_cons, List.mem_nil_iff, or_false] at hx
    rcases hx with rfl | rfl
    · exact Cf.lt c 0
    · exact .sc _
  have ha8 : ∀ x ∈ [AV.agg (Cf.cells { c with server := false })], x.Lt 0 := by
    intro x hx
    simp only [List.mem_cons, List.mem_nil_iff, or_false] at hx
    rw [hx]
    exact Cf.lt _ 0
  have h6 := fun H => scalls_frame h6 ha6 (optsA_lt _ _) H
  have h7 := fun H => scalls_frame h7 (by simp; exact optsA_lt _ _) (by simp [go_sem]) H
  have h8 := fun H => scalls_frame h8 ha8 hrl H
  have hj : (judgeV c.server L).Lt 0 := by
    cases c.server
    · simp only [judgeV, cond_false, Lt_tup]
      simp [go_sem]; exact optsA_lt _ _
    · simp only [judgeV, cond_true, Lt_tup]
      simp [go_sem]; exact optsA_lt _ _
  have h9 := fun H => scalls_frame h9 (by simp [go_sem]; exact ⟨hrl, optsA_lt _ _⟩) hj H
  have hcl : c.cells.length = 18 := rfl
  have hct : c.cells.take 18 = c.cells := rfl
  have hleaf := cells_leaf c
  simp only [AV.leaf] at hleaf
  refine scalls_of_k (sz := 125) (Tryz.call3) Tryz.func3 rfl (Nat.le_refl _) (by kernel_rfl) (fun R hR => ?_)
  have fin : ∀ (env : Env) (H : Heap), env 4 = .sc (.bool true) → R env H := by
    intro env H h
    refine hR _ _ ?_
    exact ret_plain (by simp [go_sem, h]) (empty_le _) (Nat.zero_le _) (by simp [go_sem])
  refine scode_seq_k (fun K1 hK1 => ?_)
  refine scode_region (by kernel_rfl) ?_
  simp [go_sem]
  refine hK1 _ _ ?_
  clear hK1 K1
  refine scode_seq_k (fun K1 hK1 => ?_)
  refine scode_seq_k (fun K2 hK2 => ?_)
  refine scode_region (by kernel_rfl) ?_
  simp [go_sem]
  refine ⟨_, _, hawake, ?_⟩
  simp [go_sem]
  refine hK2 _ _ ?_
  refine scode_if (b := false) (by simp [go_sem]) (fun h => by cases h) (fun _ => ?_)
  refine scode_skip ?_
  refine hK1 _ _ ?_
  clear hK1 hK2 K1 K2
  refine scode_seq_k (fun K1 hK1 => ?_)
  refine scode_region (by kernel_rfl) ?_
  refine w_take 2 (fun K6 hK6 => ?_)
  simp [go_sem]
  refine ⟨_, _, hmade, ?_⟩
  refine hK6 _ _ ?_
  clear hK6 K6
  simp [go_sem, hcl, hct, eq_true hleaf]
  refine hK1 _ _ ?_
  clear hK1 K1
  refine scode_gen (fun env H => env 1 = .sc (.int .u32 m) ∧ env 5 = .ptr 0 0 ∧ H.next = 1 ∧ H.get 0 = some c.cells) ?_ ?_
  · exact ⟨by simp [go_sem], by simp [go_sem], by simp [go_sem], by simp [go_sem]⟩
  rintro env H ⟨e1, e5, hn, g0⟩
  refine scode_seq_k (fun K1 hK1 => ?_)
  refine scode_region (by kernel_rfl) ?_
  simp [go_sem, e1, e5, g0, hcl, hct]
  refine ⟨_, _, h6 _, ?_⟩
  refine hK1 _ _ ?_
  clear hK1 K1
  refine scode_seq_k (fun K1 hK1 => ?_)
  refine scode_region (by kernel_rfl) ?_
  refine w_take 2 (fun K6 hK6 => ?_)
  simp [go_sem]
  refine ⟨_, _, h7 _, ?_⟩
  refine hK6 _ _ ?_
  clear hK6 K6
  simp [go_sem]
  refine hK1 _ _ ?_
  clear hK1 K1
  refine scode_gen (fun env H => env 1 = .sc (.int .u32 m) ∧ env 5 = .ptr 0 0 ∧ env 6 = optsA L ∧ env 7 = .ptr 1 0 ∧ H.get 0 = some c.cells ∧ H.get 1 = some [.int c.mru, .int c.mrru, .sc (.int .u32 c.accm), .sc (.bool c.server), .sc (.bool c.pfc), .sc (.bool c.acfc), .sc (.bool c.short), .sc (.int .u32 m)]) ?_ ?_
  · exact ⟨by simp [go_sem, e1], by simp [go_sem, e5], by simp [go_sem], by simp [go_sem, hn], by simp [go_sem, hn, g0], by simp [go_sem, hn]⟩
  clear e1 e5 hn g0 env H
  rintro env H ⟨e1, e5, e6, e7, g0, g1⟩
  refine scode_seq_k (fun K1 hK1 => ?_)
  have hshort8 : ∀ env : Env, env 1 = .sc (.int .u32 m) → env 5 = .ptr 0 0 → env 6 = optsA L → env 7 = .ptr 1 0 → env 8 = .sc (.bool c.short) → K1 env H := by
    clear e1 e5 e6 e7 env
    intro env e1 e5 e6 e7 e8
    refine hK1 _ _ ?_
    clear hK1 K1
    refine scode_seq_k (fun K1 hK1 => ?_)
    refine scode_seq_k (fun K2 hK2 => ?_)
    refine scode_region (by kernel_rfl) ?_
    obtain ⟨cs, hcs⟩ : ∃ cs, c.cells = cs := ⟨_, rfl⟩
    have q0 : cs[0]? = some (.sc (.bool c.server)) := by rw [← hcs]; rfl
    simp only [Cf.cells] at g0
    refine w_take 6 (fun K6 hK6 => ?_)
    simp [go_sem, e1, e5, e7, e8, g0, g1]
    refine hK6 _ _ ?_
    clear hK6 K6
    refine w_take 7 (fun K6 hK6 => ?_)
    simp [go_sem, e1, e5, e7, e8, g0, g1]
    refine hK6 _ _ ?_
    clear hK6 K6
    refine w_take 7 (fun K6 hK6 => ?_)
    simp [go_sem, e1, e5, e7, e8, g0, g1]
    refine hK6 _ _ ?_
    clear hK6 K6
    refine w_take 6 (fun K6 hK6 => ?_)
    simp [go_sem, e1, e5, e7, e8, g0, g1]
    refine hK6 _ _ ?_
    clear hK6 K6
    refine w_take 7 (fun K6 hK6 => ?_)
    simp [go_sem, e1, e5, e7, e8, g0, g1]
    refine hK6 _ _ ?_
    clear hK6 K6
    refine w_take 7 (fun K6 hK6 => ?_)
    simp [go_sem, e1, e5, e7, e8, g0, g1]
    refine hK6 _ _ ?_
    clear hK6 K6
    refine w_take 7 (fun K6 hK6 => ?_)
    simp [go_sem, e1, e5, e7, e8, g0, g1]
    refine hK6 _ _ ?_
    clear hK6 K6
    simp [go_sem, e1, e5, e7, e8, g0, g1]
    refine hK2 _ _ ?_
    clear hK2 K2
    refine scode_if (b := false) (by simp [go_sem]) (fun h => by cases h) (fun _ => ?_)
    refine scode_skip ?_
    refine hK1 _ _ ?_
    clear hK1 K1
    refine scode_gen (fun env H => env 5 = .ptr 0 0 ∧ env 6 = optsA L ∧ H.get 0 = some c.cells) ?_ ?_
    · exact ⟨by simp [go_sem, e5], by simp [go_sem, e6], g0⟩
    clear e1 e5 e6 e7 e8 g0 g1 hcs q0 cs env H
    rintro env H ⟨e5, e6, g0⟩
    have hn0 := Heap.lt_of_get g0
    have hne : H.next ≠ 0 := by omega
    have hne' : 0 ≠ H.next := by omega
    refine scode_seq_k (fun K1 hK1 => ?_)
    refine scode_region (by kernel_rfl) ?_
    simp [go_sem, e5, g0, hcl, hct, eq_true hleaf]
    refine hK1 _ _ ?_
    clear hK1 K1
    refine scode_gen (fun env H => env 5 = .ptr 0 0 ∧ env 6 = optsA L ∧ ∃ b, b ≠ 0 ∧ env 9 = .ptr b 0 ∧ H.get 0 = some c.cells ∧ H.get b = some c.cells) ?_ ?_
    · exact ⟨by simp [go_sem, e5], by simp [go_sem, e6], H.next, hne, by simp [go_sem], by simp [go_sem, g0, hne, hne'], by simp [go_sem, hne, hne']⟩
    clear e5 e6 g0 hn0 hne hne' env H
    rintro env H ⟨e5, e6, b, hb0, e9, g0, gb⟩
    have hb0' : 0 ≠ b := fun h => hb0 h.symm
    refine scode_seq_k (fun K1 hK1 => ?_)
    refine scode_region (by kernel_rfl) ?_
    simp only [Cf.cells] at gb
    simp [go_sem, e9, gb]
    refine hK1 _ _ ?_
    clear hK1 K1
    refine scode_gen (fun env H => env 5 = .ptr 0 0 ∧ env 6 = optsA L ∧ env 9 = .ptr b 0 ∧ H.get 0 = some c.cells ∧ H.get b = some (Cf.cells { c with server := false })) ?_ ?_
    · exact ⟨by simp [go_sem, e5], by simp [go_sem, e6], by simp [go_sem, e9], by simp [go_sem, g0, hb0, hb0'], by simp [go_sem, Cf.cells, gb]⟩
    clear e5 e6 e9 g0 gb env H
    rintro env H ⟨e5, e6, e9, g0, gb⟩
    have hcl2 : (Cf.cells { c with server := false }).length = 18 := rfl
    have hct2 : (Cf.cells { c with server := false }).take 18 = Cf.cells { c with server := false } := rfl
    obtain ⟨cs2, hcs2⟩ : ∃ cs, Cf.cells { c with server := false } = cs := ⟨_, rfl⟩
    rw [hcs2] at gb hcl2 hct2 h8
    refine scode_seq_k (fun K1 hK1 => ?_)
    refine scode_region (by kernel_rfl) ?_
    simp [go_sem, e9, gb, hcl2, hct2]
    refine ⟨_, _, h8 _, ?_⟩
    refine hK1 _ _ ?_
    clear hK1 K1
    refine scode_seq_k (fun K1 hK1 => ?_)
    refine scode_region (by kernel_rfl) ?_
    refine w_take 3 (fun K6 hK6 => ?_)
    simp [go_sem, e6]
    refine ⟨_, _, h9 _, ?_⟩
    refine hK6 _ _ ?_
    clear hK6 K6
    cases hsv : c.server with
    | true =>
      have hjv : judgeV true L = .tup [.int 2, optsA L] := rfl
      rw [hjv]
      simp [go_sem]
      refine hK1 _ _ ?_
      clear hK1 K1
      refine scode_seq_k (fun K1 hK1 => ?_)
      refine scode_region (by kernel_rfl) ?_
      simp only [Cf.cells, hsv] at g0
      simp [go_sem, e5, g0]
      refine hK1 _ _ ?_
      clear hK1 K1
      have hsame := fun H => scalls_frame (sameO_refl L (by omega) hdat) (by simp; exact optsA_lt _ _) (by simp [go_sem]) H
      refine scode_seq_k (fun K1 hK1 => ?_)
      refine scode_region (by kernel_rfl) ?_
      refine w_take 10 (fun K6 hK6 => ?_)
      simp [go_sem, e6]
      refine ⟨_, _, hsame _, ?_⟩
      refine hK6 _ _ ?_
      clear hK6 K6
      refine w_take 10 (fun K6 hK6 => ?_)
      simp [go_sem]
      refine hK6 _ _ ?_
      clear hK6 K6
      simp [go_sem]
      refine hK1 _ _ ?_
      refine scode_ret ?_
      simp only [go_sem]
      exact fin _ _ (by simp [go_sem])
    | false =>
      have hjv : judgeV false L = .tup [.int 3, optsA [⟨3, [194, 35, 129]⟩]] := rfl
      rw [hjv]
      simp [go_sem]
      refine hK1 _ _ ?_
      clear hK1 K1
      refine scode_seq_k (fun K1 hK1 => ?_)
      refine scode_region (by kernel_rfl) ?_
      simp only [Cf.cells, hsv] at g0
      simp [go_sem, e5, g0]
      refine hK1 _ _ ?_
      clear hK1 K1
      refine scode_seq_k (fun K1 hK1 => ?_)
      refine scode_region (by kernel_rfl) ?_
      refine w_take 11 (fun K6 hK6 => ?_)
      simp [go_sem, e6]
      refine hK6 _ _ ?_
      clear hK6 K6
      refine w_take 10 (fun K6 hK6 => ?_)
      simp [go_sem, optsA, optsV, Opt.cells]
      refine hK6 _ _ ?_
      clear hK6 K6
      simp [go_sem, optsA, optsV, Opt.cells]
      refine hK1 _ _ ?_
      refine scode_ret ?_
      simp only [go_sem]
      exact fin _ _ (by simp [go_sem])
  refine scode_region (by kernel_rfl) ?_
  simp only [Cf.cells] at g0
  cases hsh : c.short with
  | false =>
    rw [hsh] at g0
    simp [go_sem, e5, g0]
    exact hshort8 _ (by simp [go_sem, e1]) (by simp [go_sem, e5]) (by simp [go_sem, e6]) (by simp [go_sem, e7]) (by simp [go_sem, hsh])
  | true =>
    have hp : (0 < c.mrru) = True := eq_true (hshort hsh)
    rw [hsh] at g0
    simp [go_sem, e5, g0, hp]
    exact hshort8 _ (by simp [go_sem, e1]) (by simp [go_sem, e5]) (by simp [go_sem, e6]) (by simp [go_sem, e7]) (by simp [go_sem, hsh])
end Go.Proofs.YtinbldahpifinaaGreatDoor
