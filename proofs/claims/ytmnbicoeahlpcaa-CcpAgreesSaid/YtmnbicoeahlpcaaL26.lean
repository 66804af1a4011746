/- CcpAgrees. -/
import Derived.Test.YtmnbicoeahlpcaaL25
set_option maxRecDepth 20000
noncomputable section
namespace Go.Proofs.Ytmnbicoeahlpcaa
open Go Go.Fl Go.Proofs

@[go_sem] theorem srun_beql (a b : Bool) : srun Try.prog (binOp .eql 4 (.bool a) (.bool b)) = some (.bool (a == b)) := by
  cases a <;> cases b <;> kernel_rfl
@[go_sem] theorem srun_bneq (a b : Bool) : srun Try.prog (binOp .neq 4 (.bool a) (.bool b)) = some (.bool (a != b)) := by
  cases a <;> cases b <;> kernel_rfl

theorem agreed_s (i : Int) (p q r : Bool) : SCalls Try.prog 32 [.agg [.int i, .sc (.bool p), .sc (.bool q), .sc (.bool r)], .agg [.int i, .sc (.bool p), .sc (.bool q), .sc (.bool r)]] Heap.empty (.bool true) Heap.empty := by
  have beqq : ∀ b : Bool, (b == b) = true := by decide
  refine scalls_of_k (sz := 31) (Try.call32) Try.func32 rfl (Nat.le_refl _) (by kernel_rfl) (fun R hR => ?_)
  refine scode_seq_k (fun K1 hK1 => ?_)
  refine scode_region (by kernel_rfl) ?_
  simp [go_sem]
  refine hK1 _ _ ?_
  clear hK1 K1
  refine scode_seq_k (fun K1 hK1 => ?_)
  refine scode_region (by kernel_rfl) ?_
  refine w_take 12 (fun K6 hK6 => ?_)
  simp [go_sem]
  refine hK6 _ _ ?_
  clear hK6 K6
  simp [go_sem]
  refine hK1 _ _ ?_
  clear hK1 K1
  refine scode_ret ?_
  simp only [go_sem]
  refine hR _ _ ?_
  exact ret_plain (by simp [go_sem]) (empty_le _) (Nat.zero_le _) (by simp [go_sem])

theorem agreed_H (l1 l2 : List Opt) (H : Heap) : SCalls Try.prog 32 [.agg (agrV l1 l2), .agg (agrV l1 l2)] H (.bool true) H := by
  obtain ⟨i, p, q, r, h⟩ := agrV_shape l1 l2
  rw [h]
  exact scalls_frame (agreed_s i p q r) (by simp [go_sem]) (by simp [go_sem]) H

theorem agr_lt (l1 l2 : List Opt) (n : Nat) : (AV.agg (agrV l1 l2)).Lt n := by
  obtain ⟨i, p, q, r, h⟩ := agrV_shape l1 l2
  rw [h]; simp [go_sem]
theorem agree_H (l1 l2 : List Opt) (h1 : goodO l1) (h2 : goodO l2) (H : Heap) : SCalls Try.prog 33 [optsA l1, optsA l2] H (.agg (agrV l1 l2)) H :=
  scalls_frame (agree_s l1 l2 h1 h2) (by simp; exact ⟨optsA_lt _ _, optsA_lt _ _⟩) (agr_lt _ _ _) H
theorem refAgree_H (l1 l2 : List Opt) (h1 : goodO l1) (h2 : goodO l2) (H : Heap) : SCalls Try.prog 34 [optsA l1, optsA l2] H (.agg (agrV l1 l2)) H :=
  scalls_frame (refAgree_s l1 l2 h1 h2) (by simp; exact ⟨optsA_lt _ _, optsA_lt _ _⟩) (agr_lt _ _ _) H

def smallO (l : List Opt) : Bool := decide (l.length ≤ 60) && l.all fun s => decide (s.data.length ≤ 300)

theorem smallO_s (l : List Opt) : SCalls Try.prog 22 [optsA l] Heap.empty (.bool (smallO l)) Heap.empty := by
  refine scalls_of_k (sz := 20) (Try.call22) Try.func22 rfl (Nat.le_refl _) (by kernel_rfl) (fun R hR => ?_)
  refine scode_seq_k (fun K1 hK1 => ?_)
  refine scode_region (by kernel_rfl) ?_
  simp [go_sem]
  refine hK1 _ _ ?_
  clear hK1 K1
  refine scode_seq_k (fun K1 hK1 => ?_)
  refine scode_seq_k (fun K2 hK2 => ?_)
  refine scode_region (by kernel_rfl) ?_
  simp [go_sem, optsA]
  refine hK2 _ _ ?_
  clear hK2 K2
  obtain ⟨q, hq⟩ : ∃ q, decide ((60 : Int) < (l.length : Int)) = q := ⟨_, rfl⟩
  refine scode_if (b := q) (by simp only [go_sem, hq]) (fun hb => ?_) (fun hb => ?_)
  · refine scode_seq_k (fun K2 hK2 => ?_)
    refine scode_region (by kernel_rfl) ?_
    simp [go_sem]
    refine hK2 _ _ ?_
    refine scode_ret ?_
    simp only [go_sem]
    refine hR _ _ ?_
    have hres : smallO l = false := by
      rw [hb, decide_eq_true_eq] at hq
      rw [smallO, decide_eq_false (by omega), Bool.false_and]
    refine ret_plain (by simp [go_sem, hres]) (Heap.le_refl _) (by simp [go_sem]) (by simp [go_sem])
  · have hl : l.length ≤ 60 := by
      rw [hb, decide_eq_false_iff_not] at hq
      omega
    have hsm : smallO l = (l.drop 0).all fun s => decide (s.data.length ≤ 300) := by rw [smallO, decide_eq_true hl, Bool.true_and, List.drop_zero]
    refine scode_skip ?_
    refine hK1 _ _ ?_
    clear hK1 K1
    refine scode_seq_k (fun K1 hK1 => ?_)
    refine scode_seq_k (fun K2 hK2 => ?_)
    refine scode_region (by kernel_rfl) ?_
    simp [go_sem]
    refine hK2 _ _ ?_
    clear hK2 K2
    refine scode_block ?_
    refine scode_loop (Inv := fun n env H => ∃ i : Nat, n = l.length - i ∧ env 0 = optsA l ∧ env 3 = .sc (.int .i64 i) ∧ H = Heap.empty ∧ smallO l = (l.drop i).all fun s => decide (s.data.length ≤ 300)) ?_ (n := l.length) ⟨0, rfl, by simp [go_sem, optsA], by simp [go_sem], rfl, hsm⟩
    rintro n env H ⟨i, rfl, h0, h3, rfl, hr⟩
    refine scode_seq_k (fun K2 hK2 => ?_)
    refine scode_seq_k (fun K3 hK3 => ?_)
    refine scode_region (by kernel_rfl) ?_
    simp [go_sem, h0, h3, optsA]
    refine hK3 _ _ ?_
    clear hK3 K3
    refine scode_if (b := decide (i < l.length)) (by simp [go_sem]) (fun hb => ?_) (fun hb => ?_)
    · refine scode_skip ?_
      refine hK2 _ _ ?_
      clear hK2 K2
      simp only [decide_eq_true_eq] at hb
      obtain ⟨s, r, e1, e2, e3⟩ := drop_cons hb
      have hrow : (optsV l).drop (i * 2) = s.cells ++ optsV r := by rw [optsV_drop, e1]; simp [optsV]
      have hle : 2 ≤ l.length * 2 - i * 2 := by omega
      refine scode_seq_k (fun K4 hK4 => ?_)
      refine scode_block ?_
      refine scode_seq_k (fun K5 hK5 => ?_)
      refine scode_region (by kernel_rfl) ?_
      simp [go_sem, h0, h3, optsA, optsV_len, hb, hrow, hle, Opt.cells, bytesA]
      refine hK5 _ _ ?_
      clear hK5 K5
      obtain ⟨p, hp⟩ : ∃ p, decide ((300 : Int) < (s.data.length : Int)) = p := ⟨_, rfl⟩
      refine scode_if (b := p) (by simp only [go_sem, hp]) (fun hq' => ?_) (fun hq' => ?_)
      · refine scode_seq_k (fun K5 hK5 => ?_)
        refine scode_region (by kernel_rfl) ?_
        simp [go_sem]
        refine hK5 _ _ ?_
        refine scode_ret ?_
        simp only [go_sem]
        refine hR _ _ ?_
        have hres : smallO l = false := by
          rw [hq', decide_eq_true_eq] at hp
          rw [hr, e1, List.all_cons, decide_eq_false (by omega), Bool.false_and]
        refine ret_plain (by simp [go_sem, hres]) (Heap.le_refl _) (by simp [go_sem]) (by simp [go_sem])
      · refine scode_skip ?_
        refine hK4 _ _ ?_
        refine scode_region (by kernel_rfl) ?_
        have hw : IntKind.i64.wrap ((i : Int) + 1) = ((i + 1 : Nat) : Int) := by
          rw [IntWalk.i64_in _ (by omega)]; rfl
        simp [go_sem, h0, h3, hw, optsA]
        refine ⟨l.length - (i + 1), by omega, i + 1, rfl, rfl, ?_⟩
        rw [hq', decide_eq_false_iff_not] at hp
        rw [e2, hr, e1, List.all_cons, decide_eq_true (by omega), Bool.true_and]
    · refine scode_exit ?_
      refine hK1 _ _ ?_
      refine scode_seq_k (fun K4 hK4 => ?_)
      refine scode_region (by kernel_rfl) ?_
      simp [go_sem]
      refine hK4 _ _ ?_
      refine scode_ret ?_
      simp only [go_sem]
      refine hR _ _ ?_
      simp only [decide_eq_false_iff_not] at hb
      have hres : smallO l = true := by
        rw [hr, List.drop_eq_nil_of_le (by omega)]; rfl
      refine ret_plain (by simp [go_sem, hres]) (Heap.le_refl _) (by simp [go_sem]) (by simp [go_sem])
end Go.Proofs.Ytmnbicoeahlpcaa
