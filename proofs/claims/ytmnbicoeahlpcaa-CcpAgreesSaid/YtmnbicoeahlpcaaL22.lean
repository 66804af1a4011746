/- CcpAgrees: options: the first one of a type. -/
import Derived.Test.YtmnbicoeahlpcaaL21
import Derived.Laws.BitsLemmas
set_option maxRecDepth 20000
noncomputable section
namespace Go.Proofs.Ytmnbicoeahlpcaa
open Go Go.Fl Go.Proofs

structure Opt where
  kind : Int
  data : List Int

def Opt.cells (o : Opt) : List AV := [.sc (.int .i64 o.kind), bytesA o.data]
def optsV (l : List Opt) : List AV := l.flatMap Opt.cells
def optsA (l : List Opt) : AV := .vs l.length 2 (optsV l)
@[go_sem] theorem ocells_len (o : Opt) : o.cells.length = 2 := rfl
@[go_sem] theorem ocells_take (o : Opt) : o.cells.take 2 = o.cells := rfl
theorem ocells_lt (o : Opt) (n : Nat) : ∀ x ∈ o.cells, x.Lt n := by simp [Opt.cells, bytesA_lt, go_sem]
theorem optsV_len (l : List Opt) : (optsV l).length = l.length * 2 := by
  induction l with
  | nil => rfl
  | cons s r ih => simp only [optsV, List.flatMap_cons, List.length_append] at *; rw [ih]; simp [Opt.cells]; omega
theorem optsV_drop (l : List Opt) : ∀ i, (optsV l).drop (i * 2) = optsV (l.drop i) := by
  induction l with
  | nil => intro i; simp [optsV]
  | cons s r ih =>
    intro i
    cases i with
    | zero => simp
    | succ i =>
      have e : (i + 1) * 2 = (i * 2) + 2 := by omega
      rw [e]
      simp only [optsV, List.flatMap_cons, List.drop_succ_cons] at *
      rw [← ih i]
      simp [Opt.cells, List.drop_succ_cons]
theorem optsA_lt (l : List Opt) (n : Nat) : (optsA l).Lt n := by
  simp only [optsA, Lt_vs, optsV, List.mem_flatMap]
  rintro x ⟨s, _, hx⟩
  exact ocells_lt s n x hx

def findO : List Opt → Int → Option (List Int)
  | [], _ => none
  | o :: r, k => if o.kind = k then some o.data else findO r k
def foundA : Option (List Int) → AV
  | some d => bytesA d
  | none => .nil
theorem foundA_lt (r : Option (List Int)) (n : Nat) : (foundA r).Lt n := by
  cases r with
  | none => simp [foundA, go_sem]
  | some d => rw [foundA, bytesA_lt]; trivial
def optR (r : Option (List Int)) : AV := .tup [foundA r, .sc (.bool r.isSome)]
theorem optR_lt (r : Option (List Int)) (n : Nat) : (optR r).Lt n := by
  simp [optR, go_sem]; exact foundA_lt r n

theorem option_s (l : List Opt) (k : Int) (hlen : l.length ≤ maxLen) : SCalls Try.prog 52 [optsA l, .int k] Heap.empty (optR (findO l k)) Heap.empty := by
  refine scalls_of_k (sz := 21) (Try.call52) Try.func52 rfl (Nat.le_refl _) (by kernel_rfl) (fun R hR => ?_)
  refine scode_seq_k (fun K1 hK1 => ?_)
  refine scode_region (by kernel_rfl) ?_
  simp [go_sem]
  refine hK1 _ _ ?_
  clear hK1 K1
  refine scode_seq_k (fun K1 hK1 => ?_)
  refine scode_seq_k (fun K2 hK2 => ?_)
  refine scode_region (by kernel_rfl) ?_
  simp [go_sem, optsA]
  refine hK2 _ _ ?_
  clear hK2 K2
  refine scode_block ?_
  refine scode_loop (Inv := fun n env H => ∃ i : Nat, n = l.length - i ∧ env 1 = .int k ∧ env 8 = optsA l ∧ env 9 = .sc (.int .i64 (l.length : Int)) ∧ env 10 = .sc (.int .i64 i) ∧ findO (l.drop i) k = findO l k) ?_ (n := l.length) ⟨0, rfl, by simp [go_sem], by simp [go_sem, optsA], by simp [go_sem], by simp [go_sem], rfl⟩
  rintro n env H ⟨i, rfl, h1, h8, h9, h10, hr⟩
  refine scode_seq_k (fun K2 hK2 => ?_)
  refine scode_region (by kernel_rfl) ?_
  simp [go_sem, h9, h10]
  refine hK2 _ _ ?_
  clear hK2 K2
  refine scode_seq_k (fun K2 hK2 => ?_)
  refine scode_if (b := decide (i < l.length)) (by simp [go_sem]) (fun hb => ?_) (fun hb => ?_)
  · refine scode_skip ?_
    refine hK2 _ _ ?_
    clear hK2 K2
    simp only [decide_eq_true_eq] at hb
    obtain ⟨s, r, e1, e2, e3⟩ := drop_cons hb
    have hrow : ((optsV l).drop (i * 2)).take 2 = s.cells := by rw [optsV_drop, e1]; simp [optsV, Opt.cells]
    have hle : 2 ≤ l.length * 2 - i * 2 := by omega
    have hstep : findO l k = if s.kind = k then some s.data else findO r k := by rw [← hr, e1, findO]
    refine scode_seq_k (fun K4 hK4 => ?_)
    refine scode_block ?_
    refine scode_seq_k (fun K5 hK5 => ?_)
    refine scode_region (by kernel_rfl) ?_
    simp [go_sem, h8, h10, optsA, optsV_len, hb, hrow, hle, Opt.cells, bytesA]
    refine hK5 _ _ ?_
    clear hK5 K5
    refine scode_seq_k (fun K5 hK5 => ?_)
    refine scode_region (by kernel_rfl) ?_
    simp [go_sem, h1]
    refine hK5 _ _ ?_
    clear hK5 K5
    by_cases hkk : s.kind = k
    · rw [if_pos hkk] at hstep
      refine scode_if (b := true) (by simp [go_sem, hkk]) (fun _ => ?_) (fun h => by cases h)
      refine scode_seq_k (fun K5 hK5 => ?_)
      refine scode_region (by kernel_rfl) ?_
      simp [go_sem]
      refine hK5 _ _ ?_
      refine scode_ret ?_
      simp only [go_sem]
      refine hR _ _ ?_
      exact ret_pure (by simp [go_sem]; rfl) (by rw [hstep]; exact .same _) (empty_le _) (Nat.zero_le _) (optR_lt _ _)
    · rw [if_neg hkk] at hstep
      refine scode_if (b := false) (by simp [go_sem, hkk]) (fun h => by cases h) (fun _ => ?_)
      refine scode_skip ?_
      refine hK4 _ _ ?_
      refine scode_region (by kernel_rfl) ?_
      have hw : IntKind.i64.wrap ((i : Int) + 1) = ((i + 1 : Nat) : Int) := by
        rw [IntWalk.i64_in _ (by unfold maxLen at hlen; omega)]; rfl
      simp [go_sem, h1, h8, h9, h10, hw]
      exact ⟨l.length - (i + 1), by omega, i + 1, rfl, rfl, by rw [e2, hstep]⟩
  · refine scode_exit ?_
    refine hK1 _ _ ?_
    refine scode_seq_k (fun K4 hK4 => ?_)
    refine scode_region (by kernel_rfl) ?_
    simp [go_sem]
    refine hK4 _ _ ?_
    refine scode_ret ?_
    simp only [go_sem]
    refine hR _ _ ?_
    simp only [decide_eq_false_iff_not] at hb
    have hres : findO l k = none := by rw [← hr, List.drop_eq_nil_of_le (by omega)]; rfl
    exact ret_pure (by simp [go_sem]; rfl) (by rw [hres]; exact .same _) (empty_le _) (Nat.zero_le _) (optR_lt _ _)

theorem data_s (l : List Opt) (k : Int) (hlen : l.length ≤ maxLen) : SCalls Try.prog 48 [optsA l, .int k] Heap.empty (optR (findO l k)) Heap.empty := by
  refine scalls_of_k (sz := 25) (Try.call48) Try.func48 rfl (Nat.le_refl _) (by kernel_rfl) (fun R hR => ?_)
  refine scode_seq_k (fun K1 hK1 => ?_)
  refine scode_region (by kernel_rfl) ?_
  simp [go_sem]
  refine hK1 _ _ ?_
  clear hK1 K1
  refine scode_seq_k (fun K1 hK1 => ?_)
  refine scode_seq_k (fun K2 hK2 => ?_)
  refine scode_region (by kernel_rfl) ?_
  simp [go_sem]
  refine hK2 _ _ ?_
  clear hK2 K2
  refine scode_block ?_
  refine scode_loop (Inv := fun n env H => ∃ i : Nat, n = l.length - i ∧ env 0 = optsA l ∧ env 1 = .int k ∧ env 6 = .sc (.int .i64 i) ∧ findO (l.drop i) k = findO l k) ?_ (n := l.length) ⟨0, rfl, by simp [go_sem], by simp [go_sem], by simp [go_sem], rfl⟩
  rintro n env H ⟨i, rfl, h0, h1, h6, hr⟩
  refine scode_seq_k (fun K2 hK2 => ?_)
  refine scode_seq_k (fun K3 hK3 => ?_)
  refine scode_region (by kernel_rfl) ?_
  simp [go_sem, h0, h6, optsA]
  refine hK3 _ _ ?_
  clear hK3 K3
  refine scode_if (b := decide (i < l.length)) (by simp [go_sem]) (fun hb => ?_) (fun hb => ?_)
  · refine scode_skip ?_
    refine hK2 _ _ ?_
    clear hK2 K2
    simp only [decide_eq_true_eq] at hb
    obtain ⟨s, r, e1, e2, e3⟩ := drop_cons hb
    have hrow : (optsV l).drop (i * 2) = s.cells ++ optsV r := by rw [optsV_drop, e1]; simp [optsV]
    have hle : 2 ≤ l.length * 2 - i * 2 := by omega
    have hstep : findO l k = if s.kind = k then some s.data else findO r k := by rw [← hr, e1, findO]
    refine scode_seq_k (fun K4 hK4 => ?_)
    refine scode_block ?_
    refine scode_seq_k (fun K5 hK5 => ?_)
    refine scode_region (by kernel_rfl) ?_
    simp [go_sem, h0, h1, h6, optsA, optsV_len, hb, hrow, hle, Opt.cells, bytesA]
    refine hK5 _ _ ?_
    clear hK5 K5
    by_cases hkk : s.kind = k
    · rw [if_pos hkk] at hstep
      refine scode_if (b := true) (by simp [go_sem, hkk]) (fun _ => ?_) (fun h => by cases h)
      refine scode_seq_k (fun K5 hK5 => ?_)
      refine scode_region (by kernel_rfl) ?_
      simp [go_sem, h0, h6, optsA, optsV_len, hb, hrow, hle, Opt.cells, bytesA]
      refine hK5 _ _ ?_
      refine scode_ret ?_
      simp only [go_sem]
      refine hR _ _ ?_
      exact ret_pure (by simp [go_sem]; rfl) (by rw [hstep]; exact .same _) (empty_le _) (Nat.zero_le _) (optR_lt _ _)
    · rw [if_neg hkk] at hstep
      refine scode_if (b := false) (by simp [go_sem, hkk]) (fun h => by cases h) (fun _ => ?_)
      refine scode_skip ?_
      refine hK4 _ _ ?_
      refine scode_region (by kernel_rfl) ?_
      have hw : IntKind.i64.wrap ((i : Int) + 1) = ((i + 1 : Nat) : Int) := by
        rw [IntWalk.i64_in _ (by unfold maxLen at hlen; omega)]; rfl
      simp [go_sem, h0, h1, h6, hw, optsA]
      exact ⟨l.length - (i + 1), by omega, i + 1, rfl, rfl, by rw [e2, hstep]⟩
  · refine scode_exit ?_
    refine hK1 _ _ ?_
    refine scode_seq_k (fun K4 hK4 => ?_)
    refine scode_region (by kernel_rfl) ?_
    simp [go_sem]
    refine hK4 _ _ ?_
    refine scode_ret ?_
    simp only [go_sem]
    refine hR _ _ ?_
    simp only [decide_eq_false_iff_not] at hb
    have hres : findO l k = none := by rw [← hr, List.drop_eq_nil_of_le (by omega)]; rfl
    exact ret_pure (by simp [go_sem]; rfl) (by rw [hres]; exact .same _) (empty_le _) (Nat.zero_le _) (optR_lt _ _)
end Go.Proofs.Ytmnbicoeahlpcaa
