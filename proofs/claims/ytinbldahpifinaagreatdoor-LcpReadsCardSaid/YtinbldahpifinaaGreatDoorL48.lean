/- Contracts: find and has of the document's negotiation, over rows whose first cell is a number. -/
import Derived.Test.YtinbldahpifinaaGreatDoorL42
import Derived.Test.YtinbldahpifinaaGreatDoorFl38
set_option maxRecDepth 20000
noncomputable section
namespace Go.Proofs.YtinbldahpifinaaGreatDoor
open Go Go.Fl Go.Proofs

abbrev Krow := Int × List AV
def Krow.cells (p : Krow) : List AV := .sc (.int .i64 p.1) :: p.2
def keyV (rows : List Krow) : List AV := rows.flatMap Krow.cells

theorem keyV_len {w : Nat} : ∀ (rows : List Krow), (∀ p ∈ rows, p.2.length = w) → (keyV rows).length = rows.length * (w + 1)
  | [], _ => by simp [keyV]
  | p :: r, h => by
    have := keyV_len r fun q hq => h q (List.mem_cons_of_mem _ hq)
    simp only [keyV, List.flatMap_cons, List.length_append] at *
    rw [this]
    simp only [Krow.cells, List.length_cons, h p List.mem_cons_self, Nat.succ_mul]
    omega
theorem keyV_drop {w : Nat} : ∀ (rows : List Krow), (∀ p ∈ rows, p.2.length = w) → ∀ i, (keyV rows).drop (i * (w + 1)) = keyV (rows.drop i)
  | [], _, i => by simp [keyV]
  | p :: r, h, 0 => by simp
  | p :: r, h, i + 1 => by
    have := keyV_drop r (fun q hq => h q (List.mem_cons_of_mem _ hq)) i
    have hp := h p List.mem_cons_self
    have e : (i + 1) * (w + 1) = p.cells.length + i * (w + 1) := by simp only [Krow.cells, List.length_cons, hp, Nat.succ_mul]; omega
    rw [e, List.drop_succ_cons, ← this, ← List.drop_drop]
    simp only [keyV, List.flatMap_cons]
    rw [List.drop_left]

def anyK : List Krow → Int → Bool
  | [], _ => false
  | p :: r, t => if p.1 = t then true else anyK r t

theorem has_s (rows : List Krow) (n : Nat) (t : Int) (hw : ∀ p ∈ rows, p.2.length = 1) (hn : n ≤ rows.length) (hl : rows.length ≤ 1048576) :
    SCalls Tryz.prog 22 [.vs rows.length 2 (keyV rows), .int n, .int t] Heap.empty (.bool (anyK (rows.take n) t)) Heap.empty := by
  have hkl := keyV_len rows hw
  refine scalls_of_k (sz := 20) (Tryz.call22) Tryz.func22 rfl (Nat.le_refl _) (by kernel_rfl) (fun R hR => ?_)
  refine scode_seq_k (fun K1 hK1 => ?_)
  refine scode_region (by kernel_rfl) ?_
  simp [go_sem]
  refine hK1 _ _ ?_
  clear hK1 K1
  refine scode_seq_k (fun K1 hK1 => ?_)
  refine scode_seq_k (fun K2 hK2 => ?_)
  refine scode_region (by kernel_rfl) ?_
  simp [go_sem]
  refine hK2 _ _ ?_
  clear hK2 K2
  refine scode_block ?_
  refine scode_loop (Inv := fun k env H => ∃ i : Nat, k = n - i ∧ env 0 = .vs rows.length 2 (keyV rows) ∧ env 1 = .int n ∧ env 2 = .int t ∧ env 7 = .sc (.int .i64 i) ∧ H = Heap.empty ∧ anyK ((rows.take n).drop i) t = anyK (rows.take n) t) ?_ (n := n) ⟨0, rfl, by simp [go_sem], by simp [go_sem], by simp [go_sem], by simp [go_sem], rfl, rfl⟩
  rintro k env H ⟨i, rfl, h0, h1, h2, h7, rfl, hr⟩
  refine scode_seq_k (fun K2 hK2 => ?_)
  refine scode_seq_k (fun K3 hK3 => ?_)
  refine scode_region (by kernel_rfl) ?_
  simp [go_sem, h1, h7]
  refine hK3 _ _ ?_
  clear hK3 K3
  refine scode_if (b := decide (i < n)) (by simp [go_sem]) (fun hb => ?_) (fun hb => ?_)
  · refine scode_skip ?_
    refine hK2 _ _ ?_
    clear hK2 K2
    simp only [decide_eq_true_eq] at hb
    have hb2 : i < rows.length := by omega
    obtain ⟨p, r, e1, e2, e3⟩ := drop_cons (l := rows.take n) (i := i) (by rw [List.length_take]; omega)
    obtain ⟨p', r', f1, f2, f3⟩ := drop_cons hb2
    have hpp : p = p' := by
      rw [List.getElem?_take_of_lt hb, f3] at e3
      cases e3; rfl
    subst hpp
    obtain ⟨d, hd⟩ : ∃ d, p.2 = [d] := List.length_eq_one_iff.1 (hw p (List.mem_of_getElem? f3))
    have hrow : (keyV rows).drop (i * 2) = .sc (.int .i64 p.1) :: d :: keyV r' := by
      have := keyV_drop rows hw i
      rw [this, f1]
      simp [keyV, Krow.cells, hd]
    have hle : 2 ≤ rows.length * 2 - i * 2 := by omega
    have hkl2 : (keyV rows).length = rows.length * 2 := hkl
    refine scode_seq_k (fun K4 hK4 => ?_)
    refine scode_block ?_
    refine scode_seq_k (fun K5 hK5 => ?_)
    refine scode_region (by kernel_rfl) ?_
    simp [go_sem, h0, h2, h7, hkl2, hb2, hrow, hle]
    refine hK5 _ _ ?_
    clear hK5 K5
    by_cases hq : p.1 = t
    · refine scode_if (b := true) (by simp [go_sem, hq]) (fun _ => ?_) (fun h => by cases h)
      refine scode_seq_k (fun K5 hK5 => ?_)
      refine scode_region (by kernel_rfl) ?_
      simp [go_sem]
      refine hK5 _ _ ?_
      refine scode_ret ?_
      simp only [go_sem]
      refine hR _ _ ?_
      have hres : anyK (rows.take n) t = true := by rw [← hr, e1, anyK, if_pos hq]
      exact ret_plain (by simp [go_sem, hres]) (empty_le _) (Nat.zero_le _) (by simp [go_sem])
    · refine scode_if (b := false) (by simp [go_sem, hq]) (fun h => by cases h) (fun _ => ?_)
      refine scode_skip ?_
      refine hK4 _ _ ?_
      refine scode_region (by kernel_rfl) ?_
      have hwr : IntKind.i64.wrap ((i : Int) + 1) = ((i + 1 : Nat) : Int) := by
        rw [IntWalk.i64_in _ (by omega)]; rfl
      simp [go_sem, h0, h1, h2, h7, hwr]
      exact ⟨n - (i + 1), by omega, i + 1, rfl, rfl, by rw [e2, ← hr, e1, anyK, if_neg hq]⟩
  · refine scode_exit ?_
    refine hK1 _ _ ?_
    refine scode_seq_k (fun K4 hK4 => ?_)
    refine scode_region (by kernel_rfl) ?_
    simp [go_sem]
    refine hK4 _ _ ?_
    refine scode_ret ?_
    simp only [go_sem]
    refine hR _ _ ?_
    simp only [decide_eq_false_iff_not] at hb
    have hres : anyK (rows.take n) t = false := by rw [← hr, List.drop_eq_nil_of_le (by rw [List.length_take]; omega)]; rfl
    exact ret_plain (by simp [go_sem, hres]) (empty_le _) (Nat.zero_le _) (by simp [go_sem])

def zero7 : List AV := [.int 0, .int 0, .int 0, .int 0, .int 0, .nil, .sc (.bool false)]
def findK : List Krow → Int → List AV × Bool
  | [], _ => (zero7, false)
  | p :: r, t => if p.1 = t then (p.cells, true) else findK r t

theorem find_s (rows : List Krow) (t : Int) (hw : ∀ p ∈ rows, p.2.length = 6) (hlf : ∀ p ∈ rows, ∀ x ∈ p.2, x.leaf = true) (hlt : ∀ p ∈ rows, ∀ x ∈ p.2, x.Lt 0) (hl : rows.length ≤ 1048576) :
    SCalls Tryz.prog 21 [.vs rows.length 7 (keyV rows), .int t] Heap.empty (.tup [.agg (findK rows t).1, .sc (.bool (findK rows t).2)]) Heap.empty := by
  have hkl : (keyV rows).length = rows.length * 7 := keyV_len rows hw
  refine scalls_of_k (sz := 25) (Tryz.call21) Tryz.func21 rfl (Nat.le_refl _) (by kernel_rfl) (fun R hR => ?_)
  refine scode_seq_k (fun K1 hK1 => ?_)
  refine scode_region (by kernel_rfl) ?_
  simp [go_sem]
  refine hK1 _ _ ?_
  clear hK1 K1
  refine scode_seq_k (fun K1 hK1 => ?_)
  refine scode_seq_k (fun K2 hK2 => ?_)
  refine scode_region (by kernel_rfl) ?_
  simp [go_sem]
  refine hK2 _ _ ?_
  clear hK2 K2
  refine scode_block ?_
  refine scode_loop (Inv := fun k env H => ∃ i : Nat, k = rows.length - i ∧ env 0 = .vs rows.length 7 (keyV rows) ∧ env 1 = .int t ∧ env 4 = .ptr 0 0 ∧ env 6 = .sc (.int .i64 i) ∧ (∃ z, H.get 0 = some z ∧ z.length = 7) ∧ findK (rows.drop i) t = findK rows t) ?_ (n := rows.length) ⟨0, rfl, by simp [go_sem], by simp [go_sem], by simp [go_sem], by simp [go_sem], ⟨_, by simp [go_sem]; rfl, rfl⟩, rfl⟩
  rintro k env H ⟨i, rfl, h0, h1, h4, h6, ⟨z, gz, hz⟩, hr⟩
  have hzd : z.drop 7 = [] := List.drop_eq_nil_of_le (by omega)
  refine scode_seq_k (fun K2 hK2 => ?_)
  refine scode_seq_k (fun K3 hK3 => ?_)
  refine scode_region (by kernel_rfl) ?_
  simp [go_sem, h0, h6]
  refine hK3 _ _ ?_
  clear hK3 K3
  refine scode_if (b := decide (i < rows.length)) (by simp [go_sem]) (fun hb => ?_) (fun hb => ?_)
  · refine scode_skip ?_
    refine hK2 _ _ ?_
    clear hK2 K2
    simp only [decide_eq_true_eq] at hb
    obtain ⟨p, r, f1, f2, f3⟩ := drop_cons hb
    have hp := List.mem_of_getElem? f3
    have hrow : (keyV rows).drop (i * 7) = .sc (.int .i64 p.1) :: (p.2 ++ keyV r) := by
      have := keyV_drop rows hw i
      rw [this, f1]
      simp [keyV, Krow.cells]
    have hp2 := hw p hp
    have htk : (p.2 ++ keyV r).take 6 = p.2 := by rw [List.take_left' hp2]
    have hle : 7 ≤ rows.length * 7 - i * 7 := by omega
    refine scode_seq_k (fun K4 hK4 => ?_)
    refine scode_block ?_
    refine scode_seq_k (fun K5 hK5 => ?_)
    refine scode_region (by kernel_rfl) ?_
    simp [go_sem, h0, h1, h6, hkl, hb, hrow, hle]
    refine hK5 _ _ ?_
    clear hK5 K5
    by_cases hq : p.1 = t
    · refine scode_if (b := true) (by simp [go_sem, hq]) (fun _ => ?_) (fun h => by cases h)
      have hlf' : ∀ x ∈ p.2, x.leaf = true := hlf p hp
      simp only [AV.leaf] at hlf'
      refine scode_seq_k (fun K5 hK5 => ?_)
      refine scode_region (by kernel_rfl) ?_
      simp [go_sem, h0, h4, h6, hkl, hb, hrow, hle, gz, hz, hzd, htk, hp2, eq_true hlf']
      refine hK5 _ _ ?_
      refine scode_ret ?_
      simp only [go_sem]
      refine hR _ _ ?_
      have hres : findK rows t = (p.cells, true) := by rw [← hr, f1, findK, if_pos hq]
      rw [hres]
      have hpl : (AV.sc (.int .i64 p.1) :: p.2).length = 7 := by simp [hp2]
      refine ret_pure (v := .tup [.agg p.cells, .sc (.bool true)]) ?_ (.same _) (empty_le _) (Nat.zero_le _) ?_
      · have ht : p.2.take 6 = p.2 := List.take_of_length_le (by omega)
        simp [go_sem, h4, gz, Krow.cells, hp2, ht]
      · have hx := hlt p hp
        simp [go_sem, Krow.cells]
        exact hx
    · refine scode_if (b := false) (by simp [go_sem, hq]) (fun h => by cases h) (fun _ => ?_)
      refine scode_skip ?_
      refine hK4 _ _ ?_
      refine scode_region (by kernel_rfl) ?_
      have hwr : IntKind.i64.wrap ((i : Int) + 1) = ((i + 1 : Nat) : Int) := by
        rw [IntWalk.i64_in _ (by omega)]; rfl
      simp [go_sem, h0, h1, h4, h6, hwr]
      exact ⟨rows.length - (i + 1), by omega, i + 1, rfl, rfl, ⟨z, gz, hz⟩, by rw [f2, ← hr, f1, findK, if_neg hq]⟩
  · refine scode_exit ?_
    refine hK1 _ _ ?_
    refine scode_seq_k (fun K4 hK4 => ?_)
    refine scode_region (by kernel_rfl) ?_
    simp [go_sem, h4, gz, hz, hzd]
    refine hK4 _ _ ?_
    refine scode_ret ?_
    simp only [go_sem]
    refine hR _ _ ?_
    simp only [decide_eq_false_iff_not] at hb
    have hres : findK rows t = (zero7, false) := by rw [← hr, List.drop_eq_nil_of_le (by omega)]; rfl
    rw [hres]
    exact ret_pure (v := .tup [.agg zero7, .sc (.bool false)]) (by simp [go_sem, h4, gz, zero7]) (.same _) (empty_le _) (Nat.zero_le _) (by simp [go_sem, zero7])
end Go.Proofs.YtinbldahpifinaaGreatDoor
