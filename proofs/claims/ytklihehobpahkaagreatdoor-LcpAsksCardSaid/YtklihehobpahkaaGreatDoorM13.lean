/- Contracts: between, Size, long, proof, half, word, Wide, number, Num. -/
import Derived.Test.YtklihehobpahkaaGreatDoorM0
import Derived.Test.YtklihehobpahkaaGreatDoorFl43
set_option linter.unusedVariables false
set_option linter.unusedSimpArgs false
set_option maxRecDepth 20000
noncomputable section
namespace Go.Proofs.YtklihehobpahkaaGreatDoor
open Go Go.Fl Go.Proofs

def betw (x a b : Int) : Bool := decide (a ≤ x) && decide (x ≤ b)

theorem between_s (x a b : Int) : SCalls Tryz.prog 20 [.int x, .int a, .int b] Heap.empty (.bool (betw x a b)) Heap.empty := by
  refine scalls_of_k (sz := 15) (Tryz.call20) Tryz.func20 rfl (Nat.le_refl _) (by kernel_rfl) (fun R hR => ?_)
  refine scode_seq_k (fun K1 hK1 => ?_)
  refine scode_region (by kernel_rfl) ?_
  simp [go_sem]
  refine hK1 _ _ ?_
  clear hK1 K1
  refine scode_seq_k (fun K2 hK2 => ?_)
  refine scode_region (by kernel_rfl) ?_
  by_cases h : a ≤ x
  · simp [go_sem, h]
    refine hK2 _ _ ?_
    refine scode_ret ?_
    simp only [go_sem]
    refine hR _ _ ?_
    exact ret_plain (by simp [go_sem, betw, h]) (empty_le _) (Nat.zero_le _) (by simp [go_sem])
  · simp [go_sem, h]
    refine hK2 _ _ ?_
    refine scode_ret ?_
    simp only [go_sem]
    refine hR _ _ ?_
    exact ret_plain (by simp [go_sem, betw, h]) (empty_le _) (Nat.zero_le _) (by simp [go_sem])

theorem enS : ∀ f ∈ [25, 28, 31, 32, 33], Enters Tryz.prog f := by
  simp only [List.mem_cons, List.mem_nil_iff, or_false, forall_eq_or_imp, forall_eq]
  exact ⟨Tryz.call25, Tryz.call28, Tryz.call31, Tryz.call32, Tryz.call33⟩

theorem pcall1 {fs : List FuncId} (hfs : ∀ f ∈ fs, Enters Tryz.prog f) (n : Nat) {f : FuncId} {args : List AV} {r : AV} (h : pcall Tryz.prog fs n f args = some r) : SCalls Tryz.prog f args Heap.empty r Heap.empty := (pcall_sound mixed hfs n h).1

def proofL : List Int := [194, 35, 129]
theorem proof_s : SCalls Tryz.prog 25 [] Heap.empty (bytesA proofL) Heap.empty := pcall1 enS 20 (by kernel_rfl)
theorem proof2_s : SCalls Tryz.prog 28 [] Heap.empty (bytesA proofL) Heap.empty := pcall1 enS 20 (by kernel_rfl)

/-- A number in two bytes, in four. -/
def hf (x : Int) : List Int := [IntKind.u8.wrap (bshr .i64 x 8), IntKind.u8.wrap x]
def wd (m : Int) : List Int := [IntKind.u8.wrap (bshr .u32 m 24), IntKind.u8.wrap (bshr .u32 m 16), IntKind.u8.wrap (bshr .u32 m 8), IntKind.u8.wrap m]
theorem half_s (x : Int) : SCalls Tryz.prog 31 [.int x] Heap.empty (bytesA (hf x)) Heap.empty := pcall1 enS 20 (by kernel_rfl)
theorem word_s (m : Int) : SCalls Tryz.prog 32 [.sc (.int .u32 m)] Heap.empty (bytesA (wd m)) Heap.empty := pcall1 enS 20 (by kernel_rfl)

theorem wide2_aux (x : Int) : SCalls Tryz.prog 33 [.int x, .int 2] Heap.empty (bytesA [IntKind.u8.wrap (bshr .i64 x 8), IntKind.u8.wrap (bshr .i64 x 0)]) Heap.empty := pcall1 enS 40 (by kernel_rfl)
theorem wide4_aux (x : Int) : SCalls Tryz.prog 33 [.int x, .int 4] Heap.empty (bytesA [IntKind.u8.wrap (bshr .i64 x 24), IntKind.u8.wrap (bshr .i64 x 16), IntKind.u8.wrap (bshr .i64 x 8), IntKind.u8.wrap (bshr .i64 x 0)]) Heap.empty := pcall1 enS 40 (by kernel_rfl)
theorem bshr0 (x : Int) : bshr .i64 x 0 = x := by
  show x.fdiv (2 ^ (min 0 64)) = x
  simp
theorem wide2_s (x : Int) : SCalls Tryz.prog 33 [.int x, .int 2] Heap.empty (bytesA (hf x)) Heap.empty := by
  have := wide2_aux x
  rw [bshr0] at this
  exact this
theorem wide4_s (m : Int) : SCalls Tryz.prog 33 [.int m, .int 4] Heap.empty (bytesA (wd m)) Heap.empty := by
  have := wide4_aux m
  rw [bshr0] at this
  exact this

def nR (x b : Int) : Int := Go.bits .or .i64 (IntKind.i64.wrap (x * 256)) (IntKind.i64.wrap b)
def numL (d : List Int) : Int := d.foldl nR 0
theorem numL_step {d r : List Int} {i : Nat} {x : Int} (h : d.drop i = x :: r) : nR (numL (d.take i)) x = numL (d.take (i + 1)) := by
  have hi : i < d.length := by
    rcases Nat.lt_or_ge i d.length with h1 | h1
    · exact h1
    · rw [List.drop_eq_nil_of_le h1] at h; cases h
  have e := List.drop_eq_getElem_cons hi
  rw [h] at e
  cases e
  rw [List.take_succ_eq_append_getElem hi]
  unfold numL
  rw [List.foldl_append]
  rfl

theorem number0 (d : List Int) (hd : d.length ≤ 1048576) : SCalls Tryz.prog 24 [bytesA d] Heap.empty (.int (numL d)) Heap.empty := by
  refine scalls_of_k (sz := 19) (Tryz.call24) Tryz.func24 rfl (Nat.le_refl _) (by kernel_rfl) (fun R hR => ?_)
  refine scode_seq_k (fun K1 hK1 => ?_)
  refine scode_region (by kernel_rfl) ?_
  simp [go_sem]
  refine hK1 _ _ ?_
  clear hK1 K1
  refine scode_seq_k (fun K1 hK1 => ?_)
  refine scode_region (by kernel_rfl) ?_
  simp [go_sem]
  refine hK1 _ _ ?_
  clear hK1 K1
  refine scode_seq_k (fun K1 hK1 => ?_)
  refine scode_seq_k (fun K2 hK2 => ?_)
  refine scode_region (by kernel_rfl) ?_
  simp [go_sem, bytesA, len_bytesV]
  refine hK2 _ _ ?_
  clear hK2 K2
  refine scode_block ?_
  refine scode_loop (Inv := fun n env H => ∃ i : Nat, n = d.length - i ∧ i ≤ d.length ∧ env 6 = bytesA d ∧ env 3 = .int (numL (d.take i)) ∧ env 7 = .sc (.int .i64 d.length) ∧ env 8 = .sc (.int .i64 i) ∧ H = Heap.empty) ?_ (n := d.length) ⟨0, rfl, by omega, by simp [go_sem, bytesA], by simp [go_sem, numL], by simp [go_sem], by simp [go_sem], rfl⟩
  rintro n env H ⟨i, rfl, hi, e6, e3, e7, e8, rfl⟩
  refine scode_seq_k (fun K2 hK2 => ?_)
  refine scode_region (by kernel_rfl) ?_
  simp [go_sem, e7, e8]
  refine hK2 _ _ ?_
  clear hK2 K2
  refine scode_seq_k (fun K2 hK2 => ?_)
  refine scode_if (b := decide (i < d.length)) (by simp [go_sem]) (fun hb => ?_) (fun hb => ?_)
  · refine scode_skip ?_
    refine hK2 _ _ ?_
    clear hK2 K2
    simp only [decide_eq_true_eq] at hb
    obtain ⟨x, rest, g1, g2, g3⟩ := drop_cons hb
    have g4 := numL_step g1
    unfold nR at g4
    have hrow : (bytesV d).drop i = .sc (.int .u8 x) :: bytesV rest := by rw [bytesV_drop, g1]; rfl
    refine scode_seq_k (fun K4 hK4 => ?_)
    refine scode_block ?_
    refine scode_seq_k (fun K5 hK5 => ?_)
    refine scode_region (by kernel_rfl) ?_
    simp [go_sem, e6, e8, bytesA, len_bytesV, hb, hrow]
    refine hK5 _ _ ?_
    refine scode_region (by kernel_rfl) ?_
    simp [go_sem, e3, g4]
    refine hK4 _ _ ?_
    refine scode_region (by kernel_rfl) ?_
    have hw : IntKind.i64.wrap ((i : Int) + 1) = ((i + 1 : Nat) : Int) := by
      rw [IntWalk.i64_in _ (by omega)]; rfl
    simp [go_sem, e6, e7, e8, hw, bytesA]
    exact ⟨d.length - (i + 1), by omega, i + 1, rfl, by omega, rfl, rfl⟩
  · refine scode_exit ?_
    refine hK1 _ _ ?_
    refine scode_seq_k (fun K4 hK4 => ?_)
    refine scode_region (by kernel_rfl) ?_
    simp only [decide_eq_false_iff_not] at hb
    obtain rfl : i = d.length := by omega
    simp [go_sem, e3]
    refine hK4 _ _ ?_
    refine scode_ret ?_
    simp only [go_sem]
    refine hR _ _ ?_
    exact ret_plain (by simp [go_sem]) (empty_le _) (Nat.zero_le _) (by simp [go_sem])

theorem num_s (d : List Int) (hd : d.length ≤ 1048576) : SCalls Tryz.prog 26 [bytesA d] Heap.empty (.int (numL d)) Heap.empty := by
  refine scalls_of_k (sz := 20) (Tryz.call26) Tryz.func26 rfl (Nat.le_refl _) (by kernel_rfl) (fun R hR => ?_)
  refine scode_seq_k (fun K1 hK1 => ?_)
  refine scode_region (by kernel_rfl) ?_
  simp [go_sem]
  refine hK1 _ _ ?_
  clear hK1 K1
  refine scode_seq_k (fun K2 hK2 => ?_)
  refine scode_region (by kernel_rfl) ?_
  simp [go_sem]
  refine hK2 _ _ ?_
  clear hK2 K2
  refine scode_seq_k (fun K3 hK3 => ?_)
  refine scode_seq_k (fun K4 hK4 => ?_)
  refine scode_region (by kernel_rfl) ?_
  simp [go_sem]
  refine hK4 _ _ ?_
  clear hK4 K4
  refine scode_block ?_
  refine scode_loop (Inv := fun n env H => ∃ i : Nat, n = d.length - i ∧ i ≤ d.length ∧ env 0 = bytesA d ∧ env 3 = .int (numL (d.take i)) ∧ env 4 = .sc (.int .i64 i) ∧ H = Heap.empty) ?_ (n := d.length) ⟨0, rfl, by omega, by simp [go_sem, bytesA], by simp [go_sem, numL], by simp [go_sem], rfl⟩
  rintro n env H ⟨i, rfl, hi, e0, e3, e4, rfl⟩
  refine scode_seq_k (fun K6 hK6 => ?_)
  refine scode_seq_k (fun K7 hK7 => ?_)
  refine scode_region (by kernel_rfl) ?_
  simp [go_sem, e0, e4, bytesA]
  refine hK7 _ _ ?_
  clear hK7 K7
  refine scode_if (b := decide (i < d.length)) (by simp [go_sem]) (fun hb => ?_) (fun hb => ?_)
  · refine scode_skip ?_
    refine hK6 _ _ ?_
    simp only [decide_eq_true_eq] at hb
    obtain ⟨x, rest, g1, g2, g3⟩ := drop_cons hb
    have g4 := numL_step g1
    unfold nR at g4
    have hrow : (bytesV d).drop i = .sc (.int .u8 x) :: bytesV rest := by rw [bytesV_drop, g1]; rfl
    have hw : IntKind.i64.wrap ((i : Int) + 1) = ((i + 1 : Nat) : Int) := by
      rw [IntWalk.i64_in _ (by omega)]; rfl
    refine scode_seq_k (fun K8 hK8 => ?_)
    refine scode_block ?_
    refine scode_region (by kernel_rfl) ?_
    simp [go_sem, e0, e3, e4, bytesA, len_bytesV, hb, hrow, g4]
    refine hK8 _ _ ?_
    clear hK8 K8
    refine scode_region (by kernel_rfl) ?_
    simp [go_sem, e0, e4, hw, bytesA]
    exact ⟨d.length - (i + 1), by omega, i + 1, rfl, by omega, rfl, rfl⟩
  · refine scode_exit ?_
    refine hK3 _ _ ?_
    simp only [decide_eq_false_iff_not] at hb
    obtain rfl : i = d.length := by omega
    refine scode_seq_k (fun K9 hK9 => ?_)
    refine scode_region (by kernel_rfl) ?_
    simp [go_sem, e3]
    refine hK9 _ _ ?_
    clear hK9 K9
    refine scode_ret ?_
    simp only [go_sem]
    refine hR _ _ ?_
    exact ret_plain (by simp [go_sem]) (empty_le _) (Nat.zero_le _) (by simp [go_sem])
end Go.Proofs.YtklihehobpahkaaGreatDoor
