/- Contracts: digit, bit (both), the words of events (both). -/
import Derived.Test.YtfmpakmigmehkaaGreatDoorS0
import Derived.Test.YtfmpakmigmehkaaGreatDoorP10
set_option linter.unusedVariables false
set_option linter.unusedSimpArgs false
set_option maxRecDepth 20000
noncomputable section
namespace Go.Proofs.YtfmpakmigmehkaaGreatDoor
open Go Go.Fl Go.Proofs

def digI (x : Int) : Int := if 48 ≤ x ∧ x ≤ 57 then x - 48 else if 97 ≤ x ∧ x ≤ 102 then x - 87 else -1
theorem u8in (n : Int) (h0 : 0 ≤ n) (h1 : n ≤ 255) : IntKind.u8.wrap n = n := by
  show n % 256 = n
  omega
theorem i64in (n : Int) (h0 : -1099511627776 ≤ n) (h1 : n ≤ 1099511627776) : IntKind.i64.wrap n = n := IntWalk.i64_in _ (by omega)

theorem dig_a (x : Int) (g1 : 48 ≤ x) (g2 : x ≤ 57) : SCalls Tryz.prog 71 [.sc (.int .u8 x)] Heap.empty (.int (x - 48)) Heap.empty := by
  have w1 : IntKind.u8.wrap (x - 48) = x - 48 := u8in _ (by omega) (by omega)
  have w2 : IntKind.i64.wrap (x - 48) = x - 48 := i64in _ (by omega) (by omega)
  refine scalls_of_k (sz := 24) (Tryz.call71) Tryz.func71 rfl (Nat.zero_le _) (by kernel_rfl) (fun R hR => ?_)
  refine scode_seq_k (fun K1 hK1 => ?_)
  refine scode_region (by kernel_rfl) ?_
  simp [go_sem, g1, g2, w1, w2]
  refine hK1 _ _ ?_
  clear hK1 K1
  refine scode_seq_k (fun K2 hK2 => ?_)
  refine scode_block ?_
  refine scode_seq_k (fun K3 hK3 => ?_)
  refine scode_region (by kernel_rfl) ?_
  simp [go_sem, g1, g2, w1, w2]
  refine hK3 _ _ ?_
  clear hK3 K3
  refine scode_if (b := true) (by simp [go_sem, g1, g2, w1, w2]) (fun _ => ?_) (fun h => by cases h)
  refine scode_seq_k (fun K4 hK4 => ?_)
  refine scode_region (by kernel_rfl) ?_
  simp [go_sem, g1, g2, w1, w2]
  refine hK4 _ _ ?_
  clear hK4 K4
  refine scode_ret ?_
  simp only [go_sem]
  refine hR _ _ ?_
  exact ret_plain (by simp [go_sem]) (empty_le _) (Nat.zero_le _) (by simp [go_sem])

theorem dig_b (x : Int) (g1 : 97 ≤ x) (g2 : x ≤ 102) (g3 : 48 ≤ x) (g4 : ¬ x ≤ 57) : SCalls Tryz.prog 71 [.sc (.int .u8 x)] Heap.empty (.int (x - 87)) Heap.empty := by
  have w1 : IntKind.u8.wrap (x - 97) = x - 97 := u8in _ (by omega) (by omega)
  have w2 : IntKind.i64.wrap (x - 97) = x - 97 := i64in _ (by omega) (by omega)
  have w3 : IntKind.i64.wrap (x - 97 + 10) = x - 87 := by rw [i64in _ (by omega) (by omega)]; omega
  have w4 : x - 97 + 10 = x - 87 := by omega
  have w5 : IntKind.i64.wrap (x - 87) = x - 87 := i64in _ (by omega) (by omega)
  refine scalls_of_k (sz := 24) (Tryz.call71) Tryz.func71 rfl (Nat.zero_le _) (by kernel_rfl) (fun R hR => ?_)
  refine scode_seq_k (fun K1 hK1 => ?_)
  refine scode_region (by kernel_rfl) ?_
  simp [go_sem, g1, g2, g3, g4, w1, w2, w3, w4, w5]
  refine hK1 _ _ ?_
  clear hK1 K1
  refine scode_seq_k (fun K2 hK2 => ?_)
  refine scode_block ?_
  refine scode_seq_k (fun K3 hK3 => ?_)
  refine scode_region (by kernel_rfl) ?_
  simp [go_sem, g1, g2, g3, g4, w1, w2, w3, w4, w5]
  refine hK3 _ _ ?_
  clear hK3 K3
  refine scode_if (b := false) (by simp [go_sem, g1, g2, g3, g4, w1, w2, w3, w4, w5]) (fun h => by cases h) (fun _ => ?_)
  refine scode_seq_k (fun K4 hK4 => ?_)
  refine scode_region (by kernel_rfl) ?_
  simp [go_sem, g1, g2, g3, g4, w1, w2, w3, w4, w5]
  refine hK4 _ _ ?_
  clear hK4 K4
  refine scode_if (b := true) (by simp [go_sem, g1, g2, g3, g4, w1, w2, w3, w4, w5]) (fun _ => ?_) (fun h => by cases h)
  refine scode_seq_k (fun K5 hK5 => ?_)
  refine scode_region (by kernel_rfl) ?_
  simp [go_sem, g1, g2, g3, g4, w1, w2, w3, w4, w5]
  refine hK5 _ _ ?_
  clear hK5 K5
  refine scode_ret ?_
  simp only [go_sem]
  refine hR _ _ ?_
  exact ret_plain (by simp [go_sem]) (empty_le _) (Nat.zero_le _) (by simp [go_sem])

theorem dig_c (x : Int) (g1 : ¬ 48 ≤ x) (g2 : ¬ 97 ≤ x) : SCalls Tryz.prog 71 [.sc (.int .u8 x)] Heap.empty (.int (-1)) Heap.empty := by
  refine scalls_of_k (sz := 24) (Tryz.call71) Tryz.func71 rfl (Nat.zero_le _) (by kernel_rfl) (fun R hR => ?_)
  refine scode_seq_k (fun K1 hK1 => ?_)
  refine scode_region (by kernel_rfl) ?_
  simp [go_sem, g1, g2]
  refine hK1 _ _ ?_
  clear hK1 K1
  refine scode_seq_k (fun K2 hK2 => ?_)
  refine scode_block ?_
  refine scode_seq_k (fun K3 hK3 => ?_)
  refine scode_region (by kernel_rfl) ?_
  simp [go_sem, g1, g2]
  refine hK3 _ _ ?_
  clear hK3 K3
  refine scode_if (b := false) (by simp [go_sem, g1, g2]) (fun h => by cases h) (fun _ => ?_)
  refine scode_seq_k (fun K4 hK4 => ?_)
  refine scode_region (by kernel_rfl) ?_
  simp [go_sem, g1, g2]
  refine hK4 _ _ ?_
  clear hK4 K4
  refine scode_if (b := false) (by simp [go_sem, g1, g2]) (fun h => by cases h) (fun _ => ?_)
  refine scode_skip ?_
  refine hK2 _ _ ?_
  clear hK2 K2
  refine scode_seq_k (fun K5 hK5 => ?_)
  refine scode_region (by kernel_rfl) ?_
  simp [go_sem, g1, g2]
  refine hK5 _ _ ?_
  clear hK5 K5
  refine scode_ret ?_
  simp only [go_sem]
  refine hR _ _ ?_
  exact ret_plain (by simp [go_sem]) (empty_le _) (Nat.zero_le _) (by simp [go_sem])

theorem dig_d (x : Int) (g1 : 48 ≤ x) (g3 : ¬ x ≤ 57) (g2 : ¬ 97 ≤ x) : SCalls Tryz.prog 71 [.sc (.int .u8 x)] Heap.empty (.int (-1)) Heap.empty := by
  refine scalls_of_k (sz := 24) (Tryz.call71) Tryz.func71 rfl (Nat.zero_le _) (by kernel_rfl) (fun R hR => ?_)
  refine scode_seq_k (fun K1 hK1 => ?_)
  refine scode_region (by kernel_rfl) ?_
  simp [go_sem, g1, g2, g3]
  refine hK1 _ _ ?_
  clear hK1 K1
  refine scode_seq_k (fun K2 hK2 => ?_)
  refine scode_block ?_
  refine scode_seq_k (fun K3 hK3 => ?_)
  refine scode_region (by kernel_rfl) ?_
  simp [go_sem, g1, g2, g3]
  refine hK3 _ _ ?_
  clear hK3 K3
  refine scode_if (b := false) (by simp [go_sem, g1, g2, g3]) (fun h => by cases h) (fun _ => ?_)
  refine scode_seq_k (fun K4 hK4 => ?_)
  refine scode_region (by kernel_rfl) ?_
  simp [go_sem, g1, g2, g3]
  refine hK4 _ _ ?_
  clear hK4 K4
  refine scode_if (b := false) (by simp [go_sem, g1, g2, g3]) (fun h => by cases h) (fun _ => ?_)
  refine scode_skip ?_
  refine hK2 _ _ ?_
  clear hK2 K2
  refine scode_seq_k (fun K5 hK5 => ?_)
  refine scode_region (by kernel_rfl) ?_
  simp [go_sem, g1, g2, g3]
  refine hK5 _ _ ?_
  clear hK5 K5
  refine scode_ret ?_
  simp only [go_sem]
  refine hR _ _ ?_
  exact ret_plain (by simp [go_sem]) (empty_le _) (Nat.zero_le _) (by simp [go_sem])

theorem dig_e (x : Int) (g1 : 48 ≤ x) (g3 : ¬ x ≤ 57) (g2 : 97 ≤ x) (g4 : ¬ x ≤ 102) : SCalls Tryz.prog 71 [.sc (.int .u8 x)] Heap.empty (.int (-1)) Heap.empty := by
  refine scalls_of_k (sz := 24) (Tryz.call71) Tryz.func71 rfl (Nat.zero_le _) (by kernel_rfl) (fun R hR => ?_)
  refine scode_seq_k (fun K1 hK1 => ?_)
  refine scode_region (by kernel_rfl) ?_
  simp [go_sem, g1, g2, g3, g4]
  refine hK1 _ _ ?_
  clear hK1 K1
  refine scode_seq_k (fun K2 hK2 => ?_)
  refine scode_block ?_
  refine scode_seq_k (fun K3 hK3 => ?_)
  refine scode_region (by kernel_rfl) ?_
  simp [go_sem, g1, g2, g3, g4]
  refine hK3 _ _ ?_
  clear hK3 K3
  refine scode_if (b := false) (by simp [go_sem, g1, g2, g3, g4]) (fun h => by cases h) (fun _ => ?_)
  refine scode_seq_k (fun K4 hK4 => ?_)
  refine scode_region (by kernel_rfl) ?_
  simp [go_sem, g1, g2, g3, g4]
  refine hK4 _ _ ?_
  clear hK4 K4
  refine scode_if (b := false) (by simp [go_sem, g1, g2, g3, g4]) (fun h => by cases h) (fun _ => ?_)
  refine scode_skip ?_
  refine hK2 _ _ ?_
  clear hK2 K2
  refine scode_seq_k (fun K5 hK5 => ?_)
  refine scode_region (by kernel_rfl) ?_
  simp [go_sem, g1, g2, g3, g4]
  refine hK5 _ _ ?_
  clear hK5 K5
  refine scode_ret ?_
  simp only [go_sem]
  refine hR _ _ ?_
  exact ret_plain (by simp [go_sem]) (empty_le _) (Nat.zero_le _) (by simp [go_sem])

theorem digit_s (x : Int) : SCalls Tryz.prog 71 [.sc (.int .u8 x)] Heap.empty (.int (digI x)) Heap.empty := by
  unfold digI
  split
  · rename_i h; exact dig_a x h.1 h.2
  · rename_i h
    split
    · rename_i k; exact dig_b x k.1 k.2 (by omega) (by omega)
    · rename_i k
      by_cases g1 : 48 ≤ x
      · by_cases g2 : 97 ≤ x
        · exact dig_e x g1 (by omega) g2 (by omega)
        · exact dig_d x g1 (by omega) g2
      · exact dig_c x g1 (by omega)

theorem bit_s (b : Bool) : SCalls Tryz.prog 54 [.bool b] Heap.empty (sA (bitL b)) Heap.empty := by
  have e1 : ∀ f ∈ [54], Enters Tryz.prog f := by
    simp only [List.mem_cons, List.mem_nil_iff, or_false, forall_eq]
    exact Tryz.call54
  cases b
  · exact pcall1 e1 20 (by kernel_rfl)
  · exact pcall1 e1 20 (by kernel_rfl)

theorem rbit_s (b : Bool) : SCalls Tryz.prog 57 [.bool b] Heap.empty (sA (bitL b)) Heap.empty := by
  have e1 : ∀ f ∈ [57], Enters Tryz.prog f := by
    simp only [List.mem_cons, List.mem_nil_iff, or_false, forall_eq]
    exact Tryz.call57
  cases b
  · exact pcall1 e1 20 (by kernel_rfl)
  · exact pcall1 e1 20 (by kernel_rfl)

/-- An event's word, by its number; what its line has. -/
def nmI (d : Int) : List UInt8 := evName d.toNat
def hasI (d : Int) : Int := match evKind d.toNat with
  | 1 => 110
  | 2 => 112
  | 3 => 109
  | 4 => 98
  | _ => 0
theorem nat_none (d : Nat) (h : d < 1 ∨ 11 < d) : evName d = [] ∧ evKind d = 0 := by
  constructor
  · unfold evName
    split <;> first | rfl | omega
  · unfold evKind
    split <;> first | rfl | omega
theorem nm_none (d : Int) (h : d < 1 ∨ 11 < d) : nmI d = [] := (nat_none d.toNat (by omega)).1
theorem has_none (d : Int) (h : d < 1 ∨ 11 < d) : hasI d = 0 := by unfold hasI; rw [(nat_none d.toNat (by omega)).2]; rfl
theorem nm_cases (d : Int) (h1 : 1 ≤ d) (h2 : d ≤ 11) : d = 1 ∨ d = 2 ∨ d = 3 ∨ d = 4 ∨ d = 5 ∨ d = 6 ∨ d = 7 ∨ d = 8 ∨ d = 9 ∨ d = 10 ∨ d = 11 := by omega
theorem en27 : ∀ f ∈ [27, 34], Enters Tryz.prog f := by
  simp only [List.mem_cons, List.mem_nil_iff, or_false, forall_eq_or_imp, forall_eq]
  exact ⟨Tryz.call27, Tryz.call34⟩

theorem name_a (d : Int) (g : d < 1) : SCalls Tryz.prog 27 [.int d] Heap.empty (sA []) Heap.empty := by
  refine scalls_of_k (sz := 13) (Tryz.call27) Tryz.func27 rfl (Nat.zero_le _) (by kernel_rfl) (fun R hR => ?_)
  refine scode_seq_k (fun K1 hK1 => ?_)
  refine scode_region (by kernel_rfl) ?_
  simp [go_sem, g]
  refine hK1 _ _ ?_
  clear hK1 K1
  refine scode_seq_k (fun K2 hK2 => ?_)
  refine scode_seq_k (fun K3 hK3 => ?_)
  refine scode_region (by kernel_rfl) ?_
  simp [go_sem, g]
  refine hK3 _ _ ?_
  clear hK3 K3
  refine scode_if (b := true) (by simp [go_sem, g]) (fun _ => ?_) (fun h => by cases h)
  refine scode_seq_k (fun K4 hK4 => ?_)
  refine scode_region (by kernel_rfl) ?_
  simp [go_sem, g]
  refine hK4 _ _ ?_
  clear hK4 K4
  refine scode_ret ?_
  simp only [go_sem]
  refine hR _ _ ?_
  exact ret_plain (by simp [go_sem]; rfl) (empty_le _) (Nat.zero_le _) (by simp [go_sem])

theorem name_b (d : Int) (g : ¬ d < 1) (g2 : 11 < d) : SCalls Tryz.prog 27 [.int d] Heap.empty (sA []) Heap.empty := by
  refine scalls_of_k (sz := 13) (Tryz.call27) Tryz.func27 rfl (Nat.zero_le _) (by kernel_rfl) (fun R hR => ?_)
  refine scode_seq_k (fun K1 hK1 => ?_)
  refine scode_region (by kernel_rfl) ?_
  simp [go_sem, g, g2]
  refine hK1 _ _ ?_
  clear hK1 K1
  refine scode_seq_k (fun K2 hK2 => ?_)
  refine scode_seq_k (fun K3 hK3 => ?_)
  refine scode_region (by kernel_rfl) ?_
  simp [go_sem, g, g2]
  refine hK3 _ _ ?_
  clear hK3 K3
  refine scode_if (b := true) (by simp [go_sem, g, g2]) (fun _ => ?_) (fun h => by cases h)
  refine scode_seq_k (fun K4 hK4 => ?_)
  refine scode_region (by kernel_rfl) ?_
  simp [go_sem, g, g2]
  refine hK4 _ _ ?_
  clear hK4 K4
  refine scode_ret ?_
  simp only [go_sem]
  refine hR _ _ ?_
  exact ret_plain (by simp [go_sem]; rfl) (empty_le _) (Nat.zero_le _) (by simp [go_sem])

theorem rname_a (d : Int) (h : d < 1 ∨ 11 < d) : SCalls Tryz.prog 34 [.int d] Heap.empty (.tup [sA [], .sc (.int .u8 0)]) Heap.empty := by
  have n1 : (d == 1) = false := by simp; omega
  have n2 : (d == 2) = false := by simp; omega
  have n3 : (d == 3) = false := by simp; omega
  have n4 : (d == 4) = false := by simp; omega
  have n5 : (d == 5) = false := by simp; omega
  have n6 : (d == 6) = false := by simp; omega
  have n7 : (d == 7) = false := by simp; omega
  have n8 : (d == 8) = false := by simp; omega
  have n9 : (d == 9) = false := by simp; omega
  have n10 : (d == 10) = false := by simp; omega
  have n11 : (d == 11) = false := by simp; omega
  refine scalls_of_k (sz := 27) (Tryz.call34) Tryz.func34 rfl (Nat.zero_le _) (by kernel_rfl) (fun R hR => ?_)
  refine scode_seq_k (fun K1 hK1 => ?_)
  refine scode_region (by kernel_rfl) ?_
  simp [go_sem, n1, n2, n3, n4, n5, n6, n7, n8, n9, n10, n11]
  refine hK1 _ _ ?_
  clear hK1 K1
  refine scode_seq_k (fun K2 hK2 => ?_)
  refine scode_seq_k (fun K3 hK3 => ?_)
  refine scode_region (by kernel_rfl) ?_
  simp [go_sem, n1, n2, n3, n4, n5, n6, n7, n8, n9, n10, n11]
  refine hK3 _ _ ?_
  clear hK3 K3
  refine scode_block ?_
  refine scode_seq_k (fun K4 hK4 => ?_)
  refine scode_region (by kernel_rfl) ?_
  simp [go_sem, n1, n2, n3, n4, n5, n6, n7, n8, n9, n10, n11]
  refine hK4 _ _ ?_
  clear hK4 K4
  refine scode_if (b := false) (by simp [go_sem, n1, n2, n3, n4, n5, n6, n7, n8, n9, n10, n11]) (fun h => by cases h) (fun _ => ?_)
  refine scode_seq_k (fun K5 hK5 => ?_)
  refine scode_region (by kernel_rfl) ?_
  simp [go_sem, n1, n2, n3, n4, n5, n6, n7, n8, n9, n10, n11]
  refine hK5 _ _ ?_
  clear hK5 K5
  refine scode_if (b := false) (by simp [go_sem, n1, n2, n3, n4, n5, n6, n7, n8, n9, n10, n11]) (fun h => by cases h) (fun _ => ?_)
  refine scode_seq_k (fun K6 hK6 => ?_)
  refine scode_region (by kernel_rfl) ?_
  simp [go_sem, n1, n2, n3, n4, n5, n6, n7, n8, n9, n10, n11]
  refine hK6 _ _ ?_
  clear hK6 K6
  refine scode_if (b := false) (by simp [go_sem, n1, n2, n3, n4, n5, n6, n7, n8, n9, n10, n11]) (fun h => by cases h) (fun _ => ?_)
  refine scode_seq_k (fun K7 hK7 => ?_)
  refine scode_region (by kernel_rfl) ?_
  simp [go_sem, n1, n2, n3, n4, n5, n6, n7, n8, n9, n10, n11]
  refine hK7 _ _ ?_
  clear hK7 K7
  refine scode_if (b := false) (by simp [go_sem, n1, n2, n3, n4, n5, n6, n7, n8, n9, n10, n11]) (fun h => by cases h) (fun _ => ?_)
  refine scode_seq_k (fun K8 hK8 => ?_)
  refine scode_region (by kernel_rfl) ?_
  simp [go_sem, n1, n2, n3, n4, n5, n6, n7, n8, n9, n10, n11]
  refine hK8 _ _ ?_
  clear hK8 K8
  refine scode_if (b := false) (by simp [go_sem, n1, n2, n3, n4, n5, n6, n7, n8, n9, n10, n11]) (fun h => by cases h) (fun _ => ?_)
  refine scode_seq_k (fun K9 hK9 => ?_)
  refine scode_region (by kernel_rfl) ?_
  simp [go_sem, n1, n2, n3, n4, n5, n6, n7, n8, n9, n10, n11]
  refine hK9 _ _ ?_
  clear hK9 K9
  refine scode_if (b := false) (by simp [go_sem, n1, n2, n3, n4, n5, n6, n7, n8, n9, n10, n11]) (fun h => by cases h) (fun _ => ?_)
  refine scode_seq_k (fun K10 hK10 => ?_)
  refine scode_region (by kernel_rfl) ?_
  simp [go_sem, n1, n2, n3, n4, n5, n6, n7, n8, n9, n10, n11]
  refine hK10 _ _ ?_
  clear hK10 K10
  refine scode_if (b := false) (by simp [go_sem, n1, n2, n3, n4, n5, n6, n7, n8, n9, n10, n11]) (fun h => by cases h) (fun _ => ?_)
  refine scode_seq_k (fun K11 hK11 => ?_)
  refine scode_region (by kernel_rfl) ?_
  simp [go_sem, n1, n2, n3, n4, n5, n6, n7, n8, n9, n10, n11]
  refine hK11 _ _ ?_
  clear hK11 K11
  refine scode_if (b := false) (by simp [go_sem, n1, n2, n3, n4, n5, n6, n7, n8, n9, n10, n11]) (fun h => by cases h) (fun _ => ?_)
  refine scode_seq_k (fun K12 hK12 => ?_)
  refine scode_region (by kernel_rfl) ?_
  simp [go_sem, n1, n2, n3, n4, n5, n6, n7, n8, n9, n10, n11]
  refine hK12 _ _ ?_
  clear hK12 K12
  refine scode_if (b := false) (by simp [go_sem, n1, n2, n3, n4, n5, n6, n7, n8, n9, n10, n11]) (fun h => by cases h) (fun _ => ?_)
  refine scode_seq_k (fun K13 hK13 => ?_)
  refine scode_region (by kernel_rfl) ?_
  simp [go_sem, n1, n2, n3, n4, n5, n6, n7, n8, n9, n10, n11]
  refine hK13 _ _ ?_
  clear hK13 K13
  refine scode_if (b := false) (by simp [go_sem, n1, n2, n3, n4, n5, n6, n7, n8, n9, n10, n11]) (fun h => by cases h) (fun _ => ?_)
  refine scode_seq_k (fun K14 hK14 => ?_)
  refine scode_region (by kernel_rfl) ?_
  simp [go_sem, n1, n2, n3, n4, n5, n6, n7, n8, n9, n10, n11]
  refine hK14 _ _ ?_
  clear hK14 K14
  refine scode_if (b := false) (by simp [go_sem, n1, n2, n3, n4, n5, n6, n7, n8, n9, n10, n11]) (fun h => by cases h) (fun _ => ?_)
  refine scode_skip ?_
  refine hK2 _ _ ?_
  clear hK2 K2
  refine scode_seq_k (fun K15 hK15 => ?_)
  refine scode_region (by kernel_rfl) ?_
  simp [go_sem, n1, n2, n3, n4, n5, n6, n7, n8, n9, n10, n11]
  refine hK15 _ _ ?_
  clear hK15 K15
  refine scode_ret ?_
  simp only [go_sem]
  refine hR _ _ ?_
  exact ret_plain (by simp [go_sem]; rfl) (empty_le _) (Nat.zero_le _) (by simp [go_sem])

theorem name_s (d : Int) : SCalls Tryz.prog 27 [.int d] Heap.empty (sA (nmI d)) Heap.empty := by
  by_cases h : 1 ≤ d ∧ d ≤ 11
  · obtain ⟨h1, h2⟩ := h
    rcases nm_cases d h1 h2 with rfl | rfl | rfl | rfl | rfl | rfl | rfl | rfl | rfl | rfl | rfl <;> exact pcall1 en27 30 (by kernel_rfl)
  · rw [nm_none d (by omega)]
    by_cases g : d < 1
    · exact name_a d g
    · exact name_b d g (by omega)
theorem rname_s (d : Int) : SCalls Tryz.prog 34 [.int d] Heap.empty (.tup [sA (nmI d), .sc (.int .u8 (hasI d))]) Heap.empty := by
  by_cases h : 1 ≤ d ∧ d ≤ 11
  · obtain ⟨h1, h2⟩ := h
    rcases nm_cases d h1 h2 with rfl | rfl | rfl | rfl | rfl | rfl | rfl | rfl | rfl | rfl | rfl <;> exact pcall1 en27 30 (by kernel_rfl)
  · rw [nm_none d (by omega), has_none d (by omega)]
    exact rname_a d (by omega)

end Go.Proofs.YtfmpakmigmehkaaGreatDoor
