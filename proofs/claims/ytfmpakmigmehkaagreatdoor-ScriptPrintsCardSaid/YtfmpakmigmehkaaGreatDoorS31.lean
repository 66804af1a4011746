/- Contracts: Spare. -/
import Derived.Test.YtfmpakmigmehkaaGreatDoorFl43
import Derived.Test.YtfmpakmigmehkaaGreatDoorS28
set_option linter.unusedVariables false
set_option linter.unusedSimpArgs false
set_option maxRecDepth 20000
noncomputable section
namespace Go.Proofs.YtfmpakmigmehkaaGreatDoor
open Go Go.Fl Go.Proofs

def spareI (e : EvI) : EvI := match evKind e.do_.toNat with
  | 1 => ⟨e.do_, e.end_, e.n, 0, []⟩
  | 2 => ⟨e.do_, e.end_, 0, e.proto, e.b⟩
  | 3 => ⟨e.do_, e.end_, e.n, 0, e.b⟩
  | 4 => ⟨e.do_, e.end_, 0, 0, e.b⟩
  | _ => ⟨e.do_, e.end_, 0, 0, []⟩
theorem rname_H (d : Int) (H : Heap) : SCalls Tryz.prog 34 [.int d] H (.tup [sA (nmI d), .sc (.int .u8 (hasI d))]) H := scalls_frame (rname_s d) (by simp [go_sem]) (by simp [go_sem]) H
theorem kinds (d : Nat) : evKind d = 0 ∨ evKind d = 1 ∨ evKind d = 2 ∨ evKind d = 3 ∨ evKind d = 4 := by have := kind_le d; omega

theorem spare_s (e : EvI) : SCalls Tryz.prog 16 [.agg (evI e)] Heap.empty (.agg (evI (spareI e))) Heap.empty := by
  obtain ⟨d, en, n, p, b⟩ := e
  refine scalls_of_k (sz := 45) (Tryz.call16) Tryz.func16 rfl (Nat.zero_le _) (by kernel_rfl) (fun R hR => ?_)
  refine scode_seq_k (fun K1 hK1 => ?_)
  refine scode_region (by kernel_rfl) ?_
  simp [go_sem, evI]
  refine hK1 _ _ ?_
  try clear hK1 K1
  refine scode_seq_k (fun K2 hK2 => ?_)
  have cn := rname_H d
  refine scode_region (by kernel_rfl) ?_
  refine w_take 3 (fun K3 hK3 => ?_)
  simp [go_sem]
  refine ⟨_, _, cn _, ?_⟩
  refine hK3 _ _ ?_
  clear hK3 K3
  simp [go_sem]
  refine hK2 _ _ ?_
  try clear hK2 K2
  refine scode_seq_mid (fun env H => env 1 = .ptr 0 0 ∧ env 2 = .ptr 1 0 ∧ env 4 = .sc (.int .u8 (hasI d)) ∧ env 5 = .ptr 2 0 ∧ H.get 0 = some [.int d, .int en, .int n, .int p, bA b] ∧ H.get 1 = some [.int 0, .int 0, .int 0, .int 0, .nil] ∧ H.get 2 = some [.int d, .int en, .int 0, .int 0, .nil]) ?_ ?_
  · skip
    refine scode_region (by kernel_rfl) ?_
    simp [go_sem, zrep5]
    first
      | done
      | rfl
  rintro env H ⟨e1, e2, e4, e5, g0, g1, g2⟩
  refine scode_seq_k (fun K5 hK5 => ?_)
  refine scode_seq_k (fun K6 hK6 => ?_)
  rcases kinds d.toNat with hk | hk | hk | hk | hk
  · skip
    have hh : hasI d = 0 := by simp only [hasI, hk]
    rw [hh] at e4
    refine scode_region (by kernel_rfl) ?_
    simp [go_sem, e4]
    refine hK6 _ _ ?_
    try clear hK6 K6
    refine scode_block ?_
    refine scode_seq_k (fun K7 hK7 => ?_)
    refine scode_region (by kernel_rfl) ?_
    simp [go_sem]
    refine hK7 _ _ ?_
    try clear hK7 K7
    refine scode_if (b := false) (by simp [go_sem]) (fun h => by cases h) (fun _ => ?_)
    refine scode_seq_k (fun K8 hK8 => ?_)
    refine scode_region (by kernel_rfl) ?_
    simp [go_sem]
    refine hK8 _ _ ?_
    try clear hK8 K8
    refine scode_if (b := false) (by simp [go_sem]) (fun h => by cases h) (fun _ => ?_)
    refine scode_seq_k (fun K9 hK9 => ?_)
    refine scode_region (by kernel_rfl) ?_
    simp [go_sem]
    refine hK9 _ _ ?_
    try clear hK9 K9
    refine scode_if (b := false) (by simp [go_sem]) (fun h => by cases h) (fun _ => ?_)
    refine scode_seq_k (fun K10 hK10 => ?_)
    refine scode_region (by kernel_rfl) ?_
    simp [go_sem]
    refine hK10 _ _ ?_
    try clear hK10 K10
    refine scode_if (b := false) (by simp [go_sem]) (fun h => by cases h) (fun _ => ?_)
    refine scode_skip ?_
    refine hK5 _ _ ?_
    try clear hK5 K5
    refine scode_seq_k (fun K11 hK11 => ?_)
    refine scode_region (by kernel_rfl) ?_
    simp [go_sem, e2, e5, g1, g2, bA]
    refine hK11 _ _ ?_
    try clear hK11 K11
    refine scode_ret ?_
    simp only [go_sem]
    refine hR _ _ ?_
    have hres : spareI ⟨d, en, n, p, b⟩ = ⟨d, en, 0, 0, []⟩ := by simp only [spareI, hk]
    rw [hres]
    refine ret_pure (v := .agg [.int d, .int en, .int 0, .int 0, .nil]) (by simp [go_sem, e2, g1, bA]) ?_ (empty_le _) (Nat.zero_le _) (by simp [evI, go_sem, bA_lt])
    exact .aggL (.cons (.same _) (.cons (.same _) (.cons (.same _) (.cons (.same _) (.cons (.nil 1) .nil)))))
  · skip
    have hh : hasI d = 110 := by simp only [hasI, hk]
    rw [hh] at e4
    refine scode_region (by kernel_rfl) ?_
    simp [go_sem, e4]
    refine hK6 _ _ ?_
    try clear hK6 K6
    refine scode_block ?_
    refine scode_seq_k (fun K12 hK12 => ?_)
    refine scode_region (by kernel_rfl) ?_
    simp [go_sem]
    refine hK12 _ _ ?_
    try clear hK12 K12
    refine scode_if (b := false) (by simp [go_sem]) (fun h => by cases h) (fun _ => ?_)
    refine scode_seq_k (fun K13 hK13 => ?_)
    refine scode_region (by kernel_rfl) ?_
    simp [go_sem]
    refine hK13 _ _ ?_
    try clear hK13 K13
    refine scode_if (b := true) (by simp [go_sem]) (fun _ => ?_) (fun h => by cases h)
    refine scode_region (by kernel_rfl) ?_
    simp [go_sem, e1, e5, g0, g2]
    refine hK5 _ _ ?_
    try clear hK5 K5
    refine scode_seq_k (fun K14 hK14 => ?_)
    refine scode_region (by kernel_rfl) ?_
    simp [go_sem, e2, e5, g1, g2, bA]
    refine hK14 _ _ ?_
    try clear hK14 K14
    refine scode_ret ?_
    simp only [go_sem]
    refine hR _ _ ?_
    have hres : spareI ⟨d, en, n, p, b⟩ = ⟨d, en, n, 0, []⟩ := by simp only [spareI, hk]
    rw [hres]
    refine ret_pure (v := .agg [.int d, .int en, .int n, .int 0, .nil]) (by simp [go_sem, e2, g1, bA]) ?_ (empty_le _) (Nat.zero_le _) (by simp [evI, go_sem, bA_lt])
    exact .aggL (.cons (.same _) (.cons (.same _) (.cons (.same _) (.cons (.same _) (.cons (.nil 1) .nil)))))
  · skip
    have hh : hasI d = 112 := by simp only [hasI, hk]
    rw [hh] at e4
    refine scode_region (by kernel_rfl) ?_
    simp [go_sem, e4]
    refine hK6 _ _ ?_
    try clear hK6 K6
    refine scode_block ?_
    refine scode_seq_k (fun K15 hK15 => ?_)
    refine scode_region (by kernel_rfl) ?_
    simp [go_sem]
    refine hK15 _ _ ?_
    try clear hK15 K15
    refine scode_if (b := true) (by simp [go_sem]) (fun _ => ?_) (fun h => by cases h)
    refine scode_seq_k (fun K16 hK16 => ?_)
    refine scode_region (by kernel_rfl) ?_
    simp [go_sem, e1, e5, g0, g2]
    refine hK16 _ _ ?_
    try clear hK16 K16
    refine scode_region (by kernel_rfl) ?_
    simp [go_sem, e1, e5, g0, g2, bA]
    refine hK5 _ _ ?_
    try clear hK5 K5
    refine scode_seq_k (fun K17 hK17 => ?_)
    refine scode_region (by kernel_rfl) ?_
    simp [go_sem, e2, e5, g1, g2, bA]
    refine hK17 _ _ ?_
    try clear hK17 K17
    refine scode_ret ?_
    simp only [go_sem]
    refine hR _ _ ?_
    have hres : spareI ⟨d, en, n, p, b⟩ = ⟨d, en, 0, p, b⟩ := by simp only [spareI, hk]
    rw [hres]
    refine ret_pure (v := .agg [.int d, .int en, .int 0, .int p, bA b]) (by simp [go_sem, e2, g1, bA]) ?_ (empty_le _) (Nat.zero_le _) (by simp [evI, go_sem, bA_lt])
    exact .aggL (.cons (.same _) (.cons (.same _) (.cons (.same _) (.cons (.same _) (.cons (.same _) .nil)))))
  · skip
    have hh : hasI d = 109 := by simp only [hasI, hk]
    rw [hh] at e4
    refine scode_region (by kernel_rfl) ?_
    simp [go_sem, e4]
    refine hK6 _ _ ?_
    try clear hK6 K6
    refine scode_block ?_
    refine scode_seq_k (fun K18 hK18 => ?_)
    refine scode_region (by kernel_rfl) ?_
    simp [go_sem]
    refine hK18 _ _ ?_
    try clear hK18 K18
    refine scode_if (b := false) (by simp [go_sem]) (fun h => by cases h) (fun _ => ?_)
    refine scode_seq_k (fun K19 hK19 => ?_)
    refine scode_region (by kernel_rfl) ?_
    simp [go_sem]
    refine hK19 _ _ ?_
    try clear hK19 K19
    refine scode_if (b := false) (by simp [go_sem]) (fun h => by cases h) (fun _ => ?_)
    refine scode_seq_k (fun K20 hK20 => ?_)
    refine scode_region (by kernel_rfl) ?_
    simp [go_sem]
    refine hK20 _ _ ?_
    try clear hK20 K20
    refine scode_if (b := true) (by simp [go_sem]) (fun _ => ?_) (fun h => by cases h)
    refine scode_seq_k (fun K21 hK21 => ?_)
    refine scode_region (by kernel_rfl) ?_
    simp [go_sem, e1, e5, g0, g2]
    refine hK21 _ _ ?_
    try clear hK21 K21
    refine scode_region (by kernel_rfl) ?_
    simp [go_sem, e1, e5, g0, g2, bA]
    refine hK5 _ _ ?_
    try clear hK5 K5
    refine scode_seq_k (fun K22 hK22 => ?_)
    refine scode_region (by kernel_rfl) ?_
    simp [go_sem, e2, e5, g1, g2, bA]
    refine hK22 _ _ ?_
    try clear hK22 K22
    refine scode_ret ?_
    simp only [go_sem]
    refine hR _ _ ?_
    have hres : spareI ⟨d, en, n, p, b⟩ = ⟨d, en, n, 0, b⟩ := by simp only [spareI, hk]
    rw [hres]
    refine ret_pure (v := .agg [.int d, .int en, .int n, .int 0, bA b]) (by simp [go_sem, e2, g1, bA]) ?_ (empty_le _) (Nat.zero_le _) (by simp [evI, go_sem, bA_lt])
    exact .aggL (.cons (.same _) (.cons (.same _) (.cons (.same _) (.cons (.same _) (.cons (.same _) .nil)))))
  · skip
    have hh : hasI d = 98 := by simp only [hasI, hk]
    rw [hh] at e4
    refine scode_region (by kernel_rfl) ?_
    simp [go_sem, e4]
    refine hK6 _ _ ?_
    try clear hK6 K6
    refine scode_block ?_
    refine scode_seq_k (fun K23 hK23 => ?_)
    refine scode_region (by kernel_rfl) ?_
    simp [go_sem]
    refine hK23 _ _ ?_
    try clear hK23 K23
    refine scode_if (b := false) (by simp [go_sem]) (fun h => by cases h) (fun _ => ?_)
    refine scode_seq_k (fun K24 hK24 => ?_)
    refine scode_region (by kernel_rfl) ?_
    simp [go_sem]
    refine hK24 _ _ ?_
    try clear hK24 K24
    refine scode_if (b := false) (by simp [go_sem]) (fun h => by cases h) (fun _ => ?_)
    refine scode_seq_k (fun K25 hK25 => ?_)
    refine scode_region (by kernel_rfl) ?_
    simp [go_sem]
    refine hK25 _ _ ?_
    try clear hK25 K25
    refine scode_if (b := false) (by simp [go_sem]) (fun h => by cases h) (fun _ => ?_)
    refine scode_seq_k (fun K26 hK26 => ?_)
    refine scode_region (by kernel_rfl) ?_
    simp [go_sem]
    refine hK26 _ _ ?_
    try clear hK26 K26
    refine scode_if (b := true) (by simp [go_sem]) (fun _ => ?_) (fun h => by cases h)
    refine scode_region (by kernel_rfl) ?_
    simp [go_sem, e1, e5, g0, g2, bA]
    refine hK5 _ _ ?_
    try clear hK5 K5
    refine scode_seq_k (fun K27 hK27 => ?_)
    refine scode_region (by kernel_rfl) ?_
    simp [go_sem, e2, e5, g1, g2, bA]
    refine hK27 _ _ ?_
    try clear hK27 K27
    refine scode_ret ?_
    simp only [go_sem]
    refine hR _ _ ?_
    have hres : spareI ⟨d, en, n, p, b⟩ = ⟨d, en, 0, 0, b⟩ := by simp only [spareI, hk]
    rw [hres]
    refine ret_pure (v := .agg [.int d, .int en, .int 0, .int 0, bA b]) (by simp [go_sem, e2, g1, bA]) ?_ (empty_le _) (Nat.zero_le _) (by simp [evI, go_sem, bA_lt])
    exact .aggL (.cons (.same _) (.cons (.same _) (.cons (.same _) (.cons (.same _) (.cons (.same _) .nil)))))

end Go.Proofs.YtfmpakmigmehkaaGreatDoor
