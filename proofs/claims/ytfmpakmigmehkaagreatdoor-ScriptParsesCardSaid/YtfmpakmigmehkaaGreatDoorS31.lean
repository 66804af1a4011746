/- Contracts: Spare. -/
import Derived.Test.YtfmpakmigmehkaaGreatDoorFl43
import Derived.Test.YtfmpakmigmehkaaGreatDoorS28
set_option linter.unusedVariables false
set_option linter.unusedSimpArgs false
set_option maxRecDepth 20000
noncomputable section S31S
namespace Go.Proofs.YtfmpakmigmehkaaGreatDoor
open Go Go.Fl Go.Proofs

def spareI (e : EvI) : EvI := match evKind e.do_.toNat with
  | 1 => ⟨e.do_, e.end_, e.n, 0, []⟩
  | 2 => ⟨e.do_, e.end_, 0, e.proto, e.b⟩
  | 3 => ⟨e.do_, e.end_, e.n, 0, e.b⟩
  | 4 => ⟨e.do_, e.end_, 0, 0, e.b⟩
  | _ => ⟨e.do_, e.end_, 0, 0, []⟩
theorem rname_H (d : Int) (H : Heap) : SCalls Tryz.prog 34 [.int d] H (.tup [sA (nmI d), .sc (.int .u8 (hasI d))]) H := scalls_frame (rname_s d) (by simp [go_sem]) (by simp [go_sem]) H
theorem kinds (d : Nat) : evKind d = 0 ∨ evKind d = 1 ∨ evKind d = 2 ∨ evKind d = 3 ∨ evKind d = 4 := by have := kind_le d; omega

theorem spare_s (e : EvI) : SCalls Tryz.prog 16 [.agg (evI e)] Heap.empty (.agg (evI (spareI e))) Heap.empty := by
  obtain ⟨d, en, n, p, b⟩ := e
  refine scalls_of_k (sz := 45) (Tryz.call16) Tryz.func16 rfl (Nat.zero_le _) (by kernel_rfl) (fun R hR => ?_)
  refine scode_seq_k (fun K1 hK1 => ?_)
  refine scode_region (by kernel_rfl) ?_
  simp [go_sem, evI]
  refine hK1 _ _ ?_
  try clear hK1 K1
  refine scode_seq_k (fun K2 hK2 => ?_)
  have cn := rname_H d
  refine scode_region (by kernel_rfl) ?_
  refine w_take 3 (fun K3 hK3 => ?_)
  simp [go_sem]
  refine ⟨_, _, cn _, ?_⟩
  refine hK3 _ _ ?_
  clear hK3 K3
  simp [go_sem]
  refine hK2 _ _ ?_
  try clear hK2 K2
  refine scode_seq_mid (fun env H => env 1 = .ptr 0 0 ∧ env 2 = .ptr 1 0 ∧ env 4 = .sc (.int .u8 (hasI d)) ∧ env 5 = .ptr 2 0 ∧ H.get 0 = some [.int d, .int en, .int n, .int p, bA b] ∧ H.get 1 = some [.int 0, .int 0, .int 0, .int 0, .nil] ∧ H.get 2 = some [.int d, .int en, .int 0, .int 0, .nil]) ?_ ?_
  · skip
    refine scode_region (by kernel_rfl) ?_
    simp [go_sem, zrep5]
    first
      | done
      | rfl
  rintro env H ⟨e1, e2, e4, e5, g0, g1, g2⟩
  refine scode_seq_k (fun K5 hK5 => ?_)
  refine scode_seq_k (fun K6 hK6 => ?_)
  rcases kinds d.toNat with hk | hk | hk | hk | hk
  · skip
    have hh : hasI d = 0 := by simp only [hasI, hk]
    rw [hh] at e4
    refine scode_region (by kernel_rfl) ?_
    simp [go_sem, e4]
    refine hK6 _ _ ?_
    try clear hK6 K6
    refine scode_block ?_
    refine scode_seq_k (fun K7 hK7 => ?_)
    refine scode_region (by kernel_rfl) ?_
    simp [go_sem]
    refine hK7 _ _ ?_
    try clear hK7 K7
    refine scode_if (b := false) (by simp [go_sem]) (fun h => by cases h) (fun _ => ?_)
    refine scode_seq_k (fun K8 hK8 => ?_)
    refine scode_region (by kernel_rfl) ?_
    simp [go_sem]
    refine hK8 _ _ ?_
    try clear hK8 K8
    refine scode_if (b := false) (by simp [go_sem]) (fun h => by cases h) (fun _ => ?_)
    refine scode_seq_k (fun K9 hK9 => ?_)
    refine scode_region (by kernel_rfl) ?_
    simp [go_sem]
    refine hK9 _ _ ?_
    try clear hK9 K9
    refine scode_if (b := false) (by simp [go_sem]) (fun h => by cases h) (fun _ => ?_)
    refine scode_seq_k (fun K10 hK10 => ?_)
    refine scode_region (by kernel_rfl) ?_
    simp [go_sem]
    refine hK10 _ _ ?_
    try clear hK10 K10
    refine scode_if (b := false) (by simp [go_sem]) (fun h => by cases h) (fun _ => ?_)
    refine scode_skip ?_
    refine hK5 _ _ ?_
    try clear hK5 K5
    refine scode_seq_k (fun K11 hK11 => ?_)
    refine scode_region (by kernel_rfl) ?_
    simp [go_sem, e2, e5, g1, g2, bA]
    refine hK11 _ _ ?_
    try clear hK11 K11
    refine scode_ret ?_
    simp only [go_sem]
    refine hR _ _ ?_
    have hres : spareI ⟨d, en, n, p, b⟩ = ⟨d, en, 0, 0, []⟩ := by simp only [spareI, hk]
    rw [hres]
    refine ret_pure (v := .agg [.int d, .int en, .int 0, .int 0, .nil]) (by simp [go_sem, e2, g1, bA]) ?_ (empty_le _) (Nat.zero_le _) (by simp [evI, go_sem, bA_lt])
    exact .aggL (.cons (.same _) (.cons (.same _) (.cons (.same _) (.cons (.same _) (.cons (.nil 1) .nil)))))
  · skip
    have hh : hasI d = 110 := by simp only [hasI, hk]
    rw [hh] at e4
    refine scode_region (by kernel_rfl) ?_
    simp [go_sem, e4]
    refine hK6 _ _ ?_
    try clear hK6 K6
    refine scode_block ?_
    refine scode_seq_k (fun K12 hK12 => ?_)
    refine scode_region (by kernel_rfl) ?_
    simp [go_sem]
    refine hK12 _ _ ?_
    try clear hK12 K12
    refine scode_if (b := false) (by simp [go_sem]) (fun h => by cases h) (fun _ => ?_)
    refine scode_seq_k (fun K13 hK13 => ?_)
    refine scode_region (by kernel_rfl) ?_
    simp [go_sem]
    refine hK13 _ _ ?_
    try clear hK13 K13
    refine scode_if (b := true) (by simp [go_sem]) (fun _ => ?_) (fun h => by cases h)
    refine scode_region (by kernel_rfl) ?_
    simp [go_sem, e1, e5, g0, g2]
    refine hK5 _ _ ?_
    try clear hK5 K5
    refine scode_seq_k (fun K14 hK14 => ?_)
    refine scode_region (by kernel_rfl) ?_
    simp [go_sem, e2, e5, g1, g2, bA]
    refine hK14 _ _ ?_
    try clear hK14 K14
    refine scode_ret ?_
    simp only [go_sem]
    refine hR _ _ ?_
    have hres : spareI ⟨d, en, n, p, b⟩ = ⟨d, en, n, 0, []⟩ := by simp only [spareI, hk]
    rw [hres]
    refine ret_pure (v := .agg [.int d, .int en, .int n, .int 0, .nil]) (by simp [go_sem, e2, g1, bA]) ?_ (empty_le _) (Nat.zero_le _) (by simp [evI, go_sem, bA_lt])
    exact .aggL (.cons (.same _) (.cons (.same _) (.cons (.same _) (.cons (.same _) (.cons (.nil 1) .nil)))))
  · skip
    have hh : hasI d = 112 := by simp only [hasI, hk]
    rw [hh] at e4
    refine scode_region (by kernel_rfl) ?_
    simp [go_sem, e4]
    refine hK6 _ _ ?_
    try clear hK6 K6
    refine scode_block ?_
    refine scode_seq_k (fun K15 hK15 => ?_)
    refine scode_region (by kernel_rfl) ?_
    simp [go_sem]
    refine hK15 _ _ ?_
    try clear hK15 K15
    refine scode_if (b := true) (by simp [go_sem]) (fun _ => ?_) (fun h => by cases h)
    refine scode_seq_k (fun K16 hK16 => ?_)
    refine scode_region (by kernel_rfl) ?_
    simp [go_sem, e1, e5, g0, g2]
    refine hK16 _ _ ?_
    try clear hK16 K16
    refine scode_region (by kernel_rfl) ?_
    simp [go_sem, e1, e5, g0, g2, bA]
    refine hK5 _ _ ?_
    try clear hK5 K5
    refine scode_seq_k (fun K17 hK17 => ?_)
    refine scode_region (by kernel_rfl) ?_
    simp [go_sem, e2, e5, g1, g2, bA]
    refine hK17 _ _ ?_
    try clear hK17 K17
    refine scode_ret ?_
    simp only [go_sem]
    refine hR _ _ ?_
    have hres : spareI ⟨d, en, n, p, b⟩ = ⟨d, en, 0, p, b⟩ := by simp only [spareI, hk]
    rw [hres]
    refine ret_pure (v := .agg [.int d, .int en, .int 0, .int p, bA b]) (by simp [go_sem, e2, g1, bA]) ?_ (empty_le _) (Nat.zero_le _) (by simp [evI, go_sem, bA_lt])
    exact .aggL (.cons (.same _) (.cons (.same _) (.cons (.same _) (.cons (.same _) (.cons (.same _) .nil)))))
  · skip
    have hh : hasI d = 109 := by simp only [hasI, hk]
    rw [hh] at e4
    refine scode_region (by kernel_rfl) ?_
    simp [go_sem, e4]
    refine hK6 _ _ ?_
    try clear hK6 K6
    refine scode_block ?_
    refine scode_seq_k (fun K18 hK18 => ?_)
    refine scode_region (by kernel_rfl) ?_
    simp [go_sem]
    refine hK18 _ _ ?_
    try clear hK18 K18
    refine scode_if (b := false) (by simp [go_sem]) (fun h => by cases h) (fun _ => ?_)
    refine scode_seq_k (fun K19 hK19 => ?_)
    refine scode_region (by kernel_rfl) ?_
    simp [go_sem]
    refine hK19 _ _ ?_
    try clear hK19 K19
    refine scode_if (b := false) (by simp [go_sem]) (fun h => by cases h) (fun _ => ?_)
    refine scode_seq_k (fun K20 hK20 => ?_)
    refine scode_region (by kernel_rfl) ?_
    simp [go_sem]
    refine hK20 _ _ ?_
    try clear hK20 K20
    refine scode_if (b := true) (by simp [go_sem]) (fun _ => ?_) (fun h => by cases h)
    refine scode_seq_k (fun K21 hK21 => ?_)
    refine scode_region (by kernel_rfl) ?_
    simp [go_sem, e1, e5, g0, g2]
    refine hK21 _ _ ?_
    try clear hK21 K21
    refine scode_region (by kernel_rfl) ?_
    simp [go_sem, e1, e5, g0, g2, bA]
    refine hK5 _ _ ?_
    try clear hK5 K5
    refine scode_seq_k (fun K22 hK22 => ?_)
    refine scode_region (by kernel_rfl) ?_
    simp [go_sem, e2, e5, g1, g2, bA]
    refine hK22 _ _ ?_
    try clear hK22 K22
    refine scode_ret ?_
    simp only [go_sem]
    refine hR _ _ ?_
    have hres : spareI ⟨d, en, n, p, b⟩ = ⟨d, en, n, 0, b⟩ := by simp only [spareI, hk]
    rw [hres]
    refine ret_pure (v := .agg [.int d, .int en, .int n, .int 0, bA b]) (by simp [go_sem, e2, g1, bA]) ?_ (empty_le _) (Nat.zero_le _) (by simp [evI, go_sem, bA_lt])
    exact .aggL (.cons (.same _) (.cons (.same _) (.cons (.same _) (.cons (.same _) (.cons (.same _) .nil)))))
  · skip
    have hh : hasI d = 98 := by simp only [hasI, hk]
    rw [hh] at e4
    refine scode_region (by kernel_rfl) ?_
    simp [go_sem, e4]
    refine hK6 _ _ ?_
    try clear hK6 K6
    refine scode_block ?_
    refine scode_seq_k (fun K23 hK23 => ?_)
    refine scode_region (by kernel_rfl) ?_
    simp [go_sem]
    refine hK23 _ _ ?_
    try clear hK23 K23
    refine scode_if (b := false) (by simp [go_sem]) (fun h => by cases h) (fun _ => ?_)
    refine scode_seq_k (fun K24 hK24 => ?_)
    refine scode_region (by kernel_rfl) ?_
    simp [go_sem]
    refine hK24 _ _ ?_
    try clear hK24 K24
    refine scode_if (b := false) (by simp [go_sem]) (fun h => by cases h) (fun _ => ?_)
    refine scode_seq_k (fun K25 hK25 => ?_)
    refine scode_region (by kernel_rfl) ?_
    simp [go_sem]
    refine hK25 _ _ ?_
    try clear hK25 K25
    refine scode_if (b := false) (by simp [go_sem]) (fun h => by cases h) (fun _ => ?_)
    refine scode_seq_k (fun K26 hK26 => ?_)
    refine scode_region (by kernel_rfl) ?_
    simp [go_sem]
    refine hK26 _ _ ?_
    try clear hK26 K26
    refine scode_if (b := true) (by simp [go_sem]) (fun _ => ?_) (fun h => by cases h)
    refine scode_region (by kernel_rfl) ?_
    simp [go_sem, e1, e5, g0, g2, bA]
    refine hK5 _ _ ?_
    try clear hK5 K5
    refine scode_seq_k (fun K27 hK27 => ?_)
    refine scode_region (by kernel_rfl) ?_
    simp [go_sem, e2, e5, g1, g2, bA]
    refine hK27 _ _ ?_
    try clear hK27 K27
    refine scode_ret ?_
    simp only [go_sem]
    refine hR _ _ ?_
    have hres : spareI ⟨d, en, n, p, b⟩ = ⟨d, en, 0, 0, b⟩ := by simp only [spareI, hk]
    rw [hres]
    refine ret_pure (v := .agg [.int d, .int en, .int 0, .int 0, bA b]) (by simp [go_sem, e2, g1, bA]) ?_ (empty_le _) (Nat.zero_le _) (by simp [evI, go_sem, bA_lt])
    exact .aggL (.cons (.same _) (.cons (.same _) (.cons (.same _) (.cons (.same _) (.cons (.same _) .nil)))))

end Go.Proofs.YtfmpakmigmehkaaGreatDoor
end S31S

set_option maxRecDepth 20000
noncomputable section S32S
namespace Go.Proofs.YtfmpakmigmehkaaGreatDoor
open Go Go.Fl Go.Proofs

theorem appE3 {H : Heap} {x : AV} {n : Nat} {cs : List AV} {bo : Option Nat} (e : EvI) (hg : grown H 5 x = some (n, cs, bo)) (hn : n ≤ 1000000) : aappend Tryz.prog (H.alloc (evI e)) 30 30 x (.ms H.next 0 1 5) = some (.ms (H.next + 1) 0 (n + 1) 5, (H.alloc (evI e)).regrow bo (cs ++ evI e)) ∧
    grown ((H.alloc (evI e)).regrow bo (cs ++ evI e)) 5 (.ms (H.next + 1) 0 (n + 1) 5) = some (n + 1, cs ++ evI e, some (H.next + 1)) :=
  app_one (P := Tryz.prog) (new := evI e) tU30 tS44 tB44 tZ44 rfl rfl rfl hg (by omega) (by omega)
theorem bV_at {b : Word} {i : Nat} (h : i < b.length) : ∃ c r, (bV b).drop i = .sc (.int .u8 c) :: r := by
  obtain ⟨x, hx⟩ := get_of_lt b i h
  refine ⟨x.toNat, bV (b.drop (i + 1)), ?_⟩
  have hi := (List.getElem?_eq_some_iff.1 hx)
  unfold bV
  rw [← List.map_drop, List.drop_eq_getElem_cons hi.1, hi.2]
  rfl
theorem bV_length (b : Word) : (bV b).length = b.length := by unfold bV; simp

theorem Same_s (b : Word) (hn : b.length ≤ 1000000) : SCalls Tryz.prog 25 [bA b, bA b] Heap.empty (.bool true) Heap.empty := by
  have hLb := bV_length b
  refine scalls_of_k (sz := 26) (Tryz.call25) Tryz.func25 rfl (Nat.zero_le _) (by kernel_rfl) (fun R hR => ?_)
  refine scode_seq_k (fun K1 hK1 => ?_)
  refine scode_region (by kernel_rfl) ?_
  simp [go_sem]
  refine hK1 _ _ ?_
  try clear hK1 K1
  refine scode_seq_k (fun K2 hK2 => ?_)
  refine scode_seq_k (fun K3 hK3 => ?_)
  refine scode_region (by kernel_rfl) ?_
  simp [go_sem, bA]
  refine hK3 _ _ ?_
  try clear hK3 K3
  refine scode_if (b := false) (by simp [go_sem]) (fun h => by cases h) (fun _ => ?_)
  refine scode_skip ?_
  refine hK2 _ _ ?_
  try clear hK2 K2
  refine scode_seq_k (fun K4 hK4 => ?_)
  refine scode_seq_k (fun K5 hK5 => ?_)
  refine scode_region (by kernel_rfl) ?_
  simp [go_sem]
  refine hK5 _ _ ?_
  try clear hK5 K5
  refine scode_block ?_
  refine scode_loop (Inv := fun n env H => ∃ i : Nat, n = b.length - i ∧ i ≤ b.length ∧ env 0 = .vs b.length 1 (bV b) ∧ env 1 = .vs b.length 1 (bV b) ∧ env 5 = .int i) ?_ (n := b.length) (⟨0, rfl, by omega, by simp [go_sem, bA], by simp [go_sem, bA], by simp [go_sem]⟩)
  rintro n env H ⟨i, rfl, hi, e0, e1, e5⟩
  refine scode_seq_k (fun K6 hK6 => ?_)
  refine scode_seq_k (fun K7 hK7 => ?_)
  refine scode_region (by kernel_rfl) ?_
  simp [go_sem, e0, e5]
  refine hK7 _ _ ?_
  try clear hK7 K7
  refine scode_if (b := decide (i < b.length)) (by simp [go_sem]) (fun hb => ?_) (fun hb => ?_)
  · skip
    simp only [decide_eq_true_eq] at hb
    obtain ⟨c, r, hd⟩ := bV_at hb
    refine scode_skip ?_
    refine hK6 _ _ ?_
    try clear hK6 K6
    refine scode_seq_k (fun K8 hK8 => ?_)
    refine scode_block ?_
    refine scode_seq_k (fun K9 hK9 => ?_)
    refine scode_drawS mixed (by kernel_rfl) ?_
    simp [go_sem, e0, e1, e5, hd, hb, hLb]
    refine hK9 _ _ ?_
    try clear hK9 K9
    refine scode_if (b := false) (by simp [go_sem]) (fun h => by cases h) (fun _ => ?_)
    refine scode_skip ?_
    refine hK8 _ _ ?_
    try clear hK8 K8
    refine scode_region (by kernel_rfl) ?_
    simp [go_sem, e5]
    have hw := i64_succ i (by omega)
    exact ⟨b.length - (i + 1), by omega, i + 1, rfl, by omega, by simp [go_sem, e0], by simp [go_sem, e1], by simp [go_sem, hw]⟩
  · skip
    simp only [decide_eq_false_iff_not] at hb
    refine scode_exit ?_
    refine hK4 _ _ ?_
    try clear hK4 K4
    refine scode_seq_k (fun K10 hK10 => ?_)
    refine scode_region (by kernel_rfl) ?_
    simp [go_sem]
    refine hK10 _ _ ?_
    try clear hK10 K10
    refine scode_ret ?_
    simp only [go_sem]
    refine hR _ _ ?_
    exact ret_plain (by simp [go_sem]) (empty_le _) (Nat.zero_le _) (by simp [go_sem])

theorem Same_H (b : Word) (hn : b.length ≤ 1000000) (H : Heap) : SCalls Tryz.prog 25 [.vs b.length 1 (bV b), .vs b.length 1 (bV b)] H (.bool true) H := scalls_frame (Same_s b hn) (by simp [go_sem, bA_lt]) (by simp [go_sem]) H

set_option maxHeartbeats 4000000 in
theorem same_s (l : List EvI) (hn : l.length ≤ 1000000) (hl : ∀ e ∈ l, e.b.length ≤ 1000000) : SCalls Tryz.prog 10 [eA l, eA l] Heap.empty (.bool true) Heap.empty := by
  have hLk : (eV l).length = l.length * 5 := eV_len l
  refine scalls_of_k (sz := 81) (Tryz.call10) Tryz.func10 rfl (Nat.zero_le _) (by kernel_rfl) (fun R hR => ?_)
  refine scode_seq_k (fun K1 hK1 => ?_)
  refine scode_region (by kernel_rfl) ?_
  simp [go_sem]
  refine hK1 _ _ ?_
  try clear hK1 K1
  refine scode_seq_k (fun K2 hK2 => ?_)
  refine scode_seq_k (fun K3 hK3 => ?_)
  refine scode_region (by kernel_rfl) ?_
  simp [go_sem, eA]
  refine hK3 _ _ ?_
  try clear hK3 K3
  refine scode_if (b := false) (by simp [go_sem]) (fun h => by cases h) (fun _ => ?_)
  refine scode_skip ?_
  refine hK2 _ _ ?_
  try clear hK2 K2
  refine scode_seq_k (fun K4 hK4 => ?_)
  refine scode_seq_k (fun K5 hK5 => ?_)
  refine scode_region (by kernel_rfl) ?_
  simp [go_sem]
  refine hK5 _ _ ?_
  try clear hK5 K5
  refine scode_block ?_
  refine scode_loop (Inv := fun n env H => ∃ i : Nat, n = l.length - i ∧ i ≤ l.length ∧ env 0 = .vs l.length 5 (eV l) ∧ env 1 = .vs l.length 5 (eV l) ∧ env 5 = .int i) ?_ (n := l.length) (⟨0, rfl, by omega, by simp [go_sem, eA], by simp [go_sem, eA], by simp [go_sem]⟩)
  rintro n env H ⟨i, rfl, hi, e0, e1, e5⟩
  refine scode_seq_k (fun K6 hK6 => ?_)
  refine scode_seq_k (fun K7 hK7 => ?_)
  refine scode_region (by kernel_rfl) ?_
  simp [go_sem, e0, e5]
  refine hK7 _ _ ?_
  try clear hK7 K7
  refine scode_if (b := decide (i < l.length)) (by simp [go_sem]) (fun hb => ?_) (fun hb => ?_)
  · skip
    simp only [decide_eq_true_eq] at hb
    obtain ⟨e, he⟩ := get_of_lt l i hb
    obtain ⟨r, hdr, hrl⟩ := eV_cell he
    have cs := Same_H e.b (hl e (List.mem_of_getElem? he))
    refine scode_skip ?_
    refine hK6 _ _ ?_
    try clear hK6 K6
    refine scode_seq_k (fun K8 hK8 => ?_)
    refine scode_block ?_
    refine scode_seq_k (fun K9 hK9 => ?_)
    refine scode_drawS mixed (by kernel_rfl) ?_
    refine ws_take 12 (fun K10 hK10 => ?_)
    simp [go_sem, e0, e1, e5, hdr, hb, hrl, hLk, bA]
    refine hK10 _ _ ?_
    clear hK10 K10
    refine ws_take 12 (fun K11 hK11 => ?_)
    simp [go_sem, e0, e1, e5, hdr, hb, hrl, hLk, bA]
    refine hK11 _ _ ?_
    clear hK11 K11
    refine ws_take 13 (fun K12 hK12 => ?_)
    simp [go_sem, e0, e1, e5, hdr, hb, hrl, hLk, bA]
    refine hK12 _ _ ?_
    clear hK12 K12
    refine ws_take 13 (fun K13 hK13 => ?_)
    simp [go_sem, e0, e1, e5, hdr, hb, hrl, hLk, bA]
    refine hK13 _ _ ?_
    clear hK13 K13
    refine ws_take 12 (fun K14 hK14 => ?_)
    simp [go_sem, e0, e1, e5, hdr, hb, hrl, hLk, bA]
    refine ⟨_, _, cs _, rfl, ?_⟩
    refine hK14 _ _ ?_
    clear hK14 K14
    simp [go_sem, e0, e1, e5, hdr, hb, hrl, hLk, bA]
    refine hK9 _ _ ?_
    try clear hK9 K9
    refine scode_if (b := false) (by simp [go_sem]) (fun h => by cases h) (fun _ => ?_)
    refine scode_skip ?_
    refine hK8 _ _ ?_
    try clear hK8 K8
    refine scode_region (by kernel_rfl) ?_
    simp [go_sem, e5]
    have hw := i64_succ i (by omega)
    exact ⟨l.length - (i + 1), by omega, i + 1, rfl, by omega, by simp [go_sem, e0], by simp [go_sem, e1], by simp [go_sem, hw]⟩
  · skip
    simp only [decide_eq_false_iff_not] at hb
    refine scode_exit ?_
    refine hK4 _ _ ?_
    try clear hK4 K4
    refine scode_seq_k (fun K15 hK15 => ?_)
    refine scode_region (by kernel_rfl) ?_
    simp [go_sem]
    refine hK15 _ _ ?_
    try clear hK15 K15
    refine scode_ret ?_
    simp only [go_sem]
    refine hR _ _ ?_
    exact ret_plain (by simp [go_sem]) (empty_le _) (Nat.zero_le _) (by simp [go_sem])

set_option maxHeartbeats 4000000 in
theorem evs11_s (l : List EvI) (hn : l.length ≤ 1000000) : SCalls Tryz.prog 11 [eA l] Heap.empty (eA l) Heap.empty := by
  have hLk : (eV l).length = l.length * 5 := eV_len l
  refine scalls_of_k (sz := 41) (Tryz.call11) Tryz.func11 rfl (Nat.zero_le _) (by kernel_rfl) (fun R hR => ?_)
  refine scode_seq_k (fun K1 hK1 => ?_)
  refine scode_region (by kernel_rfl) ?_
  simp [go_sem]
  refine hK1 _ _ ?_
  try clear hK1 K1
  refine scode_seq_k (fun K2 hK2 => ?_)
  refine scode_region (by kernel_rfl) ?_
  simp [go_sem]
  refine hK2 _ _ ?_
  try clear hK2 K2
  refine scode_seq_k (fun K3 hK3 => ?_)
  refine scode_seq_k (fun K4 hK4 => ?_)
  refine scode_region (by kernel_rfl) ?_
  simp [go_sem]
  refine hK4 _ _ ?_
  try clear hK4 K4
  refine scode_block ?_
  refine scode_loop (Inv := fun n env H => ∃ i : Nat, n = l.length - i ∧ i ≤ l.length ∧ env 0 = .vs l.length 5 (eV l) ∧ env 4 = .int i ∧ EvSt l i env H) ?_ (n := l.length) (⟨0, rfl, by omega, by simp [go_sem, eA], by simp [go_sem], .nil, none, by simp [go_sem], rfl⟩)
  rintro n env H ⟨i, rfl, hi, e0, e4, x, bo, e3, hg⟩
  refine scode_seq_k (fun K5 hK5 => ?_)
  refine scode_seq_k (fun K6 hK6 => ?_)
  refine scode_region (by kernel_rfl) ?_
  simp [go_sem, e0, e4]
  refine hK6 _ _ ?_
  try clear hK6 K6
  refine scode_if (b := decide (i < l.length)) (by simp [go_sem]) (fun hb => ?_) (fun hb => ?_)
  · skip
    simp only [decide_eq_true_eq] at hb
    obtain ⟨e, he⟩ := get_of_lt l i hb
    obtain ⟨r, hdr, hrl⟩ := eV_cell he
    have hcl : (l.take (i + 1)).length = (l.take i).length + 1 ∧ eV (l.take (i + 1)) = eV (l.take i) ++ evI e := by
      rw [List.take_add_one, he]
      exact ⟨by simp, by rw [eV_app]; simp [eV]⟩
    obtain ⟨ha, hg2⟩ := appE3 e hg (by simp; omega)
    unfold evI bA at ha
    refine scode_skip ?_
    refine hK5 _ _ ?_
    try clear hK5 K5
    refine scode_seq_k (fun K7 hK7 => ?_)
    refine scode_block ?_
    refine scode_drawST (bf := [0, 0, 0, 6, 14, 30, 0, 0, 192, 448, 960, 0, 0, 6144, 14336, 30720, 0, 0, 196608, 458752, 983040, 0, 0, 6291456, 14680064, 31457280, 67108862, 134217726, 268435455, 536870911]) 27 mixed (by kernel_rfl) (by kernel_rfl) (by kernel_rfl) (fun K99 hK99 => ?_)
    simp only [List.take, List.drop] at hK99 ⊢
    refine ws_take 11 (fun K91 hK91 => ?_)
    simp [go_sem, e0, e3, e4, hLk, hdr, hb, hrl]
    refine hK91 _ _ ?_
    refine ws_take 10 (fun K92 hK92 => ?_)
    simp [go_sem, e0, e3, e4, hLk, hdr, hb, hrl]
    refine hK92 _ _ ?_
    simp [go_sem, e0, e3, e4, hLk, hdr, hb, hrl]
    refine hK99 _ _ ?_
    simp [go_sem, e0, e3, e4, zrep5, ha, bA]
    refine hK7 _ _ ?_
    try clear hK7 K7
    refine scode_region (by kernel_rfl) ?_
    simp [go_sem, e4]
    have hw := i64_succ i (by omega)
    exact ⟨l.length - (i + 1), by omega, i + 1, rfl, by omega, by simp [go_sem, e0], by simp [go_sem, hw], .ms (H.next + 1) 0 ((l.take i).length + 1) 5, some (H.next + 1), by simp [go_sem, Nat.min_eq_left hi], by rw [hcl.1, hcl.2]; exact hg2⟩
  · skip
    simp only [decide_eq_false_iff_not] at hb
    obtain rfl : i = l.length := by omega
    rw [List.take_length] at hg
    refine scode_exit ?_
    refine hK3 _ _ ?_
    try clear hK3 K3
    refine scode_seq_k (fun K8 hK8 => ?_)
    refine scode_region (by kernel_rfl) ?_
    simp [go_sem, e3]
    refine hK8 _ _ ?_
    try clear hK8 K8
    refine scode_ret ?_
    simp only [go_sem]
    refine hR _ _ ?_
    refine ret_pure (v := x) (by simp [go_sem]) ?_ (empty_le _) (Nat.zero_le _) (eA_lt _ _)
    unfold eA
    exact froz_vs hg

end Go.Proofs.YtfmpakmigmehkaaGreatDoor
end S32S
