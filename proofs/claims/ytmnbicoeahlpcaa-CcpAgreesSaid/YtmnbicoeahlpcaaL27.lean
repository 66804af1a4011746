/- CcpAgrees: the walk. -/
import Derived.Test.YtmnbicoeahlpcaaL26
set_option maxRecDepth 20000
noncomputable section
namespace Go.Proofs.Ytmnbicoeahlpcaa
open Go Go.Fl Go.Proofs

theorem smallO_H (l : List Opt) (H : Heap) : SCalls Try.prog 22 [optsA l] H (.bool (smallO l)) H := scalls_frame (smallO_s l) (by simp; exact optsA_lt _ _) (by simp [go_sem]) H

set_option maxHeartbeats 8000000 in
theorem agrees_s (n : Int) (a b : List Opt) (ha : goodO a) (hb : goodO b) : SCalls Try.prog 7 [.int n, optsA a, optsA b] Heap.empty (.bool true) Heap.empty := by
  obtain ⟨c, hbits, hmade⟩ := made_s n
  obtain ⟨m, hm1, hm2⟩ := mask_s c hbits
  obtain ⟨x, y0, hrows, hxl, hyl, hr1, hr2, hr3⟩ := rules_s c hbits
  obtain ⟨ax, ay, haxl, hayl, ha1, ha2, ha3⟩ := ask_s c hbits
  have cl : ∀ z ∈ [AV.agg c.cells], z.Lt 0 := by simp; exact Cf.lt c 0
  have hm1 := fun H => scalls_frame hm1 cl (by simp [go_sem]) H
  have hm2 := fun H => scalls_frame hm2 cl (by simp [go_sem]) H
  have hr1 := fun H => scalls_frame hr1 cl hxl H
  have hr2 := fun H => scalls_frame hr2 cl hyl H
  have hr3 := fun H => scalls_frame hr3 (by simp; exact hyl) hxl H
  have ha1 := fun H => scalls_frame ha1 cl haxl H
  have ha2 := fun H => scalls_frame ha2 cl hayl H
  have ha3 := fun H => scalls_frame ha3 (by simp; exact ⟨haxl, hayl⟩) (by simp [go_sem]) H
  have hcl : c.cells.length = 18 := rfl
  have hct : c.cells.take 18 = c.cells := rfl
  have hleaf : ∀ x, x ∈ c.cells → x.leaf = true := by
    intro x hx
    simp only [Cf.cells, List.mem_cons, List.mem_nil_iff, or_false] at hx
    rcases hx with rfl | rfl | rfl | rfl | rfl | rfl | rfl | rfl | rfl | rfl | rfl | rfl | rfl | rfl | rfl | rfl | rfl | rfl <;> rfl
  simp only [AV.leaf] at hleaf
  refine scalls_of_k (sz := 111) (Try.call7) Try.func7 rfl (Nat.le_refl _) (by kernel_rfl) (fun R hR => ?_)
  have fin : ∀ (env : Env) (H : Heap), env 6 = .sc (.bool true) → R env H := by
    intro env H h6
    refine hR _ _ ?_
    exact ret_plain (by simp [go_sem, h6]) (empty_le _) (Nat.zero_le _) (by simp [go_sem])
  refine scode_seq_k (fun K1 hK1 => ?_)
  refine scode_region (by kernel_rfl) ?_
  simp [go_sem]
  refine hK1 _ _ ?_
  clear hK1 K1
  refine scode_seq_k (fun K1 hK1 => ?_)
  refine scode_seq_k (fun K2 hK2 => ?_)
  refine scode_region (by kernel_rfl) ?_
  simp [go_sem]
  refine ⟨_, _, awakeC_s, ?_⟩
  simp [go_sem]
  refine hK2 _ _ ?_
  refine scode_if (b := false) (by simp [go_sem]) (fun h => by cases h) (fun _ => ?_)
  refine scode_skip ?_
  refine hK1 _ _ ?_
  clear hK1 hK2 K1 K2
  refine scode_seq_k (fun K1 hK1 => ?_)
  refine scode_seq_k (fun K2 hK2 => ?_)
  have out : ∀ (env : Env) (H : Heap), env 19 = .sc (.bool true) → K2 env H := by
    intro env H h
    refine hK2 _ _ ?_
    refine scode_if (b := true) (by simp [go_sem, h]) (fun _ => ?_) (fun h => by cases h)
    refine scode_seq_k (fun K3 hK3 => ?_)
    refine scode_region (by kernel_rfl) ?_
    simp [go_sem]
    refine hK3 _ _ ?_
    refine scode_ret ?_
    simp only [go_sem]
    exact fin _ _ (by simp [go_sem])
  refine scode_region (by kernel_rfl) ?_
  refine w_take 2 (fun K6 hK6 => ?_)
  simp [go_sem]
  refine ⟨_, _, smallO_H a _, ?_⟩
  refine hK6 _ _ ?_
  clear hK6 K6
  obtain ⟨q, hq⟩ : ∃ q, smallO a = q := ⟨_, rfl⟩
  rw [hq]
  cases q
  · simp [go_sem]
    exact out _ _ (by simp [go_sem])
  refine w_take 4 (fun K6 hK6 => ?_)
  simp [go_sem]
  refine ⟨_, _, smallO_H b _, ?_⟩
  refine hK6 _ _ ?_
  clear hK6 K6
  obtain ⟨q', hq'⟩ : ∃ q', smallO b = q' := ⟨_, rfl⟩
  rw [hq']
  cases q'
  · simp [go_sem]
    exact out _ _ (by simp [go_sem])
  simp [go_sem]
  refine hK2 _ _ ?_
  clear hK2 K2 out
  refine scode_if (b := false) (by simp [go_sem]) (fun h => by cases h) (fun _ => ?_)
  refine scode_skip ?_
  refine hK1 _ _ ?_
  clear hK1 K1
  refine scode_seq_k (fun K1 hK1 => ?_)
  refine scode_region (by kernel_rfl) ?_
  refine w_take 2 (fun K6 hK6 => ?_)
  simp [go_sem]
  refine ⟨_, _, hmade, ?_⟩
  refine hK6 _ _ ?_
  clear hK6 K6
  simp [go_sem, hcl, hct, eq_true hleaf]
  refine hK1 _ _ ?_
  clear hK1 K1
  refine scode_gen (fun env H => env 1 = optsA a ∧ env 2 = optsA b ∧ env 7 = .ptr 0 0 ∧ H.get 0 = some c.cells) ?_ ?_
  · exact ⟨by simp [go_sem], by simp [go_sem], by simp [go_sem], by simp [go_sem]⟩
  rintro env H ⟨e1, e2, e7, g0⟩
  refine scode_seq_k (fun K1 hK1 => ?_)
  refine scode_region (by kernel_rfl) ?_
  simp [go_sem, e7, g0, hcl, hct]
  refine ⟨_, _, hr1 _, ?_⟩
  refine hK1 _ _ ?_
  clear hK1 K1
  refine scode_seq_k (fun K1 hK1 => ?_)
  refine scode_region (by kernel_rfl) ?_
  simp [go_sem, e7, g0, hcl, hct]
  refine ⟨_, _, hr2 _, ?_⟩
  refine ⟨_, _, hr3 _, ?_⟩
  refine hK1 _ _ ?_
  clear hK1 K1
  refine scode_gen (fun env H => env 1 = optsA a ∧ env 2 = optsA b ∧ env 7 = .ptr 0 0 ∧ H.get 0 = some c.cells ∧ env 8 = x ∧ env 9 = x) ?_ ?_
  · exact ⟨by simp [go_sem, e1], by simp [go_sem, e2], by simp [go_sem, e7], g0, by simp [go_sem], by simp [go_sem]⟩
  clear e1 e2 e7 g0 env H
  rintro env H ⟨e1, e2, e7, g0, e8, e9⟩
  refine scode_seq_k (fun K1 hK1 => ?_)
  refine scode_seq_k (fun K2 hK2 => ?_)
  have join : ∀ env : Env, env 1 = optsA a → env 2 = optsA b → env 7 = .ptr 0 0 → env 80 = .sc (.bool false) → K2 env H := by
    clear e1 e2 e7 e8 e9 env
    intro env e1 e2 e7 h80
    refine hK2 _ _ ?_
    clear hK2 K2
    refine scode_if (b := false) (by simp [go_sem, h80]) (fun h => by cases h) (fun _ => ?_)
    refine scode_skip ?_
    refine hK1 _ _ ?_
    clear hK1 K1
    refine scode_seq_k (fun K1 hK1 => ?_)
    refine scode_drawS mixed (by kernel_rfl) ?_
    refine ws_take 2 (fun K6 hK6 => ?_)
    simp [go_sem, e1, e2, e7, g0, hcl, hct]
    refine ⟨_, _, hm1 _, ?_⟩
    simp only [true_and]
    refine hK6 _ _ ?_
    clear hK6 K6
    refine ws_take 2 (fun K6 hK6 => ?_)
    simp [go_sem, e1, e2, e7, g0, hcl, hct]
    refine ⟨_, _, hm2 _, ?_⟩
    simp only [true_and]
    refine hK6 _ _ ?_
    clear hK6 K6
    refine ws_take 4 (fun K6 hK6 => ?_)
    simp [go_sem, e1, e2, e7, g0, hcl, hct]
    refine ⟨_, _, ha1 _, ?_⟩
    simp only [true_and]
    refine hK6 _ _ ?_
    clear hK6 K6
    refine ws_take 2 (fun K6 hK6 => ?_)
    simp [go_sem, e1, e2, e7, g0, hcl, hct]
    refine ⟨_, _, ha2 _, ?_⟩
    simp only [true_and]
    refine hK6 _ _ ?_
    clear hK6 K6
    refine ws_take 1 (fun K6 hK6 => ?_)
    simp [go_sem, e1, e2, e7]
    refine ⟨_, _, ha3 _, ?_⟩
    simp only [true_and]
    refine hK6 _ _ ?_
    clear hK6 K6
    refine ws_take 5 (fun K6 hK6 => ?_)
    simp [go_sem, e1, e2, e7]
    refine ⟨_, _, agree_H a b ha hb _, ?_⟩
    simp only [true_and]
    refine hK6 _ _ ?_
    clear hK6 K6
    refine ws_take 3 (fun K6 hK6 => ?_)
    simp [go_sem, e1, e2, e7]
    refine ⟨_, _, refAgree_H a b ha hb _, ?_⟩
    simp only [true_and]
    refine hK6 _ _ ?_
    clear hK6 K6
    refine ws_take 1 (fun K6 hK6 => ?_)
    simp [go_sem, e1, e2, e7]
    refine ⟨_, _, agreed_H a b _, ?_⟩
    simp only [true_and]
    refine hK6 _ _ ?_
    clear hK6 K6
    refine ws_take 5 (fun K6 hK6 => ?_)
    simp [go_sem, e1, e2, e7]
    refine ⟨_, _, agree_H a a ha ha _, ?_⟩
    simp only [true_and]
    refine hK6 _ _ ?_
    clear hK6 K6
    refine ws_take 3 (fun K6 hK6 => ?_)
    simp [go_sem, e1, e2, e7]
    refine ⟨_, _, refAgree_H a a ha ha _, ?_⟩
    simp only [true_and]
    refine hK6 _ _ ?_
    clear hK6 K6
    refine ws_take 1 (fun K6 hK6 => ?_)
    simp [go_sem, e1, e2, e7]
    refine ⟨_, _, agreed_H a a _, ?_⟩
    simp only [true_and]
    refine hK6 _ _ ?_
    clear hK6 K6
    simp [go_sem]
    refine hK1 _ _ ?_
    refine scode_ret ?_
    simp only [go_sem]
    exact fin _ _ (by simp [go_sem])
  unfold rowsOk at hrows
  split at hrows
  case h_3 => cases hrows
  · refine scode_drawK mixed (by kernel_rfl) ?_
    refine wk_take 10 (fun K6 hK6 => ?_)
    simp [go_sem, e8, e9]
    refine hK6 _ _ ?_
    clear hK6 K6
    refine wk_take 14 (fun K6 hK6 => ?_)
    simp [go_sem]
    refine hK6 _ _ ?_
    clear hK6 K6
    refine wk_take 14 (fun K6 hK6 => ?_)
    simp [go_sem]
    refine hK6 _ _ ?_
    clear hK6 K6
    simp [go_sem]
    exact join _ (by simp [go_sem, e1]) (by simp [go_sem, e2]) (by simp [go_sem, e7]) (by simp [go_sem])
  · rename_i r0 r1 r2 r3 r4 r5 r6
    refine scode_drawK mixed (by kernel_rfl) ?_
    refine wk_take 10 (fun K6 hK6 => ?_)
    simp [go_sem, e8, e9]
    refine hK6 _ _ ?_
    clear hK6 K6
    refine wk_take 10 (fun K6 hK6 => ?_)
    simp [go_sem, e8, e9]
    refine hK6 _ _ ?_
    clear hK6 K6
    refine wk_take 11 (fun K6 hK6 => ?_)
    simp [go_sem, e8, e9]
    refine hK6 _ _ ?_
    clear hK6 K6
    refine wk_take 11 (fun K6 hK6 => ?_)
    simp [go_sem, e8, e9]
    refine hK6 _ _ ?_
    clear hK6 K6
    simp [go_sem, e8, e9]
    exact join _ (by simp [go_sem, e1]) (by simp [go_sem, e2]) (by simp [go_sem, e7]) (by simp [go_sem])
end Go.Proofs.Ytmnbicoeahlpcaa
