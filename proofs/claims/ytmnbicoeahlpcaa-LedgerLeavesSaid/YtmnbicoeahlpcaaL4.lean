/- Contracts: sent, small, ref24.First. -/
import Derived.Test.YtmnbicoeahlpcaaL3
set_option maxRecDepth 20000
noncomputable section
namespace Go.Proofs.Ytmnbicoeahlpcaa
open Go Go.Fl Go.Proofs

theorem take_succ_sents (l : List Sn) (i : Nat) (s : Sn) (h : l[i]? = some s) : sentsV (l.take (i + 1)) = sentsV (l.take i) ++ s.cells := by
  rw [List.take_add_one, h]; simp [sentsV]

theorem sentsA_lt (l : List Sn) (n : Nat) : (sentsA l).Lt n := by
  simp only [sentsA, Lt_vs, sentsV, List.mem_flatMap]
  rintro x ⟨s, _, hx⟩
  exact cells_lt s n x hx

theorem sent_s (l : List Sn) (hlen : l.length ≤ 1048576) : SCalls Try.prog 10 [sentsA l] Heap.empty (sentsA l) Heap.empty := by
  refine scalls_of_k (sz := 34) (Try.call10) Try.func10 rfl (Nat.le_refl _) (by kernel_rfl) (fun R hR => ?_)
  refine scode_seq_k (fun K1 hK1 => ?_)
  refine scode_region (by kernel_rfl) ?_
  simp [go_sem]
  refine hK1 _ _ ?_
  clear hK1 K1
  refine scode_seq_k (fun K1 hK1 => ?_)
  refine scode_region (by kernel_rfl) ?_
  simp [go_sem]
  refine hK1 _ _ ?_
  clear hK1 K1
  refine scode_seq_k (fun K1 hK1 => ?_)
  refine scode_seq_k (fun K2 hK2 => ?_)
  refine scode_region (by kernel_rfl) ?_
  simp [go_sem]
  refine hK2 _ _ ?_
  clear hK2 K2
  refine scode_block ?_
  refine scode_loop (Inv := fun n env H => ∃ i : Nat, n = l.length - i ∧ i ≤ l.length ∧ env 0 = sentsA l ∧ env 4 = .sc (.int .i64 i) ∧ ((i = 0 ∧ env 3 = AV.nil) ∨ (∃ b, env 3 = .ms b 0 i 3 ∧ H.get b = some (sentsV (l.take i))))) ?_ (n := l.length) ⟨0, rfl, Nat.zero_le _, by simp [go_sem], by simp [go_sem], .inl ⟨rfl, by simp [go_sem]⟩⟩
  rintro n env H ⟨i, rfl, hi, h0, h4, h3⟩
  refine scode_seq_k (fun K2 hK2 => ?_)
  refine scode_seq_k (fun K3 hK3 => ?_)
  refine scode_region (by kernel_rfl) ?_
  simp [go_sem, h0, h4, sentsA]
  refine hK3 _ _ ?_
  clear hK3 K3
  refine scode_if (b := decide (i < l.length)) (by simp [go_sem]) (fun hb => ?_) (fun hb => ?_)
  · refine scode_skip ?_
    refine hK2 _ _ ?_
    clear hK2 K2
    simp only [decide_eq_true_eq] at hb
    obtain ⟨s, r, e1, e2, e3⟩ := drop_cons hb
    have hrow : (sentsV l).drop (i * 3) = s.cells ++ sentsV r := by rw [sentsV_drop, e1]; simp [sentsV]
    have hle : 3 ≤ l.length * 3 - i * 3 := by omega
    refine scode_seq_k (fun K4 hK4 => ?_)
    refine scode_block ?_
    refine scode_draw mixed (by kernel_rfl) (bf := [0, 0, 0, 6, 14, 30, 0, 0, 192, 448, 960, 1984, 0, 0, 12288, 28672, 61440, 126976, 262080, 524286, 1048574, 2097151, 4194303]) (by kernel_rfl) ?_
    have hw : IntKind.i64.wrap ((i : Int) + 1) = ((i + 1 : Nat) : Int) := by
      rw [IntWalk.i64_in _ (by omega)]; rfl
    have htk := take_succ_sents l i s e3
    have fin : ∀ env' H', env' 0 = sentsA l → env' 4 = .sc (.int .i64 i) → (∃ b, env' 3 = .ms b 0 (i + 1) 3 ∧ H'.get b = some (sentsV (l.take (i + 1)))) → K4 env' H' := by
      intro env' H' g0 g4 g3
      obtain ⟨b, g3, gg⟩ := g3
      refine hK4 _ _ ?_
      refine scode_region (by kernel_rfl) ?_
      simp [go_sem, g0, g3, g4, hw]
      exact ⟨l.length - (i + 1), by omega, i + 1, rfl, by omega, rfl, b, ⟨rfl, rfl⟩, gg⟩
    rcases h3 with ⟨rfl, h3⟩ | ⟨b, h3, hg⟩
    · simp [go_sem, h0, h3, h4, sentsA, sentsV_len, hb, hrow, hle, befL, Sn.cells, zrep, bytesA]
      refine fin _ _ (by simp [go_sem, h0]) (by simp [go_sem, h4]) ⟨_, by simp [go_sem]; rfl, ?_⟩
      rw [htk]
      simp [go_sem, Sn.cells, sentsV, bytesA]
    · have hbn : b ≠ H.next := by have := Heap.lt_of_get hg; omega
      have hbn2 : b ≠ H.next + 1 := by have := Heap.lt_of_get hg; omega
      have htl : (sentsV (l.take i)).length = i * 3 := by rw [sentsV_len, List.length_take, Nat.min_eq_left hi]
      have hb1 : (i + 1) * 40 ≤ 140737488355328 := by omega
      have hb2 : i ≤ 140737488355327 := by omega
      simp [go_sem, h0, h3, h4, hg, sentsA, sentsV_len, hb, hrow, hle, befL, Sn.cells, zrep, bytesA, hbn, htl, hb1, hb2]
      refine fin _ _ (by simp [go_sem, h0]) (by simp [go_sem, h4]) ⟨_, by simp [go_sem]; rfl, ?_⟩
      rw [htk]
      simp [go_sem, Sn.cells, bytesA]
  · refine scode_exit ?_
    refine hK1 _ _ ?_
    simp only [decide_eq_false_iff_not] at hb
    obtain rfl : i = l.length := by omega
    refine scode_seq_k (fun K4 hK4 => ?_)
    refine scode_region (by kernel_rfl) ?_
    rcases h3 with ⟨h3', h3⟩ | ⟨b, h3, hg⟩
    · simp [go_sem, h3]
      refine hK4 _ _ ?_
      refine scode_ret ?_
      simp only [go_sem]
      refine hR _ _ ?_
      have : l = [] := List.eq_nil_of_length_eq_zero h3'
      subst this
      exact ret_pure (by simp [go_sem]) (.nil 3) (fun b cs hb => by rw [get_empty] at hb; cases hb) (Nat.zero_le _) (by simp [go_sem, sentsA, sentsV])
    · simp [go_sem, h3]
      refine hK4 _ _ ?_
      refine scode_ret ?_
      simp only [go_sem]
      refine hR _ _ ?_
      rw [List.take_length] at hg
      refine ret_pure (by simp [go_sem]; rfl) (Froz.row hg (Nat.zero_le _) (by rw [sentsV_len]; omega) (by rw [List.drop_zero, List.take_of_length_le (by rw [sentsV_len]; omega)])) (fun b cs hb => by rw [get_empty] at hb; cases hb) (Nat.zero_le _) ?_
      exact sentsA_lt _ _
end Go.Proofs.Ytmnbicoeahlpcaa
