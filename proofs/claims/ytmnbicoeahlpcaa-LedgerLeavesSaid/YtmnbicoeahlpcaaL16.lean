/- Contracts: alone; sent over a row that lies in the heap. -/
import Derived.Test.YtmnbicoeahlpcaaL15
set_option maxRecDepth 20000
noncomputable section
namespace Go.Proofs.Ytmnbicoeahlpcaa
open Go Go.Fl Go.Proofs

theorem place24_H (l : List Sn) (d : Sn) (from_ : Int) (hl : ∀ s ∈ l, s.info.length ≤ maxLen) (hlen : l.length ≤ maxLen) (hf : from_ ≤ 9223372036854775807) (H : Heap) :
    SCalls Try.prog 18 [sentsA l, .sc (.int .i64 from_), .agg d.cells] H (.int (placeL (l.drop from_.toNat) from_.toNat d)) H :=
  scalls_frame (place24_s l d from_ hl hlen hf) (by simp [go_sem]; exact ⟨sentsA_lt _ _, cells_lt _ _⟩) (by simp [go_sem]) H

theorem alone_s (l : List Sn) (d : Sn) (hl : ∀ s ∈ l, s.info.length ≤ maxLen) (hlen : l.length ≤ 1048576) : SCalls Try.prog 20 [sentsA l, .agg d.cells] Heap.empty (.bool (aloneB l d)) Heap.empty := by
  have c1 := place24_H l d 0 hl (by unfold maxLen; omega) (by omega)
  have hr := placeL_range d l 0
  obtain ⟨p, hp⟩ : ∃ p, placeL l 0 d = p := ⟨_, rfl⟩
  have e0 : placeL (l.drop (0 : Int).toNat) (0 : Int).toNat d = p := hp
  rw [e0] at c1
  rw [hp] at hr
  have hw : IntKind.i64.wrap (p + 1) = p + 1 := IntWalk.i64_in _ (by rcases hr with h | ⟨k, h1, h2⟩ <;> omega)
  have c2 := place24_H l d (p + 1) hl (by unfold maxLen; omega) (by rcases hr with h | ⟨k, h1, h2⟩ <;> omega)
  obtain ⟨q, hq⟩ : ∃ q, placeL (l.drop (p + 1).toNat) (p + 1).toNat d = q := ⟨_, rfl⟩
  rw [hq] at c2
  have hres : aloneB l d = (decide (0 ≤ p) && decide (q < 0)) := by rw [aloneB, hp, hq]
  refine scalls_of_k (sz := 19) (Try.call20) Try.func20 rfl (Nat.le_refl _) (by kernel_rfl) (fun R hR => ?_)
  refine scode_seq_k (fun K1 hK1 => ?_)
  refine scode_region (by kernel_rfl) ?_
  simp [go_sem, Sn.cells]
  refine hK1 _ _ ?_
  clear hK1 K1
  refine scode_seq_k (fun K1 hK1 => ?_)
  refine scode_region (by kernel_rfl) ?_
  simp [go_sem]
  refine ⟨_, _, c1 _, ?_⟩
  refine hK1 _ _ ?_
  clear hK1 K1
  refine scode_seq_k (fun K1 hK1 => ?_)
  refine scode_region (by kernel_rfl) ?_
  by_cases h0 : 0 ≤ p
  · simp [go_sem, h0, hw]
    refine ⟨_, _, c2 _, ?_⟩
    simp [go_sem]
    refine hK1 _ _ ?_
    refine scode_ret ?_
    simp only [go_sem]
    refine hR _ _ ?_
    exact ret_plain (by simp [go_sem, hres, h0]) (empty_le _) (Nat.zero_le _) (by simp [go_sem])
  · simp [go_sem, h0]
    refine hK1 _ _ ?_
    refine scode_ret ?_
    simp only [go_sem]
    refine hR _ _ ?_
    exact ret_plain (by simp [go_sem, hres, h0]) (empty_le _) (Nat.zero_le _) (by simp [go_sem])

theorem alone_H (l : List Sn) (d : Sn) (hl : ∀ s ∈ l, s.info.length ≤ maxLen) (hlen : l.length ≤ 1048576) (H : Heap) : SCalls Try.prog 20 [sentsA l, .agg d.cells] H (.bool (aloneB l d)) H :=
  scalls_frame (alone_s l d hl hlen) (by simp [go_sem]; exact ⟨sentsA_lt _ _, cells_lt _ _⟩) (by simp [go_sem]) H

/-- sent over a row in the heap, which stays. -/
theorem sent_m (l : List Sn) (hlen : l.length ≤ 1048576) (H0 : Heap) (b0 : Nat) (hb0 : H0.get b0 = some (sentsV l)) : SCalls Try.prog 10 [.ms b0 0 l.length 3] H0 (sentsA l) H0 := by
  have hb0n := Heap.lt_of_get hb0
  refine scalls_of_k (sz := 34) (Try.call10) Try.func10 rfl (Nat.le_refl _) (by kernel_rfl) (fun R hR => ?_)
  refine scode_seq_k (fun K1 hK1 => ?_)
  refine scode_region (by kernel_rfl) ?_
  simp [go_sem]
  refine hK1 _ _ ?_
  clear hK1 K1
  refine scode_seq_k (fun K1 hK1 => ?_)
  refine scode_region (by kernel_rfl) ?_
  simp [go_sem]
  refine hK1 _ _ ?_
  clear hK1 K1
  refine scode_seq_k (fun K1 hK1 => ?_)
  refine scode_seq_k (fun K2 hK2 => ?_)
  refine scode_region (by kernel_rfl) ?_
  simp [go_sem]
  refine hK2 _ _ ?_
  clear hK2 K2
  refine scode_block ?_
  refine scode_loop (Inv := fun n env H => ∃ i : Nat, n = l.length - i ∧ i ≤ l.length ∧ env 0 = .ms b0 0 l.length 3 ∧ env 4 = .sc (.int .i64 i) ∧ H0.le H ∧ H0.next ≤ H.next ∧ ((i = 0 ∧ env 3 = AV.nil) ∨ (∃ b, H0.next ≤ b ∧ env 3 = .ms b 0 i 3 ∧ H.get b = some (sentsV (l.take i))))) ?_ (n := l.length) ⟨0, rfl, Nat.zero_le _, by simp [go_sem], by simp [go_sem], Heap.le_refl _, Nat.le_refl _, .inl ⟨rfl, by simp [go_sem]⟩⟩
  rintro n env H ⟨i, rfl, hi, h0, h4, hle0, hn0, h3⟩
  have hgb := hle0 _ _ hb0
  refine scode_seq_k (fun K2 hK2 => ?_)
  refine scode_seq_k (fun K3 hK3 => ?_)
  refine scode_region (by kernel_rfl) ?_
  simp [go_sem, h0, h4]
  refine hK3 _ _ ?_
  clear hK3 K3
  refine scode_if (b := decide (i < l.length)) (by simp [go_sem]) (fun hb => ?_) (fun hb => ?_)
  · refine scode_skip ?_
    refine hK2 _ _ ?_
    clear hK2 K2
    simp only [decide_eq_true_eq] at hb
    obtain ⟨s, r, e1, e2, e3⟩ := drop_cons hb
    have hrow : (sentsV l).drop (i * 3) = s.cells ++ sentsV r := by rw [sentsV_drop, e1]; simp [sentsV]
    have hle : 3 ≤ l.length * 3 - i * 3 := by omega
    have hle' : i * 3 + 3 ≤ l.length * 3 := by omega
    refine scode_seq_k (fun K4 hK4 => ?_)
    refine scode_block ?_
    refine scode_draw mixed (by kernel_rfl) (bf := [0, 0, 0, 6, 14, 30, 0, 0, 192, 448, 960, 1984, 0, 0, 12288, 28672, 61440, 126976, 262080, 524286, 1048574, 2097151, 4194303]) (by kernel_rfl) ?_
    have hw : IntKind.i64.wrap ((i : Int) + 1) = ((i + 1 : Nat) : Int) := by
      rw [IntWalk.i64_in _ (by omega)]; rfl
    have htk := take_succ_sents l i s e3
    have fin : ∀ env' H', env' 0 = .ms b0 0 l.length 3 → env' 4 = .sc (.int .i64 i) → H0.le H' → H0.next ≤ H'.next → (∃ b, H0.next ≤ b ∧ env' 3 = .ms b 0 (i + 1) 3 ∧ H'.get b = some (sentsV (l.take (i + 1)))) → K4 env' H' := by
      intro env' H' g0 g4 gle gn g3
      obtain ⟨b, gb, g3, gg⟩ := g3
      refine hK4 _ _ ?_
      refine scode_region (by kernel_rfl) ?_
      simp [go_sem, g0, g3, g4, hw]
      exact ⟨l.length - (i + 1), by omega, i + 1, rfl, by omega, rfl, gle, gn, b, gb, ⟨rfl, rfl⟩, gg⟩
    have hbn0 : b0 ≠ H.next := by omega
    have hbn1 : b0 ≠ H.next + 1 := by omega
    have hrow0 : (sentsV l).drop (i * 3) = .sc (.int .i64 s.at_) :: .sc (.int .i64 s.proto) :: bytesA s.info :: sentsV r := hrow
    have hrow1 : (sentsV l).drop (i * 3 + 1) = .sc (.int .i64 s.proto) :: bytesA s.info :: sentsV r := by rw [← List.drop_drop, hrow0]; rfl
    have hrow2 : (sentsV l).drop (i * 3 + 2) = bytesA s.info :: sentsV r := by rw [← List.drop_drop, hrow0]; rfl
    have hle1 : i * 3 + 1 ≤ l.length * 3 := by omega
    have hle2 : i * 3 + 1 + 1 ≤ l.length * 3 := by omega
    have hle3 : i * 3 + 2 + 1 ≤ l.length * 3 := by omega
    rcases h3 with ⟨hi0, h3⟩ | ⟨b, hbb, h3, hg⟩
    · simp [go_sem, h0, h3, h4, sentsV_len, hb, hrow0, hrow1, hrow2, hle1, hle2, hle3, befL, zrep, bytesA, hgb, hbn0, hbn1]
      subst hi0
      refine fin _ _ (by simp [go_sem, h0]) (by simp [go_sem, h4]) (Heap.le_alloc (Heap.le_alloc hle0)) (by simp [go_sem]; omega) ⟨H.next + 1, by omega, by simp [go_sem], ?_⟩
      rw [htk]
      simp [go_sem, Sn.cells, sentsV, bytesA]
    · have hbn : b ≠ H.next := by have := Heap.lt_of_get hg; omega
      have hbn2 : b ≠ H.next + 1 := by have := Heap.lt_of_get hg; omega
      have hbb0 : b ≠ b0 := by omega
      have hbb1 : b0 ≠ b := by omega
      have htl : (sentsV (l.take i)).length = i * 3 := by rw [sentsV_len, List.length_take, Nat.min_eq_left hi]
      have hb1 : (i + 1) * 40 ≤ 140737488355328 := by omega
      have hb2 : i ≤ 140737488355327 := by omega
      simp [go_sem, h0, h3, h4, hg, sentsV_len, hb, hrow0, hrow1, hrow2, hle1, hle2, hle3, befL, zrep, bytesA, hbn, hbn0, hbn1, hbb0, hbb1, htl, hb1, hb2, hgb]
      refine fin _ _ (by simp [go_sem, h0]) (by simp [go_sem, h4]) (Heap.le_alloc (Heap.le_del (Heap.le_alloc hle0) hbb)) (by simp [go_sem]; omega) ⟨H.next + 1, by omega, by simp [go_sem], ?_⟩
      rw [htk]
      simp [go_sem, Sn.cells, bytesA]
  · refine scode_exit ?_
    refine hK1 _ _ ?_
    simp only [decide_eq_false_iff_not] at hb
    obtain rfl : i = l.length := by omega
    refine scode_seq_k (fun K4 hK4 => ?_)
    refine scode_region (by kernel_rfl) ?_
    rcases h3 with ⟨h3', h3⟩ | ⟨b, hbb, h3, hg⟩
    · simp [go_sem, h3]
      refine hK4 _ _ ?_
      refine scode_ret ?_
      simp only [go_sem]
      refine hR _ _ ?_
      have : l = [] := List.eq_nil_of_length_eq_zero h3'
      subst this
      exact ret_pure (by simp [go_sem]) (.nil 3) hle0 hn0 (by simp [go_sem, sentsA, sentsV])
    · simp [go_sem, h3]
      refine hK4 _ _ ?_
      refine scode_ret ?_
      simp only [go_sem]
      refine hR _ _ ?_
      rw [List.take_length] at hg
      refine ret_pure (by simp [go_sem]; rfl) (Froz.row hg hbb (by rw [sentsV_len]; omega) (by rw [List.drop_zero, List.take_of_length_le (by rw [sentsV_len]; omega)])) hle0 hn0 ?_
      exact sentsA_lt _ _
end Go.Proofs.Ytmnbicoeahlpcaa
