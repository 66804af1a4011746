/- LedgerFinds. -/
import Derived.Test.YtmnbicoeahlpcaaL11
import Derived.Test.YtmnbicoeahlpcaaFl34
set_option maxRecDepth 20000
noncomputable section
namespace Go.Proofs.Ytmnbicoeahlpcaa
open Go Go.Fl Go.Proofs

theorem smallB_len {l : List Sn} (h : smallB l = true) : l.length ≤ 60 := by
  simp only [smallB, Bool.and_eq_true, decide_eq_true_eq] at h
  exact h.1

def good (l : List Sn) : Prop := l.length ≤ maxLen ∧ ∀ s ∈ l, s.ok ∧ s.info.length ≤ maxLen

theorem small_at (l : List Sn) (H : Heap) : SCalls Try.prog 16 [sentsA l] H (.bool (smallB l)) H := scalls_frame (small_s l) (by simp; exact sentsA_lt _ _) (by simp [go_sem]) H
theorem awake_at (H : Heap) : SCalls Try.prog 9 [] H (.bool true) H := scalls_frame awake_s (by simp) (by simp [go_sem]) H

set_option maxHeartbeats 8000000 in
theorem finds_s (a b : List Sn) (from_ : Int) (hf : from_ ≤ 9223372036854775807) (ha : good a) (hb : good b) : SCalls Try.prog 4 [sentsA a, sentsA b, .sc (.int .i64 from_)] Heap.empty (.bool true) Heap.empty := by
  refine scalls_of_k (sz := 88) (Try.call4) Try.func4 rfl (Nat.le_refl _) (by kernel_rfl) (fun R hR => ?_)
  refine scode_seq_k (fun K1 hK1 => ?_)
  refine scode_region (by kernel_rfl) ?_
  simp [go_sem]
  refine hK1 _ _ ?_
  clear hK1 K1
  refine scode_seq_k (fun K1 hK1 => ?_)
  refine scode_seq_k (fun K2 hK2 => ?_)
  refine scode_region (by kernel_rfl) ?_
  simp [go_sem]
  refine ⟨_, _, awake_s, ?_⟩
  simp [go_sem]
  refine hK2 _ _ ?_
  refine scode_if (b := false) (by simp [go_sem]) (fun h => by cases h) (fun _ => ?_)
  refine scode_skip ?_
  refine hK1 _ _ ?_
  clear hK1 hK2 K1 K2
  refine scode_seq_k (fun K1 hK1 => ?_)
  refine scode_seq_k (fun K2 hK2 => ?_)
  refine scode_region (by kernel_rfl) ?_
  simp [go_sem]
  refine ⟨_, _, small_s a, ?_⟩
  obtain ⟨q, hq⟩ : ∃ q, smallB a = q := ⟨_, rfl⟩
  rw [hq]
  cases q
  · simp [go_sem]
    refine hK2 _ _ ?_
    refine scode_if (b := true) (by simp [go_sem]) (fun _ => ?_) (fun h => by cases h)
    refine scode_seq_k (fun K3 hK3 => ?_)
    refine scode_region (by kernel_rfl) ?_
    simp [go_sem]
    refine hK3 _ _ ?_
    refine scode_ret ?_
    simp only [go_sem]
    refine hR _ _ ?_
    exact ret_plain (by simp [go_sem]) (Heap.le_refl _) (Nat.zero_le _) (by simp [go_sem])
  · simp [go_sem]
    refine ⟨_, _, small_s b, ?_⟩
    obtain ⟨q', hq'⟩ : ∃ q', smallB b = q' := ⟨_, rfl⟩
    rw [hq']
    cases q'
    · simp [go_sem]
      refine hK2 _ _ ?_
      refine scode_if (b := true) (by simp [go_sem]) (fun _ => ?_) (fun h => by cases h)
      refine scode_seq_k (fun K3 hK3 => ?_)
      refine scode_region (by kernel_rfl) ?_
      simp [go_sem]
      refine hK3 _ _ ?_
      refine scode_ret ?_
      simp only [go_sem]
      refine hR _ _ ?_
      exact ret_plain (by simp [go_sem]) (Heap.le_refl _) (Nat.zero_le _) (by simp [go_sem])
    · simp [go_sem]
      refine hK2 _ _ ?_
      clear hK2 K2
      have hla := smallB_len hq
      have hlb := smallB_len hq'
      have oka : ∀ s ∈ a, s.ok := fun s hs => (ha.2 s hs).1
      have okb : ∀ s ∈ b, s.ok := fun s hs => (hb.2 s hs).1
      have lena : ∀ s ∈ a, s.info.length ≤ maxLen := fun s hs => (ha.2 s hs).2
      have lenb : ∀ s ∈ b, s.info.length ≤ maxLen := fun s hs => (hb.2 s hs).2
      refine scode_if (b := false) (by simp [go_sem]) (fun h => by cases h) (fun _ => ?_)
      refine scode_skip ?_
      refine hK1 _ _ ?_
      clear hK1 K1
      refine scode_seq_k (fun K1 hK1 => ?_)
      refine scode_region (by kernel_rfl) ?_
      simp [go_sem]
      refine ⟨_, _, sent_s a (by omega), ?_⟩
      refine ⟨_, _, sent_s b (by omega), ?_⟩
      refine hK1 _ _ ?_
      clear hK1 K1
      refine scode_seq_k (fun K1 hK1 => ?_)
      refine scode_region (by kernel_rfl) ?_
      simp [go_sem]
      refine ⟨_, _, first24_s a b lena (by omega) (by omega), ?_⟩
      refine hK1 _ _ ?_
      clear hK1 K1
      refine scode_seq_k (fun K1 hK1 => ?_)
      refine scode_region (by kernel_rfl) ?_
      simp [go_sem]
      refine hK1 _ _ ?_
      clear hK1 K1
      obtain ⟨p, hp⟩ : ∃ p, firstL a b 0 0 = p := ⟨_, rfl⟩
      obtain ⟨qp, hqp⟩ : ∃ q, decide (p < 0) = q := ⟨_, rfl⟩
      rw [hp]
      refine scode_seq_k (fun K1 hK1 => ?_)
      have rest : ∀ env : Env, env 0 = sentsA a → env 1 = sentsA b → env 2 = .sc (.int .i64 from_) → env 7 = sentsA a → env 8 = sentsA b → env 9 = .int p → env 10 = .int (missingL a b) → K1 env Heap.empty := by
        intro env h0 h1 h2 h7 h8 h9 h10
        refine hK1 _ _ ?_
        clear hK1 K1
        refine scode_seq_k (fun K1 hK1 => ?_)
        refine scode_seq_k (fun K2 hK2 => ?_)
        refine scode_region (by kernel_rfl) ?_
        simp [go_sem, h0, h1, h2, h7, h8, h9, h10]
        have hc := first_s a b oka okb (by omega) (by omega)
        rw [hp] at hc
        refine ⟨_, _, hc, ?_⟩
        simp [go_sem, h0, h1, h2, h7, h8, h9, h10]
        refine ⟨_, _, missing_s a b oka okb (by omega) (by omega), ?_⟩
        simp [go_sem, h0, h1, h2, h7, h8, h9, h10]
        refine hK2 _ _ ?_
        clear hK2 K2
        refine scode_if (b := false) (by simp [go_sem]) (fun h => by cases h) (fun _ => ?_)
        refine scode_skip ?_
        refine hK1 _ _ ?_
        clear hK1 K1
        refine scode_seq_k (fun K1 hK1 => ?_)
        refine scode_seq_k (fun K2 hK2 => ?_)
        refine scode_region (by kernel_rfl) ?_
        simp [go_sem]
        refine hK2 _ _ ?_
        clear hK2 K2
        refine scode_block ?_
        refine scode_loop (Inv := fun n env H => ∃ i : Nat, n = b.length - i ∧ env 0 = sentsA a ∧ env 1 = sentsA b ∧ env 2 = .sc (.int .i64 from_) ∧ env 7 = sentsA a ∧ env 8 = sentsA b ∧ env 11 = .sc (.int .i64 i) ∧ H = Heap.empty) ?_ (n := b.length) ⟨0, rfl, by simp [go_sem, h0], by simp [go_sem, h1], by simp [go_sem, h2], by simp [go_sem, h7], by simp [go_sem, h8], by simp [go_sem], rfl⟩
        clear h0 h1 h2 h7 h8 h9 h10 env
        rintro n env H ⟨i, rfl, h0, h1, h2, h7, h8, h11, rfl⟩
        refine scode_seq_k (fun K2 hK2 => ?_)
        refine scode_seq_k (fun K3 hK3 => ?_)
        refine scode_region (by kernel_rfl) ?_
        simp [go_sem, h1, h11, sentsA]
        refine hK3 _ _ ?_
        clear hK3 K3
        refine scode_if (b := decide (i < b.length)) (by simp [go_sem]) (fun hb => ?_) (fun hb => ?_)
        · refine scode_skip ?_
          refine hK2 _ _ ?_
          clear hK2 K2
          simp only [decide_eq_true_eq] at hb
          obtain ⟨s, r, e1, e2, e3⟩ := drop_cons hb
          obtain ⟨s0, r0, f1, f2, f3⟩ := drop_cons (show 0 < b.length by omega)
          have hrow : ((sentsV b).drop (i * 3)).take 3 = s.cells := by rw [sentsV_drop, e1]; simp [sentsV, Sn.cells]
          have hrow0 : (sentsV b).take 3 = s0.cells := by rw [← List.drop_zero (l := b), f1]; simp [sentsV, Sn.cells]
          have hle : 3 ≤ b.length * 3 - i * 3 := by omega
          have hle0 : 3 ≤ b.length * 3 := by omega
          have hpos : 0 < b.length := by omega
          have c1 := place_s a s from_ oka ha.1 (okb s (List.mem_of_getElem? e3)) hf
          have c2 := place24_s a s from_ lena ha.1 hf
          have c3 := same_s s s0 (okb s (List.mem_of_getElem? e3)) (okb s0 (List.mem_of_getElem? f3))
          have c4 := same24_s s s0 (lenb s (List.mem_of_getElem? e3))
          refine scode_seq_k (fun K4 hK4 => ?_)
          refine scode_block ?_
          refine scode_seq_k (fun K5 hK5 => ?_)
          refine scode_drawK mixed (by kernel_rfl) ?_
          refine wk_take 7 (fun K6 hK6 => ?_)
          simp [go_sem, h0, h1, h2, h7, h8, h11, sentsA, sentsV_len, hb, hrow, hle]
          refine ⟨_, _, c1, ?_⟩
          refine hK6 _ _ ?_
          clear hK6 K6
          refine wk_take 7 (fun K6 hK6 => ?_)
          simp [go_sem, h0, h1, h2, h7, h8, h11, sentsA, sentsV_len, hb, hrow, hle]
          refine ⟨_, _, c2, ?_⟩
          refine hK6 _ _ ?_
          clear hK6 K6
          have hlen : ((b.length : Int) * 3 ≤ 0) = False := by simp; omega
          refine wk_take 10 (fun K6 hK6 => ?_)
          simp [go_sem, h0, h1, h2, h7, h8, h11, sentsA, sentsV_len, hb, hrow, hle, hrow0, hle0, hpos]
          refine ⟨_, _, c3, ?_⟩
          refine hK6 _ _ ?_
          clear hK6 K6
          refine wk_take 8 (fun K6 hK6 => ?_)
          simp [go_sem, h0, h1, h2, h7, h8, h11, sentsA, sentsV_len, hb, hrow, hle, hrow0, hle0, hpos]
          refine ⟨_, _, c4, ?_⟩
          refine hK6 _ _ ?_
          clear hK6 K6
          simp [go_sem]
          refine hK5 _ _ ?_
          clear hK5 K5
          refine scode_if (b := false) (by simp [go_sem]) (fun h => by cases h) (fun _ => ?_)
          refine scode_skip ?_
          refine hK4 _ _ ?_
          refine scode_region (by kernel_rfl) ?_
          have hw : IntKind.i64.wrap ((i : Int) + 1) = ((i + 1 : Nat) : Int) := by
            rw [IntWalk.i64_in _ (by omega)]; rfl
          simp [go_sem, h0, h1, h2, h7, h8, h11, hw, sentsA]
          exact ⟨b.length - (i + 1), by omega, i + 1, rfl, rfl⟩
        · refine scode_exit ?_
          refine hK1 _ _ ?_
          refine scode_seq_k (fun K4 hK4 => ?_)
          refine scode_region (by kernel_rfl) ?_
          simp [go_sem]
          refine hK4 _ _ ?_
          refine scode_ret ?_
          simp only [go_sem]
          refine hR _ _ ?_
          exact ret_plain (by simp [go_sem]) (Heap.le_refl _) (Nat.zero_le _) (by simp [go_sem])
      have hmis : missingL a b = if qp then (a.length : Int) - (b.length : Int) else -1 := by
        rw [missingL, hp, ← hqp]
        by_cases h : p < 0
        · rw [if_neg (by omega), if_pos (by simpa using h)]
        · rw [if_pos (by omega), if_neg (by simpa using h)]
      refine scode_seq_k (fun K2 hK2 => ?_)
      refine scode_region (by kernel_rfl) ?_
      simp [go_sem]
      refine hK2 _ _ ?_
      refine scode_if (b := qp) (by simp [go_sem, hqp]) (fun hq' => ?_) (fun hq' => ?_)
      · refine scode_region (by kernel_rfl) ?_
        have hw : IntKind.i64.wrap ((a.length : Int) - (b.length : Int)) = (a.length : Int) - (b.length : Int) := IntWalk.i64_in _ (by omega)
        simp [go_sem, sentsA, hw]
        refine rest _ ?_ ?_ ?_ ?_ ?_ ?_ ?_ <;> simp [go_sem, hmis, hq', sentsA]
      · refine scode_skip ?_
        refine rest _ ?_ ?_ ?_ ?_ ?_ ?_ ?_ <;> simp [go_sem, hmis, hq', sentsA]
end Go.Proofs.Ytmnbicoeahlpcaa
