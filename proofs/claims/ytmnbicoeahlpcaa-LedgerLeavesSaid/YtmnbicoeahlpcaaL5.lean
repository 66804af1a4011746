/- Contracts: small, ref24.First. -/
import Derived.Test.YtmnbicoeahlpcaaL4
set_option maxRecDepth 20000
noncomputable section
namespace Go.Proofs.Ytmnbicoeahlpcaa
open Go Go.Fl Go.Proofs

def smallB (l : List Sn) : Bool := decide (l.length ≤ 60) && l.all fun s => decide (s.info.length ≤ 100)

theorem small_s (l : List Sn) : SCalls Try.prog 16 [sentsA l] Heap.empty (.bool (smallB l)) Heap.empty := by
  refine scalls_of_k (sz := 21) (Try.call16) Try.func16 rfl (Nat.le_refl _) (by kernel_rfl) (fun R hR => ?_)
  refine scode_seq_k (fun K1 hK1 => ?_)
  refine scode_region (by kernel_rfl) ?_
  simp [go_sem]
  refine hK1 _ _ ?_
  clear hK1 K1
  refine scode_seq_k (fun K1 hK1 => ?_)
  refine scode_seq_k (fun K2 hK2 => ?_)
  refine scode_region (by kernel_rfl) ?_
  simp [go_sem, sentsA]
  refine hK2 _ _ ?_
  clear hK2 K2
  obtain ⟨q, hq⟩ : ∃ q, decide ((60 : Int) < (l.length : Int)) = q := ⟨_, rfl⟩
  refine scode_if (b := q) (by simp only [go_sem, hq]) (fun hb => ?_) (fun hb => ?_)
  · refine scode_seq_k (fun K2 hK2 => ?_)
    refine scode_region (by kernel_rfl) ?_
    simp [go_sem]
    refine hK2 _ _ ?_
    refine scode_ret ?_
    simp only [go_sem]
    refine hR _ _ ?_
    have hres : smallB l = false := by
      rw [hb, decide_eq_true_eq] at hq
      rw [smallB, decide_eq_false (by omega), Bool.false_and]
    refine ret_plain (by simp [go_sem, hres]) (Heap.le_refl _) (by simp [go_sem]) (by simp [go_sem])
  · have hl : l.length ≤ 60 := by
      rw [hb, decide_eq_false_iff_not] at hq
      omega
    have hsm : smallB l = (l.drop 0).all fun s => decide (s.info.length ≤ 100) := by rw [smallB, decide_eq_true hl, Bool.true_and, List.drop_zero]
    refine scode_skip ?_
    refine hK1 _ _ ?_
    clear hK1 K1
    refine scode_seq_k (fun K1 hK1 => ?_)
    refine scode_seq_k (fun K2 hK2 => ?_)
    refine scode_region (by kernel_rfl) ?_
    simp [go_sem]
    refine hK2 _ _ ?_
    clear hK2 K2
    refine scode_block ?_
    refine scode_loop (Inv := fun n env H => ∃ i : Nat, n = l.length - i ∧ env 0 = sentsA l ∧ env 3 = .sc (.int .i64 i) ∧ H = Heap.empty ∧ smallB l = (l.drop i).all fun s => decide (s.info.length ≤ 100)) ?_ (n := l.length) ⟨0, rfl, by simp [go_sem, sentsA], by simp [go_sem], rfl, hsm⟩
    rintro n env H ⟨i, rfl, h0, h3, rfl, hr⟩
    refine scode_seq_k (fun K2 hK2 => ?_)
    refine scode_seq_k (fun K3 hK3 => ?_)
    refine scode_region (by kernel_rfl) ?_
    simp [go_sem, h0, h3, sentsA]
    refine hK3 _ _ ?_
    clear hK3 K3
    refine scode_if (b := decide (i < l.length)) (by simp [go_sem]) (fun hb => ?_) (fun hb => ?_)
    · refine scode_skip ?_
      refine hK2 _ _ ?_
      clear hK2 K2
      simp only [decide_eq_true_eq] at hb
      obtain ⟨s, r, e1, e2, e3⟩ := drop_cons hb
      have hrow : (sentsV l).drop (i * 3) = s.cells ++ sentsV r := by rw [sentsV_drop, e1]; simp [sentsV]
      have hle : 3 ≤ l.length * 3 - i * 3 := by omega
      refine scode_seq_k (fun K4 hK4 => ?_)
      refine scode_block ?_
      refine scode_seq_k (fun K5 hK5 => ?_)
      refine scode_region (by kernel_rfl) ?_
      simp [go_sem, h0, h3, sentsA, sentsV_len, hb, hrow, hle, Sn.cells, bytesA]
      refine hK5 _ _ ?_
      clear hK5 K5
      obtain ⟨p, hp⟩ : ∃ p, decide ((100 : Int) < (s.info.length : Int)) = p := ⟨_, rfl⟩
      refine scode_if (b := p) (by simp only [go_sem, hp]) (fun hq' => ?_) (fun hq' => ?_)
      · refine scode_seq_k (fun K5 hK5 => ?_)
        refine scode_region (by kernel_rfl) ?_
        simp [go_sem]
        refine hK5 _ _ ?_
        refine scode_ret ?_
        simp only [go_sem]
        refine hR _ _ ?_
        have hres : smallB l = false := by
          rw [hq', decide_eq_true_eq] at hp
          rw [hr, e1, List.all_cons, decide_eq_false (by omega), Bool.false_and]
        refine ret_plain (by simp [go_sem, hres]) (Heap.le_refl _) (by simp [go_sem]) (by simp [go_sem])
      · refine scode_skip ?_
        refine hK4 _ _ ?_
        refine scode_region (by kernel_rfl) ?_
        have hw : IntKind.i64.wrap ((i : Int) + 1) = ((i + 1 : Nat) : Int) := by
          rw [IntWalk.i64_in _ (by omega)]; rfl
        simp [go_sem, h0, h3, hw, sentsA]
        refine ⟨l.length - (i + 1), by omega, i + 1, rfl, rfl, ?_⟩
        rw [hq', decide_eq_false_iff_not] at hp
        rw [e2, hr, e1, List.all_cons, decide_eq_true (by omega), Bool.true_and]
    · refine scode_exit ?_
      refine hK1 _ _ ?_
      refine scode_seq_k (fun K4 hK4 => ?_)
      refine scode_region (by kernel_rfl) ?_
      simp [go_sem]
      refine hK4 _ _ ?_
      refine scode_ret ?_
      simp only [go_sem]
      refine hR _ _ ?_
      simp only [decide_eq_false_iff_not] at hb
      have hres : smallB l = true := by
        rw [hr, List.drop_eq_nil_of_le (by omega)]; rfl
      refine ret_plain (by simp [go_sem, hres]) (Heap.le_refl _) (by simp [go_sem]) (by simp [go_sem])

def firstL (a : List Sn) : List Sn → Nat → Nat → Int
  | [], _, _ => -1
  | d :: r, at_, i => if placeL (a.drop at_) at_ d < 0 then i else firstL a r ((placeL (a.drop at_) at_ d).toNat + 1) (i + 1)

theorem placeL_range (d : Sn) : ∀ (r : List Sn) (i : Nat), placeL r i d = -1 ∨ ∃ k : Nat, k < r.length ∧ placeL r i d = ((i + k : Nat) : Int)
  | [], i => .inl rfl
  | s :: r, i => by
    rw [placeL]
    split
    · exact .inr ⟨0, by simp, by simp⟩
    · rcases placeL_range d r (i + 1) with h | ⟨k, h1, h2⟩
      · exact .inl h
      · exact .inr ⟨k + 1, by simp; omega, by rw [h2]; congr 1; omega⟩

theorem first24_s (a b : List Sn) (ha : ∀ s ∈ a, s.info.length ≤ maxLen) (hla : a.length ≤ 1048576) (hlb : b.length ≤ 1048576) :
    SCalls Try.prog 17 [sentsA a, sentsA b] Heap.empty (.int (firstL a b 0 0)) Heap.empty := by
  refine scalls_of_k (sz := 26) (Try.call17) Try.func17 rfl (Nat.le_refl _) (by kernel_rfl) (fun R hR => ?_)
  refine scode_seq_k (fun K1 hK1 => ?_)
  refine scode_region (by kernel_rfl) ?_
  simp [go_sem]
  refine hK1 _ _ ?_
  clear hK1 K1
  refine scode_seq_k (fun K1 hK1 => ?_)
  refine scode_region (by kernel_rfl) ?_
  simp [go_sem]
  refine hK1 _ _ ?_
  clear hK1 K1
  refine scode_seq_k (fun K1 hK1 => ?_)
  refine scode_seq_k (fun K2 hK2 => ?_)
  refine scode_region (by kernel_rfl) ?_
  simp [go_sem]
  refine hK2 _ _ ?_
  clear hK2 K2
  refine scode_block ?_
  refine scode_loop (Inv := fun n env H => ∃ (i at_ : Nat), n = b.length - i ∧ at_ ≤ a.length ∧ env 0 = sentsA a ∧ env 1 = sentsA b ∧ env 5 = .sc (.int .i64 at_) ∧ env 6 = .sc (.int .i64 i) ∧ H = Heap.empty ∧ firstL a (b.drop i) at_ i = firstL a b 0 0) ?_ (n := b.length) ⟨0, 0, rfl, Nat.zero_le _, by simp [go_sem], by simp [go_sem], by simp [go_sem], by simp [go_sem], rfl, rfl⟩
  rintro n env H ⟨i, at_, rfl, hat, h0, h1, h5, h6, rfl, hr⟩
  refine scode_seq_k (fun K2 hK2 => ?_)
  refine scode_seq_k (fun K3 hK3 => ?_)
  refine scode_region (by kernel_rfl) ?_
  simp [go_sem, h1, h6, sentsA]
  refine hK3 _ _ ?_
  clear hK3 K3
  refine scode_if (b := decide (i < b.length)) (by simp [go_sem]) (fun hb => ?_) (fun hb => ?_)
  · refine scode_skip ?_
    refine hK2 _ _ ?_
    clear hK2 K2
    simp only [decide_eq_true_eq] at hb
    obtain ⟨s, r, e1, e2, e3⟩ := drop_cons hb
    have hrow : ((sentsV b).drop (i * 3)).take 3 = s.cells := by rw [sentsV_drop, e1]; simp [sentsV, Sn.cells]
    have hle : 3 ≤ b.length * 3 - i * 3 := by omega
    have hstep : firstL a b 0 0 = if placeL (a.drop at_) at_ s < 0 then (i : Int) else firstL a r ((placeL (a.drop at_) at_ s).toNat + 1) (i + 1) := by rw [← hr, e1, firstL]
    have hpl := placeL_range s (a.drop at_) at_
    rw [List.length_drop] at hpl
    have hcall := place24_s a s (at_ : Int) ha (by unfold maxLen; omega) (by omega)
    rw [Int.toNat_natCast] at hcall
    obtain ⟨p, hp⟩ : ∃ p, placeL (a.drop at_) at_ s = p := ⟨_, rfl⟩
    rw [hp] at hstep hpl hcall
    refine scode_seq_k (fun K4 hK4 => ?_)
    refine scode_block ?_
    refine scode_seq_k (fun K5 hK5 => ?_)
    refine scode_region (by kernel_rfl) ?_
    simp [go_sem, h0, h1, h5, h6, sentsA, sentsV_len, hb, hrow, hle]
    refine ⟨_, _, hcall, ?_⟩
    refine hK5 _ _ ?_
    clear hK5 K5
    refine scode_seq_k (fun K5 hK5 => ?_)
    refine scode_seq_k (fun K6 hK6 => ?_)
    refine scode_region (by kernel_rfl) ?_
    simp [go_sem]
    refine hK6 _ _ ?_
    clear hK6 K6
    obtain ⟨q, hq⟩ : ∃ q, decide (p < 0) = q := ⟨_, rfl⟩
    refine scode_if (b := q) (by simp only [go_sem, hq]) (fun hq' => ?_) (fun hq' => ?_)
    · refine scode_seq_k (fun K6 hK6 => ?_)
      refine scode_region (by kernel_rfl) ?_
      simp [go_sem, h6]
      refine hK6 _ _ ?_
      refine scode_ret ?_
      simp only [go_sem]
      refine hR _ _ ?_
      rw [hq', decide_eq_true_eq] at hq
      rw [if_pos hq] at hstep
      refine ret_plain (by simp [go_sem, hstep]) (Heap.le_refl _) (by simp [go_sem]) (by simp [go_sem])
    · rw [hq', decide_eq_false_iff_not] at hq
      rw [if_neg hq] at hstep
      obtain ⟨k, hk1, hk2⟩ : ∃ k : Nat, k < a.length - at_ ∧ p = ((at_ + k : Nat) : Int) := by
        rcases hpl with h | h
        · omega
        · exact h
      have hw1 : IntKind.i64.wrap (p + 1) = ((at_ + k + 1 : Nat) : Int) := by
        rw [hk2, IntWalk.i64_in _ (by omega)]; rfl
      have hw : IntKind.i64.wrap ((i : Int) + 1) = ((i + 1 : Nat) : Int) := by
        rw [IntWalk.i64_in _ (by omega)]; rfl
      refine scode_skip ?_
      refine hK5 _ _ ?_
      refine scode_region (by kernel_rfl) ?_
      simp [go_sem, h0, h1, h6, hw1]
      refine hK4 _ _ ?_
      refine scode_region (by kernel_rfl) ?_
      simp [go_sem, h0, h1, h6, hw]
      refine ⟨b.length - (i + 1), by omega, i + 1, rfl, at_ + k + 1, by omega, rfl, rfl, ?_⟩
      rw [e2, hstep, hk2, Int.toNat_natCast]
  · refine scode_exit ?_
    refine hK1 _ _ ?_
    refine scode_seq_k (fun K4 hK4 => ?_)
    refine scode_region (by kernel_rfl) ?_
    simp [go_sem]
    refine hK4 _ _ ?_
    refine scode_ret ?_
    simp only [go_sem]
    refine hR _ _ ?_
    simp only [decide_eq_false_iff_not] at hb
    have hres : firstL a b 0 0 = -1 := by
      rw [← hr, List.drop_eq_nil_of_le (by omega)]; rfl
    refine ret_plain (by simp [go_sem, hres]) (Heap.le_refl _) (by simp [go_sem]) (by simp [go_sem])
end Go.Proofs.Ytmnbicoeahlpcaa
