/- Contracts: Missing, one, alone; the two plain lemmas. -/
import Derived.Test.YtmnbicoeahlpcaaL7
set_option maxRecDepth 20000
noncomputable section
namespace Go.Proofs.Ytmnbicoeahlpcaa
open Go Go.Fl Go.Proofs

def missingL (a b : List Sn) : Int := if 0 ≤ firstL a b 0 0 then -1 else (a.length : Int) - (b.length : Int)

theorem missing_s (a b : List Sn) (ha : ∀ s ∈ a, s.ok) (hb : ∀ s ∈ b, s.ok) (hl1 : a.length ≤ 1048576) (hl2 : b.length ≤ 1048576) : SCalls Try.prog 13 [sentsA a, sentsA b] Heap.empty (.int (missingL a b)) Heap.empty := by
  refine scalls_of_k (sz := 14) (Try.call13) Try.func13 rfl (Nat.le_refl _) (by kernel_rfl) (fun R hR => ?_)
  refine scode_seq_k (fun K1 hK1 => ?_)
  refine scode_region (by kernel_rfl) ?_
  simp [go_sem]
  refine hK1 _ _ ?_
  clear hK1 K1
  refine scode_seq_k (fun K1 hK1 => ?_)
  refine scode_seq_k (fun K2 hK2 => ?_)
  refine scode_region (by kernel_rfl) ?_
  simp [go_sem]
  refine ⟨_, _, first_s a b ha hb hl1 hl2, ?_⟩
  refine hK2 _ _ ?_
  clear hK2 K2
  obtain ⟨p, hp⟩ : ∃ p, firstL a b 0 0 = p := ⟨_, rfl⟩
  obtain ⟨q, hq⟩ : ∃ q, decide (0 ≤ p) = q := ⟨_, rfl⟩
  rw [hp]
  refine scode_if (b := q) (by simp only [go_sem, hq]) (fun hq' => ?_) (fun hq' => ?_)
  · refine scode_seq_k (fun K2 hK2 => ?_)
    refine scode_region (by kernel_rfl) ?_
    simp [go_sem]
    refine hK2 _ _ ?_
    refine scode_ret ?_
    simp only [go_sem]
    refine hR _ _ ?_
    have hres : missingL a b = -1 := by
      rw [hq', decide_eq_true_eq] at hq
      rw [missingL, hp, if_pos hq]
    refine ret_plain (by simp [go_sem, hres]) (Heap.le_refl _) (by simp [go_sem]) (by simp [go_sem])
  · refine scode_skip ?_
    refine hK1 _ _ ?_
    refine scode_seq_k (fun K2 hK2 => ?_)
    refine scode_region (by kernel_rfl) ?_
    have hw : IntKind.i64.wrap ((a.length : Int) - (b.length : Int)) = (a.length : Int) - (b.length : Int) := IntWalk.i64_in _ (by omega)
    simp [go_sem, sentsA, hw]
    refine hK2 _ _ ?_
    refine scode_ret ?_
    simp only [go_sem]
    refine hR _ _ ?_
    have hres : missingL a b = (a.length : Int) - (b.length : Int) := by
      rw [hq', decide_eq_false_iff_not] at hq
      rw [missingL, hp, if_neg hq]
    refine ret_plain (by simp [go_sem, hres]) (Heap.le_refl _) (by simp [go_sem]) (by simp [go_sem])

def oneS (c : Int) : Sn := { at_ := 0, proto := 33, info := [c] }

theorem one_s (c : Int) : SCalls Try.prog 11 [.sc (.int .u8 c)] Heap.empty (.agg (oneS c).cells) Heap.empty := by
  refine scalls_of_k (sz := 7) (Try.call11) Try.func11 rfl (Nat.le_refl _) (by kernel_rfl) (fun R hR => ?_)
  refine scode_seq_k (fun K1 hK1 => ?_)
  refine scode_region (by kernel_rfl) ?_
  simp [go_sem]
  refine hK1 _ _ ?_
  clear hK1 K1
  refine scode_seq_k (fun K2 hK2 => ?_)
  refine scode_region (by kernel_rfl) ?_
  simp [go_sem, zrep]
  refine hK2 _ _ ?_
  clear hK2 K2
  refine scode_ret ?_
  simp only [go_sem]
  refine hR _ _ ?_
  refine ret_pure (by simp [go_sem]; rfl) ?_ (fun b cs hb => by rw [get_empty] at hb; cases hb) (Nat.zero_le _) (by simp [go_sem, oneS, Sn.cells, bytesA, bytesV])
  refine Froz.aggL (.cons (.same _) (.cons (.same _) (.cons (Froz.row (cs := [.sc (.int .u8 c)]) (by simp [go_sem]) (Nat.zero_le _) (by simp) rfl) .nil)))

end Go.Proofs.Ytmnbicoeahlpcaa
