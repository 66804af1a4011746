/- LedgerKnown. -/
import Derived.Test.YtmnbicoeahlpcaaL9
import Derived.Test.YtmnbicoeahlpcaaFl31
set_option maxRecDepth 20000
noncomputable section
namespace Go.Proofs.Ytmnbicoeahlpcaa
open Go Go.Fl Go.Proofs

def B2 : List Sn := [oneS 1, oneS 2]
def C2 : List Sn := [oneS 2, oneS 1]

set_option maxHeartbeats 4000000 in
theorem known_s : SCalls Try.prog 3 [] Heap.empty (.bool true) Heap.empty := by
  have okB : ∀ s ∈ B2, s.ok := by simp [B2, oneS, Sn.ok, isBytes]
  have okC : ∀ s ∈ C2, s.ok := by simp [C2, oneS, Sn.ok, isBytes]
  have ok1 : (oneS 1).ok := by simp [oneS, Sn.ok, isBytes]
  have ok2 : (oneS 2).ok := by simp [oneS, Sn.ok, isBytes]
  have hf : firstL B2 C2 0 0 = 1 := by decide
  have hm : missingL B2 C2 = -1 := by decide
  have hp : placeL (B2.drop (-5 : Int).toNat) (-5 : Int).toNat (oneS 2) = 1 := by decide
  have q1 : (oneS 1).same (oneS 1) = true := by decide
  have q2 : (oneS 1).same (oneS 2) = false := by decide
  have hc := first_s B2 C2 okB okC (by decide) (by decide)
  have hc2 := missing_s B2 C2 okB okC (by decide) (by decide)
  have hc3 := place_s B2 (oneS 2) (-5) okB (by decide) ok2 (by decide)
  have hc4 := same_s (oneS 1) (oneS 1) ok1 ok1
  have hc5 := same_s (oneS 1) (oneS 2) ok1 ok2
  rw [hf] at hc
  rw [hm] at hc2
  rw [hp] at hc3
  rw [q1] at hc4
  rw [q2] at hc5
  have hlt : ∀ x ∈ [sentsA B2, sentsA C2], x.Lt 0 := by simp; exact ⟨sentsA_lt _ _, sentsA_lt _ _⟩
  refine scalls_of_k (sz := 50) (Try.call3) Try.func3 rfl (Nat.le_refl _) (by kernel_rfl) (fun R hR => ?_)
  refine scode_seq_k (fun K1 hK1 => ?_)
  refine scode_region (by kernel_rfl) ?_
  simp [go_sem]
  refine hK1 _ _ ?_
  clear hK1 K1
  refine scode_seq_k (fun K1 hK1 => ?_)
  refine scode_seq_k (fun K2 hK2 => ?_)
  refine scode_region (by kernel_rfl) ?_
  simp [go_sem]
  refine ⟨_, _, awake_s, ?_⟩
  simp [go_sem]
  refine hK2 _ _ ?_
  refine scode_if (b := false) (by simp [go_sem]) (fun h => by cases h) (fun _ => ?_)
  refine scode_skip ?_
  refine hK1 _ _ ?_
  clear hK1 hK2 K1 K2
  refine scode_seq_k (fun K1 hK1 => ?_)
  refine scode_region (by kernel_rfl) ?_
  simp [go_sem]
  refine ⟨_, _, one_at _ _, ?_⟩
  refine ⟨_, _, one_at _ _, ?_⟩
  simp [go_sem, zrep, Sn.cells, bytesA]
  refine ⟨_, _, sent_at B2 (by decide) _ 0 (by simp [go_sem, B2, sentsV, Sn.cells, bytesA]), ?_⟩
  refine hK1 _ _ ?_
  clear hK1 K1
  refine scode_seq_k (fun K1 hK1 => ?_)
  refine scode_region (by kernel_rfl) ?_
  simp [go_sem]
  refine ⟨_, _, one_at _ _, ?_⟩
  refine ⟨_, _, one_at _ _, ?_⟩
  simp [go_sem, zrep, Sn.cells, bytesA]
  refine ⟨_, _, sent_at C2 (by decide) _ 1 (by simp [go_sem, C2, sentsV, Sn.cells, bytesA]), ?_⟩
  refine hK1 _ _ ?_
  clear hK1 K1
  refine scode_seq_k (fun K1 hK1 => ?_)
  refine scode_slot (n := 300) [(1, sentsA B2), (2, sentsA C2)] 0 (.bool true) mixed (tabCall_ok [(12, [sentsA B2, sentsA C2], .int 1), (13, [sentsA B2, sentsA C2], .int (-1)), (14, [sentsA B2, .sc (.int .i64 (-5)), .agg (oneS 2).cells], .int 1), (15, [.agg (oneS 1).cells, .agg (oneS 1).cells], .bool true), (15, [.agg (oneS 1).cells, .agg (oneS 2).cells], .bool false)] ?_) (by simp [go_sem]) (by kernel_rfl) (fun env' H' hv => ?_)
  · intro t ht H
    simp only [List.mem_cons, List.mem_nil_iff, or_false] at ht
    rcases ht with rfl | rfl | rfl | rfl | rfl
    · exact scalls_frame hc hlt (by simp [go_sem]) _
    · exact scalls_frame hc2 hlt (by simp [go_sem]) _
    · exact scalls_frame hc3 (by simp [go_sem]; exact ⟨sentsA_lt _ _, cells_lt _ _⟩) (by simp [go_sem]) _
    · exact scalls_frame hc4 (by simp [go_sem]; exact cells_lt _ _) (by simp [go_sem]) _
    · exact scalls_frame hc5 (by simp [go_sem]; exact ⟨cells_lt _ _, cells_lt _ _⟩) (by simp [go_sem]) _
  · refine hK1 _ _ ?_
    refine scode_ret ?_
    simp only [go_sem]
    refine hR _ _ ?_
    exact ret_plain (by simp [go_sem, hv]) (fun b cs hb => by rw [get_empty] at hb; cases hb) (Nat.zero_le _) (by simp [go_sem])
end Go.Proofs.Ytmnbicoeahlpcaa
