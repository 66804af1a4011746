/- Contract: awake of the ledger's laws. -/
import Derived.Test.YtmnbicoeahlpcaaL8
import Derived.Test.YtmnbicoeahlpcaaFl29
set_option maxRecDepth 20000
noncomputable section
namespace Go.Proofs.Ytmnbicoeahlpcaa
open Go Go.Fl Go.Proofs

theorem one_at (c : Int) (H : Heap) : SCalls Try.prog 11 [.sc (.int .u8 c)] H (.agg (oneS c).cells) H :=
  scalls_frame (one_s c) (by simp [go_sem]) (by simp [go_sem]; exact cells_lt _ _) H

/-- A row that lies in the heap is handed to sent. -/
theorem sent_at (l : List Sn) (hlen : l.length ≤ 1048576) (H : Heap) (b : Nat) (hb : H.get b = some (sentsV l)) : SCalls Try.prog 10 [.ms b 0 l.length 3] H (sentsA l) (H.del b) :=
  scalls_give (sent_s l hlen) (by simp; exact sentsA_lt _ _) (sentsA_lt _ _) (.cons (Froz.row hb (by simp [Heap.get_del]) (by rw [sentsV_len]; omega) (by rw [List.drop_zero, List.take_of_length_le (by rw [sentsV_len]; omega)])) .nil)

def A3 : List Sn := [oneS 1, oneS 2, oneS 3]
def A2 : List Sn := [oneS 1, oneS 3]

theorem awake_s : SCalls Try.prog 9 [] Heap.empty (.bool true) Heap.empty := by
  refine scalls_of_k (sz := 22) (Try.call9) Try.func9 rfl (Nat.le_refl _) (by kernel_rfl) (fun R hR => ?_)
  refine scode_seq_k (fun K1 hK1 => ?_)
  refine scode_region (by kernel_rfl) ?_
  simp [go_sem]
  refine hK1 _ _ ?_
  clear hK1 K1
  refine scode_seq_k (fun K1 hK1 => ?_)
  refine scode_region (by kernel_rfl) ?_
  simp [go_sem]
  refine ⟨_, _, one_at _ _, ?_⟩
  refine ⟨_, _, one_at _ _, ?_⟩
  refine ⟨_, _, one_at _ _, ?_⟩
  simp [go_sem, zrep, Sn.cells, bytesA]
  refine ⟨_, _, sent_at A3 (by decide) _ 0 (by simp [go_sem, A3, sentsV, Sn.cells, bytesA]), ?_⟩
  refine hK1 _ _ ?_
  clear hK1 K1
  refine scode_seq_k (fun K1 hK1 => ?_)
  refine scode_region (by kernel_rfl) ?_
  simp [go_sem]
  refine ⟨_, _, one_at _ _, ?_⟩
  refine ⟨_, _, one_at _ _, ?_⟩
  simp [go_sem, zrep, Sn.cells, bytesA]
  refine ⟨_, _, sent_at A2 (by decide) _ 1 (by simp [go_sem, A2, sentsV, Sn.cells, bytesA]), ?_⟩
  refine hK1 _ _ ?_
  clear hK1 K1
  have ok3 : ∀ s ∈ A3, s.ok := by simp [A3, oneS, Sn.ok, isBytes]
  have ok2 : ∀ s ∈ A2, s.ok := by simp [A2, oneS, Sn.ok, isBytes]
  have hf : firstL A3 A2 0 0 = -1 := by decide
  have hm : missingL A3 A2 = 1 := by decide
  have hc := first_s A3 A2 ok3 ok2 (by decide) (by decide)
  have hc2 := missing_s A3 A2 ok3 ok2 (by decide) (by decide)
  rw [hf] at hc
  rw [hm] at hc2
  have hlt : ∀ x ∈ [sentsA A3, sentsA A2], x.Lt 0 := by simp; exact ⟨sentsA_lt _ _, sentsA_lt _ _⟩
  refine scode_seq_k (fun K1 hK1 => ?_)
  refine scode_region (by kernel_rfl) ?_
  simp [go_sem]
  refine ⟨_, _, scalls_frame hc hlt (by simp [go_sem]) _, ?_⟩
  simp [go_sem]
  refine ⟨_, _, scalls_frame hc2 hlt (by simp [go_sem]) _, ?_⟩
  simp [go_sem]
  refine hK1 _ _ ?_
  clear hK1 K1
  refine scode_ret ?_
  simp only [go_sem]
  refine hR _ _ ?_
  exact ret_plain (by simp [go_sem]) (fun b cs hb => by rw [get_empty] at hb; cases hb) (Nat.zero_le _) (by simp [go_sem])
end Go.Proofs.Ytmnbicoeahlpcaa
