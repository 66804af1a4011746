/- Contracts: md4.Sum; the document's pad. -/
import Derived.Test.YtklihehobpahkaaGreatDoorM5
import Derived.Test.YtklihehobpahkaaGreatDoorFl43
set_option linter.unusedVariables false
set_option linter.unusedSimpArgs false
set_option maxRecDepth 20000
noncomputable section
namespace Go.Proofs.YtklihehobpahkaaGreatDoor
open Go Go.Fl Go.Proofs

theorem ais_slice (k : IntKind) {m a n : Nat} (h : a + n ≤ m) : ((ais k m).drop a).take n = ais k n := by
  unfold ais
  rw [List.drop_replicate, List.take_replicate, Nat.min_eq_left (by omega)]

/-- The evaluator's outcome: a row of so many numbers in a slot, returned. -/
def endsRow (slot n : Nat) (k : IntKind) : Option (Exit × ET × Heap) → Bool
  | some (.ret, T, H) => (match T.fn slot with
    | .ms b o l s => (match H.get b with
      | some cs => Nat.beq o 0 && Nat.beq l n && Nat.beq s 1 && sameL deep cs (ais k n)
      | none => false)
    | _ => false)
  | _ => false

theorem scode_row {P : Program} {sz f : Nat} {c : Code} {Q : Exit → Env → Heap → Prop} {env : Env} {H : Heap} {call : ACall} (l : List (Nat × AV)) (slot n : Nat) (k : IntKind) (hm : P.follows .mixedOrders = true)
    (hc : ∀ k a H r H', call k a H = some (r, H') → SCalls P k a H r H') (hl : ∀ p ∈ l, p.1 < sz ∧ env p.1 = p.2) (h : endsRow slot n k (ecode call P sz f c (known sz l) H) = true) (hq : ∀ env' H' b, env' slot = .ms b 0 n 1 → H'.get b = some (ais k n) → Q .ret env' H') : SCode P sz c Q env H := by
  unfold endsRow at h
  split at h
  · rename_i T H' hr
    split at h
    · rename_i b o l' s hs
      split at h
      · rename_i cs hg
        simp only [Bool.and_eq_true, Nat.beq_eq] at h
        obtain ⟨⟨⟨rfl, rfl⟩, rfl⟩, h4⟩ := h
        rw [(same_eq _).2 _ _ h4] at hg
        exact scode_known l hm hc hl hr (hq _ _ b hs hg)
      · cases h
    · cases h
  · cases h

theorem noCall_ok {P : Program} : ∀ k a H r H', noCall k a H = some (r, H') → SCalls P k a H r H' := fun _ _ _ _ _ h => by cases h

set_option maxHeartbeats 4000000 in
theorem sum_s (n : Nat) (hn : n ≤ 1048000) : SCalls Tryz.prog 58 [aiA .u8 n] Heap.empty (aiA .u8 16) Heap.empty := by
  obtain ⟨m, hm64, hmb, hpad⟩ := padded_s n (by omega)
  have hpad := fun H => scalls_frame hpad (by simp; exact aiA_lt _ _ _) (aiA_lt _ _ _) H
  refine scalls_of_k (sz := 47) (Tryz.call58) Tryz.func58 rfl (Nat.le_refl _) (by kernel_rfl) (fun R hR => ?_)
  refine scode_seq_k (fun K1 hK1 => ?_)
  refine scode_region (by kernel_rfl) ?_
  simp [go_sem]
  refine hK1 _ _ ?_
  clear hK1 K1
  refine scode_seq_k (fun K2 hK2 => ?_)
  refine scode_region (by kernel_rfl) ?_
  simp [go_sem]
  refine hK2 _ _ ?_
  clear hK2 K2
  refine scode_seq_k (fun K3 hK3 => ?_)
  refine scode_region (by kernel_rfl) ?_
  simp [go_sem]
  refine ⟨_, _, hpad _, ?_⟩
  refine hK3 _ _ ?_
  clear hK3 K3
  refine scode_weak (env' := _) (H' := Heap.one (ais .u32 4)) ⟨Nat.le_refl _, fun b cs' hb => ?_⟩ (fun i => .same _) ?_
  · unfold Heap.one at hb
    rw [Heap.get_alloc] at hb
    split at hb
    · rename_i e; subst e; cases hb
      refine ⟨[.sc (.int .u32 1732584193), .sc (.int .u32 4023233417), .sc (.int .u32 2562383102), .sc (.int .u32 271733878)], by rw [Heap.get_alloc, if_pos rfl], rfl, fun i x x' hx hx' => ?_⟩
      rw [ais_get hx']
      match i, hx with
      | 0, hx => cases hx; exact .ai _ _
      | 1, hx => cases hx; exact .ai _ _
      | 2, hx => cases hx; exact .ai _ _
      | 3, hx => cases hx; exact .ai _ _
      | i + 4, hx => simp at hx
    · rw [get_empty] at hb; cases hb
  refine scode_seq_mid (fun env H => env 3 = .ptr 0 0 ∧ H.next = 1 ∧ H.get 0 = some (ais .u32 4)) ?_ ?_
  · refine scode_seq_k (fun K5 hK5 => ?_)
    refine scode_region (by kernel_rfl) ?_
    simp [go_sem]
    refine hK5 _ _ ?_
    clear hK5 K5
    refine scode_block ?_
    refine scode_loop (Inv := fun k env H => ∃ a : Nat, k = m - a ∧ a ≤ m ∧ a % 64 = 0 ∧ env 3 = .ptr 0 0 ∧ env 4 = aiA .u8 m ∧ env 5 = .sc (.int .i64 a) ∧ H.next = 1 ∧ H.get 0 = some (ais .u32 4)) ?_ (n := m) ⟨0, rfl, by omega, rfl, by simp [go_sem], by simp [go_sem], by simp [go_sem], rfl, rfl⟩
    rintro k env H ⟨a, rfl, ha, ha64, h3, h4, h5, hnx, hg⟩
    refine scode_seq_k (fun K7 hK7 => ?_)
    refine scode_seq_k (fun K8 hK8 => ?_)
    refine scode_region (by kernel_rfl) ?_
    simp [go_sem, h4, h5, aiA]
    refine hK8 _ _ ?_
    clear hK8 K8
    refine scode_if (b := decide (a < m)) (by simp [go_sem]) (fun hb => ?_) (fun hb => ?_)
    · refine scode_skip ?_
      refine hK7 _ _ ?_
      clear hK7 K7
      have hlt : a < m := by simpa using hb
      have h64 : a + 64 ≤ m := by omega
      have hw : IntKind.i64.wrap ((a : Int) + 64) = ((a + 64 : Nat) : Int) := by rw [IntWalk.i64_in _ (by omega)]; rfl
      refine scode_seq_k (fun K9 hK9 => ?_)
      refine scode_block ?_
      refine scode_region (by kernel_rfl) ?_
      have hsl := ais_slice .u8 h64
      have htn : ((a : Int) + 64).toNat = a + 64 := by omega
      have hp : (0 : Int) ≤ (a : Int) + 64 := by omega
      simp [go_sem, h3, h4, h5, aiA, hw, ais_len, h64, hsl, htn, hp]
      refine ⟨_, _, mix_s hg, ?_⟩
      refine hK9 _ _ ?_
      clear hK9 K9
      refine scode_hide (fun K9 hK9 => ?_)
      refine scode_region (by kernel_rfl) ?_
      simp [go_sem, h5, hw]
      refine hK9 _ _ ?_
      exact ⟨m - (a + 64), by omega, a + 64, rfl, by omega, by omega, by simp [go_sem, h3], by simp [go_sem, h4, aiA], by simp [go_sem], hnx, by rw [Heap.get_set, if_pos rfl, hg]; rfl⟩
    · refine scode_exit ?_
      simp [go_sem]
      exact ⟨h3, hnx, hg⟩
  rintro env H ⟨h3, hnx, hg⟩
  refine scode_weak (env' := env) (H' := Heap.one (ais .u32 4)) (HW.of_le (fun b cs hb => ?_) (by rw [hnx]; exact Nat.le_refl _)) (fun i => .same _) ?_
  · unfold Heap.one at hb
    rw [Heap.get_alloc] at hb
    split at hb
    · rename_i e; subst e; cases hb; exact hg
    · rw [get_empty] at hb; cases hb
  refine scode_row (f := deep) (call := noCall) [(3, .ptr 0 0)] 2 16 .u8 mixed noCall_ok (by simp [h3]) (by kernel_rfl) (fun env' H' b h2 hgb => ?_)
  refine hR _ _ ?_
  exact ret_pure (v := env' 2) (by simp [go_sem]) (by rw [h2]; exact froz_row hgb (Nat.zero_le _) (ais_len _ _) (fun x hx => by rw [(List.mem_replicate.1 hx).2]; exact .inr rfl)) (empty_le _) (Nat.zero_le _) (aiA_lt _ _ _)
end Go.Proofs.YtklihehobpahkaaGreatDoor
