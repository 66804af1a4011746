/- Contracts: the document's pad and Md4. -/
import Derived.Test.YtklihehobpahkaaGreatDoorM8
import Derived.Laws.Bits64
set_option linter.unusedVariables false
set_option linter.unusedSimpArgs false
set_option maxRecDepth 20000
noncomputable section
namespace Go.Proofs.YtklihehobpahkaaGreatDoor
open Go Go.Fl Go.Proofs

set_option maxHeartbeats 4000000 in
theorem pad_s (n : Nat) (hn : n ≤ 1048576) : ∃ m, m % 64 = 0 ∧ m ≤ n + 128 ∧ SCalls Tryz.prog 61 [aiA .u8 n, .sc (.bool true)] Heap.empty (aiA .u8 m) Heap.empty := by
  refine ⟨n + 1 + (119 - n % 64) % 64 + 8, by omega, by omega, ?_⟩
  refine scalls_of_k (sz := 48) (Tryz.call61) Tryz.func61 rfl (Nat.le_refl _) (by kernel_rfl) (fun R hR => ?_)
  have hb : (0 + n) * 1 ≤ 140737488355328 := by omega
  have hb2 : 0 + n ≤ 140737488355328 := by omega
  have hb3 : (n + 1) * 1 ≤ 140737488355328 := by omega
  have hb4 : n + 1 ≤ 140737488355328 := by omega
  have hall : (ais .u8 n).all AV.leaf = true := List.all_eq_true.2 fun x hx => by rw [(List.mem_replicate.1 hx).2]; rfl
  have hlen : (ais .u8 n).length = n := ais_len _ _
  have htk : (ais .u8 n).take n = ais .u8 n := List.take_of_length_le (by omega)
  refine scode_seq_k (fun K1 hK1 => ?_)
  refine scode_region (by kernel_rfl) ?_
  simp [go_sem]
  refine hK1 _ _ ?_
  clear hK1 K1
  refine scode_seq_k (fun K2 hK2 => ?_)
  refine scode_region (by kernel_rfl) ?_
  have hcopy := copy_s n (by omega)
  obtain ⟨bo0, hg0⟩ := copy_grown n
  have hap1 := app1 (x := .sc (.int .u8 128)) hg0 (by omega) rfl
  simp [go_sem]
  refine ⟨_, _, hcopy, ?_⟩
  simp [go_sem, hap1]
  refine hK2 _ _ ?_
  clear hK2 K2
  refine scode_gen (fun env H => env 0 = aiA .u8 n ∧ env 1 = .sc (.bool true) ∧ ∃ cs bo, grown H 1 (env 5) = some (n + 1, cs, bo) ∧ allK .u8 cs) ?_ ?_
  · refine ⟨by simp [go_sem], by simp [go_sem], ais .u8 n ++ [.sc (.int .u8 128)], some ((copyH n).next + 1), ?_, ?_⟩
    · simp [go_sem]
      exact app1_grown (x := .sc (.int .u8 128)) hg0
    · refine allK.append (fun x hx => ?_) (fun x hx => ?_)
      · rw [(List.mem_replicate.1 hx).2]; exact .inr rfl
      · rw [List.mem_singleton.1 hx]; exact .inl ⟨_, rfl⟩
  rintro env H ⟨h0, h1, cs, bo, hg, hc⟩
  refine scode_seq_mid (fun env H => env 0 = aiA .u8 n ∧ env 1 = .sc (.bool true) ∧ ∃ cs bo, grown H 1 (env 5) = some (n + 1 + (119 - n % 64) % 64, cs, bo) ∧ allK .u8 cs) ?_ ?_
  · refine scode_block ?_
    refine scode_loop (Inv := fun k env H => ∃ m cs bo, env 0 = aiA .u8 n ∧ env 1 = .sc (.bool true) ∧ grown H 1 (env 5) = some (m, cs, bo) ∧ allK .u8 cs ∧ n + 1 ≤ m ∧ k = (120 - m % 64) % 64 ∧ m + k = n + 1 + (119 - n % 64) % 64) ?_ (n := (119 - n % 64) % 64) ⟨n + 1, cs, bo, h0, h1, hg, hc, by omega, by omega, by omega⟩
    clear hc hg h0 h1
    rintro k env H ⟨m, cs, bo, h0, h1, hg, hc, hm, hk, hs⟩
    refine scode_seq_k (fun K2 hK2 => ?_)
    refine scode_seq_k (fun K3 hK3 => ?_)
    refine scode_region (by kernel_rfl) ?_
    have hl := grown_len (P := Tryz.prog) tU51 hg
    simp [go_sem, hl]
    refine hK3 _ _ ?_
    clear hK3 K3
    obtain ⟨q, hq⟩ : ∃ q, ((m : Int) % 64 != 56) = q := ⟨_, rfl⟩
    refine scode_if (b := q) (by simp [go_sem, hq]) (fun hb => ?_) (fun hb => ?_)
    · refine scode_skip ?_
      refine hK2 _ _ ?_
      clear hK2 K2
      have hne : m % 64 ≠ 56 := by
        intro e
        rw [hb] at hq
        simp at hq
        omega
      refine scode_block ?_
      refine scode_hide (fun K4 hK4 => ?_)
      refine scode_region (by kernel_rfl) ?_
      simp [go_sem, app1 (x := .sc (.int .u8 0)) hg (by omega) rfl]
      refine hK4 _ _ ?_
      exact ⟨k - 1, by omega, m + 1, cs ++ [.sc (.int .u8 0)], some (H.next + 1), by simpa [go_sem] using h0, by simpa [go_sem] using h1, by simpa [go_sem] using app1_grown hg, hc.append (fun x hx => by rw [List.mem_singleton.1 hx]; exact .inl ⟨_, rfl⟩), by omega, by omega, by omega⟩
    · refine scode_exit ?_
      have he : m % 64 = 56 := by
        rw [hb] at hq
        simp at hq
        omega
      have e : n + 1 + (119 - n % 64) % 64 = m := by omega
      simp [go_sem]
      rw [e]
      exact ⟨h0, h1, cs, ⟨bo, hg⟩, hc⟩
  clear hg hc h0 h1
  rintro env H ⟨h0, h1, cs, bo, hg, hc⟩
  obtain ⟨m, hm⟩ : ∃ m, n + 1 + (119 - n % 64) % 64 = m := ⟨_, rfl⟩
  rw [hm] at hg hR
  have hmb : m ≤ n + 64 := by omega
  refine scode_seq_k (fun K1 hK1 => ?_)
  refine scode_region (by kernel_rfl) ?_
  simp [go_sem, h0, aiA]
  refine hK1 _ _ ?_
  clear hK1 K1
  refine scode_gen (fun env H => (∃ z, env 6 = .sc (.int .u64 z)) ∧ env 1 = .sc (.bool true) ∧ ∃ cs bo, grown H 1 (env 5) = some (m, cs, bo) ∧ allK .u8 cs) ⟨⟨_, by simp [go_sem]; rfl⟩, by simpa [go_sem] using h1, cs, bo, by simpa [go_sem] using hg, hc⟩ ?_
  clear hg hc h0 h1
  rintro env H ⟨⟨z, h6⟩, h1, cs, bo, hg, hc⟩
  refine scode_seq_mid (fun env H => ∃ cs bo, grown H 1 (env 5) = some (m + 8, cs, bo) ∧ allK .u8 cs) ?_ ?_
  · refine scode_seq_k (fun K1 hK1 => ?_)
    refine scode_region (by kernel_rfl) ?_
    simp [go_sem]
    refine hK1 _ _ ?_
    clear hK1 K1
    refine scode_block ?_
    refine scode_loop (Inv := fun k env H => ∃ (i : Nat) (cs : List AV) (bo : Option Nat), k = 8 - i ∧ i ≤ 8 ∧ env 6 = .sc (.int .u64 z) ∧ env 1 = .sc (.bool true) ∧ env 7 = .sc (.int .i64 i) ∧ grown H 1 (env 5) = some (m + i, cs, bo) ∧ allK .u8 cs) ?_ (n := 8) ⟨0, cs, bo, rfl, by omega, by simpa [go_sem] using h6, by simpa [go_sem] using h1, by simp [go_sem], by simpa [go_sem] using hg, hc⟩
    clear hc hg h6 h1
    rintro k env H ⟨i, cs, bo, rfl, hi, h6, h1, h7, hg, hc⟩
    refine scode_seq_k (fun K2 hK2 => ?_)
    refine scode_seq_k (fun K3 hK3 => ?_)
    refine scode_region (by kernel_rfl) ?_
    simp [go_sem, h7]
    refine hK3 _ _ ?_
    clear hK3 K3
    refine scode_if (b := decide ((i : Int) < 8)) (by simp [go_sem]) (fun hb => ?_) (fun hb => ?_)
    · refine scode_skip ?_
      refine hK2 _ _ ?_
      clear hK2 K2
      have hlt : i < 8 := by simp at hb; omega
      have hw8 : IntKind.i64.wrap (8 * (i : Int)) = ((8 * i : Nat) : Int) := by rw [IntWalk.i64_in _ (by omega)]; omega
      have hw1 : IntKind.i64.wrap ((i : Int) + 1) = ((i + 1 : Nat) : Int) := by rw [IntWalk.i64_in _ (by omega)]; rfl
      have hp : (0 : Int) ≤ 8 * (i : Int) := by omega
      have hu8 : IntKind.u64.wrap (8 * (i : Int)) = 8 * (i : Int) := by rw [IntKind.wrap_u64]; omega
      refine scode_seq_k (fun K4 hK4 => ?_)
      refine scode_block ?_
      refine scode_seq_k (fun K5 hK5 => ?_)
      refine scode_region (by kernel_rfl) ?_
      simp [go_sem, h1]
      refine hK5 _ _ ?_
      clear hK5 K5
      refine scode_if (b := true) (by simp [go_sem, h1]) (fun _ => ?_) (fun h => by cases h)
      refine scode_region (by kernel_rfl) ?_
      have hap := fun v : Int => app1 (x := .sc (.int .u8 v)) hg (by omega) rfl
      simp [go_sem, h6, h7, hw8, hu8, hp, hap]
      refine hK4 _ _ ?_
      clear hK4 K4
      refine scode_hide (fun K4 hK4 => ?_)
      refine scode_region (by kernel_rfl) ?_
      simp [go_sem, h7, hw1]
      refine hK4 _ _ ?_
      refine ⟨8 - (i + 1), by omega, i + 1, _, _, rfl, by omega, by simp [go_sem, h6], by simp [go_sem, h1], by simp [go_sem], by simp [go_sem]; exact app1_grown hg, hc.append (fun x hx => by rw [List.mem_singleton.1 hx]; exact .inl ⟨_, rfl⟩)⟩
    · refine scode_exit ?_
      have e : i = 8 := by simp at hb; omega
      subst e
      exact ⟨cs, bo, hg, hc⟩
  clear hg hc h6 h1
  rintro env H ⟨cs, bo, hg, hc⟩
  refine scode_seq_k (fun K1 hK1 => ?_)
  refine scode_region (by kernel_rfl) ?_
  simp [go_sem]
  refine hK1 _ _ ?_
  refine scode_ret ?_
  simp only [go_sem]
  refine hR _ _ ?_
  exact ret_pure (v := env 5) (by simp [go_sem]) (froz_grown hg (fun b _ => Nat.zero_le b) hc) (empty_le _) (Nat.zero_le _) (aiA_lt _ _ _)

theorem enL : ∀ f ∈ [62], Enters Tryz.prog f := by
  simp only [List.mem_cons, List.mem_nil_iff, or_false, forall_eq]
  exact Tryz.call62

def ordV : List AV := [0, 1, 2, 3, 4, 5, 6, 7, 8, 9, 10, 11, 12, 13, 14, 15, 0, 4, 8, 12, 1, 5, 9, 13, 2, 6, 10, 14, 3, 7, 11, 15, 0, 8, 4, 12, 2, 10, 6, 14, 1, 9, 5, 13, 3, 11, 7, 15].map fun n => .sc (.int .i64 n)
def trnV : List AV := [3, 7, 11, 19, 3, 5, 9, 13, 3, 9, 11, 15].map fun n => .sc (.int .i64 n)
def md4E (m a : Nat) : Env
  | 3 => .ms 0 0 4 1
  | 4 => aiA .u8 m
  | 5 => .ms 1 0 48 1
  | 6 => .ms 2 0 12 1
  | 7 => .sc (.int .i64 a)
  | _ => .top
def md4P (e : Exit) (T : ET) (H : Heap) : Exit × List AV × List (Option (List AV)) := (e, [T.fn 3, T.fn 4, T.fn 5, T.fn 6, T.fn 7], [H.get 0, H.get 1, H.get 2, H.get 3])

theorem md4_lt : ∀ c ∈ [ais .u32 4, ordV, trnV, ais .u32 16], ∀ x ∈ c, x.Lt 0 := by
  intro c hc x hx
  simp only [List.mem_cons, List.mem_nil_iff, or_false] at hc
  rcases hc with rfl | rfl | rfl | rfl
  · exact ais_lt _ _ _ x hx
  · simp only [ordV, List.mem_map] at hx; obtain ⟨n, _, rfl⟩ := hx; exact .sc _
  · simp only [trnV, List.mem_map] at hx; obtain ⟨n, _, rfl⟩ := hx; exact .sc _
  · exact ais_lt _ _ _ x hx

@[go_sem] theorem tdiv4 (m : Nat) : (m : Int).tdiv 4 = ((m / 4 : Nat) : Int) := rfl
@[go_sem] theorem tmod4 (m : Nat) : (m : Int).tmod 4 = ((m % 4 : Nat) : Int) := rfl

set_option maxHeartbeats 8000000 in
theorem md4_s (n : Nat) (hn : n ≤ 1048000) : SCalls Tryz.prog 45 [aiA .u8 n] Heap.empty (aiA .u8 16) Heap.empty := by
  obtain ⟨m, hm64, hmb, hpad⟩ := pad_s n (by omega)
  have hpad := fun H => scalls_frame hpad (by simp [go_sem]; exact aiA_lt _ _ _) (aiA_lt _ _ _) H
  refine scalls_of_k (sz := 198) (Tryz.call45) Tryz.func45 rfl (Nat.le_refl _) (by kernel_rfl) (fun R hR => ?_)
  refine scode_seq_k (fun K1 hK1 => ?_)
  refine scode_region (by kernel_rfl) ?_
  simp [go_sem]
  refine hK1 _ _ ?_
  clear hK1 K1
  refine scode_seq_k (fun K1 hK1 => ?_)
  refine scode_region (by kernel_rfl) ?_
  simp [go_sem]
  refine hK1 _ _ ?_
  clear hK1 K1
  refine scode_seq_k (fun K1 hK1 => ?_)
  refine scode_region (by kernel_rfl) ?_
  simp [go_sem]
  refine ⟨_, _, hpad _, ?_⟩
  refine hK1 _ _ ?_
  clear hK1 K1
  refine scode_seq_mid (fun env H => env 3 = .ms 0 0 4 1 ∧ env 4 = aiA .u8 m ∧ env 5 = .ms 1 0 48 1 ∧ H.next = 2 ∧ H.get 0 = some [.sc (.int .u32 1732584193), .sc (.int .u32 4023233417), .sc (.int .u32 2562383102), .sc (.int .u32 271733878)] ∧ H.get 1 = some ordV) ?_ ?_
  · refine scode_proj_env [(3, .ms 0 0 4 1), (4, aiA .u8 m)] (call := noCall) (f := deep) (fun e T H => (e, [T.fn 3, T.fn 4, T.fn 5], H.next, [H.get 0, H.get 1])) (.normal, [.ms 0 0 4 1, aiA .u8 m, .ms 1 0 48 1], 2, [some [.sc (.int .u32 1732584193), .sc (.int .u32 4023233417), .sc (.int .u32 2562383102), .sc (.int .u32 271733878)], some ordV]) mixed noCall_ok (by simp [go_sem]) (by kernel_rfl) (fun e T' H' h => ?_)
    simp only [Prod.mk.injEq, List.cons.injEq] at h
    obtain ⟨rfl, ⟨h3, h4, h5, _⟩, hn, h0, h1, _⟩ := h
    exact ⟨h3, h4, h5, hn, h0, h1⟩
  rintro env H ⟨h3, h4, h5, hn, g0, g1⟩
  refine scode_weak (env' := env) (H' := Heap.many [ais .u32 4, ordV]) ⟨by rw [many_next, hn]; exact Nat.le_refl _, fun b cs' hb => ?_⟩ (fun i => .same _) ?_
  · rw [many_get] at hb
    match b, hb with
    | 0, hb =>
      cases hb
      refine ⟨_, g0, rfl, fun i x x' hx hx' => ?_⟩
      rw [ais_get hx']
      match i, hx with
      | 0, hx => cases hx; exact .ai _ _
      | 1, hx => cases hx; exact .ai _ _
      | 2, hx => cases hx; exact .ai _ _
      | 3, hx => cases hx; exact .ai _ _
      | i + 4, hx => simp at hx
    | 1, hb => cases hb; exact ⟨_, g1, rfl, fun i x x' hx hx' => by rw [hx] at hx'; cases hx'; exact .same _⟩
    | b + 2, hb => simp at hb
  refine scode_seq_mid (fun env H => env 3 = .ms 0 0 4 1 ∧ env 4 = aiA .u8 m ∧ env 5 = .ms 1 0 48 1 ∧ env 6 = .ms 2 0 12 1 ∧ H.next = 3 ∧ H.get 0 = some (ais .u32 4) ∧ H.get 1 = some ordV ∧ H.get 2 = some trnV) ?_ ?_
  · refine scode_proj_env [(3, .ms 0 0 4 1), (4, aiA .u8 m), (5, .ms 1 0 48 1)] (call := noCall) (f := deep) (fun e T H => (e, [T.fn 3, T.fn 4, T.fn 5, T.fn 6], H.next, [H.get 0, H.get 1, H.get 2])) (.normal, [.ms 0 0 4 1, aiA .u8 m, .ms 1 0 48 1, .ms 2 0 12 1], 3, [some (ais .u32 4), some ordV, some trnV]) mixed noCall_ok (by simp [go_sem, h3, h4, h5]) (by kernel_rfl) (fun e T' H' h => ?_)
    simp only [Prod.mk.injEq, List.cons.injEq] at h
    obtain ⟨rfl, ⟨h3, h4, h5, h6, _⟩, hn, h0, h1, h2, _⟩ := h
    exact ⟨h3, h4, h5, h6, hn, h0, h1, h2⟩
  clear h3 h4 h5 hn g0 g1
  rintro env H ⟨h3, h4, h5, h6, hn, g0, g1, g2⟩
  refine scode_seq_mid (fun env H => env 3 = .ms 0 0 4 1 ∧ H.get 0 = some (ais .u32 4)) ?_ ?_
  · refine scode_seq_k (fun K7 hK7 => ?_)
    refine scode_region (by kernel_rfl) ?_
    simp [go_sem]
    refine hK7 _ _ ?_
    clear hK7 K7
    refine scode_block ?_
    refine scode_loop (Inv := fun k env H => ∃ a : Nat, k = m - a ∧ a ≤ m ∧ a % 64 = 0 ∧ env 3 = .ms 0 0 4 1 ∧ env 4 = aiA .u8 m ∧ env 5 = .ms 1 0 48 1 ∧ env 6 = .ms 2 0 12 1 ∧ env 7 = .sc (.int .i64 a) ∧ 3 ≤ H.next ∧ H.get 0 = some (ais .u32 4) ∧ H.get 1 = some ordV ∧ H.get 2 = some trnV) ?_ (n := m) ⟨0, rfl, by omega, rfl, by simp [go_sem, h3], by simp [go_sem, h4], by simp [go_sem, h5], by simp [go_sem, h6], by simp [go_sem], by omega, g0, g1, g2⟩
    clear h3 h4 h5 h6 hn g0 g1 g2
    rintro k env H ⟨a, rfl, ha, ha64, h3, h4, h5, h6, h7, hn, g0, g1, g2⟩
    refine scode_seq_k (fun K9 hK9 => ?_)
    refine scode_seq_k (fun K10 hK10 => ?_)
    refine scode_region (by kernel_rfl) ?_
    simp [go_sem, h4, h7, aiA]
    refine hK10 _ _ ?_
    clear hK10 K10
    refine scode_if (b := decide (a < m)) (by simp [go_sem]) (fun hb => ?_) (fun hb => ?_)
    · refine scode_skip ?_
      refine hK9 _ _ ?_
      clear hK9 K9
      have hlt : a < m := by simpa using hb
      have h64 : a + 64 ≤ m := by omega
      refine scode_seq_mid (fun env H => env 3 = .ms 0 0 4 1 ∧ env 4 = aiA .u8 m ∧ env 5 = .ms 1 0 48 1 ∧ env 6 = .ms 2 0 12 1 ∧ env 7 = .sc (.int .i64 a) ∧ 3 ≤ H.next ∧ H.get 0 = some (ais .u32 4) ∧ H.get 1 = some ordV ∧ H.get 2 = some trnV) ?_ ?_
      · refine scode_block ?_
        refine scode_seq_k (fun K12 hK12 => ?_)
        refine scode_region (by kernel_rfl) ?_
        simp [go_sem]
        refine hK12 _ _ ?_
        clear hK12 K12
        refine scode_gen (fun env H => ∃ bx c, env 3 = .ms 0 0 4 1 ∧ env 4 = aiA .u8 m ∧ env 5 = .ms 1 0 48 1 ∧ env 6 = .ms 2 0 12 1 ∧ env 7 = .sc (.int .i64 a) ∧ env 8 = .ms bx 0 16 1 ∧ 3 ≤ bx ∧ bx < H.next ∧ H.get 0 = some (ais .u32 4) ∧ H.get 1 = some ordV ∧ H.get 2 = some trnV ∧ H.get bx = some c ∧ allK .u32 c ∧ c.length = 16) ?_ ?_
        · refine ⟨H.next, zrep [.sc (.int .u32 0)] 16, by simp [go_sem, h3], by simp [go_sem, h4], by simp [go_sem, h5], by simp [go_sem, h6], by simp [go_sem, h7], by simp [go_sem], hn, by simp [go_sem], ?_, ?_, ?_, ?_, ?_, rfl⟩
          · rw [Heap.get_alloc, if_neg (by omega)]; exact g0
          · rw [Heap.get_alloc, if_neg (by omega)]; exact g1
          · rw [Heap.get_alloc, if_neg (by omega)]; exact g2
          · rw [Heap.get_alloc, if_pos rfl]
          · have e : zrep [.sc (.int .u32 0)] 16 = List.replicate 16 (AV.sc (.int .u32 0)) := by kernel_rfl
            rw [e]
            intro x hx
            rw [(List.mem_replicate.1 hx).2]
            exact .inl ⟨0, rfl⟩
        clear h3 h4 h5 h6 h7 hn g0 g1 g2
        rintro env H ⟨bx, c, h3, h4, h5, h6, h7, h8, hbx, hbn, g0, g1, g2, gx, hck, hcl⟩
        refine scode_weak (HW.setK gx hck hcl) (fun i => .same _) ?_
        refine scode_seq_mid (fun env H => env 3 = .ms 0 0 4 1 ∧ env 4 = aiA .u8 m ∧ env 5 = .ms 1 0 48 1 ∧ env 6 = .ms 2 0 12 1 ∧ env 7 = .sc (.int .i64 a) ∧ env 8 = .ms bx 0 16 1 ∧ bx < H.next ∧ H.get 0 = some (ais .u32 4) ∧ H.get 1 = some ordV ∧ H.get 2 = some trnV ∧ H.get bx = some (ais .u32 16)) ?_ ?_
        · refine scode_seq_k (fun K14 hK14 => ?_)
          refine scode_region (by kernel_rfl) ?_
          simp [go_sem]
          refine hK14 _ _ ?_
          clear hK14 K14
          refine scode_block ?_
          refine scode_loop (Inv := fun k env H => ∃ i : Nat, k = 64 - i ∧ i ≤ 64 ∧ env 3 = .ms 0 0 4 1 ∧ env 4 = aiA .u8 m ∧ env 5 = .ms 1 0 48 1 ∧ env 6 = .ms 2 0 12 1 ∧ env 7 = .sc (.int .i64 a) ∧ env 8 = .ms bx 0 16 1 ∧ env 9 = .sc (.int .i64 i) ∧ bx < H.next ∧ H.get 0 = some (ais .u32 4) ∧ H.get 1 = some ordV ∧ H.get 2 = some trnV ∧ H.get bx = some (ais .u32 16)) ?_ (n := 64) ⟨0, rfl, by omega, by simp [go_sem, h3], by simp [go_sem, h4], by simp [go_sem, h5], by simp [go_sem, h6], by simp [go_sem, h7], by simp [go_sem, h8], by simp [go_sem], hbn, by rw [Heap.get_set, if_neg (by omega)]; exact g0, by rw [Heap.get_set, if_neg (by omega)]; exact g1, by rw [Heap.get_set, if_neg (by omega)]; exact g2, by rw [Heap.get_set, if_pos rfl, gx]; rfl⟩
          clear h3 h4 h5 h6 h7 h8 hbn g0 g1 g2 gx hck hcl
          rintro k env H ⟨i, rfl, hi, h3, h4, h5, h6, h7, h8, h9, hbn, g0, g1, g2, gx⟩
          refine scode_seq_k (fun K16 hK16 => ?_)
          refine scode_seq_k (fun K17 hK17 => ?_)
          refine scode_region (by kernel_rfl) ?_
          simp [go_sem, h9]
          refine hK17 _ _ ?_
          clear hK17 K17
          refine scode_if (b := decide ((i : Int) < 64)) (by simp [go_sem]) (fun hb => ?_) (fun hb => ?_)
          · refine scode_skip ?_
            refine hK16 _ _ ?_
            clear hK16 K16
            have hil : i < 64 := by simp at hb; omega
            have hw1 : IntKind.i64.wrap ((i : Int) + 1) = ((i + 1 : Nat) : Int) := by rw [IntWalk.i64_in _ (by omega)]; rfl
            have hwa : IntKind.i64.wrap ((a : Int) + (i : Int)) = ((a + i : Nat) : Int) := by rw [IntWalk.i64_in _ (by omega)]; rfl
            have hw4 : IntKind.i64.wrap ((i : Int) / 4) = ((i / 4 : Nat) : Int) := by rw [IntWalk.i64_in _ (by omega)]; rfl
            have hw8 : IntKind.i64.wrap (8 * ((i : Int) % 4)) = ((8 * (i % 4) : Nat) : Int) := by rw [IntWalk.i64_in _ (by omega)]; omega
            have hu8 : IntKind.u64.wrap (8 * ((i : Int) % 4)) = 8 * ((i : Int) % 4) := by rw [IntKind.wrap_u64]; omega
            have hp8 : (0 : Int) ≤ 8 * ((i : Int) % 4) := by omega
            have hq : i / 4 < 16 := by omega
            have hai : a + i < m := by omega
            have p1 : (0 : Int) ≤ (i : Int) / 4 := by omega
            have p2 : (i : Int) / 4 < 16 := by omega
            have p3 : ((i : Int) / 4).toNat = i / 4 := by omega
            have p4 : (0 : Int) ≤ (a : Int) + (i : Int) := by omega
            have p5 : (a : Int) + (i : Int) < (m : Int) := by omega
            have p6 : ((a : Int) + (i : Int)).toNat = a + i := by omega
            have q1 : i / 4 + 1 ≤ 16 := by omega
            have d1 := ais_drop .u32 hq
            have d2 := ais_drop .u8 hai
            have s1 := ais_splice .u32 hq
            refine scode_seq_k (fun K18 hK18 => ?_)
            refine scode_block ?_
            refine scode_draw_o mixed (by kernel_rfl) [0, 0, 2, 0, 0, 16, 56, 120, 0, 0, 0, 1536, 3840, 7936, 16128, 0, 32768, 98304, 229376, 524032, 1048568, 2097151, 4194303] (by kernel_rfl) (fun ops' _ => ?_)
            refine wd_take 8 (by decide) (fun K7 hK7 => ?_)
            simp [go_sem, h4, h7, h8, h9, gx, aiA, ais_len, hw4, hwa, hw8, hu8, hp8, d1, d2, p1, p2, p3, p4, p5, p6, q1, befL]
            refine hK7 _ _ _ _ ?_
            clear hK7 K7
            refine wd_take 6 (by decide) (fun K7 hK7 => ?_)
            simp [go_sem, h4, h7, h8, h9, gx, aiA, ais_len, hw4, hwa, hw8, hu8, hp8, d1, d2, p1, p2, p3, p4, p5, p6, q1, befL]
            refine hK7 _ _ _ _ ?_
            clear hK7 K7
            refine wd_take 5 (by decide) (fun K7 hK7 => ?_)
            simp [go_sem, h4, h7, h8, h9, gx, aiA, ais_len, hw4, hwa, hw8, hu8, hp8, d1, d2, p1, p2, p3, p4, p5, p6, q1, befL]
            refine hK7 _ _ _ _ ?_
            clear hK7 K7
            simp [go_sem, h4, h7, h8, h9, gx, aiA, ais_len, hw4, hwa, hw8, hu8, hp8, d1, d2, p1, p2, p3, p4, p5, p6, q1, befL]
            have s2 : (ais .u32 16).take (i / 4) ++ AV.ai .u32 :: (ais .u32 16).drop (i / 4 + 1) = ais .u32 16 := by
              have := s1
              unfold splice at this
              simpa using this
            rw [s2]
            refine hK18 _ _ ?_
            clear hK18 K18
            refine scode_hide (fun K4 hK4 => ?_)
            refine scode_region (by kernel_rfl) ?_
            simp [go_sem, h9, hw1]
            refine hK4 _ _ ?_
            exact ⟨64 - (i + 1), by omega, i + 1, rfl, by omega, by simp [go_sem, h3], by simp [go_sem, h4, aiA], by simp [go_sem, h5], by simp [go_sem, h6], by simp [go_sem, h7], by simp [go_sem, h8], by simp [go_sem], hbn, by rw [Heap.get_set, if_neg (by omega)]; exact g0, by rw [Heap.get_set, if_neg (by omega)]; exact g1, by rw [Heap.get_set, if_neg (by omega)]; exact g2, by rw [Heap.get_set, if_pos rfl, gx]; rfl⟩
          · refine scode_exit ?_
            simp [go_sem]
            exact ⟨h3, h4, h5, h6, h7, h8, hbn, g0, g1, g2, gx⟩
        clear h3 h4 h5 h6 h7 h8 hbn g0 g1 g2 gx hck hcl
        rintro env H ⟨h3, h4, h5, h6, h7, h8, hbn, g0, g1, g2, gx⟩
        refine scode_local (ex := .normal) (bs := [0, 1, 2, bx]) (cs0 := [ais .u32 4, ordV, trnV, ais .u32 16]) (cs1 := [ais .u32 4, ordV, trnV, ais .u32 16])
          (env0 := ET.fn (known 198 [(3, .ms 0 0 4 1), (4, aiA .u8 m), (5, .ms 1 0 48 1), (6, .ms 2 0 12 1), (7, .sc (.int .i64 a)), (8, .ms 3 0 16 1)])) (env1 := md4E m a) rfl rfl ?_ ?_ ?_ ?_ ?_ ?_ ?_
        · simp; omega
        · intro i b c0 hb hc0
          refine ⟨c0, ?_, rfl, fun j x x' hx hx' => ?_⟩
          · match i, hb, hc0 with
            | 0, hb, hc0 => cases hb; cases hc0; exact g0
            | 1, hb, hc0 => cases hb; cases hc0; exact g1
            | 2, hb, hc0 => cases hb; cases hc0; exact g2
            | 3, hb, hc0 => cases hb; cases hc0; exact gx
            | i + 4, hb, _ => simp at hb
          · rw [hx] at hx'
            cases hx'
            exact ⟨md4_lt c0 (List.mem_of_getElem? hc0) x (List.mem_of_getElem? hx), .same _⟩
        · exact md4_lt
        · refine ren_known _ ?_
          simp only [List.mem_cons, List.mem_nil_iff, or_false, forall_eq_or_imp, forall_eq, h3, h4, h5, h6, h7, h8]
          exact ⟨.ms 0 4 1 rfl, .plain (aiA_lt _ _ _) (.same _), .ms 0 48 1 rfl, .ms 0 12 1 rfl, .plain (.sc _) (.same _), .ms 0 16 1 rfl⟩
        · exact known_undef _ (by simp)
        · refine scode_proj (call := ecall Tryz.prog [62] 10) (f := deep) md4P (.normal, [.ms 0 0 4 1, aiA .u8 m, .ms 1 0 48 1, .ms 2 0 12 1, .sc (.int .i64 a)], [some (ais .u32 4), some ordV, some trnV, some (ais .u32 16)]) mixed (ecall_sound mixed enL 10) (by kernel_rfl) (fun e T' H' h => ?_)
          simp only [md4P, Prod.mk.injEq, List.cons.injEq] at h
          obtain ⟨rfl, ⟨k3, k4, k5, k6, k7, _⟩, j0, j1, j2, j3, _⟩ := h
          refine ⟨rfl, fun i c1 hi => ?_, fun s => ?_⟩
          · match i, hi with
            | 0, hi => cases hi; exact j0
            | 1, hi => cases hi; exact j1
            | 2, hi => cases hi; exact j2
            | 3, hi => cases hi; exact j3
            | i + 4, hi => simp at hi
          · match s with
            | 0 => exact .top _
            | 1 => exact .top _
            | 2 => exact .top _
            | 3 => rw [k3]; exact .ms 0 4 1 rfl
            | 4 => rw [k4]; exact .plain (aiA_lt _ _ _) (.same _)
            | 5 => rw [k5]; exact .ms 0 48 1 rfl
            | 6 => rw [k6]; exact .ms 0 12 1 rfl
            | 7 => rw [k7]; exact .plain (.sc _) (.same _)
            | s + 8 => exact .top _
        · have gs : ∀ (i b : Nat) (c : List AV), ([0, 1, 2, bx].zip [ais .u32 4, ordV, trnV, ais .u32 16])[i]? = some (b, c) → (∃ c0, H.get b = some c0) → (H.setAll ([0, 1, 2, bx].zip [ais .u32 4, ordV, trnV, ais .u32 16])).get b = some c := fun i b c hi h0 => setAll_at _ H i b c (by simp; omega) hi h0
          exact ⟨rfl, rfl, rfl, rfl, rfl, by rw [setAll_next]; omega, gs 0 _ _ rfl ⟨_, g0⟩, gs 1 _ _ rfl ⟨_, g1⟩, gs 2 _ _ rfl ⟨_, g2⟩⟩
      clear h3 h4 h5 h6 h7 hn g0 g1 g2
      rintro env H ⟨h3, h4, h5, h6, h7, hn, g0, g1, g2⟩
      refine scode_hide (fun K4 hK4 => ?_)
      refine scode_region (by kernel_rfl) ?_
      have hw : IntKind.i64.wrap ((a : Int) + 64) = ((a + 64 : Nat) : Int) := by rw [IntWalk.i64_in _ (by omega)]; rfl
      simp [go_sem, h7, hw]
      refine hK4 _ _ ?_
      exact ⟨m - (a + 64), by omega, a + 64, rfl, by omega, by omega, by simp [go_sem, h3], by simp [go_sem, h4], by simp [go_sem, h5], by simp [go_sem, h6], by simp [go_sem], hn, g0, g1, g2⟩
    · refine scode_exit ?_
      simp [go_sem]
      exact ⟨h3, g0⟩
  clear h3 h4 h5 h6 hn g0 g1 g2
  rintro env H ⟨h3, g0⟩
  refine scode_seq_k (fun K1 hK1 => ?_)
  refine scode_region (by kernel_rfl) ?_
  simp [go_sem]
  refine hK1 _ _ ?_
  clear hK1 K1
  refine scode_seq_mid (fun env H => ∃ cs bo, grown H 1 (env 16) = some (16, cs, bo) ∧ allK .u8 cs) ?_ ?_
  · refine scode_seq_k (fun K1 hK1 => ?_)
    refine scode_region (by kernel_rfl) ?_
    simp [go_sem]
    refine hK1 _ _ ?_
    clear hK1 K1
    refine scode_block ?_
    refine scode_loop (Inv := fun k env H => ∃ (i : Nat) (cs : List AV) (bo : Option Nat), k = 16 - i ∧ i ≤ 16 ∧ env 3 = .ms 0 0 4 1 ∧ env 17 = .sc (.int .i64 i) ∧ grown H 1 (env 16) = some (i, cs, bo) ∧ allK .u8 cs ∧ bo ≠ some 0 ∧ 0 < H.next ∧ H.get 0 = some (ais .u32 4)) ?_ (n := 16) ⟨0, [], none, rfl, by omega, by simp [go_sem, h3], by simp [go_sem], by simp [go_sem], (fun x hx => by cases hx), by simp, Heap.lt_of_get g0, g0⟩
    clear h3 g0
    rintro k env H ⟨i, cs, bo, rfl, hi, h3, h17, hg, hc, hbo, hnx, g0⟩
    refine scode_seq_k (fun K5 hK5 => ?_)
    refine scode_seq_k (fun K6 hK6 => ?_)
    refine scode_region (by kernel_rfl) ?_
    simp [go_sem, h17]
    refine hK6 _ _ ?_
    clear hK6 K6
    refine scode_if (b := decide ((i : Int) < 16)) (by simp [go_sem]) (fun hb => ?_) (fun hb => ?_)
    · refine scode_skip ?_
      refine hK5 _ _ ?_
      clear hK5 K5
      have hil : i < 16 := by simp at hb; omega
      have hw1 : IntKind.i64.wrap ((i : Int) + 1) = ((i + 1 : Nat) : Int) := by rw [IntWalk.i64_in _ (by omega)]; rfl
      have hw4 : IntKind.i64.wrap ((i : Int) / 4) = ((i / 4 : Nat) : Int) := by rw [IntWalk.i64_in _ (by omega)]; rfl
      have hw8 : IntKind.i64.wrap (8 * ((i : Int) % 4)) = ((8 * (i % 4) : Nat) : Int) := by rw [IntWalk.i64_in _ (by omega)]; omega
      have hu8 : IntKind.u64.wrap (8 * ((i : Int) % 4)) = 8 * ((i : Int) % 4) := by rw [IntKind.wrap_u64]; omega
      have hp8 : (0 : Int) ≤ 8 * ((i : Int) % 4) := by omega
      have hq : i / 4 < 4 := by omega
      have p1 : (0 : Int) ≤ (i : Int) / 4 := by omega
      have p2 : (i : Int) / 4 < 4 := by omega
      have p3 : ((i : Int) / 4).toNat = i / 4 := by omega
      have q1 : i / 4 + 1 ≤ 4 := by omega
      have d1 := ais_drop .u32 hq
      have hap := app1 (x := .ai .u8) hg (by omega) rfl
      refine scode_seq_k (fun K4 hK4 => ?_)
      refine scode_block ?_
      refine scode_region (by kernel_rfl) ?_
      refine w_take 9 (fun K6 hK6 => ?_)
      simp [go_sem, h3, h17, g0, hw4, hw8, hu8, hp8, ais_len, d1, p1, p2, p3, q1]
      refine hK6 _ _ ?_
      clear hK6 K6
      simp [go_sem, h3, h17, g0, hw4, hw8, hu8, hp8, hap]
      refine hK4 _ _ ?_
      clear hK4 K4
      refine scode_hide (fun K4 hK4 => ?_)
      refine scode_region (by kernel_rfl) ?_
      simp [go_sem, h17, hw1]
      refine hK4 _ _ ?_
      refine ⟨16 - (i + 1), by omega, i + 1, _, _, rfl, by omega, by simp [go_sem, h3], by simp [go_sem], by simp [go_sem]; exact app1_grown hg, hc.append (fun x hx => by rw [List.mem_singleton.1 hx]; exact .inr rfl), by simp, by rw [app1_next]; omega, ?_⟩
      exact get_regrow_other (by rw [Heap.get_alloc, if_neg (by omega)]; exact g0) hbo
    · refine scode_exit ?_
      have e : i = 16 := by simp at hb; omega
      subst e
      exact ⟨cs, bo, hg, hc⟩
  clear h3 g0
  rintro env H ⟨cs, bo, hg, hc⟩
  refine scode_seq_k (fun K1 hK1 => ?_)
  refine scode_region (by kernel_rfl) ?_
  simp [go_sem]
  refine hK1 _ _ ?_
  refine scode_ret ?_
  simp only [go_sem]
  refine hR _ _ ?_
  exact ret_pure (v := env 16) (by simp [go_sem]) (froz_grown hg (fun b _ => Nat.zero_le b) hc) (empty_le _) (Nat.zero_le _) (aiA_lt _ _ _)
end Go.Proofs.YtklihehobpahkaaGreatDoor
