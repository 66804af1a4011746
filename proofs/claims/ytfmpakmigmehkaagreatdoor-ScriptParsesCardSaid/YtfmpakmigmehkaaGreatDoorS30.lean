/- Contract: the document's line of an end. -/
import Derived.Test.YtfmpakmigmehkaaGreatDoorFl43
import Derived.Test.YtfmpakmigmehkaaGreatDoorS28
set_option linter.unusedVariables false
set_option linter.unusedSimpArgs false
set_option maxRecDepth 20000
noncomputable section
namespace Go.Proofs.YtfmpakmigmehkaaGreatDoor
open Go Go.Fl Go.Proofs

theorem rbit_H (b : Bool) (H : Heap) : SCalls Tryz.prog 57 [.bool b] H (sA (bitL b)) H := scalls_frame (rbit_s b) (by simp [go_sem]) (by simp [go_sem]) H
theorem rhex_H (l : List UInt8) (hl : l.length ≤ 1000000) (H : Heap) : SCalls Tryz.prog 37 [.vs l.length 1 (bV l)] H (sA (hexL l)) H := scalls_frame (rhex_s l hl) (by simp [bA_lt]) (by simp [go_sem]) H
theorem rint_H (n : Int) (h : inI n) (H : Heap) : SCalls Tryz.prog 36 [.int n] H (sA (Lib.itoa n)) H := scalls_frame (int_s n h) (by simp [go_sem]) (by simp [go_sem]) H
theorem joinW_app : ∀ (x y : List Word), x ≠ [] → y ≠ [] → joinW (x ++ y) = joinW x ++ 32 :: joinW y
  | [], y, h, _ => absurd rfl h
  | [a], [], _, h => absurd rfl h
  | [a], b :: y, _, _ => rfl
  | a :: b :: x, y, _, hy => by
    have ih := joinW_app (b :: x) y (by simp) hy
    show a ++ 32 :: joinW ((b :: x) ++ y) = (a ++ 32 :: joinW (b :: x)) ++ 32 :: joinW y
    rw [ih]; simp
theorem take_ne (ws : List Word) (j : Nat) (h1 : 1 ≤ j) (h2 : j ≤ ws.length) : ws.take j ≠ [] := by
  intro e
  have := congrArg List.length e
  rw [List.length_take, Nat.min_eq_left h2] at this
  simp at this
  omega
theorem joinW_take (ws : List Word) (j : Nat) : (joinW (ws.take j)).length ≤ (joinW ws).length := by
  rcases Nat.eq_zero_or_pos j with rfl | hj
  · simp [joinW]
  · rcases Nat.lt_or_ge j ws.length with h | h
    · have := joinW_app (ws.take j) (ws.drop j) (take_ne ws j hj (by omega)) (by intro e; have := congrArg List.length e; simp at this; omega)
      rw [List.take_append_drop] at this
      rw [this]; simp
    · rw [List.take_of_length_le h]; exact Nat.le_refl _
theorem joinW_next (ws : List Word) (j : Nat) (w : Word) (h : ws[j]? = some w) (hj : 1 ≤ j) : joinW (ws.take (j + 1)) = (joinW (ws.take j) ++ [32]) ++ w := by
  have hl := (List.getElem?_eq_some_iff.1 h).1
  rw [List.take_add_one, h]
  show joinW (ws.take j ++ [w]) = _
  rw [joinW_app _ _ (take_ne ws j hj (by omega)) (by simp)]
  simp [joinW]

set_option maxHeartbeats 20000000 in
theorem line_s (c : CfgS) (hok : c.ok) (hname : c.name.length ≤ 1000000) (hsecret : c.secret.length ≤ 1000000) : SCalls Tryz.prog 35 [.agg (cfgC c)] Heap.empty (sA (c.line ++ [10])) Heap.empty := by
  obtain ⟨i1, i2, i3, i4, i5, i6, i7⟩ := hok
  have hlen : (joinW c.words).length ≤ 5000000 := Nat.le_trans (cfg_line_len c ⟨i1, i2, i3, i4, i5, i6, i7⟩) (by omega)
  have hw64 : IntKind.i64.wrap c.accm = c.accm := i64in _ (by omega) (by omega)
  refine scalls_of_k (sz := 82) (Tryz.call35) Tryz.func35 rfl (Nat.zero_le _) (by kernel_rfl) (fun R hR => ?_)
  refine scode_seq_mid (fun env H => env 1 = .ptr 0 0 ∧ H.get 0 = some (cfgC c)) ?_ ?_
  · skip
    refine scode_region (by kernel_rfl) ?_
    simp [go_sem]
    first
      | done
      | rfl
      | simp [go_sem]
  rintro env H ⟨e1, hC⟩
  simp only [cfgC] at hC
  refine scode_seq_mid (fun env H => ∃ k, env 3 = .ms k 0 19 1 ∧ H.get k = some (wV c.words)) ?_ ?_
  · skip
    refine scode_drawST (bf := [0, 1, 3, 0, 8, 24, 63, 0, 128, 384, 1023, 0, 2048, 8191, 0, 16384, 65535, 0, 131072, 524287, 0, 1048576, 3145728, 8388607, 0, 16777216, 67108863, 0, 134217728, 536870911, 0, 1073741824, 4294967295, 0, 8589934592, 34359738367, 0, 68719476736, 274877906943, 0, 549755813888, 2199023255551, 0, 4398046511104, 17592186044415, 0, 35184372088832, 140737488355327, 0, 281474976710656, 1125899906842623, 0, 2251799813685248, 9007199254740991, 0, 18014398509481984, 72057594037927935, 144115188075855871, 288230376151711743]) 57 mixed (by kernel_rfl) (by kernel_rfl) (by kernel_rfl) (fun K99 hK99 => ?_)
    simp only [List.append_eq, List.cons_append, List.nil_append, List.take, List.drop]
    refine ws_take 3 (fun K101 hK101 => ?_)
    simp [go_sem, hC, e1, strV_bs, hw64]
    refine ⟨_, _, rbit_H _ _, rfl, ?_⟩
    try simp [go_sem, hC, e1]
    refine hK101 _ _ ?_
    clear hK101 K101
    refine ws_take 4 (fun K102 hK102 => ?_)
    simp [go_sem, hC, e1, strV_bs, hw64]
    refine ⟨_, _, rhex_H _ hname _, rfl, ?_⟩
    try simp [go_sem, hC, e1]
    refine hK102 _ _ ?_
    clear hK102 K102
    refine ws_take 4 (fun K103 hK103 => ?_)
    simp [go_sem, hC, e1, strV_bs, hw64]
    refine ⟨_, _, rhex_H _ hsecret _, rfl, ?_⟩
    try simp [go_sem, hC, e1]
    refine hK103 _ _ ?_
    clear hK103 K103
    refine ws_take 3 (fun K104 hK104 => ?_)
    simp [go_sem, hC, e1, strV_bs, hw64]
    refine ⟨_, _, rint_H _ i1 _, rfl, ?_⟩
    try simp [go_sem, hC, e1]
    refine hK104 _ _ ?_
    clear hK104 K104
    refine ws_take 3 (fun K105 hK105 => ?_)
    simp [go_sem, hC, e1, strV_bs, hw64]
    refine ⟨_, _, rbit_H _ _, rfl, ?_⟩
    try simp [go_sem, hC, e1]
    refine hK105 _ _ ?_
    clear hK105 K105
    refine ws_take 3 (fun K106 hK106 => ?_)
    simp [go_sem, hC, e1, strV_bs, hw64]
    refine ⟨_, _, rbit_H _ _, rfl, ?_⟩
    try simp [go_sem, hC, e1]
    refine hK106 _ _ ?_
    clear hK106 K106
    refine ws_take 4 (fun K107 hK107 => ?_)
    simp [go_sem, hC, e1, strV_bs, hw64]
    refine ⟨_, _, rint_H _ (inI_u32 i2) _, rfl, ?_⟩
    try simp [go_sem, hC, e1]
    refine hK107 _ _ ?_
    clear hK107 K107
    refine ws_take 3 (fun K108 hK108 => ?_)
    simp [go_sem, hC, e1, strV_bs, hw64]
    refine ⟨_, _, rint_H _ i3 _, rfl, ?_⟩
    try simp [go_sem, hC, e1]
    refine hK108 _ _ ?_
    clear hK108 K108
    refine ws_take 3 (fun K109 hK109 => ?_)
    simp [go_sem, hC, e1, strV_bs, hw64]
    refine ⟨_, _, rbit_H _ _, rfl, ?_⟩
    try simp [go_sem, hC, e1]
    refine hK109 _ _ ?_
    clear hK109 K109
    refine ws_take 3 (fun K110 hK110 => ?_)
    simp [go_sem, hC, e1, strV_bs, hw64]
    refine ⟨_, _, rint_H _ i4 _, rfl, ?_⟩
    try simp [go_sem, hC, e1]
    refine hK110 _ _ ?_
    clear hK110 K110
    refine ws_take 3 (fun K111 hK111 => ?_)
    simp [go_sem, hC, e1, strV_bs, hw64]
    refine ⟨_, _, rbit_H _ _, rfl, ?_⟩
    try simp [go_sem, hC, e1]
    refine hK111 _ _ ?_
    clear hK111 K111
    refine ws_take 3 (fun K112 hK112 => ?_)
    simp [go_sem, hC, e1, strV_bs, hw64]
    refine ⟨_, _, rbit_H _ _, rfl, ?_⟩
    try simp [go_sem, hC, e1]
    refine hK112 _ _ ?_
    clear hK112 K112
    refine ws_take 3 (fun K113 hK113 => ?_)
    simp [go_sem, hC, e1, strV_bs, hw64]
    refine ⟨_, _, rbit_H _ _, rfl, ?_⟩
    try simp [go_sem, hC, e1]
    refine hK113 _ _ ?_
    clear hK113 K113
    refine ws_take 3 (fun K114 hK114 => ?_)
    simp [go_sem, hC, e1, strV_bs, hw64]
    refine ⟨_, _, rbit_H _ _, rfl, ?_⟩
    try simp [go_sem, hC, e1]
    refine hK114 _ _ ?_
    clear hK114 K114
    refine ws_take 3 (fun K115 hK115 => ?_)
    simp [go_sem, hC, e1, strV_bs, hw64]
    refine ⟨_, _, rbit_H _ _, rfl, ?_⟩
    try simp [go_sem, hC, e1]
    refine hK115 _ _ ?_
    clear hK115 K115
    refine ws_take 3 (fun K116 hK116 => ?_)
    simp [go_sem, hC, e1, strV_bs, hw64]
    refine ⟨_, _, rint_H _ i5 _, rfl, ?_⟩
    try simp [go_sem, hC, e1]
    refine hK116 _ _ ?_
    clear hK116 K116
    refine ws_take 3 (fun K117 hK117 => ?_)
    simp [go_sem, hC, e1, strV_bs, hw64]
    refine ⟨_, _, rint_H _ i6 _, rfl, ?_⟩
    try simp [go_sem, hC, e1]
    refine hK117 _ _ ?_
    clear hK117 K117
    simp [go_sem, hC, e1, strV_bs, hw64]
    refine ⟨_, _, rint_H _ i7 _, rfl, ?_⟩
    try simp [go_sem, hC, e1]
    suffices hs : ∀ E, (E 8 = sA (bitL c.server) ∧ E 12 = sA (hexL c.name) ∧ E 16 = sA (hexL c.secret) ∧ E 19 = sA (Lib.itoa c.mru) ∧ E 22 = sA (bitL c.pfc) ∧ E 25 = sA (bitL c.acfc) ∧ E 29 = sA (Lib.itoa c.accm) ∧ E 32 = sA (Lib.itoa c.mrru) ∧ E 35 = sA (bitL c.short) ∧ E 38 = sA (Lib.itoa c.bits) ∧ E 41 = sA (bitL c.stl) ∧ E 44 = sA (bitL c.mppc) ∧ E 47 = sA (bitL c.defl) ∧ E 50 = sA (bitL c.must) ∧ E 53 = sA (bitL c.sym) ∧ E 56 = sA (Lib.itoa c.tmo) ∧ E 59 = sA (Lib.itoa c.tries) ∧ E 62 = sA (Lib.itoa c.frag)) → K99 E H from hs _ ⟨by simp [go_sem], by simp [go_sem], by simp [go_sem], by simp [go_sem], by simp [go_sem], by simp [go_sem], by simp [go_sem], by simp [go_sem], by simp [go_sem], by simp [go_sem], by simp [go_sem], by simp [go_sem], by simp [go_sem], by simp [go_sem], by simp [go_sem], by simp [go_sem], by simp [go_sem], by simp [go_sem]⟩
    rintro E ⟨t8, t12, t16, t19, t22, t25, t29, t32, t35, t38, t41, t44, t47, t50, t53, t56, t59, t62⟩
    refine hK99 E H ?_
    clear hK99 K99
    simp (config := {maxSteps := 10000000}) [go_sem, t8, t12, t16, t19, t22, t25, t29, t32, t35, t38, t41, t44, t47, t50, t53, t56, t59, t62, zrep1_19]
    first
      | done
      | rfl
  clear e1 hC
  rintro env H ⟨k, e3, gk⟩
  refine scode_freeze_grown 3 e3 (grown_of gk (by rw [wV_len]; rfl)) ?_
  refine scode_gen (fun env H => env 3 = .vs 19 1 (wV c.words)) (by simp [go_sem]) ?_
  clear e3 gk
  rintro env H e3
  obtain ⟨ws, hws⟩ : ∃ ws, c.words = ws := ⟨_, rfl⟩
  rw [hws] at e3
  have hwl : ws.length = 19 := by rw [← hws]; rfl
  have hLw : (wV ws).length = 19 := by rw [wV_len]; exact hwl
  have hjl : (joinW ws).length ≤ 5000000 := by rw [← hws]; exact hlen
  obtain ⟨w0, hw0⟩ := get_of_lt ws 0 (by omega)
  obtain ⟨r0, hd0⟩ := wV_at hw0
  rw [List.drop_zero] at hd0
  have hr0 : r0.length = 18 := by have h := hLw; rw [hd0] at h; simpa using h
  have hj1 : joinW (ws.take 1) = w0 := by rw [List.take_add_one, hw0]; simp [joinW]
  refine scode_seq_k (fun K3 hK3 => ?_)
  refine scode_region (by kernel_rfl) ?_
  simp [go_sem, e3, hd0, hr0]
  refine hK3 _ _ ?_
  try clear hK3 K3
  refine scode_seq_k (fun K4 hK4 => ?_)
  refine scode_seq_k (fun K5 hK5 => ?_)
  refine scode_region (by kernel_rfl) ?_
  simp [go_sem]
  refine hK5 _ _ ?_
  try clear hK5 K5
  refine scode_block ?_
  refine scode_loop (Inv := fun n env H => ∃ j : Nat, n = 19 - j ∧ 1 ≤ j ∧ j ≤ 19 ∧ env 3 = .vs 19 1 (wV ws) ∧ env 4 = sA (joinW (ws.take j)) ∧ env 5 = .int j) ?_ (n := 18) (⟨1, rfl, by omega, by omega, by simp [go_sem, e3], by rw [hj1]; simp [go_sem], by simp [go_sem]⟩)
  clear e3
  rintro n env H ⟨j, rfl, hj0, hj, e3, e4, e5⟩
  refine scode_seq_k (fun K6 hK6 => ?_)
  refine scode_seq_k (fun K7 hK7 => ?_)
  refine scode_region (by kernel_rfl) ?_
  simp [go_sem, e3, e5]
  refine hK7 _ _ ?_
  try clear hK7 K7
  refine scode_if (b := decide ((j : Int) < 19)) (by simp [go_sem]) (fun hb => ?_) (fun hb => ?_)
  · skip
    simp only [decide_eq_true_eq] at hb
    obtain ⟨w, hw⟩ := get_of_lt ws j (by omega)
    obtain ⟨r, hd⟩ := wV_at hw
    have hji : (j : Int) < 19 := by omega
    have hnx := joinW_next ws j w hw hj0
    have htk := joinW_take ws j
    have htk2 := joinW_take ws (j + 1)
    rw [hnx] at htk2
    simp only [List.length_append] at htk2
    have had1 : srun Tryz.prog (Op.stringOp .add (bs (joinW (ws.take j))) ⟨#[32]⟩) = some (.string (bs (joinW (ws.take j) ++ [32]))) := srun_sadd Tryz.prog _ [32] (by simp; omega)
    have had2 := srun_sadd Tryz.prog (joinW (ws.take j) ++ [32]) w (by rw [List.length_append]; omega)
    refine scode_skip ?_
    refine hK6 _ _ ?_
    try clear hK6 K6
    refine scode_seq_k (fun K8 hK8 => ?_)
    refine scode_block ?_
    refine scode_region (by kernel_rfl) ?_
    simp [go_sem, e3, e4, e5, hd, hLw, hji, had1, had2]
    refine hK8 _ _ ?_
    try clear hK8 K8
    refine scode_region (by kernel_rfl) ?_
    simp [go_sem, e5]
    have hw1 := i64_succ j (by omega)
    exact ⟨19 - (j + 1), by omega, j + 1, rfl, by omega, by omega, by simp [go_sem, e3], by rw [hnx]; simp [go_sem], by simp [go_sem, hw1]⟩
  · skip
    simp only [decide_eq_false_iff_not] at hb
    obtain rfl : j = 19 := by omega
    rw [List.take_of_length_le (by omega)] at e4
    have hadd : srun Tryz.prog (Op.stringOp .add (bs (joinW ws)) ⟨#[10]⟩) = some (.string (bs (joinW ws ++ [10]))) := srun_sadd Tryz.prog _ [10] (by simp; omega)
    refine scode_exit ?_
    refine hK4 _ _ ?_
    try clear hK4 K4
    refine scode_seq_k (fun K9 hK9 => ?_)
    refine scode_region (by kernel_rfl) ?_
    simp [go_sem, e4, hadd]
    refine hK9 _ _ ?_
    try clear hK9 K9
    refine scode_ret ?_
    simp only [go_sem]
    refine hR _ _ ?_
    have hres : c.line = joinW ws := by unfold CfgS.line; rw [hws]
    rw [hres]
    exact ret_plain (by simp [go_sem]) (empty_le _) (Nat.zero_le _) (by simp [go_sem])

end Go.Proofs.YtfmpakmigmehkaaGreatDoor
