/- Contract: head. -/
import Derived.Test.YtfmpakmigmehkaaGreatDoorFl43
import Derived.Test.YtfmpakmigmehkaaGreatDoorS16
import Derived.Test.YtfmpakmigmehkaaGreatDoorS12
import Derived.Test.YtfmpakmigmehkaaGreatDoorS4
set_option linter.unusedVariables false
set_option linter.unusedSimpArgs false
set_option maxRecDepth 20000
noncomputable section
namespace Go.Proofs.YtfmpakmigmehkaaGreatDoor
open Go Go.Fl Go.Proofs

theorem zrep1_19 (a : AV) : zrep [a] 19 = [a, a, a, a, a, a, a, a, a, a, a, a, a, a, a, a, a, a, a] := by kernel_rfl

theorem bit_H (b : Bool) (H : Heap) : SCalls Tryz.prog 54 [.bool b] H (sA (bitL b)) H := scalls_frame (bit_s b) (by simp [go_sem]) (by simp [go_sem]) H
theorem hex_H (l : List UInt8) (hl : l.length ≤ 1000000) (H : Heap) : SCalls Tryz.prog 55 [.vs l.length 1 (bV l)] H (sA (hexL l)) H := scalls_frame (hex_s l hl) (by simp [bA_lt]) (by simp [go_sem]) H
theorem join_give (ws : List Word) (hn : ws.length ≤ 100) (hl : (joinW ws).length ≤ 140737488355328) {H : Heap} {b : Nat} (hb : H.get b = some (wV ws)) : SCalls Tryz.prog 53 [.ms b 0 ws.length 1, sA [32]] H (sA (joinW ws)) (H.del b) :=
  scalls_give (join_s ws hn hl Heap.empty) (by simp [wA_lt, go_sem]) (by simp [go_sem]) (.cons (Froz.row hb (by rw [Heap.get_del, if_pos rfl]) (by rw [wV_len]; omega) (by rw [Nat.mul_one, List.drop_zero, List.take_of_length_le (by rw [wV_len]; exact Nat.le_refl _)])) (.cons (.same _) .nil))
theorem join_give' (ws : List Word) (n : Nat) (cs : List AV) (hws : ws.length = n) (hcs : wV ws = cs) (hn : ws.length ≤ 100) (hl : (joinW ws).length ≤ 140737488355328) {H : Heap} {b : Nat} (hb : H.get b = some cs) : SCalls Tryz.prog 53 [.ms b 0 n 1, .sc (.string ⟨#[32]⟩)] H (sA (joinW ws)) (H.del b) := by
  subst hws; subst hcs
  exact join_give ws hn hl hb

set_option maxHeartbeats 20000000 in
theorem head_s (c : CfgS) (hok : c.ok) (hname : c.name.length ≤ 1000000) (hsecret : c.secret.length ≤ 1000000) : SCalls Tryz.prog 29 [.agg (cfgC c)] Heap.empty (sA (c.line ++ [10])) Heap.empty := by
  have hok0 := hok
  obtain ⟨i1, i2, i3, i4, i5, i6, i7⟩ := hok0
  have cu : ∀ H, SCalls Tryz.prog 56 [.sc (.int .u64 c.accm), .int 10] H (sA (Lib.itoa c.accm)) H := fun H => by
    obtain ⟨u, hu⟩ : ∃ u : Nat, c.accm = u := ⟨c.accm.toNat, by omega⟩
    rw [hu]; exact formatUint_s u (by omega) H
  have hw64 : IntKind.u64.wrap c.accm = c.accm := u64in _ (by omega) (by omega)
  have hlen : (joinW c.words).length ≤ 5000000 := Nat.le_trans (cfg_line_len c hok) (by omega)
  have hadd : srun Tryz.prog (Op.stringOp .add (bs (joinW c.words)) ⟨#[10]⟩) = some (.string (bs (c.line ++ [10]))) := srun_sadd Tryz.prog (joinW c.words) [10] (by simp; omega)
  refine scalls_of_k (sz := 70) (Tryz.call29) Tryz.func29 rfl (Nat.zero_le _) (by kernel_rfl) (fun R hR => ?_)
  refine scode_seq_k (fun K1 hK1 => ?_)
  refine scode_region (by kernel_rfl) ?_
  simp [go_sem]
  refine hK1 _ _ ?_
  try clear hK1 K1
  refine scode_seq_k (fun K2 hK2 => ?_)
  refine scode_hide (fun K3 hK3 => ?_)
  refine scode_region (by kernel_rfl) ?_
  simp [go_sem]
  refine hK3 _ _ ?_
  refine hK2 _ _ ?_
  try clear hK2 K2
  refine scode_seq_k (fun K4 hK4 => ?_)
  refine scode_gen (fun env H => env 1 = .ptr 0 0 ∧ env 3 = .fn (.func 52) [] [] ∧ H.get 0 = some (cfgC c) ∧ H.next = 1) ⟨by simp [go_sem], by simp [go_sem], by simp [go_sem], by simp [go_sem]⟩ ?_
  rintro env H ⟨e1, e3, hC, hn⟩
  simp only [cfgC] at hC
  refine scode_drawST (bf := [0, 1, 3, 0, 8, 24, 63, 0, 128, 384, 1023, 0, 0, 4096, 16383, 0, 32768, 131071, 0, 262144, 1048575, 0, 2097152, 6291456, 16777215, 0, 0, 67108864, 268435455, 0, 536870912, 2147483647, 0, 0, 8589934592, 34359738367, 0, 68719476736, 274877906943, 0, 549755813888, 2199023255551, 0, 4398046511104, 17592186044415, 0, 35184372088832, 140737488355327, 0, 281474976710656, 1125899906842623, 0, 0, 4503599627370496, 18014398509481983, 0, 0, 72057594037927936, 288230376151711743, 0, 0, 1152921504606846976, 4611686018427387903, 9223372036854775807, 18446744073709551615, 36893488147419103231, 73786976294838206463]) 63 mixed (by kernel_rfl) (by kernel_rfl) (by kernel_rfl) (fun K99 hK99 => ?_)
  simp only [List.append_eq, List.cons_append, List.nil_append, List.take, List.drop] at hK99 ⊢
  refine ws_take 3 (fun K101 hK101 => ?_)
  simp [go_sem, hC, e1, e3, strV_bs, hw64]
  refine ⟨_, _, bit_H _ _, rfl, ?_⟩
  try simp [go_sem, hC, e1, e3]
  refine hK101 _ _ ?_
  clear hK101 K101
  refine ws_take 4 (fun K102 hK102 => ?_)
  simp [go_sem, hC, e1, e3, strV_bs, hw64]
  refine ⟨_, _, hex_H _ hname _, rfl, ?_⟩
  try simp [go_sem, hC, e1, e3]
  refine hK102 _ _ ?_
  clear hK102 K102
  refine ws_take 4 (fun K103 hK103 => ?_)
  simp [go_sem, hC, e1, e3, strV_bs, hw64]
  refine ⟨_, _, hex_H _ hsecret _, rfl, ?_⟩
  try simp [go_sem, hC, e1, e3]
  refine hK103 _ _ ?_
  clear hK103 K103
  refine ws_take 4 (fun K104 hK104 => ?_)
  simp [go_sem, hC, e1, e3, strV_bs, hw64]
  refine ⟨_, _, itoa_s _ i1 _, rfl, ?_⟩
  try simp [go_sem, hC, e1, e3]
  refine hK104 _ _ ?_
  clear hK104 K104
  refine ws_take 3 (fun K105 hK105 => ?_)
  simp [go_sem, hC, e1, e3, strV_bs, hw64]
  refine ⟨_, _, bit_H _ _, rfl, ?_⟩
  try simp [go_sem, hC, e1, e3]
  refine hK105 _ _ ?_
  clear hK105 K105
  refine ws_take 3 (fun K106 hK106 => ?_)
  simp [go_sem, hC, e1, e3, strV_bs, hw64]
  refine ⟨_, _, bit_H _ _, rfl, ?_⟩
  try simp [go_sem, hC, e1, e3]
  refine hK106 _ _ ?_
  clear hK106 K106
  refine ws_take 4 (fun K107 hK107 => ?_)
  simp [go_sem, hC, e1, e3, strV_bs, hw64]
  refine ⟨_, _, cu _, rfl, ?_⟩
  try simp [go_sem, hC, e1, e3]
  refine hK107 _ _ ?_
  clear hK107 K107
  refine ws_take 4 (fun K108 hK108 => ?_)
  simp [go_sem, hC, e1, e3, strV_bs, hw64]
  refine ⟨_, _, itoa_s _ i3 _, rfl, ?_⟩
  try simp [go_sem, hC, e1, e3]
  refine hK108 _ _ ?_
  clear hK108 K108
  refine ws_take 3 (fun K109 hK109 => ?_)
  simp [go_sem, hC, e1, e3, strV_bs, hw64]
  refine ⟨_, _, bit_H _ _, rfl, ?_⟩
  try simp [go_sem, hC, e1, e3]
  refine hK109 _ _ ?_
  clear hK109 K109
  refine ws_take 4 (fun K110 hK110 => ?_)
  simp [go_sem, hC, e1, e3, strV_bs, hw64]
  refine ⟨_, _, itoa_s _ i4 _, rfl, ?_⟩
  try simp [go_sem, hC, e1, e3]
  refine hK110 _ _ ?_
  clear hK110 K110
  refine ws_take 3 (fun K111 hK111 => ?_)
  simp [go_sem, hC, e1, e3, strV_bs, hw64]
  refine ⟨_, _, bit_H _ _, rfl, ?_⟩
  try simp [go_sem, hC, e1, e3]
  refine hK111 _ _ ?_
  clear hK111 K111
  refine ws_take 3 (fun K112 hK112 => ?_)
  simp [go_sem, hC, e1, e3, strV_bs, hw64]
  refine ⟨_, _, bit_H _ _, rfl, ?_⟩
  try simp [go_sem, hC, e1, e3]
  refine hK112 _ _ ?_
  clear hK112 K112
  refine ws_take 3 (fun K113 hK113 => ?_)
  simp [go_sem, hC, e1, e3, strV_bs, hw64]
  refine ⟨_, _, bit_H _ _, rfl, ?_⟩
  try simp [go_sem, hC, e1, e3]
  refine hK113 _ _ ?_
  clear hK113 K113
  refine ws_take 3 (fun K114 hK114 => ?_)
  simp [go_sem, hC, e1, e3, strV_bs, hw64]
  refine ⟨_, _, bit_H _ _, rfl, ?_⟩
  try simp [go_sem, hC, e1, e3]
  refine hK114 _ _ ?_
  clear hK114 K114
  refine ws_take 3 (fun K115 hK115 => ?_)
  simp [go_sem, hC, e1, e3, strV_bs, hw64]
  refine ⟨_, _, bit_H _ _, rfl, ?_⟩
  try simp [go_sem, hC, e1, e3]
  refine hK115 _ _ ?_
  clear hK115 K115
  refine ws_take 4 (fun K116 hK116 => ?_)
  simp [go_sem, hC, e1, e3, strV_bs, hw64]
  refine ⟨_, _, itoa_s _ i5 _, rfl, ?_⟩
  try simp [go_sem, hC, e1, e3]
  refine hK116 _ _ ?_
  clear hK116 K116
  refine ws_take 4 (fun K117 hK117 => ?_)
  simp [go_sem, hC, e1, e3, strV_bs, hw64]
  refine ⟨_, _, itoa_s _ i6 _, rfl, ?_⟩
  try simp [go_sem, hC, e1, e3]
  refine hK117 _ _ ?_
  clear hK117 K117
  simp [go_sem, hC, e1, e3, strV_bs, hw64]
  refine ⟨_, _, itoa_s _ i7 _, rfl, ?_⟩
  try simp [go_sem, hC, e1, e3]
  suffices hs : ∀ E, (E 6 = sA (bitL c.server) ∧ E 10 = sA (hexL c.name) ∧ E 14 = sA (hexL c.secret) ∧ E 18 = sA (Lib.itoa c.mru) ∧ E 21 = sA (bitL c.pfc) ∧ E 24 = sA (bitL c.acfc) ∧ E 28 = sA (Lib.itoa c.accm) ∧ E 32 = sA (Lib.itoa c.mrru) ∧ E 35 = sA (bitL c.short) ∧ E 39 = sA (Lib.itoa c.bits) ∧ E 42 = sA (bitL c.stl) ∧ E 45 = sA (bitL c.mppc) ∧ E 48 = sA (bitL c.defl) ∧ E 51 = sA (bitL c.must) ∧ E 54 = sA (bitL c.sym) ∧ E 58 = sA (Lib.itoa c.tmo) ∧ E 62 = sA (Lib.itoa c.tries) ∧ E 66 = sA (Lib.itoa c.frag)) → K99 E H from hs _ ⟨by simp [go_sem], by simp [go_sem], by simp [go_sem], by simp [go_sem], by simp [go_sem], by simp [go_sem], by simp [go_sem], by simp [go_sem], by simp [go_sem], by simp [go_sem], by simp [go_sem], by simp [go_sem], by simp [go_sem], by simp [go_sem], by simp [go_sem], by simp [go_sem], by simp [go_sem], by simp [go_sem]⟩
  rintro E ⟨t6, t10, t14, t18, t21, t24, t28, t32, t35, t39, t42, t45, t48, t51, t54, t58, t62, t66⟩
  refine hK99 E H ?_
  clear hK99 K99
  refine w_take 2 (fun K200 hK200 => ?_)
  simp (config := {maxSteps := 10000000}) [go_sem, t6, t10, t14, t18, t21, t24, t28, t32, t35, t39, t42, t45, t48, t51, t54, t58, t62, t66, zrep1_19]
  refine ⟨_, _, join_give' c.words 19 _ rfl rfl (by simp [CfgS.words]) (Nat.le_trans hlen (by omega)) (by simp [go_sem]; rfl), ?_⟩
  try simp [go_sem]
  refine hK200 _ _ ?_
  clear hK200 K200
  simp [go_sem, hadd]
  refine hK4 _ _ ?_
  try clear hK4 K4
  refine scode_ret ?_
  simp only [go_sem]
  refine hR _ _ ?_
  exact ret_plain (by simp [go_sem]) (empty_le _) (Nat.zero_le _) (by simp [go_sem])

end Go.Proofs.YtfmpakmigmehkaaGreatDoor
