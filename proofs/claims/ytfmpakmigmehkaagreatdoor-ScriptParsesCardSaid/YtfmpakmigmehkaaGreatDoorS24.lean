/- Contracts: Made. -/
import Derived.Test.YtfmpakmigmehkaaGreatDoorFl43
import Derived.Test.YtfmpakmigmehkaaGreatDoorS22
set_option linter.unusedVariables false
set_option linter.unusedSimpArgs false
set_option maxRecDepth 20000
noncomputable section S24S
namespace Go.Proofs.YtfmpakmigmehkaaGreatDoor
open Go Go.Fl Go.Proofs

theorem st3 (c : CfgS) (v : Int) : List.take 3 (cfgC c) ++ .int v :: List.drop 4 (cfgC c) = cfgC { c with mru := v } := rfl

theorem st6 (c : CfgS) (v : Int) : List.take 6 (cfgC c) ++ .sc (.int .u32 v) :: List.drop 7 (cfgC c) = cfgC { c with accm := v } := rfl

theorem st7 (c : CfgS) (v : Int) : List.take 7 (cfgC c) ++ .int v :: List.drop 8 (cfgC c) = cfgC { c with mrru := v } := rfl

theorem st8 (c : CfgS) (v : Bool) : List.take 8 (cfgC c) ++ .bool v :: List.drop 9 (cfgC c) = cfgC { c with short := v } := rfl

theorem st9 (c : CfgS) (v : Int) : List.take 9 (cfgC c) ++ .int v :: List.drop 10 (cfgC c) = cfgC { c with bits := v } := rfl

theorem st10 (c : CfgS) (v : Bool) : List.take 10 (cfgC c) ++ .bool v :: List.drop 11 (cfgC c) = cfgC { c with stl := v } := rfl

theorem st13 (c : CfgS) (v : Bool) : List.take 13 (cfgC c) ++ .bool v :: List.drop 14 (cfgC c) = cfgC { c with must := v } := rfl

theorem st14 (c : CfgS) (v : Bool) : List.take 14 (cfgC c) ++ .bool v :: List.drop 15 (cfgC c) = cfgC { c with sym := v } := rfl

theorem st17 (c : CfgS) (v : Int) : List.take 17 (cfgC c) ++ .int v :: List.drop 18 (cfgC c) = cfgC { c with frag := v } := rfl

theorem st2 (c : CfgS) (v : Word) : List.take 2 (cfgC c) ++ sA v :: List.drop 3 (cfgC c) = cfgC { c with secret := v } := rfl
theorem ld9 (c : CfgS) : List.take 1 (List.drop 9 (cfgC c)) = [.int c.bits] := rfl
theorem ld14 (c : CfgS) : List.take 1 (List.drop 14 (cfgC c)) = [.bool c.sym] := rfl
def wN : Word := [110]
def wS : Word := [115, 101, 99, 114, 101, 116]
def mdA (a m : Int) : CfgS := ⟨Go.bits .and .i64 a 1 == 1, wN, wS, 1500, Go.bits .and .i64 a 2 != 0, Go.bits .and .i64 a 4 != 0, 4294967295, 0, false, 0, false, false, false, false, false, 2, IntKind.i64.wrap (1 + Go.bits .and .i64 m 3), 0⟩
def mdB (a : Int) (c : CfgS) : CfgS := if (Go.bits .and .i64 a 8 != 0) = true then { c with mru := 500 } else c
def mdC (a : Int) (c : CfgS) : CfgS := if (Go.bits .and .i64 a 16 != 0) = true then { c with accm := 0 } else c
def mdD (a : Int) (c : CfgS) : CfgS := if (Go.bits .and .i64 a 32 != 0) = true then (if (Go.bits .and .i64 a 128 != 0) = true then { c with mrru := 1500, short := Go.bits .and .i64 a 64 != 0, frag := IntKind.i64.wrap (16 + Go.bits .and .i64 (a / 1048576) 63) } else { c with mrru := 1500, short := Go.bits .and .i64 a 64 != 0 }) else c
def mdE (a : Int) (c : CfgS) : CfgS := if (Go.bits .and .i64 (a / 256) 3 == 1) = true then { c with bits := 40 } else if (Go.bits .and .i64 (a / 256) 3 == 2) = true then { c with bits := 56 } else if (Go.bits .and .i64 (a / 256) 3 == 3) = true then { c with bits := 128 } else c
def mdF (a : Int) (c : CfgS) : CfgS := if decide (0 < c.bits) = true then { c with stl := Go.bits .and .i64 (a / 1024) 1 == 1, must := Go.bits .and .i64 (a / 2048) 1 == 1 } else c
def md14 (n m : Int) : CfgS := mdF (Go.bits .and .i64 n 268435455) (mdE (Go.bits .and .i64 n 268435455) (mdD (Go.bits .and .i64 n 268435455) (mdC (Go.bits .and .i64 n 268435455) (mdB (Go.bits .and .i64 n 268435455) (mdA (Go.bits .and .i64 n 268435455) m)))))

set_option maxHeartbeats 4000000 in
theorem made14_s (n m : Int) : SCalls Tryz.prog 59 [.int n, .int m] Heap.empty (.agg (cfgC (md14 n m))) Heap.empty := by
  refine scalls_of_k (sz := 71) (Tryz.call59) Tryz.func59 rfl (Nat.zero_le _) (by kernel_rfl) (fun R hR => ?_)
  refine scode_seq_k (fun K1 hK1 => ?_)
  refine scode_region (by kernel_rfl) ?_
  simp [go_sem]
  refine hK1 _ _ ?_
  try clear hK1 K1
  refine scode_seq_mid (fun env H => env 4 = .ptr 0 0 ∧ env 0 = .int (Go.bits .and .i64 n 268435455) ∧ env 1 = .int m ∧ H.get 0 = some (cfgC noCfg) ∧ H.next = 1) ?_ ?_
  · skip
    refine scode_region (by kernel_rfl) ?_
    simp [go_sem]
    first
      | done
      | rfl
  rintro env H ⟨e4, e0, e1, g0, hn⟩
  obtain ⟨a, ha⟩ : ∃ a, Go.bits .and .i64 n 268435455 = a := ⟨_, rfl⟩
  rw [ha] at e0
  refine scode_seq_mid (fun env H => env 4 = .ptr 0 0 ∧ env 5 = .ptr 1 0 ∧ env 0 = .int a ∧ H.get 0 = some (cfgC noCfg) ∧ H.get 1 = some (cfgC (mdA a m))) ?_ ?_
  · skip
    refine scode_region (by kernel_rfl) ?_
    simp [go_sem, e0, e1, e4, hn]
    exact ⟨g0, rfl⟩
  clear e4 e0 e1 g0 hn
  rintro env H ⟨e4, e5, e0, g0, g1⟩
  obtain ⟨c1, hc1⟩ : ∃ c, mdA a m = c := ⟨_, rfl⟩
  rw [hc1] at g1
  refine scode_seq_mid (fun env H => env 4 = .ptr 0 0 ∧ env 5 = .ptr 1 0 ∧ env 0 = .int a ∧ H.get 0 = some (cfgC noCfg) ∧ H.get 1 = some (cfgC (mdB a c1))) ?_ ?_
  · skip
    refine scode_seq_k (fun K5 hK5 => ?_)
    refine scode_region (by kernel_rfl) ?_
    simp [go_sem, e0]
    refine hK5 _ _ ?_
    try clear hK5 K5
    refine scode_if (b := (Go.bits .and .i64 a 8 != 0)) (by simp [go_sem]) (fun hb => ?_) (fun hb => ?_)
    · skip
      have hmd : mdB a c1 = { c1 with mru := 500 } := by unfold mdB; rw [if_pos hb]
      refine scode_region (by kernel_rfl) ?_
      simp [go_sem, e5, g1, cl, st3]
      first
        | done
        | simp [go_sem, e4, e5, e0, g0, g1, hmd]
    · skip
      have hmd : mdB a c1 = c1 := by unfold mdB; rw [if_neg (by rw [hb]; simp)]
      refine scode_skip ?_
      first
        | done
        | simp [go_sem, e4, e5, e0, g0, g1, hmd]
  clear e4 e5 e0 g0 g1
  rintro env H ⟨e4, e5, e0, g0, g1⟩
  obtain ⟨c2, hc2⟩ : ∃ c, mdB a c1 = c := ⟨_, rfl⟩
  rw [hc2] at g1
  refine scode_seq_mid (fun env H => env 4 = .ptr 0 0 ∧ env 5 = .ptr 1 0 ∧ env 0 = .int a ∧ H.get 0 = some (cfgC noCfg) ∧ H.get 1 = some (cfgC (mdC a c2))) ?_ ?_
  · skip
    refine scode_seq_k (fun K7 hK7 => ?_)
    refine scode_region (by kernel_rfl) ?_
    simp [go_sem, e0]
    refine hK7 _ _ ?_
    try clear hK7 K7
    refine scode_if (b := (Go.bits .and .i64 a 16 != 0)) (by simp [go_sem]) (fun hb => ?_) (fun hb => ?_)
    · skip
      have hmd : mdC a c2 = { c2 with accm := 0 } := by unfold mdC; rw [if_pos hb]
      refine scode_region (by kernel_rfl) ?_
      simp [go_sem, e5, g1, cl, st6]
      first
        | done
        | simp [go_sem, e4, e5, e0, g0, g1, hmd]
    · skip
      have hmd : mdC a c2 = c2 := by unfold mdC; rw [if_neg (by rw [hb]; simp)]
      refine scode_skip ?_
      first
        | done
        | simp [go_sem, e4, e5, e0, g0, g1, hmd]
  clear e4 e5 e0 g0 g1
  rintro env H ⟨e4, e5, e0, g0, g1⟩
  obtain ⟨c3, hc3⟩ : ∃ c, mdC a c2 = c := ⟨_, rfl⟩
  rw [hc3] at g1
  refine scode_seq_mid (fun env H => env 4 = .ptr 0 0 ∧ env 5 = .ptr 1 0 ∧ env 0 = .int a ∧ H.get 0 = some (cfgC noCfg) ∧ H.get 1 = some (cfgC (mdD a c3))) ?_ ?_
  · skip
    refine scode_seq_k (fun K9 hK9 => ?_)
    refine scode_region (by kernel_rfl) ?_
    simp [go_sem, e0]
    refine hK9 _ _ ?_
    try clear hK9 K9
    refine scode_if (b := (Go.bits .and .i64 a 32 != 0)) (by simp [go_sem]) (fun hb => ?_) (fun hb => ?_)
    · skip
      have hb1 := hb
      refine scode_seq_k (fun K10 hK10 => ?_)
      refine scode_region (by kernel_rfl) ?_
      simp [go_sem, e5, g1, cl, st7]
      refine hK10 _ _ ?_
      try clear hK10 K10
      refine scode_seq_k (fun K11 hK11 => ?_)
      refine scode_region (by kernel_rfl) ?_
      simp [go_sem, e0, e5, g1, cl, st8]
      refine hK11 _ _ ?_
      try clear hK11 K11
      refine scode_seq_k (fun K12 hK12 => ?_)
      refine scode_region (by kernel_rfl) ?_
      simp [go_sem, e0]
      refine hK12 _ _ ?_
      try clear hK12 K12
      refine scode_if (b := (Go.bits .and .i64 a 128 != 0)) (by simp [go_sem]) (fun hb => ?_) (fun hb => ?_)
      · skip
        have hmd : mdD a c3 = { c3 with mrru := 1500, short := Go.bits .and .i64 a 64 != 0, frag := IntKind.i64.wrap (16 + Go.bits .and .i64 (a / 1048576) 63) } := by unfold mdD; rw [if_pos hb1, if_pos hb]
        refine scode_region (by kernel_rfl) ?_
        simp [go_sem, e0, e5, g1, cl, st17]
        first
          | done
          | simp [go_sem, e4, e5, e0, g0, g1, hmd]
      · skip
        have hmd : mdD a c3 = { c3 with mrru := 1500, short := Go.bits .and .i64 a 64 != 0 } := by unfold mdD; rw [if_pos hb1, if_neg (by rw [hb]; simp)]
        refine scode_skip ?_
        first
          | done
          | simp [go_sem, e4, e5, e0, g0, g1, hmd]
    · skip
      have hmd : mdD a c3 = c3 := by unfold mdD; rw [if_neg (by rw [hb]; simp)]
      refine scode_skip ?_
      first
        | done
        | simp [go_sem, e4, e5, e0, g0, g1, hmd]
  clear e4 e5 e0 g0 g1
  rintro env H ⟨e4, e5, e0, g0, g1⟩
  obtain ⟨c4, hc4⟩ : ∃ c, mdD a c3 = c := ⟨_, rfl⟩
  rw [hc4] at g1
  refine scode_seq_mid (fun env H => env 4 = .ptr 0 0 ∧ env 5 = .ptr 1 0 ∧ env 0 = .int a ∧ H.get 0 = some (cfgC noCfg) ∧ H.get 1 = some (cfgC (mdE a c4))) ?_ ?_
  · skip
    refine scode_seq_k (fun K14 hK14 => ?_)
    refine scode_region (by kernel_rfl) ?_
    simp [go_sem, e0]
    refine hK14 _ _ ?_
    try clear hK14 K14
    refine scode_block ?_
    refine scode_seq_k (fun K15 hK15 => ?_)
    refine scode_region (by kernel_rfl) ?_
    simp [go_sem]
    refine hK15 _ _ ?_
    try clear hK15 K15
    refine scode_if (b := (Go.bits .and .i64 (a / 256) 3 == 1)) (by simp [go_sem]) (fun hb => ?_) (fun hb => ?_)
    · skip
      have hmd : mdE a c4 = { c4 with bits := 40 } := by unfold mdE; rw [if_pos hb]
      refine scode_region (by kernel_rfl) ?_
      simp [go_sem, e5, g1, cl, st9]
      first
        | done
        | simp [go_sem, e4, e5, e0, g0, g1, hmd]
    · skip
      have hb1 := hb
      refine scode_seq_k (fun K16 hK16 => ?_)
      refine scode_region (by kernel_rfl) ?_
      simp [go_sem]
      refine hK16 _ _ ?_
      try clear hK16 K16
      refine scode_if (b := (Go.bits .and .i64 (a / 256) 3 == 2)) (by simp [go_sem]) (fun hb => ?_) (fun hb => ?_)
      · skip
        have hmd : mdE a c4 = { c4 with bits := 56 } := by unfold mdE; rw [if_neg (by rw [hb1]; simp), if_pos hb]
        refine scode_region (by kernel_rfl) ?_
        simp [go_sem, e5, g1, cl, st9]
        first
          | done
          | simp [go_sem, e4, e5, e0, g0, g1, hmd]
      · skip
        have hb2 := hb
        refine scode_seq_k (fun K17 hK17 => ?_)
        refine scode_region (by kernel_rfl) ?_
        simp [go_sem]
        refine hK17 _ _ ?_
        try clear hK17 K17
        refine scode_if (b := (Go.bits .and .i64 (a / 256) 3 == 3)) (by simp [go_sem]) (fun hb => ?_) (fun hb => ?_)
        · skip
          have hmd : mdE a c4 = { c4 with bits := 128 } := by unfold mdE; rw [if_neg (by rw [hb1]; simp), if_neg (by rw [hb2]; simp), if_pos hb]
          refine scode_region (by kernel_rfl) ?_
          simp [go_sem, e5, g1, cl, st9]
          first
            | done
            | simp [go_sem, e4, e5, e0, g0, g1, hmd]
        · skip
          have hmd : mdE a c4 = c4 := by unfold mdE; rw [if_neg (by rw [hb1]; simp), if_neg (by rw [hb2]; simp), if_neg (by rw [hb]; simp)]
          refine scode_skip ?_
          first
            | done
            | simp [go_sem, e4, e5, e0, g0, g1, hmd]
  clear e4 e5 e0 g0 g1
  rintro env H ⟨e4, e5, e0, g0, g1⟩
  obtain ⟨c5, hc5⟩ : ∃ c, mdE a c4 = c := ⟨_, rfl⟩
  rw [hc5] at g1
  refine scode_seq_mid (fun env H => env 4 = .ptr 0 0 ∧ env 5 = .ptr 1 0 ∧ env 0 = .int a ∧ H.get 0 = some (cfgC noCfg) ∧ H.get 1 = some (cfgC (mdF a c5))) ?_ ?_
  · skip
    refine scode_seq_k (fun K19 hK19 => ?_)
    refine scode_region (by kernel_rfl) ?_
    simp [go_sem, e5, g1, cl, ld9]
    refine hK19 _ _ ?_
    try clear hK19 K19
    refine scode_if (b := decide (0 < c5.bits)) (by simp [go_sem]) (fun hb => ?_) (fun hb => ?_)
    · skip
      have hmd : mdF a c5 = { c5 with stl := Go.bits .and .i64 (a / 1024) 1 == 1, must := Go.bits .and .i64 (a / 2048) 1 == 1 } := by unfold mdF; rw [if_pos hb]
      refine scode_seq_k (fun K20 hK20 => ?_)
      refine scode_region (by kernel_rfl) ?_
      simp [go_sem, e0, e5, g1, cl, st10]
      refine hK20 _ _ ?_
      try clear hK20 K20
      refine scode_region (by kernel_rfl) ?_
      simp [go_sem, e0, e5, g1, cl, st13]
      first
        | done
        | simp [go_sem, e4, e5, e0, g0, g1, hmd]
    · skip
      have hmd : mdF a c5 = c5 := by unfold mdF; rw [if_neg (by rw [hb]; simp)]
      refine scode_skip ?_
      first
        | done
        | simp [go_sem, e4, e5, e0, g0, g1, hmd]
  clear e4 e5 e0 g0 g1
  rintro env H ⟨e4, e5, e0, g0, g1⟩
  obtain ⟨c6, hc6⟩ : ∃ c, mdF a c5 = c := ⟨_, rfl⟩
  rw [hc6] at g1
  refine scode_seq_k (fun K21 hK21 => ?_)
  have hl6 := cfl c6
  simp only [AV.leaf] at hl6
  refine scode_region (by kernel_rfl) ?_
  simp [go_sem, e5, g1, cl, c_t18', e4, g0, hl6, c_d18']
  refine hK21 _ _ ?_
  try clear hK21 K21
  refine scode_ret ?_
  simp only [go_sem]
  refine hR _ _ ?_
  have hres : md14 n m = c6 := by unfold md14; rw [ha, hc1, hc2, hc3, hc4, hc5, hc6]
  rw [hres]
  exact ret_plain (by simp [go_sem, e4, g0, cl, c_t18', c_d18']) (empty_le _) (Nat.zero_le _) (by simp [go_sem, cfgC])

end Go.Proofs.YtfmpakmigmehkaaGreatDoor
end S24S

set_option maxRecDepth 20000
noncomputable section S25S
namespace Go.Proofs.YtfmpakmigmehkaaGreatDoor
open Go Go.Fl Go.Proofs

theorem made14_H (n m : Int) (H : Heap) : SCalls Tryz.prog 59 [.int n, .int m] H (.agg (cfgC (md14 n m))) H := scalls_frame (made14_s n m) (by simp [go_sem]) (by simp [go_sem, cfgC]) H
def md38 (n : Int) : CfgS := { md14 n (n / 16384) with sym := decide (0 < (md14 n (n / 16384)).bits) && (Go.bits .and .i64 (n / 65536) 7 == 7) }

set_option maxHeartbeats 4000000 in
theorem made_s (n : Int) : SCalls Tryz.prog 38 [.int n] Heap.empty (.agg (cfgC (md38 n))) Heap.empty := by
  refine scalls_of_k (sz := 19) (Tryz.call38) Tryz.func38 rfl (Nat.zero_le _) (by kernel_rfl) (fun R hR => ?_)
  refine scode_seq_k (fun K1 hK1 => ?_)
  refine scode_region (by kernel_rfl) ?_
  simp [go_sem]
  refine hK1 _ _ ?_
  try clear hK1 K1
  obtain ⟨c, hc⟩ : ∃ c, md14 n (n / 16384) = c := ⟨_, rfl⟩
  have hl6 := cfl c
  simp only [AV.leaf] at hl6
  have cm := made14_H n (n / 16384)
  rw [hc] at cm
  refine scode_seq_mid (fun env H => env 0 = .int n ∧ env 2 = .ptr 0 0 ∧ env 3 = .ptr 1 0 ∧ H.get 0 = some (cfgC noCfg) ∧ H.get 1 = some (cfgC c)) ?_ ?_
  · skip
    refine scode_region (by kernel_rfl) ?_
    refine w_take 4 (fun K3 hK3 => ?_)
    simp [go_sem, cl, hl6, c_d18']
    refine ⟨_, _, cm _, ?_⟩
    refine hK3 _ _ ?_
    clear hK3 K3
    simp [go_sem, cl, hl6, c_d18']
    first
      | done
      | rfl
  rintro env H ⟨e0, e2, e3, g0, g1⟩
  refine scode_seq_mid (fun env H => env 2 = .ptr 0 0 ∧ env 3 = .ptr 1 0 ∧ H.get 0 = some (cfgC noCfg) ∧ H.get 1 = some (cfgC (md38 n))) ?_ ?_
  · skip
    rcases Bool.eq_false_or_eq_true (decide (0 < c.bits)) with hb | hb
    · skip
      have hb0 := hb
      simp only [decide_eq_true_eq] at hb0
      have hmd : md38 n = { c with sym := Go.bits .and .i64 (n / 65536) 7 == 7 } := by unfold md38; rw [hc, hb, Bool.true_and]
      refine scode_region (by kernel_rfl) ?_
      simp [go_sem, e0, e3, g1, cl, ld9, st14, hb0]
      first
        | done
        | simp [go_sem, e2, e3, g0, g1, hmd]
    · skip
      have hb0 := hb
      simp only [decide_eq_false_iff_not] at hb0
      have hmd : md38 n = { c with sym := false } := by unfold md38; rw [hc, hb, Bool.false_and]
      refine scode_region (by kernel_rfl) ?_
      simp [go_sem, e0, e3, g1, cl, ld9, st14, hb0]
      first
        | done
        | simp [go_sem, e2, e3, g0, g1, hmd]
  clear e0 e2 e3 g0 g1
  rintro env H ⟨e2, e3, g0, g1⟩
  obtain ⟨c6, hc6⟩ : ∃ c, md38 n = c := ⟨_, rfl⟩
  rw [hc6] at g1
  have hl6 := cfl c6
  simp only [AV.leaf] at hl6
  refine scode_seq_k (fun K5 hK5 => ?_)
  refine scode_region (by kernel_rfl) ?_
  simp [go_sem, e3, g1, cl, c_t18', e2, g0, hl6, c_d18']
  refine hK5 _ _ ?_
  try clear hK5 K5
  refine scode_ret ?_
  simp only [go_sem]
  refine hR _ _ ?_
  rw [hc6]
  exact ret_plain (by simp [go_sem, e2, g0, cl, c_t18', c_d18']) (empty_le _) (Nat.zero_le _) (by simp [go_sem, cfgC])

theorem made_H (n : Int) (H : Heap) : SCalls Tryz.prog 38 [.int n] H (.agg (cfgC (md38 n))) H := scalls_frame (made_s n) (by simp [go_sem]) (by simp [go_sem, cfgC]) H

def two1 (n : Int) : CfgS := md38 (Go.bits .or .i64 n 1)
def two2 (n : Int) : CfgS := { md38 (Go.bits .andNot .i64 n 1) with sym := (two1 n).sym }

set_option maxHeartbeats 4000000 in
theorem two_s (n : Int) : SCalls Tryz.prog 17 [.int n, .bool true] Heap.empty (.tup [.agg (cfgC (two1 n)), .agg (cfgC (two2 n))]) Heap.empty := by
  refine scalls_of_k (sz := 22) (Tryz.call17) Tryz.func17 rfl (Nat.zero_le _) (by kernel_rfl) (fun R hR => ?_)
  refine scode_seq_mid (fun env H => env 0 = .int n ∧ env 1 = .bool true ∧ env 4 = .ptr 0 0 ∧ env 5 = .ptr 1 0 ∧ H.get 0 = some (cfgC noCfg) ∧ H.get 1 = some (cfgC noCfg) ∧ H.next = 2) ?_ ?_
  · skip
    refine scode_region (by kernel_rfl) ?_
    simp [go_sem]
    first
      | done
      | rfl
      | exact ⟨rfl, rfl⟩
  rintro env H ⟨e0, e1, e4, e5, g0, g1, hn⟩
  obtain ⟨a, ha⟩ : ∃ c, md38 (Go.bits .or .i64 n 1) = c := ⟨_, rfl⟩
  obtain ⟨b, hb⟩ : ∃ c, md38 (Go.bits .andNot .i64 n 1) = c := ⟨_, rfl⟩
  have ca := made_H (Go.bits .or .i64 n 1)
  have cb := made_H (Go.bits .andNot .i64 n 1)
  rw [ha] at ca
  rw [hb] at cb
  have la := cfl a
  have lb := cfl b
  simp only [AV.leaf] at la lb
  refine scode_seq_mid (fun env H => env 0 = .int n ∧ env 1 = .bool true ∧ env 4 = .ptr 0 0 ∧ env 5 = .ptr 1 0 ∧ env 6 = .ptr 2 0 ∧ H.get 0 = some (cfgC noCfg) ∧ H.get 1 = some (cfgC noCfg) ∧ H.get 2 = some (cfgC a) ∧ H.next = 3) ?_ ?_
  · skip
    refine scode_region (by kernel_rfl) ?_
    refine w_take 3 (fun K3 hK3 => ?_)
    simp [go_sem, e0, cl, la, c_d18', hn]
    refine ⟨_, _, ca _, ?_⟩
    refine hK3 _ _ ?_
    clear hK3 K3
    simp [go_sem, e0, cl, la, c_d18', hn]
    simp [go_sem, e0, e1, e4, e5, g0, g1, hn]
  clear e0 e1 e4 e5 g0 g1 hn
  rintro env H ⟨e0, e1, e4, e5, e6, g0, g1, g2, hn⟩
  refine scode_seq_mid (fun env H => env 1 = .bool true ∧ env 4 = .ptr 0 0 ∧ env 5 = .ptr 1 0 ∧ env 6 = .ptr 2 0 ∧ env 7 = .ptr 3 0 ∧ H.get 0 = some (cfgC noCfg) ∧ H.get 1 = some (cfgC noCfg) ∧ H.get 2 = some (cfgC a) ∧ H.get 3 = some (cfgC b)) ?_ ?_
  · skip
    refine scode_region (by kernel_rfl) ?_
    refine w_take 3 (fun K5 hK5 => ?_)
    simp [go_sem, e0, cl, lb, c_d18', hn]
    refine ⟨_, _, cb _, ?_⟩
    refine hK5 _ _ ?_
    clear hK5 K5
    simp [go_sem, e0, cl, lb, c_d18', hn]
    simp [go_sem, e0, e1, e4, e5, e6, g0, g1, g2, hn]
  clear e0 e1 e4 e5 e6 g0 g1 g2 hn
  rintro env H ⟨e1, e4, e5, e6, e7, g0, g1, g2, g3⟩
  refine scode_seq_k (fun K6 hK6 => ?_)
  refine scode_region (by kernel_rfl) ?_
  simp [go_sem, e6, e7, g2, g3, cl, ld14, st14]
  refine hK6 _ _ ?_
  try clear hK6 K6
  refine scode_seq_k (fun K7 hK7 => ?_)
  refine scode_seq_k (fun K8 hK8 => ?_)
  refine scode_region (by kernel_rfl) ?_
  simp [go_sem, e1]
  refine hK8 _ _ ?_
  try clear hK8 K8
  refine scode_if (b := false) (by simp [go_sem]) (fun h => by cases h) (fun _ => ?_)
  refine scode_skip ?_
  refine hK7 _ _ ?_
  try clear hK7 K7
  refine scode_seq_k (fun K9 hK9 => ?_)
  refine scode_gen (fun env H => env 4 = .ptr 0 0 ∧ env 5 = .ptr 1 0 ∧ env 6 = .ptr 2 0 ∧ env 7 = .ptr 3 0 ∧ H.get 0 = some (cfgC noCfg) ∧ H.get 1 = some (cfgC noCfg) ∧ H.get 2 = some (cfgC a) ∧ H.get 3 = some (cfgC { b with sym := a.sym })) (by simp [go_sem, e4, e5, e6, e7, g0, g1, g2, g3]) ?_
  clear e1 e4 e5 e6 e7 g0 g1 g2 g3
  rintro env H ⟨e4, e5, e6, e7, g0, g1, g2, g3⟩
  obtain ⟨d, hd⟩ : ∃ c, { b with sym := a.sym } = c := ⟨_, rfl⟩
  rw [hd] at g3
  have ld := cfl d
  simp only [AV.leaf] at ld
  refine scode_draw mixed (by kernel_rfl) (bf := [0, 0, 1, 7]) (by kernel_rfl) ?_
  simp [go_sem, e4, e5, e6, e7, g0, g1, g2, g3, befL, cl, la, ld, c_t18', c_d18']
  refine hK9 _ _ ?_
  try clear hK9 K9
  refine scode_ret ?_
  simp only [go_sem]
  refine hR _ _ ?_
  have h1 : two1 n = a := ha
  have h2 : two2 n = d := by unfold two2 two1; rw [ha, hb]; exact hd
  rw [h1, h2]
  exact ret_plain (by simp [go_sem, e4, e5, g0, g1, cl, c_t18', c_d18']) (empty_le _) (Nat.zero_le _) (by simp [go_sem, cfgC])

end Go.Proofs.YtfmpakmigmehkaaGreatDoor
end S25S
