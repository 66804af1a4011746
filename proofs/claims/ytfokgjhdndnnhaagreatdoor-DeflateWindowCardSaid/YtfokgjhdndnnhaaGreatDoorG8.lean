/- DeflateWindow. -/
import Derived.Test.YtfokgjhdndnnhaaGreatDoorW58
import Derived.Test.YtfokgjhdndnnhaaGreatDoorB2
import Derived.Test.YtfokgjhdndnnhaaGreatDoorFl41
set_option linter.unusedVariables false
set_option linter.unusedSimpArgs false
set_option maxRecDepth 20000
noncomputable section W59S
namespace Go.Proofs.YtfokgjhdndnnhaaGreatDoor
open Go Go.Fl Go.Proofs
theorem srun_minW (P : Program) (tys : Array TypeId) (t : TypeId) (n : Int) : srun P (Builtin.min_ tys t #[.int .i64 n, .int .i64 32768]) = some (.int .i64 (if 32768 < n then 32768 else n)) := rfl
theorem wrap_byte (n : Int) : ∃ c : UInt8, IntKind.u8.wrap n = (c.toNat : Int) := by
  have h1 : (0 : Int) ≤ IntKind.u8.wrap n ∧ IntKind.u8.wrap n < 256 := by
    have e : IntKind.u8.wrap n = n % 256 := rfl
    rw [e]
    omega
  refine ⟨UInt8.ofNat (IntKind.u8.wrap n).toNat, ?_⟩
  have : (UInt8.ofNat (IntKind.u8.wrap n).toNat).toNat = (IntKind.u8.wrap n).toNat := by simp; omega
  rw [this]
  omega
set_option maxHeartbeats 2000000 in
theorem window_law (s t : UInt8) (b : List UInt8) : SCalls Tryz.prog 6 [.sc (.int .u8 s.toNat), .sc (.int .u8 t.toNat), bA b] Heap.empty (.bool true) Heap.empty := by
  obtain ⟨lb, hlb⟩ : ∃ z, b.length = z := ⟨_, rfl⟩
  have rB := row_A hlb
  rw [rB]
  have hs := s.toNat_lt
  have ht := t.toNat_lt
  obtain ⟨tt, htt⟩ : ∃ z, t.toNat % 14 = z := ⟨_, rfl⟩
  have htt14 : tt < 14 := by omega
  obtain ⟨sn, hsn⟩ : ∃ z, s.toNat = z := ⟨_, rfl⟩
  obtain ⟨tn, htn⟩ : ∃ z, t.toNat = z := ⟨_, rfl⟩
  rw [htn] at htt ht
  rw [hsn] at hs
  rw [hsn, htn]
  have wt : IntKind.i64.wrap (tn : Int) = tn := i64in _ (by omega) (by omega)
  have ws : IntKind.i64.wrap (sn : Int) = sn := i64in _ (by omega) (by omega)
  have hmod : (tn : Int).tmod 14 = (tt : Int) := by rw [← htt]; rfl
  have hc : (lb ≤ 300 ∧ 0 < lb) ∨ (300 < lb) ∨ (lb ≤ 300 ∧ lb = 0) := by omega
  refine scalls_of_k (sz := 97) (Tryz.call6) Tryz.func6 rfl (Nat.zero_le _) (by kernel_rfl) (fun R hR => ?_)
  refine scode_seq_k (fun K1 hK1 => ?_)
  refine scode_region (by kernel_rfl) ?_
  simp [go_sem]
  refine hK1 _ _ ?_
  try clear hK1 K1
  refine scode_seq_k (fun K2 hK2 => ?_)
  refine scode_seq_k (fun K3 hK3 => ?_)
  refine scode_region (by kernel_rfl) ?_
  refine w_take 1 (fun K4 hK4 => ?_)
  simp [go_sem]
  refine ⟨_, _, awake_s, ?_⟩
  refine hK4 _ _ ?_
  clear hK4 K4
  simp [go_sem]
  refine hK3 _ _ ?_
  try clear hK3 K3
  refine scode_if (b := false) (by simp [go_sem]) (fun h => by cases h) (fun _ => ?_)
  refine scode_skip ?_
  refine hK2 _ _ ?_
  try clear hK2 K2
  refine scode_seq_k (fun K5 hK5 => ?_)
  refine scode_seq_k (fun K6 hK6 => ?_)
  rcases hc with ⟨q1, q2⟩ | q1 | ⟨q1, q2⟩
  · skip
    have f1 : ¬ ((300 : Int) < lb) := by omega
    have f2 : ((lb : Int) == 0) = false := by simp; omega
    refine scode_region (by kernel_rfl) ?_
    simp [go_sem, f1, f2]
    refine hK6 _ _ ?_
    try clear hK6 K6
    refine scode_if (b := false) (by simp [go_sem]) (fun h => by cases h) (fun _ => ?_)
    refine scode_skip ?_
    refine hK5 _ _ ?_
    try clear hK5 K5
    refine scode_seq_k (fun K7 hK7 => ?_)
    refine scode_regionP (by kernel_rfl) ?_
    refine p_take 1 (fun K8 hK8 => ?_)
    simp [go_sem]
    refine ⟨_, (dNew_o _), ?_⟩
    rintro _ H1 ⟨D, O1, rfl, k1, l1, s1⟩
    refine hK8 _ _ ?_
    clear hK8 K8
    refine p_take 1 (fun K9 hK9 => ?_)
    simp [go_sem]
    refine ⟨_, (fNew_o H1), ?_⟩
    rintro _ H2 hn2 ⟨F, O2, rfl, k2, l2, s2⟩
    have d12 : ∀ z, O1 z → ¬ O2 z := fun z h1 h2 => by have := k1.lt z h1; have := l2 z h2; omega
    have k1 := k1.new s2
    refine hK9 _ _ ?_
    clear hK9 K9
    simp [go_sem]
    refine hK7 _ _ ?_
    try clear hK7 K7
    refine scode_seq_k (fun K10 hK10 => ?_)
    refine scode_seq_k (fun K11 hK11 => ?_)
    refine scode_region (by kernel_rfl) ?_
    simp [go_sem]
    refine hK11 _ _ ?_
    try clear hK11 K11
    refine scode_if (b := false) (by simp [go_sem]) (fun h => by cases h) (fun _ => ?_)
    refine scode_skip ?_
    refine hK10 _ _ ?_
    try clear hK10 K10
    refine scode_seq_k (fun K12 hK12 => ?_)
    refine scode_region (by kernel_rfl) ?_
    simp [go_sem]
    refine hK12 _ _ ?_
    try clear hK12 K12
    refine scode_seq_k (fun K13 hK13 => ?_)
    refine scode_seq_k (fun K14 hK14 => ?_)
    refine scode_region (by kernel_rfl) ?_
    simp [go_sem]
    refine hK14 _ _ ?_
    try clear hK14 K14
    refine scode_block ?_
    refine scode_loop (Inv := fun n0 env H3 => ∃ (i : Nat) (x : AV) (l : List UInt8), n0 = 3000 - i ∧ i ≤ 3000 ∧ l.length = i ∧ env 0 = .sc (.int .u8 sn) ∧ env 1 = .sc (.int .u8 tn) ∧ env 2 = .vs lb 1 (bV b) ∧ env 7 = .ptr D 0 ∧ env 8 = .ptr F 0 ∧ env 9 = x ∧ env 10 = .int i ∧ GrN (fun z => z < H2.next) H3 x 1 i (bV l) ∧ Step (fun z => z < H2.next) H2 H3) ?_ (n := 3000) (⟨0, .nil, [], rfl, by omega, rfl, by simp [go_sem], by simp [go_sem], by simp [go_sem], by simp [go_sem], by simp [go_sem], by simp [go_sem], by simp [go_sem], GrN.nil _ _ _, Step.refl _ _⟩)
    rintro n0 env H3 ⟨i, x, l, rfl, hi, hl, e0, e1, e2, e7, e8, e9, e10, hX, hS⟩
    refine scode_seq_k (fun K15 hK15 => ?_)
    refine scode_seq_k (fun K16 hK16 => ?_)
    refine scode_region (by kernel_rfl) ?_
    simp [go_sem, e10]
    refine hK16 _ _ ?_
    try clear hK16 K16
    refine scode_if (b := decide ((i : Int) < 3000)) (by simp [go_sem]) (fun hb9 => ?_) (fun hb9 => ?_)
    · skip
      simp only [decide_eq_true_eq] at hb9
      have hb9 : i < 3000 := by omega
      have hw := i64_succ i (by omega)
      obtain ⟨c, hcw⟩ := wrap_byte (IntKind.i64.wrap ((i : Int) * (sn : Int)) / 8)
      obtain ⟨H4, hap, hX4, hS4⟩ := grn_pushB (c := c) (S := fun z => z < H2.next) hX (fun z hz => Nat.lt_of_lt_of_le hz hS.le) (by omega)
      refine scode_skip ?_
      refine hK15 _ _ ?_
      try clear hK15 K15
      refine scode_seq_k (fun K17 hK17 => ?_)
      refine scode_block ?_
      refine scode_region (by kernel_rfl) ?_
      simp [go_sem, e0, e9, e10, ws, hcw, hap]
      refine hK17 _ _ ?_
      try clear hK17 K17
      refine scode_hide (fun K18 hK18 => ?_)
      refine scode_region (by kernel_rfl) ?_
      simp [go_sem, e10, hw]
      refine hK18 _ _ ?_
      exact ⟨3000 - (i + 1), by omega, i + 1, _, l ++ [c], rfl, by omega, by rw [List.length_append, hl]; rfl, by simp [go_sem, e0], by simp [go_sem, e1], by simp [go_sem, e2], by simp [go_sem, e7], by simp [go_sem, e8], by simp [go_sem], by simp [go_sem], hX4, hS.trans (hS4.mono fun z hz => hz)⟩
    · skip
      simp only [decide_eq_false_iff_not] at hb9
      obtain rfl : i = 3000 := by omega
      obtain ⟨bo, hgr, hbo, _⟩ := hX.grown
      refine scode_freeze_grown 9 e9 hgr ?_
      have s3 : Step (fun z => z < H2.next) H2 (H3.delo bo) := hS.del hbo
      have k1 := k1.new s3
      have k2 := k2.new s3
      generalize H3.delo bo = H4 at *
      have rL := row_A hl
      refine scode_exit ?_
      refine hK13 _ _ ?_
      try clear hK13 K13
      refine scode_seq_k (fun K19 hK19 => ?_)
      refine scode_region (by kernel_rfl) ?_
      simp [go_sem]
      refine hK19 _ _ ?_
      try clear hK19 K19
      refine scode_seq_k (fun K20 hK20 => ?_)
      refine scode_seq_k (fun K21 hK21 => ?_)
      refine scode_region (by kernel_rfl) ?_
      simp [go_sem]
      refine hK21 _ _ ?_
      try clear hK21 K21
      refine scode_block ?_
      refine scode_loop (Inv := fun n1 env H5 => ∃ (j : Nat) (hd : List UInt8) (P1 P2 : Nat → Prop), n1 = tt - j ∧ j ≤ tt ∧ hd.length = min (3000 * j) 32768 ∧ env 1 = .sc (.int .u8 tn) ∧ env 2 = .vs lb 1 (bV b) ∧ env 7 = .ptr D 0 ∧ env 8 = .ptr F 0 ∧ env 9 = .vs 3000 1 (bV l) ∧ env 11 = .int (3000 * j : Nat) ∧ env 12 = .int j ∧ Own P1 H5 D hd ∧ Own P2 H5 F hd ∧ (∀ z, P1 z → ¬ P2 z)) ?_ (n := tt) (⟨0, [], O1, O2, rfl, by omega, rfl, by simp [go_sem, e1], by simp [go_sem, e2], by simp [go_sem, e7], by simp [go_sem, e8], by simp [go_sem], by simp [go_sem], by simp [go_sem], k1, k2, d12⟩)
      clear e0 e1 e2 e7 e8 e9 e10 k1 k2 d12
      rintro n1 env H5 ⟨j, hd, P1, P2, rfl, hj, hhd, e1, e2, e7, e8, e9, e11, e12, k1, k2, d12⟩
      refine scode_seq_k (fun K22 hK22 => ?_)
      refine scode_seq_k (fun K23 hK23 => ?_)
      refine scode_region (by kernel_rfl) ?_
      simp [go_sem, e1, e12, wt, hmod]
      refine hK23 _ _ ?_
      try clear hK23 K23
      refine scode_if (b := decide ((j : Int) < (tt : Int))) (by simp [go_sem]) (fun hb9 => ?_) (fun hb9 => ?_)
      · skip
        simp only [decide_eq_true_eq] at hb9
        have hb9 : j < tt := by omega
        have hw := i64_succ j (by omega)
        have hw3 : IntKind.i64.wrap ((3000 : Int) * (j : Int) + 3000) = (3000 : Int) * ((j : Int) + 1) := by rw [i64in _ (by omega) (by omega)]; omega
        have c1 := dAdd_o (b := l) (by omega) k1
        rw [rL] at c1
        refine scode_skip ?_
        refine hK22 _ _ ?_
        try clear hK22 K22
        refine scode_seq_k (fun K24 hK24 => ?_)
        refine scode_block ?_
        refine scode_seq_k (fun K25 hK25 => ?_)
        refine scode_regionP (by kernel_rfl) ?_
        simp [go_sem, e7, e9]
        refine ⟨_, c1, ?_⟩
        rintro _ H6 hn6 ⟨rfl, P1b, k1, s6⟩
        obtain ⟨k2, d12⟩ := s6.other k2 d12
        have c2 := fAdd_o (b := l) (by omega) k2
        rw [rL] at c2
        refine hK25 _ _ ?_
        try clear hK25 K25
        refine scode_seq_k (fun K27 hK27 => ?_)
        refine scode_regionP (by kernel_rfl) ?_
        simp [go_sem, e8, e9]
        refine ⟨_, c2, ?_⟩
        rintro _ H7 hn7 ⟨rfl, P2b, k2, s7⟩
        obtain ⟨k1, d21⟩ := s7.other k1 (fun z h1 h2 => d12 z h2 h1)
        refine hK27 _ _ ?_
        try clear hK27 K27
        refine scode_region (by kernel_rfl) ?_
        simp [go_sem, e9, e11, hw3]
        refine hK24 _ _ ?_
        try clear hK24 K24
        refine scode_hide (fun K29 hK29 => ?_)
        refine scode_region (by kernel_rfl) ?_
        simp [go_sem, e12, hw]
        refine hK29 _ _ ?_
        exact ⟨tt - (j + 1), by omega, j + 1, _, P1b, P2b, rfl, by omega, by rw [lastW_len, List.length_append, hhd, hl]; omega, by simp [go_sem, e1], by simp [go_sem, e2], by simp [go_sem, e7], by simp [go_sem, e8], by simp [go_sem, e9], by simp [go_sem, hw3], by simp [go_sem], k1, k2, fun z h1 h2 => d21 z h2 h1⟩
      · skip
        simp only [decide_eq_false_iff_not] at hb9
        obtain rfl : j = tt := by omega
        have c3 := dPacket_o (b := b) (by omega) (by omega) k1
        rw [rB] at c3
        have hpl := pack_le hd b
        refine scode_exit ?_
        refine hK20 _ _ ?_
        try clear hK20 K20
        refine scode_seq_k (fun K30 hK30 => ?_)
        refine scode_regionP (by kernel_rfl) ?_
        refine p_take 3 (fun K31 hK31 => ?_)
        simp [go_sem, e2, e7]
        refine ⟨_, c3, ?_⟩
        rintro _ H6 hn6 ⟨rfl, P1b, k1, s6⟩
        obtain ⟨k2, d12⟩ := s6.other k2 d12
        have c4 := fPacket_o (b := b) (by omega) (mo := 400) (by omega) (by omega) k2
        rw [rB, show ((400 : Nat) : Int) = 400 from rfl] at c4
        refine hK31 _ _ ?_
        clear hK31 K31
        simp [go_sem, e2, e7]
        refine hK30 _ _ ?_
        try clear hK30 K30
        refine scode_seq_k (fun K32 hK32 => ?_)
        refine scode_regionP (by kernel_rfl) ?_
        refine p_take 3 (fun K33 hK33 => ?_)
        simp [go_sem, e8]
        refine ⟨_, c4, ?_⟩
        rintro _ H7 hn7 ⟨rfl, P2b, k2, s7⟩
        obtain ⟨k1, d21⟩ := s7.other k1 (fun z h1 h2 => d12 z h2 h1)
        have g1 := Same_H b (by omega) H7
        rw [rB] at g1
        have g2 := dLen_o k1
        have g3 := fLen_o k2
        have hlen : (lastW (hd ++ b)).length = min (3000 * j + lb) 32768 := by rw [lastW_len, List.length_append, hhd, hlb]; omega
        rw [hlen] at g2 g3
        obtain ⟨M, hM⟩ : ∃ z, min (3000 * j + lb) 32768 = z := ⟨_, rfl⟩
        rw [hM] at g2 g3
        have wm : IntKind.i64.wrap ((3000 : Int) * (j : Int) + (lb : Int)) = (3000 : Int) * (j : Int) + (lb : Int) := i64in _ (by omega) (by omega)
        refine hK33 _ _ ?_
        clear hK33 K33
        simp [go_sem, e8]
        refine hK32 _ _ ?_
        try clear hK32 K32
        refine scode_seq_k (fun K34 hK34 => ?_)
        rcases (by omega : (32768 < 3000 * j + lb ∧ M = 32768) ∨ (¬ 32768 < 3000 * j + lb ∧ M = 3000 * j + lb)) with ⟨hq, hMq⟩ | ⟨hq, hMq⟩
        · skip
          subst hMq
          have hq1 : (32768 : Int) < 3000 * (j : Int) + (lb : Int) := by omega
          refine scode_region (by kernel_rfl) ?_
          refine w_take 6 (fun K35 hK35 => ?_)
          simp [go_sem, e2, e7, e8, e11, wm, hq1, srun_minW]
          refine ⟨_, _, g1, ?_⟩
          refine hK35 _ _ ?_
          clear hK35 K35
          refine w_take 4 (fun K36 hK36 => ?_)
          simp [go_sem, e2, e7, e8, e11, wm, hq1, srun_minW]
          refine ⟨_, _, g2, ?_⟩
          refine hK36 _ _ ?_
          clear hK36 K36
          refine w_take 10 (fun K37 hK37 => ?_)
          simp [go_sem, e2, e7, e8, e11, wm, hq1, srun_minW]
          refine ⟨_, _, g3, ?_⟩
          refine hK37 _ _ ?_
          clear hK37 K37
          refine w_take 2 (fun K38 hK38 => ?_)
          simp [go_sem, e2, e7, e8, e11, wm, hq1, srun_minW]
          refine ⟨_, _, g2, ?_⟩
          refine hK38 _ _ ?_
          clear hK38 K38
          simp [go_sem, e2, e7, e8, e11, wm, hq1, srun_minW]
          refine hK34 _ _ ?_
          try clear hK34 K34
          refine scode_ret ?_
          simp only [go_sem]
          refine hR _ _ ?_
          exact ret_plain (by simp [go_sem]) (empty_le _) (Nat.zero_le _) (by simp [go_sem])
        · skip
          subst hMq
          have hq1 : ¬ ((32768 : Int) < 3000 * (j : Int) + (lb : Int)) := by omega
          push_cast at g2 g3
          refine scode_region (by kernel_rfl) ?_
          refine w_take 6 (fun K39 hK39 => ?_)
          simp [go_sem, e2, e7, e8, e11, wm, hq1, srun_minW]
          refine ⟨_, _, g1, ?_⟩
          refine hK39 _ _ ?_
          clear hK39 K39
          refine w_take 4 (fun K40 hK40 => ?_)
          simp [go_sem, e2, e7, e8, e11, wm, hq1, srun_minW]
          refine ⟨_, _, g2, ?_⟩
          refine hK40 _ _ ?_
          clear hK40 K40
          refine w_take 10 (fun K41 hK41 => ?_)
          simp [go_sem, e2, e7, e8, e11, wm, hq1, srun_minW]
          refine ⟨_, _, g3, ?_⟩
          refine hK41 _ _ ?_
          clear hK41 K41
          refine w_take 2 (fun K42 hK42 => ?_)
          simp [go_sem, e2, e7, e8, e11, wm, hq1, srun_minW]
          refine ⟨_, _, g2, ?_⟩
          refine hK42 _ _ ?_
          clear hK42 K42
          simp [go_sem, e2, e7, e8, e11, wm, hq1, srun_minW]
          refine hK34 _ _ ?_
          try clear hK34 K34
          refine scode_ret ?_
          simp only [go_sem]
          refine hR _ _ ?_
          exact ret_plain (by simp [go_sem]) (empty_le _) (Nat.zero_le _) (by simp [go_sem])
  · skip
    have f1 : (300 : Int) < lb := by omega
    refine scode_region (by kernel_rfl) ?_
    simp [go_sem, f1]
    refine hK6 _ _ ?_
    try clear hK6 K6
    refine scode_if (b := true) (by simp [go_sem]) (fun _ => ?_) (fun h => by cases h)
    refine scode_seq_k (fun K43 hK43 => ?_)
    refine scode_region (by kernel_rfl) ?_
    simp [go_sem]
    refine hK43 _ _ ?_
    try clear hK43 K43
    refine scode_ret ?_
    simp only [go_sem]
    refine hR _ _ ?_
    exact ret_plain (by simp [go_sem]) (empty_le _) (Nat.zero_le _) (by simp [go_sem])
  · skip
    subst q2
    refine scode_region (by kernel_rfl) ?_
    simp [go_sem]
    refine hK6 _ _ ?_
    try clear hK6 K6
    refine scode_if (b := true) (by simp [go_sem]) (fun _ => ?_) (fun h => by cases h)
    refine scode_seq_k (fun K44 hK44 => ?_)
    refine scode_region (by kernel_rfl) ?_
    simp [go_sem]
    refine hK44 _ _ ?_
    try clear hK44 K44
    refine scode_ret ?_
    simp only [go_sem]
    refine hR _ _ ?_
    exact ret_plain (by simp [go_sem]) (empty_le _) (Nat.zero_le _) (by simp [go_sem])
end Go.Proofs.YtfokgjhdndnnhaaGreatDoor
end W59S
set_option maxRecDepth 20000
noncomputable section G8S
namespace Go.Proofs.YtfokgjhdndnnhaaGreatDoor
open Go Go.Fl Go.Proofs
theorem shp_byte {r : List AV} (h : Shp Tryz.prog 5 r) : ∃ c : UInt8, r = [.sc (.int .u8 c.toNat)] ∧ True := by
  obtain ⟨n, e, h1, h2⟩ := h.int_inv tU5
  have k1 : (0 : Int) ≤ n := h1
  have k2 : n ≤ 255 := h2
  refine ⟨UInt8.ofNat n.toNat, ?_, trivial⟩
  rw [e]
  have : (UInt8.ofNat n.toNat).toNat = n.toNat := by simp; omega
  rw [this]
  have : ((n.toNat : Nat) : Int) = n := by omega
  rw [this]
theorem flat_bytes (l : List UInt8) : (l.flatMap fun c => [AV.sc (.int .u8 c.toNat)]) = bV l := by
  induction l with
  | nil => rfl
  | cons x l ih => rw [List.flatMap_cons, ih]; rfl
theorem cellsOf5 : Tryz.prog.cellsOf 5 = 1 := by kernel_rfl
theorem shp_bytes {r : List AV} (h : Shp Tryz.prog 25 r) : ∃ l : List UInt8, r = [bA l] ∧ True := by
  obtain ⟨xs, h1, h2, h3⟩ := Shp.sl_map (f := fun c : UInt8 => [AV.sc (.int .u8 c.toNat)]) tU25 (fun r hr => shp_byte hr) h
  refine ⟨xs, ?_, trivial⟩
  rw [h1, flat_bytes, cellsOf5]
  rfl
end Go.Proofs.YtfokgjhdndnnhaaGreatDoor
end G8S
