/- DeflateAgain. -/
import Derived.Test.YtfokgjhdndnnhaaGreatDoorW56
import Derived.Test.YtfokgjhdndnnhaaGreatDoorB2
import Derived.Test.YtfokgjhdndnnhaaGreatDoorFl41
set_option linter.unusedVariables false
set_option linter.unusedSimpArgs false
set_option maxRecDepth 20000
noncomputable section W57S
namespace Go.Proofs.YtfokgjhdndnnhaaGreatDoor
open Go Go.Fl Go.Proofs
theorem pack_le (h b : List UInt8) : (packOf h b).length ≤ b.length + 6 := by
  have := best_le h b
  unfold packOf
  rw [pack_len, List.length_append, natBits_len]
  unfold bytesOf
  omega
set_option maxHeartbeats 2000000 in
theorem again_law (a b : List UInt8) : SCalls Tryz.prog 5 [bA a, bA b] Heap.empty (.bool true) Heap.empty := by
  obtain ⟨la, hla⟩ : ∃ z, a.length = z := ⟨_, rfl⟩
  obtain ⟨lb, hlb⟩ : ∃ z, b.length = z := ⟨_, rfl⟩
  have rA := row_A hla
  have rB := row_A hlb
  rw [rA, rB]
  have hc : (la ≤ 1000 ∧ lb ≤ 1000 ∧ 0 < lb) ∨ (1000 < la) ∨ (la ≤ 1000 ∧ 1000 < lb) ∨ (la ≤ 1000 ∧ lb = 0) := by omega
  refine scalls_of_k (sz := 80) (Tryz.call5) Tryz.func5 rfl (Nat.zero_le _) (by kernel_rfl) (fun R hR => ?_)
  refine scode_seq_k (fun K1 hK1 => ?_)
  refine scode_region (by kernel_rfl) ?_
  simp [go_sem]
  refine hK1 _ _ ?_
  try clear hK1 K1
  refine scode_seq_k (fun K2 hK2 => ?_)
  refine scode_seq_k (fun K3 hK3 => ?_)
  refine scode_region (by kernel_rfl) ?_
  refine w_take 1 (fun K4 hK4 => ?_)
  simp [go_sem]
  refine ⟨_, _, awake_s, ?_⟩
  refine hK4 _ _ ?_
  clear hK4 K4
  simp [go_sem]
  refine hK3 _ _ ?_
  try clear hK3 K3
  refine scode_if (b := false) (by simp [go_sem]) (fun h => by cases h) (fun _ => ?_)
  refine scode_skip ?_
  refine hK2 _ _ ?_
  try clear hK2 K2
  refine scode_seq_k (fun K5 hK5 => ?_)
  refine scode_seq_k (fun K6 hK6 => ?_)
  rcases hc with ⟨q1, q2, q3⟩ | q1 | ⟨q1, q2⟩ | ⟨q1, q2⟩
  · skip
    have f1 : ¬ ((1000 : Int) < la) := by omega
    have f2 : ¬ ((1000 : Int) < lb) := by omega
    have f3 : ((lb : Int) == 0) = false := by simp; omega
    refine scode_region (by kernel_rfl) ?_
    simp [go_sem, f1, f2, f3]
    refine hK6 _ _ ?_
    try clear hK6 K6
    refine scode_if (b := false) (by simp [go_sem]) (fun h => by cases h) (fun _ => ?_)
    refine scode_skip ?_
    refine hK5 _ _ ?_
    try clear hK5 K5
    refine scode_seq_k (fun K7 hK7 => ?_)
    refine scode_regionP (by kernel_rfl) ?_
    refine p_take 1 (fun K8 hK8 => ?_)
    simp [go_sem]
    refine ⟨_, (dNew_o _), ?_⟩
    rintro _ H1 ⟨D, O1, rfl, k1, l1, s1⟩
    refine hK8 _ _ ?_
    clear hK8 K8
    refine p_take 1 (fun K9 hK9 => ?_)
    simp [go_sem]
    refine ⟨_, (dNew_o H1), ?_⟩
    rintro _ H2 hn2 ⟨E, O2, rfl, k2, l2, s2⟩
    have d12 : ∀ z, O1 z → ¬ O2 z := fun z h1 h2 => by have := k1.lt z h1; have := l2 z h2; omega
    have k1 := k1.new s2
    refine hK9 _ _ ?_
    clear hK9 K9
    simp [go_sem]
    refine hK7 _ _ ?_
    try clear hK7 K7
    refine scode_seq_k (fun K10 hK10 => ?_)
    refine scode_regionP (by kernel_rfl) ?_
    refine p_take 1 (fun K11 hK11 => ?_)
    simp [go_sem]
    refine ⟨_, (fNew_o H2), ?_⟩
    rintro _ H3 hn3 ⟨F, O3, rfl, k3, l3, s3⟩
    have d13 : ∀ z, O1 z → ¬ O3 z := fun z h1 h2 => by have := k1.lt z h1; have := l3 z h2; omega
    have d23 : ∀ z, O2 z → ¬ O3 z := fun z h1 h2 => by have := k2.lt z h1; have := l3 z h2; omega
    have k1 := k1.new s3
    have k2 := k2.new s3
    have c1 := dAdd_o (b := a) (by omega) k1
    rw [rA] at c1
    refine hK11 _ _ ?_
    clear hK11 K11
    simp [go_sem]
    refine hK10 _ _ ?_
    try clear hK10 K10
    refine scode_seq_k (fun K12 hK12 => ?_)
    refine scode_seq_k (fun K13 hK13 => ?_)
    refine scode_region (by kernel_rfl) ?_
    simp [go_sem]
    refine hK13 _ _ ?_
    try clear hK13 K13
    refine scode_if (b := false) (by simp [go_sem]) (fun h => by cases h) (fun _ => ?_)
    refine scode_skip ?_
    refine hK12 _ _ ?_
    try clear hK12 K12
    refine scode_seq_k (fun K14 hK14 => ?_)
    refine scode_regionP (by kernel_rfl) ?_
    simp [go_sem]
    refine ⟨_, c1, ?_⟩
    rintro _ H4 hn4 ⟨rfl, O1a, k1, s4⟩
    obtain ⟨k2, d12⟩ := s4.other k2 d12
    obtain ⟨k3, d13⟩ := s4.other k3 d13
    have c2 := dAdd_o (b := a) (by omega) k2
    rw [rA] at c2
    refine hK14 _ _ ?_
    try clear hK14 K14
    refine scode_seq_k (fun K16 hK16 => ?_)
    refine scode_regionP (by kernel_rfl) ?_
    simp [go_sem]
    refine ⟨_, c2, ?_⟩
    rintro _ H5 hn5 ⟨rfl, O2a, k2, s5⟩
    obtain ⟨k1, d21⟩ := s5.other k1 (fun z h1 h2 => d12 z h2 h1)
    obtain ⟨k3, d23⟩ := s5.other k3 d23
    have c3 := fAdd_o (b := a) (by omega) k3
    rw [rA] at c3
    refine hK16 _ _ ?_
    try clear hK16 K16
    refine scode_seq_k (fun K18 hK18 => ?_)
    refine scode_regionP (by kernel_rfl) ?_
    simp [go_sem]
    refine ⟨_, c3, ?_⟩
    rintro _ H6 hn6 ⟨rfl, O3a, k3, s6⟩
    obtain ⟨k1, d31⟩ := s6.other k1 (fun z h1 h2 => d13 z h2 h1)
    obtain ⟨k2, d32⟩ := s6.other k2 (fun z h1 h2 => d23 z h2 h1)
    generalize lastW ([] ++ a) = hA at *
    have c4 := dPacket_o (b := b) (by omega) (by omega) k1
    rw [rB] at c4
    have hpl := pack_le hA b
    refine hK18 _ _ ?_
    try clear hK18 K18
    refine scode_seq_k (fun K20 hK20 => ?_)
    refine scode_regionP (by kernel_rfl) ?_
    refine p_take 3 (fun K21 hK21 => ?_)
    simp [go_sem]
    refine ⟨_, c4, ?_⟩
    rintro _ H7 hn7 ⟨rfl, O1b, k1, s7⟩
    obtain ⟨k2, d12⟩ := s7.other k2 (fun z h1 h2 => d21 z h2 h1)
    obtain ⟨k3, d13⟩ := s7.other k3 (fun z h1 h2 => d31 z h2 h1)
    have c5 := dPacket_o (b := b) (by omega) (by omega) k2
    rw [rB] at c5
    refine hK21 _ _ ?_
    clear hK21 K21
    refine p_take 3 (fun K22 hK22 => ?_)
    simp [go_sem]
    refine ⟨_, c5, ?_⟩
    rintro _ H8 hn8 ⟨rfl, O2b, k2, s8⟩
    obtain ⟨k1, d21⟩ := s8.other k1 (fun z h1 h2 => d12 z h2 h1)
    obtain ⟨k3, d23⟩ := s8.other k3 (fun z h1 h2 => d32 z h2 h1)
    have c6 := fPacket_o (b := b) (by omega) (mo := 1000) (by omega) (by omega) k3
    rw [rB, show ((1000 : Nat) : Int) = 1000 from rfl] at c6
    refine hK22 _ _ ?_
    clear hK22 K22
    simp [go_sem]
    refine hK20 _ _ ?_
    try clear hK20 K20
    refine scode_seq_k (fun K23 hK23 => ?_)
    refine scode_regionP (by kernel_rfl) ?_
    refine p_take 3 (fun K24 hK24 => ?_)
    simp [go_sem]
    refine ⟨_, c6, ?_⟩
    rintro _ H9 hn9 ⟨rfl, O3b, k3, s9⟩
    obtain ⟨k1, d31⟩ := s9.other k1 (fun z h1 h2 => d13 z h2 h1)
    have e1 := Same_H (packOf hA b) (by omega) H9
    have e2 := Same_H b (by omega) H9
    rw [rB] at e2
    have e3 := dLen_o k1
    have e4 := fLen_o k3
    refine hK24 _ _ ?_
    clear hK24 K24
    simp [go_sem]
    refine hK23 _ _ ?_
    try clear hK23 K23
    refine scode_seq_k (fun K25 hK25 => ?_)
    refine scode_region (by kernel_rfl) ?_
    refine w_take 6 (fun K26 hK26 => ?_)
    simp [go_sem]
    refine ⟨_, _, e1, ?_⟩
    refine hK26 _ _ ?_
    clear hK26 K26
    refine w_take 5 (fun K27 hK27 => ?_)
    simp [go_sem]
    refine ⟨_, _, e2, ?_⟩
    refine hK27 _ _ ?_
    clear hK27 K27
    refine w_take 4 (fun K28 hK28 => ?_)
    simp [go_sem]
    refine ⟨_, _, e3, ?_⟩
    refine hK28 _ _ ?_
    clear hK28 K28
    refine w_take 2 (fun K29 hK29 => ?_)
    simp [go_sem]
    refine ⟨_, _, e4, ?_⟩
    refine hK29 _ _ ?_
    clear hK29 K29
    simp [go_sem]
    refine hK25 _ _ ?_
    try clear hK25 K25
    refine scode_ret ?_
    simp only [go_sem]
    refine hR _ _ ?_
    exact ret_plain (by simp [go_sem]) (empty_le _) (Nat.zero_le _) (by simp [go_sem])
  · skip
    have f1 : (1000 : Int) < la := by omega
    refine scode_region (by kernel_rfl) ?_
    simp [go_sem, f1]
    refine hK6 _ _ ?_
    try clear hK6 K6
    refine scode_if (b := true) (by simp [go_sem]) (fun _ => ?_) (fun h => by cases h)
    refine scode_seq_k (fun K30 hK30 => ?_)
    refine scode_region (by kernel_rfl) ?_
    simp [go_sem]
    refine hK30 _ _ ?_
    try clear hK30 K30
    refine scode_ret ?_
    simp only [go_sem]
    refine hR _ _ ?_
    exact ret_plain (by simp [go_sem]) (empty_le _) (Nat.zero_le _) (by simp [go_sem])
  · skip
    have f1 : ¬ ((1000 : Int) < la) := by omega
    have f2 : (1000 : Int) < lb := by omega
    refine scode_region (by kernel_rfl) ?_
    simp [go_sem, f1, f2]
    refine hK6 _ _ ?_
    try clear hK6 K6
    refine scode_if (b := true) (by simp [go_sem]) (fun _ => ?_) (fun h => by cases h)
    refine scode_seq_k (fun K31 hK31 => ?_)
    refine scode_region (by kernel_rfl) ?_
    simp [go_sem]
    refine hK31 _ _ ?_
    try clear hK31 K31
    refine scode_ret ?_
    simp only [go_sem]
    refine hR _ _ ?_
    exact ret_plain (by simp [go_sem]) (empty_le _) (Nat.zero_le _) (by simp [go_sem])
  · skip
    have f1 : ¬ ((1000 : Int) < la) := by omega
    subst q2
    refine scode_region (by kernel_rfl) ?_
    simp [go_sem, f1]
    refine hK6 _ _ ?_
    try clear hK6 K6
    refine scode_if (b := true) (by simp [go_sem]) (fun _ => ?_) (fun h => by cases h)
    refine scode_seq_k (fun K32 hK32 => ?_)
    refine scode_region (by kernel_rfl) ?_
    simp [go_sem]
    refine hK32 _ _ ?_
    try clear hK32 K32
    refine scode_ret ?_
    simp only [go_sem]
    refine hR _ _ ?_
    exact ret_plain (by simp [go_sem]) (empty_le _) (Nat.zero_le _) (by simp [go_sem])
end Go.Proofs.YtfokgjhdndnnhaaGreatDoor
end W57S
set_option maxRecDepth 20000
noncomputable section W58S
namespace Go.Proofs.YtfokgjhdndnnhaaGreatDoor
open Go Go.Fl Go.Proofs
theorem gB_rep (c : UInt8) {n i : Nat} (h : i < n) : gB (List.replicate n c) i = c := by
  unfold gB
  rw [List.getD_eq_getElem?_getD, List.getElem?_replicate, if_pos h]
  rfl
theorem same_rep (c : UInt8) : ∀ d n, n + d = 199 → sameGo (List.replicate 200 c) 0 1 (59 + d) n = 199
  | 0, n, h => by
    obtain rfl : n = 199 := by omega
    exact sameGo_miss (by rw [List.length_replicate]; omega)
  | d + 1, n, h => by
    rw [show 59 + (d + 1) = (59 + d) + 1 by omega, sameGo_hit ⟨by rw [List.length_replicate]; omega, by omega, by rw [gB_rep c (by omega), gB_rep c (by omega)]⟩]
    exact same_rep c d (n + 1) (by omega)
theorem hash_rep (c : UInt8) {i j : Nat} (hi : i + 2 < 200) (hj : j + 2 < 200) : hashAt (List.replicate 200 c) i = hashAt (List.replicate 200 c) j := by
  unfold hashAt
  rw [gB_rep c (by omega), gB_rep c (by omega), gB_rep c (by omega), gB_rep c (by omega), gB_rep c (by omega), gB_rep c (by omega)]
theorem tokens_rep (c : UInt8) : tokensL [] (List.replicate 200 c) = [⟨c, 1, 0⟩, ⟨0, 199, 1⟩] := by
  obtain ⟨l, hl⟩ : ∃ z, List.replicate 200 c = z := ⟨_, rfl⟩
  have hn : l.length = 200 := by rw [← hl, List.length_replicate]
  have h0 : gB l 0 = c := by rw [← hl]; exact gB_rep c (by omega)
  have hh : hashAt l 1 = hashAt l 0 := by rw [← hl]; exact hash_rep c (by omega) (by omega)
  have hs : sameN l 0 1 = 199 := by rw [← hl]; exact same_rep c 199 0 rfl
  rw [hl]
  unfold tokensL
  rw [List.nil_append, hn, List.length_nil]
  have t1 : tokAt l 0 (fun _ => 0) = ⟨c, 1, 0⟩ := by rw [tokAt_lit (by omega), h0]
  have n1 : noteR l 0 1 (fun _ => 0) = noteS l 0 (fun _ => 0) := by rw [noteR_succ]; rfl
  have n2 : noteS l 0 (fun _ => 0) (hashAt l 1) = 0 + 1 := by
    unfold noteS
    rw [if_pos (by omega)]
    show (if hashAt l 1 = hashAt l 0 then 0 + 1 else 0) = _
    rw [if_pos hh]
  have t2 : tokAt l 1 (noteS l 0 (fun _ => 0)) = ⟨0, 199, 1⟩ := tokAt_copy (p := 0) (by omega) n2 (by omega) hs (by omega)
  show tokGo l (199 + 1) 0 (fun _ => 0) = _
  rw [tokGo_step (by omega), t1, n1]
  show _ :: tokGo l (198 + 1) 1 _ = _
  rw [tokGo_step (by omega), t2]
  rw [tokGo_done (by show ¬ 1 + 199 < _; omega)]
theorem short_len (c : UInt8) : (packOf [] (List.replicate 200 c)).length ≤ 60 ∧ 0 < (packOf [] (List.replicate 200 c)).length := by
  have h := (wayB_len (List.replicate 200 c) (tokensL [] (List.replicate 200 c))).2
  have hb : bestBits [] (List.replicate 200 c) = wayB (List.replicate 200 c) (tokensL [] (List.replicate 200 c)) := rfl
  rw [← hb, tokens_rep] at h
  have hf : (fixedBits [⟨c, 1, 0⟩, ⟨0, 199, 1⟩]).length ≤ 100 := by
    have a1 := fixS_le c.toNat
    have a2 := fixS_le 256
    have a3 := fixS_le (lenPart 199).sym
    have a4 := fixD_le (distPart 1).sym
    have b1 : (lenPart 199).bits ≤ 5 := by decide
    have b2 : (distPart 1).bits ≤ 5 := by decide
    unfold fixedBits toksBits
    simp only [List.flatMap_cons, List.flatMap_nil, List.append_nil]
    unfold tokBits
    rw [if_pos rfl, if_neg (by decide)]
    simp only [List.length_append, natBits_len, symBits_len]
    omega
  unfold packOf
  rw [pack_len, List.length_append, natBits_len]
  unfold bytesOf
  omega
theorem grn_pushB {S : Nat → Prop} {H : Heap} {x : AV} {n : Nat} {c : UInt8} {l : List UInt8} (h : GrN S H x 1 n (bV l)) (hSn : ∀ z, S z → z < H.next) (hl : n ≤ 1000000) : ∃ H1, aappend Tryz.prog (H.alloc [.sc (.int .u8 c.toNat)]) 25 25 x (.ms H.next 0 1 1) = some (.ms (H.next + 1) 0 (n + 1) 1, H1) ∧ GrN S H1 (.ms (H.next + 1) 0 (n + 1) 1) 1 (n + 1) (bV (l ++ [c])) ∧ Step S H H1 := by
  obtain ⟨bo, hg, hbo, _, _⟩ := h.grown
  obtain ⟨ha, hg2⟩ := appB (c.toNat : Int) hg (by omega)
  refine ⟨_, ha, ?_, GrN.step hg hbo (fun y hy => bV_lt l _ y hy) (by simp [go_sem])⟩
  rw [bV_app]
  exact GrN.one hg2 hSn
set_option maxHeartbeats 1000000 in
theorem short_law (c : UInt8) : SCalls Tryz.prog 3 [.sc (.int .u8 c.toNat)] Heap.empty (.bool true) Heap.empty := by
  have hsl := short_len c
  have hB : (List.replicate 200 c).length = 200 := List.length_replicate
  refine scalls_of_k (sz := 31) (Tryz.call3) Tryz.func3 rfl (Nat.zero_le _) (by kernel_rfl) (fun R hR => ?_)
  refine scode_seq_k (fun K1 hK1 => ?_)
  refine scode_region (by kernel_rfl) ?_
  simp [go_sem]
  refine hK1 _ _ ?_
  try clear hK1 K1
  refine scode_seq_k (fun K2 hK2 => ?_)
  refine scode_seq_k (fun K3 hK3 => ?_)
  refine scode_region (by kernel_rfl) ?_
  refine w_take 1 (fun K4 hK4 => ?_)
  simp [go_sem]
  refine ⟨_, _, awake_s, ?_⟩
  refine hK4 _ _ ?_
  clear hK4 K4
  simp [go_sem]
  refine hK3 _ _ ?_
  try clear hK3 K3
  refine scode_if (b := false) (by simp [go_sem]) (fun h => by cases h) (fun _ => ?_)
  refine scode_skip ?_
  refine hK2 _ _ ?_
  try clear hK2 K2
  refine scode_seq_k (fun K5 hK5 => ?_)
  refine scode_regionP (by kernel_rfl) ?_
  refine p_take 1 (fun K6 hK6 => ?_)
  simp [go_sem]
  refine ⟨_, (dNew_o _), ?_⟩
  rintro _ H1 ⟨D, O1, rfl, k1, l1, s1⟩
  refine hK6 _ _ ?_
  clear hK6 K6
  simp [go_sem]
  refine hK5 _ _ ?_
  try clear hK5 K5
  refine scode_seq_k (fun K7 hK7 => ?_)
  refine scode_seq_k (fun K8 hK8 => ?_)
  refine scode_region (by kernel_rfl) ?_
  simp [go_sem]
  refine hK8 _ _ ?_
  try clear hK8 K8
  refine scode_if (b := false) (by simp [go_sem]) (fun h => by cases h) (fun _ => ?_)
  refine scode_skip ?_
  refine hK7 _ _ ?_
  try clear hK7 K7
  refine scode_seq_k (fun K9 hK9 => ?_)
  refine scode_region (by kernel_rfl) ?_
  simp [go_sem]
  refine hK9 _ _ ?_
  try clear hK9 K9
  refine scode_seq_k (fun K10 hK10 => ?_)
  refine scode_seq_k (fun K11 hK11 => ?_)
  refine scode_region (by kernel_rfl) ?_
  simp [go_sem]
  refine hK11 _ _ ?_
  try clear hK11 K11
  refine scode_block ?_
  refine scode_loop (Inv := fun n0 env H2 => ∃ (i : Nat) (x : AV), n0 = 200 - i ∧ i ≤ 200 ∧ env 0 = .sc (.int .u8 c.toNat) ∧ env 3 = .ptr D 0 ∧ env 4 = x ∧ env 5 = .int i ∧ GrN (fun z => z < H1.next) H2 x 1 i (bV (List.replicate i c)) ∧ Step (fun z => z < H1.next) H1 H2) ?_ (n := 200) (⟨0, .nil, rfl, by omega, by simp [go_sem], by simp [go_sem], by simp [go_sem], by simp [go_sem], GrN.nil _ _ _, Step.refl _ _⟩)
  rintro n0 env H2 ⟨i, x, rfl, hi, e0, e3, e4, e5, hX, hS⟩
  refine scode_seq_k (fun K12 hK12 => ?_)
  refine scode_seq_k (fun K13 hK13 => ?_)
  refine scode_region (by kernel_rfl) ?_
  simp [go_sem, e5]
  refine hK13 _ _ ?_
  try clear hK13 K13
  refine scode_if (b := decide ((i : Int) < 200)) (by simp [go_sem]) (fun hb9 => ?_) (fun hb9 => ?_)
  · skip
    simp only [decide_eq_true_eq] at hb9
    have hb9 : i < 200 := by omega
    have hw := i64_succ i (by omega)
    obtain ⟨H3, hap, hX3, hS3⟩ := grn_pushB (c := c) hX (fun z hz => Nat.lt_of_lt_of_le hz hS.le) (by omega)
    have hrp : List.replicate i c ++ [c] = List.replicate (i + 1) c := by rw [List.replicate_succ']
    rw [hrp] at hX3
    refine scode_skip ?_
    refine hK12 _ _ ?_
    try clear hK12 K12
    refine scode_seq_k (fun K14 hK14 => ?_)
    refine scode_block ?_
    refine scode_region (by kernel_rfl) ?_
    simp [go_sem, e0, e4, hap]
    refine hK14 _ _ ?_
    try clear hK14 K14
    refine scode_hide (fun K15 hK15 => ?_)
    refine scode_region (by kernel_rfl) ?_
    simp [go_sem, e5, hw]
    refine hK15 _ _ ?_
    exact ⟨200 - (i + 1), by omega, i + 1, _, rfl, by omega, by simp [go_sem, e0], by simp [go_sem, e3], by simp [go_sem], by simp [go_sem], hX3, hS.trans (hS3.mono fun z hz => hz)⟩
  · skip
    simp only [decide_eq_false_iff_not] at hb9
    obtain rfl : i = 200 := by omega
    obtain ⟨bo, hgr, hbo, _⟩ := hX.grown
    refine scode_freeze_grown 4 e4 hgr ?_
    have s3 : Step (fun z => z < H1.next) H1 (H2.delo bo) := hS.del hbo
    have k1 := k1.new s3
    have rB := row_A (l := List.replicate 200 c) (n := 200) List.length_replicate
    rw [← rB]
    generalize List.replicate 200 c = b at *
    have hb200 : b.length = 200 := hB
    have cp := dPacket_o (b := b) (by omega) (by omega) k1
    refine scode_exit ?_
    refine hK10 _ _ ?_
    try clear hK10 K10
    refine scode_seq_k (fun K16 hK16 => ?_)
    refine scode_regionP (by kernel_rfl) ?_
    refine p_take 3 (fun K17 hK17 => ?_)
    simp [go_sem, e3]
    refine ⟨_, cp, ?_⟩
    rintro _ H4 hn4 ⟨rfl, O1b, k1, s4⟩
    have rP := row_A (l := packOf [] b) rfl
    generalize (packOf [] b).length = pn at *
    have p1 : (pn : Int) ≤ 60 := by omega
    have p2 : (0 : Int) < pn := by omega
    have p3 : 0 < pn := by omega
    have p4 : pn ≤ 60 := by omega
    refine hK17 _ _ ?_
    clear hK17 K17
    simp [go_sem, e3]
    refine hK16 _ _ ?_
    try clear hK16 K16
    refine scode_seq_k (fun K18 hK18 => ?_)
    refine scode_region (by kernel_rfl) ?_
    simp [go_sem, rP, p1, p2, p3, p4]
    refine hK18 _ _ ?_
    try clear hK18 K18
    refine scode_ret ?_
    simp only [go_sem]
    refine hR _ _ ?_
    exact ret_plain (by simp [go_sem]) (empty_le _) (Nat.zero_le _) (by simp [go_sem])
end Go.Proofs.YtfokgjhdndnnhaaGreatDoor
end W58S
set_option maxRecDepth 20000
noncomputable section G8S
namespace Go.Proofs.YtfokgjhdndnnhaaGreatDoor
open Go Go.Fl Go.Proofs
theorem shp_byte {r : List AV} (h : Shp Tryz.prog 5 r) : ∃ c : UInt8, r = [.sc (.int .u8 c.toNat)] ∧ True := by
  obtain ⟨n, e, h1, h2⟩ := h.int_inv tU5
  have k1 : (0 : Int) ≤ n := h1
  have k2 : n ≤ 255 := h2
  refine ⟨UInt8.ofNat n.toNat, ?_, trivial⟩
  rw [e]
  have : (UInt8.ofNat n.toNat).toNat = n.toNat := by simp; omega
  rw [this]
  have : ((n.toNat : Nat) : Int) = n := by omega
  rw [this]
theorem flat_bytes (l : List UInt8) : (l.flatMap fun c => [AV.sc (.int .u8 c.toNat)]) = bV l := by
  induction l with
  | nil => rfl
  | cons x l ih => rw [List.flatMap_cons, ih]; rfl
theorem cellsOf5 : Tryz.prog.cellsOf 5 = 1 := by kernel_rfl
theorem shp_bytes {r : List AV} (h : Shp Tryz.prog 25 r) : ∃ l : List UInt8, r = [bA l] ∧ True := by
  obtain ⟨xs, h1, h2, h3⟩ := Shp.sl_map (f := fun c : UInt8 => [AV.sc (.int .u8 c.toNat)]) tU25 (fun r hr => shp_byte hr) h
  refine ⟨xs, ?_, trivial⟩
  rw [h1, flat_bytes, cellsOf5]
  rfl
end Go.Proofs.YtfokgjhdndnnhaaGreatDoor
end G8S
