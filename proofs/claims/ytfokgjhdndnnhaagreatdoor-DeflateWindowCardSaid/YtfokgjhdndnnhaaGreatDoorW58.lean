/- Contracts: what is owned; rows that are alike. -/
import Derived.Test.YtfokgjhdndnnhaaGreatDoorFl58
set_option linter.unusedVariables false
set_option linter.unusedSimpArgs false
set_option maxRecDepth 20000
noncomputable section W54S
namespace Go.Proofs.YtfokgjhdndnnhaaGreatDoor
open Go Go.Fl Go.Proofs
theorem bV_ix {b : List UInt8} {i : Nat} (h : i < b.length) : ∃ c r, (bV b).drop i = .sc (.int .u8 c) :: r := by
  obtain ⟨x, hx⟩ := get_of_lt b i h
  obtain ⟨r, hr⟩ := bV_at hx
  exact ⟨_, r, hr⟩
theorem Same_s (b : List UInt8) (hl : b.length ≤ 1000000) : SCalls Tryz.prog 17 [bA b, bA b] Heap.empty (.bool true) Heap.empty := by
  obtain ⟨n, hn⟩ : ∃ z, b.length = z := ⟨_, rfl⟩
  rw [hn] at hl
  have hLb : (bV b).length = n := by rw [bV_len, hn]
  have hbA : bA b = .vs n 1 (bV b) := by unfold bA; rw [hn]
  rw [hbA]
  refine scalls_of_k (sz := 26) (Tryz.call17) Tryz.func17 rfl (Nat.zero_le _) (by kernel_rfl) (fun R hR => ?_)
  refine scode_seq_k (fun K1 hK1 => ?_)
  refine scode_region (by kernel_rfl) ?_
  simp [go_sem]
  refine hK1 _ _ ?_
  try clear hK1 K1
  refine scode_seq_k (fun K2 hK2 => ?_)
  refine scode_seq_k (fun K3 hK3 => ?_)
  refine scode_region (by kernel_rfl) ?_
  simp [go_sem]
  refine hK3 _ _ ?_
  try clear hK3 K3
  refine scode_if (b := false) (by simp [go_sem]) (fun h => by cases h) (fun _ => ?_)
  refine scode_skip ?_
  refine hK2 _ _ ?_
  try clear hK2 K2
  refine scode_seq_k (fun K4 hK4 => ?_)
  refine scode_seq_k (fun K5 hK5 => ?_)
  refine scode_region (by kernel_rfl) ?_
  simp [go_sem]
  refine hK5 _ _ ?_
  try clear hK5 K5
  refine scode_block ?_
  refine scode_loop (Inv := fun n0 env H => ∃ i : Nat, n0 = n - i ∧ i ≤ n ∧ env 0 = .vs n 1 (bV b) ∧ env 1 = .vs n 1 (bV b) ∧ env 5 = .int i) ?_ (n := n) (⟨0, rfl, by omega, by simp [go_sem, bA, hn], by simp [go_sem, bA, hn], by simp [go_sem]⟩)
  rintro n0 env H ⟨i, rfl, hi, e0, e1, e5⟩
  refine scode_seq_k (fun K6 hK6 => ?_)
  refine scode_seq_k (fun K7 hK7 => ?_)
  refine scode_region (by kernel_rfl) ?_
  simp [go_sem, e0, e5]
  refine hK7 _ _ ?_
  try clear hK7 K7
  refine scode_if (b := decide (i < n)) (by simp [go_sem]) (fun hb9 => ?_) (fun hb9 => ?_)
  · skip
    simp only [decide_eq_true_eq] at hb9
    have hw := i64_succ i (by omega)
    have hb9i : (i : Int) < n := by omega
    have hb9s : i + 1 ≤ n := by omega
    obtain ⟨c, r, hd⟩ := bV_ix (b := b) (i := i) (by omega)
    refine scode_skip ?_
    refine hK6 _ _ ?_
    try clear hK6 K6
    refine scode_seq_k (fun K8 hK8 => ?_)
    refine scode_block ?_
    refine scode_seq_k (fun K9 hK9 => ?_)
    refine scode_drawS mixed (by kernel_rfl) ?_
    simp [go_sem, e0, e1, e5, hd, hb9, hb9i, hb9s, hLb]
    refine hK9 _ _ ?_
    try clear hK9 K9
    refine scode_if (b := false) (by simp [go_sem]) (fun h => by cases h) (fun _ => ?_)
    refine scode_skip ?_
    refine hK8 _ _ ?_
    try clear hK8 K8
    refine scode_region (by kernel_rfl) ?_
    simp [go_sem, e5, hw]
    exact ⟨n - (i + 1), by omega, i + 1, rfl, by omega, by simp [go_sem, e0], by simp [go_sem, e1], by simp [go_sem, hw]⟩
  · skip
    simp only [decide_eq_false_iff_not] at hb9
    refine scode_exit ?_
    refine hK4 _ _ ?_
    try clear hK4 K4
    refine scode_seq_k (fun K10 hK10 => ?_)
    refine scode_region (by kernel_rfl) ?_
    simp [go_sem]
    refine hK10 _ _ ?_
    try clear hK10 K10
    refine scode_ret ?_
    simp only [go_sem]
    refine hR _ _ ?_
    exact ret_plain (by simp [go_sem]) (empty_le _) (Nat.zero_le _) (by simp [go_sem])
theorem Same_H (b : List UInt8) (hl : b.length ≤ 1000000) (H : Heap) : SCalls Tryz.prog 17 [bA b, bA b] H (.bool true) H := scalls_frame (Same_s b hl) (by simp [bA_lt]) (by simp [go_sem]) H
def Own (O : Nat → Prop) (H : Heap) (D : Nat) (h : List UInt8) : Prop := ∃ x, O D ∧ H.get D = some [.bool true, x] ∧ ((x = .nil ∧ h = []) ∨ ∃ q pre, O q ∧ q ≠ D ∧ x = .ms q pre.length h.length 1 ∧ H.get q = some (pre ++ bV h)) ∧ h.length ≤ 32768 ∧ ∀ z, O z → z < H.next
theorem Own.to {O : Nat → Prop} {H : Heap} {D : Nat} {h : List UInt8} (k : Own O H D h) : KeepS (fun z => z < H.next ∧ ¬ O z) H D h := by
  obtain ⟨x, h1, h2, h3, h4, _⟩ := k
  refine ⟨x, fun e => e.2 h1, h2, ?_, h4, fun z hz => hz.1⟩
  rcases h3 with h3 | ⟨q, pre, k1, k2, k3, k4⟩
  · exact .inl h3
  · exact .inr ⟨q, pre, fun e => e.elim (fun e => e.2 k1) k2, k3, k4⟩
theorem Own.of {S : Nat → Prop} {H : Heap} {D : Nat} {h : List UInt8} (k : KeepS S H D h) : Own (fun z => z < H.next ∧ ¬ S z) H D h := by
  obtain ⟨x, h1, h2, h3, h4, _⟩ := k
  refine ⟨x, ⟨Heap.lt_of_get h2, h1⟩, h2, ?_, h4, fun z hz => hz.1⟩
  rcases h3 with h3 | ⟨q, pre, k1, k2, k3⟩
  · exact .inl h3
  · exact .inr ⟨q, pre, ⟨Heap.lt_of_get k3, fun e => k1 (.inl e)⟩, fun e => k1 (.inr e), k2, k3⟩
theorem Own.lt {O : Nat → Prop} {H : Heap} {D : Nat} {h : List UInt8} (k : Own O H D h) : ∀ z, O z → z < H.next := by
  obtain ⟨_, _, _, _, _, k⟩ := k
  exact k
theorem Own.keep {O S : Nat → Prop} {H H' : Heap} {D : Nat} {h : List UInt8} (k : Own O H D h) (hs : Step S H H') (ho : ∀ z, O z → S z) : Own O H' D h := by
  obtain ⟨x, h1, h2, h3, h4, h5⟩ := k
  refine ⟨x, h1, hs.get h2 (ho _ h1), ?_, h4, fun z hz => Nat.lt_of_lt_of_le (h5 z hz) hs.le⟩
  rcases h3 with h3 | ⟨q, pre, k1, k2, k3, k4⟩
  · exact .inl h3
  · exact .inr ⟨q, pre, k1, k2, k3, hs.get k4 (ho _ k1)⟩
theorem Own.new {O : Nat → Prop} {H H' : Heap} {D : Nat} {h : List UInt8} (k : Own O H D h) (hs : Step (fun z => z < H.next) H H') : Own O H' D h := k.keep hs k.lt
structure OStep (O O' : Nat → Prop) (H H' : Heap) : Prop where
  step : Step (fun z => z < H.next ∧ ¬ O z) H H'
  own : ∀ z, O' z → z < H.next → O z
theorem OStep.other {O O' O2 : Nat → Prop} {H H' : Heap} {D : Nat} {h : List UInt8} (s : OStep O O' H H') (k : Own O2 H D h) (hd : ∀ z, O z → ¬ O2 z) : Own O2 H' D h ∧ ∀ z, O' z → ¬ O2 z :=
  ⟨k.keep s.step fun z hz => ⟨k.lt z hz, fun e => hd z e hz⟩, fun z h1 h2 => hd z (s.own z h1 (k.lt z h2)) h2⟩
theorem own_op {f : FuncId} {args : List AV} {H : Heap} {D : Nat} {O : Nat → Prop} {h' : List UInt8} {v : AV} (hc : SCallsP Tryz.prog f args H (fun r H' => r = v ∧ KeepS (fun z => z < H.next ∧ ¬ O z) H' D h' ∧ Step (fun z => z < H.next ∧ ¬ O z) H H')) : SCallsP Tryz.prog f args H (fun r H' => r = v ∧ ∃ O', Own O' H' D h' ∧ OStep O O' H H') :=
  hc.mono fun r H' _ ⟨h1, h2, h3⟩ => ⟨h1, _, .of h2, h3, fun z hz hl => Classical.byContradiction fun e => hz.2 ⟨hl, e⟩⟩
theorem own_new {f : FuncId} {args : List AV} {H : Heap} (hc : SCallsP Tryz.prog f args H (fun r H' => ∃ D, r = .ptr D 0 ∧ KeepS (fun z => z < H.next) H' D [] ∧ Step (fun z => z < H.next) H H')) : SCallsP Tryz.prog f args H (fun r H' => ∃ D O, r = .ptr D 0 ∧ Own O H' D [] ∧ (∀ z, O z → H.next ≤ z) ∧ Step (fun z => z < H.next) H H') :=
  hc.mono fun r H' _ ⟨D, h1, h2, h3⟩ => ⟨D, _, h1, .of h2, fun z hz => Nat.le_of_not_lt hz.2, h3⟩
section
variable {O : Nat → Prop} {H : Heap} {D : Nat} {h b : List UInt8}
theorem dNew_o (H : Heap) : SCallsP Tryz.prog 9 [] H (fun r H' => ∃ D O, r = .ptr D 0 ∧ Own O H' D [] ∧ (∀ z, O z → H.next ≤ z) ∧ Step (fun z => z < H.next) H H') := own_new (dNew_p H)
theorem fNew_o (H : Heap) : SCallsP Tryz.prog 14 [] H (fun r H' => ∃ D O, r = .ptr D 0 ∧ Own O H' D [] ∧ (∀ z, O z → H.next ≤ z) ∧ Step (fun z => z < H.next) H H') := own_new (fNew_p H)
theorem dAdd_o (hb : b.length ≤ 10000) (k : Own O H D h) : SCallsP Tryz.prog 12 [.ptr D 0, bA b] H (fun r H' => r = .tup [] ∧ ∃ O', Own O' H' D (lastW (h ++ b)) ∧ OStep O O' H H') := own_op (dAdd_p hb k.to)
theorem fAdd_o (hb : b.length ≤ 10000) (k : Own O H D h) : SCallsP Tryz.prog 15 [.ptr D 0, bA b] H (fun r H' => r = .tup [] ∧ ∃ O', Own O' H' D (lastW (h ++ b)) ∧ OStep O O' H H') := own_op (fAdd_p hb k.to)
theorem dReset_o (k : Own O H D h) : SCallsP Tryz.prog 13 [.ptr D 0] H (fun r H' => r = .tup [] ∧ ∃ O', Own O' H' D ([]) ∧ OStep O O' H H') := own_op (dReset_p k.to)
theorem dPacket_o (h0 : 0 < b.length) (hb : b.length ≤ 10000) (k : Own O H D h) : SCallsP Tryz.prog 10 [.ptr D 0, bA b] H (fun r H' => r = bA (packOf h b) ∧ ∃ O', Own O' H' D (lastW (h ++ b)) ∧ OStep O O' H H') := own_op (Packet_p h0 hb k.to)
theorem fPacket_o (hb : b.length ≤ 10000) {mo : Nat} (hm : b.length ≤ mo) (h7 : mo ≤ 1000000) (k : Own O H D h) : SCallsP Tryz.prog 16 [.ptr D 0, bA (packOf h b), .int mo] H (fun r H' => r = .tup [bA b, .int 0] ∧ ∃ O', Own O' H' D (lastW (h ++ b)) ∧ OStep O O' H H') := own_op (fPacket_p hb hm h7 k.to)
theorem dLen_o (k : Own O H D h) : SCalls Tryz.prog 11 [.ptr D 0] H (.int (h.length : Nat)) H := dLen_w k.to
theorem fLen_o (k : Own O H D h) : SCalls Tryz.prog 18 [.ptr D 0] H (.int (h.length : Nat)) H := fLen_w k.to
end
theorem dPacket_nil {O : Nat → Prop} {H : Heap} {D : Nat} {h : List UInt8} (k : Own O H D h) : SCalls Tryz.prog 10 [.ptr D 0, .nil] H .nil H := by
  obtain ⟨x, _, gD, _, _, _⟩ := k
  refine scalls_of_k (sz := 33) (Tryz.call10) Tryz.func10 rfl (Nat.le_refl _) (by kernel_rfl) (fun R hR => ?_)
  refine scode_seq_k (fun K1 hK1 => ?_)
  refine scode_region (by kernel_rfl) ?_
  simp [go_sem]
  refine hK1 _ _ ?_
  try clear hK1 K1
  refine scode_seq_k (fun K2 hK2 => ?_)
  refine scode_seq_k (fun K3 hK3 => ?_)
  refine scode_region (by kernel_rfl) ?_
  simp [go_sem, gD]
  refine hK3 _ _ ?_
  try clear hK3 K3
  refine scode_if (b := true) (by simp [go_sem]) (fun _ => ?_) (fun h => by cases h)
  refine scode_seq_k (fun K4 hK4 => ?_)
  refine scode_region (by kernel_rfl) ?_
  simp [go_sem]
  refine hK4 _ _ ?_
  try clear hK4 K4
  refine scode_ret ?_
  simp only [go_sem]
  refine hR _ _ ?_
  exact ret_plain (by simp [go_sem]) (Heap.le_refl _) (Nat.le_refl _) (by simp [go_sem])
end Go.Proofs.YtfokgjhdndnnhaaGreatDoor
end W54S
set_option maxRecDepth 20000
noncomputable section W55S
namespace Go.Proofs.YtfokgjhdndnnhaaGreatDoor
open Go Go.Fl Go.Proofs
def awL : List UInt8 := [97, 98, 99, 97, 98, 99, 97, 98, 99, 97, 98, 99]
theorem aw_A : bA awL = .vs 12 1 (bV awL) := rfl
theorem aw_step {H : Heap} {n : Nat} {l : List UInt8} (hn : n = H.next) : Step (fun z => z < n) H ((H.alloc (bV l)).del H.next) := step_del ((Step.refl _ _).alloc (bV_lt _ _)) (fun h => by omega)
set_option maxHeartbeats 1000000 in
theorem awake_s  : SCalls Tryz.prog 8 [] Heap.empty (.bool true) Heap.empty := by
  have hEq := aw_A
  refine scalls_of_k (sz := 29) (Tryz.call8) Tryz.func8 rfl (Nat.zero_le _) (by kernel_rfl) (fun R hR => ?_)
  refine scode_seq_k (fun K1 hK1 => ?_)
  refine scode_region (by kernel_rfl) ?_
  simp [go_sem]
  refine hK1 _ _ ?_
  try clear hK1 K1
  refine scode_seq_k (fun K2 hK2 => ?_)
  refine scode_regionP (by kernel_rfl) ?_
  refine p_take 1 (fun K3 hK3 => ?_)
  simp [go_sem]
  refine ⟨_, (dNew_o _), ?_⟩
  rintro _ H1 ⟨D, O1, rfl, k1, l1, s1⟩
  refine hK3 _ _ ?_
  clear hK3 K3
  simp [go_sem]
  refine hK2 _ _ ?_
  try clear hK2 K2
  refine scode_seq_k (fun K4 hK4 => ?_)
  refine scode_regionP (by kernel_rfl) ?_
  refine p_take 1 (fun K5 hK5 => ?_)
  simp [go_sem]
  refine ⟨_, (fNew_o H1), ?_⟩
  rintro _ H2 hn2 ⟨F, O2, rfl, k2, l2, s2⟩
  have d12 : ∀ z, O1 z → ¬ O2 z := fun z h1 h2 => by have := k1.lt z h1; have := l2 z h2; omega
  have k1 := k1.new s2
  refine hK5 _ _ ?_
  clear hK5 K5
  simp [go_sem]
  refine hK4 _ _ ?_
  try clear hK4 K4
  refine scode_seq_k (fun K6 hK6 => ?_)
  refine scode_seq_k (fun K7 hK7 => ?_)
  refine scode_region (by kernel_rfl) ?_
  simp [go_sem]
  refine hK7 _ _ ?_
  try clear hK7 K7
  refine scode_if (b := false) (by simp [go_sem]) (fun h => by cases h) (fun _ => ?_)
  refine scode_skip ?_
  refine hK6 _ _ ?_
  try clear hK6 K6
  refine scode_seq_k (fun K8 hK8 => ?_)
  refine scode_regionX (by kernel_rfl) ?_
  refine x_take 2 (fun K90 hK90 => ?_)
  simp [go_sem]
  refine hK90 _ _ ?_
  clear hK90 K90
  refine x_sem (.ms H2.next 0 12 1) (H2.alloc (bV awL)) rfl (opsem_aop (by kernel_rfl)) ?_
  refine x_sem (.vs 12 1 (bV awL)) ((H2.alloc (bV awL)).del H2.next) rfl (opsem_bytes tU25 tU5 (by simp [go_sem]) (by rw [Heap.get_alloc, if_pos rfl]) rfl (by decide)) ?_
  have s3 := aw_step (l := awL) (H := H2) rfl
  have k1 := k1.new s3
  have k2 := k2.new s3
  have cp := dPacket_o (b := awL) (by decide) (by decide) k1
  rw [aw_A] at cp
  refine x_take 1 (fun K94 hK94 => ?_)
  simp [go_sem]
  refine ⟨_, cp, ?_⟩
  rintro _ H4 hn4 ⟨rfl, O1b, k1, s4⟩
  obtain ⟨k2, d12⟩ := s4.other k2 d12
  have cq := fPacket_o (b := awL) (by decide) (mo := 99) (by decide) (by decide) k2
  rw [show ((99 : Nat) : Int) = 99 from rfl] at cq
  refine hK94 _ _ ?_
  clear hK94 K94
  refine x_take 1 (fun K95 hK95 => ?_)
  simp [go_sem]
  refine ⟨_, cq, ?_⟩
  rintro _ H5 hn5 ⟨rfl, O2b, k2, s5⟩
  refine hK95 _ _ ?_
  clear hK95 K95
  refine x_done ?_
  simp [go_sem]
  refine hK8 _ _ ?_
  try clear hK8 K8
  refine scode_seq_k (fun K9 hK9 => ?_)
  refine scode_region (by kernel_rfl) ?_
  simp [go_sem, aw_A, u8s_bV, strOf_bs, hEq]
  refine hK9 _ _ ?_
  try clear hK9 K9
  refine scode_ret ?_
  simp only [go_sem]
  refine hR _ _ ?_
  exact ret_plain (by simp [go_sem]; kernel_rfl) (empty_le _) (Nat.zero_le _) (by simp [go_sem])
end Go.Proofs.YtfokgjhdndnnhaaGreatDoor
end W55S
set_option maxRecDepth 20000
noncomputable section W56S
namespace Go.Proofs.YtfokgjhdndnnhaaGreatDoor
open Go Go.Fl Go.Proofs
theorem row_A {l : List UInt8} {n : Nat} (h : l.length = n) : bA l = .vs n 1 (bV l) := by unfold bA; rw [h]
def abL : List UInt8 := [97, 98, 99]
def xyL : List UInt8 := [120, 121]
theorem ab_len : (lastW ([] ++ abL)).length = 3 := by
  rw [lastW_len, List.length_append]
  have : abL.length = 3 := rfl
  rw [this]
  decide
set_option maxHeartbeats 1000000 in
theorem known_law  : SCalls Tryz.prog 4 [] Heap.empty (.bool true) Heap.empty := by
  refine scalls_of_k (sz := 42) (Tryz.call4) Tryz.func4 rfl (Nat.zero_le _) (by kernel_rfl) (fun R hR => ?_)
  refine scode_seq_k (fun K1 hK1 => ?_)
  refine scode_region (by kernel_rfl) ?_
  simp [go_sem]
  refine hK1 _ _ ?_
  try clear hK1 K1
  refine scode_seq_k (fun K2 hK2 => ?_)
  refine scode_seq_k (fun K3 hK3 => ?_)
  refine scode_region (by kernel_rfl) ?_
  refine w_take 1 (fun K4 hK4 => ?_)
  simp [go_sem]
  refine ⟨_, _, awake_s, ?_⟩
  refine hK4 _ _ ?_
  clear hK4 K4
  simp [go_sem]
  refine hK3 _ _ ?_
  try clear hK3 K3
  refine scode_if (b := false) (by simp [go_sem]) (fun h => by cases h) (fun _ => ?_)
  refine scode_skip ?_
  refine hK2 _ _ ?_
  try clear hK2 K2
  refine scode_seq_k (fun K5 hK5 => ?_)
  refine scode_regionP (by kernel_rfl) ?_
  refine p_take 1 (fun K6 hK6 => ?_)
  simp [go_sem]
  refine ⟨_, (dNew_o _), ?_⟩
  rintro _ H1 ⟨D, O1, rfl, k1, l1, s1⟩
  refine hK6 _ _ ?_
  clear hK6 K6
  simp [go_sem]
  refine hK5 _ _ ?_
  try clear hK5 K5
  refine scode_seq_k (fun K7 hK7 => ?_)
  refine scode_seq_k (fun K8 hK8 => ?_)
  refine scode_region (by kernel_rfl) ?_
  simp [go_sem]
  refine hK8 _ _ ?_
  try clear hK8 K8
  refine scode_if (b := false) (by simp [go_sem]) (fun h => by cases h) (fun _ => ?_)
  refine scode_skip ?_
  refine hK7 _ _ ?_
  try clear hK7 K7
  refine scode_seq_k (fun K9 hK9 => ?_)
  refine scode_region (by kernel_rfl) ?_
  refine w_take 2 (fun K10 hK10 => ?_)
  simp [go_sem]
  refine ⟨_, _, (dPacket_nil k1), ?_⟩
  refine hK10 _ _ ?_
  clear hK10 K10
  simp [go_sem]
  refine hK9 _ _ ?_
  try clear hK9 K9
  refine scode_seq_k (fun K11 hK11 => ?_)
  refine scode_regionX (by kernel_rfl) ?_
  refine x_take 1 (fun K90 hK90 => ?_)
  simp [go_sem]
  refine hK90 _ _ ?_
  clear hK90 K90
  refine x_sem (.ms H1.next 0 3 1) (H1.alloc (bV abL)) rfl (opsem_aop (by kernel_rfl)) ?_
  refine x_sem (.vs 3 1 (bV abL)) ((H1.alloc (bV abL)).del H1.next) rfl (opsem_bytes tU25 tU5 (by simp [go_sem]) (by rw [Heap.get_alloc, if_pos rfl]) rfl (by decide)) ?_
  have s3 := aw_step (l := abL) (H := H1) rfl
  have k1 := k1.new s3
  have cp := dPacket_o (b := abL) (by decide) (by decide) k1
  rw [row_A (l := abL) (n := 3) rfl] at cp
  refine x_take 1 (fun K94 hK94 => ?_)
  simp [go_sem]
  refine ⟨_, cp, ?_⟩
  rintro _ H4 hn4 ⟨rfl, O1b, k1, s4⟩
  have hl3 := ab_len
  generalize lastW ([] ++ abL) = h3 at *
  have cl := dLen_o k1
  rw [hl3, show ((3 : Nat) : Int) = 3 from rfl] at cl
  refine hK94 _ _ ?_
  clear hK94 K94
  refine x_done ?_
  simp [go_sem]
  refine hK11 _ _ ?_
  try clear hK11 K11
  refine scode_seq_k (fun K12 hK12 => ?_)
  refine scode_region (by kernel_rfl) ?_
  refine w_take 2 (fun K13 hK13 => ?_)
  simp [go_sem]
  refine ⟨_, _, cl, ?_⟩
  refine hK13 _ _ ?_
  clear hK13 K13
  simp [go_sem]
  refine hK12 _ _ ?_
  try clear hK12 K12
  refine scode_seq_k (fun K14 hK14 => ?_)
  refine scode_regionX (by kernel_rfl) ?_
  refine x_take 1 (fun K80 hK80 => ?_)
  simp [go_sem]
  refine hK80 _ _ ?_
  clear hK80 K80
  refine x_sem (.ms H4.next 0 2 1) (H4.alloc (bV xyL)) rfl (opsem_aop (by kernel_rfl)) ?_
  refine x_sem (.vs 2 1 (bV xyL)) ((H4.alloc (bV xyL)).del H4.next) rfl (opsem_bytes tU25 tU5 (by simp [go_sem]) (by rw [Heap.get_alloc, if_pos rfl]) rfl (by decide)) ?_
  have s5 := aw_step (l := xyL) (H := H4) rfl
  have k1 := k1.new s5
  have ca := dAdd_o (b := xyL) (by decide) k1
  rw [row_A (l := xyL) (n := 2) rfl] at ca
  refine x_take 1 (fun K84 hK84 => ?_)
  simp [go_sem]
  refine ⟨_, ca, ?_⟩
  rintro _ H6 hn6 ⟨rfl, O1c, k1, s6⟩
  have cl2 := dLen_o k1
  rw [show (lastW (h3 ++ xyL)).length = 5 by rw [lastW_len, List.length_append, hl3, show xyL.length = 2 from rfl]; omega, show ((5 : Nat) : Int) = 5 from rfl] at cl2
  refine hK84 _ _ ?_
  clear hK84 K84
  refine x_done ?_
  simp [go_sem]
  refine hK14 _ _ ?_
  try clear hK14 K14
  refine scode_seq_k (fun K15 hK15 => ?_)
  refine scode_region (by kernel_rfl) ?_
  refine w_take 2 (fun K16 hK16 => ?_)
  simp [go_sem]
  refine ⟨_, _, cl2, ?_⟩
  refine hK16 _ _ ?_
  clear hK16 K16
  simp [go_sem]
  refine hK15 _ _ ?_
  try clear hK15 K15
  refine scode_seq_k (fun K17 hK17 => ?_)
  refine scode_regionP (by kernel_rfl) ?_
  simp [go_sem]
  refine ⟨_, (dReset_o k1), ?_⟩
  rintro _ H7 hn7 ⟨rfl, O1d, k1, s7⟩
  have cl3 := dLen_o k1
  refine hK17 _ _ ?_
  try clear hK17 K17
  refine scode_seq_k (fun K19 hK19 => ?_)
  refine scode_region (by kernel_rfl) ?_
  refine w_take 14 (fun K20 hK20 => ?_)
  simp [go_sem]
  refine ⟨_, _, cl3, ?_⟩
  refine hK20 _ _ ?_
  clear hK20 K20
  simp [go_sem]
  refine hK19 _ _ ?_
  try clear hK19 K19
  refine scode_ret ?_
  simp only [go_sem]
  refine hR _ _ ?_
  exact ret_plain (by simp [go_sem]) (empty_le _) (Nat.zero_le _) (by simp [go_sem])
end Go.Proofs.YtfokgjhdndnnhaaGreatDoor
end W56S
set_option maxRecDepth 20000
noncomputable section W57S
namespace Go.Proofs.YtfokgjhdndnnhaaGreatDoor
open Go Go.Fl Go.Proofs
theorem pack_le (h b : List UInt8) : (packOf h b).length ≤ b.length + 6 := by
  have := best_le h b
  unfold packOf
  rw [pack_len, List.length_append, natBits_len]
  unfold bytesOf
  omega
set_option maxHeartbeats 2000000 in
theorem again_law (a b : List UInt8) : SCalls Tryz.prog 5 [bA a, bA b] Heap.empty (.bool true) Heap.empty := by
  obtain ⟨la, hla⟩ : ∃ z, a.length = z := ⟨_, rfl⟩
  obtain ⟨lb, hlb⟩ : ∃ z, b.length = z := ⟨_, rfl⟩
  have rA := row_A hla
  have rB := row_A hlb
  rw [rA, rB]
  have hc : (la ≤ 1000 ∧ lb ≤ 1000 ∧ 0 < lb) ∨ (1000 < la) ∨ (la ≤ 1000 ∧ 1000 < lb) ∨ (la ≤ 1000 ∧ lb = 0) := by omega
  refine scalls_of_k (sz := 80) (Tryz.call5) Tryz.func5 rfl (Nat.zero_le _) (by kernel_rfl) (fun R hR => ?_)
  refine scode_seq_k (fun K1 hK1 => ?_)
  refine scode_region (by kernel_rfl) ?_
  simp [go_sem]
  refine hK1 _ _ ?_
  try clear hK1 K1
  refine scode_seq_k (fun K2 hK2 => ?_)
  refine scode_seq_k (fun K3 hK3 => ?_)
  refine scode_region (by kernel_rfl) ?_
  refine w_take 1 (fun K4 hK4 => ?_)
  simp [go_sem]
  refine ⟨_, _, awake_s, ?_⟩
  refine hK4 _ _ ?_
  clear hK4 K4
  simp [go_sem]
  refine hK3 _ _ ?_
  try clear hK3 K3
  refine scode_if (b := false) (by simp [go_sem]) (fun h => by cases h) (fun _ => ?_)
  refine scode_skip ?_
  refine hK2 _ _ ?_
  try clear hK2 K2
  refine scode_seq_k (fun K5 hK5 => ?_)
  refine scode_seq_k (fun K6 hK6 => ?_)
  rcases hc with ⟨q1, q2, q3⟩ | q1 | ⟨q1, q2⟩ | ⟨q1, q2⟩
  · skip
    have f1 : ¬ ((1000 : Int) < la) := by omega
    have f2 : ¬ ((1000 : Int) < lb) := by omega
    have f3 : ((lb : Int) == 0) = false := by simp; omega
    refine scode_region (by kernel_rfl) ?_
    simp [go_sem, f1, f2, f3]
    refine hK6 _ _ ?_
    try clear hK6 K6
    refine scode_if (b := false) (by simp [go_sem]) (fun h => by cases h) (fun _ => ?_)
    refine scode_skip ?_
    refine hK5 _ _ ?_
    try clear hK5 K5
    refine scode_seq_k (fun K7 hK7 => ?_)
    refine scode_regionP (by kernel_rfl) ?_
    refine p_take 1 (fun K8 hK8 => ?_)
    simp [go_sem]
    refine ⟨_, (dNew_o _), ?_⟩
    rintro _ H1 ⟨D, O1, rfl, k1, l1, s1⟩
    refine hK8 _ _ ?_
    clear hK8 K8
    refine p_take 1 (fun K9 hK9 => ?_)
    simp [go_sem]
    refine ⟨_, (dNew_o H1), ?_⟩
    rintro _ H2 hn2 ⟨E, O2, rfl, k2, l2, s2⟩
    have d12 : ∀ z, O1 z → ¬ O2 z := fun z h1 h2 => by have := k1.lt z h1; have := l2 z h2; omega
    have k1 := k1.new s2
    refine hK9 _ _ ?_
    clear hK9 K9
    simp [go_sem]
    refine hK7 _ _ ?_
    try clear hK7 K7
    refine scode_seq_k (fun K10 hK10 => ?_)
    refine scode_regionP (by kernel_rfl) ?_
    refine p_take 1 (fun K11 hK11 => ?_)
    simp [go_sem]
    refine ⟨_, (fNew_o H2), ?_⟩
    rintro _ H3 hn3 ⟨F, O3, rfl, k3, l3, s3⟩
    have d13 : ∀ z, O1 z → ¬ O3 z := fun z h1 h2 => by have := k1.lt z h1; have := l3 z h2; omega
    have d23 : ∀ z, O2 z → ¬ O3 z := fun z h1 h2 => by have := k2.lt z h1; have := l3 z h2; omega
    have k1 := k1.new s3
    have k2 := k2.new s3
    have c1 := dAdd_o (b := a) (by omega) k1
    rw [rA] at c1
    refine hK11 _ _ ?_
    clear hK11 K11
    simp [go_sem]
    refine hK10 _ _ ?_
    try clear hK10 K10
    refine scode_seq_k (fun K12 hK12 => ?_)
    refine scode_seq_k (fun K13 hK13 => ?_)
    refine scode_region (by kernel_rfl) ?_
    simp [go_sem]
    refine hK13 _ _ ?_
    try clear hK13 K13
    refine scode_if (b := false) (by simp [go_sem]) (fun h => by cases h) (fun _ => ?_)
    refine scode_skip ?_
    refine hK12 _ _ ?_
    try clear hK12 K12
    refine scode_seq_k (fun K14 hK14 => ?_)
    refine scode_regionP (by kernel_rfl) ?_
    simp [go_sem]
    refine ⟨_, c1, ?_⟩
    rintro _ H4 hn4 ⟨rfl, O1a, k1, s4⟩
    obtain ⟨k2, d12⟩ := s4.other k2 d12
    obtain ⟨k3, d13⟩ := s4.other k3 d13
    have c2 := dAdd_o (b := a) (by omega) k2
    rw [rA] at c2
    refine hK14 _ _ ?_
    try clear hK14 K14
    refine scode_seq_k (fun K16 hK16 => ?_)
    refine scode_regionP (by kernel_rfl) ?_
    simp [go_sem]
    refine ⟨_, c2, ?_⟩
    rintro _ H5 hn5 ⟨rfl, O2a, k2, s5⟩
    obtain ⟨k1, d21⟩ := s5.other k1 (fun z h1 h2 => d12 z h2 h1)
    obtain ⟨k3, d23⟩ := s5.other k3 d23
    have c3 := fAdd_o (b := a) (by omega) k3
    rw [rA] at c3
    refine hK16 _ _ ?_
    try clear hK16 K16
    refine scode_seq_k (fun K18 hK18 => ?_)
    refine scode_regionP (by kernel_rfl) ?_
    simp [go_sem]
    refine ⟨_, c3, ?_⟩
    rintro _ H6 hn6 ⟨rfl, O3a, k3, s6⟩
    obtain ⟨k1, d31⟩ := s6.other k1 (fun z h1 h2 => d13 z h2 h1)
    obtain ⟨k2, d32⟩ := s6.other k2 (fun z h1 h2 => d23 z h2 h1)
    generalize lastW ([] ++ a) = hA at *
    have c4 := dPacket_o (b := b) (by omega) (by omega) k1
    rw [rB] at c4
    have hpl := pack_le hA b
    refine hK18 _ _ ?_
    try clear hK18 K18
    refine scode_seq_k (fun K20 hK20 => ?_)
    refine scode_regionP (by kernel_rfl) ?_
    refine p_take 3 (fun K21 hK21 => ?_)
    simp [go_sem]
    refine ⟨_, c4, ?_⟩
    rintro _ H7 hn7 ⟨rfl, O1b, k1, s7⟩
    obtain ⟨k2, d12⟩ := s7.other k2 (fun z h1 h2 => d21 z h2 h1)
    obtain ⟨k3, d13⟩ := s7.other k3 (fun z h1 h2 => d31 z h2 h1)
    have c5 := dPacket_o (b := b) (by omega) (by omega) k2
    rw [rB] at c5
    refine hK21 _ _ ?_
    clear hK21 K21
    refine p_take 3 (fun K22 hK22 => ?_)
    simp [go_sem]
    refine ⟨_, c5, ?_⟩
    rintro _ H8 hn8 ⟨rfl, O2b, k2, s8⟩
    obtain ⟨k1, d21⟩ := s8.other k1 (fun z h1 h2 => d12 z h2 h1)
    obtain ⟨k3, d23⟩ := s8.other k3 (fun z h1 h2 => d32 z h2 h1)
    have c6 := fPacket_o (b := b) (by omega) (mo := 1000) (by omega) (by omega) k3
    rw [rB, show ((1000 : Nat) : Int) = 1000 from rfl] at c6
    refine hK22 _ _ ?_
    clear hK22 K22
    simp [go_sem]
    refine hK20 _ _ ?_
    try clear hK20 K20
    refine scode_seq_k (fun K23 hK23 => ?_)
    refine scode_regionP (by kernel_rfl) ?_
    refine p_take 3 (fun K24 hK24 => ?_)
    simp [go_sem]
    refine ⟨_, c6, ?_⟩
    rintro _ H9 hn9 ⟨rfl, O3b, k3, s9⟩
    obtain ⟨k1, d31⟩ := s9.other k1 (fun z h1 h2 => d13 z h2 h1)
    have e1 := Same_H (packOf hA b) (by omega) H9
    have e2 := Same_H b (by omega) H9
    rw [rB] at e2
    have e3 := dLen_o k1
    have e4 := fLen_o k3
    refine hK24 _ _ ?_
    clear hK24 K24
    simp [go_sem]
    refine hK23 _ _ ?_
    try clear hK23 K23
    refine scode_seq_k (fun K25 hK25 => ?_)
    refine scode_region (by kernel_rfl) ?_
    refine w_take 6 (fun K26 hK26 => ?_)
    simp [go_sem]
    refine ⟨_, _, e1, ?_⟩
    refine hK26 _ _ ?_
    clear hK26 K26
    refine w_take 5 (fun K27 hK27 => ?_)
    simp [go_sem]
    refine ⟨_, _, e2, ?_⟩
    refine hK27 _ _ ?_
    clear hK27 K27
    refine w_take 4 (fun K28 hK28 => ?_)
    simp [go_sem]
    refine ⟨_, _, e3, ?_⟩
    refine hK28 _ _ ?_
    clear hK28 K28
    refine w_take 2 (fun K29 hK29 => ?_)
    simp [go_sem]
    refine ⟨_, _, e4, ?_⟩
    refine hK29 _ _ ?_
    clear hK29 K29
    simp [go_sem]
    refine hK25 _ _ ?_
    try clear hK25 K25
    refine scode_ret ?_
    simp only [go_sem]
    refine hR _ _ ?_
    exact ret_plain (by simp [go_sem]) (empty_le _) (Nat.zero_le _) (by simp [go_sem])
  · skip
    have f1 : (1000 : Int) < la := by omega
    refine scode_region (by kernel_rfl) ?_
    simp [go_sem, f1]
    refine hK6 _ _ ?_
    try clear hK6 K6
    refine scode_if (b := true) (by simp [go_sem]) (fun _ => ?_) (fun h => by cases h)
    refine scode_seq_k (fun K30 hK30 => ?_)
    refine scode_region (by kernel_rfl) ?_
    simp [go_sem]
    refine hK30 _ _ ?_
    try clear hK30 K30
    refine scode_ret ?_
    simp only [go_sem]
    refine hR _ _ ?_
    exact ret_plain (by simp [go_sem]) (empty_le _) (Nat.zero_le _) (by simp [go_sem])
  · skip
    have f1 : ¬ ((1000 : Int) < la) := by omega
    have f2 : (1000 : Int) < lb := by omega
    refine scode_region (by kernel_rfl) ?_
    simp [go_sem, f1, f2]
    refine hK6 _ _ ?_
    try clear hK6 K6
    refine scode_if (b := true) (by simp [go_sem]) (fun _ => ?_) (fun h => by cases h)
    refine scode_seq_k (fun K31 hK31 => ?_)
    refine scode_region (by kernel_rfl) ?_
    simp [go_sem]
    refine hK31 _ _ ?_
    try clear hK31 K31
    refine scode_ret ?_
    simp only [go_sem]
    refine hR _ _ ?_
    exact ret_plain (by simp [go_sem]) (empty_le _) (Nat.zero_le _) (by simp [go_sem])
  · skip
    have f1 : ¬ ((1000 : Int) < la) := by omega
    subst q2
    refine scode_region (by kernel_rfl) ?_
    simp [go_sem, f1]
    refine hK6 _ _ ?_
    try clear hK6 K6
    refine scode_if (b := true) (by simp [go_sem]) (fun _ => ?_) (fun h => by cases h)
    refine scode_seq_k (fun K32 hK32 => ?_)
    refine scode_region (by kernel_rfl) ?_
    simp [go_sem]
    refine hK32 _ _ ?_
    try clear hK32 K32
    refine scode_ret ?_
    simp only [go_sem]
    refine hR _ _ ?_
    exact ret_plain (by simp [go_sem]) (empty_le _) (Nat.zero_le _) (by simp [go_sem])
end Go.Proofs.YtfokgjhdndnnhaaGreatDoor
end W57S
set_option maxRecDepth 20000
noncomputable section W58S
namespace Go.Proofs.YtfokgjhdndnnhaaGreatDoor
open Go Go.Fl Go.Proofs
theorem gB_rep (c : UInt8) {n i : Nat} (h : i < n) : gB (List.replicate n c) i = c := by
  unfold gB
  rw [List.getD_eq_getElem?_getD, List.getElem?_replicate, if_pos h]
  rfl
theorem same_rep (c : UInt8) : ∀ d n, n + d = 199 → sameGo (List.replicate 200 c) 0 1 (59 + d) n = 199
  | 0, n, h => by
    obtain rfl : n = 199 := by omega
    exact sameGo_miss (by rw [List.length_replicate]; omega)
  | d + 1, n, h => by
    rw [show 59 + (d + 1) = (59 + d) + 1 by omega, sameGo_hit ⟨by rw [List.length_replicate]; omega, by omega, by rw [gB_rep c (by omega), gB_rep c (by omega)]⟩]
    exact same_rep c d (n + 1) (by omega)
theorem hash_rep (c : UInt8) {i j : Nat} (hi : i + 2 < 200) (hj : j + 2 < 200) : hashAt (List.replicate 200 c) i = hashAt (List.replicate 200 c) j := by
  unfold hashAt
  rw [gB_rep c (by omega), gB_rep c (by omega), gB_rep c (by omega), gB_rep c (by omega), gB_rep c (by omega), gB_rep c (by omega)]
theorem tokens_rep (c : UInt8) : tokensL [] (List.replicate 200 c) = [⟨c, 1, 0⟩, ⟨0, 199, 1⟩] := by
  obtain ⟨l, hl⟩ : ∃ z, List.replicate 200 c = z := ⟨_, rfl⟩
  have hn : l.length = 200 := by rw [← hl, List.length_replicate]
  have h0 : gB l 0 = c := by rw [← hl]; exact gB_rep c (by omega)
  have hh : hashAt l 1 = hashAt l 0 := by rw [← hl]; exact hash_rep c (by omega) (by omega)
  have hs : sameN l 0 1 = 199 := by rw [← hl]; exact same_rep c 199 0 rfl
  rw [hl]
  unfold tokensL
  rw [List.nil_append, hn, List.length_nil]
  have t1 : tokAt l 0 (fun _ => 0) = ⟨c, 1, 0⟩ := by rw [tokAt_lit (by omega), h0]
  have n1 : noteR l 0 1 (fun _ => 0) = noteS l 0 (fun _ => 0) := by rw [noteR_succ]; rfl
  have n2 : noteS l 0 (fun _ => 0) (hashAt l 1) = 0 + 1 := by
    unfold noteS
    rw [if_pos (by omega)]
    show (if hashAt l 1 = hashAt l 0 then 0 + 1 else 0) = _
    rw [if_pos hh]
  have t2 : tokAt l 1 (noteS l 0 (fun _ => 0)) = ⟨0, 199, 1⟩ := tokAt_copy (p := 0) (by omega) n2 (by omega) hs (by omega)
  show tokGo l (199 + 1) 0 (fun _ => 0) = _
  rw [tokGo_step (by omega), t1, n1]
  show _ :: tokGo l (198 + 1) 1 _ = _
  rw [tokGo_step (by omega), t2]
  rw [tokGo_done (by show ¬ 1 + 199 < _; omega)]
theorem short_len (c : UInt8) : (packOf [] (List.replicate 200 c)).length ≤ 60 ∧ 0 < (packOf [] (List.replicate 200 c)).length := by
  have h := (wayB_len (List.replicate 200 c) (tokensL [] (List.replicate 200 c))).2
  have hb : bestBits [] (List.replicate 200 c) = wayB (List.replicate 200 c) (tokensL [] (List.replicate 200 c)) := rfl
  rw [← hb, tokens_rep] at h
  have hf : (fixedBits [⟨c, 1, 0⟩, ⟨0, 199, 1⟩]).length ≤ 100 := by
    have a1 := fixS_le c.toNat
    have a2 := fixS_le 256
    have a3 := fixS_le (lenPart 199).sym
    have a4 := fixD_le (distPart 1).sym
    have b1 : (lenPart 199).bits ≤ 5 := by decide
    have b2 : (distPart 1).bits ≤ 5 := by decide
    unfold fixedBits toksBits
    simp only [List.flatMap_cons, List.flatMap_nil, List.append_nil]
    unfold tokBits
    rw [if_pos rfl, if_neg (by decide)]
    simp only [List.length_append, natBits_len, symBits_len]
    omega
  unfold packOf
  rw [pack_len, List.length_append, natBits_len]
  unfold bytesOf
  omega
theorem grn_pushB {S : Nat → Prop} {H : Heap} {x : AV} {n : Nat} {c : UInt8} {l : List UInt8} (h : GrN S H x 1 n (bV l)) (hSn : ∀ z, S z → z < H.next) (hl : n ≤ 1000000) : ∃ H1, aappend Tryz.prog (H.alloc [.sc (.int .u8 c.toNat)]) 25 25 x (.ms H.next 0 1 1) = some (.ms (H.next + 1) 0 (n + 1) 1, H1) ∧ GrN S H1 (.ms (H.next + 1) 0 (n + 1) 1) 1 (n + 1) (bV (l ++ [c])) ∧ Step S H H1 := by
  obtain ⟨bo, hg, hbo, _, _⟩ := h.grown
  obtain ⟨ha, hg2⟩ := appB (c.toNat : Int) hg (by omega)
  refine ⟨_, ha, ?_, GrN.step hg hbo (fun y hy => bV_lt l _ y hy) (by simp [go_sem])⟩
  rw [bV_app]
  exact GrN.one hg2 hSn
set_option maxHeartbeats 1000000 in
theorem short_law (c : UInt8) : SCalls Tryz.prog 3 [.sc (.int .u8 c.toNat)] Heap.empty (.bool true) Heap.empty := by
  have hsl := short_len c
  have hB : (List.replicate 200 c).length = 200 := List.length_replicate
  refine scalls_of_k (sz := 31) (Tryz.call3) Tryz.func3 rfl (Nat.zero_le _) (by kernel_rfl) (fun R hR => ?_)
  refine scode_seq_k (fun K1 hK1 => ?_)
  refine scode_region (by kernel_rfl) ?_
  simp [go_sem]
  refine hK1 _ _ ?_
  try clear hK1 K1
  refine scode_seq_k (fun K2 hK2 => ?_)
  refine scode_seq_k (fun K3 hK3 => ?_)
  refine scode_region (by kernel_rfl) ?_
  refine w_take 1 (fun K4 hK4 => ?_)
  simp [go_sem]
  refine ⟨_, _, awake_s, ?_⟩
  refine hK4 _ _ ?_
  clear hK4 K4
  simp [go_sem]
  refine hK3 _ _ ?_
  try clear hK3 K3
  refine scode_if (b := false) (by simp [go_sem]) (fun h => by cases h) (fun _ => ?_)
  refine scode_skip ?_
  refine hK2 _ _ ?_
  try clear hK2 K2
  refine scode_seq_k (fun K5 hK5 => ?_)
  refine scode_regionP (by kernel_rfl) ?_
  refine p_take 1 (fun K6 hK6 => ?_)
  simp [go_sem]
  refine ⟨_, (dNew_o _), ?_⟩
  rintro _ H1 ⟨D, O1, rfl, k1, l1, s1⟩
  refine hK6 _ _ ?_
  clear hK6 K6
  simp [go_sem]
  refine hK5 _ _ ?_
  try clear hK5 K5
  refine scode_seq_k (fun K7 hK7 => ?_)
  refine scode_seq_k (fun K8 hK8 => ?_)
  refine scode_region (by kernel_rfl) ?_
  simp [go_sem]
  refine hK8 _ _ ?_
  try clear hK8 K8
  refine scode_if (b := false) (by simp [go_sem]) (fun h => by cases h) (fun _ => ?_)
  refine scode_skip ?_
  refine hK7 _ _ ?_
  try clear hK7 K7
  refine scode_seq_k (fun K9 hK9 => ?_)
  refine scode_region (by kernel_rfl) ?_
  simp [go_sem]
  refine hK9 _ _ ?_
  try clear hK9 K9
  refine scode_seq_k (fun K10 hK10 => ?_)
  refine scode_seq_k (fun K11 hK11 => ?_)
  refine scode_region (by kernel_rfl) ?_
  simp [go_sem]
  refine hK11 _ _ ?_
  try clear hK11 K11
  refine scode_block ?_
  refine scode_loop (Inv := fun n0 env H2 => ∃ (i : Nat) (x : AV), n0 = 200 - i ∧ i ≤ 200 ∧ env 0 = .sc (.int .u8 c.toNat) ∧ env 3 = .ptr D 0 ∧ env 4 = x ∧ env 5 = .int i ∧ GrN (fun z => z < H1.next) H2 x 1 i (bV (List.replicate i c)) ∧ Step (fun z => z < H1.next) H1 H2) ?_ (n := 200) (⟨0, .nil, rfl, by omega, by simp [go_sem], by simp [go_sem], by simp [go_sem], by simp [go_sem], GrN.nil _ _ _, Step.refl _ _⟩)
  rintro n0 env H2 ⟨i, x, rfl, hi, e0, e3, e4, e5, hX, hS⟩
  refine scode_seq_k (fun K12 hK12 => ?_)
  refine scode_seq_k (fun K13 hK13 => ?_)
  refine scode_region (by kernel_rfl) ?_
  simp [go_sem, e5]
  refine hK13 _ _ ?_
  try clear hK13 K13
  refine scode_if (b := decide ((i : Int) < 200)) (by simp [go_sem]) (fun hb9 => ?_) (fun hb9 => ?_)
  · skip
    simp only [decide_eq_true_eq] at hb9
    have hb9 : i < 200 := by omega
    have hw := i64_succ i (by omega)
    obtain ⟨H3, hap, hX3, hS3⟩ := grn_pushB (c := c) hX (fun z hz => Nat.lt_of_lt_of_le hz hS.le) (by omega)
    have hrp : List.replicate i c ++ [c] = List.replicate (i + 1) c := by rw [List.replicate_succ']
    rw [hrp] at hX3
    refine scode_skip ?_
    refine hK12 _ _ ?_
    try clear hK12 K12
    refine scode_seq_k (fun K14 hK14 => ?_)
    refine scode_block ?_
    refine scode_region (by kernel_rfl) ?_
    simp [go_sem, e0, e4, hap]
    refine hK14 _ _ ?_
    try clear hK14 K14
    refine scode_hide (fun K15 hK15 => ?_)
    refine scode_region (by kernel_rfl) ?_
    simp [go_sem, e5, hw]
    refine hK15 _ _ ?_
    exact ⟨200 - (i + 1), by omega, i + 1, _, rfl, by omega, by simp [go_sem, e0], by simp [go_sem, e3], by simp [go_sem], by simp [go_sem], hX3, hS.trans (hS3.mono fun z hz => hz)⟩
  · skip
    simp only [decide_eq_false_iff_not] at hb9
    obtain rfl : i = 200 := by omega
    obtain ⟨bo, hgr, hbo, _⟩ := hX.grown
    refine scode_freeze_grown 4 e4 hgr ?_
    have s3 : Step (fun z => z < H1.next) H1 (H2.delo bo) := hS.del hbo
    have k1 := k1.new s3
    have rB := row_A (l := List.replicate 200 c) (n := 200) List.length_replicate
    rw [← rB]
    generalize List.replicate 200 c = b at *
    have hb200 : b.length = 200 := hB
    have cp := dPacket_o (b := b) (by omega) (by omega) k1
    refine scode_exit ?_
    refine hK10 _ _ ?_
    try clear hK10 K10
    refine scode_seq_k (fun K16 hK16 => ?_)
    refine scode_regionP (by kernel_rfl) ?_
    refine p_take 3 (fun K17 hK17 => ?_)
    simp [go_sem, e3]
    refine ⟨_, cp, ?_⟩
    rintro _ H4 hn4 ⟨rfl, O1b, k1, s4⟩
    have rP := row_A (l := packOf [] b) rfl
    generalize (packOf [] b).length = pn at *
    have p1 : (pn : Int) ≤ 60 := by omega
    have p2 : (0 : Int) < pn := by omega
    have p3 : 0 < pn := by omega
    have p4 : pn ≤ 60 := by omega
    refine hK17 _ _ ?_
    clear hK17 K17
    simp [go_sem, e3]
    refine hK16 _ _ ?_
    try clear hK16 K16
    refine scode_seq_k (fun K18 hK18 => ?_)
    refine scode_region (by kernel_rfl) ?_
    simp [go_sem, rP, p1, p2, p3, p4]
    refine hK18 _ _ ?_
    try clear hK18 K18
    refine scode_ret ?_
    simp only [go_sem]
    refine hR _ _ ?_
    exact ret_plain (by simp [go_sem]) (empty_le _) (Nat.zero_le _) (by simp [go_sem])
end Go.Proofs.YtfokgjhdndnnhaaGreatDoor
end W58S
