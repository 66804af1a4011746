/- The configuration by small numbers. -/
import Derived.Test.YtinbldahpifinaaGreatDoorL40
set_option maxRecDepth 20000
noncomputable section
namespace Go.Proofs.YtinbldahpifinaaGreatDoor
open Go Go.Fl Go.Proofs

structure Cf where
  server : Bool
  mru : Int
  pfc : Bool
  acfc : Bool
  accm : Int
  mrru : Int
  short : Bool
  bits : Int
  stl : Bool
  mppc : Bool
  defl : Bool
  must : Bool
  tries : Int
  frag : Int

def nameS : ByteArray := ⟨#[110]⟩
def secretS : ByteArray := ⟨#[115, 101, 99, 114, 101, 116]⟩

def Cf.cells (c : Cf) : List AV := [.sc (.bool c.server), .sc (.string nameS), .sc (.string secretS), .sc (.int .i64 c.mru), .sc (.bool c.pfc), .sc (.bool c.acfc), .sc (.int .u32 c.accm), .sc (.int .i64 c.mrru), .sc (.bool c.short), .sc (.int .i64 c.bits), .sc (.bool c.stl), .sc (.bool c.mppc), .sc (.bool c.defl), .sc (.bool c.must), .sc (.bool false), .sc (.int .i64 2), .sc (.int .i64 c.tries), .sc (.int .i64 c.frag)]

def bitsOk (n : Int) : Prop := n = 0 ∨ n = 40 ∨ n = 56 ∨ n = 128

def pick (q : Bool) (x y : Int) : Int := if q = true then x else y
@[simp] theorem pick_t (x y : Int) : pick true x y = x := rfl
@[simp] theorem pick_f (x y : Int) : pick false x y = y := rfl

def St (m : Int) (c : Cf) (env : Env) (H : Heap) : Prop := env 0 = .int m ∧ env 4 = .ptr 0 0 ∧ env 5 = .ptr 1 0 ∧ (∃ z, H.get 0 = some z ∧ z.length = 18) ∧ H.get 1 = some c.cells

theorem St.put {m : Int} {c c' : Cf} {env env' : Env} {H : Heap} {cs : List AV} (h : St m c env H) (h0 : env' 0 = env 0) (h4 : env' 4 = env 4) (h5 : env' 5 = env 5) (hc : cs = c'.cells) : St m c' env' (H.set 1 cs) := by
  obtain ⟨e0, e4, e5, ⟨z, g0, hz⟩, g1⟩ := h
  subst hc
  refine ⟨by rw [h0, e0], by rw [h4, e4], by rw [h5, e5], ⟨z, ?_, hz⟩, ?_⟩
  · rw [Heap.get_set]; simp [g0]
  · rw [Heap.get_set]; simp [g1]
theorem St.keep {m : Int} {c : Cf} {env env' : Env} {H : Heap} (h : St m c env H) (h0 : env' 0 = env 0) (h4 : env' 4 = env 4) (h5 : env' 5 = env 5) : St m c env' H := by
  obtain ⟨e0, e4, e5, hz, g1⟩ := h
  exact ⟨by rw [h0, e0], by rw [h4, e4], by rw [h5, e5], hz, g1⟩

set_option maxHeartbeats 4000000 in
theorem made39_aux (n m fr k bits : Int) (q1 q2 q4 q8 q16 q32 q64 q128 qs qm qb : Bool) (hm : Go.bits .and .i64 n 268435455 = m) (h1 : (Go.bits .and .i64 m 1 == 1) = q1) (h2 : (Go.bits .and .i64 m 2 != 0) = q2) (h4 : (Go.bits .and .i64 m 4 != 0) = q4)
    (h8 : (Go.bits .and .i64 m 8 != 0) = q8) (h16 : (Go.bits .and .i64 m 16 != 0) = q16) (h32 : (Go.bits .and .i64 m 32 != 0) = q32) (h64 : (Go.bits .and .i64 m 64 != 0) = q64) (h128 : (Go.bits .and .i64 m 128 != 0) = q128)
    (hfr : IntKind.i64.wrap (16 + Go.bits .and .i64 (m / 1048576) 63) = fr) (hk : Go.bits .and .i64 (m / 256) 3 = k) (hs : (Go.bits .and .i64 (m / 1024) 1 == 1) = qs) (hmu : (Go.bits .and .i64 (m / 2048) 1 == 1) = qm)
    (hb : bits = if k = 1 then 40 else if k = 2 then 56 else if k = 3 then 128 else 0) (hqb : decide (0 < bits) = qb) :
    SCalls Tryz.prog 5 [.int n, .int 3] Heap.empty (.agg (Cf.cells ⟨q1, pick q8 500 1500, q2, q4, pick q16 0 4294967295, pick q32 1500 0, q32 && q64, bits, qb && qs, false, false, qb && qm, 4, pick (q32 && q128) fr 0⟩)) Heap.empty := by
  have h33 : IntKind.i64.wrap (1 + Go.bits .and .i64 3 3) = 4 := by decide
  refine scalls_of_k (sz := 71) (Tryz.call5) Tryz.func5 rfl (Nat.le_refl _) (by kernel_rfl) (fun R hR => ?_)
  refine scode_seq_k (fun K1 hK1 => ?_)
  refine scode_region (by kernel_rfl) ?_
  simp [go_sem]
  refine hK1 _ _ ?_
  clear hK1 K1
  refine scode_seq_k (fun K1 hK1 => ?_)
  refine scode_region (by kernel_rfl) ?_
  simp [go_sem, hm]
  refine hK1 _ _ ?_
  clear hK1 K1
  refine scode_seq_k (fun K1 hK1 => ?_)
  refine scode_region (by kernel_rfl) ?_
  simp [go_sem, h1, h2, h4, h33]
  refine hK1 _ _ ?_
  clear hK1 K1
  refine scode_gen (St m ⟨q1, 1500, q2, q4, 4294967295, 0, false, 0, false, false, false, false, 4, 0⟩) ?_ ?_
  · refine ⟨by simp [go_sem], by simp [go_sem], by simp [go_sem], ⟨_, by simp [go_sem]; rfl, rfl⟩, ?_⟩
    simp [go_sem, Cf.cells, nameS, secretS]
  intro env H h
  refine scode_seq_mid (St m ⟨q1, pick q8 500 1500, q2, q4, 4294967295, 0, false, 0, false, false, false, false, 4, 0⟩) ?_ ?_
  · have ⟨e0, e4, e5, ⟨z, g0, hz⟩, g1⟩ := h
    refine scode_seq_k (fun K2 hK2 => ?_)
    refine scode_region (by kernel_rfl) ?_
    simp [go_sem, e0, h8]
    refine hK2 _ _ ?_
    refine scode_if (b := q8) (by simp [go_sem]) (fun hq => ?_) (fun hq => ?_)
    · refine scode_region (by kernel_rfl) ?_
      simp [go_sem, e5, g1, Cf.cells]
      exact h.put (by simp [go_sem]) (by simp [go_sem]) (by simp [go_sem]) (by simp [hq, Cf.cells])
    · refine scode_skip ?_
      subst hq
      exact h.keep (by simp [go_sem]) (by simp [go_sem]) (by simp [go_sem])
  clear h env H
  intro env H h
  refine scode_seq_mid (St m ⟨q1, pick q8 500 1500, q2, q4, pick q16 0 4294967295, 0, false, 0, false, false, false, false, 4, 0⟩) ?_ ?_
  · have ⟨e0, e4, e5, ⟨z, g0, hz⟩, g1⟩ := h
    refine scode_seq_k (fun K2 hK2 => ?_)
    refine scode_region (by kernel_rfl) ?_
    simp [go_sem, e0, h16]
    refine hK2 _ _ ?_
    refine scode_if (b := q16) (by simp [go_sem]) (fun hq => ?_) (fun hq => ?_)
    · refine scode_region (by kernel_rfl) ?_
      simp [go_sem, e5, g1, Cf.cells]
      exact h.put (by simp [go_sem]) (by simp [go_sem]) (by simp [go_sem]) (by simp [hq, Cf.cells])
    · refine scode_skip ?_
      subst hq
      exact h.keep (by simp [go_sem]) (by simp [go_sem]) (by simp [go_sem])
  clear h env H
  intro env H h
  refine scode_seq_mid (St m ⟨q1, pick q8 500 1500, q2, q4, pick q16 0 4294967295, pick q32 1500 0, q32 && q64, 0, false, false, false, false, 4, pick (q32 && q128) fr 0⟩) ?_ ?_
  · have ⟨e0, e4, e5, ⟨z, g0, hz⟩, g1⟩ := h
    refine scode_seq_k (fun K2 hK2 => ?_)
    refine scode_region (by kernel_rfl) ?_
    simp [go_sem, e0, h32]
    refine hK2 _ _ ?_
    refine scode_if (b := q32) (by simp [go_sem]) (fun hq => ?_) (fun hq => ?_)
    · subst hq
      refine scode_seq_mid (St m ⟨q1, pick q8 500 1500, q2, q4, pick q16 0 4294967295, 1500, false, 0, false, false, false, false, 4, 0⟩) ?_ ?_
      · refine scode_region (by kernel_rfl) ?_
        simp [go_sem, e5, g1, Cf.cells]
        exact h.put (by simp [go_sem]) (by simp [go_sem]) (by simp [go_sem]) (by simp [Cf.cells])
      clear h env H hK2 K2 e0 e4 e5 g0 g1
      intro env H h
      refine scode_seq_mid (St m ⟨q1, pick q8 500 1500, q2, q4, pick q16 0 4294967295, 1500, q64, 0, false, false, false, false, 4, 0⟩) ?_ ?_
      · have ⟨e0, e4, e5, ⟨z, g0, hz⟩, g1⟩ := h
        refine scode_region (by kernel_rfl) ?_
        simp [go_sem, e0, e5, g1, Cf.cells, h64]
        exact h.put (by simp [go_sem]) (by simp [go_sem]) (by simp [go_sem]) (by simp [Cf.cells])
      clear h env H
      intro env H h
      have ⟨e0, e4, e5, ⟨z, g0, hz⟩, g1⟩ := h
      refine scode_seq_k (fun K2 hK2 => ?_)
      refine scode_region (by kernel_rfl) ?_
      simp [go_sem, e0, h128]
      refine hK2 _ _ ?_
      refine scode_if (b := q128) (by simp [go_sem]) (fun hq => ?_) (fun hq => ?_)
      · refine scode_region (by kernel_rfl) ?_
        subst hq
        simp [go_sem, e0, e5, g1, Cf.cells, hfr]
        exact h.put (by simp [go_sem]) (by simp [go_sem]) (by simp [go_sem]) (by simp [Cf.cells])
      · refine scode_skip ?_
        subst hq
        exact h.keep (by simp [go_sem]) (by simp [go_sem]) (by simp [go_sem])
    · refine scode_skip ?_
      subst hq
      exact h.keep (by simp [go_sem]) (by simp [go_sem]) (by simp [go_sem])
  clear h env H
  intro env H h
  refine scode_seq_mid (St m ⟨q1, pick q8 500 1500, q2, q4, pick q16 0 4294967295, pick q32 1500 0, q32 && q64, bits, false, false, false, false, 4, pick (q32 && q128) fr 0⟩) ?_ ?_
  · have ⟨e0, e4, e5, ⟨z, g0, hz⟩, g1⟩ := h
    refine scode_seq_k (fun K2 hK2 => ?_)
    refine scode_region (by kernel_rfl) ?_
    simp [go_sem, e0, hk]
    refine hK2 _ _ ?_
    clear hK2 K2
    refine scode_block ?_
    refine scode_seq_k (fun K2 hK2 => ?_)
    refine scode_region (by kernel_rfl) ?_
    simp [go_sem]
    refine hK2 _ _ ?_
    clear hK2 K2
    by_cases k1 : k = 1
    · rw [if_pos k1] at hb
      subst hb
      refine scode_if (b := true) (by simp [go_sem, k1]) (fun _ => ?_) (fun h => by cases h)
      refine scode_region (by kernel_rfl) ?_
      simp [go_sem, e5, g1, Cf.cells]
      exact h.put (by simp [go_sem]) (by simp [go_sem]) (by simp [go_sem]) (by simp [Cf.cells])
    rw [if_neg k1] at hb
    refine scode_if (b := false) (by simp [go_sem, k1]) (fun h => by cases h) (fun _ => ?_)
    refine scode_seq_k (fun K2 hK2 => ?_)
    refine scode_region (by kernel_rfl) ?_
    simp [go_sem]
    refine hK2 _ _ ?_
    clear hK2 K2
    by_cases k2 : k = 2
    · rw [if_pos k2] at hb
      subst hb
      refine scode_if (b := true) (by simp [go_sem, k2]) (fun _ => ?_) (fun h => by cases h)
      refine scode_region (by kernel_rfl) ?_
      simp [go_sem, e5, g1, Cf.cells]
      exact h.put (by simp [go_sem]) (by simp [go_sem]) (by simp [go_sem]) (by simp [Cf.cells])
    rw [if_neg k2] at hb
    refine scode_if (b := false) (by simp [go_sem, k2]) (fun h => by cases h) (fun _ => ?_)
    refine scode_seq_k (fun K2 hK2 => ?_)
    refine scode_region (by kernel_rfl) ?_
    simp [go_sem]
    refine hK2 _ _ ?_
    clear hK2 K2
    by_cases k3 : k = 3
    · rw [if_pos k3] at hb
      subst hb
      refine scode_if (b := true) (by simp [go_sem, k3]) (fun _ => ?_) (fun h => by cases h)
      refine scode_region (by kernel_rfl) ?_
      simp [go_sem, e5, g1, Cf.cells]
      exact h.put (by simp [go_sem]) (by simp [go_sem]) (by simp [go_sem]) (by simp [Cf.cells])
    rw [if_neg k3] at hb
    subst hb
    refine scode_if (b := false) (by simp [go_sem, k3]) (fun h => by cases h) (fun _ => ?_)
    refine scode_skip ?_
    exact h.keep (by simp [go_sem]) (by simp [go_sem]) (by simp [go_sem])
  clear h env H hb
  intro env H h
  refine scode_seq_mid (St m ⟨q1, pick q8 500 1500, q2, q4, pick q16 0 4294967295, pick q32 1500 0, q32 && q64, bits, qb && qs, false, false, qb && qm, 4, pick (q32 && q128) fr 0⟩) ?_ ?_
  · have ⟨e0, e4, e5, ⟨z, g0, hz⟩, g1⟩ := h
    refine scode_seq_k (fun K2 hK2 => ?_)
    refine scode_region (by kernel_rfl) ?_
    simp only [go_sem, e5, g1, Cf.cells]
    simp [go_sem, e5, g1, Cf.cells]
    refine hK2 _ _ ?_
    refine scode_if (b := qb) (by simp only [go_sem, hqb]) (fun hq => ?_) (fun hq => ?_)
    · subst hq
      refine scode_seq_mid (St m ⟨q1, pick q8 500 1500, q2, q4, pick q16 0 4294967295, pick q32 1500 0, q32 && q64, bits, qs, false, false, false, 4, pick (q32 && q128) fr 0⟩) ?_ ?_
      · refine scode_region (by kernel_rfl) ?_
        simp [go_sem, e0, e5, g1, Cf.cells, hs]
        exact h.put (by simp [go_sem]) (by simp [go_sem]) (by simp [go_sem]) (by simp [Cf.cells])
      clear h env H hK2 K2 e0 e4 e5 g0 g1
      intro env H h
      have ⟨e0, e4, e5, ⟨z, g0, hz⟩, g1⟩ := h
      refine scode_region (by kernel_rfl) ?_
      simp [go_sem, e0, e5, g1, Cf.cells, hmu]
      exact h.put (by simp [go_sem]) (by simp [go_sem]) (by simp [go_sem]) (by simp [Cf.cells])
    · refine scode_skip ?_
      subst hq
      exact h.keep (by simp [go_sem]) (by simp [go_sem]) (by simp [go_sem])
  clear h env H
  obtain ⟨c, hc⟩ : ∃ c : Cf, (⟨q1, pick q8 500 1500, q2, q4, pick q16 0 4294967295, pick q32 1500 0, q32 && q64, bits, qb && qs, false, false, qb && qm, 4, pick (q32 && q128) fr 0⟩ : Cf) = c := ⟨_, rfl⟩
  rw [hc] at hR ⊢
  rintro env H ⟨e0, e4, e5, ⟨z, g0, hz⟩, g1⟩
  have hcl : c.cells.length = 18 := rfl
  have hct : c.cells.take 18 = c.cells := rfl
  have hleaf : ∀ x, x ∈ c.cells → x.leaf = true := by
    intro x hx
    simp only [Cf.cells, List.mem_cons, List.mem_nil_iff, or_false] at hx
    rcases hx with rfl | rfl | rfl | rfl | rfl | rfl | rfl | rfl | rfl | rfl | rfl | rfl | rfl | rfl | rfl | rfl | rfl | rfl <;> rfl
  simp only [AV.leaf] at hleaf
  refine scode_seq_k (fun K1 hK1 => ?_)
  refine scode_region (by kernel_rfl) ?_
  simp [go_sem, e4, e5, g0, g1, hz, hcl, hct, eq_true hleaf]
  refine hK1 _ _ ?_
  refine scode_ret ?_
  simp only [go_sem]
  refine hR _ _ ?_
  have hzd : z.drop 18 = [] := List.drop_eq_nil_of_le (by omega)
  rw [hzd, List.append_nil]
  refine ret_pure (v := .agg c.cells) ?_ (.same _) (empty_le _) (Nat.zero_le _) ?_
  · simp [go_sem, e4, g0, hcl, hct]
  · simp [go_sem, Cf.cells]

theorem made39_s (n : Int) : ∃ c : Cf, bitsOk c.bits ∧ SCalls Tryz.prog 5 [.int n, .int 3] Heap.empty (.agg c.cells) Heap.empty := by
  refine ⟨_, ?_, made39_aux n _ _ _ _ _ _ _ _ _ _ _ _ _ _ _ rfl rfl rfl rfl rfl rfl rfl rfl rfl rfl rfl rfl rfl rfl rfl⟩
  unfold bitsOk
  simp only
  split
  · simp
  · split
    · simp
    · split <;> simp

theorem Cf.lt (c : Cf) (n : Nat) : (AV.agg c.cells).Lt n := by simp [go_sem, Cf.cells]

end Go.Proofs.YtinbldahpifinaaGreatDoor
