/- CcpAgrees: the document's Agree. -/
import Derived.Test.YtmnbicoeahlpcaaL24
set_option maxRecDepth 20000
noncomputable section
namespace Go.Proofs.Ytmnbicoeahlpcaa
open Go Go.Fl Go.Proofs

def tri : Bool → Bool → Bool → Option Int
  | false, false, false => some 0
  | true, false, false => some 40
  | false, true, false => some 56
  | false, false, true => some 128
  | _, _, _ => none

theorem flags_y : ∀ y : Nat, y < 256 → strN (((y &&& 224 : Nat) : Int)) = tri (((y &&& 32 : Nat) : Int) != 0) (((y &&& 128 : Nat) : Int) != 0) (((y &&& 64 : Nat) : Int) != 0) := by
  have h : ((List.range 256).all fun y => decide (strN (((y &&& 224 : Nat) : Int)) = tri (((y &&& 32 : Nat) : Int) != 0) (((y &&& 128 : Nat) : Int) != 0) (((y &&& 64 : Nat) : Int) != 0))) = true := by kernel_rfl
  intro y hy
  have := List.all_eq_true.1 h y (List.mem_range.2 hy)
  simpa using this

theorem and_low (n : Int) (h0 : 0 ≤ n) (h1 : n < 2 ^ 40) (k : Nat) (hk : k < 256) : Go.bits .and .i64 n k = (((n.toNat % 256) &&& k : Nat) : Int) := by
  obtain ⟨a, rfl⟩ := Int.eq_ofNat_of_zero_le h0
  have ha : a < 2 ^ 40 := by exact_mod_cast h1
  rw [(bits_nat .i64 40 (by decide) word_lt a k ha (by omega)).1]
  have e1 : a % 256 = a &&& 255 := (Nat.and_two_pow_sub_one_eq_mod a 8).symm
  have e2 : 255 &&& k = k := by
    have := Nat.and_two_pow_sub_one_eq_mod k 8
    rw [Nat.and_comm]
    rw [show (255 : Nat) = 2 ^ 8 - 1 from rfl, this]
    exact Nat.mod_eq_of_lt hk
  rw [Int.toNat_natCast, e1, Nat.and_assoc, e2]

theorem flags (n : Int) (h0 : 0 ≤ n) (h1 : n < 2 ^ 40) : strN (Go.bits .and .i64 n 224) = tri (Go.bits .and .i64 n 32 != 0) (Go.bits .and .i64 n 128 != 0) (Go.bits .and .i64 n 64 != 0) := by
  have e1 : Go.bits .and .i64 n 224 = (((n.toNat % 256) &&& 224 : Nat) : Int) := and_low n h0 h1 224 (by omega)
  have e2 : Go.bits .and .i64 n 32 = (((n.toNat % 256) &&& 32 : Nat) : Int) := and_low n h0 h1 32 (by omega)
  have e3 : Go.bits .and .i64 n 128 = (((n.toNat % 256) &&& 128 : Nat) : Int) := and_low n h0 h1 128 (by omega)
  have e4 : Go.bits .and .i64 n 64 = (((n.toNat % 256) &&& 64 : Nat) : Int) := and_low n h0 h1 64 (by omega)
  rw [e1, e2, e3, e4]
  exact flags_y _ (Nat.mod_lt _ (by omega))

theorem num4_lt (b0 b1 b2 b3 : Int) (h : isBytes [b0, b1, b2, b3]) : 0 ≤ num4 b0 b1 b2 b3 ∧ num4 b0 b1 b2 b3 < 2 ^ 40 := by
  have k0 := h b0 (by simp)
  have k1 := h b1 (by simp)
  have k2 := h b2 (by simp)
  have k3 := h b3 (by simp)
  unfold num4
  omega

def ReSt (l1 l2 : List Opt) (c3 : List AV) (env : Env) (H : Heap) : Prop := env 0 = optsA l1 ∧ env 1 = optsA l2 ∧ env 4 = .ptr 0 0 ∧ env 5 = .ptr 1 0 ∧ (∃ z, H.get 0 = some z ∧ z.length = 4) ∧ H.get 1 = some (c3 ++ [.sc (.bool false)])

theorem ReSt.keep {l1 l2 : List Opt} {c3 : List AV} {env env' : Env} {H : Heap} (h : ReSt l1 l2 c3 env H) (h0 : env' 0 = env 0) (h1 : env' 1 = env 1) (h4 : env' 4 = env 4) (h5 : env' 5 = env 5) : ReSt l1 l2 c3 env' H := AgSt.keep h h0 h1 h4 h5
theorem ReSt.put {l1 l2 : List Opt} {c3 c3' : List AV} {env env' : Env} {H : Heap} {cs : List AV} (h : ReSt l1 l2 c3 env H) (h0 : env' 0 = env 0) (h1 : env' 1 = env 1) (h4 : env' 4 = env 4) (h5 : env' 5 = env 5) (hc : cs = c3' ++ [.sc (.bool false)]) : ReSt l1 l2 c3' env' (H.set 1 cs) := AgSt.put h h0 h1 h4 h5 hc

def cnt (q : Bool) (c : Int) : Int := if q = true then c + 1 else c
@[simp] theorem cnt_t (c : Int) : cnt true c = c + 1 := rfl
@[simp] theorem cnt_f (c : Int) : cnt false c = c := rfl

set_option maxHeartbeats 8000000 in
theorem refAgree_s (l1 l2 : List Opt) (h1 : goodO l1) (h2 : goodO l2) : SCalls Try.prog 34 [optsA l1, optsA l2] Heap.empty (.agg (agrV l1 l2)) Heap.empty := by
  obtain ⟨x, hx⟩ : ∃ x, findO l1 18 = x := ⟨_, rfl⟩
  obtain ⟨y, hy⟩ : ∃ x, findO l2 18 = x := ⟨_, rfl⟩
  obtain ⟨x', hx'⟩ : ∃ x, findO l1 26 = x := ⟨_, rfl⟩
  obtain ⟨y', hy'⟩ : ∃ x, findO l2 26 = x := ⟨_, rfl⟩
  have ok1 := fun d => @findO_ok l1 h1.2 18 d
  have ok2 := fun d => @findO_ok l1 h1.2 26 d
  have c1 := data_H l1 18 h1.1
  have c2 := data_H l2 18 h2.1
  have c3 := data_H l1 26 h1.1
  have c4 := data_H l2 26 h2.1
  rw [hx] at c1 ok1
  rw [hy] at c2
  rw [hx'] at c3 ok2
  rw [hy'] at c4
  have hres : agrV l1 l2 = three x (bothB x y) ++ [.sc (.bool (deflB x' (bothB x' y')))] := by rw [agrV, hx, hy, hx', hy']
  obtain ⟨i3, p3, r3, h3⟩ := three_shape x (bothB x y)
  rw [hres]
  refine scalls_of_k (sz := 95) (Try.call34) Try.func34 rfl (Nat.le_refl _) (by kernel_rfl) (fun R hR => ?_)
  refine scode_seq_k (fun K1 hK1 => ?_)
  refine scode_region (by kernel_rfl) ?_
  simp [go_sem]
  refine hK1 _ _ ?_
  clear hK1 K1
  refine scode_seq_k (fun K1 hK1 => ?_)
  refine scode_region (by kernel_rfl) ?_
  simp [go_sem]
  refine hK1 _ _ ?_
  clear hK1 K1
  refine scode_seq_k (fun K1 hK1 => ?_)
  refine scode_region (by kernel_rfl) ?_
  refine w_take 2 (fun K6 hK6 => ?_)
  simp [go_sem]
  refine ⟨_, _, c1 _, ?_⟩
  refine hK6 _ _ ?_
  clear hK6 K6
  simp [go_sem, optR]
  refine hK1 _ _ ?_
  clear hK1 K1
  refine scode_seq_k (fun K1 hK1 => ?_)
  refine scode_region (by kernel_rfl) ?_
  refine w_take 2 (fun K6 hK6 => ?_)
  simp [go_sem]
  refine ⟨_, _, c2 _, ?_⟩
  refine hK6 _ _ ?_
  clear hK6 K6
  simp [go_sem, optR]
  refine hK1 _ _ ?_
  clear hK1 K1
  refine scode_gen (fun env H => ReSt l1 l2 zero3 env H ∧ env 6 = foundA x ∧ env 7 = .sc (.bool x.isSome) ∧ env 8 = foundA y ∧ env 9 = .sc (.bool y.isSome)) ?_ ?_
  · exact ⟨⟨by simp [go_sem], by simp [go_sem], by simp [go_sem], by simp [go_sem], ⟨_, by simp [go_sem]; rfl, rfl⟩, by simp [go_sem, zero3]⟩, by simp [go_sem], by simp [go_sem], by simp [go_sem], by simp [go_sem]⟩
  rintro env H ⟨h, e6, e7, e8, e9⟩
  refine scode_seq_mid (ReSt l1 l2 (three x (bothB x y))) ?_ ?_
  · have skip : ∀ (env : Env) (H : Heap), ReSt l1 l2 zero3 env H → three x (bothB x y) = zero3 → ReSt l1 l2 (three x (bothB x y)) env H := fun env H h e => by rw [e]; exact h
    refine scode_seq_k (fun K2 hK2 => ?_)
    have no : ∀ (env : Env) (H : Heap), ReSt l1 l2 zero3 env H → three x (bothB x y) = zero3 → env 37 = .sc (.bool false) → K2 env H := by
      intro env H h e h37
      refine hK2 _ _ ?_
      refine scode_if (b := false) (by simp [go_sem, h37]) (fun h => by cases h) (fun _ => ?_)
      refine scode_skip ?_
      exact skip _ _ h e
    refine scode_region (by kernel_rfl) ?_
    rcases x with _ | d
    · simp [go_sem, e6, e7, e8, e9]
      exact no _ _ (h.keep (by simp [go_sem]) (by simp [go_sem]) (by simp [go_sem]) (by simp [go_sem])) rfl (by simp [go_sem])
    rcases y with _ | d2
    · simp [go_sem, e6, e7, e8, e9]
      exact no _ _ (h.keep (by simp [go_sem]) (by simp [go_sem]) (by simp [go_sem]) (by simp [go_sem])) (three_false _) (by simp [go_sem])
    obtain ⟨okb, okl⟩ := ok1 d rfl
    by_cases hd4 : d.length = 4
    case neg =>
      have hne : ((d.length : Int) == 4) = false := by simp; omega
      simp [go_sem, e6, e7, e8, e9, foundA, bytesA, hne]
      exact no _ _ (h.keep (by simp [go_sem]) (by simp [go_sem]) (by simp [go_sem]) (by simp [go_sem])) (three_no4 _ _ hd4) (by simp [go_sem])
    have heq : ((d.length : Int) == 4) = true := by simp; omega
    refine w_take 9 (fun K6 hK6 => ?_)
    simp [go_sem, e6, e7, e8, e9, foundA, bytesA, heq]
    refine hK6 _ _ ?_
    clear hK6 K6
    refine w_take 4 (fun K6 hK6 => ?_)
    simp [go_sem, e6, e7, e8, e9, foundA]
    refine ⟨_, _, refSame_H d d2 okl _, ?_⟩
    refine hK6 _ _ ?_
    clear hK6 K6
    obtain ⟨qs, hqs⟩ : ∃ q, (d == d2) = q := ⟨_, rfl⟩
    have hbb : bothB (some d) (some d2) = qs := hqs
    rw [hqs]
    simp [go_sem]
    cases qs with
    | false =>
      exact no _ _ (h.keep (by simp [go_sem]) (by simp [go_sem]) (by simp [go_sem]) (by simp [go_sem])) (by rw [hbb]; exact three_false _) (by simp [go_sem])
    | true =>
    refine hK2 _ _ ?_
    clear no skip hK2 K2
    refine scode_if (b := true) (by simp [go_sem]) (fun _ => ?_) (fun h => by cases h)
    obtain ⟨b0, b1, b2, b3, rfl⟩ : ∃ b0 b1 b2 b3, d = [b0, b1, b2, b3] := by
      match d, hd4 with
      | [b0, b1, b2, b3], _ => exact ⟨_, _, _, _, rfl⟩
    have hth : three (some [b0, b1, b2, b3]) (bothB (some [b0, b1, b2, b3]) (some d2)) = of4 (num4 b0 b1 b2 b3) := by rw [hbb]; rfl
    have hnl := num4_lt b0 b1 b2 b3 okb
    have cn := scalls_frame (Num_s b0 b1 b2 b3 okb) (by simp [bytesA_lt]) (by simp [go_sem]) H
    rw [hth]
    obtain ⟨n, hn⟩ : ∃ n, num4 b0 b1 b2 b3 = n := ⟨_, rfl⟩
    rw [hn] at hnl cn ⊢
    have hfl := flags n hnl.1 hnl.2
    obtain ⟨qa, hqa⟩ : ∃ q, (Go.bits .and .i64 n 32 != 0) = q := ⟨_, rfl⟩
    obtain ⟨qb, hqb⟩ : ∃ q, (Go.bits .and .i64 n 128 != 0) = q := ⟨_, rfl⟩
    obtain ⟨qc, hqc⟩ : ∃ q, (Go.bits .and .i64 n 64 != 0) = q := ⟨_, rfl⟩
    rw [hqa, hqb, hqc] at hfl
    refine scode_seq_k (fun K2 hK2 => ?_)
    refine scode_region (by kernel_rfl) ?_
    refine w_take 2 (fun K6 hK6 => ?_)
    simp [go_sem, e6, foundA]
    refine ⟨_, _, cn, ?_⟩
    refine hK6 _ _ ?_
    clear hK6 K6
    simp [go_sem]
    refine hK2 _ _ ?_
    clear hK2 K2
    refine scode_seq_k (fun K2 hK2 => ?_)
    refine scode_region (by kernel_rfl) ?_
    simp [go_sem]
    refine hK2 _ _ ?_
    clear hK2 K2
    refine scode_seq_k (fun K2 hK2 => ?_)
    refine scode_region (by kernel_rfl) ?_
    simp [go_sem]
    refine hK2 _ _ ?_
    clear hK2 K2
    refine scode_gen (fun env H => ReSt l1 l2 zero3 env H ∧ env 10 = .int n ∧ env 11 = .int 0 ∧ env 12 = .int 0) ?_ ?_
    · exact ⟨h.keep (by simp [go_sem]) (by simp [go_sem]) (by simp [go_sem]) (by simp [go_sem]), by simp [go_sem], by simp [go_sem], by simp [go_sem]⟩
    clear h e6 e7 e8 e9 cn env H
    rintro env H ⟨h, e10, e11, e12⟩
    refine scode_seq_mid (fun env H => ReSt l1 l2 zero3 env H ∧ env 10 = .int n ∧ env 11 = .int (pick qa 40 0) ∧ env 12 = .int (cnt qa 0)) ?_ ?_
    · refine scode_seq_k (fun K2 hK2 => ?_)
      refine scode_region (by kernel_rfl) ?_
      simp [go_sem, e10, hqa]
      refine hK2 _ _ ?_
      clear hK2 K2
      refine scode_if (b := qa) (by simp [go_sem]) (fun hq => ?_) (fun hq => ?_)
      · refine scode_seq_k (fun K2 hK2 => ?_)
        refine scode_region (by kernel_rfl) ?_
        simp [go_sem]
        refine hK2 _ _ ?_
        refine scode_region (by kernel_rfl) ?_
        have hw : IntKind.i64.wrap (0 + 1) = 1 := by decide
        simp [go_sem, e12]
        exact ⟨h.keep (by simp [go_sem]) (by simp [go_sem]) (by simp [go_sem]) (by simp [go_sem]), by simp [e10], by simp [hq], by simp [hq]; decide⟩
      · refine scode_skip ?_
        exact ⟨h.keep (by simp [go_sem]) (by simp [go_sem]) (by simp [go_sem]) (by simp [go_sem]), by simp [go_sem, e10], by simp [go_sem, e11, hq], by simp [go_sem, e12, hq]⟩
    clear h e10 e11 e12 env H
    rintro env H ⟨h, e10, e11, e12⟩
    refine scode_seq_mid (fun env H => ReSt l1 l2 zero3 env H ∧ env 10 = .int n ∧ env 11 = .int (pick qb 56 (pick qa 40 0)) ∧ env 12 = .int (cnt qb (cnt qa 0))) ?_ ?_
    · refine scode_seq_k (fun K2 hK2 => ?_)
      refine scode_region (by kernel_rfl) ?_
      simp [go_sem, e10, hqb]
      refine hK2 _ _ ?_
      clear hK2 K2
      refine scode_if (b := qb) (by simp [go_sem]) (fun hq => ?_) (fun hq => ?_)
      · refine scode_seq_k (fun K2 hK2 => ?_)
        refine scode_region (by kernel_rfl) ?_
        simp [go_sem]
        refine hK2 _ _ ?_
        refine scode_region (by kernel_rfl) ?_
        have hw : IntKind.i64.wrap (cnt qa 0 + 1) = cnt qa 0 + 1 := IntWalk.i64_in _ (by unfold cnt; repeat' split <;> omega)
        simp [go_sem, e12, hw]
        exact ⟨h.keep (by simp [go_sem]) (by simp [go_sem]) (by simp [go_sem]) (by simp [go_sem]), by simp [e10], by simp [hq], by simp [hq]⟩
      · refine scode_skip ?_
        exact ⟨h.keep (by simp [go_sem]) (by simp [go_sem]) (by simp [go_sem]) (by simp [go_sem]), by simp [go_sem, e10], by simp [go_sem, e11, hq], by simp [go_sem, e12, hq]⟩
    clear h e10 e11 e12 env H
    rintro env H ⟨h, e10, e11, e12⟩
    refine scode_seq_mid (fun env H => ReSt l1 l2 zero3 env H ∧ env 10 = .int n ∧ env 11 = .int (pick qc 128 (pick qb 56 (pick qa 40 0))) ∧ env 12 = .int (cnt qc (cnt qb (cnt qa 0)))) ?_ ?_
    · refine scode_seq_k (fun K2 hK2 => ?_)
      refine scode_region (by kernel_rfl) ?_
      simp [go_sem, e10, hqc]
      refine hK2 _ _ ?_
      clear hK2 K2
      refine scode_if (b := qc) (by simp [go_sem]) (fun hq => ?_) (fun hq => ?_)
      · refine scode_seq_k (fun K2 hK2 => ?_)
        refine scode_region (by kernel_rfl) ?_
        simp [go_sem]
        refine hK2 _ _ ?_
        refine scode_region (by kernel_rfl) ?_
        have hw : IntKind.i64.wrap (cnt qb (cnt qa 0) + 1) = cnt qb (cnt qa 0) + 1 := IntWalk.i64_in _ (by unfold cnt; repeat' split <;> omega)
        simp [go_sem, e12, hw]
        exact ⟨h.keep (by simp [go_sem]) (by simp [go_sem]) (by simp [go_sem]) (by simp [go_sem]), by simp [e10], by simp [hq], by simp [hq]⟩
      · refine scode_skip ?_
        exact ⟨h.keep (by simp [go_sem]) (by simp [go_sem]) (by simp [go_sem]) (by simp [go_sem]), by simp [go_sem, e10], by simp [go_sem, e11, hq], by simp [go_sem, e12, hq]⟩
    clear h e10 e11 e12 env H
    rintro env H ⟨h, e10, e11, e12⟩
    have ⟨g0, g1, g4, g5, ⟨z, gz, hz⟩, gg⟩ := h
    refine scode_seq_k (fun K2 hK2 => ?_)
    refine scode_region (by kernel_rfl) ?_
    simp [go_sem, e12]
    refine hK2 _ _ ?_
    clear hK2 K2
    cases qa <;> cases qb <;> cases qc
    case false.false.false =>
      have ho : of4 n = [.int 0, .sc (.bool false), .sc (.bool (Go.bits .and .i64 n 1 != 0))] := by simp [of4, hfl, tri]
      rw [ho]
      refine scode_if (b := true) (by simp [go_sem]) (fun _ => ?_) (fun h => by cases h)
      refine scode_region (by kernel_rfl) ?_
      simp [go_sem, e10, e11, e12, g5, gg, zero3]
      exact h.put (by simp [go_sem]) (by simp [go_sem]) (by simp [go_sem]) (by simp [go_sem]) (by simp)
    case true.false.false =>
      have ho : of4 n = [.int 40, .sc (.bool (Go.bits .and .i64 n 16777216 != 0)), .sc (.bool (Go.bits .and .i64 n 1 != 0))] := by simp [of4, hfl, tri]
      rw [ho]
      refine scode_if (b := true) (by simp [go_sem]) (fun _ => ?_) (fun h => by cases h)
      refine scode_region (by kernel_rfl) ?_
      simp [go_sem, e10, e11, e12, g5, gg, zero3]
      exact h.put (by simp [go_sem]) (by simp [go_sem]) (by simp [go_sem]) (by simp [go_sem]) (by simp)
    case false.true.false =>
      have ho : of4 n = [.int 56, .sc (.bool (Go.bits .and .i64 n 16777216 != 0)), .sc (.bool (Go.bits .and .i64 n 1 != 0))] := by simp [of4, hfl, tri]
      rw [ho]
      refine scode_if (b := true) (by simp [go_sem]) (fun _ => ?_) (fun h => by cases h)
      refine scode_region (by kernel_rfl) ?_
      simp [go_sem, e10, e11, e12, g5, gg, zero3]
      exact h.put (by simp [go_sem]) (by simp [go_sem]) (by simp [go_sem]) (by simp [go_sem]) (by simp)
    case false.false.true =>
      have ho : of4 n = [.int 128, .sc (.bool (Go.bits .and .i64 n 16777216 != 0)), .sc (.bool (Go.bits .and .i64 n 1 != 0))] := by simp [of4, hfl, tri]
      rw [ho]
      refine scode_if (b := true) (by simp [go_sem]) (fun _ => ?_) (fun h => by cases h)
      refine scode_region (by kernel_rfl) ?_
      simp [go_sem, e10, e11, e12, g5, gg, zero3]
      exact h.put (by simp [go_sem]) (by simp [go_sem]) (by simp [go_sem]) (by simp [go_sem]) (by simp)
    all_goals
      have ho : of4 n = zero3 := by simp [of4, hfl, tri]
      rw [ho]
      refine scode_if (b := false) (by simp [go_sem]) (fun h => by cases h) (fun _ => ?_)
      refine scode_skip ?_
      exact h.keep (by simp [go_sem]) (by simp [go_sem]) (by simp [go_sem]) (by simp [go_sem])
  clear h e6 e7 e8 e9 env H
  intro env H h
  have ⟨e0, e1, e4, e5, ⟨z, gz, hz⟩, gg⟩ := h
  refine scode_seq_k (fun K1 hK1 => ?_)
  refine scode_region (by kernel_rfl) ?_
  refine w_take 2 (fun K6 hK6 => ?_)
  simp [go_sem, e0, e1]
  refine ⟨_, _, c3 _, ?_⟩
  refine hK6 _ _ ?_
  clear hK6 K6
  simp [go_sem, optR]
  refine hK1 _ _ ?_
  clear hK1 K1
  refine scode_seq_k (fun K1 hK1 => ?_)
  refine scode_region (by kernel_rfl) ?_
  refine w_take 2 (fun K6 hK6 => ?_)
  simp [go_sem, e0, e1]
  refine ⟨_, _, c4 _, ?_⟩
  refine hK6 _ _ ?_
  clear hK6 K6
  simp [go_sem, optR]
  refine hK1 _ _ ?_
  clear hK1 K1
  refine scode_gen (fun env H => ReSt l1 l2 (three x (bothB x y)) env H ∧ env 6 = foundA x' ∧ env 7 = .sc (.bool x'.isSome) ∧ env 8 = foundA y' ∧ env 9 = .sc (.bool y'.isSome)) ?_ ?_
  · exact ⟨h.keep (by simp [go_sem]) (by simp [go_sem]) (by simp [go_sem]) (by simp [go_sem]), by simp [go_sem], by simp [go_sem], by simp [go_sem], by simp [go_sem]⟩
  clear h e0 e1 e4 e5 gz gg env H
  rintro env H ⟨h, e6, e7, e8, e9⟩
  refine scode_seq_mid (AgSt l1 l2 (three x (bothB x y)) (deflB x' (bothB x' y'))) ?_ ?_
  · have ⟨e0, e1, e4, e5, ⟨z, gz, hz⟩, gg⟩ := h
    refine scode_region (by kernel_rfl) ?_
    rcases x' with _ | d
    · simp [go_sem, e5, e6, e7, e8, e9, gg, h3]
      rw [← h3]
      exact AgSt.put h (by simp [go_sem]) (by simp [go_sem]) (by simp [go_sem]) (by simp [go_sem]) (by rw [h3]; rfl)
    rcases y' with _ | d2
    · simp [go_sem, e5, e6, e7, e8, e9, gg, h3]
      rw [← h3]
      exact AgSt.put h (by simp [go_sem]) (by simp [go_sem]) (by simp [go_sem]) (by simp [go_sem]) (by rw [h3]; rfl)
    obtain ⟨okb, okl⟩ := ok2 d rfl
    have hn0 := Heap.lt_of_get gz
    have hn1 := Heap.lt_of_get gg
    refine w_take 7 (fun K6 hK6 => ?_)
    simp [go_sem, e5, e6, e7, e8, e9, foundA, zrep]
    refine hK6 _ _ ?_
    clear hK6 K6
    have give : SCalls Try.prog 38 [bytesA d, .ms H.next 0 2 1] (H.alloc [.sc (.int .u8 120), .sc (.int .u8 0)]) (.bool (d == [120, 0])) ((H.alloc [.sc (.int .u8 120), .sc (.int .u8 0)]).del H.next) :=
      scalls_give (b := H.next) (refSame_s d [120, 0] okl) (by simp [bytesA_lt]) (by simp [go_sem]) (.cons (.same _) (.cons (Froz.row (cs := [.sc (.int .u8 120), .sc (.int .u8 0)]) (by simp [go_sem]) (by simp [go_sem]) (by simp) rfl) .nil))
    have hH0 : ((H.alloc [.sc (.int .u8 120), .sc (.int .u8 0)]).del H.next).get 0 = some z := by simp [go_sem, gz]; omega
    have hH1 : ((H.alloc [.sc (.int .u8 120), .sc (.int .u8 0)]).del H.next).get 1 = some (three x (bothB x y) ++ [.sc (.bool false)]) := by simp [go_sem, gg]; omega
    obtain ⟨H2, hH2⟩ : ∃ H2, (H.alloc [.sc (.int .u8 120), .sc (.int .u8 0)]).del H.next = H2 := ⟨_, rfl⟩
    rw [hH2] at give hH0 hH1
    obtain ⟨qd, hqd⟩ : ∃ q, (d == [120, 0]) = q := ⟨_, rfl⟩
    obtain ⟨qe, hqe⟩ : ∃ q, (d == d2) = q := ⟨_, rfl⟩
    have cs := refSame_H d d2 okl H2
    rw [hqd] at give
    rw [hqe] at cs
    have hdf : deflB (some d) (bothB (some d) (some d2)) = (qe && qd) := by rw [← hqe, ← hqd]; rfl
    refine w_take 1 (fun K6 hK6 => ?_)
    simp [go_sem]
    refine ⟨_, _, give, ?_⟩
    refine hK6 _ _ ?_
    clear hK6 K6
    rw [hdf]
    have h' : ∀ env' : Env, env' 0 = env 0 → env' 1 = env 1 → env' 4 = env 4 → env' 5 = env 5 → AgSt l1 l2 (three x (bothB x y)) false env' H2 := fun env' k0 k1 k4 k5 => ⟨by rw [k0, e0], by rw [k1, e1], by rw [k4, e4], by rw [k5, e5], ⟨z, hH0, hz⟩, hH1⟩
    cases qd with
    | false =>
      simp [go_sem, e5, hH1, h3]
      rw [← h3]
      exact (h' env rfl rfl rfl rfl).put (by simp [go_sem]) (by simp [go_sem]) (by simp [go_sem]) (by simp [go_sem]) (by rw [h3]; rfl)
    | true =>
      refine w_take 5 (fun K6 hK6 => ?_)
      simp [go_sem, e6, e8, foundA]
      refine ⟨_, _, cs, ?_⟩
      refine hK6 _ _ ?_
      clear hK6 K6
      simp [go_sem, e5, hH1, h3]
      rw [← h3]
      exact (h' env rfl rfl rfl rfl).put (by simp [go_sem]) (by simp [go_sem]) (by simp [go_sem]) (by simp [go_sem]) (by rw [h3]; rfl)
  clear h e6 e7 e8 e9 env H
  rintro env H ⟨e0, e1, e4, e5, ⟨z, g0, hz⟩, g1⟩
  rw [h3] at g1 hR
  have hzd : z.drop 4 = [] := List.drop_eq_nil_of_le (by omega)
  refine scode_seq_k (fun K1 hK1 => ?_)
  refine scode_region (by kernel_rfl) ?_
  simp [go_sem, e4, e5, g0, g1, hz, hzd]
  refine hK1 _ _ ?_
  refine scode_ret ?_
  simp only [go_sem]
  refine hR _ _ ?_
  refine ret_pure ?_ (.same _) (empty_le _) (Nat.zero_le _) ?_
  · simp [go_sem, e4, g0]
  · simp [go_sem]
end Go.Proofs.Ytmnbicoeahlpcaa
