/- CcpAgrees: ccp.Agree. -/
import Derived.Test.YtmnbicoeahlpcaaL23
set_option maxRecDepth 20000
noncomputable section
namespace Go.Proofs.Ytmnbicoeahlpcaa
open Go Go.Fl Go.Proofs

def strN (s : Int) : Option Int := if s = 64 then some 128 else if s = 128 then some 56 else if s = 32 then some 40 else if s = 0 then some 0 else none
theorem strR_eq (s : Int) : strR s = match strN s with
    | some b => .tup [.int b, .sc (.bool true)]
    | none => .tup [.int 0, .sc (.bool false)] := by
  unfold strR strN
  split
  · rfl
  · split
    · rfl
    · split
      · rfl
      · split <;> rfl

def zero3 : List AV := [.int 0, .sc (.bool false), .sc (.bool false)]
def of4 (n : Int) : List AV := match strN (Go.bits .and .i64 n 224) with
  | some b => [.int b, .sc (.bool (decide (0 < b) && (Go.bits .and .i64 n 16777216 != 0))), .sc (.bool (Go.bits .and .i64 n 1 != 0))]
  | none => zero3
def three (x : Option (List Int)) (q : Bool) : List AV := match x, q with
  | some [b0, b1, b2, b3], true => of4 (num4 b0 b1 b2 b3)
  | _, _ => zero3
theorem three_false (x : Option (List Int)) : three x false = zero3 := by
  match x with
  | none => rfl
  | some [] => rfl
  | some [_] => rfl
  | some [_, _] => rfl
  | some [_, _, _] => rfl
  | some [_, _, _, _] => rfl
  | some (_ :: _ :: _ :: _ :: _ :: _) => rfl
theorem three_no4 (d : List Int) (q : Bool) (h : d.length ≠ 4) : three (some d) q = zero3 := by
  match d, h with
  | [], _ => rfl
  | [_], _ => rfl
  | [_, _], _ => rfl
  | [_, _, _], _ => rfl
  | [_, _, _, _], h => exact absurd rfl h
  | _ :: _ :: _ :: _ :: _ :: _, _ => rfl
def deflB (x : Option (List Int)) (q : Bool) : Bool := match x with
  | some d => q && (d == [120, 0])
  | none => false

def agrV (l1 l2 : List Opt) : List AV := three (findO l1 18) (bothB (findO l1 18) (findO l2 18)) ++ [.sc (.bool (deflB (findO l1 26) (bothB (findO l1 26) (findO l2 26))))]

theorem of4_shape (n : Int) : ∃ (i : Int) (p q : Bool), of4 n = [.int i, .sc (.bool p), .sc (.bool q)] := by
  unfold of4
  split
  · exact ⟨_, _, _, rfl⟩
  · exact ⟨_, _, _, rfl⟩
theorem three_shape (x : Option (List Int)) (q : Bool) : ∃ (i : Int) (p r : Bool), three x q = [.int i, .sc (.bool p), .sc (.bool r)] := by
  unfold three
  split
  · exact of4_shape _
  · exact ⟨_, _, _, rfl⟩
theorem agrV_shape (l1 l2 : List Opt) : ∃ (i : Int) (p q r : Bool), agrV l1 l2 = [.int i, .sc (.bool p), .sc (.bool q), .sc (.bool r)] := by
  obtain ⟨i, p, q, h⟩ := three_shape (findO l1 18) (bothB (findO l1 18) (findO l2 18))
  exact ⟨i, p, q, _, by rw [agrV, h]; rfl⟩

theorem both_H (l1 l2 : List Opt) (k : Int) (h1 : goodO l1) (h2 : goodO l2) (H : Heap) : SCalls Try.prog 45 [optsA l1, optsA l2, .int k] H (.tup [foundA (findO l1 k), .sc (.bool (bothB (findO l1 k) (findO l2 k)))]) H :=
  scalls_frame (both_s l1 l2 k h1 h2) (by simp [go_sem]; exact ⟨optsA_lt _ _, optsA_lt _ _⟩) (by simp [go_sem]; exact foundA_lt _ _) H
theorem strengths_H (x s : Int) (hs : Go.bits .and .i64 x 224 = s) (H : Heap) : SCalls Try.prog 47 [.int x] H (strR s) H :=
  scalls_frame (strengths_s x s hs) (by simp [go_sem]) (strR_lt _ _) H

theorem asked_H (H : Heap) : SCalls Try.prog 40 [] H (bytesA [120, 0]) H := by
  have h : pc 40 [] = some (bytesA [120, 0]) := by kernel_rfl
  exact scalls_frame (pc_sound h).1 (by simp) (pc_sound h).2 H

def AgSt (l1 l2 : List Opt) (c3 : List AV) (q : Bool) (env : Env) (H : Heap) : Prop := env 0 = optsA l1 ∧ env 1 = optsA l2 ∧ env 4 = .ptr 0 0 ∧ env 5 = .ptr 1 0 ∧ (∃ z, H.get 0 = some z ∧ z.length = 4) ∧ H.get 1 = some (c3 ++ [.sc (.bool q)])

theorem AgSt.keep {l1 l2 : List Opt} {c3 : List AV} {q : Bool} {env env' : Env} {H : Heap} (h : AgSt l1 l2 c3 q env H) (h0 : env' 0 = env 0) (h1 : env' 1 = env 1) (h4 : env' 4 = env 4) (h5 : env' 5 = env 5) : AgSt l1 l2 c3 q env' H := by
  obtain ⟨e0, e1, e4, e5, hz, g1⟩ := h
  exact ⟨by rw [h0, e0], by rw [h1, e1], by rw [h4, e4], by rw [h5, e5], hz, g1⟩
theorem AgSt.put {l1 l2 : List Opt} {c3 c3' : List AV} {q q' : Bool} {env env' : Env} {H : Heap} {cs : List AV} (h : AgSt l1 l2 c3 q env H) (h0 : env' 0 = env 0) (h1 : env' 1 = env 1) (h4 : env' 4 = env 4) (h5 : env' 5 = env 5) (hc : cs = c3' ++ [.sc (.bool q')]) : AgSt l1 l2 c3' q' env' (H.set 1 cs) := by
  obtain ⟨e0, e1, e4, e5, ⟨z, g0, hz⟩, g1⟩ := h
  subst hc
  refine ⟨by rw [h0, e0], by rw [h1, e1], by rw [h4, e4], by rw [h5, e5], ⟨z, ?_, hz⟩, ?_⟩
  · rw [Heap.get_set]; simp [g0]
  · rw [Heap.get_set]; simp [g1]

set_option maxHeartbeats 4000000 in
theorem agree_s (l1 l2 : List Opt) (h1 : goodO l1) (h2 : goodO l2) : SCalls Try.prog 33 [optsA l1, optsA l2] Heap.empty (.agg (agrV l1 l2)) Heap.empty := by
  obtain ⟨x, hx⟩ : ∃ x, findO l1 18 = x := ⟨_, rfl⟩
  obtain ⟨q, hq⟩ : ∃ q, bothB (findO l1 18) (findO l2 18) = q := ⟨_, rfl⟩
  obtain ⟨x', hx'⟩ : ∃ x, findO l1 26 = x := ⟨_, rfl⟩
  obtain ⟨q', hq'⟩ : ∃ q, bothB (findO l1 26) (findO l2 26) = q := ⟨_, rfl⟩
  have ok1 := fun d => @findO_ok l1 h1.2 18 d
  have ok2 := fun d => @findO_ok l1 h1.2 26 d
  have c1 := both_H l1 l2 18 h1 h2
  have c2 := both_H l1 l2 26 h1 h2
  have hsome : q = true → ∃ d, x = some d := by
    intro h
    rw [← hq] at h
    rw [← hx]
    cases hf : findO l1 18 with
    | none => rw [hf] at h; simp [bothB] at h
    | some d => exact ⟨d, rfl⟩
  have hsome' : q' = true → ∃ d, x' = some d := by
    intro h
    rw [← hq'] at h
    rw [← hx']
    cases hf : findO l1 26 with
    | none => rw [hf] at h; simp [bothB] at h
    | some d => exact ⟨d, rfl⟩
  rw [hq, hx] at c1
  rw [hq', hx'] at c2
  rw [hx] at ok1
  rw [hx'] at ok2
  have hres : agrV l1 l2 = three x q ++ [.sc (.bool (deflB x' q'))] := by rw [agrV, hq, hx, hq', hx']
  obtain ⟨i3, p3, r3, h3⟩ := three_shape x q
  rw [hres]
  refine scalls_of_k (sz := 59) (Try.call33) Try.func33 rfl (Nat.le_refl _) (by kernel_rfl) (fun R hR => ?_)
  refine scode_seq_k (fun K1 hK1 => ?_)
  refine scode_region (by kernel_rfl) ?_
  simp [go_sem]
  refine hK1 _ _ ?_
  clear hK1 K1
  refine scode_seq_k (fun K1 hK1 => ?_)
  refine scode_region (by kernel_rfl) ?_
  simp [go_sem]
  refine hK1 _ _ ?_
  clear hK1 K1
  refine scode_gen (AgSt l1 l2 zero3 false) ?_ ?_
  · exact ⟨by simp [go_sem], by simp [go_sem], by simp [go_sem], by simp [go_sem], ⟨_, by simp [go_sem]; rfl, rfl⟩, by simp [go_sem, zero3]⟩
  intro env H h
  refine scode_seq_mid (AgSt l1 l2 (three x q) false) ?_ ?_
  · have ⟨e0, e1, e4, e5, ⟨z, g0, hz⟩, g1⟩ := h
    refine scode_seq_k (fun K2 hK2 => ?_)
    refine scode_region (by kernel_rfl) ?_
    refine w_take 3 (fun K6 hK6 => ?_)
    simp [go_sem, e0, e1]
    refine ⟨_, _, c1 _, ?_⟩
    refine hK6 _ _ ?_
    clear hK6 K6
    simp [go_sem]
    refine hK2 _ _ ?_
    clear hK2 K2
    refine scode_seq_k (fun K2 hK2 => ?_)
    refine scode_region (by kernel_rfl) ?_
    simp [go_sem]
    refine hK2 _ _ ?_
    clear hK2 K2
    refine scode_if (b := q) (by simp [go_sem]) (fun hqq => ?_) (fun hqq => ?_)
    case refine_2 =>
      refine scode_skip ?_
      have : three x q = zero3 := by subst hqq; exact three_false x
      rw [this]
      exact h.keep (by simp [go_sem]) (by simp [go_sem]) (by simp [go_sem]) (by simp [go_sem])
    obtain ⟨d, rfl⟩ := hsome hqq
    subst hqq
    obtain ⟨okb, okl⟩ := ok1 d rfl
    refine scode_seq_k (fun K2 hK2 => ?_)
    refine scode_region (by kernel_rfl) ?_
    refine w_take 2 (fun K6 hK6 => ?_)
    simp [go_sem, foundA]
    by_cases hd4 : d.length = 4
    case neg =>
      have hz3 : three (some d) true = zero3 := three_no4 d true hd4
      refine ⟨_, _, scalls_frame (number_no d hd4) (by simp [bytesA_lt]) (by simp [go_sem]) _, ?_⟩
      refine hK6 _ _ ?_
      clear hK6 K6
      simp [go_sem]
      refine hK2 _ _ ?_
      clear hK2 K2
      refine scode_seq_k (fun K2 hK2 => ?_)
      refine scode_region (by kernel_rfl) ?_
      simp [go_sem]
      refine hK2 _ _ ?_
      clear hK2 K2
      refine scode_if (b := false) (by simp [go_sem]) (fun h => by cases h) (fun _ => ?_)
      refine scode_skip ?_
      rw [hz3]
      exact h.keep (by simp [go_sem]) (by simp [go_sem]) (by simp [go_sem]) (by simp [go_sem])
    obtain ⟨b0, b1, b2, b3, rfl⟩ : ∃ b0 b1 b2 b3, d = [b0, b1, b2, b3] := by
      match d, hd4 with
      | [b0, b1, b2, b3], _ => exact ⟨_, _, _, _, rfl⟩
    have hth : three (some [b0, b1, b2, b3]) true = of4 (num4 b0 b1 b2 b3) := rfl
    refine ⟨_, _, scalls_frame (number4_s b0 b1 b2 b3 okb) (by simp [bytesA_lt]) (by simp [go_sem]) _, ?_⟩
    refine hK6 _ _ ?_
    clear hK6 K6
    obtain ⟨n, hn⟩ : ∃ n, num4 b0 b1 b2 b3 = n := ⟨_, rfl⟩
    rw [hn] at hth ⊢
    simp [go_sem]
    refine hK2 _ _ ?_
    clear hK2 K2
    refine scode_seq_k (fun K2 hK2 => ?_)
    refine scode_region (by kernel_rfl) ?_
    simp [go_sem]
    refine hK2 _ _ ?_
    clear hK2 K2
    refine scode_if (b := true) (by simp [go_sem]) (fun _ => ?_) (fun h => by cases h)
    refine scode_seq_k (fun K2 hK2 => ?_)
    refine scode_region (by kernel_rfl) ?_
    refine w_take 2 (fun K6 hK6 => ?_)
    simp [go_sem]
    refine ⟨_, _, strengths_H n _ rfl _, ?_⟩
    refine hK6 _ _ ?_
    clear hK6 K6
    rw [strR_eq]
    cases hsn : strN (Go.bits .and .i64 n 224) with
    | none =>
      simp [go_sem]
      refine hK2 _ _ ?_
      clear hK2 K2
      refine scode_seq_k (fun K2 hK2 => ?_)
      refine scode_region (by kernel_rfl) ?_
      simp [go_sem]
      refine hK2 _ _ ?_
      clear hK2 K2
      refine scode_if (b := false) (by simp [go_sem]) (fun h => by cases h) (fun _ => ?_)
      refine scode_skip ?_
      have hz3 : three (some [b0, b1, b2, b3]) true = zero3 := by rw [hth, of4, hsn]
      rw [hz3]
      exact h.keep (by simp [go_sem]) (by simp [go_sem]) (by simp [go_sem]) (by simp [go_sem])
    | some b =>
      have hz3 : three (some [b0, b1, b2, b3]) true = [.int b, .sc (.bool (decide (0 < b) && (Go.bits .and .i64 n 16777216 != 0))), .sc (.bool (Go.bits .and .i64 n 1 != 0))] := by rw [hth, of4, hsn]
      simp [go_sem]
      refine hK2 _ _ ?_
      clear hK2 K2
      refine scode_seq_k (fun K2 hK2 => ?_)
      refine scode_region (by kernel_rfl) ?_
      simp [go_sem]
      refine hK2 _ _ ?_
      clear hK2 K2
      refine scode_if (b := true) (by simp [go_sem]) (fun _ => ?_) (fun h => by cases h)
      refine scode_region (by kernel_rfl) ?_
      rw [hz3]
      by_cases hb0 : 0 < b
      · simp [go_sem, e5, g1, zero3, hb0]
        exact h.put (by simp [go_sem]) (by simp [go_sem]) (by simp [go_sem]) (by simp [go_sem]) (by simp)
      · simp [go_sem, e5, g1, zero3, hb0]
        exact h.put (by simp [go_sem]) (by simp [go_sem]) (by simp [go_sem]) (by simp [go_sem]) (by simp)
  clear h env H
  intro env H h
  refine scode_seq_mid (AgSt l1 l2 (three x q) (deflB x' q')) ?_ ?_
  · have ⟨e0, e1, e4, e5, ⟨z, g0, hz⟩, g1⟩ := h
    refine scode_seq_k (fun K2 hK2 => ?_)
    refine scode_region (by kernel_rfl) ?_
    refine w_take 3 (fun K6 hK6 => ?_)
    simp [go_sem, e0, e1]
    refine ⟨_, _, c2 _, ?_⟩
    refine hK6 _ _ ?_
    clear hK6 K6
    simp [go_sem]
    refine hK2 _ _ ?_
    clear hK2 K2
    refine scode_seq_k (fun K2 hK2 => ?_)
    have join : ∀ (env : Env), AgSt l1 l2 (three x q) false env H → env 56 = .sc (.bool (deflB x' q')) → K2 env H := by
      clear h e0 e1 e4 e5 g0 g1 env
      intro env h h56
      have ⟨e0, e1, e4, e5, ⟨z, g0, hz⟩, g1⟩ := h
      refine hK2 _ _ ?_
      refine scode_if (b := deflB x' q') (by simp [go_sem, h56]) (fun hqq => ?_) (fun hqq => ?_)
      · refine scode_region (by kernel_rfl) ?_
        simp [go_sem, e5, g1, h3]
        rw [hqq]
        exact h.put (by simp [go_sem]) (by simp [go_sem]) (by simp [go_sem]) (by simp [go_sem]) (by simp [h3])
      · refine scode_skip ?_
        rw [hqq]
        exact h
    refine scode_region (by kernel_rfl) ?_
    cases q' with
    | false =>
      have hdf : deflB x' false = false := by cases x' <;> rfl
      simp [go_sem]
      exact join _ (h.keep (by simp [go_sem]) (by simp [go_sem]) (by simp [go_sem]) (by simp [go_sem])) (by simp [go_sem, hdf])
    | true =>
      obtain ⟨d, rfl⟩ := hsome' rfl
      obtain ⟨okb, okl⟩ := ok2 d rfl
      have hdf : deflB (some d) true = (d == [120, 0]) := rfl
      simp [go_sem, foundA]
      refine ⟨_, _, asked_H _, ?_⟩
      refine ⟨_, _, equal_H d [120, 0] okb (by simp [isBytes]) _, ?_⟩
      exact join _ (h.keep (by simp [go_sem]) (by simp [go_sem]) (by simp [go_sem]) (by simp [go_sem])) (by simp [go_sem, hdf])
  clear h env H
  rintro env H ⟨e0, e1, e4, e5, ⟨z, g0, hz⟩, g1⟩
  rw [h3] at g1 hR
  have hzd : z.drop 4 = [] := List.drop_eq_nil_of_le (by omega)
  refine scode_seq_k (fun K1 hK1 => ?_)
  refine scode_region (by kernel_rfl) ?_
  simp [go_sem, e4, e5, g0, g1, hz, hzd]
  refine hK1 _ _ ?_
  refine scode_ret ?_
  simp only [go_sem]
  refine hR _ _ ?_
  refine ret_pure ?_ (.same _) (empty_le _) (Nat.zero_le _) ?_
  · simp [go_sem, e4, g0]
  · simp [go_sem]
end Go.Proofs.Ytmnbicoeahlpcaa
