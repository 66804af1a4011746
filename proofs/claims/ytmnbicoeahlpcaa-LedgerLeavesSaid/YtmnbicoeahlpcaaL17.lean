/- LedgerLeaves. -/
import Derived.Test.YtmnbicoeahlpcaaL16
import Derived.Test.YtmnbicoeahlpcaaFl37
set_option maxRecDepth 20000
noncomputable section
namespace Go.Proofs.Ytmnbicoeahlpcaa
open Go Go.Fl Go.Proofs

/-- A row that lies in the heap, or nil for none. -/
def Lies (x : AV) (H : Heap) (l : List Sn) : Prop := (x = .nil ∧ l = []) ∨ ∃ b, x = .ms b 0 l.length 3 ∧ H.get b = some (sentsV l)

theorem sent_lies {x : AV} {H : Heap} {l : List Sn} (h : Lies x H l) (hlen : l.length ≤ 1048576) : SCalls Try.prog 10 [x] H (sentsA l) H := by
  rcases h with ⟨rfl, rfl⟩ | ⟨b, rfl, hg⟩
  · exact scalls_freeze (H' := H) (Heap.le_refl _) rfl (.cons (.nil 3) .nil) (sent_H [] (by simp) H)
  · exact sent_m l hlen H b hg

theorem sentsV_take (l : List Sn) (i : Nat) : (sentsV l).take (i * 3) = sentsV (l.take i) := by
  have h : sentsV l = sentsV (l.take i) ++ sentsV (l.drop i) := by rw [← sentsV_append, List.take_append_drop]
  by_cases hi : i ≤ l.length
  · rw [h, List.take_left' (by rw [sentsV_len, List.length_take, Nat.min_eq_left hi])]
  · rw [List.take_of_length_le (by rw [sentsV_len]; omega), List.take_of_length_le (by omega)]

theorem sentsV_put (l : List Sn) (i : Nat) (s : Sn) : (sentsV l).take (i * 3) ++ (s.cells ++ (sentsV l).drop (i * 3 + 3)) = sentsV (l.take i ++ s :: l.drop (i + 1)) := by
  have e : i * 3 + 3 = (i + 1) * 3 := by omega
  rw [e, sentsV_take, sentsV_drop, sentsV_append]
  simp [sentsV]

theorem swap_row {l : List Sn} {k : Nat} {x y : Sn} {r2 pre : List Sn} (hpre : l.take k = pre) (hprel : pre.length = k) (ex : l[k]? = some x) (er : l.drop (k + 1 + 1) = r2) :
    (l.take (k + 1) ++ x :: l.drop (k + 1 + 1)).take k ++ y :: (l.take (k + 1) ++ x :: l.drop (k + 1 + 1)).drop (k + 1) = pre ++ y :: x :: r2 := by
  have e1 : l.take (k + 1) = pre ++ [x] := by rw [List.take_add_one, ex, hpre]; rfl
  rw [e1, er]
  have e2 : (pre ++ [x] ++ x :: r2).take k = pre := by rw [List.append_assoc, List.take_left' hprel]
  have e3 : (pre ++ [x] ++ x :: r2).drop (k + 1) = x :: r2 := List.drop_left' (by simp [hprel])
  rw [e2, e3]

set_option maxHeartbeats 8000000 in
theorem leaves_s (a : List Sn) (keep : List Int) (ha : good a) (hk : keep.length ≤ maxLen) : SCalls Try.prog 5 [sentsA a, bytesA keep] Heap.empty (.bool true) Heap.empty := by
  refine scalls_of_k (sz := 122) (Try.call5) Try.func5 rfl (Nat.le_refl _) (by kernel_rfl) (fun R hR => ?_)
  have fin : ∀ (env : Env) (H : Heap), env 4 = .sc (.bool true) → R env H := by
    intro env H h
    refine hR _ _ ?_
    exact ret_plain (by simp [go_sem, h]) (empty_le _) (Nat.zero_le _) (by simp [go_sem])
  refine scode_seq_k (fun K1 hK1 => ?_)
  refine scode_region (by kernel_rfl) ?_
  simp [go_sem]
  refine hK1 _ _ ?_
  clear hK1 K1
  refine scode_seq_k (fun K1 hK1 => ?_)
  refine scode_seq_k (fun K2 hK2 => ?_)
  refine scode_region (by kernel_rfl) ?_
  simp [go_sem]
  refine ⟨_, _, awake_s, ?_⟩
  simp [go_sem]
  refine hK2 _ _ ?_
  refine scode_if (b := false) (by simp [go_sem]) (fun h => by cases h) (fun _ => ?_)
  refine scode_skip ?_
  refine hK1 _ _ ?_
  clear hK1 hK2 K1 K2
  refine scode_seq_k (fun K1 hK1 => ?_)
  refine scode_seq_k (fun K2 hK2 => ?_)
  have out : ∀ (env : Env) (H : Heap), env 17 = .sc (.bool true) → K2 env H := by
    intro env H h
    refine hK2 _ _ ?_
    refine scode_if (b := true) (by simp [go_sem, h]) (fun _ => ?_) (fun h => by cases h)
    refine scode_seq_k (fun K3 hK3 => ?_)
    refine scode_region (by kernel_rfl) ?_
    simp [go_sem]
    refine hK3 _ _ ?_
    refine scode_ret ?_
    simp only [go_sem]
    exact fin _ _ (by simp [go_sem])
  refine scode_region (by kernel_rfl) ?_
  refine w_take 2 (fun K6 hK6 => ?_)
  simp [go_sem]
  refine ⟨_, _, small_s a, ?_⟩
  refine hK6 _ _ ?_
  clear hK6 K6
  obtain ⟨q, hq⟩ : ∃ q, smallB a = q := ⟨_, rfl⟩
  rw [hq]
  cases q
  · simp [go_sem]
    exact out _ _ (by simp [go_sem])
  by_cases hq2 : (100 : Int) < (keep.length : Int)
  · simp [go_sem, bytesA, hq2]
    exact out _ _ (by simp [go_sem])
  simp [go_sem, bytesA, hq2]
  refine hK2 _ _ ?_
  clear hK2 K2 out
  have hla := smallB_len hq
  have oka : ∀ s ∈ a, s.ok := fun s hs => (ha.2 s hs).1
  have lena : ∀ s ∈ a, s.info.length ≤ maxLen := fun s hs => (ha.2 s hs).2
  have hkl : keep.length ≤ 100 := by omega
  refine scode_if (b := false) (by simp [go_sem]) (fun h => by cases h) (fun _ => ?_)
  refine scode_skip ?_
  refine hK1 _ _ ?_
  clear hK1 K1
  refine scode_gen (fun env _ => env 0 = sentsA a ∧ env 1 = bytesA keep) ?_ ?_
  · simp [go_sem, sentsA, bytesA]
  rintro env H ⟨h0, h1⟩
  refine scode_seq_k (fun K1 hK1 => ?_)
  refine scode_region (by kernel_rfl) ?_
  simp [go_sem]
  refine hK1 _ _ ?_
  clear hK1 K1
  refine scode_seq_k (fun K1 hK1 => ?_)
  refine scode_seq_k (fun K2 hK2 => ?_)
  refine scode_region (by kernel_rfl) ?_
  simp [go_sem]
  refine hK2 _ _ ?_
  clear hK2 K2
  refine scode_block ?_
  refine scode_loop (Inv := fun n env H => ∃ i : Nat, n = a.length - i ∧ i ≤ a.length ∧ env 0 = sentsA a ∧ env 1 = bytesA keep ∧ env 6 = .sc (.int .i64 i) ∧ Lies (env 5) H (leftL a keep i)) ?_ (n := a.length) ⟨0, rfl, Nat.zero_le _, by simp [go_sem, h0], by simp [go_sem, h1], by simp [go_sem], .inl ⟨by simp [go_sem], rfl⟩⟩
  clear h0 h1 env H
  rintro n env H ⟨i, rfl, hi, h0, h1, h6, h5⟩
  refine scode_seq_k (fun K2 hK2 => ?_)
  refine scode_seq_k (fun K3 hK3 => ?_)
  refine scode_region (by kernel_rfl) ?_
  simp [go_sem, h0, h6, sentsA]
  refine hK3 _ _ ?_
  clear hK3 K3
  refine scode_if (b := decide (i < a.length)) (by simp [go_sem]) (fun hb => ?_) (fun hb => ?_)
  · refine scode_skip ?_
    refine hK2 _ _ ?_
    clear hK2 K2
    simp only [decide_eq_true_eq] at hb
    obtain ⟨s, r, e1, e2, e3⟩ := drop_cons hb
    have hrow : ((sentsV a).drop (i * 3)).take 3 = s.cells := by rw [sentsV_drop, e1]; simp [sentsV, Sn.cells]
    have hle : 3 ≤ a.length * 3 - i * 3 := by omega
    have hw : IntKind.i64.wrap ((i : Int) + 1) = ((i + 1 : Nat) : Int) := by
      rw [IntWalk.i64_in _ (by omega)]; rfl
    have hll := left_len a keep i
    refine scode_seq_k (fun K4 hK4 => ?_)
    have step : ∀ (env : Env) (H : Heap), env 0 = sentsA a → env 1 = bytesA keep → env 6 = .sc (.int .i64 i) → Lies (env 5) H (leftL a keep (i + 1)) → K4 env H := by
      intro env H h0 h1 h6 h5
      refine hK4 _ _ ?_
      refine scode_region (by kernel_rfl) ?_
      simp [go_sem, h0, h1, h6, hw]
      exact ⟨a.length - (i + 1), by omega, i + 1, rfl, by omega, rfl, h5⟩
    refine scode_block ?_
    refine scode_seq_k (fun K5 hK5 => ?_)
    have join : ∀ (env : Env) (H : Heap), env 0 = sentsA a → env 1 = bytesA keep → env 6 = .sc (.int .i64 i) → Lies (env 5) H (leftL a keep i) → env 35 = .sc (.bool (keptB keep i)) → K5 env H := by
      clear h0 h1 h6 h5 env H
      intro env H h0 h1 h6 h5 h35
      refine hK5 _ _ ?_
      refine scode_if (b := keptB keep i) (by simp [go_sem, h35]) (fun hq => ?_) (fun hq => ?_)
      · refine scode_region (by kernel_rfl) ?_
        have hleft : leftL a keep (i + 1) = leftL a keep i ++ [s] := by rw [leftL, e3]; simp [hq]
        have hlv : sentsV (leftL a keep (i + 1)) = sentsV (leftL a keep i) ++ s.cells := by rw [hleft, sentsV_append]; simp [sentsV]
        have hln : (leftL a keep (i + 1)).length = (leftL a keep i).length + 1 := by rw [hleft]; simp
        rcases h5 with ⟨h5, hnil⟩ | ⟨b, h5, hg⟩
        · simp [go_sem, h0, h5, h6, sentsA, sentsV_len, hb, hrow, hle, Sn.cells, zrep, bytesA]
          refine step _ _ (by simp [go_sem, h0]) (by simp [go_sem, h1]) (by simp [go_sem, h6]) (.inr ⟨_, by simp [go_sem, hln, hnil]; rfl, ?_⟩)
          rw [hlv, hnil]
          simp [go_sem, Sn.cells, sentsV, bytesA]
        · have hbn : b ≠ H.next := by have := Heap.lt_of_get hg; omega
          have hb1 : ((leftL a keep i).length + 1) * 40 ≤ 140737488355328 := by omega
          have hb2 : (leftL a keep i).length ≤ 140737488355327 := by omega
          simp [go_sem, h0, h5, h6, hg, sentsA, sentsV_len, hb, hrow, hle, Sn.cells, zrep, bytesA, hbn, hb1, hb2]
          refine step _ _ (by simp [go_sem, h0]) (by simp [go_sem, h1]) (by simp [go_sem, h6]) (.inr ⟨_, by simp [go_sem, hln]; rfl, ?_⟩)
          rw [hlv]
          simp [go_sem, Sn.cells, bytesA]
      · refine scode_skip ?_
        have hleft : leftL a keep (i + 1) = leftL a keep i := by rw [leftL, e3]; simp [hq]
        refine step _ _ h0 h1 h6 ?_
        rw [hleft]; exact h5
    refine scode_region (by kernel_rfl) ?_
    by_cases hki : i < keep.length
    · obtain ⟨n, rest, g1, g2, g3⟩ := drop_cons hki
      have hkb : keptB keep i = (band .u8 n 1 == 1) := by rw [keptB, g3]
      have hge : ¬ (keep.length : Int) ≤ (i : Int) := by omega
      have hbd : (bytesV keep).drop i = .sc (.int .u8 n) :: bytesV rest := by rw [bytesV_drop, g1]; rfl
      have hge2 : ¬ keep.length ≤ i := by omega
      simp [go_sem, h0, h1, h6, bytesA, len_bytesV, hki, hge, hge2, hbd]
      refine join _ _ (by simp [go_sem, h0]) (by simp [go_sem, h1]) (by simp [go_sem, h6]) (by simpa [go_sem] using h5) (by simp [go_sem, hkb]; rfl)
    · have hkb : keptB keep i = true := by rw [keptB, List.getElem?_eq_none (by omega)]
      have hge2 : keep.length ≤ i := by omega
      simp [go_sem, h0, h1, h6, bytesA, len_bytesV, hge2]
      refine join _ _ (by simp [go_sem, h0]) (by simp [go_sem, h1]) (by simp [go_sem, h6]) (by simpa [go_sem] using h5) (by simp [go_sem, hkb])
  · refine scode_exit ?_
    refine hK1 _ _ ?_
    clear hK2 K2
    simp only [decide_eq_false_iff_not] at hb
    obtain rfl : i = a.length := by omega
    obtain ⟨l, hl⟩ : ∃ l, leftL a keep a.length = l := ⟨_, rfl⟩
    rw [hl] at h5
    have hsub : l.Sublist a := by have := left_sub a keep a.length; rw [hl, List.take_length] at this; exact this
    have hll : l.length ≤ 60 := by have := hsub.length_le; omega
    have okl : ∀ s ∈ l, s.ok := fun s hs => oka s (hsub.subset hs)
    have hf1 : firstL a l 0 0 = -1 := first_sub a a [] l 0 0 rfl hsub (Nat.zero_le _)
    have hm1 : missingL a l = (a.length : Int) - (l.length : Int) := by rw [missingL, hf1]; simp
    clear hl
    refine scode_gen (fun env H => env 0 = sentsA a ∧ Lies (env 5) H l) ?_ ?_
    · exact ⟨by simp [go_sem, h0, sentsA], by simpa [go_sem] using h5⟩
    clear h0 h1 h6 h5 env H
    rintro env H ⟨h0, h5⟩
    have hlen5 : ∀ {env : Env} {H : Heap}, Lies (env 5) H l → env 5 = .nil ∧ l.length = 0 ∨ ∃ b, env 5 = .ms b 0 l.length 3 := by
      rintro env H (⟨h, rfl⟩ | ⟨b, h, _⟩)
      · exact .inl ⟨h, rfl⟩
      · exact .inr ⟨b, h⟩
    have hs5 := sent_lies h5 (by omega)
    have hf := first_H a l oka okl (by omega) (by omega) H
    have hm := missing_H a l oka okl (by omega) (by omega) H
    rw [hf1] at hf
    rw [hm1] at hm
    have hw1 : IntKind.i64.wrap ((a.length : Int) - (l.length : Int)) = (a.length : Int) - (l.length : Int) := IntWalk.i64_in _ (by omega)
    have hw2 : IntKind.i64.wrap (a.length : Int) = (a.length : Int) := IntWalk.i64_in _ (by omega)
    refine scode_seq_k (fun K1 hK1 => ?_)
    refine scode_seq_k (fun K2 hK2 => ?_)
    refine scode_region (by kernel_rfl) ?_
    refine w_take 5 (fun K6 hK6 => ?_)
    simp [go_sem, h0]
    refine ⟨_, _, sent_H a (by omega) H, ?_⟩
    refine ⟨_, _, hs5, ?_⟩
    refine ⟨_, _, hf, ?_⟩
    refine hK6 _ _ ?_
    clear hK6 K6
    refine w_take 7 (fun K6 hK6 => ?_)
    simp [go_sem, h0]
    refine ⟨_, _, sent_H a (by omega) H, ?_⟩
    refine ⟨_, _, hs5, ?_⟩
    refine ⟨_, _, hm, ?_⟩
    refine hK6 _ _ ?_
    clear hK6 K6
    have join : ∀ env : Env, env 0 = sentsA a → Lies (env 5) H l → env 61 = .sc (.bool false) → K2 env H := by
      clear h0 h5 hs5 hf hm env
      intro env h0 h5 h61
      refine hK2 _ _ ?_
      clear hK2 K2
      refine scode_if (b := false) (by simp [go_sem, h61]) (fun h => by cases h) (fun _ => ?_)
      refine scode_skip ?_
      refine hK1 _ _ ?_
      clear hK1 K1
      refine scode_seq_k (fun K1 hK1 => ?_)
      refine scode_seq_k (fun K2 hK2 => ?_)
      refine scode_region (by kernel_rfl) ?_
      simp [go_sem]
      refine hK2 _ _ ?_
      clear hK2 K2
      refine scode_block ?_
      refine scode_loop (Inv := fun n env H => ∃ k : Nat, n = l.length - k ∧ env 0 = sentsA a ∧ Lies (env 5) H l ∧ env 7 = .sc (.int .i64 ((k + 1 : Nat) : Int))) ?_ (n := l.length) ⟨0, rfl, by simp [go_sem, h0], by simpa [go_sem] using h5, by simp [go_sem]⟩
      clear h0 h5 h61 env H
      rintro n env H ⟨k, rfl, h0, h5, h7⟩
      refine scode_seq_k (fun K2 hK2 => ?_)
      refine scode_seq_k (fun K3 hK3 => ?_)
      refine scode_region (by kernel_rfl) ?_
      have leave : ∀ (env : Env) (H : Heap), K1 env H := by
        intro env H
        refine hK1 _ _ ?_
        refine scode_seq_k (fun K4 hK4 => ?_)
        refine scode_region (by kernel_rfl) ?_
        simp [go_sem]
        refine hK4 _ _ ?_
        refine scode_ret ?_
        simp only [go_sem]
        exact fin _ _ (by simp [go_sem])
      obtain ⟨j, hj⟩ : ∃ j, k + 1 = j := ⟨_, rfl⟩
      rw [hj] at h7
      rcases h5 with ⟨h5, hnil⟩ | ⟨b, h5, hg⟩
      · have hneg : ¬ (j : Int) < 0 := by omega
        simp [go_sem, h5, h7, hneg]
        refine hK3 _ _ ?_
        refine scode_if (b := false) (by simp [go_sem]) (fun h => by cases h) (fun _ => ?_)
        refine scode_exit ?_
        exact leave _ _
      simp [go_sem, h5, h7]
      refine hK3 _ _ ?_
      clear hK3 K3
      refine scode_if (b := decide (j < l.length)) (by simp [go_sem]) (fun hb => ?_) (fun hb => ?_)
      case refine_2 =>
        refine scode_exit ?_
        exact leave _ _
      refine scode_skip ?_
      refine hK2 _ _ ?_
      clear hK2 K2
      simp only [decide_eq_true_eq] at hb
      have hk : k < l.length := by omega
      obtain ⟨x, r1, e1, e2, e3⟩ := drop_cons hk
      obtain ⟨y, r2, f1, f2, f3⟩ := drop_cons hb
      have hxy : l.drop k = x :: y :: r2 := by rw [e1, ← e2, hj, f1]
      have hrowx : ((sentsV l).drop (k * 3)).take 3 = x.cells := by rw [sentsV_drop, e1]; simp [sentsV, Sn.cells]
      have hrowy : ((sentsV l).drop (j * 3)).take 3 = y.cells := by rw [sentsV_drop, f1]; simp [sentsV, Sn.cells]
      have hlex : k * 3 + 3 ≤ l.length * 3 := by omega
      have hley : j * 3 + 3 ≤ l.length * 3 := by omega
      have hw : IntKind.i64.wrap ((j : Int) - 1) = (k : Int) := by
        rw [IntWalk.i64_in _ (by omega)]; omega
      have hwj : IntKind.i64.wrap ((j : Int) + 1) = ((k + 1 + 1 : Nat) : Int) := by
        rw [IntWalk.i64_in _ (by omega)]; omega
      have cy := place24_H a y 0 lena (by unfold maxLen; omega) (by omega) H
      have cx := place24_H a x 0 lena (by unfold maxLen; omega) (by omega) H
      have ay := alone_H a y lena (by omega) H
      have ax := alone_H a x lena (by omega) H
      obtain ⟨py, hpy⟩ : ∃ p, placeL (a.drop (0 : Int).toNat) (0 : Int).toNat y = p := ⟨_, rfl⟩
      obtain ⟨px, hpx⟩ : ∃ p, placeL (a.drop (0 : Int).toNat) (0 : Int).toNat x = p := ⟨_, rfl⟩
      obtain ⟨qy, hqy⟩ : ∃ p, aloneB a y = p := ⟨_, rfl⟩
      obtain ⟨qx, hqx⟩ : ∃ p, aloneB a x = p := ⟨_, rfl⟩
      rw [hpy] at cy
      rw [hpx] at cx
      rw [hqy] at ay
      rw [hqx] at ax
      refine scode_seq_k (fun K4 hK4 => ?_)
      refine scode_block ?_
      refine scode_seq_k (fun K5 hK5 => ?_)
      have next : ∀ env : Env, env 0 = sentsA a → env 5 = .ms b 0 l.length 3 → env 7 = .sc (.int .i64 j) → env 98 = .sc (.bool false) → K5 env H := by
        clear h0 h5 h7 env
        intro env h0 h5 h7 h98
        refine hK5 _ _ ?_
        refine scode_if (b := false) (by simp [go_sem, h98]) (fun h => by cases h) (fun _ => ?_)
        refine scode_skip ?_
        refine hK4 _ _ ?_
        refine scode_region (by kernel_rfl) ?_
        simp [go_sem, h0, h5, h7, hwj]
        refine ⟨l.length - (k + 1), by omega, k + 1, rfl, .inr ⟨b, by simp [go_sem, h5], hg⟩, by simp⟩
      refine scode_drawS mixed (by kernel_rfl) ?_
      refine ws_take 6 (fun K6 hK6 => ?_)
      simp [go_sem, h0, h5, h7, hg, hb, sentsV_len, hley, hrowy]
      refine ⟨_, _, cy, ?_⟩
      simp only [true_and]
      refine hK6 _ _ ?_
      clear hK6 K6
      refine ws_take 7 (fun K6 hK6 => ?_)
      simp [go_sem, h0, h5, h7, hg, hw, hk, sentsV_len, hlex, hrowx]
      refine ⟨_, _, cx, ?_⟩
      simp only [true_and]
      refine hK6 _ _ ?_
      clear hK6 K6
      by_cases hne : py = px
      · have hnb : (py != px) = false := by simp [hne]
        simp [go_sem, h0, h5, h7, hnb]
        exact next _ (by simp [go_sem, h0]) (by simp [go_sem, h5]) (by simp [go_sem, h7]) (by simp [go_sem])
      have hnb : (py != px) = true := by simp [hne]
      refine ws_take 8 (fun K6 hK6 => ?_)
      simp [go_sem, h0, h5, h7, hg, hb, sentsV_len, hley, hrowy, hnb]
      refine ⟨_, _, ay, ?_⟩
      simp only [true_and]
      refine hK6 _ _ ?_
      clear hK6 K6
      cases qy
      · simp [go_sem, h0, h5, h7, hnb]
        exact next _ (by simp [go_sem, h0]) (by simp [go_sem, h5]) (by simp [go_sem, h7]) (by simp [go_sem])
      refine ws_take 9 (fun K6 hK6 => ?_)
      simp [go_sem, h0, h5, h7, hg, hw, hk, sentsV_len, hlex, hrowx]
      refine ⟨_, _, ax, ?_⟩
      simp only [true_and]
      refine hK6 _ _ ?_
      clear hK6 K6
      cases qx
      · simp [go_sem]
        exact next _ (by simp [go_sem, h0]) (by simp [go_sem, h5]) (by simp [go_sem, h7]) (by simp [go_sem])
      simp [go_sem]
      refine hK5 _ _ ?_
      clear next hK5 K5
      obtain ⟨ox, hox⟩ := alone_only hqx
      obtain ⟨oy, hoy⟩ := alone_only hqy
      have hlsplit : l = l.take k ++ (x :: y :: r2) := by rw [← hxy, List.take_append_drop]
      obtain ⟨pre, hpre⟩ : ∃ pre, l.take k = pre := ⟨_, rfl⟩
      have hprel : pre.length = k := by rw [← hpre, List.length_take, Nat.min_eq_left (by omega)]
      rw [hpre] at hlsplit
      have hsw := first_swap a x y r2 hox hoy pre 0 0 (by rw [← hlsplit]; exact hf1)
      refine scode_if (b := true) (by simp [go_sem]) (fun _ => ?_) (fun h => by cases h)
      refine scode_gen (fun env H => env 0 = sentsA a ∧ env 5 = .ms b 0 l.length 3 ∧ env 7 = .sc (.int .i64 j) ∧ H.get b = some (sentsV l)) ?_ ?_
      · exact ⟨by simp [go_sem, h0], by simp [go_sem, h5], by simp [go_sem, h7], hg⟩
      clear cy cx ay ax hg h7 h5 h0 env H
      rintro env H ⟨h0, h5, h7, hg⟩
      refine scode_seq_k (fun K6 hK6 => ?_)
      have lx : ∀ z ∈ x.cells, z.leaf = true := fun z hz => leaf_sents [x] z (by simpa [sentsV] using hz)
      have ly : ∀ z ∈ y.cells, z.leaf = true := fun z hz => leaf_sents [y] z (by simpa [sentsV] using hz)
      simp only [AV.leaf] at lx ly
      refine scode_draw_o mixed (by kernel_rfl) [0, 0, 0, 0, 8, 0, 0, 64, 224, 480, 0, 0, 3072, 7168, 16355, 32739, 65535, 131071] (by kernel_rfl) (fun ops' _ => ?_)
      refine wd_take 10 (by decide) (fun K7 hK7 => ?_)
      simp [go_sem, h0, h5, h7, hg, hw, hk, sentsV_len, hlex, hrowx]
      refine hK7 _ _ _ _ ?_
      clear hK7 K7
      refine wd_take 4 (by decide) (fun K7 hK7 => ?_)
      simp [go_sem, h0, h5, h7, hg, hb, sentsV_len, hley, hrowy]
      refine hK7 _ _ _ _ ?_
      clear hK7 K7
      refine wd_take 2 (by decide) (fun K7 hK7 => ?_)
      simp [go_sem, h0, h5, h7, hg, hb, sentsV_len, hley, befL, eq_true lx]
      refine hK7 _ _ _ _ ?_
      clear hK7 K7
      rw [sentsV_put l j x]
      obtain ⟨l1, hl1⟩ : ∃ l1, l.take j ++ x :: l.drop (j + 1) = l1 := ⟨_, rfl⟩
      rw [hl1]
      have hl1l : l1.length = l.length := by rw [← hl1]; simp; omega
      have hlex1 : k * 3 + 3 ≤ l1.length * 3 := by omega
      have hk1 : k < l1.length := by omega
      simp [go_sem, h0, h5, h7, hg, hw, hk, sentsV_len, hlex1, befL, eq_true ly]
      rw [sentsV_put l1 k y]
      have hl2 : l1.take k ++ y :: l1.drop (k + 1) = pre ++ y :: x :: r2 := by
        rw [← hl1, ← hj]
        exact swap_row hpre hprel e3 (by rw [hj, f2])
      rw [hl2]
      have hl2l : (pre ++ y :: x :: r2).length = l.length := by rw [← hl2]; simp; omega
      have okl2 : ∀ s ∈ pre ++ y :: x :: r2, s.ok := fun s hs => okl s (by
        rw [hlsplit]
        simp only [List.mem_append, List.mem_cons] at hs ⊢
        rcases hs with h | h | h | h
        · exact .inl h
        · exact .inr (.inr (.inl h))
        · exact .inr (.inl h)
        · exact .inr (.inr (.inr h)))
      refine hK6 _ _ ?_
      clear hK6 K6
      refine scode_gen (fun env H => env 0 = sentsA a ∧ Lies (env 5) H (pre ++ y :: x :: r2) ∧ env 7 = .sc (.int .i64 j)) ?_ ?_
      · exact ⟨by simp [go_sem, h0], .inr ⟨b, by rw [hl2l]; simp [go_sem, h5], by simp [go_sem, hg]⟩, by simp [go_sem, h7]⟩
      clear hg h7 h5 h0 env H
      rintro env H ⟨h0, h5, h7⟩
      have hs5 := sent_lies h5 (by omega)
      have hf := first_H a (pre ++ y :: x :: r2) oka okl2 (by omega) (by omega) H
      rw [hsw] at hf
      have hjj : 0 + pre.length + 1 = j := by omega
      rw [hjj] at hf
      refine scode_seq_k (fun K6 hK6 => ?_)
      refine scode_region (by kernel_rfl) ?_
      simp [go_sem, h0, h7]
      refine ⟨_, _, sent_H a (by omega) H, ?_⟩
      refine ⟨_, _, hs5, ?_⟩
      refine ⟨_, _, hf, ?_⟩
      simp [go_sem, h7]
      refine hK6 _ _ ?_
      refine scode_ret ?_
      simp only [go_sem]
      exact fin _ _ (by simp [go_sem])
    rcases h5 with ⟨h5, hnil⟩ | ⟨b, h5, hg⟩
    · subst hnil
      simp [go_sem, h0, h5, sentsA, hw2]
      exact join _ (by simp [go_sem, h0]) (.inl ⟨by simp [go_sem, h5], rfl⟩) (by simp [go_sem])
    · simp [go_sem, h0, h5, sentsA, hw1]
      exact join _ (by simp [go_sem, h0]) (.inr ⟨b, by simp [go_sem, h5], hg⟩) (by simp [go_sem])
end Go.Proofs.Ytmnbicoeahlpcaa
