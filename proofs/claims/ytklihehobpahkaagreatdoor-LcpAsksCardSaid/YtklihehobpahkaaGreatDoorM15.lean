/- Contracts: the document's Units and Hash. -/
import Derived.Test.YtklihehobpahkaaGreatDoorM12
set_option linter.unusedVariables false
set_option linter.unusedSimpArgs false
set_option maxRecDepth 20000
noncomputable section
namespace Go.Proofs.YtklihehobpahkaaGreatDoor
open Go Go.Fl Go.Proofs

def unitsR (s : ByteArray) : AV := match walkU s.size s with
  | none => .tup [.nil, .int 4]
  | some k => if 256 < k then .tup [.nil, .int 3] else .tup [aiA .u8 (2 * k), .int 0]

theorem let_zero (s : ByteArray) (h : 0 < s.size) : letD s = (0, 0) ∨ (1 ≤ (letD s).2 ∧ (letD s).2 ≤ s.size ∧ (letD s).1 ≤ 1114111) := by
  rcases dec_let s h with ⟨h1, _⟩ | ⟨h1, _, h2, _, h3, h4, _⟩
  · exact .inl h1
  · rw [h1]; exact .inr ⟨h2, h3, h4⟩

set_option maxHeartbeats 8000000 in
theorem units2_s (s : ByteArray) (hs : s.size ≤ 100000) : SCalls Tryz.prog 44 [.sc (.string s)] Heap.empty (unitsR s) Heap.empty := by
  have hl := fun s' h hz H => scalls_frame (letter_s s' h hz) (by simp [go_sem]) (by simp [go_sem]) H
  refine scalls_of_k (sz := 61) (Tryz.call44) Tryz.func44 rfl (Nat.le_refl _) (by kernel_rfl) (fun R hR => ?_)
  refine scode_seq_k (fun K1 hK1 => ?_)
  refine scode_region (by kernel_rfl) ?_
  simp [go_sem]
  refine hK1 _ _ ?_
  clear hK1 K1
  refine scode_seq_k (fun K2 hK2 => ?_)
  refine scode_region (by kernel_rfl) ?_
  simp [go_sem]
  refine hK2 _ _ ?_
  clear hK2 K2
  refine scode_seq_mid (fun env H => ∃ k cs bo, grown H 1 (env 4) = some (2 * k, cs, bo) ∧ allK .u8 cs ∧ walkU s.size s = some k) ?_ ?_
  · refine scode_seq_k (fun K3 hK3 => ?_)
    refine scode_region (by kernel_rfl) ?_
    simp [go_sem]
    refine hK3 _ _ ?_
    clear hK3 K3
    refine scode_block ?_
    refine scode_loop (Inv := fun m env H => ∃ (i f k : Nat) (cs : List AV) (bo : Option Nat), m = s.size - i ∧ i ≤ s.size ∧ s.size - i ≤ f ∧ k + 2 * (s.size - i) ≤ 2 * s.size ∧ env 0 = .sc (.string s) ∧ env 5 = .int i ∧ grown H 1 (env 4) = some (2 * k, cs, bo) ∧ allK .u8 cs ∧ walkU s.size s = (walkU f (s.extract i s.size)).map (· + k)) ?_ (n := s.size) ⟨0, s.size, 0, [], none, rfl, by omega, by omega, by omega, by simp [go_sem], by simp [go_sem], by simp [go_sem], (fun x hx => by cases hx), by simp⟩
    rintro m env H ⟨i, f, k, cs, bo, rfl, his, hsf, hk, h0, h5, hg, hc, hw⟩
    refine scode_seq_k (fun K5 hK5 => ?_)
    refine scode_seq_k (fun K6 hK6 => ?_)
    refine scode_region (by kernel_rfl) ?_
    simp [go_sem, h0, h5]
    refine hK6 _ _ ?_
    clear hK6 K6
    refine scode_if (b := decide (i < s.size)) (by simp [go_sem]) (fun hb => ?_) (fun hb => ?_)
    · refine scode_skip ?_
      refine hK5 _ _ ?_
      clear hK5 K5
      have hpos : i < s.size := by simpa using hb
      have hsz := size_ext s i (by omega)
      obtain ⟨s', hs'⟩ : ∃ s', s.extract i s.size = s' := ⟨_, rfl⟩
      rw [hs'] at hw hsz
      have hne : ¬ s'.size = 0 := by omega
      obtain ⟨f', rfl⟩ : ∃ f', f = f' + 1 := ⟨f - 1, by omega⟩
      refine scode_block ?_
      refine scode_seq_k (fun K7 hK7 => ?_)
      refine scode_region (by kernel_rfl) ?_
      refine w_take 4 (fun K8 hK8 => ?_)
      simp [go_sem, h0, h5, str_slice s .i64 i (by omega), hs']
      refine ⟨_, _, hl s' (by omega) (by omega) _, ?_⟩
      refine hK8 _ _ ?_
      clear hK8 K8
      simp [go_sem]
      refine hK7 _ _ ?_
      clear hK7 K7
      refine scode_gen (fun env H => env 0 = .sc (.string s) ∧ env 5 = .int i ∧ env 6 = .int (letD s').1 ∧ env 7 = .int (letD s').2 ∧ grown H 1 (env 4) = some (2 * k, cs, bo)) ⟨by simp [go_sem, h0], by simp [go_sem, h5], by simp [go_sem], by simp [go_sem], by simpa [go_sem] using hg⟩ ?_
      clear hg h0 h5
      rintro env H ⟨h0, h5, h6, h7, hg⟩
      refine scode_seq_k (fun K8 hK8 => ?_)
      refine scode_seq_k (fun K9 hK9 => ?_)
      refine scode_region (by kernel_rfl) ?_
      simp [go_sem, h7]
      refine hK9 _ _ ?_
      clear hK9 K9
      rcases let_zero s' (by omega) with hz | ⟨d1, d2, d3⟩
      · have e7 : (letD s').2 = 0 := by rw [hz]
        refine scode_if (b := true) (by simp [go_sem, e7]) (fun _ => ?_) (fun h => by cases h)
        refine scode_seq_k (fun K10 hK10 => ?_)
        refine scode_region (by kernel_rfl) ?_
        simp [go_sem]
        refine hK10 _ _ ?_
        refine scode_ret ?_
        simp only [go_sem]
        refine hR _ _ ?_
        have hv : unitsR s = .tup [.nil, .int 4] := by
          unfold unitsR
          rw [hw]
          simp only [walkU, if_neg hne, if_pos hz, Option.map_none]
        rw [hv]
        exact ret_plain (by simp [go_sem]) (empty_le _) (Nat.zero_le _) (by simp [go_sem])
      · have hl0 : letD s' ≠ (0, 0) := by
          intro e
          rw [e] at d1
          simp only at d1
          omega
        obtain ⟨rr, hrr⟩ : ∃ rr, (letD s').1 = rr := ⟨_, rfl⟩
        obtain ⟨nn, hnn⟩ : ∃ nn, (letD s').2 = nn := ⟨_, rfl⟩
        rw [hrr] at h6 d3
        rw [hnn] at h7 d1 d2
        have e7 : ((nn : Int) == 0) = false := by rw [beq_eq_false_iff_ne]; omega
        refine scode_if (b := false) (by simp [go_sem, hnn, e7]) (fun h => by cases h) (fun _ => ?_)
        refine scode_skip ?_
        refine hK8 _ _ ?_
        clear hK8 K8
        refine scode_seq_k (fun K10 hK10 => ?_)
        refine scode_region (by kernel_rfl) ?_
        have hwn : IntKind.i64.wrap ((i : Int) + (nn : Int)) = ((i + nn : Nat) : Int) := by rw [IntWalk.i64_in _ (by omega)]; rfl
        simp [go_sem, h5, h7, hwn]
        refine hK10 _ _ ?_
        clear hK10 K10
        refine scode_hide (fun K4 hK4 => ?_)
        have fin : ∀ env H, (env 0 = .sc (.string s) ∧ env 5 = .int ((i + nn : Nat) : Int) ∧ ∃ cs bo, grown H 1 (env 4) = some (2 * (k + (if 65535 < rr then 2 else 1)), cs, bo) ∧ allK .u8 cs) → K4 env H := by
          rintro env H ⟨h0, h5, cs', bo', hg, hc'⟩
          refine hK4 _ _ ?_
          refine ⟨s.size - (i + nn), by omega, i + nn, f', _, cs', bo', rfl, by omega, by omega, ?_, h0, h5, hg, hc', ?_⟩
          · split <;> omega
          · rw [hw]
            have hx : s'.extract nn s'.size = s.extract (i + nn) s.size := by rw [← hs', ext_ext s i nn (by omega)]
            simp only [walkU, if_neg hne, if_neg hl0, hrr, hnn, Option.map_map, hx]
            congr 1
            funext x
            simp only [Function.comp]
            omega
        clear hK4
        refine scode_seq_k (fun K12 hK12 => ?_)
        refine scode_region (by kernel_rfl) ?_
        simp [go_sem, h6]
        refine hK12 _ _ ?_
        clear hK12 K12
        refine scode_if (b := decide ((65535 : Int) < rr)) (by simp [go_sem]) (fun hb => ?_) (fun hb => ?_)
        · have hb' : 65535 < rr := by simp at hb; omega
          rw [if_pos hb'] at fin
          refine scode_seq_k (fun K13 hK13 => ?_)
          refine scode_region (by kernel_rfl) ?_
          simp [go_sem, h6]
          refine hK13 _ _ ?_
          clear hK13 K13
          refine scode_seq_k (fun K13 hK13 => ?_)
          refine scode_region (by kernel_rfl) ?_
          simp [go_sem, h6]
          refine hK13 _ _ ?_
          clear hK13 K13
          refine scode_region (by kernel_rfl) ?_
          have hap := fun a b c d : Int => appT (t := 51) (k := 4) (new := [.sc (.int .u8 a), .sc (.int .u8 b), .sc (.int .u8 c), .sc (.int .u8 d)]) tU51 tS5 tB5 tZ5 rfl (by decide) hg (by omega) rfl rfl
          simp [go_sem, hap]
          refine fin _ _ ⟨by simp [go_sem, h0], by simp [go_sem], _, _, by rw [show 2 * (k + 2) = 2 * k + 4 by omega]; simp [go_sem]; exact appT_grown hg rfl, by refine hc.append (fun x hx => ?_); simp only [List.mem_cons, List.mem_nil_iff, or_false] at hx; rcases hx with rfl | rfl | rfl | rfl <;> exact .inl ⟨_, rfl⟩⟩
        · have hb' : ¬ 65535 < rr := by simp at hb; omega
          rw [if_neg hb'] at fin
          refine scode_region (by kernel_rfl) ?_
          have hap := fun a b : Int => appT (t := 51) (k := 2) (new := [.sc (.int .u8 a), .sc (.int .u8 b)]) tU51 tS5 tB5 tZ5 rfl (by decide) hg (by omega) rfl rfl
          simp [go_sem, h6, hap]
          refine fin _ _ ⟨by simp [go_sem, h0], by simp [go_sem], _, _, by rw [show 2 * (k + 1) = 2 * k + 2 by omega]; simp [go_sem]; exact appT_grown hg rfl, by refine hc.append (fun x hx => ?_); simp only [List.mem_cons, List.mem_nil_iff, or_false] at hx; rcases hx with rfl | rfl <;> exact .inl ⟨_, rfl⟩⟩
    · refine scode_exit ?_
      have h0' : i = s.size := by have := of_decide_eq_false hb; omega
      subst h0'
      simp [go_sem]
      have hz0 : (s.extract s.size s.size).size = 0 := by rw [size_ext s s.size (Nat.le_refl _)]; omega
      exact ⟨k, cs, ⟨bo, hg⟩, hc, by rw [hw, walkU_zero _ _ hz0]; simp⟩
  rintro env H ⟨k, cs, bo, hg, hc, hw⟩
  have hl := grown_len (P := Tryz.prog) tU51 hg
  have hv : unitsR s = if 256 < k then .tup [.nil, .int 3] else .tup [aiA .u8 (2 * k), .int 0] := by
    unfold unitsR; rw [hw]
  refine scode_seq_k (fun K14 hK14 => ?_)
  refine scode_seq_k (fun K15 hK15 => ?_)
  refine scode_region (by kernel_rfl) ?_
  simp [go_sem, hl]
  refine hK15 _ _ ?_
  clear hK15 K15
  refine scode_if (b := decide ((512 : Int) < 2 * (k : Int))) (by simp [go_sem]) (fun hb => ?_) (fun hb => ?_)
  · have hb' : 256 < k := by simp at hb; omega
    rw [if_pos hb'] at hv
    rw [hv] at hR
    refine scode_seq_k (fun K16 hK16 => ?_)
    refine scode_region (by kernel_rfl) ?_
    simp [go_sem]
    refine hK16 _ _ ?_
    refine scode_ret ?_
    simp only [go_sem]
    refine hR _ _ ?_
    exact ret_plain (by simp [go_sem]) (empty_le _) (Nat.zero_le _) (by simp [go_sem])
  · have hb' : ¬ 256 < k := by simp at hb; omega
    rw [if_neg hb'] at hv
    rw [hv] at hR
    refine scode_skip ?_
    refine hK14 _ _ ?_
    clear hK14 K14
    refine scode_seq_k (fun K17 hK17 => ?_)
    refine scode_region (by kernel_rfl) ?_
    simp [go_sem]
    refine hK17 _ _ ?_
    refine scode_ret ?_
    simp only [go_sem]
    refine hR _ _ ?_
    exact ret_pure (v := .tup [env 4, .int 0]) (by simp [go_sem]) (Froz.tupL (.cons (froz_grown hg (fun b _ => Nat.zero_le b) hc) (.cons (.same _) .nil))) (empty_le _) (Nat.zero_le _) (by simp [go_sem]; exact aiA_lt _ _ _)

theorem hash2_s (s : ByteArray) (hs : s.size ≤ 100000) : SCalls Tryz.prog 21 [.sc (.string s)] Heap.empty (.tup [hashB s, .int (hashE s)]) Heap.empty := by
  have hu := units2_s s hs
  have hcase : (∃ k, k ≤ 256 ∧ hashE s = 0 ∧ unitsR s = .tup [aiA .u8 (2 * k), .int 0]) ∨ (∃ n : Int, n ≠ 0 ∧ hashE s = n ∧ unitsR s = .tup [.nil, .int n]) := by
    unfold hashE unitsR
    cases walkU s.size s with
    | none => exact .inr ⟨4, by decide, rfl, rfl⟩
    | some k =>
      by_cases h : 256 < k
      · exact .inr ⟨3, by decide, by simp only [if_pos h], by simp only [if_pos h]⟩
      · exact .inl ⟨k, by omega, by simp only [if_neg h], by simp only [if_neg h]⟩
  refine scalls_of_k (sz := 16) (Tryz.call21) Tryz.func21 rfl (Nat.le_refl _) (by kernel_rfl) (fun R hR => ?_)
  refine scode_seq_k (fun K1 hK1 => ?_)
  refine scode_region (by kernel_rfl) ?_
  simp [go_sem]
  refine hK1 _ _ ?_
  clear hK1 K1
  refine scode_seq_k (fun K2 hK2 => ?_)
  refine scode_region (by kernel_rfl) ?_
  refine w_take 2 (fun K8 hK8 => ?_)
  simp [go_sem]
  refine ⟨_, _, hu, ?_⟩
  refine hK8 _ _ ?_
  clear hK8 K8
  rcases hcase with ⟨k, hk, he, hv⟩ | ⟨n, hn, he, hv⟩
  · have c45 := fun H => scalls_frame (md4_s (2 * k) (by omega)) (lt_one (aiA_lt _ _ _)) (aiA_lt _ _ _) H
    rw [hv]
    simp [go_sem]
    refine hK2 _ _ ?_
    clear hK2 K2
    refine scode_seq_k (fun K3 hK3 => ?_)
    refine scode_seq_k (fun K4 hK4 => ?_)
    refine scode_region (by kernel_rfl) ?_
    simp [go_sem]
    refine hK4 _ _ ?_
    clear hK4 K4
    refine scode_if (b := false) (by simp [go_sem]) (fun h => by cases h) (fun _ => ?_)
    refine scode_skip ?_
    refine hK3 _ _ ?_
    clear hK3 K3
    refine scode_seq_k (fun K6 hK6 => ?_)
    refine scode_region (by kernel_rfl) ?_
    refine w_take 2 (fun K8 hK8 => ?_)
    simp [go_sem]
    refine ⟨_, _, c45 _, ?_⟩
    refine hK8 _ _ ?_
    clear hK8 K8
    simp [go_sem]
    refine hK6 _ _ ?_
    refine scode_ret ?_
    simp only [go_sem]
    refine hR _ _ ?_
    refine ret_plain ?_ (empty_le _) (Nat.zero_le _) (hashR_lt s _)
    simp [go_sem, hashB, he]
  · rw [hv]
    have hn' : (n != 0) = true := by simpa using hn
    simp [go_sem]
    refine hK2 _ _ ?_
    clear hK2 K2
    refine scode_seq_k (fun K3 hK3 => ?_)
    refine scode_seq_k (fun K4 hK4 => ?_)
    refine scode_region (by kernel_rfl) ?_
    simp [go_sem]
    refine hK4 _ _ ?_
    clear hK4 K4
    refine scode_if (b := true) (by simp [go_sem, hn]) (fun _ => ?_) (fun h => by cases h)
    refine scode_seq_k (fun K5 hK5 => ?_)
    refine scode_region (by kernel_rfl) ?_
    simp [go_sem]
    refine hK5 _ _ ?_
    clear hK5 K5
    refine scode_ret ?_
    simp only [go_sem]
    refine hR _ _ ?_
    refine ret_plain ?_ (empty_le _) (Nat.zero_le _) (hashR_lt s _)
    simp [go_sem, hashB, he, hn]
end Go.Proofs.YtklihehobpahkaaGreatDoor
