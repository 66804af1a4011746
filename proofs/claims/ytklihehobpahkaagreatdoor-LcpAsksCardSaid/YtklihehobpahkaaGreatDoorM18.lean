/- Contracts: the document's Read; Values. -/
import Derived.Test.YtklihehobpahkaaGreatDoorM17
set_option linter.unusedVariables false
set_option linter.unusedSimpArgs false
set_option maxRecDepth 20000
noncomputable section
namespace Go.Proofs.YtklihehobpahkaaGreatDoor
open Go Go.Fl Go.Proofs

def numX (d : List Int) : Int := if (d.length : Int) ≤ 4 then numL d else 0
def stepR (v : Vals) (o : Opt) : Vals :=
  if (o.kind == 1 && (o.data.length : Int) == 2) = true then { v with mru := numX o.data }
  else if (o.kind == 2 && (o.data.length : Int) == 4) = true then { v with accm := IntKind.u32.wrap (numX o.data) }
  else if (o.kind == 3 && o.data == proofL) = true then { v with auth := true }
  else if (o.kind == 5 && (o.data.length : Int) == 4) = true then { v with magic := IntKind.u32.wrap (numX o.data) }
  else if (o.kind == 7 && (o.data.length : Int) == 0) = true then { v with pfc := true }
  else if (o.kind == 8 && (o.data.length : Int) == 0) = true then { v with acfc := true }
  else if (o.kind == 17 && (o.data.length : Int) == 2) = true then { v with mrru := numX o.data }
  else if (o.kind == 18 && (o.data.length : Int) == 0) = true then { v with short := true }
  else v

theorem stepR_eq (v : Vals) (o : Opt) : stepR v o = stepV v o := by
  obtain ⟨k, d⟩ := o
  unfold stepR stepV
  simp only
  by_cases h1 : k = 1
  · subst h1
    by_cases hl : (d.length : Int) = 2
    · simp [hl, longV, numX]
    · simp [hl, longV]
  by_cases h2 : k = 2
  · subst h2
    by_cases hl : (d.length : Int) = 4
    · simp [hl, longV, numX]
    · simp [hl, longV]
  by_cases h3 : k = 3
  · subst h3
    by_cases hp : d = proofL
    · subst hp
      simp [longV, proofL]
    · have hp' : (d == proofL) = false := by simpa using hp
      by_cases hl : (d.length : Int) = 3
      · simp [hl, longV, hp']
      · simp [hl, longV, hp']
  by_cases h5 : k = 5
  · subst h5
    by_cases hl : (d.length : Int) = 4
    · simp [hl, longV, numX]
    · simp [hl, longV]
  by_cases h7 : k = 7
  · subst h7
    by_cases hl : (d.length : Int) = 0
    · simp [hl, longV]
    · simp [hl, longV]
  by_cases h8 : k = 8
  · subst h8
    by_cases hl : (d.length : Int) = 0
    · simp [hl, longV]
    · simp [hl, longV]
  by_cases h17 : k = 17
  · subst h17
    by_cases hl : (d.length : Int) = 2
    · simp [hl, longV, numX]
    · simp [hl, longV]
  by_cases h18 : k = 18
  · subst h18
    by_cases hl : (d.length : Int) = 0
    · simp [hl, longV]
    · simp [hl, longV]
  simp [h1, h2, h3, h5, h7, h8, h17, h18]

theorem readR_eq (l : List Opt) (v : Vals) : l.foldl stepR v = l.foldl stepV v := by
  have : stepR = stepV := funext fun v => funext fun o => stepR_eq v o
  rw [this]

theorem eq_bool (b : Bool) : srun Tryz.prog (binOp BinOp.eql 4 (.bool b) (.bool b)) = some (.bool true) := by cases b <;> kernel_rfl

theorem values_s (v : Vals) : SCalls Tryz.prog 8 [.agg v.cells, .agg v.cells] Heap.empty (.bool true) Heap.empty := by
  obtain ⟨m, mm, ac, au, pf, af, sh, mg⟩ := v
  refine scalls_of_k (sz := 59) (Tryz.call8) Tryz.func8 rfl (Nat.le_refl _) (by kernel_rfl) (fun R hR => ?_)
  refine scode_seq_k (fun K1 hK1 => ?_)
  refine scode_region (by kernel_rfl) ?_
  simp [go_sem, Vals.cells]
  refine hK1 _ _ ?_
  clear hK1 K1
  refine scode_gen (fun env H => env 2 = .ptr 0 0 ∧ env 3 = .ptr 1 0 ∧ H.get 0 = some [.int m, .int mm, .sc (.int .u32 ac), .bool au, .bool pf, .bool af, .bool sh, .sc (.int .u32 mg)] ∧ H.get 1 = some [.int m, .int mm, .sc (.int .u32 ac), .bool au, .bool pf, .bool af, .bool sh, .sc (.int .u32 mg)]) ⟨by simp [go_sem], by simp [go_sem], by simp [go_sem], by simp [go_sem]⟩ ?_
  rintro env H ⟨h2, h3, g0, g1⟩
  refine scode_seq_k (fun K2 hK2 => ?_)
  refine scode_region (by kernel_rfl) ?_
  refine w_take 6 (fun K6 hK6 => ?_)
  simp [go_sem, h2, h3, g0, g1, eq_bool]
  refine hK6 _ _ ?_
  clear hK6 K6
  refine w_take 8 (fun K6 hK6 => ?_)
  simp [go_sem, h2, h3, g0, g1, eq_bool]
  refine hK6 _ _ ?_
  clear hK6 K6
  refine w_take 8 (fun K6 hK6 => ?_)
  simp [go_sem, h2, h3, g0, g1, eq_bool]
  refine hK6 _ _ ?_
  clear hK6 K6
  refine w_take 8 (fun K6 hK6 => ?_)
  simp [go_sem, h2, h3, g0, g1, eq_bool]
  refine hK6 _ _ ?_
  clear hK6 K6
  refine w_take 8 (fun K6 hK6 => ?_)
  simp [go_sem, h2, h3, g0, g1, eq_bool]
  refine hK6 _ _ ?_
  clear hK6 K6
  refine w_take 8 (fun K6 hK6 => ?_)
  simp [go_sem, h2, h3, g0, g1, eq_bool]
  refine hK6 _ _ ?_
  clear hK6 K6
  refine w_take 8 (fun K6 hK6 => ?_)
  simp [go_sem, h2, h3, g0, g1, eq_bool]
  refine hK6 _ _ ?_
  clear hK6 K6
  simp [go_sem, h2, h3, g0, g1, eq_bool]
  refine hK2 _ _ ?_
  refine scode_ret ?_
  simp only [go_sem]
  refine hR _ _ ?_
  exact ret_plain (by simp [go_sem]) (empty_le _) (Nat.zero_le _) (by simp [go_sem])

set_option maxHeartbeats 8000000 in
theorem read2_s (l : List Opt) (hl : l.length ≤ 1000) (hd : ∀ o ∈ l, o.data.length ≤ 1000 ∧ isBytes o.data) : SCalls Tryz.prog 10 [optsA l] Heap.empty (.agg (readV l).cells) Heap.empty := by
  have c26 := fun d hd H => scalls_frame (num_s d hd) (by simp [bytesA_lt]) (by simp [go_sem]) H
  have c28 := fun H => scalls_frame proof2_s (by simp) (by simp [bytesA_lt]) H
  have hml : 1000 ≤ maxLen := by decide
  have hR0 : readV l = l.foldl stepR firstV := (readR_eq l firstV).symm
  rw [hR0]
  refine scalls_of_k (sz := 136) (Tryz.call10) Tryz.func10 rfl (Nat.zero_le _) (by kernel_rfl) (fun R hR => ?_)
  refine scode_seq_k (fun K1 hK1 => ?_)
  refine scode_region (by kernel_rfl) ?_
  simp [go_sem]
  refine hK1 _ _ ?_
  clear hK1 K1
  refine scode_seq_k (fun K2 hK2 => ?_)
  refine scode_region (by kernel_rfl) ?_
  simp [go_sem]
  refine hK2 _ _ ?_
  clear hK2 K2
  refine scode_gen (fun env H => env 0 = optsA l ∧ env 2 = .ptr 0 0 ∧ env 3 = .ptr 1 0 ∧ 2 ≤ H.next ∧ H.get 0 = some zeroV.cells ∧ H.get 1 = some firstV.cells) ?_ ?_
  · exact ⟨by simp [go_sem], by simp [go_sem], by simp [go_sem], by simp [go_sem], rfl, rfl⟩
  rintro env H ⟨h0, h2, h3, hn, g0, g1⟩
  refine scode_seq_mid (fun env H => env 2 = .ptr 0 0 ∧ env 3 = .ptr 1 0 ∧ H.get 0 = some zeroV.cells ∧ H.get 1 = some (l.foldl stepR firstV).cells) ?_ ?_
  · refine scode_seq_k (fun K4 hK4 => ?_)
    refine scode_region (by kernel_rfl) ?_
    simp [go_sem]
    refine hK4 _ _ ?_
    clear hK4 K4
    refine scode_block ?_
    refine scode_loop (Inv := fun n env H => ∃ (i : Nat) (v : Vals), n = l.length - i ∧ i ≤ l.length ∧ v = (l.take i).foldl stepR firstV ∧ env 0 = optsA l ∧ env 2 = .ptr 0 0 ∧ env 3 = .ptr 1 0 ∧ env 4 = .int i ∧ 2 ≤ H.next ∧ H.get 0 = some zeroV.cells ∧ H.get 1 = some v.cells) ?_ (n := l.length) ⟨0, firstV, rfl, by omega, rfl, by simp [go_sem, h0], by simp [go_sem, h2], by simp [go_sem, h3], by simp [go_sem], hn, g0, g1⟩
    clear h0 h2 h3 hn g0 g1
    rintro n env H ⟨i, v, rfl, hi, hv, h0, h2, h3, h4, hn, g0, g1⟩
    refine scode_seq_k (fun K6 hK6 => ?_)
    refine scode_seq_k (fun K7 hK7 => ?_)
    refine scode_region (by kernel_rfl) ?_
    simp [go_sem, h0, h4, optsA]
    refine hK7 _ _ ?_
    clear hK7 K7
    refine scode_if (b := decide (i < l.length)) (by simp [go_sem]) (fun hb => ?_) (fun hb => ?_)
    · refine scode_skip ?_
      refine hK6 _ _ ?_
      clear hK6 K6
      simp only [decide_eq_true_eq] at hb
      obtain ⟨o, r, e1, e2, e3⟩ := drop_cons hb
      have hrow : (optsV l).drop (i * 2) = .int o.kind :: bytesA o.data :: optsV r := by rw [optsV_drop, e1]; simp [optsV, Opt.cells]
      have hrow1 : (optsV l).drop (i * 2 + 1) = bytesA o.data :: optsV r := by rw [← List.drop_drop, hrow]; rfl
      have hle : 2 ≤ l.length * 2 - i * 2 := by omega
      have hle1 : i * 2 + 1 < l.length * 2 := by omega
      have hle2 : i * 2 < l.length * 2 := by omega
      have hle3 : i * 2 + 2 ≤ l.length * 2 := by omega
      obtain ⟨hdl, hdb⟩ := hd o (List.mem_of_getElem? e3)
      have hst := fold_step (f := stepR) (a0 := firstV) e1
      rw [← hv] at hst
      refine scode_seq_mid (fun env H => env 0 = optsA l ∧ env 2 = .ptr 0 0 ∧ env 3 = .ptr 1 0 ∧ env 4 = .int i ∧ 2 ≤ H.next ∧ H.get 0 = some zeroV.cells ∧ H.get 1 = some (stepR v o).cells) ?_ ?_
      · refine scode_block ?_
        refine scode_gen (fun env' H' => env' 0 = optsA l ∧ env' 2 = .ptr 0 0 ∧ env' 3 = .ptr 1 0 ∧ env' 4 = .int i ∧ H = H') ⟨by simp [go_sem, h0, optsA], by simp [go_sem, h2], by simp [go_sem, h3], by simp [go_sem, h4], rfl⟩ ?_
        clear h0 h2 h3 h4
        rintro env H' ⟨h0, h2, h3, h4, rfl⟩
        refine scode_seq_k (fun K9 hK9 => ?_)
        refine scode_region (by kernel_rfl) ?_
        simp [go_sem, h0, h4, optsA, optsV_len, hb, hrow, hrow1, hle, hle1, hle2, hle3, bytesA]
        refine hK9 _ _ ?_
        clear hK9 K9
        refine scode_seq_k (fun K9 hK9 => ?_)
        refine scode_region (by kernel_rfl) ?_
        simp [go_sem]
        refine hK9 _ _ ?_
        clear hK9 K9
        refine scode_seq_mid (fun env' H' => env' 0 = optsA l ∧ env' 2 = .ptr 0 0 ∧ env' 3 = .ptr 1 0 ∧ env' 4 = .int i ∧ env' 5 = .int o.data.length ∧ env' 6 = .int (numX o.data) ∧ H = H') ?_ ?_
        · refine scode_seq_k (fun K9 hK9 => ?_)
          refine scode_region (by kernel_rfl) ?_
          simp [go_sem]
          refine hK9 _ _ ?_
          clear hK9 K9
          refine scode_if (b := decide ((o.data.length : Int) ≤ 4)) (by simp [go_sem]) (fun hx => ?_) (fun hx => ?_)
          · have hx' : (o.data.length : Int) ≤ 4 := of_decide_eq_true hx
            refine scode_hide (fun K hK => ?_)
            refine scode_region (by kernel_rfl) ?_
            refine w_take 6 (fun K6 hK6 => ?_)
            simp [go_sem, h0, h4, optsA, optsV_len, hb, hrow, hrow1, hle, hle1, hle2, hle3]
            refine ⟨_, _, c26 _ (by omega) _, ?_⟩
            refine hK6 _ _ ?_
            clear hK6 K6
            simp [go_sem]
            refine hK _ _ ?_
            exact ⟨by simp [go_sem, h0, optsA], by simp [go_sem, h2], by simp [go_sem, h3], by simp [go_sem, h4], by simp [go_sem], by simp only [numX, if_pos hx']; simp [go_sem], rfl⟩
          · have hx' : ¬ (o.data.length : Int) ≤ 4 := of_decide_eq_false hx
            refine scode_skip ?_
            exact ⟨by simp [go_sem, h0, optsA], by simp [go_sem, h2], by simp [go_sem, h3], by simp [go_sem, h4], by simp [go_sem], by simp only [numX, if_neg hx']; simp [go_sem], rfl⟩
        clear h0 h2 h3 h4
        rintro env H' ⟨h0, h2, h3, h4, h5, h6, rfl⟩
        obtain ⟨m, mm, ac, au, pf, af, sh, mg⟩ := v
        simp only [Vals.cells] at g1
        refine scode_block ?_
        refine scode_seq_mid (fun env' H' => env' 0 = optsA l ∧ env' 2 = .ptr 0 0 ∧ env' 3 = .ptr 1 0 ∧ env' 4 = .int i ∧ env' 5 = .int o.data.length ∧ env' 6 = .int (numX o.data) ∧ env' 28 = .bool (o.kind == 1 && (o.data.length : Int) == 2) ∧ H = H') ?_ ?_
        · refine scode_hide (fun K hK => ?_)
          refine scode_region (by kernel_rfl) ?_
          obtain ⟨zq, q⟩ : ∃ z, (o.kind == 1) = z := ⟨_, rfl⟩
          cases zq
          · simp [go_sem, h0, h4, h5, optsA, optsV_len, hb, hrow, hrow1, hle, hle1, hle2, hle3, q]
            refine hK _ _ ?_
            exact ⟨by simp [go_sem, h0], by simp [go_sem, h2], by simp [go_sem, h3], by simp [go_sem, h4], by simp [go_sem, h5], by simp [go_sem, h6], by simp [go_sem, q], rfl⟩
          · simp [go_sem, h0, h4, h5, optsA, optsV_len, hb, hrow, hrow1, hle, hle1, hle2, hle3, q]
            refine hK _ _ ?_
            exact ⟨by simp [go_sem, h0], by simp [go_sem, h2], by simp [go_sem, h3], by simp [go_sem, h4], by simp [go_sem, h5], by simp [go_sem, h6], by simp [go_sem, q], rfl⟩
        clear h0 h2 h3 h4 h5 h6
        rintro env H' ⟨h0, h2, h3, h4, h5, h6, ht, rfl⟩
        refine scode_if (b := o.kind == 1 && (o.data.length : Int) == 2) (by simp [go_sem, ht]) (fun b1 => ?_) (fun b1 => ?_)
        · have hs : stepR ⟨m, mm, ac, au, pf, af, sh, mg⟩ o = { (⟨m, mm, ac, au, pf, af, sh, mg⟩ : Vals) with mru := numX o.data } := by simp only [stepR, b1, Bool.false_eq_true, if_false, if_true]
          rw [hs]
          refine scode_hide (fun K hK => ?_)
          refine scode_region (by kernel_rfl) ?_
          simp [go_sem, h3, h6, g1]
          refine hK _ _ ?_
          exact ⟨by simp [go_sem, h0], by simp [go_sem, h2], by simp [go_sem, h3], by simp [go_sem, h4], hn, by simp [go_sem, g0], by simp [go_sem, g1, Vals.cells]⟩
        refine scode_seq_mid (fun env' H' => env' 0 = optsA l ∧ env' 2 = .ptr 0 0 ∧ env' 3 = .ptr 1 0 ∧ env' 4 = .int i ∧ env' 5 = .int o.data.length ∧ env' 6 = .int (numX o.data) ∧ env' 41 = .bool (o.kind == 2 && (o.data.length : Int) == 4) ∧ H = H') ?_ ?_
        · refine scode_hide (fun K hK => ?_)
          refine scode_region (by kernel_rfl) ?_
          obtain ⟨zq, q⟩ : ∃ z, (o.kind == 2) = z := ⟨_, rfl⟩
          cases zq
          · simp [go_sem, h0, h4, h5, optsA, optsV_len, hb, hrow, hrow1, hle, hle1, hle2, hle3, q]
            refine hK _ _ ?_
            exact ⟨by simp [go_sem, h0], by simp [go_sem, h2], by simp [go_sem, h3], by simp [go_sem, h4], by simp [go_sem, h5], by simp [go_sem, h6], by simp [go_sem, q], rfl⟩
          · simp [go_sem, h0, h4, h5, optsA, optsV_len, hb, hrow, hrow1, hle, hle1, hle2, hle3, q]
            refine hK _ _ ?_
            exact ⟨by simp [go_sem, h0], by simp [go_sem, h2], by simp [go_sem, h3], by simp [go_sem, h4], by simp [go_sem, h5], by simp [go_sem, h6], by simp [go_sem, q], rfl⟩
        clear h0 h2 h3 h4 h5 h6 ht
        rintro env H' ⟨h0, h2, h3, h4, h5, h6, ht, rfl⟩
        refine scode_if (b := o.kind == 2 && (o.data.length : Int) == 4) (by simp [go_sem, ht]) (fun b2 => ?_) (fun b2 => ?_)
        · have hs : stepR ⟨m, mm, ac, au, pf, af, sh, mg⟩ o = { (⟨m, mm, ac, au, pf, af, sh, mg⟩ : Vals) with accm := IntKind.u32.wrap (numX o.data) } := by simp only [stepR, b1, b2, Bool.false_eq_true, if_false, if_true]
          rw [hs]
          refine scode_hide (fun K hK => ?_)
          refine scode_region (by kernel_rfl) ?_
          simp [go_sem, h3, h6, g1]
          refine hK _ _ ?_
          exact ⟨by simp [go_sem, h0], by simp [go_sem, h2], by simp [go_sem, h3], by simp [go_sem, h4], hn, by simp [go_sem, g0], by simp [go_sem, g1, Vals.cells]⟩
        refine scode_seq_mid (fun env' H' => env' 0 = optsA l ∧ env' 2 = .ptr 0 0 ∧ env' 3 = .ptr 1 0 ∧ env' 4 = .int i ∧ env' 5 = .int o.data.length ∧ env' 6 = .int (numX o.data) ∧ env' 55 = .bool (o.kind == 3 && o.data == proofL) ∧ H = H') ?_ ?_
        · refine scode_hide (fun K hK => ?_)
          refine scode_drawS mixed (by kernel_rfl) ?_
          obtain ⟨zq, q⟩ : ∃ z, (o.kind == 3) = z := ⟨_, rfl⟩
          cases zq
          · simp [go_sem, h0, h4, h5, optsA, optsV_len, hb, hrow, hrow1, hle, hle1, hle2, hle3, q]
            refine hK _ _ ?_
            exact ⟨by simp [go_sem, h0], by simp [go_sem, h2], by simp [go_sem, h3], by simp [go_sem, h4], by simp [go_sem, h5], by simp [go_sem, h6], by simp [go_sem, q], rfl⟩
          · refine ws_take 13 (fun K6 hK6 => ?_)
            simp [go_sem, h0, h4, h5, optsA, optsV_len, hb, hrow, hrow1, hle, hle1, hle2, hle3, q]
            refine ⟨_, _, c28 _, rfl, ?_⟩
            refine hK6 _ _ ?_
            clear hK6 K6
            refine ws_take 1 (fun K6 hK6 => ?_)
            simp [go_sem, h0, h4, h5, optsA, optsV_len, hb, hrow, hrow1, hle, hle1, hle2, hle3, q]
            refine ⟨_, _, refSame_H _ _ (by omega) _, rfl, ?_⟩
            refine hK6 _ _ ?_
            clear hK6 K6
            simp [go_sem, h0, h4, h5, optsA, optsV_len, hb, hrow, hrow1, hle, hle1, hle2, hle3, q]
            refine hK _ _ ?_
            exact ⟨by simp [go_sem, h0], by simp [go_sem, h2], by simp [go_sem, h3], by simp [go_sem, h4], by simp [go_sem, h5], by simp [go_sem, h6], by simp [go_sem, q], rfl⟩
        clear h0 h2 h3 h4 h5 h6 ht
        rintro env H' ⟨h0, h2, h3, h4, h5, h6, ht, rfl⟩
        refine scode_if (b := o.kind == 3 && o.data == proofL) (by simp [go_sem, ht]) (fun b3 => ?_) (fun b3 => ?_)
        · have hs : stepR ⟨m, mm, ac, au, pf, af, sh, mg⟩ o = { (⟨m, mm, ac, au, pf, af, sh, mg⟩ : Vals) with auth := true } := by simp only [stepR, b1, b2, b3, Bool.false_eq_true, if_false, if_true]
          rw [hs]
          refine scode_hide (fun K hK => ?_)
          refine scode_region (by kernel_rfl) ?_
          simp [go_sem, h3, h6, g1]
          refine hK _ _ ?_
          exact ⟨by simp [go_sem, h0], by simp [go_sem, h2], by simp [go_sem, h3], by simp [go_sem, h4], hn, by simp [go_sem, g0], by simp [go_sem, g1, Vals.cells]⟩
        refine scode_seq_mid (fun env' H' => env' 0 = optsA l ∧ env' 2 = .ptr 0 0 ∧ env' 3 = .ptr 1 0 ∧ env' 4 = .int i ∧ env' 5 = .int o.data.length ∧ env' 6 = .int (numX o.data) ∧ env' 72 = .bool (o.kind == 5 && (o.data.length : Int) == 4) ∧ H = H') ?_ ?_
        · refine scode_hide (fun K hK => ?_)
          refine scode_region (by kernel_rfl) ?_
          obtain ⟨zq, q⟩ : ∃ z, (o.kind == 5) = z := ⟨_, rfl⟩
          cases zq
          · simp [go_sem, h0, h4, h5, optsA, optsV_len, hb, hrow, hrow1, hle, hle1, hle2, hle3, q]
            refine hK _ _ ?_
            exact ⟨by simp [go_sem, h0], by simp [go_sem, h2], by simp [go_sem, h3], by simp [go_sem, h4], by simp [go_sem, h5], by simp [go_sem, h6], by simp [go_sem, q], rfl⟩
          · simp [go_sem, h0, h4, h5, optsA, optsV_len, hb, hrow, hrow1, hle, hle1, hle2, hle3, q]
            refine hK _ _ ?_
            exact ⟨by simp [go_sem, h0], by simp [go_sem, h2], by simp [go_sem, h3], by simp [go_sem, h4], by simp [go_sem, h5], by simp [go_sem, h6], by simp [go_sem, q], rfl⟩
        clear h0 h2 h3 h4 h5 h6 ht
        rintro env H' ⟨h0, h2, h3, h4, h5, h6, ht, rfl⟩
        refine scode_if (b := o.kind == 5 && (o.data.length : Int) == 4) (by simp [go_sem, ht]) (fun b5 => ?_) (fun b5 => ?_)
        · have hs : stepR ⟨m, mm, ac, au, pf, af, sh, mg⟩ o = { (⟨m, mm, ac, au, pf, af, sh, mg⟩ : Vals) with magic := IntKind.u32.wrap (numX o.data) } := by simp only [stepR, b1, b2, b3, b5, Bool.false_eq_true, if_false, if_true]
          rw [hs]
          refine scode_hide (fun K hK => ?_)
          refine scode_region (by kernel_rfl) ?_
          simp [go_sem, h3, h6, g1]
          refine hK _ _ ?_
          exact ⟨by simp [go_sem, h0], by simp [go_sem, h2], by simp [go_sem, h3], by simp [go_sem, h4], hn, by simp [go_sem, g0], by simp [go_sem, g1, Vals.cells]⟩
        refine scode_seq_mid (fun env' H' => env' 0 = optsA l ∧ env' 2 = .ptr 0 0 ∧ env' 3 = .ptr 1 0 ∧ env' 4 = .int i ∧ env' 5 = .int o.data.length ∧ env' 6 = .int (numX o.data) ∧ env' 86 = .bool (o.kind == 7 && (o.data.length : Int) == 0) ∧ H = H') ?_ ?_
        · refine scode_hide (fun K hK => ?_)
          refine scode_region (by kernel_rfl) ?_
          obtain ⟨zq, q⟩ : ∃ z, (o.kind == 7) = z := ⟨_, rfl⟩
          cases zq
          · simp [go_sem, h0, h4, h5, optsA, optsV_len, hb, hrow, hrow1, hle, hle1, hle2, hle3, q]
            refine hK _ _ ?_
            exact ⟨by simp [go_sem, h0], by simp [go_sem, h2], by simp [go_sem, h3], by simp [go_sem, h4], by simp [go_sem, h5], by simp [go_sem, h6], by simp [go_sem, q], rfl⟩
          · simp [go_sem, h0, h4, h5, optsA, optsV_len, hb, hrow, hrow1, hle, hle1, hle2, hle3, q]
            refine hK _ _ ?_
            exact ⟨by simp [go_sem, h0], by simp [go_sem, h2], by simp [go_sem, h3], by simp [go_sem, h4], by simp [go_sem, h5], by simp [go_sem, h6], by simp [go_sem, q], rfl⟩
        clear h0 h2 h3 h4 h5 h6 ht
        rintro env H' ⟨h0, h2, h3, h4, h5, h6, ht, rfl⟩
        refine scode_if (b := o.kind == 7 && (o.data.length : Int) == 0) (by simp [go_sem, ht]) (fun b7 => ?_) (fun b7 => ?_)
        · have hs : stepR ⟨m, mm, ac, au, pf, af, sh, mg⟩ o = { (⟨m, mm, ac, au, pf, af, sh, mg⟩ : Vals) with pfc := true } := by simp only [stepR, b1, b2, b3, b5, b7, Bool.false_eq_true, if_false, if_true]
          rw [hs]
          refine scode_hide (fun K hK => ?_)
          refine scode_region (by kernel_rfl) ?_
          simp [go_sem, h3, h6, g1]
          refine hK _ _ ?_
          exact ⟨by simp [go_sem, h0], by simp [go_sem, h2], by simp [go_sem, h3], by simp [go_sem, h4], hn, by simp [go_sem, g0], by simp [go_sem, g1, Vals.cells]⟩
        refine scode_seq_mid (fun env' H' => env' 0 = optsA l ∧ env' 2 = .ptr 0 0 ∧ env' 3 = .ptr 1 0 ∧ env' 4 = .int i ∧ env' 5 = .int o.data.length ∧ env' 6 = .int (numX o.data) ∧ env' 98 = .bool (o.kind == 8 && (o.data.length : Int) == 0) ∧ H = H') ?_ ?_
        · refine scode_hide (fun K hK => ?_)
          refine scode_region (by kernel_rfl) ?_
          obtain ⟨zq, q⟩ : ∃ z, (o.kind == 8) = z := ⟨_, rfl⟩
          cases zq
          · simp [go_sem, h0, h4, h5, optsA, optsV_len, hb, hrow, hrow1, hle, hle1, hle2, hle3, q]
            refine hK _ _ ?_
            exact ⟨by simp [go_sem, h0], by simp [go_sem, h2], by simp [go_sem, h3], by simp [go_sem, h4], by simp [go_sem, h5], by simp [go_sem, h6], by simp [go_sem, q], rfl⟩
          · simp [go_sem, h0, h4, h5, optsA, optsV_len, hb, hrow, hrow1, hle, hle1, hle2, hle3, q]
            refine hK _ _ ?_
            exact ⟨by simp [go_sem, h0], by simp [go_sem, h2], by simp [go_sem, h3], by simp [go_sem, h4], by simp [go_sem, h5], by simp [go_sem, h6], by simp [go_sem, q], rfl⟩
        clear h0 h2 h3 h4 h5 h6 ht
        rintro env H' ⟨h0, h2, h3, h4, h5, h6, ht, rfl⟩
        refine scode_if (b := o.kind == 8 && (o.data.length : Int) == 0) (by simp [go_sem, ht]) (fun b8 => ?_) (fun b8 => ?_)
        · have hs : stepR ⟨m, mm, ac, au, pf, af, sh, mg⟩ o = { (⟨m, mm, ac, au, pf, af, sh, mg⟩ : Vals) with acfc := true } := by simp only [stepR, b1, b2, b3, b5, b7, b8, Bool.false_eq_true, if_false, if_true]
          rw [hs]
          refine scode_hide (fun K hK => ?_)
          refine scode_region (by kernel_rfl) ?_
          simp [go_sem, h3, h6, g1]
          refine hK _ _ ?_
          exact ⟨by simp [go_sem, h0], by simp [go_sem, h2], by simp [go_sem, h3], by simp [go_sem, h4], hn, by simp [go_sem, g0], by simp [go_sem, g1, Vals.cells]⟩
        refine scode_seq_mid (fun env' H' => env' 0 = optsA l ∧ env' 2 = .ptr 0 0 ∧ env' 3 = .ptr 1 0 ∧ env' 4 = .int i ∧ env' 5 = .int o.data.length ∧ env' 6 = .int (numX o.data) ∧ env' 110 = .bool (o.kind == 17 && (o.data.length : Int) == 2) ∧ H = H') ?_ ?_
        · refine scode_hide (fun K hK => ?_)
          refine scode_region (by kernel_rfl) ?_
          obtain ⟨zq, q⟩ : ∃ z, (o.kind == 17) = z := ⟨_, rfl⟩
          cases zq
          · simp [go_sem, h0, h4, h5, optsA, optsV_len, hb, hrow, hrow1, hle, hle1, hle2, hle3, q]
            refine hK _ _ ?_
            exact ⟨by simp [go_sem, h0], by simp [go_sem, h2], by simp [go_sem, h3], by simp [go_sem, h4], by simp [go_sem, h5], by simp [go_sem, h6], by simp [go_sem, q], rfl⟩
          · simp [go_sem, h0, h4, h5, optsA, optsV_len, hb, hrow, hrow1, hle, hle1, hle2, hle3, q]
            refine hK _ _ ?_
            exact ⟨by simp [go_sem, h0], by simp [go_sem, h2], by simp [go_sem, h3], by simp [go_sem, h4], by simp [go_sem, h5], by simp [go_sem, h6], by simp [go_sem, q], rfl⟩
        clear h0 h2 h3 h4 h5 h6 ht
        rintro env H' ⟨h0, h2, h3, h4, h5, h6, ht, rfl⟩
        refine scode_if (b := o.kind == 17 && (o.data.length : Int) == 2) (by simp [go_sem, ht]) (fun b17 => ?_) (fun b17 => ?_)
        · have hs : stepR ⟨m, mm, ac, au, pf, af, sh, mg⟩ o = { (⟨m, mm, ac, au, pf, af, sh, mg⟩ : Vals) with mrru := numX o.data } := by simp only [stepR, b1, b2, b3, b5, b7, b8, b17, Bool.false_eq_true, if_false, if_true]
          rw [hs]
          refine scode_hide (fun K hK => ?_)
          refine scode_region (by kernel_rfl) ?_
          simp [go_sem, h3, h6, g1]
          refine hK _ _ ?_
          exact ⟨by simp [go_sem, h0], by simp [go_sem, h2], by simp [go_sem, h3], by simp [go_sem, h4], hn, by simp [go_sem, g0], by simp [go_sem, g1, Vals.cells]⟩
        refine scode_seq_mid (fun env' H' => env' 0 = optsA l ∧ env' 2 = .ptr 0 0 ∧ env' 3 = .ptr 1 0 ∧ env' 4 = .int i ∧ env' 5 = .int o.data.length ∧ env' 6 = .int (numX o.data) ∧ env' 123 = .bool (o.kind == 18 && (o.data.length : Int) == 0) ∧ H = H') ?_ ?_
        · refine scode_hide (fun K hK => ?_)
          refine scode_region (by kernel_rfl) ?_
          obtain ⟨zq, q⟩ : ∃ z, (o.kind == 18) = z := ⟨_, rfl⟩
          cases zq
          · simp [go_sem, h0, h4, h5, optsA, optsV_len, hb, hrow, hrow1, hle, hle1, hle2, hle3, q]
            refine hK _ _ ?_
            exact ⟨by simp [go_sem, h0], by simp [go_sem, h2], by simp [go_sem, h3], by simp [go_sem, h4], by simp [go_sem, h5], by simp [go_sem, h6], by simp [go_sem, q], rfl⟩
          · simp [go_sem, h0, h4, h5, optsA, optsV_len, hb, hrow, hrow1, hle, hle1, hle2, hle3, q]
            refine hK _ _ ?_
            exact ⟨by simp [go_sem, h0], by simp [go_sem, h2], by simp [go_sem, h3], by simp [go_sem, h4], by simp [go_sem, h5], by simp [go_sem, h6], by simp [go_sem, q], rfl⟩
        clear h0 h2 h3 h4 h5 h6 ht
        rintro env H' ⟨h0, h2, h3, h4, h5, h6, ht, rfl⟩
        refine scode_if (b := o.kind == 18 && (o.data.length : Int) == 0) (by simp [go_sem, ht]) (fun b18 => ?_) (fun b18 => ?_)
        · have hs : stepR ⟨m, mm, ac, au, pf, af, sh, mg⟩ o = { (⟨m, mm, ac, au, pf, af, sh, mg⟩ : Vals) with short := true } := by simp only [stepR, b1, b2, b3, b5, b7, b8, b17, b18, Bool.false_eq_true, if_false, if_true]
          rw [hs]
          refine scode_hide (fun K hK => ?_)
          refine scode_region (by kernel_rfl) ?_
          simp [go_sem, h3, h6, g1]
          refine hK _ _ ?_
          exact ⟨by simp [go_sem, h0], by simp [go_sem, h2], by simp [go_sem, h3], by simp [go_sem, h4], hn, by simp [go_sem, g0], by simp [go_sem, g1, Vals.cells]⟩
        have hs : stepR ⟨m, mm, ac, au, pf, af, sh, mg⟩ o = ⟨m, mm, ac, au, pf, af, sh, mg⟩ := by simp only [stepR, b1, b2, b3, b5, b7, b8, b17, b18, Bool.false_eq_true, if_false]
        rw [hs]
        refine scode_skip ?_
        exact ⟨by simp [go_sem, h0], by simp [go_sem, h2], by simp [go_sem, h3], by simp [go_sem, h4], hn, g0, g1⟩
      clear h0 h2 h3 h4 hn g0 g1
      rintro env H ⟨h0, h2, h3, h4, hn, g0, g1⟩
      have hw : IntKind.i64.wrap ((i : Int) + 1) = ((i + 1 : Nat) : Int) := by rw [IntWalk.i64_in _ (by omega)]; rfl
      refine scode_hide (fun K hK => ?_)
      refine scode_region (by kernel_rfl) ?_
      simp [go_sem, h4, hw]
      refine hK _ _ ?_
      exact ⟨l.length - (i + 1), by omega, i + 1, stepR v o, rfl, by omega, hst.symm, by simp [go_sem, h0], by simp [go_sem, h2], by simp [go_sem, h3], by simp [go_sem], hn, g0, g1⟩
    · refine scode_exit ?_
      have hi2 : i = l.length := by have := of_decide_eq_false hb; omega
      subst hi2
      rw [List.take_length] at hv
      subst hv
      exact ⟨by simp [go_sem, h2], by simp [go_sem, h3], g0, g1⟩
  clear h0 h2 h3 hn g0 g1
  rintro env H ⟨h2, h3, g0, g1⟩
  generalize l.foldl stepR firstV = v at *
  obtain ⟨m, mm, ac, au, pf, af, sh, mg⟩ := v
  simp only [Vals.cells, zeroV] at g0 g1 hR
  refine scode_seq_k (fun K14 hK14 => ?_)
  refine scode_region (by kernel_rfl) ?_
  simp [go_sem, h2, h3, g0, g1]
  refine hK14 _ _ ?_
  refine scode_ret ?_
  simp only [go_sem]
  refine hR _ _ ?_
  exact ret_plain (by simp [go_sem, h2, g0]) (empty_le _) (Nat.zero_le _) (by simp [go_sem])
end Go.Proofs.YtklihehobpahkaaGreatDoor
