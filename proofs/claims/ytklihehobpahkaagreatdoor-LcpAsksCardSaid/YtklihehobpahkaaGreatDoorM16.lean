/- Contracts: the document's Size and Check. -/
import Derived.Test.YtklihehobpahkaaGreatDoorM14
import Derived.Test.YtklihehobpahkaaGreatDoorFl43
set_option linter.unusedVariables false
set_option linter.unusedSimpArgs false
set_option maxRecDepth 20000
noncomputable section
namespace Go.Proofs.YtklihehobpahkaaGreatDoor
open Go Go.Fl Go.Proofs

def sizeV (b : Int) : Int := if (b == 40) = true then 8 else if (b == 56) = true then 8 else if (b == 128) = true then 16 else 0

theorem size_s (b : Int) : SCalls Tryz.prog 22 [.int b] Heap.empty (.int (sizeV b)) Heap.empty := by
  refine scalls_of_k (sz := 9) (Tryz.call22) Tryz.func22 rfl (Nat.le_refl _) (by kernel_rfl) (fun R hR => ?_)
  refine scode_seq_k (fun K1 hK1 => ?_)
  refine scode_region (by kernel_rfl) ?_
  simp [go_sem]
  refine hK1 _ _ ?_
  clear hK1 K1
  refine scode_gen (fun env H => env 0 = .int b) (by simp [go_sem]) ?_
  rintro env H h0
  obtain ⟨z1, q1⟩ : ∃ z, (b == 40) = z := ⟨_, rfl⟩
  obtain ⟨z2, q2⟩ : ∃ z, (b == 56) = z := ⟨_, rfl⟩
  obtain ⟨z3, q3⟩ : ∃ z, (b == 128) = z := ⟨_, rfl⟩
  refine scode_seq_mid (fun env H => z1 = false ∧ z2 = false ∧ z3 = false) ?_ ?_
  · refine scode_seq_mid (fun env H => env 3 = .int b) ?_ ?_
    · refine scode_hide (fun K hK => ?_)
      refine scode_region (by kernel_rfl) ?_
      simp [go_sem, h0]
      refine hK _ _ ?_
      simp [go_sem]
    clear h0
    rintro env H h3
    refine scode_block ?_
    refine scode_seq_mid (fun env H => env 3 = .int b ∧ env 4 = .bool (z1 || z2)) ?_ ?_
    · refine scode_seq_k (fun K1 hK1 => ?_)
      refine scode_region (by kernel_rfl) ?_
      simp [go_sem, h3, q1]
      refine hK1 _ _ ?_
      clear hK1 K1
      refine scode_if (b := z1) (by simp [go_sem]) (fun hb => ?_) (fun hb => ?_)
      · refine scode_skip ?_
        exact ⟨by simp [go_sem, h3], by simp [go_sem, hb]⟩
      · refine scode_hide (fun K hK => ?_)
        refine scode_region (by kernel_rfl) ?_
        simp [go_sem, h3, q2]
        refine hK _ _ ?_
        exact ⟨by simp [go_sem, h3], by simp [go_sem, hb]⟩
    clear h3
    rintro env H ⟨h3, h4⟩
    refine scode_if (b := z1 || z2) (by simp [go_sem, h4]) (fun hb => ?_) (fun hb => ?_)
    · have hv : sizeV b = 8 := by unfold sizeV; rw [q1, q2]; revert hb; cases z1 <;> cases z2 <;> simp
      refine scode_seq_k (fun K1 hK1 => ?_)
      refine scode_region (by kernel_rfl) ?_
      simp [go_sem]
      refine hK1 _ _ ?_
      refine scode_ret ?_
      simp only [go_sem]
      refine hR _ _ ?_
      exact ret_plain (by simp [go_sem, hv]) (empty_le _) (Nat.zero_le _) (by simp [go_sem])
    · have hb' : z1 = false ∧ z2 = false := by revert hb; cases z1 <;> cases z2 <;> simp
      refine scode_seq_k (fun K1 hK1 => ?_)
      refine scode_region (by kernel_rfl) ?_
      simp [go_sem, h3, q3]
      refine hK1 _ _ ?_
      clear hK1 K1
      refine scode_if (b := z3) (by simp [go_sem]) (fun hb2 => ?_) (fun hb2 => ?_)
      · have hv : sizeV b = 16 := by unfold sizeV; rw [q1, q2, q3, hb'.1, hb'.2, hb2]; simp
        refine scode_seq_k (fun K1 hK1 => ?_)
        refine scode_region (by kernel_rfl) ?_
        simp [go_sem]
        refine hK1 _ _ ?_
        refine scode_ret ?_
        simp only [go_sem]
        refine hR _ _ ?_
        exact ret_plain (by simp [go_sem, hv]) (empty_le _) (Nat.zero_le _) (by simp [go_sem])
      · refine scode_skip ?_
        exact ⟨hb'.1, hb'.2, hb2⟩
  rintro env H ⟨rfl, rfl, rfl⟩
  have hv : sizeV b = 0 := by unfold sizeV; rw [q1, q2, q3]; simp
  refine scode_seq_k (fun K1 hK1 => ?_)
  refine scode_region (by kernel_rfl) ?_
  simp [go_sem]
  refine hK1 _ _ ?_
  refine scode_ret ?_
  simp only [go_sem]
  refine hR _ _ ?_
  exact ret_plain (by simp [go_sem, hv]) (empty_le _) (Nat.zero_le _) (by simp [go_sem])

def okA (c : Cfg) : Bool := decide (64 ≤ c.mru) && (decide (c.mru ≤ 1500) && (c.mrru == 0 || (decide (64 ≤ c.mrru) && decide (c.mrru ≤ 1500))))
def okB (c : Cfg) : Bool := okA c && ((c.bits == 0 || decide (0 < sizeV c.bits)) && (decide (1 ≤ c.tmo) && (decide (c.tmo ≤ 1000) && (decide (1 ≤ c.tries) && decide (c.tries ≤ 1000)))))
def okC (c : Cfg) : Bool := okB c && ((c.frag == 0 || (decide (16 ≤ c.frag) && (decide (c.frag ≤ 1500) && decide (0 < c.mrru)))) && (decide (0 < c.bits) || (!c.must && (!c.stl && !c.sym))))

theorem okA2 (c : Cfg) : okA c = ((decide (64 ≤ c.mru) && decide (c.mru ≤ 1500)) && (c.mrru == 0 || (decide (64 ≤ c.mrru) && decide (c.mrru ≤ 1500)))) := by
  simp only [okA, Bool.and_assoc]
theorem okB4 (c : Cfg) : okB c = (((((okA c && (c.bits == 0 || decide (0 < sizeV c.bits))) && decide (1 ≤ c.tmo)) && decide (c.tmo ≤ 1000)) && decide (1 ≤ c.tries)) && decide (c.tries ≤ 1000)) := by
  simp only [okB, Bool.and_assoc]
theorem okC2 (c : Cfg) : okC c = ((okB c && (c.frag == 0 || (decide (16 ≤ c.frag) && (decide (c.frag ≤ 1500) && decide (0 < c.mrru))))) && (decide (0 < c.bits) || (!c.must && (!c.stl && !c.sym)))) := by
  simp only [okC, Bool.and_assoc]
theorem sizeV_pos (b : Int) : 0 < sizeV b ↔ (b = 40 ∨ b = 56 ∨ b = 128) := by
  unfold sizeV
  simp only [beq_iff_eq]
  split
  · simp_all
  · split
    · simp_all
    · split
      · simp_all
      · simp_all

theorem ok_bad (c : Cfg) : okC c = !(badA c || (badB c || (badC c || badD c))) := by
  obtain ⟨server, name, secret, mru, pfc, acfc, accm, mrru, short, bits, stl, mppc, defl, must, sym, tmo, tries, frag⟩ := c
  rw [Bool.eq_iff_iff]
  simp only [okC, okB, okA, badA, badB, badC, badD, strong, betw, Bool.and_eq_true, Bool.or_eq_true, decide_eq_true_eq, beq_iff_eq, bne_iff_ne, Bool.not_eq_true', Bool.or_eq_false_iff, Bool.and_eq_false_iff, decide_eq_false_iff_not, beq_eq_false_iff_ne, bne_eq_false_iff_eq, Bool.not_eq_false', sizeV_pos]
  cases must <;> cases stl <;> cases sym <;> simp <;> omega


set_option maxHeartbeats 8000000 in
theorem check2_s (c : Cfg) (e : Int) (d : AV) (hd : d.Lt 0) (c21 : SCalls Tryz.prog 21 [.sc (.string c.secret)] Heap.empty (.tup [d, .int e]) Heap.empty) :
    SCalls Tryz.prog 7 [.agg c.cells] Heap.empty (.int (checkV c e)) Heap.empty := by
  have c21 := fun H => scalls_frame c21 (by simp [go_sem]) (by simp [go_sem]; exact hd) H
  have csz := fun x H => scalls_frame (size_s x) (by simp [go_sem]) (by simp [go_sem]) H
  obtain ⟨⟨r1, d1⟩, ⟨r2, d2⟩, ⟨r3, d3⟩, ⟨r7, d7⟩, ⟨r9, d9⟩, ⟨r10, d10⟩, ⟨r13, d13⟩, ⟨r14, d14⟩, ⟨r15, d15⟩, ⟨r16, d16⟩, ⟨r17, d17⟩⟩ := cfg_drop c
  refine scalls_of_k (sz := 117) (Tryz.call7) Tryz.func7 rfl (Nat.le_refl _) (by kernel_rfl) (fun R hR => ?_)
  refine scode_seq_k (fun K1 hK1 => ?_)
  refine scode_region (by kernel_rfl) ?_
  simp [go_sem]
  refine hK1 _ _ ?_
  clear hK1 K1
  rw [empty_alloc]
  refine scode_seq_k (fun K2 hK2 => ?_)
  refine scode_seq_k (fun K3 hK3 => ?_)
  refine scode_region (by kernel_rfl) ?_
  simp [go_sem, cfg_len, d1]
  refine hK3 _ _ ?_
  clear hK3 K3
  refine scode_if (b := decide ((64 : Int) < c.name.size)) (by simp [go_sem]) (fun hb => ?_) (fun hb => ?_)
  · have hv : checkV c e = 3 := by
      unfold checkV
      rw [if_pos (by simp at hb; omega)]
    refine scode_seq_k (fun K2 hK2 => ?_)
    refine scode_region (by kernel_rfl) ?_
    simp [go_sem]
    refine hK2 _ _ ?_
    clear hK2 K2
    refine scode_ret ?_
    simp only [go_sem]
    refine hR _ _ ?_
    exact ret_plain (by simp [go_sem, hv]) (empty_le _) (Nat.zero_le _) (by simp [go_sem])
  have n1 : ¬ 64 < c.name.size := by simp at hb; omega
  clear hb
  refine scode_skip ?_
  refine hK2 _ _ ?_
  clear hK2 K2
  refine scode_seq_k (fun K2 hK2 => ?_)
  refine scode_region (by kernel_rfl) ?_
  refine w_take 3 (fun K6 hK6 => ?_)
  simp [go_sem, cfg_len, d2]
  refine ⟨_, _, c21 _, ?_⟩
  refine hK6 _ _ ?_
  clear hK6 K6
  simp [go_sem]
  refine hK2 _ _ ?_
  clear hK2 K2
  refine scode_gen (fun env H => env 1 = .ptr 0 0 ∧ env 4 = .int e ∧ H = Heap.one c.cells) ⟨by simp [go_sem], by simp [go_sem], rfl⟩ ?_
  rintro env H ⟨h1, h4, rfl⟩
  refine scode_seq_k (fun K2 hK2 => ?_)
  refine scode_seq_k (fun K3 hK3 => ?_)
  refine scode_region (by kernel_rfl) ?_
  simp [go_sem, h4]
  refine hK3 _ _ ?_
  clear hK3 K3
  refine scode_if (b := e != 0) (by simp [go_sem]) (fun hb => ?_) (fun hb => ?_)
  · have hv : checkV c e = e := by unfold checkV; rw [if_neg n1, if_pos (by simpa using hb)]
    refine scode_seq_k (fun K2 hK2 => ?_)
    refine scode_region (by kernel_rfl) ?_
    simp [go_sem, h4]
    refine hK2 _ _ ?_
    clear hK2 K2
    refine scode_ret ?_
    simp only [go_sem]
    refine hR _ _ ?_
    exact ret_plain (by simp [go_sem, hv]) (empty_le _) (Nat.zero_le _) (by simp [go_sem])
  have n2 : ¬ (e ≠ 0) := by simpa using hb
  clear hb
  refine scode_skip ?_
  refine hK2 _ _ ?_
  clear hK2 K2
  refine scode_gen (fun env H => env 1 = .ptr 0 0 ∧ H = Heap.one c.cells) ⟨by simp [go_sem, h1], rfl⟩ ?_
  clear h1 h4
  rintro env H ⟨h1, rfl⟩
  refine scode_seq_mid (fun env H => env 5 = .bool (okA c) ∧ env 1 = .ptr 0 0 ∧ H = Heap.one c.cells) ?_ ?_
  · refine scode_hide (fun K hK => ?_)
    refine scode_region (by kernel_rfl) ?_
    have ho := okA2 c
    refine w_mid 9 (fun env H => env 27 = .bool (decide (64 ≤ c.mru) && decide (c.mru ≤ 1500)) ∧ env 1 = .ptr 0 0 ∧ H = Heap.one c.cells) (fun K hK => ?_) ?_
    · skip
      by_cases p : 64 ≤ c.mru
      · skip
        simp [go_sem, h1, cfg_len, d3, p]
        refine hK _ _ ?_
        exact ⟨by simp [go_sem, h1, p], by simp [go_sem, h1], rfl⟩
      · skip
        simp [go_sem, h1, cfg_len, d3, p]
        refine hK _ _ ?_
        exact ⟨by simp [go_sem, h1, p], by simp [go_sem, h1], rfl⟩
    clear h1
    rintro env H ⟨h5, h1, rfl⟩
    generalize (decide (64 ≤ c.mru) && decide (c.mru ≤ 1500)) = w at h5 ho
    cases w
    · skip
      simp [go_sem, h1, h5, cfg_len, d7]
      refine hK _ _ ?_
      exact ⟨by simp [go_sem, ho], by simp [go_sem, h1], rfl⟩
    · skip
      obtain ⟨zq, q⟩ : ∃ z, (c.mrru == 0) = z := ⟨_, rfl⟩
      cases zq
      · skip
        by_cases p3 : 64 ≤ c.mrru
        · skip
          simp [go_sem, h1, h5, cfg_len, d7, q, p3]
          refine hK _ _ ?_
          exact ⟨by simp [go_sem, ho, q, p3], by simp [go_sem, h1], rfl⟩
        · skip
          simp [go_sem, h1, h5, cfg_len, d7, q, p3]
          refine hK _ _ ?_
          exact ⟨by simp [go_sem, ho, q, p3], by simp [go_sem, h1], rfl⟩
      · skip
        simp [go_sem, h1, h5, cfg_len, d7, q]
        refine hK _ _ ?_
        exact ⟨by simp [go_sem, ho, q], by simp [go_sem, h1], rfl⟩
  clear h1
  rintro env H ⟨h5, h1, rfl⟩
  refine scode_seq_mid (fun env H => env 5 = .bool (okB c) ∧ env 1 = .ptr 0 0 ∧ H = Heap.one c.cells) ?_ ?_
  · refine scode_hide (fun K hK => ?_)
    refine scode_region (by kernel_rfl) ?_
    have ho := okB4 c
    refine w_mid 13 (fun env H => env 54 = .bool (okA c && (c.bits == 0 || decide (0 < sizeV c.bits))) ∧ env 1 = .ptr 0 0 ∧ H = Heap.one c.cells) (fun K hK => ?_) ?_
    · skip
      obtain ⟨zq0, q0⟩ : ∃ z, okA c = z := ⟨_, rfl⟩
      cases zq0
      · skip
        refine w_take 9 (fun K6 hK6 => ?_)
        simp [go_sem, h1, h5, cfg_len, d9, q0]
        refine hK6 _ _ ?_
        clear hK6 K6
        simp [go_sem, h1, h5, cfg_len, d9, q0]
        refine hK _ _ ?_
        exact ⟨by simp [go_sem, h1, q0], by simp [go_sem, h1], rfl⟩
      · skip
        obtain ⟨zq, q⟩ : ∃ z, (c.bits == 0) = z := ⟨_, rfl⟩
        cases zq
        · skip
          refine w_take 9 (fun K6 hK6 => ?_)
          simp [go_sem, h1, h5, cfg_len, d9, q0, q]
          refine ⟨_, _, csz _ _, ?_⟩
          refine hK6 _ _ ?_
          clear hK6 K6
          simp [go_sem, h1, h5, cfg_len, d9, q0, q]
          refine hK _ _ ?_
          exact ⟨by simp [go_sem, h1, q0, q], by simp [go_sem, h1], rfl⟩
        · skip
          refine w_take 9 (fun K6 hK6 => ?_)
          simp [go_sem, h1, h5, cfg_len, d9, q0, q]
          refine hK6 _ _ ?_
          clear hK6 K6
          simp [go_sem, h1, h5, cfg_len, d9, q0, q]
          refine hK _ _ ?_
          exact ⟨by simp [go_sem, h1, q0, q], by simp [go_sem, h1], rfl⟩
    clear h1 h5
    rintro env H ⟨h5, h1, rfl⟩
    generalize (okA c && (c.bits == 0 || decide (0 < sizeV c.bits))) = w at h5 ho
    refine w_mid 5 (fun env H => env 59 = .bool (w && decide (1 ≤ c.tmo)) ∧ env 1 = .ptr 0 0 ∧ H = Heap.one c.cells) (fun K hK => ?_) ?_
    · skip
      cases w
      · skip
        simp [go_sem, h1, h5, cfg_len, d15]
        refine hK _ _ ?_
        exact ⟨by simp [go_sem, h1], by simp [go_sem, h1], rfl⟩
      · skip
        simp [go_sem, h1, h5, cfg_len, d15]
        refine hK _ _ ?_
        exact ⟨by simp [go_sem, h1], by simp [go_sem, h1], rfl⟩
    clear h1 h5
    rintro env H ⟨h5, h1, rfl⟩
    generalize (w && decide (1 ≤ c.tmo)) = w at h5 ho
    refine w_mid 5 (fun env H => env 64 = .bool (w && decide (c.tmo ≤ 1000)) ∧ env 1 = .ptr 0 0 ∧ H = Heap.one c.cells) (fun K hK => ?_) ?_
    · skip
      cases w
      · skip
        simp [go_sem, h1, h5, cfg_len, d15]
        refine hK _ _ ?_
        exact ⟨by simp [go_sem, h1], by simp [go_sem, h1], rfl⟩
      · skip
        simp [go_sem, h1, h5, cfg_len, d15]
        refine hK _ _ ?_
        exact ⟨by simp [go_sem, h1], by simp [go_sem, h1], rfl⟩
    clear h1 h5
    rintro env H ⟨h5, h1, rfl⟩
    generalize (w && decide (c.tmo ≤ 1000)) = w at h5 ho
    refine w_mid 5 (fun env H => env 69 = .bool (w && decide (1 ≤ c.tries)) ∧ env 1 = .ptr 0 0 ∧ H = Heap.one c.cells) (fun K hK => ?_) ?_
    · skip
      cases w
      · skip
        simp [go_sem, h1, h5, cfg_len, d16]
        refine hK _ _ ?_
        exact ⟨by simp [go_sem, h1], by simp [go_sem, h1], rfl⟩
      · skip
        simp [go_sem, h1, h5, cfg_len, d16]
        refine hK _ _ ?_
        exact ⟨by simp [go_sem, h1], by simp [go_sem, h1], rfl⟩
    clear h1 h5
    rintro env H ⟨h5, h1, rfl⟩
    generalize (w && decide (1 ≤ c.tries)) = w at h5 ho
    cases w
    · skip
      simp [go_sem, h1, h5, cfg_len, d16]
      refine hK _ _ ?_
      exact ⟨by simp [go_sem, ho], by simp [go_sem, h1], rfl⟩
    · skip
      simp [go_sem, h1, h5, cfg_len, d16]
      refine hK _ _ ?_
      exact ⟨by simp [go_sem, ho], by simp [go_sem, h1], rfl⟩
  clear h1 h5
  rintro env H ⟨h5, h1, rfl⟩
  refine scode_seq_mid (fun env H => env 5 = .bool (okC c) ∧ env 1 = .ptr 0 0 ∧ H = Heap.one c.cells) ?_ ?_
  · refine scode_hide (fun K hK => ?_)
    refine scode_region (by kernel_rfl) ?_
    have ho := okC2 c
    refine w_mid 22 (fun env H => env 95 = .bool (okB c && (c.frag == 0 || (decide (16 ≤ c.frag) && (decide (c.frag ≤ 1500) && decide (0 < c.mrru))))) ∧ env 1 = .ptr 0 0 ∧ H = Heap.one c.cells) (fun K hK => ?_) ?_
    · skip
      obtain ⟨zq0, q0⟩ : ∃ z, okB c = z := ⟨_, rfl⟩
      cases zq0
      · skip
        refine w_take 8 (fun K6 hK6 => ?_)
        simp [go_sem, h1, h5, cfg_len, d17, d7, q0]
        refine hK6 _ _ ?_
        clear hK6 K6
        refine w_take 8 (fun K6 hK6 => ?_)
        simp [go_sem, h1, h5, cfg_len, d17, d7, q0]
        refine hK6 _ _ ?_
        clear hK6 K6
        simp [go_sem, h1, h5, cfg_len, d17, d7, q0]
        refine hK _ _ ?_
        exact ⟨by simp [go_sem, h1, q0], by simp [go_sem, h1], rfl⟩
      · skip
        obtain ⟨zq, q⟩ : ∃ z, (c.frag == 0) = z := ⟨_, rfl⟩
        cases zq
        · skip
          by_cases p1 : 16 ≤ c.frag
          · skip
            by_cases p2 : c.frag ≤ 1500
            · skip
              refine w_take 8 (fun K6 hK6 => ?_)
              simp [go_sem, h1, h5, cfg_len, d17, d7, q0, q, p1, p2]
              refine hK6 _ _ ?_
              clear hK6 K6
              refine w_take 8 (fun K6 hK6 => ?_)
              simp [go_sem, h1, h5, cfg_len, d17, d7, q0, q, p1, p2]
              refine hK6 _ _ ?_
              clear hK6 K6
              simp [go_sem, h1, h5, cfg_len, d17, d7, q0, q, p1, p2]
              refine hK _ _ ?_
              exact ⟨by simp [go_sem, h1, q0, q, p1, p2], by simp [go_sem, h1], rfl⟩
            · skip
              refine w_take 8 (fun K6 hK6 => ?_)
              simp [go_sem, h1, h5, cfg_len, d17, d7, q0, q, p1, p2]
              refine hK6 _ _ ?_
              clear hK6 K6
              refine w_take 8 (fun K6 hK6 => ?_)
              simp [go_sem, h1, h5, cfg_len, d17, d7, q0, q, p1, p2]
              refine hK6 _ _ ?_
              clear hK6 K6
              simp [go_sem, h1, h5, cfg_len, d17, d7, q0, q, p1, p2]
              refine hK _ _ ?_
              exact ⟨by simp [go_sem, h1, q0, q, p1, p2], by simp [go_sem, h1], rfl⟩
          · skip
            refine w_take 8 (fun K6 hK6 => ?_)
            simp [go_sem, h1, h5, cfg_len, d17, d7, q0, q, p1]
            refine hK6 _ _ ?_
            clear hK6 K6
            refine w_take 8 (fun K6 hK6 => ?_)
            simp [go_sem, h1, h5, cfg_len, d17, d7, q0, q, p1]
            refine hK6 _ _ ?_
            clear hK6 K6
            simp [go_sem, h1, h5, cfg_len, d17, d7, q0, q, p1]
            refine hK _ _ ?_
            exact ⟨by simp [go_sem, h1, q0, q, p1], by simp [go_sem, h1], rfl⟩
        · skip
          refine w_take 8 (fun K6 hK6 => ?_)
          simp [go_sem, h1, h5, cfg_len, d17, d7, q0, q]
          refine hK6 _ _ ?_
          clear hK6 K6
          refine w_take 8 (fun K6 hK6 => ?_)
          simp [go_sem, h1, h5, cfg_len, d17, d7, q0, q]
          refine hK6 _ _ ?_
          clear hK6 K6
          simp [go_sem, h1, h5, cfg_len, d17, d7, q0, q]
          refine hK _ _ ?_
          exact ⟨by simp [go_sem, h1, q0, q], by simp [go_sem, h1], rfl⟩
    clear h1 h5
    rintro env H ⟨h5, h1, rfl⟩
    generalize (okB c && (c.frag == 0 || (decide (16 ≤ c.frag) && (decide (c.frag ≤ 1500) && decide (0 < c.mrru))))) = w at h5 ho
    cases w
    · skip
      refine w_take 10 (fun K6 hK6 => ?_)
      simp [go_sem, h1, h5, cfg_len, d9, d13, d10, d14]
      refine hK6 _ _ ?_
      clear hK6 K6
      simp [go_sem, h1, h5, cfg_len, d9, d13, d10, d14]
      refine hK _ _ ?_
      exact ⟨by simp [go_sem, ho], by simp [go_sem, h1], rfl⟩
    · skip
      by_cases s1 : 0 < c.bits
      · skip
        refine w_take 10 (fun K6 hK6 => ?_)
        simp [go_sem, h1, h5, cfg_len, d9, d13, d10, d14, s1]
        refine hK6 _ _ ?_
        clear hK6 K6
        simp [go_sem, h1, h5, cfg_len, d9, d13, d10, d14, s1]
        refine hK _ _ ?_
        exact ⟨by simp [go_sem, ho, s1], by simp [go_sem, h1], rfl⟩
      · skip
        obtain ⟨zs2, s2⟩ : ∃ z, c.must = z := ⟨_, rfl⟩
        cases zs2
        · skip
          obtain ⟨zs3, s3⟩ : ∃ z, c.stl = z := ⟨_, rfl⟩
          cases zs3
          · skip
            refine w_take 10 (fun K6 hK6 => ?_)
            simp [go_sem, h1, h5, cfg_len, d9, d13, d10, d14, s1, s2, s3]
            refine hK6 _ _ ?_
            clear hK6 K6
            simp [go_sem, h1, h5, cfg_len, d9, d13, d10, d14, s1, s2, s3]
            refine hK _ _ ?_
            exact ⟨by simp [go_sem, ho, s1, s2, s3], by simp [go_sem, h1], rfl⟩
          · skip
            refine w_take 10 (fun K6 hK6 => ?_)
            simp [go_sem, h1, h5, cfg_len, d9, d13, d10, d14, s1, s2, s3]
            refine hK6 _ _ ?_
            clear hK6 K6
            simp [go_sem, h1, h5, cfg_len, d9, d13, d10, d14, s1, s2, s3]
            refine hK _ _ ?_
            exact ⟨by simp [go_sem, ho, s1, s2, s3], by simp [go_sem, h1], rfl⟩
        · skip
          refine w_take 10 (fun K6 hK6 => ?_)
          simp [go_sem, h1, h5, cfg_len, d9, d13, d10, d14, s1, s2]
          refine hK6 _ _ ?_
          clear hK6 K6
          simp [go_sem, h1, h5, cfg_len, d9, d13, d10, d14, s1, s2]
          refine hK _ _ ?_
          exact ⟨by simp [go_sem, ho, s1, s2], by simp [go_sem, h1], rfl⟩
  clear h1 h5
  rintro env H ⟨h5, h1, rfl⟩
  refine scode_seq_k (fun K2 hK2 => ?_)
  refine scode_seq_k (fun K3 hK3 => ?_)
  refine scode_region (by kernel_rfl) ?_
  simp [go_sem, h5]
  refine hK3 _ _ ?_
  clear hK3 K3
  have hob := ok_bad c
  obtain ⟨z, hz⟩ : ∃ z, okC c = z := ⟨_, rfl⟩
  rw [hz] at hob
  have hX : (badA c || (badB c || (badC c || badD c))) = !z := by rw [hob, Bool.not_not]
  refine scode_if (b := !z) (by simp [go_sem, hz]) (fun hb => ?_) (fun hb => ?_)
  · have hv : checkV c e = 1 := by
      unfold checkV
      rw [if_neg n1, if_neg n2, if_pos (hX.trans hb)]
    refine scode_seq_k (fun K2 hK2 => ?_)
    refine scode_region (by kernel_rfl) ?_
    simp [go_sem]
    refine hK2 _ _ ?_
    clear hK2 K2
    refine scode_ret ?_
    simp only [go_sem]
    refine hR _ _ ?_
    exact ret_plain (by simp [go_sem, hv]) (empty_le _) (Nat.zero_le _) (by simp [go_sem])
  · have hv : checkV c e = 0 := by
      unfold checkV
      rw [if_neg n1, if_neg n2, if_neg (by rw [hX, hb]; decide)]
    refine scode_skip ?_
    refine hK2 _ _ ?_
    clear hK2 K2
    refine scode_seq_k (fun K2 hK2 => ?_)
    refine scode_region (by kernel_rfl) ?_
    simp [go_sem]
    refine hK2 _ _ ?_
    clear hK2 K2
    refine scode_ret ?_
    simp only [go_sem]
    refine hR _ _ ?_
    exact ret_plain (by simp [go_sem, hv]) (empty_le _) (Nat.zero_le _) (by simp [go_sem])
end Go.Proofs.YtklihehobpahkaaGreatDoor
