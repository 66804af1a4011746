/- Contracts: lcp.Check and the document's Check. -/
import Derived.Test.YtklihehobpahkaaGreatDoorM13
import Derived.Test.YtklihehobpahkaaGreatDoorM1
set_option linter.unusedVariables false
set_option linter.unusedSimpArgs false
set_option maxRecDepth 20000
noncomputable section
namespace Go.Proofs.YtklihehobpahkaaGreatDoor
open Go Go.Fl Go.Proofs

structure Cfg where
  server : Bool
  name : ByteArray
  secret : ByteArray
  mru : Int
  pfc : Bool
  acfc : Bool
  accm : Int
  mrru : Int
  short : Bool
  bits : Int
  stl : Bool
  mppc : Bool
  defl : Bool
  must : Bool
  sym : Bool
  tmo : Int
  tries : Int
  frag : Int

def Cfg.cells (c : Cfg) : List AV := [.bool c.server, .sc (.string c.name), .sc (.string c.secret), .int c.mru, .bool c.pfc, .bool c.acfc, .sc (.int .u32 c.accm), .int c.mrru, .bool c.short, .int c.bits, .bool c.stl, .bool c.mppc, .bool c.defl, .bool c.must, .bool c.sym, .int c.tmo, .int c.tries, .int c.frag]
theorem cfg_len (c : Cfg) : c.cells.length = 18 := rfl
theorem cfg_drop (c : Cfg) : (∃ r, c.cells.tail = .sc (.string c.name) :: r) ∧ (∃ r, c.cells.drop 2 = .sc (.string c.secret) :: r) ∧ (∃ r, c.cells.drop 3 = .int c.mru :: r) ∧ (∃ r, c.cells.drop 7 = .int c.mrru :: r) ∧ (∃ r, c.cells.drop 9 = .int c.bits :: r) ∧ (∃ r, c.cells.drop 10 = .bool c.stl :: r) ∧ (∃ r, c.cells.drop 13 = .bool c.must :: r) ∧ (∃ r, c.cells.drop 14 = .bool c.sym :: r) ∧ (∃ r, c.cells.drop 15 = .int c.tmo :: r) ∧ (∃ r, c.cells.drop 16 = .int c.tries :: r) ∧ (∃ r, c.cells.drop 17 = .int c.frag :: r) :=
  ⟨⟨_, rfl⟩, ⟨_, rfl⟩, ⟨_, rfl⟩, ⟨_, rfl⟩, ⟨_, rfl⟩, ⟨_, rfl⟩, ⟨_, rfl⟩, ⟨_, rfl⟩, ⟨_, rfl⟩, ⟨_, rfl⟩, ⟨_, rfl⟩⟩
theorem Cfg.lt (c : Cfg) (n : Nat) : (AV.agg c.cells).Lt n := by simp [Cfg.cells, go_sem]

@[go_sem] theorem one_get (cs : List AV) : (Heap.one cs).get 0 = some cs := rfl
theorem empty_alloc (cs : List AV) : Heap.empty.alloc cs = Heap.one cs := rfl

def strong (c : Cfg) : Bool := c.bits == 40 || (c.bits == 56 || c.bits == 128)
def badA (c : Cfg) : Bool := !betw c.mru 64 1500 || (c.mrru != 0 && !betw c.mrru 64 1500)
def badB (c : Cfg) : Bool := !strong c && (c.bits != 0 || (c.must || (c.stl || c.sym)))
def badC (c : Cfg) : Bool := !betw c.tmo 1 1000 || !betw c.tries 1 1000
def badD (c : Cfg) : Bool := c.frag != 0 && (!betw c.frag 16 1500 || c.mrru == 0)
def checkV (c : Cfg) (e : Int) : Int := if 64 < c.name.size then 3 else if e ≠ 0 then e else if (badA c || (badB c || (badC c || badD c))) = true then 1 else 0


set_option maxHeartbeats 4000000 in
theorem check_s (c : Cfg) (e : Int) (d : AV) (hd : d.Lt 0) (c19 : SCalls Tryz.prog 19 [.sc (.string c.secret)] Heap.empty (.tup [d, .int e]) Heap.empty) :
    SCalls Tryz.prog 6 [.agg c.cells] Heap.empty (.int (checkV c e)) Heap.empty := by
  have c19 := fun H => scalls_frame c19 (by simp [go_sem]) (by simp [go_sem]; exact hd) H
  have hbt := fun x a b H => scalls_frame (between_s x a b) (by simp [go_sem]) (by simp [go_sem]) H
  refine scalls_of_k (sz := 100) (Tryz.call6) Tryz.func6 rfl (Nat.le_refl _) (by kernel_rfl) (fun R hR => ?_)
  refine scode_seq_k (fun K1 hK1 => ?_)
  refine scode_region (by kernel_rfl) ?_
  simp [go_sem]
  refine hK1 _ _ ?_
  clear hK1 K1
  rw [empty_alloc]
  refine scode_seq_k (fun K2 hK2 => ?_)
  refine scode_region (by kernel_rfl) ?_
  obtain ⟨⟨r1, d1⟩, ⟨r2, d2⟩, ⟨r3, d3⟩, ⟨r7, d7⟩, ⟨r9, d9⟩, ⟨r10, d10⟩, ⟨r13, d13⟩, ⟨r14, d14⟩, ⟨r15, d15⟩, ⟨r16, d16⟩, ⟨r17, d17⟩⟩ := cfg_drop c
  simp [go_sem, cfg_len, d2]
  refine ⟨_, _, c19 _, ?_⟩
  simp [go_sem]
  refine hK2 _ _ ?_
  clear hK2 K2
  refine scode_gen (fun env H => env 1 = .ptr 0 0 ∧ env 4 = .int e ∧ H = Heap.one c.cells) ⟨by simp [go_sem], by simp [go_sem], rfl⟩ ?_
  rintro env H ⟨h1, h4, rfl⟩
  refine scode_seq_mid (fun env H => env 1 = .ptr 0 0 ∧ env 4 = .int e ∧ env 5 = .bool (strong c) ∧ H = Heap.one c.cells) ?_ ?_
  · refine scode_hide (fun K hK => ?_)
    refine scode_region (by kernel_rfl) ?_
    obtain ⟨z, q⟩ : ∃ z, (c.bits == 40) = z := ⟨_, rfl⟩
    obtain ⟨z2, q2⟩ : ∃ z, (c.bits == 56) = z := ⟨_, rfl⟩
    cases z
    · cases z2
      · simp [go_sem, h1, cfg_len, d9, q, q2]
        refine hK _ _ ?_
        exact ⟨by simp [go_sem, h1], by simp [go_sem, h4], by simp [go_sem, strong, q, q2], rfl⟩
      · simp [go_sem, h1, cfg_len, d9, q, q2]
        refine hK _ _ ?_
        exact ⟨by simp [go_sem, h1], by simp [go_sem, h4], by simp [go_sem, strong, q, q2], rfl⟩
    · simp [go_sem, h1, cfg_len, d9, q]
      refine hK _ _ ?_
      exact ⟨by simp [go_sem, h1], by simp [go_sem, h4], by simp [go_sem, strong, q], rfl⟩
  clear h1 h4
  rintro env H ⟨h1, h4, h5, rfl⟩
  refine scode_seq_mid (fun env H => checkV c e = 0) ?_ ?_
  · refine scode_block ?_
    refine scode_seq_mid (fun env H => env 25 = .bool (decide ((64 : Int) < c.name.size) || e == 3) ∧ env 1 = .ptr 0 0 ∧ env 4 = .int e ∧ env 5 = .bool (strong c) ∧ H = Heap.one c.cells) ?_ ?_
    · refine scode_hide (fun K hK => ?_)
      refine scode_region (by kernel_rfl) ?_
      by_cases q : (64 : Int) < (c.name.size : Int)
      · skip
        simp [go_sem, h1, h4, h5, cfg_len, d1, q]
        refine hK _ _ ?_
        exact ⟨by simp [go_sem, h4, q], by simp [go_sem, h1], by simp [go_sem, h4], by simp [go_sem, h5], rfl⟩
      · skip
        simp [go_sem, h1, h4, h5, cfg_len, d1, q]
        refine hK _ _ ?_
        exact ⟨by simp [go_sem, h4, q], by simp [go_sem, h1], by simp [go_sem, h4], by simp [go_sem, h5], rfl⟩
    clear h1 h4 h5
    rintro env H ⟨ht, h1, h4, h5, rfl⟩
    refine scode_if (b := decide ((64 : Int) < c.name.size) || e == 3) (by simp [go_sem, ht]) (fun hb => ?_) (fun hb => ?_)
    · have hv : checkV c e = 3 := by
        simp at hb
        unfold checkV
        rcases hb with hb | hb
        · rw [if_pos (by omega)]
        · by_cases h : 64 < c.name.size
          · rw [if_pos h]
          · rw [if_neg h, if_pos (by omega), hb]
      refine scode_seq_k (fun K2 hK2 => ?_)
      refine scode_region (by kernel_rfl) ?_
      simp [go_sem, h4]
      refine hK2 _ _ ?_
      clear hK2 K2
      refine scode_ret ?_
      simp only [go_sem]
      refine hR _ _ ?_
      exact ret_plain (by simp [go_sem, hv]) (empty_le _) (Nat.zero_le _) (by simp [go_sem])
    have n1 : ¬ 64 < c.name.size := by simp at hb; omega
    clear hb
    refine scode_seq_mid (fun env H => env 34 = .bool (e != 0) ∧ env 1 = .ptr 0 0 ∧ env 4 = .int e ∧ env 5 = .bool (strong c) ∧ H = Heap.one c.cells) ?_ ?_
    · refine scode_hide (fun K hK => ?_)
      refine scode_region (by kernel_rfl) ?_
      simp [go_sem, h1, h4, h5, cfg_len, d1]
      refine hK _ _ ?_
      exact ⟨by simp [go_sem, h4], by simp [go_sem, h1], by simp [go_sem, h4], by simp [go_sem, h5], rfl⟩
    clear h1 h4 h5 ht
    rintro env H ⟨ht, h1, h4, h5, rfl⟩
    refine scode_if (b := e != 0) (by simp [go_sem, ht]) (fun hb => ?_) (fun hb => ?_)
    · have hv : checkV c e = e := by unfold checkV; rw [if_neg n1, if_pos (by simpa using hb)]
      refine scode_seq_k (fun K2 hK2 => ?_)
      refine scode_region (by kernel_rfl) ?_
      simp [go_sem, h4]
      refine hK2 _ _ ?_
      clear hK2 K2
      refine scode_ret ?_
      simp only [go_sem]
      refine hR _ _ ?_
      exact ret_plain (by simp [go_sem, hv]) (empty_le _) (Nat.zero_le _) (by simp [go_sem])
    have n2 : ¬ (e ≠ 0) := by simpa using hb
    clear hb
    refine scode_seq_mid (fun env H => env 38 = .bool (badA c) ∧ env 1 = .ptr 0 0 ∧ env 4 = .int e ∧ env 5 = .bool (strong c) ∧ H = Heap.one c.cells) ?_ ?_
    · refine scode_hide (fun K hK => ?_)
      refine scode_region (by kernel_rfl) ?_
      obtain ⟨zq, q⟩ : ∃ z, betw c.mru 64 1500 = z := ⟨_, rfl⟩
      cases zq
      · skip
        refine w_take 3 (fun K6 hK6 => ?_)
        simp [go_sem, h1, h4, h5, cfg_len, d3, d7, q]
        refine ⟨_, _, hbt _ _ _ _, ?_⟩
        refine hK6 _ _ ?_
        clear hK6 K6
        refine w_take 9 (fun K6 hK6 => ?_)
        simp [go_sem, h1, h4, h5, cfg_len, d3, d7, q]
        refine hK6 _ _ ?_
        clear hK6 K6
        simp [go_sem, h1, h4, h5, cfg_len, d3, d7, q]
        refine hK _ _ ?_
        exact ⟨by simp [go_sem, badA, q], by simp [go_sem, h1], by simp [go_sem, h4], by simp [go_sem, h5], rfl⟩
      · skip
        obtain ⟨zq2, q2⟩ : ∃ z, (c.mrru == 0) = z := ⟨_, rfl⟩
        have q2' : (c.mrru != 0) = !zq2 := by rw [← q2]; rfl
        cases zq2
        · skip
          refine w_take 3 (fun K6 hK6 => ?_)
          simp [go_sem, h1, h4, h5, cfg_len, d3, d7, q, q2, q2']
          refine ⟨_, _, hbt _ _ _ _, ?_⟩
          refine hK6 _ _ ?_
          clear hK6 K6
          refine w_take 9 (fun K6 hK6 => ?_)
          simp [go_sem, h1, h4, h5, cfg_len, d3, d7, q, q2, q2']
          refine ⟨_, _, hbt _ _ _ _, ?_⟩
          refine hK6 _ _ ?_
          clear hK6 K6
          simp [go_sem, h1, h4, h5, cfg_len, d3, d7, q, q2, q2']
          refine hK _ _ ?_
          exact ⟨by simp [go_sem, badA, q, q2, q2'], by simp [go_sem, h1], by simp [go_sem, h4], by simp [go_sem, h5], rfl⟩
        · skip
          refine w_take 3 (fun K6 hK6 => ?_)
          simp [go_sem, h1, h4, h5, cfg_len, d3, d7, q, q2, q2']
          refine ⟨_, _, hbt _ _ _ _, ?_⟩
          refine hK6 _ _ ?_
          clear hK6 K6
          refine w_take 9 (fun K6 hK6 => ?_)
          simp [go_sem, h1, h4, h5, cfg_len, d3, d7, q, q2, q2']
          refine hK6 _ _ ?_
          clear hK6 K6
          simp [go_sem, h1, h4, h5, cfg_len, d3, d7, q, q2, q2']
          refine hK _ _ ?_
          exact ⟨by simp [go_sem, badA, q, q2, q2'], by simp [go_sem, h1], by simp [go_sem, h4], by simp [go_sem, h5], rfl⟩
    clear h1 h4 h5 ht
    rintro env H ⟨ht, h1, h4, h5, rfl⟩
    refine scode_if (b := badA c) (by simp [go_sem, ht]) (fun hb => ?_) (fun hb => ?_)
    · have hv : checkV c e = 1 := by unfold checkV; rw [if_neg n1, if_neg n2, if_pos (by simp [hb])]
      refine scode_seq_k (fun K2 hK2 => ?_)
      refine scode_region (by kernel_rfl) ?_
      simp [go_sem, h4]
      refine hK2 _ _ ?_
      clear hK2 K2
      refine scode_ret ?_
      simp only [go_sem]
      refine hR _ _ ?_
      exact ret_plain (by simp [go_sem, hv]) (empty_le _) (Nat.zero_le _) (by simp [go_sem])
    have a1 := hb
    clear hb
    refine scode_seq_mid (fun env H => env 54 = .bool (badB c) ∧ env 1 = .ptr 0 0 ∧ env 4 = .int e ∧ env 5 = .bool (strong c) ∧ H = Heap.one c.cells) ?_ ?_
    · refine scode_hide (fun K hK => ?_)
      refine scode_region (by kernel_rfl) ?_
      obtain ⟨zq, q⟩ : ∃ z, strong c = z := ⟨_, rfl⟩
      cases zq
      · skip
        obtain ⟨zq2, q2⟩ : ∃ z, (c.bits == 0) = z := ⟨_, rfl⟩
        have q2' : (c.bits != 0) = !zq2 := by rw [← q2]; rfl
        cases zq2
        · skip
          refine w_take 7 (fun K6 hK6 => ?_)
          simp [go_sem, h1, h4, h5, cfg_len, d9, d10, d13, d14, q, q2, q2']
          refine hK6 _ _ ?_
          clear hK6 K6
          refine w_take 7 (fun K6 hK6 => ?_)
          simp [go_sem, h1, h4, h5, cfg_len, d9, d10, d13, d14, q, q2, q2']
          refine hK6 _ _ ?_
          clear hK6 K6
          simp [go_sem, h1, h4, h5, cfg_len, d9, d10, d13, d14, q, q2, q2']
          refine hK _ _ ?_
          exact ⟨by simp [go_sem, badB, q, q2, q2'], by simp [go_sem, h1], by simp [go_sem, h4], by simp [go_sem, h5], rfl⟩
        · skip
          obtain ⟨zq3, q3⟩ : ∃ z, c.must = z := ⟨_, rfl⟩
          cases zq3
          · skip
            obtain ⟨zq4, q4⟩ : ∃ z, c.stl = z := ⟨_, rfl⟩
            cases zq4
            · skip
              refine w_take 7 (fun K6 hK6 => ?_)
              simp [go_sem, h1, h4, h5, cfg_len, d9, d10, d13, d14, q, q2, q2', q3, q4]
              refine hK6 _ _ ?_
              clear hK6 K6
              refine w_take 7 (fun K6 hK6 => ?_)
              simp [go_sem, h1, h4, h5, cfg_len, d9, d10, d13, d14, q, q2, q2', q3, q4]
              refine hK6 _ _ ?_
              clear hK6 K6
              simp [go_sem, h1, h4, h5, cfg_len, d9, d10, d13, d14, q, q2, q2', q3, q4]
              refine hK _ _ ?_
              exact ⟨by simp [go_sem, badB, q, q2, q2', q3, q4], by simp [go_sem, h1], by simp [go_sem, h4], by simp [go_sem, h5], rfl⟩
            · skip
              refine w_take 7 (fun K6 hK6 => ?_)
              simp [go_sem, h1, h4, h5, cfg_len, d9, d10, d13, d14, q, q2, q2', q3, q4]
              refine hK6 _ _ ?_
              clear hK6 K6
              refine w_take 7 (fun K6 hK6 => ?_)
              simp [go_sem, h1, h4, h5, cfg_len, d9, d10, d13, d14, q, q2, q2', q3, q4]
              refine hK6 _ _ ?_
              clear hK6 K6
              simp [go_sem, h1, h4, h5, cfg_len, d9, d10, d13, d14, q, q2, q2', q3, q4]
              refine hK _ _ ?_
              exact ⟨by simp [go_sem, badB, q, q2, q2', q3, q4], by simp [go_sem, h1], by simp [go_sem, h4], by simp [go_sem, h5], rfl⟩
          · skip
            refine w_take 7 (fun K6 hK6 => ?_)
            simp [go_sem, h1, h4, h5, cfg_len, d9, d10, d13, d14, q, q2, q2', q3]
            refine hK6 _ _ ?_
            clear hK6 K6
            refine w_take 7 (fun K6 hK6 => ?_)
            simp [go_sem, h1, h4, h5, cfg_len, d9, d10, d13, d14, q, q2, q2', q3]
            refine hK6 _ _ ?_
            clear hK6 K6
            simp [go_sem, h1, h4, h5, cfg_len, d9, d10, d13, d14, q, q2, q2', q3]
            refine hK _ _ ?_
            exact ⟨by simp [go_sem, badB, q, q2, q2', q3], by simp [go_sem, h1], by simp [go_sem, h4], by simp [go_sem, h5], rfl⟩
      · skip
        refine w_take 7 (fun K6 hK6 => ?_)
        simp [go_sem, h1, h4, h5, cfg_len, d9, d10, d13, d14, q]
        refine hK6 _ _ ?_
        clear hK6 K6
        refine w_take 7 (fun K6 hK6 => ?_)
        simp [go_sem, h1, h4, h5, cfg_len, d9, d10, d13, d14, q]
        refine hK6 _ _ ?_
        clear hK6 K6
        simp [go_sem, h1, h4, h5, cfg_len, d9, d10, d13, d14, q]
        refine hK _ _ ?_
        exact ⟨by simp [go_sem, badB, q], by simp [go_sem, h1], by simp [go_sem, h4], by simp [go_sem, h5], rfl⟩
    clear h1 h4 h5 ht
    rintro env H ⟨ht, h1, h4, h5, rfl⟩
    refine scode_if (b := badB c) (by simp [go_sem, ht]) (fun hb => ?_) (fun hb => ?_)
    · have hv : checkV c e = 1 := by unfold checkV; rw [if_neg n1, if_neg n2, if_pos (by simp [hb])]
      refine scode_seq_k (fun K2 hK2 => ?_)
      refine scode_region (by kernel_rfl) ?_
      simp [go_sem, h4]
      refine hK2 _ _ ?_
      clear hK2 K2
      refine scode_ret ?_
      simp only [go_sem]
      refine hR _ _ ?_
      exact ret_plain (by simp [go_sem, hv]) (empty_le _) (Nat.zero_le _) (by simp [go_sem])
    have a2 := hb
    clear hb
    refine scode_seq_mid (fun env H => env 74 = .bool (badC c) ∧ env 1 = .ptr 0 0 ∧ env 4 = .int e ∧ env 5 = .bool (strong c) ∧ H = Heap.one c.cells) ?_ ?_
    · refine scode_hide (fun K hK => ?_)
      refine scode_region (by kernel_rfl) ?_
      obtain ⟨zq, q⟩ : ∃ z, betw c.tmo 1 1000 = z := ⟨_, rfl⟩
      cases zq
      · skip
        refine w_take 3 (fun K6 hK6 => ?_)
        simp [go_sem, h1, h4, h5, cfg_len, d15, d16, q]
        refine ⟨_, _, hbt _ _ _ _, ?_⟩
        refine hK6 _ _ ?_
        clear hK6 K6
        refine w_take 5 (fun K6 hK6 => ?_)
        simp [go_sem, h1, h4, h5, cfg_len, d15, d16, q]
        refine hK6 _ _ ?_
        clear hK6 K6
        simp [go_sem, h1, h4, h5, cfg_len, d15, d16, q]
        refine hK _ _ ?_
        exact ⟨by simp [go_sem, badC, q], by simp [go_sem, h1], by simp [go_sem, h4], by simp [go_sem, h5], rfl⟩
      · skip
        refine w_take 3 (fun K6 hK6 => ?_)
        simp [go_sem, h1, h4, h5, cfg_len, d15, d16, q]
        refine ⟨_, _, hbt _ _ _ _, ?_⟩
        refine hK6 _ _ ?_
        clear hK6 K6
        refine w_take 5 (fun K6 hK6 => ?_)
        simp [go_sem, h1, h4, h5, cfg_len, d15, d16, q]
        refine ⟨_, _, hbt _ _ _ _, ?_⟩
        refine hK6 _ _ ?_
        clear hK6 K6
        simp [go_sem, h1, h4, h5, cfg_len, d15, d16, q]
        refine hK _ _ ?_
        exact ⟨by simp [go_sem, badC, q], by simp [go_sem, h1], by simp [go_sem, h4], by simp [go_sem, h5], rfl⟩
    clear h1 h4 h5 ht
    rintro env H ⟨ht, h1, h4, h5, rfl⟩
    refine scode_if (b := badC c) (by simp [go_sem, ht]) (fun hb => ?_) (fun hb => ?_)
    · have hv : checkV c e = 1 := by unfold checkV; rw [if_neg n1, if_neg n2, if_pos (by simp [hb])]
      refine scode_seq_k (fun K2 hK2 => ?_)
      refine scode_region (by kernel_rfl) ?_
      simp [go_sem, h4]
      refine hK2 _ _ ?_
      clear hK2 K2
      refine scode_ret ?_
      simp only [go_sem]
      refine hR _ _ ?_
      exact ret_plain (by simp [go_sem, hv]) (empty_le _) (Nat.zero_le _) (by simp [go_sem])
    have a3 := hb
    clear hb
    refine scode_seq_mid (fun env H => env 85 = .bool (badD c) ∧ env 1 = .ptr 0 0 ∧ env 4 = .int e ∧ env 5 = .bool (strong c) ∧ H = Heap.one c.cells) ?_ ?_
    · refine scode_hide (fun K hK => ?_)
      refine scode_region (by kernel_rfl) ?_
      obtain ⟨zq, q⟩ : ∃ z, (c.frag == 0) = z := ⟨_, rfl⟩
      have q' : (c.frag != 0) = !zq := by rw [← q]; rfl
      cases zq
      · skip
        obtain ⟨zq2, q2⟩ : ∃ z, betw c.frag 16 1500 = z := ⟨_, rfl⟩
        cases zq2
        · skip
          refine w_take 7 (fun K6 hK6 => ?_)
          simp [go_sem, h1, h4, h5, cfg_len, d17, d7, q, q', q2]
          refine ⟨_, _, hbt _ _ _ _, ?_⟩
          refine hK6 _ _ ?_
          clear hK6 K6
          simp [go_sem, h1, h4, h5, cfg_len, d17, d7, q, q', q2]
          refine hK _ _ ?_
          exact ⟨by simp [go_sem, badD, q, q', q2], by simp [go_sem, h1], by simp [go_sem, h4], by simp [go_sem, h5], rfl⟩
        · skip
          refine w_take 7 (fun K6 hK6 => ?_)
          simp [go_sem, h1, h4, h5, cfg_len, d17, d7, q, q', q2]
          refine ⟨_, _, hbt _ _ _ _, ?_⟩
          refine hK6 _ _ ?_
          clear hK6 K6
          simp [go_sem, h1, h4, h5, cfg_len, d17, d7, q, q', q2]
          refine hK _ _ ?_
          exact ⟨by simp [go_sem, badD, q, q', q2], by simp [go_sem, h1], by simp [go_sem, h4], by simp [go_sem, h5], rfl⟩
      · skip
        refine w_take 7 (fun K6 hK6 => ?_)
        simp [go_sem, h1, h4, h5, cfg_len, d17, d7, q, q']
        refine hK6 _ _ ?_
        clear hK6 K6
        simp [go_sem, h1, h4, h5, cfg_len, d17, d7, q, q']
        refine hK _ _ ?_
        exact ⟨by simp [go_sem, badD, q, q'], by simp [go_sem, h1], by simp [go_sem, h4], by simp [go_sem, h5], rfl⟩
    clear h1 h4 h5 ht
    rintro env H ⟨ht, h1, h4, h5, rfl⟩
    refine scode_if (b := badD c) (by simp [go_sem, ht]) (fun hb => ?_) (fun hb => ?_)
    · have hv : checkV c e = 1 := by unfold checkV; rw [if_neg n1, if_neg n2, if_pos (by simp [hb])]
      refine scode_seq_k (fun K2 hK2 => ?_)
      refine scode_region (by kernel_rfl) ?_
      simp [go_sem, h4]
      refine hK2 _ _ ?_
      clear hK2 K2
      refine scode_ret ?_
      simp only [go_sem]
      refine hR _ _ ?_
      exact ret_plain (by simp [go_sem, hv]) (empty_le _) (Nat.zero_le _) (by simp [go_sem])
    have a4 := hb
    clear hb
    refine scode_skip ?_
    show checkV c e = 0
    unfold checkV
    rw [if_neg n1, if_neg n2, if_neg (by simp [a1, a2, a3, a4])]
  clear h1 h4 h5
  intro env H hv
  rw [hv] at hR
  refine scode_seq_k (fun K2 hK2 => ?_)
  refine scode_region (by kernel_rfl) ?_
  simp [go_sem]
  refine hK2 _ _ ?_
  refine scode_ret ?_
  simp only [go_sem]
  refine hR _ _ ?_
  exact ret_plain (by simp [go_sem]) (empty_le _) (Nat.zero_le _) (by simp [go_sem])
end Go.Proofs.YtklihehobpahkaaGreatDoor
