/- Contracts: a reader: fail, word, num. -/
import Derived.Test.YtfmpakmigmehkaaGreatDoorS12
import Derived.Test.YtfmpakmigmehkaaGreatDoorS5As
import Derived.Test.YtfmpakmigmehkaaGreatDoorFl39
set_option linter.unusedVariables false
set_option linter.unusedSimpArgs false
set_option maxRecDepth 20000
noncomputable section S14S
namespace Go.Proofs.YtfmpakmigmehkaaGreatDoor
open Go Go.Fl Go.Proofs

/-- A reader: its words, whether a line was not so. -/
structure RS where
  ws : List Word
  bad : Bool
def errA (b : Bool) : AV := if b then oddA else .sc .nilIface
def rC (s : RS) : List AV := [wA s.ws, errA s.bad]
def RS.fail (s : RS) : RS := ⟨s.ws, true⟩
def wordR (s : RS) : Word × RS := match s.ws, s.bad with
  | w :: r, false => (w, ⟨r, false⟩)
  | _, _ => ([], s.fail)
def numR2 (s : RS) : Int × RS := match canonV (wordR s).1 with
  | some n => (n, (wordR s).2)
  | none => (0, (wordR s).2.fail)
def flagR (s : RS) : Bool × RS := ((numR2 s).1 == 1, if ((numR2 s).1 != 0 && (numR2 s).1 != 1) = true then (numR2 s).2.fail else (numR2 s).2)
def bytesR (s : RS) : Word × RS := match rawV' (wordR s).1 with
  | some b => (b, (wordR s).2)
  | none => ([], (wordR s).2.fail)
def overR (s : RS) : Bool := s.bad || !s.ws.isEmpty
theorem errA_lt (b : Bool) (n : Nat) : (errA b).Lt n = True := by cases b <;> simp [errA, oddA, go_sem]
theorem rC_lt (s : RS) (n : Nat) : ∀ x ∈ rC s, x.Lt n := by simp [rC, wA_lt, errA_lt]

theorem ret_one {P : Program} {fn : Func} {cs0 cs1 : List AV} {env : Env} {H1 : Heap} {v r : AV} (h1 : aresults P fn env H1 = some v) (hf : Froz H1 (fun b => 1 ≤ b) v r) (hg : H1.get 0 = some cs1) (hr : r.Lt 0) (hc : ∀ x ∈ cs1, x.Lt 0) : Ret P fn (Heap.one cs0) env H1 r (Heap.one cs1) := by
  have hone : ∀ cs : List AV, ∀ k c, (Heap.one cs).get k = some c → k = 0 ∧ c = cs := by
    intro cs k c hk
    unfold Heap.one at hk
    rw [Heap.get_alloc] at hk
    split at hk
    · rename_i e; cases hk; exact ⟨e, rfl⟩
    · rw [get_empty] at hk; cases hk
  have hn : (Heap.one cs1).next = 1 := rfl
  have hlt := Heap.lt_of_get hg
  refine ⟨⟨v, h1, hf.mono fun b hb => (Heap.one cs1).wf b (by rw [hn]; exact hb)⟩, ?_, Nat.le_refl _, by rw [hn]; omega, hr.mono (Nat.zero_le _), ?_⟩
  · intro k c hk
    obtain ⟨rfl, rfl⟩ := hone _ _ _ hk
    exact hg
  · intro k c hk
    obtain ⟨rfl, rfl⟩ := hone _ _ _ hk
    exact .inr fun x hx => (hc x hx).mono (Nat.zero_le _)

/-- A method of a reader, wherever the reader lies. -/
theorem rd1 {f : FuncId} {r : AV} {s s' : RS} (h : SCalls Tryz.prog f [.ptr 0 0] (Heap.one (rC s)) r (Heap.one (rC s'))) (hr : r.Lt 0) {H : Heap} {b : Nat} (hb : H.get b = some (rC s)) : SCalls Tryz.prog f [.ptr b 0] H r (H.set b (rC s')) :=
  scalls_one h (by simp [Heap.one, Heap.get_alloc, go_sem]) (rC_lt s 0) (rC_lt s' 0) hr (.cons (.ptr 0) .nil) hb
@[go_sem] theorem get_one (cs : List AV) : (Heap.one cs).get 0 = some cs := by simp [Heap.one, Heap.get_alloc, go_sem]
@[go_sem] theorem next_one (cs : List AV) : (Heap.one cs).next = 1 := rfl
theorem odd_H (H : Heap) : SCalls Tryz.prog 63 [] H oddA H := scalls_frame odd_s (by simp) (by simp [oddA, go_sem]) H
theorem oddA_leaf : oddA.leaf = true := rfl

theorem fail1 (s : RS) : SCalls Tryz.prog 41 [.ptr 0 0] (Heap.one (rC s)) (.tup []) (Heap.one (rC s.fail)) := by
  refine scalls_of_k (sz := 6) (Tryz.call41) Tryz.func41 rfl (Nat.le_refl _) (by kernel_rfl) (fun R hR => ?_)
  refine scode_hide (fun K1 hK1 => ?_)
  refine scode_region (by kernel_rfl) ?_
  refine w_take 2 (fun K2 hK2 => ?_)
  simp [go_sem, rC, oddA]
  refine ⟨_, _, odd_H _, ?_⟩
  refine hK2 _ _ ?_
  clear hK2 K2
  simp [go_sem, rC, oddA]
  refine hK1 _ _ ?_
  refine hR _ _ ?_
  exact ret_one (v := .tup []) (by first | (simp [go_sem, oddA]; done) | (simp [go_sem, oddA]; rfl)) (.same _) (by simp [go_sem, rC, errA, RS.fail, oddA]) (by simp [go_sem, bA_lt]) (rC_lt _ 0)

theorem fail_s {H : Heap} {b : Nat} {s : RS} (hb : H.get b = some (rC s)) : SCalls Tryz.prog 41 [.ptr b 0] H (.tup []) (H.set b (rC s.fail)) := rd1 (fail1 s) (by simp [go_sem]) hb

theorem word_a (b : Bool) : SCalls Tryz.prog 40 [.ptr 0 0] (Heap.one (rC ⟨[], b⟩)) (sA []) (Heap.one (rC ⟨[], true⟩)) := by
  have cf := fail_s (H := Heap.one (rC ⟨[], b⟩)) (b := 0) (s := ⟨[], b⟩) (get_one _)
  refine scalls_of_k (sz := 34) (Tryz.call40) Tryz.func40 rfl (Nat.le_refl _) (by kernel_rfl) (fun R hR => ?_)
  refine scode_seq_k (fun K1 hK1 => ?_)
  refine scode_region (by kernel_rfl) ?_
  simp [go_sem]
  refine hK1 _ _ ?_
  try clear hK1 K1
  refine scode_seq_k (fun K2 hK2 => ?_)
  refine scode_seq_k (fun K3 hK3 => ?_)
  refine scode_region (by kernel_rfl) ?_
  simp [go_sem, rC, wA, wV]
  refine hK3 _ _ ?_
  try clear hK3 K3
  refine scode_if (b := true) (by simp [go_sem]) (fun _ => ?_) (fun h => by cases h)
  refine scode_seq_k (fun K4 hK4 => ?_)
  refine scode_region (by kernel_rfl) ?_
  simp [go_sem]
  refine ⟨_, _, cf, ?_⟩
  refine hK4 _ _ ?_
  try clear hK4 K4
  refine scode_seq_k (fun K6 hK6 => ?_)
  refine scode_hide (fun K7 hK7 => ?_)
  refine scode_region (by kernel_rfl) ?_
  simp [go_sem]
  refine hK7 _ _ ?_
  refine hK6 _ _ ?_
  try clear hK6 K6
  refine scode_ret ?_
  simp only [go_sem]
  refine hR _ _ ?_
  exact ret_one (v := sA []) (by first | (simp [go_sem]; done) | (simp [go_sem]; rfl)) (.same _) (by simp [go_sem, rC, errA, RS.fail]) (by simp [go_sem, bA_lt]) (rC_lt _ 0)

theorem word_b (w : Word) (r : List Word) : SCalls Tryz.prog 40 [.ptr 0 0] (Heap.one (rC ⟨w :: r, true⟩)) (sA []) (Heap.one (rC ⟨w :: r, true⟩)) := by
  have cf := fail_s (H := Heap.one (rC ⟨w :: r, true⟩)) (b := 0) (s := ⟨w :: r, true⟩) (get_one _)
  have h1 : (((w :: r).length : Int) == 0) = false := by rw [beq_eq_false_iff_ne, List.length_cons]; omega
  have h2 : ((r.length : Int) + 1 == 0) = false := by rw [beq_eq_false_iff_ne]; omega
  refine scalls_of_k (sz := 34) (Tryz.call40) Tryz.func40 rfl (Nat.le_refl _) (by kernel_rfl) (fun R hR => ?_)
  refine scode_seq_k (fun K1 hK1 => ?_)
  refine scode_region (by kernel_rfl) ?_
  simp [go_sem]
  refine hK1 _ _ ?_
  try clear hK1 K1
  refine scode_seq_k (fun K2 hK2 => ?_)
  refine scode_seq_k (fun K3 hK3 => ?_)
  refine scode_region (by kernel_rfl) ?_
  simp [go_sem, rC, wA, errA, oddA, h1, h2]
  refine hK3 _ _ ?_
  try clear hK3 K3
  refine scode_if (b := true) (by simp [go_sem]) (fun _ => ?_) (fun h => by cases h)
  refine scode_seq_k (fun K4 hK4 => ?_)
  refine scode_region (by kernel_rfl) ?_
  simp [go_sem]
  refine ⟨_, _, cf, ?_⟩
  refine hK4 _ _ ?_
  try clear hK4 K4
  refine scode_seq_k (fun K6 hK6 => ?_)
  refine scode_hide (fun K7 hK7 => ?_)
  refine scode_region (by kernel_rfl) ?_
  simp [go_sem]
  refine hK7 _ _ ?_
  refine hK6 _ _ ?_
  try clear hK6 K6
  refine scode_ret ?_
  simp only [go_sem]
  refine hR _ _ ?_
  exact ret_one (v := sA []) (by first | (simp [go_sem]; done) | (simp [go_sem]; rfl)) (.same _) (by simp [go_sem, rC, errA, RS.fail]) (by simp [go_sem, bA_lt]) (rC_lt _ 0)

theorem word_c (w : Word) (r : List Word) : SCalls Tryz.prog 40 [.ptr 0 0] (Heap.one (rC ⟨w :: r, false⟩)) (sA w) (Heap.one (rC ⟨r, false⟩)) := by
  have h1 : (((w :: r).length : Int) == 0) = false := by rw [beq_eq_false_iff_ne, List.length_cons]; omega
  have h2 : ((r.length : Int) + 1 == 0) = false := by rw [beq_eq_false_iff_ne]; omega
  have h3 : List.take r.length (wV r) = wV r := List.take_of_length_le (by rw [wV_len]; exact Nat.le_refl _)
  refine scalls_of_k (sz := 34) (Tryz.call40) Tryz.func40 rfl (Nat.le_refl _) (by kernel_rfl) (fun R hR => ?_)
  refine scode_seq_k (fun K1 hK1 => ?_)
  refine scode_region (by kernel_rfl) ?_
  simp [go_sem]
  refine hK1 _ _ ?_
  try clear hK1 K1
  refine scode_seq_k (fun K2 hK2 => ?_)
  refine scode_seq_k (fun K3 hK3 => ?_)
  refine scode_region (by kernel_rfl) ?_
  simp [go_sem, rC, wA, errA, h1, h2]
  refine hK3 _ _ ?_
  try clear hK3 K3
  refine scode_if (b := false) (by simp [go_sem]) (fun h => by cases h) (fun _ => ?_)
  refine scode_skip ?_
  refine hK2 _ _ ?_
  try clear hK2 K2
  refine scode_seq_k (fun K4 hK4 => ?_)
  refine scode_region (by kernel_rfl) ?_
  simp [go_sem, rC, wA, wV_cons, wV_len]
  refine hK4 _ _ ?_
  try clear hK4 K4
  refine scode_seq_k (fun K5 hK5 => ?_)
  refine scode_region (by kernel_rfl) ?_
  simp [go_sem, rC, wA, wV_cons, wV_len, h3]
  refine hK5 _ _ ?_
  try clear hK5 K5
  refine scode_seq_k (fun K6 hK6 => ?_)
  refine scode_region (by kernel_rfl) ?_
  simp [go_sem]
  refine hK6 _ _ ?_
  try clear hK6 K6
  refine scode_ret ?_
  simp only [go_sem]
  refine hR _ _ ?_
  exact ret_one (v := sA w) (by first | (simp [go_sem, wA]; done) | (simp [go_sem, wA]; rfl)) (.same _) (by simp [go_sem, rC, errA, RS.fail, wA]) (by simp [go_sem, bA_lt]) (rC_lt _ 0)

theorem word1 (s : RS) : SCalls Tryz.prog 40 [.ptr 0 0] (Heap.one (rC s)) (sA (wordR s).1) (Heap.one (rC (wordR s).2)) := by
  obtain ⟨ws, bad⟩ := s
  cases ws with
  | nil => exact word_a bad
  | cons w r => cases bad with
    | true => exact word_b w r
    | false => exact word_c w r
theorem word_s {H : Heap} {b : Nat} {s : RS} (hb : H.get b = some (rC s)) : SCalls Tryz.prog 40 [.ptr b 0] H (sA (wordR s).1) (H.set b (rC (wordR s).2)) := rd1 (word1 s) (by simp [go_sem]) hb

theorem wordR_len (s : RS) (n : Nat) (h : ∀ w ∈ s.ws, w.length ≤ n) : (wordR s).1.length ≤ n ∧ ∀ w ∈ (wordR s).2.ws, w.length ≤ n := by
  obtain ⟨ws, bad⟩ := s
  cases ws with
  | nil => exact ⟨Nat.zero_le _, by simp [wordR, RS.fail]⟩
  | cons w r => cases bad with
    | true => exact ⟨Nat.zero_le _, h⟩
    | false => exact ⟨h w List.mem_cons_self, fun x hx => h x (List.mem_cons_of_mem _ hx)⟩
theorem one_set (cs cs' : List AV) : ∃ H', (Heap.one cs).set 0 cs' = H' ∧ H'.get 0 = some cs' ∧ H'.next = 1 := ⟨_, rfl, by rw [Heap.get_set, if_pos rfl, get_one]; rfl, rfl⟩

theorem num_ok (s : RS) (w : Word) (s1 : RS) (hw : wordR s = (w, s1)) (hl : w.length ≤ 1000000) (n : Int) (hn : canonV w = some n) : SCalls Tryz.prog 44 [.ptr 0 0] (Heap.one (rC s)) (.int n) (Heap.one (rC s1)) := by
  have cw := word_s (H := Heap.one (rC s)) (b := 0) (s := s) (get_one _)
  rw [hw] at cw
  obtain ⟨H2, hH2, g2, n2⟩ := one_set (rC s) (rC s1)
  simp only [hH2] at cw
  obtain ⟨hi, hw2⟩ := (canonV_iff' w n).1 hn
  have cp := parseInt_ok w (by omega) n (by rw [hw2]; exact parseIntB_itoa n hi.1 hi.2) H2
  have cf := formatInt_s n hi H2
  rw [← hw2] at cf
  refine scalls_of_k (sz := 24) (Tryz.call44) Tryz.func44 rfl (Nat.le_refl _) (by kernel_rfl) (fun R hR => ?_)
  refine scode_seq_k (fun K1 hK1 => ?_)
  refine scode_region (by kernel_rfl) ?_
  simp [go_sem]
  refine hK1 _ _ ?_
  try clear hK1 K1
  refine scode_seq_k (fun K2 hK2 => ?_)
  refine scode_region (by kernel_rfl) ?_
  refine w_take 2 (fun K3 hK3 => ?_)
  simp [go_sem]
  refine ⟨_, _, cw, ?_⟩
  refine hK3 _ _ ?_
  clear hK3 K3
  simp [go_sem]
  refine hK2 _ _ ?_
  try clear hK2 K2
  refine scode_seq_k (fun K4 hK4 => ?_)
  refine scode_region (by kernel_rfl) ?_
  refine w_take 2 (fun K5 hK5 => ?_)
  simp [go_sem]
  refine ⟨_, _, cp, ?_⟩
  refine hK5 _ _ ?_
  clear hK5 K5
  simp [go_sem]
  refine hK4 _ _ ?_
  try clear hK4 K4
  refine scode_seq_k (fun K6 hK6 => ?_)
  refine scode_seq_k (fun K7 hK7 => ?_)
  refine scode_region (by kernel_rfl) ?_
  refine w_take 5 (fun K8 hK8 => ?_)
  simp [go_sem]
  refine ⟨_, _, cf, ?_⟩
  refine hK8 _ _ ?_
  clear hK8 K8
  simp [go_sem]
  refine hK7 _ _ ?_
  try clear hK7 K7
  refine scode_if (b := false) (by simp [go_sem]) (fun h => by cases h) (fun _ => ?_)
  refine scode_skip ?_
  refine hK6 _ _ ?_
  try clear hK6 K6
  refine scode_seq_k (fun K9 hK9 => ?_)
  refine scode_hide (fun K10 hK10 => ?_)
  refine scode_region (by kernel_rfl) ?_
  simp [go_sem]
  refine hK10 _ _ ?_
  refine hK9 _ _ ?_
  try clear hK9 K9
  refine scode_ret ?_
  simp only [go_sem]
  refine hR _ _ ?_
  exact ret_one (v := .int n) (by simp [go_sem]) (.same _) (by simp [go_sem, g2]) (by simp [go_sem]) (rC_lt _ 0)

theorem num_can (s : RS) (w : Word) (s1 : RS) (hw : wordR s = (w, s1)) (hl : w.length ≤ 1000000) (n : Int) (hp : Lib.parseIntB 64 w = .ok n) (hn : Lib.itoa n ≠ w) : SCalls Tryz.prog 44 [.ptr 0 0] (Heap.one (rC s)) (.int 0) (Heap.one (rC s1.fail)) := by
  have cw := word_s (H := Heap.one (rC s)) (b := 0) (s := s) (get_one _)
  rw [hw] at cw
  obtain ⟨H2, hH2, g2, n2⟩ := one_set (rC s) (rC s1)
  simp only [hH2] at cw
  have hi : inI n := parseIntB_range hp
  have cp := parseInt_ok w (by omega) n hp H2
  have cf := formatInt_s n hi H2
  have hne : (Lib.itoa n == w) = false := by simpa using hn
  have cfl := fail_s (H := H2) (b := 0) (s := s1) g2
  refine scalls_of_k (sz := 24) (Tryz.call44) Tryz.func44 rfl (Nat.le_refl _) (by kernel_rfl) (fun R hR => ?_)
  refine scode_seq_k (fun K1 hK1 => ?_)
  refine scode_region (by kernel_rfl) ?_
  simp [go_sem]
  refine hK1 _ _ ?_
  try clear hK1 K1
  refine scode_seq_k (fun K2 hK2 => ?_)
  refine scode_region (by kernel_rfl) ?_
  refine w_take 2 (fun K3 hK3 => ?_)
  simp [go_sem]
  refine ⟨_, _, cw, ?_⟩
  refine hK3 _ _ ?_
  clear hK3 K3
  simp [go_sem]
  refine hK2 _ _ ?_
  try clear hK2 K2
  refine scode_seq_k (fun K4 hK4 => ?_)
  refine scode_region (by kernel_rfl) ?_
  refine w_take 2 (fun K5 hK5 => ?_)
  simp [go_sem]
  refine ⟨_, _, cp, ?_⟩
  refine hK5 _ _ ?_
  clear hK5 K5
  simp [go_sem]
  refine hK4 _ _ ?_
  try clear hK4 K4
  refine scode_seq_k (fun K6 hK6 => ?_)
  refine scode_seq_k (fun K7 hK7 => ?_)
  refine scode_region (by kernel_rfl) ?_
  refine w_take 5 (fun K8 hK8 => ?_)
  simp [go_sem, hne, hn]
  refine ⟨_, _, cf, ?_⟩
  refine hK8 _ _ ?_
  clear hK8 K8
  simp [go_sem, hne, hn]
  refine hK7 _ _ ?_
  try clear hK7 K7
  refine scode_if (b := true) (by simp [go_sem]) (fun _ => ?_) (fun h => by cases h)
  refine scode_seq_k (fun K9 hK9 => ?_)
  refine scode_region (by kernel_rfl) ?_
  simp [go_sem]
  refine ⟨_, _, cfl, ?_⟩
  refine hK9 _ _ ?_
  try clear hK9 K9
  refine scode_seq_k (fun K11 hK11 => ?_)
  refine scode_hide (fun K12 hK12 => ?_)
  refine scode_region (by kernel_rfl) ?_
  simp [go_sem]
  refine hK12 _ _ ?_
  refine hK11 _ _ ?_
  try clear hK11 K11
  refine scode_ret ?_
  simp only [go_sem]
  refine hR _ _ ?_
  exact ret_one (v := .int 0) (by simp [go_sem]) (.same _) (by simp [go_sem, g2]) (by simp [go_sem]) (rC_lt _ 0)

theorem num_bad (s : RS) (w : Word) (s1 : RS) (hw : wordR s = (w, s1)) (hl : w.length ≤ 1000000) (hp : ∀ v, Lib.parseIntB 64 w ≠ .ok v) : SCalls Tryz.prog 44 [.ptr 0 0] (Heap.one (rC s)) (.int 0) (Heap.one (rC s1.fail)) := by
  have cw := word_s (H := Heap.one (rC s)) (b := 0) (s := s) (get_one _)
  rw [hw] at cw
  obtain ⟨H2, hH2, g2, n2⟩ := one_set (rC s) (rC s1)
  simp only [hH2] at cw
  obtain ⟨n, cp⟩ := parseInt_bad w (by omega) hp H2
  have cfl := fail_s (H := H2) (b := 0) (s := s1) g2
  refine scalls_of_k (sz := 24) (Tryz.call44) Tryz.func44 rfl (Nat.le_refl _) (by kernel_rfl) (fun R hR => ?_)
  refine scode_seq_k (fun K1 hK1 => ?_)
  refine scode_region (by kernel_rfl) ?_
  simp [go_sem]
  refine hK1 _ _ ?_
  try clear hK1 K1
  refine scode_seq_k (fun K2 hK2 => ?_)
  refine scode_region (by kernel_rfl) ?_
  refine w_take 2 (fun K3 hK3 => ?_)
  simp [go_sem]
  refine ⟨_, _, cw, ?_⟩
  refine hK3 _ _ ?_
  clear hK3 K3
  simp [go_sem]
  refine hK2 _ _ ?_
  try clear hK2 K2
  refine scode_seq_k (fun K4 hK4 => ?_)
  refine scode_region (by kernel_rfl) ?_
  refine w_take 2 (fun K5 hK5 => ?_)
  simp [go_sem]
  refine ⟨_, _, cp, ?_⟩
  refine hK5 _ _ ?_
  clear hK5 K5
  simp [go_sem]
  refine hK4 _ _ ?_
  try clear hK4 K4
  refine scode_seq_k (fun K6 hK6 => ?_)
  refine scode_seq_k (fun K7 hK7 => ?_)
  refine scode_region (by kernel_rfl) ?_
  simp [go_sem]
  refine hK7 _ _ ?_
  try clear hK7 K7
  refine scode_if (b := true) (by simp [go_sem]) (fun _ => ?_) (fun h => by cases h)
  refine scode_seq_k (fun K8 hK8 => ?_)
  refine scode_region (by kernel_rfl) ?_
  simp [go_sem]
  refine ⟨_, _, cfl, ?_⟩
  refine hK8 _ _ ?_
  try clear hK8 K8
  refine scode_seq_k (fun K10 hK10 => ?_)
  refine scode_hide (fun K11 hK11 => ?_)
  refine scode_region (by kernel_rfl) ?_
  simp [go_sem]
  refine hK11 _ _ ?_
  refine hK10 _ _ ?_
  try clear hK10 K10
  refine scode_ret ?_
  simp only [go_sem]
  refine hR _ _ ?_
  exact ret_one (v := .int 0) (by simp [go_sem]) (.same _) (by simp [go_sem, g2]) (by simp [go_sem]) (rC_lt _ 0)

theorem num1 (s : RS) (hl : ∀ w ∈ s.ws, w.length ≤ 1000000) : SCalls Tryz.prog 44 [.ptr 0 0] (Heap.one (rC s)) (.int (numR2 s).1) (Heap.one (rC (numR2 s).2)) := by
  obtain ⟨w, s1, hw⟩ : ∃ w s1, wordR s = (w, s1) := ⟨_, _, rfl⟩
  have hwl := (wordR_len s _ hl).1
  rw [hw] at hwl
  unfold numR2
  rw [hw]
  cases hc : canonV w with
  | some n => simp only [hc]; exact num_ok s w s1 hw hwl n hc
  | none =>
    simp only [hc]
    cases hp : Lib.parseIntB 64 w with
    | ok n =>
      refine num_can s w s1 hw hwl n hp fun e => ?_
      have := (canonV_iff' w n).2 ⟨parseIntB_range hp, e.symm⟩
      rw [hc] at this; cases this
    | _ => exact num_bad s w s1 hw hwl (by rw [hp]; intro v h; cases h)
theorem num_s {H : Heap} {b : Nat} {s : RS} (hl : ∀ w ∈ s.ws, w.length ≤ 1000000) (hb : H.get b = some (rC s)) : SCalls Tryz.prog 44 [.ptr b 0] H (.int (numR2 s).1) (H.set b (rC (numR2 s).2)) := rd1 (num1 s hl) (by simp [go_sem]) hb

end Go.Proofs.YtfmpakmigmehkaaGreatDoor
end S14S

set_option maxRecDepth 20000
noncomputable section S15S
namespace Go.Proofs.YtfmpakmigmehkaaGreatDoor
open Go Go.Fl Go.Proofs

theorem froz_one {H : Heap} {x : AV} {n sz : Nat} {cs : List AV} {bo : Option Nat} (hg : grown H sz x = some (n, cs, bo)) (hbo : bo ≠ some 0) : Froz H (fun b => 1 ≤ b) x (.vs n sz cs) :=
  grown_froz hg fun b hb => by
    subst hb
    rcases Nat.eq_zero_or_pos b with h | h
    · subst h; exact absurd rfl hbo
    · exact h

theorem flag_a (s : RS) (hl : ∀ w ∈ s.ws, w.length ≤ 1000000) (n : Int) (s1 : RS) (hn : numR2 s = (n, s1)) (z0 : (n != 0) = false) : SCalls Tryz.prog 42 [.ptr 0 0] (Heap.one (rC s)) (.bool (n == 1)) (Heap.one (rC s1)) := by
  have cn := num_s (H := Heap.one (rC s)) (b := 0) (s := s) hl (get_one _)
  rw [hn] at cn
  obtain ⟨H2, hH2, g2, n2⟩ := one_set (rC s) (rC s1)
  simp only [hH2] at cn
  have e0 : n = 0 := by simpa using z0
  refine scalls_of_k (sz := 16) (Tryz.call42) Tryz.func42 rfl (Nat.le_refl _) (by kernel_rfl) (fun R hR => ?_)
  refine scode_seq_k (fun K1 hK1 => ?_)
  refine scode_region (by kernel_rfl) ?_
  simp [go_sem]
  refine hK1 _ _ ?_
  try clear hK1 K1
  refine scode_seq_k (fun K2 hK2 => ?_)
  refine scode_region (by kernel_rfl) ?_
  refine w_take 2 (fun K3 hK3 => ?_)
  simp [go_sem]
  refine ⟨_, _, cn, ?_⟩
  refine hK3 _ _ ?_
  clear hK3 K3
  simp [go_sem]
  refine hK2 _ _ ?_
  try clear hK2 K2
  refine scode_seq_k (fun K4 hK4 => ?_)
  refine scode_seq_k (fun K5 hK5 => ?_)
  refine scode_region (by kernel_rfl) ?_
  simp [go_sem, z0]
  refine hK5 _ _ ?_
  try clear hK5 K5
  refine scode_if (b := false) (by simp [go_sem]) (fun h => by cases h) (fun _ => ?_)
  refine scode_skip ?_
  refine hK4 _ _ ?_
  try clear hK4 K4
  refine scode_seq_k (fun K6 hK6 => ?_)
  refine scode_hide (fun K7 hK7 => ?_)
  refine scode_region (by kernel_rfl) ?_
  simp [go_sem]
  refine hK7 _ _ ?_
  refine hK6 _ _ ?_
  try clear hK6 K6
  refine scode_ret ?_
  simp only [go_sem]
  refine hR _ _ ?_
  exact ret_one (v := .bool (n == 1)) (by simp [go_sem]) (.same _) (by simp [go_sem, g2]) (by simp [go_sem]) (rC_lt _ 0)

theorem flag_b (s : RS) (hl : ∀ w ∈ s.ws, w.length ≤ 1000000) (n : Int) (s1 : RS) (hn : numR2 s = (n, s1)) (z0 : (n != 0) = true) (z1 : (n != 1) = false) : SCalls Tryz.prog 42 [.ptr 0 0] (Heap.one (rC s)) (.bool (n == 1)) (Heap.one (rC s1)) := by
  have cn := num_s (H := Heap.one (rC s)) (b := 0) (s := s) hl (get_one _)
  rw [hn] at cn
  obtain ⟨H2, hH2, g2, n2⟩ := one_set (rC s) (rC s1)
  simp only [hH2] at cn
  refine scalls_of_k (sz := 16) (Tryz.call42) Tryz.func42 rfl (Nat.le_refl _) (by kernel_rfl) (fun R hR => ?_)
  refine scode_seq_k (fun K1 hK1 => ?_)
  refine scode_region (by kernel_rfl) ?_
  simp [go_sem]
  refine hK1 _ _ ?_
  try clear hK1 K1
  refine scode_seq_k (fun K2 hK2 => ?_)
  refine scode_region (by kernel_rfl) ?_
  refine w_take 2 (fun K3 hK3 => ?_)
  simp [go_sem]
  refine ⟨_, _, cn, ?_⟩
  refine hK3 _ _ ?_
  clear hK3 K3
  simp [go_sem]
  refine hK2 _ _ ?_
  try clear hK2 K2
  refine scode_seq_k (fun K4 hK4 => ?_)
  refine scode_seq_k (fun K5 hK5 => ?_)
  refine scode_region (by kernel_rfl) ?_
  simp [go_sem, z0, z1]
  refine hK5 _ _ ?_
  try clear hK5 K5
  refine scode_if (b := false) (by simp [go_sem]) (fun h => by cases h) (fun _ => ?_)
  refine scode_skip ?_
  refine hK4 _ _ ?_
  try clear hK4 K4
  refine scode_seq_k (fun K6 hK6 => ?_)
  refine scode_hide (fun K7 hK7 => ?_)
  refine scode_region (by kernel_rfl) ?_
  simp [go_sem]
  refine hK7 _ _ ?_
  refine hK6 _ _ ?_
  try clear hK6 K6
  refine scode_ret ?_
  simp only [go_sem]
  refine hR _ _ ?_
  exact ret_one (v := .bool (n == 1)) (by simp [go_sem]) (.same _) (by simp [go_sem, g2]) (by simp [go_sem]) (rC_lt _ 0)

theorem flag_c (s : RS) (hl : ∀ w ∈ s.ws, w.length ≤ 1000000) (n : Int) (s1 : RS) (hn : numR2 s = (n, s1)) (z0 : (n != 0) = true) (z1 : (n != 1) = true) : SCalls Tryz.prog 42 [.ptr 0 0] (Heap.one (rC s)) (.bool (n == 1)) (Heap.one (rC s1.fail)) := by
  have cn := num_s (H := Heap.one (rC s)) (b := 0) (s := s) hl (get_one _)
  rw [hn] at cn
  obtain ⟨H2, hH2, g2, n2⟩ := one_set (rC s) (rC s1)
  simp only [hH2] at cn
  have cfl := fail_s (H := H2) (b := 0) (s := s1) g2
  refine scalls_of_k (sz := 16) (Tryz.call42) Tryz.func42 rfl (Nat.le_refl _) (by kernel_rfl) (fun R hR => ?_)
  refine scode_seq_k (fun K1 hK1 => ?_)
  refine scode_region (by kernel_rfl) ?_
  simp [go_sem]
  refine hK1 _ _ ?_
  try clear hK1 K1
  refine scode_seq_k (fun K2 hK2 => ?_)
  refine scode_region (by kernel_rfl) ?_
  refine w_take 2 (fun K3 hK3 => ?_)
  simp [go_sem]
  refine ⟨_, _, cn, ?_⟩
  refine hK3 _ _ ?_
  clear hK3 K3
  simp [go_sem]
  refine hK2 _ _ ?_
  try clear hK2 K2
  refine scode_seq_k (fun K4 hK4 => ?_)
  refine scode_seq_k (fun K5 hK5 => ?_)
  refine scode_region (by kernel_rfl) ?_
  simp [go_sem, z0, z1]
  refine hK5 _ _ ?_
  try clear hK5 K5
  refine scode_if (b := true) (by simp [go_sem]) (fun _ => ?_) (fun h => by cases h)
  refine scode_region (by kernel_rfl) ?_
  simp [go_sem]
  refine ⟨_, _, cfl, ?_⟩
  refine hK4 _ _ ?_
  try clear hK4 K4
  refine scode_seq_k (fun K7 hK7 => ?_)
  refine scode_hide (fun K8 hK8 => ?_)
  refine scode_region (by kernel_rfl) ?_
  simp [go_sem]
  refine hK8 _ _ ?_
  refine hK7 _ _ ?_
  try clear hK7 K7
  refine scode_ret ?_
  simp only [go_sem]
  refine hR _ _ ?_
  exact ret_one (v := .bool (n == 1)) (by simp [go_sem]) (.same _) (by simp [go_sem, g2]) (by simp [go_sem]) (rC_lt _ 0)

theorem flag1 (s : RS) (hl : ∀ w ∈ s.ws, w.length ≤ 1000000) : SCalls Tryz.prog 42 [.ptr 0 0] (Heap.one (rC s)) (.bool (flagR s).1) (Heap.one (rC (flagR s).2)) := by
  obtain ⟨n, s1, hn⟩ : ∃ n s1, numR2 s = (n, s1) := ⟨_, _, rfl⟩
  unfold flagR
  rw [hn]
  cases z0 : (n != 0) with
  | false => simp only [z0, Bool.false_and, Bool.false_eq_true, if_false]; exact flag_a s hl n s1 hn z0
  | true => cases z1 : (n != 1) with
    | false => simp only [z0, z1, Bool.and_false, Bool.false_eq_true, if_false]; exact flag_b s hl n s1 hn z0 z1
    | true => simp only [z0, z1, Bool.and_true, if_true]; exact flag_c s hl n s1 hn z0 z1
theorem flag_s {H : Heap} {b : Nat} {s : RS} (hl : ∀ w ∈ s.ws, w.length ≤ 1000000) (hb : H.get b = some (rC s)) : SCalls Tryz.prog 42 [.ptr b 0] H (.bool (flagR s).1) (H.set b (rC (flagR s).2)) := rd1 (flag1 s hl) (by simp [go_sem]) hb

theorem over_a (b : Bool) : SCalls Tryz.prog 45 [.ptr 0 0] (Heap.one (rC ⟨[], b⟩)) (errA b) (Heap.one (rC ⟨[], b⟩)) := by
  have hlf : (errA b).leaf = true := by cases b <;> rfl
  refine scalls_of_k (sz := 15) (Tryz.call45) Tryz.func45 rfl (Nat.le_refl _) (by kernel_rfl) (fun R hR => ?_)
  refine scode_seq_k (fun K1 hK1 => ?_)
  refine scode_region (by kernel_rfl) ?_
  simp [go_sem]
  refine hK1 _ _ ?_
  try clear hK1 K1
  refine scode_seq_k (fun K2 hK2 => ?_)
  refine scode_seq_k (fun K3 hK3 => ?_)
  refine scode_region (by kernel_rfl) ?_
  simp [go_sem, rC, wA, wV]
  refine hK3 _ _ ?_
  try clear hK3 K3
  refine scode_if (b := false) (by simp [go_sem]) (fun h => by cases h) (fun _ => ?_)
  refine scode_skip ?_
  refine hK2 _ _ ?_
  try clear hK2 K2
  refine scode_seq_k (fun K4 hK4 => ?_)
  refine scode_hide (fun K5 hK5 => ?_)
  refine scode_region (by kernel_rfl) ?_
  simp [go_sem, rC]
  refine hK5 _ _ ?_
  refine hK4 _ _ ?_
  try clear hK4 K4
  refine scode_ret ?_
  simp only [go_sem]
  refine hR _ _ ?_
  exact ret_one (v := errA b) (by simp [go_sem]) (.same _) (by simp [go_sem, rC, wA, wV]) (by simp [errA_lt]) (rC_lt _ 0)

theorem over_b (w : Word) (r : List Word) (b : Bool) : SCalls Tryz.prog 45 [.ptr 0 0] (Heap.one (rC ⟨w :: r, b⟩)) oddA (Heap.one (rC ⟨w :: r, true⟩)) := by
  have cfl := fail_s (H := Heap.one (rC ⟨w :: r, b⟩)) (b := 0) (s := ⟨w :: r, b⟩) (get_one _)
  have h1 : (0 : Int) < ((w :: r).length : Int) := by rw [List.length_cons]; omega
  have h2 : (0 : Int) < (r.length : Int) + 1 := by omega
  refine scalls_of_k (sz := 15) (Tryz.call45) Tryz.func45 rfl (Nat.le_refl _) (by kernel_rfl) (fun R hR => ?_)
  refine scode_seq_k (fun K1 hK1 => ?_)
  refine scode_region (by kernel_rfl) ?_
  simp [go_sem]
  refine hK1 _ _ ?_
  try clear hK1 K1
  refine scode_seq_k (fun K2 hK2 => ?_)
  refine scode_seq_k (fun K3 hK3 => ?_)
  refine scode_region (by kernel_rfl) ?_
  simp [go_sem, rC, wA, h1, h2]
  refine hK3 _ _ ?_
  try clear hK3 K3
  refine scode_if (b := true) (by simp [go_sem, h1, h2]) (fun _ => ?_) (fun h => by cases h)
  refine scode_region (by kernel_rfl) ?_
  simp [go_sem]
  refine ⟨_, _, cfl, ?_⟩
  refine hK2 _ _ ?_
  try clear hK2 K2
  refine scode_seq_k (fun K5 hK5 => ?_)
  refine scode_hide (fun K6 hK6 => ?_)
  refine scode_region (by kernel_rfl) ?_
  simp [go_sem, rC, RS.fail, errA, oddA]
  refine hK6 _ _ ?_
  refine hK5 _ _ ?_
  try clear hK5 K5
  refine scode_ret ?_
  simp only [go_sem]
  refine hR _ _ ?_
  exact ret_one (v := oddA) (by simp [go_sem, oddA]) (.same _) (by simp [go_sem, rC, RS.fail, errA, oddA]) (by simp [oddA, go_sem]) (rC_lt _ 0)

theorem over1 (s : RS) : ∃ s', SCalls Tryz.prog 45 [.ptr 0 0] (Heap.one (rC s)) (errA (overR s)) (Heap.one (rC s')) := by
  obtain ⟨ws, b⟩ := s
  cases ws with
  | nil =>
    refine ⟨⟨[], b⟩, ?_⟩
    have : overR ⟨[], b⟩ = b := by simp [overR]
    rw [this]
    exact over_a b
  | cons w r =>
    refine ⟨⟨w :: r, true⟩, ?_⟩
    have : overR ⟨w :: r, b⟩ = true := by simp [overR]
    rw [this]
    exact over_b w r b
theorem over_s {H : Heap} {b : Nat} {s : RS} (hb : H.get b = some (rC s)) : ∃ s', SCalls Tryz.prog 45 [.ptr b 0] H (errA (overR s)) (H.set b (rC s')) := by
  obtain ⟨s', h⟩ := over1 s
  exact ⟨s', rd1 h (by rw [errA_lt]; trivial) hb⟩

theorem bytes_dash (s : RS) (s1 : RS) (hw : wordR s = ([45], s1)) : SCalls Tryz.prog 43 [.ptr 0 0] (Heap.one (rC s)) (bA []) (Heap.one (rC s1)) := by
  have cw := word_s (H := Heap.one (rC s)) (b := 0) (s := s) (get_one _)
  rw [hw] at cw
  obtain ⟨H2, hH2, g2, n2⟩ := one_set (rC s) (rC s1)
  simp only [hH2] at cw
  refine scalls_of_k (sz := 54) (Tryz.call43) Tryz.func43 rfl (Nat.le_refl _) (by kernel_rfl) (fun R hR => ?_)
  refine scode_seq_k (fun K1 hK1 => ?_)
  refine scode_region (by kernel_rfl) ?_
  simp [go_sem]
  refine hK1 _ _ ?_
  try clear hK1 K1
  refine scode_seq_k (fun K2 hK2 => ?_)
  refine scode_region (by kernel_rfl) ?_
  refine w_take 2 (fun K3 hK3 => ?_)
  simp [go_sem]
  refine ⟨_, _, cw, ?_⟩
  refine hK3 _ _ ?_
  clear hK3 K3
  simp [go_sem]
  refine hK2 _ _ ?_
  try clear hK2 K2
  refine scode_seq_k (fun K4 hK4 => ?_)
  refine scode_seq_k (fun K5 hK5 => ?_)
  refine scode_region (by kernel_rfl) ?_
  simp [go_sem]
  refine hK5 _ _ ?_
  try clear hK5 K5
  refine scode_if (b := true) (by simp [go_sem]) (fun _ => ?_) (fun h => by cases h)
  refine scode_seq_k (fun K6 hK6 => ?_)
  refine scode_hide (fun K7 hK7 => ?_)
  refine scode_region (by kernel_rfl) ?_
  simp [go_sem]
  refine hK7 _ _ ?_
  refine hK6 _ _ ?_
  try clear hK6 K6
  refine scode_ret ?_
  simp only [go_sem]
  refine hR _ _ ?_
  exact ret_one (v := .nil) (by simp [go_sem]) (.nil 1) (by simp [go_sem, g2]) (by simp [bA_lt]) (rC_lt _ 0)

theorem bytes_nil (s : RS) (s1 : RS) (hw : wordR s = ([], s1)) : SCalls Tryz.prog 43 [.ptr 0 0] (Heap.one (rC s)) (bA []) (Heap.one (rC s1.fail)) := by
  have cw := word_s (H := Heap.one (rC s)) (b := 0) (s := s) (get_one _)
  rw [hw] at cw
  obtain ⟨H2, hH2, g2, n2⟩ := one_set (rC s) (rC s1)
  simp only [hH2] at cw
  have cfl := fail_s (H := H2) (b := 0) (s := s1) g2
  refine scalls_of_k (sz := 54) (Tryz.call43) Tryz.func43 rfl (Nat.le_refl _) (by kernel_rfl) (fun R hR => ?_)
  refine scode_seq_k (fun K1 hK1 => ?_)
  refine scode_region (by kernel_rfl) ?_
  simp [go_sem]
  refine hK1 _ _ ?_
  try clear hK1 K1
  refine scode_seq_k (fun K2 hK2 => ?_)
  refine scode_region (by kernel_rfl) ?_
  refine w_take 2 (fun K3 hK3 => ?_)
  simp [go_sem]
  refine ⟨_, _, cw, ?_⟩
  refine hK3 _ _ ?_
  clear hK3 K3
  simp [go_sem]
  refine hK2 _ _ ?_
  try clear hK2 K2
  refine scode_seq_k (fun K4 hK4 => ?_)
  refine scode_seq_k (fun K5 hK5 => ?_)
  refine scode_region (by kernel_rfl) ?_
  simp [go_sem]
  refine hK5 _ _ ?_
  try clear hK5 K5
  refine scode_if (b := false) (by simp [go_sem]) (fun h => by cases h) (fun _ => ?_)
  refine scode_skip ?_
  refine hK4 _ _ ?_
  try clear hK4 K4
  refine scode_seq_k (fun K6 hK6 => ?_)
  refine scode_seq_k (fun K7 hK7 => ?_)
  refine scode_region (by kernel_rfl) ?_
  simp [go_sem]
  refine hK7 _ _ ?_
  try clear hK7 K7
  refine scode_if (b := true) (by simp [go_sem]) (fun _ => ?_) (fun h => by cases h)
  refine scode_seq_k (fun K8 hK8 => ?_)
  refine scode_region (by kernel_rfl) ?_
  simp [go_sem]
  refine ⟨_, _, cfl, ?_⟩
  refine hK8 _ _ ?_
  try clear hK8 K8
  refine scode_seq_k (fun K10 hK10 => ?_)
  refine scode_hide (fun K11 hK11 => ?_)
  refine scode_region (by kernel_rfl) ?_
  simp [go_sem]
  refine hK11 _ _ ?_
  refine hK10 _ _ ?_
  try clear hK10 K10
  refine scode_ret ?_
  simp only [go_sem]
  refine hR _ _ ?_
  exact ret_one (v := .nil) (by simp [go_sem]) (.nil 1) (by simp [go_sem, g2]) (by simp [bA_lt]) (rC_lt _ 0)

theorem bytes_odd (s : RS) (w : Word) (s1 : RS) (hw : wordR s = (w, s1)) (h1 : (w == [45]) = false) (h0 : w ≠ []) (he : w.length % 2 = 1) : SCalls Tryz.prog 43 [.ptr 0 0] (Heap.one (rC s)) (bA []) (Heap.one (rC s1.fail)) := by
  have cw := word_s (H := Heap.one (rC s)) (b := 0) (s := s) (get_one _)
  rw [hw] at cw
  obtain ⟨H2, hH2, g2, n2⟩ := one_set (rC s) (rC s1)
  simp only [hH2] at cw
  have cfl := fail_s (H := H2) (b := 0) (s := s1) g2
  have h3 : (w == []) = false := by simp; exact h0
  have h5 : (w.length : Int).tmod 2 = 1 := by
    have : (w.length : Int).tmod 2 = ((w.length % 2 : Nat) : Int) := rfl
    rw [this, he]; rfl
  refine scalls_of_k (sz := 54) (Tryz.call43) Tryz.func43 rfl (Nat.le_refl _) (by kernel_rfl) (fun R hR => ?_)
  refine scode_seq_k (fun K1 hK1 => ?_)
  refine scode_region (by kernel_rfl) ?_
  simp [go_sem]
  refine hK1 _ _ ?_
  try clear hK1 K1
  refine scode_seq_k (fun K2 hK2 => ?_)
  refine scode_region (by kernel_rfl) ?_
  refine w_take 2 (fun K3 hK3 => ?_)
  simp [go_sem]
  refine ⟨_, _, cw, ?_⟩
  refine hK3 _ _ ?_
  clear hK3 K3
  simp [go_sem]
  refine hK2 _ _ ?_
  try clear hK2 K2
  refine scode_seq_k (fun K4 hK4 => ?_)
  refine scode_seq_k (fun K5 hK5 => ?_)
  refine scode_region (by kernel_rfl) ?_
  simp [go_sem, h1]
  refine hK5 _ _ ?_
  try clear hK5 K5
  refine scode_if (b := false) (by simp [go_sem]) (fun h => by cases h) (fun _ => ?_)
  refine scode_skip ?_
  refine hK4 _ _ ?_
  try clear hK4 K4
  refine scode_seq_k (fun K6 hK6 => ?_)
  refine scode_seq_k (fun K7 hK7 => ?_)
  refine scode_region (by kernel_rfl) ?_
  simp [go_sem, h3, h0, h5]
  refine hK7 _ _ ?_
  try clear hK7 K7
  refine scode_if (b := true) (by simp [go_sem]) (fun _ => ?_) (fun h => by cases h)
  refine scode_seq_k (fun K8 hK8 => ?_)
  refine scode_region (by kernel_rfl) ?_
  simp [go_sem]
  refine ⟨_, _, cfl, ?_⟩
  refine hK8 _ _ ?_
  try clear hK8 K8
  refine scode_seq_k (fun K10 hK10 => ?_)
  refine scode_hide (fun K11 hK11 => ?_)
  refine scode_region (by kernel_rfl) ?_
  simp [go_sem]
  refine hK11 _ _ ?_
  refine hK10 _ _ ?_
  try clear hK10 K10
  refine scode_ret ?_
  simp only [go_sem]
  refine hR _ _ ?_
  exact ret_one (v := .nil) (by simp [go_sem]) (.nil 1) (by simp [go_sem, g2]) (by simp [bA_lt]) (rC_lt _ 0)

theorem bytes_good (s : RS) (w : Word) (s1 : RS) (hw : wordR s = (w, s1)) (hl : w.length ≤ 1000000) (h1 : (w == [45]) = false) (h0 : w ≠ []) (he : w.length % 2 = 0) (d : Word) (hgood : pairsV w = some d) : SCalls Tryz.prog 43 [.ptr 0 0] (Heap.one (rC s)) (bA d) (Heap.one (rC s1)) := by
  have cw := word_s (H := Heap.one (rC s)) (b := 0) (s := s) (get_one _)
  rw [hw] at cw
  obtain ⟨H2, hH2, g2, n2⟩ := one_set (rC s) (rC s1)
  simp only [hH2] at cw
  have h3 : (w == []) = false := by simp; exact h0
  have h5 : (w.length : Int).tmod 2 = 0 := by
    have : (w.length : Int).tmod 2 = ((w.length % 2 : Nat) : Int) := rfl
    rw [this, he]; rfl
  refine scalls_of_k (sz := 54) (Tryz.call43) Tryz.func43 rfl (Nat.le_refl _) (by kernel_rfl) (fun R hR => ?_)
  refine scode_seq_k (fun K1 hK1 => ?_)
  refine scode_region (by kernel_rfl) ?_
  simp [go_sem]
  refine hK1 _ _ ?_
  try clear hK1 K1
  refine scode_seq_k (fun K2 hK2 => ?_)
  refine scode_region (by kernel_rfl) ?_
  refine w_take 2 (fun K3 hK3 => ?_)
  simp [go_sem]
  refine ⟨_, _, cw, ?_⟩
  refine hK3 _ _ ?_
  clear hK3 K3
  simp [go_sem]
  refine hK2 _ _ ?_
  try clear hK2 K2
  refine scode_seq_k (fun K4 hK4 => ?_)
  refine scode_seq_k (fun K5 hK5 => ?_)
  refine scode_region (by kernel_rfl) ?_
  simp [go_sem, h1]
  refine hK5 _ _ ?_
  try clear hK5 K5
  refine scode_if (b := false) (by simp [go_sem]) (fun h => by cases h) (fun _ => ?_)
  refine scode_skip ?_
  refine hK4 _ _ ?_
  try clear hK4 K4
  refine scode_seq_k (fun K6 hK6 => ?_)
  refine scode_seq_k (fun K7 hK7 => ?_)
  refine scode_region (by kernel_rfl) ?_
  simp [go_sem, h3, h0, h5]
  refine hK7 _ _ ?_
  try clear hK7 K7
  refine scode_if (b := false) (by simp [go_sem]) (fun h => by cases h) (fun _ => ?_)
  refine scode_skip ?_
  refine hK6 _ _ ?_
  try clear hK6 K6
  refine scode_seq_k (fun K8 hK8 => ?_)
  refine scode_region (by kernel_rfl) ?_
  simp [go_sem]
  refine hK8 _ _ ?_
  try clear hK8 K8
  refine scode_seq_k (fun K9 hK9 => ?_)
  refine scode_seq_k (fun K10 hK10 => ?_)
  refine scode_region (by kernel_rfl) ?_
  simp [go_sem]
  refine hK10 _ _ ?_
  try clear hK10 K10
  refine scode_block ?_
  refine scode_loop (Inv := fun n env H => ∃ (i : Nat) (done : List UInt8) (x : AV) (bo : Option Nat), n = w.length - i ∧ i ≤ w.length ∧ i % 2 = 0 ∧ env 0 = .ptr 0 0 ∧ env 3 = sA w ∧ env 4 = x ∧ env 5 = .int i ∧ grown H 1 x = some (done.length, bV done, bo) ∧ bo ≠ some 0 ∧ H.get 0 = some (rC s1) ∧ done.length ≤ i ∧ pairsV w = (pairsV (w.drop i)).map (done ++ ·)) ?_ (n := w.length) (⟨0, [], .nil, none, rfl, by omega, by omega, by simp [go_sem], by simp [go_sem], by simp [go_sem], by simp [go_sem], rfl, by simp, g2, by simp, by simp⟩)
  rintro n env H ⟨i, done, x, bo, rfl, hi, hi2, e0, e3, e4, e5, hg, hbo, g0, hd, hp⟩
  refine scode_seq_k (fun K11 hK11 => ?_)
  refine scode_seq_k (fun K12 hK12 => ?_)
  refine scode_region (by kernel_rfl) ?_
  simp [go_sem, e3, e5]
  refine hK12 _ _ ?_
  try clear hK12 K12
  refine scode_if (b := decide (i < w.length)) (by simp [go_sem]) (fun hb => ?_) (fun hb => ?_)
  · skip
    simp only [decide_eq_true_eq] at hb
    obtain ⟨a, b, r, k1, k2, k3, k4⟩ := two_drop hb he hi2
    have hat := str_at w .i64 i i a rfl k3
    have hw1 := i64_succ i (by omega)
    have hat1 := str_at w .i64 ((i + 1 : Nat) : Int) (i + 1) b rfl k4
    obtain ⟨j, hj⟩ : ∃ j, i + 1 = j := ⟨_, rfl⟩
    rw [hj] at hw1 hat1
    have ca := indexByte_s a H
    have cb := indexByte_s b H
    refine scode_skip ?_
    refine hK11 _ _ ?_
    try clear hK11 K11
    refine scode_seq_k (fun K13 hK13 => ?_)
    refine scode_block ?_
    refine scode_seq_k (fun K14 hK14 => ?_)
    refine scode_drawS mixed (by kernel_rfl) ?_
    refine ws_take 4 (fun K15 hK15 => ?_)
    simp [go_sem, e3, e5, hat, hw1, hat1]
    refine ⟨_, _, ca, rfl, ?_⟩
    refine hK15 _ _ ?_
    clear hK15 K15
    refine ws_take 5 (fun K16 hK16 => ?_)
    simp [go_sem, e3, e5, hat, hw1, hat1]
    refine ⟨_, _, cb, rfl, ?_⟩
    refine hK16 _ _ ?_
    clear hK16 K16
    simp [go_sem, e3, e5, hat, hw1, hat1]
    refine hK14 _ _ ?_
    try clear hK14 K14
    refine scode_seq_k (fun K17 hK17 => ?_)
    refine scode_seq_k (fun K18 hK18 => ?_)
    rcases hex_cases a b with ea | ⟨x0, ea, eb⟩ | ⟨x0, y0, ea, eb⟩
    · skip
      have i1 : hexI a = -1 := by unfold hexI; rw [ea]
      have hbad : pairsV w = none := by rw [hp, k1, pairs_bad (.inl ea)]; rfl
      rw [hgood] at hbad; cases hbad
    · skip
      have i1 : hexI a = x0 := by unfold hexI; rw [ea]
      have i2 : hexI b = -1 := by unfold hexI; rw [eb]
      have n1 : ¬ (x0 : Int) < 0 := by omega
      have hbad : pairsV w = none := by rw [hp, k1, pairs_bad (.inr eb)]; rfl
      rw [hgood] at hbad; cases hbad
    · skip
      have hx := hexV_lt ea
      have hy := hexV_lt eb
      have i1 : hexI a = x0 := by unfold hexI; rw [ea]
      have i2 : hexI b = y0 := by unfold hexI; rw [eb]
      have n1 : ¬ (x0 : Int) < 0 := by omega
      have n2 : ¬ (y0 : Int) < 0 := by omega
      refine scode_region (by kernel_rfl) ?_
      simp [go_sem, i1, i2, n1, n2]
      refine hK18 _ _ ?_
      try clear hK18 K18
      refine scode_if (b := false) (by simp [go_sem]) (fun h => by cases h) (fun _ => ?_)
      refine scode_skip ?_
      refine hK17 _ _ ?_
      try clear hK17 K17
      obtain ⟨c, hc⟩ : ∃ c, UInt8.ofNat (x0 * 16 + y0) = c := ⟨_, rfl⟩
      have hj16 : IntKind.u8.wrap (Go.bits .or .i64 (IntKind.i64.wrap ((x0 : Int) * 16)) (y0 : Int)) = (c.toNat : Int) := by rw [join16' hx hy, ← hc]; simp; omega
      obtain ⟨ha, hg2⟩ := appB c.toNat hg (by omega)
      refine scode_region (by kernel_rfl) ?_
      simp [go_sem, e4, i1, i2, hj16, ha]
      refine hK13 _ _ ?_
      try clear hK13 K13
      refine scode_hide (fun K19 hK19 => ?_)
      refine scode_region (by kernel_rfl) ?_
      simp [go_sem, e5]
      refine hK19 _ _ ?_
      have hw : IntKind.i64.wrap ((i : Int) + 2) = ((i + 2 : Nat) : Int) := by rw [i64in _ (by omega) (by omega)]; rfl
      have hnx := Heap.lt_of_get g0
      have g0b : ((H.alloc [.sc (.int .u8 c.toNat)]).regrow bo (bV done ++ [.sc (.int .u8 c.toNat)])).get 0 = some (rC s1) := get_regrow_other (by rw [Heap.get_alloc, if_neg (by omega)]; exact g0) hbo
      refine ⟨w.length - (i + 2), by omega, i + 2, done ++ [c], .ms (H.next + 1) 0 (done.length + 1) 1, some (H.next + 1), rfl, by omega, by omega, by simp [go_sem, e0], by simp [go_sem, e3], by simp [go_sem], by simp [go_sem, hw], by rw [List.length_append, bV_app]; exact hg2, (by intro e; cases e), g0b, by simp; omega, ?_⟩
      rw [hp, k1, k2, pairsV, ea, eb]
      cases pairsV r with
      | none => rfl
      | some t => simp [hc]
  · skip
    simp only [decide_eq_false_iff_not] at hb
    obtain rfl : i = w.length := by omega
    have hfin : pairsV w = some done := by rw [hp, List.drop_eq_nil_of_le (Nat.le_refl _)]; simp [pairsV]
    refine scode_exit ?_
    refine hK9 _ _ ?_
    try clear hK9 K9
    refine scode_seq_k (fun K20 hK20 => ?_)
    refine scode_hide (fun K21 hK21 => ?_)
    refine scode_region (by kernel_rfl) ?_
    simp [go_sem, e4]
    refine hK21 _ _ ?_
    refine hK20 _ _ ?_
    try clear hK20 K20
    refine scode_ret ?_
    simp only [go_sem]
    refine hR _ _ ?_
    rw [hgood] at hfin; cases hfin
    exact ret_one (v := x) (by simp [go_sem]) (froz_one hg hbo) (by simp [go_sem, g0]) (by simp [bA_lt]) (rC_lt _ 0)

theorem bytes_bad (s : RS) (w : Word) (s1 : RS) (hw : wordR s = (w, s1)) (hl : w.length ≤ 1000000) (h1 : (w == [45]) = false) (h0 : w ≠ []) (he : w.length % 2 = 0) (hbad : pairsV w = none) : SCalls Tryz.prog 43 [.ptr 0 0] (Heap.one (rC s)) (bA []) (Heap.one (rC s1.fail)) := by
  have cw := word_s (H := Heap.one (rC s)) (b := 0) (s := s) (get_one _)
  rw [hw] at cw
  obtain ⟨H2, hH2, g2, n2⟩ := one_set (rC s) (rC s1)
  simp only [hH2] at cw
  have h3 : (w == []) = false := by simp; exact h0
  have h5 : (w.length : Int).tmod 2 = 0 := by
    have : (w.length : Int).tmod 2 = ((w.length % 2 : Nat) : Int) := rfl
    rw [this, he]; rfl
  refine scalls_of_k (sz := 54) (Tryz.call43) Tryz.func43 rfl (Nat.le_refl _) (by kernel_rfl) (fun R hR => ?_)
  refine scode_seq_k (fun K1 hK1 => ?_)
  refine scode_region (by kernel_rfl) ?_
  simp [go_sem]
  refine hK1 _ _ ?_
  try clear hK1 K1
  refine scode_seq_k (fun K2 hK2 => ?_)
  refine scode_region (by kernel_rfl) ?_
  refine w_take 2 (fun K3 hK3 => ?_)
  simp [go_sem]
  refine ⟨_, _, cw, ?_⟩
  refine hK3 _ _ ?_
  clear hK3 K3
  simp [go_sem]
  refine hK2 _ _ ?_
  try clear hK2 K2
  refine scode_seq_k (fun K4 hK4 => ?_)
  refine scode_seq_k (fun K5 hK5 => ?_)
  refine scode_region (by kernel_rfl) ?_
  simp [go_sem, h1]
  refine hK5 _ _ ?_
  try clear hK5 K5
  refine scode_if (b := false) (by simp [go_sem]) (fun h => by cases h) (fun _ => ?_)
  refine scode_skip ?_
  refine hK4 _ _ ?_
  try clear hK4 K4
  refine scode_seq_k (fun K6 hK6 => ?_)
  refine scode_seq_k (fun K7 hK7 => ?_)
  refine scode_region (by kernel_rfl) ?_
  simp [go_sem, h3, h0, h5]
  refine hK7 _ _ ?_
  try clear hK7 K7
  refine scode_if (b := false) (by simp [go_sem]) (fun h => by cases h) (fun _ => ?_)
  refine scode_skip ?_
  refine hK6 _ _ ?_
  try clear hK6 K6
  refine scode_seq_k (fun K8 hK8 => ?_)
  refine scode_region (by kernel_rfl) ?_
  simp [go_sem]
  refine hK8 _ _ ?_
  try clear hK8 K8
  refine scode_seq_k (fun K9 hK9 => ?_)
  refine scode_seq_k (fun K10 hK10 => ?_)
  refine scode_region (by kernel_rfl) ?_
  simp [go_sem]
  refine hK10 _ _ ?_
  try clear hK10 K10
  refine scode_block ?_
  refine scode_loop (Inv := fun n env H => ∃ (i : Nat) (done : List UInt8) (x : AV) (bo : Option Nat), n = w.length - i ∧ i ≤ w.length ∧ i % 2 = 0 ∧ env 0 = .ptr 0 0 ∧ env 3 = sA w ∧ env 4 = x ∧ env 5 = .int i ∧ grown H 1 x = some (done.length, bV done, bo) ∧ bo ≠ some 0 ∧ H.get 0 = some (rC s1) ∧ done.length ≤ i ∧ pairsV w = (pairsV (w.drop i)).map (done ++ ·)) ?_ (n := w.length) (⟨0, [], .nil, none, rfl, by omega, by omega, by simp [go_sem], by simp [go_sem], by simp [go_sem], by simp [go_sem], rfl, by simp, g2, by simp, by simp⟩)
  rintro n env H ⟨i, done, x, bo, rfl, hi, hi2, e0, e3, e4, e5, hg, hbo, g0, hd, hp⟩
  refine scode_seq_k (fun K11 hK11 => ?_)
  refine scode_seq_k (fun K12 hK12 => ?_)
  refine scode_region (by kernel_rfl) ?_
  simp [go_sem, e3, e5]
  refine hK12 _ _ ?_
  try clear hK12 K12
  refine scode_if (b := decide (i < w.length)) (by simp [go_sem]) (fun hb => ?_) (fun hb => ?_)
  · skip
    simp only [decide_eq_true_eq] at hb
    obtain ⟨a, b, r, k1, k2, k3, k4⟩ := two_drop hb he hi2
    have hat := str_at w .i64 i i a rfl k3
    have hw1 := i64_succ i (by omega)
    have hat1 := str_at w .i64 ((i + 1 : Nat) : Int) (i + 1) b rfl k4
    obtain ⟨j, hj⟩ : ∃ j, i + 1 = j := ⟨_, rfl⟩
    rw [hj] at hw1 hat1
    have ca := indexByte_s a H
    have cb := indexByte_s b H
    refine scode_skip ?_
    refine hK11 _ _ ?_
    try clear hK11 K11
    refine scode_seq_k (fun K13 hK13 => ?_)
    refine scode_block ?_
    refine scode_seq_k (fun K14 hK14 => ?_)
    refine scode_drawS mixed (by kernel_rfl) ?_
    refine ws_take 4 (fun K15 hK15 => ?_)
    simp [go_sem, e3, e5, hat, hw1, hat1]
    refine ⟨_, _, ca, rfl, ?_⟩
    refine hK15 _ _ ?_
    clear hK15 K15
    refine ws_take 5 (fun K16 hK16 => ?_)
    simp [go_sem, e3, e5, hat, hw1, hat1]
    refine ⟨_, _, cb, rfl, ?_⟩
    refine hK16 _ _ ?_
    clear hK16 K16
    simp [go_sem, e3, e5, hat, hw1, hat1]
    refine hK14 _ _ ?_
    try clear hK14 K14
    refine scode_seq_k (fun K17 hK17 => ?_)
    refine scode_seq_k (fun K18 hK18 => ?_)
    rcases hex_cases a b with ea | ⟨x0, ea, eb⟩ | ⟨x0, y0, ea, eb⟩
    · skip
      have i1 : hexI a = -1 := by unfold hexI; rw [ea]
      refine scode_region (by kernel_rfl) ?_
      simp [go_sem, i1]
      refine hK18 _ _ ?_
      try clear hK18 K18
      refine scode_if (b := true) (by simp [go_sem]) (fun _ => ?_) (fun h => by cases h)
      refine scode_seq_k (fun K19 hK19 => ?_)
      refine scode_region (by kernel_rfl) ?_
      simp [go_sem, e0]
      refine ⟨_, _, fail_s g0, ?_⟩
      refine hK19 _ _ ?_
      try clear hK19 K19
      refine scode_seq_k (fun K21 hK21 => ?_)
      refine scode_hide (fun K22 hK22 => ?_)
      refine scode_region (by kernel_rfl) ?_
      simp [go_sem]
      refine hK22 _ _ ?_
      refine hK21 _ _ ?_
      try clear hK21 K21
      refine scode_ret ?_
      simp only [go_sem]
      refine hR _ _ ?_
      exact ret_one (v := .nil) (by simp [go_sem]) (.nil 1) (by simp [go_sem, g0]) (by simp [bA_lt]) (rC_lt _ 0)
    · skip
      have i1 : hexI a = x0 := by unfold hexI; rw [ea]
      have i2 : hexI b = -1 := by unfold hexI; rw [eb]
      have n1 : ¬ (x0 : Int) < 0 := by omega
      refine scode_region (by kernel_rfl) ?_
      simp [go_sem, i1, i2, n1]
      refine hK18 _ _ ?_
      try clear hK18 K18
      refine scode_if (b := true) (by simp [go_sem]) (fun _ => ?_) (fun h => by cases h)
      refine scode_seq_k (fun K23 hK23 => ?_)
      refine scode_region (by kernel_rfl) ?_
      simp [go_sem, e0]
      refine ⟨_, _, fail_s g0, ?_⟩
      refine hK23 _ _ ?_
      try clear hK23 K23
      refine scode_seq_k (fun K25 hK25 => ?_)
      refine scode_hide (fun K26 hK26 => ?_)
      refine scode_region (by kernel_rfl) ?_
      simp [go_sem]
      refine hK26 _ _ ?_
      refine hK25 _ _ ?_
      try clear hK25 K25
      refine scode_ret ?_
      simp only [go_sem]
      refine hR _ _ ?_
      exact ret_one (v := .nil) (by simp [go_sem]) (.nil 1) (by simp [go_sem, g0]) (by simp [bA_lt]) (rC_lt _ 0)
    · skip
      have hx := hexV_lt ea
      have hy := hexV_lt eb
      have i1 : hexI a = x0 := by unfold hexI; rw [ea]
      have i2 : hexI b = y0 := by unfold hexI; rw [eb]
      have n1 : ¬ (x0 : Int) < 0 := by omega
      have n2 : ¬ (y0 : Int) < 0 := by omega
      refine scode_region (by kernel_rfl) ?_
      simp [go_sem, i1, i2, n1, n2]
      refine hK18 _ _ ?_
      try clear hK18 K18
      refine scode_if (b := false) (by simp [go_sem]) (fun h => by cases h) (fun _ => ?_)
      refine scode_skip ?_
      refine hK17 _ _ ?_
      try clear hK17 K17
      obtain ⟨c, hc⟩ : ∃ c, UInt8.ofNat (x0 * 16 + y0) = c := ⟨_, rfl⟩
      have hj16 : IntKind.u8.wrap (Go.bits .or .i64 (IntKind.i64.wrap ((x0 : Int) * 16)) (y0 : Int)) = (c.toNat : Int) := by rw [join16' hx hy, ← hc]; simp; omega
      obtain ⟨ha, hg2⟩ := appB c.toNat hg (by omega)
      refine scode_region (by kernel_rfl) ?_
      simp [go_sem, e4, i1, i2, hj16, ha]
      refine hK13 _ _ ?_
      try clear hK13 K13
      refine scode_hide (fun K27 hK27 => ?_)
      refine scode_region (by kernel_rfl) ?_
      simp [go_sem, e5]
      refine hK27 _ _ ?_
      have hw : IntKind.i64.wrap ((i : Int) + 2) = ((i + 2 : Nat) : Int) := by rw [i64in _ (by omega) (by omega)]; rfl
      have hnx := Heap.lt_of_get g0
      have g0b : ((H.alloc [.sc (.int .u8 c.toNat)]).regrow bo (bV done ++ [.sc (.int .u8 c.toNat)])).get 0 = some (rC s1) := get_regrow_other (by rw [Heap.get_alloc, if_neg (by omega)]; exact g0) hbo
      refine ⟨w.length - (i + 2), by omega, i + 2, done ++ [c], .ms (H.next + 1) 0 (done.length + 1) 1, some (H.next + 1), rfl, by omega, by omega, by simp [go_sem, e0], by simp [go_sem, e3], by simp [go_sem], by simp [go_sem, hw], by rw [List.length_append, bV_app]; exact hg2, (by intro e; cases e), g0b, by simp; omega, ?_⟩
      rw [hp, k1, k2, pairsV, ea, eb]
      cases pairsV r with
      | none => rfl
      | some t => simp [hc]
  · skip
    simp only [decide_eq_false_iff_not] at hb
    obtain rfl : i = w.length := by omega
    have hfin : pairsV w = some done := by rw [hp, List.drop_eq_nil_of_le (Nat.le_refl _)]; simp [pairsV]
    rw [hbad] at hfin; cases hfin

theorem bytes1 (s : RS) (hl : ∀ w ∈ s.ws, w.length ≤ 1000000) : SCalls Tryz.prog 43 [.ptr 0 0] (Heap.one (rC s)) (bA (bytesR s).1) (Heap.one (rC (bytesR s).2)) := by
  obtain ⟨w, s1, hw⟩ : ∃ w s1, wordR s = (w, s1) := ⟨_, _, rfl⟩
  have hwl := (wordR_len s _ hl).1
  rw [hw] at hwl
  unfold bytesR
  rw [hw]
  simp only
  unfold rawV'
  by_cases h1 : w = [45]
  · subst h1; exact bytes_dash s s1 hw
  · have g1 : (w == [45]) = false := by simpa using h1
    rw [if_neg h1]
    by_cases h0 : w = []
    · subst h0; exact bytes_nil s s1 hw
    · rw [if_neg h0]
      by_cases he : w.length % 2 = 0
      · cases hp : pairsV w with
        | none => exact bytes_bad s w s1 hw hwl g1 h0 he hp
        | some d => exact bytes_good s w s1 hw hwl g1 h0 he d hp
      · rw [pairs_odd _ w (Nat.le_refl _) (by omega)]
        exact bytes_odd s w s1 hw g1 h0 (by omega)
theorem bytes_s {H : Heap} {b : Nat} {s : RS} (hl : ∀ w ∈ s.ws, w.length ≤ 1000000) (hb : H.get b = some (rC s)) : SCalls Tryz.prog 43 [.ptr b 0] H (bA (bytesR s).1) (H.set b (rC (bytesR s).2)) := rd1 (bytes1 s hl) (by rw [bA_lt]; trivial) hb
theorem numR2_len (s : RS) (n : Nat) (h : ∀ w ∈ s.ws, w.length ≤ n) : ∀ w ∈ (numR2 s).2.ws, w.length ≤ n := by
  have := (wordR_len s n h).2
  unfold numR2
  split <;> exact this
theorem flagR_len (s : RS) (n : Nat) (h : ∀ w ∈ s.ws, w.length ≤ n) : ∀ w ∈ (flagR s).2.ws, w.length ≤ n := by
  have := numR2_len s n h
  unfold flagR
  simp only
  split <;> exact this
theorem bytesR_len (s : RS) (n : Nat) (h : ∀ w ∈ s.ws, w.length ≤ n) : ∀ w ∈ (bytesR s).2.ws, w.length ≤ n := by
  have := (wordR_len s n h).2
  unfold bytesR
  split <;> exact this

end Go.Proofs.YtfmpakmigmehkaaGreatDoor
end S15S
