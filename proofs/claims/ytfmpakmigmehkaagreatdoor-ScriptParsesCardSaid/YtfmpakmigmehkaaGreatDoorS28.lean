/- Contracts: Room, Events, small. -/
import Derived.Test.YtfmpakmigmehkaaGreatDoorFl43
import Derived.Test.YtfmpakmigmehkaaGreatDoorS26
set_option linter.unusedVariables false
set_option linter.unusedSimpArgs false
set_option maxRecDepth 20000
noncomputable section
namespace Go.Proofs.YtfmpakmigmehkaaGreatDoor
open Go Go.Fl Go.Proofs

def shortB (e : EvI) : Bool := !decide (400 < e.b.length)
def roomB (l : List EvI) (k : Int) : Bool := !decide (k < (l.length : Int)) && l.all shortB
def EvSt (l : List EvI) (i : Nat) (env : Env) (H : Heap) : Prop := ∃ x bo, env 3 = x ∧ grown H 5 x = some ((l.take i).length, eV (l.take i), bo)
theorem eV_cell {l : List EvI} {i : Nat} {e : EvI} (h : l[i]? = some e) : ∃ r, (eV l).drop (i * 5) = [.int e.do_, .int e.end_, .int e.n, .int e.proto, bA e.b] ++ r ∧ l.length * 5 - i * 5 = 5 + r.length := by
  obtain ⟨r, hr⟩ := eV_drop h
  refine ⟨r, hr, ?_⟩
  rw [← eV_len l, ← List.length_drop, hr]
  simp
  omega
theorem eV_take (l : List EvI) (i : Nat) : (eV l).take (i * 5) = eV (l.take i) := by
  induction l generalizing i with
  | nil => simp [eV]
  | cons a l ih =>
    cases i with
    | zero => simp [eV]
    | succ i =>
      show (evI a ++ eV l).take ((i + 1) * 5) = evI a ++ eV (l.take i)
      rw [← ih, List.take_append]
      have : (evI a).length = 5 := rfl
      rw [this, List.take_of_length_le (by rw [this]; omega)]
      congr 2
      omega
theorem eV_dropL (l : List EvI) (i : Nat) : (eV l).drop (i * 5) = eV (l.drop i) := by
  induction l generalizing i with
  | nil => simp [eV]
  | cons a l ih =>
    cases i with
    | zero => simp
    | succ i =>
      show (evI a ++ eV l).drop ((i + 1) * 5) = eV (l.drop i)
      rw [← ih, List.drop_append]
      have : (evI a).length = 5 := rfl
      rw [this, List.drop_eq_nil_of_le (by rw [this]; omega)]
      simp only [List.nil_append]
      congr 1
      omega
theorem appE2 {H : Heap} {x : AV} {n : Nat} {cs : List AV} {bo : Option Nat} (e : EvI) (hg : grown H 5 x = some (n, cs, bo)) (hn : n ≤ 1000000) : aappend Tryz.prog (H.alloc (evI e)) 26 26 x (.ms H.next 0 1 5) = some (.ms (H.next + 1) 0 (n + 1) 5, (H.alloc (evI e)).regrow bo (cs ++ evI e)) ∧
    grown ((H.alloc (evI e)).regrow bo (cs ++ evI e)) 5 (.ms (H.next + 1) 0 (n + 1) 5) = some (n + 1, cs ++ evI e, some (H.next + 1)) :=
  app_one (P := Tryz.prog) (new := evI e) tU26 tS53 tB53 tZ53 rfl rfl rfl hg (by omega) (by omega)

theorem room_s (l : List EvI) (k : Int) (hkk : k ≤ 1000000) : SCalls Tryz.prog 26 [eA l, .int k] Heap.empty (.bool (roomB l k)) Heap.empty := by
  have hLk : (eV l).length = l.length * 5 := eV_len l
  refine scalls_of_k (sz := 23) (Tryz.call26) Tryz.func26 rfl (Nat.zero_le _) (by kernel_rfl) (fun R hR => ?_)
  refine scode_seq_k (fun K1 hK1 => ?_)
  refine scode_region (by kernel_rfl) ?_
  simp [go_sem]
  refine hK1 _ _ ?_
  try clear hK1 K1
  refine scode_seq_k (fun K2 hK2 => ?_)
  refine scode_seq_k (fun K3 hK3 => ?_)
  refine scode_region (by kernel_rfl) ?_
  simp [go_sem, eA]
  refine hK3 _ _ ?_
  try clear hK3 K3
  refine scode_if (b := decide (k < (l.length : Int))) (by simp [go_sem]) (fun hb => ?_) (fun hb => ?_)
  · skip
    have hres : roomB l k = false := by unfold roomB; rw [hb]; rfl
    refine scode_seq_k (fun K4 hK4 => ?_)
    refine scode_region (by kernel_rfl) ?_
    simp [go_sem]
    refine hK4 _ _ ?_
    try clear hK4 K4
    refine scode_ret ?_
    simp only [go_sem]
    refine hR _ _ ?_
    rw [hres]
    exact ret_plain (by simp [go_sem]) (empty_le _) (Nat.zero_le _) (by simp [go_sem])
  · skip
    have hk := hb
    simp only [decide_eq_false_iff_not] at hb
    refine scode_skip ?_
    refine hK2 _ _ ?_
    try clear hK2 K2
    refine scode_seq_k (fun K5 hK5 => ?_)
    refine scode_seq_k (fun K6 hK6 => ?_)
    refine scode_region (by kernel_rfl) ?_
    simp [go_sem]
    refine hK6 _ _ ?_
    try clear hK6 K6
    refine scode_block ?_
    refine scode_loop (Inv := fun n env H => ∃ i : Nat, n = l.length - i ∧ i ≤ l.length ∧ env 0 = .vs l.length 5 (eV l) ∧ env 5 = .int i ∧ ∀ e ∈ l.take i, shortB e = true) ?_ (n := l.length) (⟨0, rfl, by omega, by simp [go_sem, eA], by simp [go_sem], by simp⟩)
    rintro n env H ⟨i, rfl, hi, e0, e5, hok⟩
    refine scode_seq_k (fun K7 hK7 => ?_)
    refine scode_seq_k (fun K8 hK8 => ?_)
    refine scode_region (by kernel_rfl) ?_
    simp [go_sem, e0, e5]
    refine hK8 _ _ ?_
    try clear hK8 K8
    refine scode_if (b := decide (i < l.length)) (by simp [go_sem]) (fun hb => ?_) (fun hb => ?_)
    · skip
      simp only [decide_eq_true_eq] at hb
      obtain ⟨e, he⟩ := get_of_lt l i hb
      obtain ⟨r, hdr, hrl⟩ := eV_cell he
      refine scode_skip ?_
      refine hK7 _ _ ?_
      try clear hK7 K7
      refine scode_seq_k (fun K9 hK9 => ?_)
      refine scode_block ?_
      refine scode_seq_k (fun K10 hK10 => ?_)
      refine scode_region (by kernel_rfl) ?_
      simp [go_sem, e0, e5, hLk, hdr, hb, hrl, bA]
      refine hK10 _ _ ?_
      try clear hK10 K10
      refine scode_if (b := decide (400 < (e.b.length : Int))) (by simp [go_sem]) (fun hb => ?_) (fun hb => ?_)
      · skip
        simp only [decide_eq_true_eq] at hb
        have hres : roomB l k = false := by
          unfold roomB
          rw [Bool.and_eq_false_iff]
          refine .inr ?_
          rw [Bool.eq_false_iff]
          intro h
          have := List.all_eq_true.1 h e (List.mem_of_getElem? he)
          simp [shortB] at this
          omega
        refine scode_seq_k (fun K11 hK11 => ?_)
        refine scode_region (by kernel_rfl) ?_
        simp [go_sem]
        refine hK11 _ _ ?_
        try clear hK11 K11
        refine scode_ret ?_
        simp only [go_sem]
        refine hR _ _ ?_
        rw [hres]
        exact ret_plain (by simp [go_sem]) (empty_le _) (Nat.zero_le _) (by simp [go_sem])
      · skip
        simp only [decide_eq_false_iff_not] at hb
        have hok2 : ∀ x ∈ l.take (i + 1), shortB x = true := by
          intro x hx
          rw [List.take_add_one, he] at hx
          rcases List.mem_append.1 hx with hx | hx
          · exact hok x hx
          · simp at hx; subst hx; simp [shortB]; omega
        refine scode_skip ?_
        refine hK9 _ _ ?_
        try clear hK9 K9
        refine scode_region (by kernel_rfl) ?_
        simp [go_sem, e5]
        have hw := i64_succ i (by omega)
        exact ⟨l.length - (i + 1), by omega, i + 1, rfl, by omega, by simp [go_sem, e0], by simp [go_sem, hw], hok2⟩
    · skip
      simp only [decide_eq_false_iff_not] at hb
      obtain rfl : i = l.length := by omega
      rw [List.take_length] at hok
      have hres : roomB l k = true := by unfold roomB; rw [hk, Bool.not_false, Bool.true_and, List.all_eq_true]; exact hok
      refine scode_exit ?_
      refine hK5 _ _ ?_
      try clear hK5 K5
      refine scode_seq_k (fun K12 hK12 => ?_)
      refine scode_region (by kernel_rfl) ?_
      simp [go_sem]
      refine hK12 _ _ ?_
      try clear hK12 K12
      refine scode_ret ?_
      simp only [go_sem]
      refine hR _ _ ?_
      rw [hres]
      exact ret_plain (by simp [go_sem]) (empty_le _) (Nat.zero_le _) (by simp [go_sem])

theorem ev33_s (e : EvI) : SCalls Tryz.prog 33 [.agg [.int e.do_, .int e.end_, .int e.n, .int e.proto, bA e.b]] Heap.empty (.agg (evI e)) Heap.empty := by
  refine scalls_of_k (sz := 14) (Tryz.call33) Tryz.func33 rfl (Nat.zero_le _) (by kernel_rfl) (fun R hR => ?_)
  refine scode_seq_k (fun K1 hK1 => ?_)
  refine scode_region (by kernel_rfl) ?_
  simp [go_sem]
  refine hK1 _ _ ?_
  try clear hK1 K1
  refine scode_seq_k (fun K2 hK2 => ?_)
  refine scode_region (by kernel_rfl) ?_
  simp [go_sem, zrep5, bA]
  refine hK2 _ _ ?_
  try clear hK2 K2
  refine scode_ret ?_
  simp only [go_sem]
  refine hR _ _ ?_
  exact ret_plain (by simp [go_sem, evI, bA]) (empty_le _) (Nat.zero_le _) (by simp [go_sem, evI, bA_lt])

theorem events_s (l : List EvI) (hn : l.length ≤ 1000000) : SCalls Tryz.prog 14 [eA l] Heap.empty (eA l) Heap.empty := by
  have hLk : (eV l).length = l.length * 5 := eV_len l
  refine scalls_of_k (sz := 20) (Tryz.call14) Tryz.func14 rfl (Nat.zero_le _) (by kernel_rfl) (fun R hR => ?_)
  refine scode_seq_k (fun K1 hK1 => ?_)
  refine scode_region (by kernel_rfl) ?_
  simp [go_sem]
  refine hK1 _ _ ?_
  try clear hK1 K1
  refine scode_seq_k (fun K2 hK2 => ?_)
  refine scode_region (by kernel_rfl) ?_
  simp [go_sem]
  refine hK2 _ _ ?_
  try clear hK2 K2
  refine scode_seq_k (fun K3 hK3 => ?_)
  refine scode_seq_k (fun K4 hK4 => ?_)
  refine scode_region (by kernel_rfl) ?_
  simp [go_sem]
  refine hK4 _ _ ?_
  try clear hK4 K4
  refine scode_block ?_
  refine scode_loop (Inv := fun n env H => ∃ i : Nat, n = l.length - i ∧ i ≤ l.length ∧ env 0 = .vs l.length 5 (eV l) ∧ env 4 = .int i ∧ EvSt l i env H) ?_ (n := l.length) (⟨0, rfl, by omega, by simp [go_sem, eA], by simp [go_sem], .nil, none, by simp [go_sem], rfl⟩)
  rintro n env H ⟨i, rfl, hi, e0, e4, x, bo, e3, hg⟩
  refine scode_seq_k (fun K5 hK5 => ?_)
  refine scode_seq_k (fun K6 hK6 => ?_)
  refine scode_region (by kernel_rfl) ?_
  simp [go_sem, e0, e4]
  refine hK6 _ _ ?_
  try clear hK6 K6
  refine scode_if (b := decide (i < l.length)) (by simp [go_sem]) (fun hb => ?_) (fun hb => ?_)
  · skip
    simp only [decide_eq_true_eq] at hb
    obtain ⟨e, he⟩ := get_of_lt l i hb
    obtain ⟨r, hdr, hrl⟩ := eV_cell he
    have hcl : (l.take (i + 1)).length = (l.take i).length + 1 ∧ eV (l.take (i + 1)) = eV (l.take i) ++ evI e := by
      rw [List.take_add_one, he]
      exact ⟨by simp, by rw [eV_app]; simp [eV]⟩
    obtain ⟨ha, hg2⟩ := appE2 e hg (by simp; omega)
    have ha2 := ha
    unfold evI at ha
    have c33 := fun H => scalls_frame (ev33_s e) (by simp [bA_lt, go_sem]) (by simp [go_sem, evI, bA_lt]) H
    refine scode_skip ?_
    refine hK5 _ _ ?_
    try clear hK5 K5
    refine scode_seq_k (fun K7 hK7 => ?_)
    refine scode_block ?_
    refine scode_region (by kernel_rfl) ?_
    refine w_take 6 (fun K8 hK8 => ?_)
    simp [go_sem, e0, e3, e4, hLk, hdr, hb, hrl, zrep5, ha, evI]
    refine ⟨_, _, c33 _, ?_⟩
    refine hK8 _ _ ?_
    clear hK8 K8
    simp [go_sem, e0, e3, e4, hLk, hdr, hb, hrl, zrep5, ha, evI]
    refine hK7 _ _ ?_
    try clear hK7 K7
    refine scode_region (by kernel_rfl) ?_
    simp [go_sem, e4]
    have hw := i64_succ i (by omega)
    exact ⟨l.length - (i + 1), by omega, i + 1, rfl, by omega, by simp [go_sem, e0], by simp [go_sem, hw], .ms (H.next + 1) 0 ((l.take i).length + 1) 5, some (H.next + 1), by simp [go_sem, Nat.min_eq_left hi], by rw [hcl.1, hcl.2]; exact hg2⟩
  · skip
    simp only [decide_eq_false_iff_not] at hb
    obtain rfl : i = l.length := by omega
    rw [List.take_length] at hg
    refine scode_exit ?_
    refine hK3 _ _ ?_
    try clear hK3 K3
    refine scode_seq_k (fun K9 hK9 => ?_)
    refine scode_region (by kernel_rfl) ?_
    simp [go_sem, e3]
    refine hK9 _ _ ?_
    try clear hK9 K9
    refine scode_ret ?_
    simp only [go_sem]
    refine hR _ _ ?_
    refine ret_pure (v := x) (by simp [go_sem]) ?_ (empty_le _) (Nat.zero_le _) (eA_lt _ _)
    unfold eA
    exact froz_vs hg

def smallB (c : CfgS) (l : List EvI) : Bool := decide (c.name.length ≤ 200) && (decide (c.secret.length ≤ 500) && roomB l 150)
theorem room_H (l : List EvI) (k : Int) (hn : k ≤ 1000000) (H : Heap) : SCalls Tryz.prog 26 [eA l, .int k] H (.bool (roomB l k)) H := scalls_frame (room_s l k hn) (by simp [go_sem, eA_lt]) (by simp [go_sem]) H
theorem ld1 (c : CfgS) : List.take 1 (cfgC c).tail = [sA c.name] := rfl

theorem small_s (c : CfgS) (l : List EvI) : SCalls Tryz.prog 12 [.agg (cfgC c), eA l] Heap.empty (.bool (smallB c l)) Heap.empty := by
  refine scalls_of_k (sz := 19) (Tryz.call12) Tryz.func12 rfl (Nat.zero_le _) (by kernel_rfl) (fun R hR => ?_)
  refine scode_seq_mid (fun env H => env 2 = .ptr 0 0 ∧ H.get 0 = some (cfgC c) ∧ env 1 = eA l) ?_ ?_
  · skip
    refine scode_region (by kernel_rfl) ?_
    simp [go_sem]
    first
      | done
      | rfl
  rintro env H ⟨e2, g0, e1⟩
  refine scode_seq_k (fun K2 hK2 => ?_)
  rcases Nat.lt_or_ge 200 c.name.length with h1 | h1
  · skip
    have m1 : ¬ ((c.name.length : Int) ≤ 200) := by omega
    have hres : smallB c l = false := by unfold smallB; rw [decide_eq_false (by omega)]; rfl
    refine scode_region (by kernel_rfl) ?_
    simp [go_sem, e2, g0, cl, ld1, ld2, m1]
    refine hK2 _ _ ?_
    try clear hK2 K2
    refine scode_ret ?_
    simp only [go_sem]
    refine hR _ _ ?_
    rw [hres]
    exact ret_plain (by simp [go_sem]) (empty_le _) (Nat.zero_le _) (by simp [go_sem])
  · skip
    rcases Nat.lt_or_ge 500 c.secret.length with h2 | h2
    · skip
      have m1 : (c.name.length : Int) ≤ 200 := by omega
      have m2 : ¬ ((c.secret.length : Int) ≤ 500) := by omega
      have hres : smallB c l = false := by unfold smallB; rw [decide_eq_true h1, decide_eq_false (by omega)]; rfl
      refine scode_region (by kernel_rfl) ?_
      simp [go_sem, e2, g0, cl, ld1, ld2, m1, m2]
      refine hK2 _ _ ?_
      try clear hK2 K2
      refine scode_ret ?_
      simp only [go_sem]
      refine hR _ _ ?_
      rw [hres]
      exact ret_plain (by simp [go_sem]) (empty_le _) (Nat.zero_le _) (by simp [go_sem])
    · skip
      have m1 : (c.name.length : Int) ≤ 200 := by omega
      have m2 : (c.secret.length : Int) ≤ 500 := by omega
      have hres : smallB c l = roomB l 150 := by unfold smallB; rw [decide_eq_true h1, decide_eq_true h2]; rfl
      refine scode_region (by kernel_rfl) ?_
      refine w_take 13 (fun K3 hK3 => ?_)
      simp [go_sem, e1, e2, g0, cl, ld1, ld2, m1, m2]
      refine ⟨_, _, room_H l 150 (by decide) _, ?_⟩
      refine hK3 _ _ ?_
      clear hK3 K3
      simp [go_sem, e1, e2, g0, cl, ld1, ld2, m1, m2]
      refine hK2 _ _ ?_
      try clear hK2 K2
      refine scode_ret ?_
      simp only [go_sem]
      refine hR _ _ ?_
      rw [hres]
      exact ret_plain (by simp [go_sem]) (empty_le _) (Nat.zero_le _) (by simp [go_sem])

end Go.Proofs.YtfmpakmigmehkaaGreatDoor
