/- Contract: Print. -/
import Derived.Test.YtfmpakmigmehkaaGreatDoorFl43
import Derived.Test.YtfmpakmigmehkaaGreatDoorS20
import Derived.Test.YtfmpakmigmehkaaGreatDoorS4
set_option linter.unusedVariables false
set_option linter.unusedSimpArgs false
set_option maxRecDepth 20000
noncomputable section
namespace Go.Proofs.YtfmpakmigmehkaaGreatDoor
open Go Go.Fl Go.Proofs

/-- An event as the program's value bears it. -/
structure EvI where
  do_ : Int
  end_ : Int
  n : Int
  proto : Int
  b : Word
def EvI.toS (e : EvI) : EvS := ⟨e.do_.toNat, e.end_, e.n, e.proto, e.b⟩
def evI (e : EvI) : List AV := [.int e.do_, .int e.end_, .int e.n, .int e.proto, bA e.b]
def eV (l : List EvI) : List AV := l.flatMap evI
def eA (l : List EvI) : AV := .vs l.length 5 (eV l)
def toI (e : EvS) : EvI := ⟨e.do_, e.end_, e.n, e.proto, e.b⟩
theorem toI_toS (e : EvS) : (toI e).toS = e := by cases e; simp [toI, EvI.toS]
theorem evI_toI (e : EvS) : evI (toI e) = evC e := rfl
def EvI.sat (e : EvI) : Prop := e.toS.ints ∧ e.b.length ≤ 1000000
theorem eV_len (l : List EvI) : (eV l).length = l.length * 5 := by
  induction l with
  | nil => rfl
  | cons e l ih => simp only [eV, List.flatMap_cons, List.length_append] at ih ⊢; rw [ih]; simp [evI]; omega
theorem eV_drop {l : List EvI} {i : Nat} {e : EvI} (h : l[i]? = some e) : ∃ r, (eV l).drop (i * 5) = [.int e.do_, .int e.end_, .int e.n, .int e.proto, bA e.b] ++ r := by
  induction l generalizing i with
  | nil => simp at h
  | cons a l ih =>
    cases i with
    | zero => simp at h; subst h; exact ⟨eV l, by simp [eV, evI]⟩
    | succ i =>
      obtain ⟨r, hr⟩ := ih (by simpa using h)
      refine ⟨r, ?_⟩
      rw [← hr]
      show (evI a ++ eV l).drop ((i + 1) * 5) = _
      rw [List.drop_append, List.drop_eq_nil_of_le (by simp [evI]; omega)]
      simp [evI, Nat.add_mul]
theorem eV_lt (l : List EvI) (n : Nat) : ∀ x ∈ eV l, x.Lt n := by
  intro x hx
  simp only [eV, List.mem_flatMap] at hx
  obtain ⟨e, _, hx⟩ := hx
  have : ∀ x ∈ evI e, x.Lt n := by simp [evI, bA_lt, go_sem]
  exact this x hx
theorem row_I (e : EvI) (hd : 1 ≤ e.do_ ∧ e.do_ ≤ 11) (hi : e.sat) (H : Heap) : SCalls Tryz.prog 31 [.agg [.int e.do_, .int e.end_, .int e.n, .int e.proto, bA e.b]] H (sA (e.toS.line ++ [10])) H := by
  have h := row_s e.toS (by simp only [EvI.toS]; omega) hi.1 hi.2
  have e1 : ((e.toS.do_ : Nat) : Int) = e.do_ := by simp only [EvI.toS]; omega
  unfold evC at h
  rw [e1] at h
  exact scalls_frame h (by simp [bA_lt, go_sem]) (by simp [go_sem]) H
def goodD (e : EvI) : Bool := decide (1 ≤ e.do_.toNat) && decide (e.do_.toNat ≤ 11)
theorem any_good (l : List EvI) : ((l.map EvI.toS).any fun e => !(decide (1 ≤ e.do_) && decide (e.do_ ≤ 11))) = l.any fun e => !goodD e := by rw [List.any_map]; rfl
theorem nmI_ok {e : EvI} : (nmI e.do_ == ([] : Word)) = !goodD e := by
  unfold nmI goodD
  generalize e.do_ = d
  by_cases h : 1 ≤ d.toNat ∧ d.toNat ≤ 11
  · obtain ⟨h1, h2⟩ := h
    simp only [h1, h2, decide_true, Bool.and_self, Bool.not_true]
    rcases eleven d.toNat ⟨h1, h2⟩ with e | e | e | e | e | e | e | e | e | e | e <;> rw [e] <;> rfl
  · rw [(nat_none d.toNat (by omega)).1]
    have : (decide (1 ≤ d.toNat) && decide (d.toNat ≤ 11)) = false := by simp; omega
    rw [this]; rfl
theorem Bld.fresh_set {H : Heap} {b : Nat} {l : List UInt8} (h : Bld H b l) (cs cs' : List AV) : Bld ((H.alloc cs).set H.next cs') b l := by
  obtain ⟨p, x, bo, h1, h2, h3, h4⟩ := h
  refine ⟨p, x, bo, ?_, h2, ?_, h4⟩
  · rw [Heap.get_set, if_neg (by have := Heap.lt_of_get h1; omega), Heap.get_alloc, if_neg (by have := Heap.lt_of_get h1; omega)]
    exact h1
  · rcases grown_cases h3 with ⟨rfl, h5, h6, h7⟩ | ⟨b', off, rfl, rfl, c, h5, h6, h7⟩
    · rw [h5, h6, h7]; rfl
    · have hne : b' ≠ H.next := by have := Heap.lt_of_get h5; omega
      rw [h7]
      simp [grown, Heap.get_set, Heap.get_alloc, hne, h5, h6]
      omega
theorem head_H (c : CfgS) (hok : c.ok) (hname : c.name.length ≤ 1000000) (hsecret : c.secret.length ≤ 1000000) (H : Heap) : SCalls Tryz.prog 29 [.agg (cfgC c)] H (sA (c.line ++ [10])) H := scalls_frame (head_s c hok hname hsecret) (by simp [cfgC, go_sem]) (by simp [go_sem]) H
theorem printT_take (a b : CfgS) (l : List EvS) (i : Nat) : (printT a b (l.take i)).length ≤ (printT a b l).length := by
  have := printT_app a b (l.take i) (l.drop i)
  rw [List.take_append_drop] at this
  rw [← this]
  simp
theorem printT_succ (a b : CfgS) (l : List EvI) (i : Nat) (e : EvI) (h : l[i]? = some e) : printT a b ((l.take i).map EvI.toS) ++ (e.toS.line ++ [10]) = printT a b ((l.take (i + 1)).map EvI.toS) := by
  have h1 : l.take (i + 1) = l.take i ++ [e] := by
    rw [List.take_add_one, h]; rfl
  rw [h1, List.map_append, ← printT_app]
  simp [textL]
theorem get_of_lt {α : Type} (l : List α) (i : Nat) (h : i < l.length) : ∃ e, l[i]? = some e := ⟨l[i], by simp [h]⟩
theorem printT_ne (a b : CfgS) (l : List EvS) : printT a b l ≠ [] := by simp [printT, textL]

theorem print_s (a b : CfgS) (l : List EvI) (oka : a.ok) (okb : b.ok) (hna : a.name.length ≤ 1000000) (hsa : a.secret.length ≤ 1000000) (hnb : b.name.length ≤ 1000000) (hsb : b.secret.length ≤ 1000000) (hl : ∀ e ∈ l, e.sat) (hn : l.length ≤ 1000000) : SCalls Tryz.prog 13 [.agg (cfgC a), .agg (cfgC b), eA l] Heap.empty (.tup [sA (printR a b (l.map EvI.toS)).1, .int (printR a b (l.map EvI.toS)).2]) Heap.empty := by
  have hLk : (eV l).length = l.length * 5 := eV_len l
  refine scalls_of_k (sz := 48) (Tryz.call13) Tryz.func13 rfl (Nat.zero_le _) (by kernel_rfl) (fun R hR => ?_)
  refine scode_seq_k (fun K1 hK1 => ?_)
  refine scode_region (by kernel_rfl) ?_
  simp [go_sem]
  refine hK1 _ _ ?_
  try clear hK1 K1
  refine scode_seq_k (fun K2 hK2 => ?_)
  refine scode_seq_k (fun K3 hK3 => ?_)
  refine scode_region (by kernel_rfl) ?_
  simp [go_sem, eA]
  refine hK3 _ _ ?_
  try clear hK3 K3
  refine scode_block ?_
  refine scode_loop (Inv := fun n env H => ∃ i : Nat, n = l.length - i ∧ i ≤ l.length ∧ env 2 = .vs l.length 5 (eV l) ∧ env 3 = .ptr 0 0 ∧ env 4 = .ptr 1 0 ∧ H.get 0 = some (cfgC a) ∧ H.get 1 = some (cfgC b) ∧ env 13 = .vs l.length 5 (eV l) ∧ env 14 = .int l.length ∧ env 15 = .int i ∧ (∀ e ∈ l.take i, goodD e = true)) ?_ (n := l.length) (⟨0, rfl, by omega, by simp [go_sem, eA], by simp [go_sem], by simp [go_sem], by simp [go_sem], by simp [go_sem], by simp [go_sem, eA], by simp [go_sem], by simp [go_sem], by simp⟩)
  rintro n env H ⟨i, rfl, hi, e2, e3, e4, g0, g1, e13, e14, e15, hok⟩
  have n0 := Heap.lt_of_get g0
  have n1 := Heap.lt_of_get g1
  refine scode_seq_k (fun K4 hK4 => ?_)
  refine scode_region (by kernel_rfl) ?_
  simp [go_sem, e15, e14]
  refine hK4 _ _ ?_
  try clear hK4 K4
  refine scode_seq_k (fun K5 hK5 => ?_)
  refine scode_if (b := decide (i < l.length)) (by simp [go_sem]) (fun hb => ?_) (fun hb => ?_)
  · skip
    simp only [decide_eq_true_eq] at hb
    obtain ⟨e, he⟩ := get_of_lt l i hb
    obtain ⟨r, hdr⟩ := eV_drop he
    have hrl : l.length * 5 - i * 5 = 5 + r.length := by rw [← hLk, ← List.length_drop, hdr]; simp; omega
    have hne0 : ¬ (0 = H.next) := by omega
    have hne1 : ¬ (1 = H.next) := by omega
    refine scode_skip ?_
    refine hK5 _ _ ?_
    try clear hK5 K5
    refine scode_seq_k (fun K6 hK6 => ?_)
    refine scode_block ?_
    refine scode_seq_k (fun K7 hK7 => ?_)
    refine scode_region (by kernel_rfl) ?_
    simp [go_sem, e13, e15, hLk, hdr, hb, hne0, hne1]
    refine hK7 _ _ ?_
    try clear hK7 K7
    refine scode_seq_k (fun K8 hK8 => ?_)
    refine scode_region (by kernel_rfl) ?_
    refine w_take 3 (fun K9 hK9 => ?_)
    simp [go_sem]
    refine ⟨_, _, name_H _ _, ?_⟩
    refine hK9 _ _ ?_
    clear hK9 K9
    simp [go_sem]
    refine hK8 _ _ ?_
    try clear hK8 K8
    refine scode_if (b := (nmI e.do_ == ([] : Word))) (by simp [go_sem]) (fun hb => ?_) (fun hb => ?_)
    · skip
      rw [nmI_ok] at hb
      have hres : printR a b (l.map EvI.toS) = ([], 1) := by
        unfold printR
        rw [any_good, if_pos]
        rw [List.any_eq_true]
        exact ⟨e, List.mem_of_getElem? he, hb⟩
      refine scode_seq_k (fun K10 hK10 => ?_)
      refine scode_region (by kernel_rfl) ?_
      simp [go_sem]
      refine hK10 _ _ ?_
      try clear hK10 K10
      refine scode_ret ?_
      simp only [go_sem]
      refine hR _ _ ?_
      rw [hres]
      exact ret_plain (by first | (simp [go_sem]; done) | (simp [go_sem]; rfl)) (empty_le _) (Nat.zero_le _) (by simp [go_sem])
    · skip
      rw [nmI_ok] at hb
      have hok2 : ∀ e ∈ l.take (i + 1), goodD e = true := by
        intro x hx
        rw [List.take_add_one, he] at hx
        rcases List.mem_append.1 hx with hx | hx
        · exact hok x hx
        · simp at hx; subst hx; simpa using hb
      refine scode_skip ?_
      refine hK6 _ _ ?_
      try clear hK6 K6
      refine scode_region (by kernel_rfl) ?_
      simp [go_sem, e15]
      have hw := i64_succ i (by omega)
      exact ⟨l.length - (i + 1), by omega, i + 1, rfl, by omega, by simp [go_sem, e2], by simp [go_sem, e3], by simp [go_sem, e4], by simp [go_sem, g0, hne0], by simp [go_sem, g1, hne1], by simp [go_sem, e13], by simp [go_sem, e14], by simp [go_sem, hw], hok2⟩
  · skip
    simp only [decide_eq_false_iff_not] at hb
    obtain rfl : i = l.length := by omega
    rw [List.take_length] at hok
    refine scode_exit ?_
    refine hK2 _ _ ?_
    try clear hK2 K2
    refine scode_seq_k (fun K11 hK11 => ?_)
    refine scode_seq_k (fun K12 hK12 => ?_)
    have hany : (l.map EvI.toS).any (fun e => !(decide (1 ≤ e.do_) && decide (e.do_ ≤ 11))) = false := by
      rw [any_good, Bool.eq_false_iff]
      intro h
      rw [List.any_eq_true] at h
      obtain ⟨y, hy, h⟩ := h
      rw [hok y hy] at h
      cases h
    have hr1 : printR a b (l.map EvI.toS) = if 2046 < (l.map EvI.toS).length then ([], 3) else if 65536 < (printT a b (l.map EvI.toS)).length then ([], 3) else (printT a b (l.map EvI.toS), 0) := by unfold printR; rw [hany]; rfl
    rw [List.length_map] at hr1
    refine scode_region (by kernel_rfl) ?_
    simp [go_sem, e2]
    refine hK12 _ _ ?_
    try clear hK12 K12
    refine scode_if (b := decide (2046 < (l.length : Int))) (by simp [go_sem]) (fun hb => ?_) (fun hb => ?_)
    · skip
      simp only [decide_eq_true_eq] at hb
      have hres : printR a b (l.map EvI.toS) = ([], 3) := by rw [hr1, if_pos (by omega)]
      refine scode_seq_k (fun K13 hK13 => ?_)
      refine scode_region (by kernel_rfl) ?_
      simp [go_sem]
      refine hK13 _ _ ?_
      try clear hK13 K13
      refine scode_ret ?_
      simp only [go_sem]
      refine hR _ _ ?_
      rw [hres]
      exact ret_plain (by first | (simp [go_sem]; done) | (simp [go_sem]; rfl)) (empty_le _) (Nat.zero_le _) (by simp [go_sem])
    · skip
      simp only [decide_eq_false_iff_not] at hb
      rw [if_neg (by omega)] at hr1
      refine scode_skip ?_
      refine hK11 _ _ ?_
      try clear hK11 K11
      have n0 := Heap.lt_of_get g0
      have n1 := Heap.lt_of_get g1
      have hne0 : ¬ (0 = H.next) := by omega
      have hne1 : ¬ (1 = H.next) := by omega
      refine scode_seq_mid (fun env H => ∃ nb, env 2 = .vs l.length 5 (eV l) ∧ env 3 = .ptr 0 0 ∧ env 4 = .ptr 1 0 ∧ H.get 0 = some (cfgC a) ∧ H.get 1 = some (cfgC b) ∧ env 10 = .ty 75 2 (.ptr nb 0) ∧ H.get nb = some [.sc (.pointer none), .nil] ∧ ¬ (0 = nb) ∧ ¬ (1 = nb)) ?_ ?_
      · skip
        refine scode_alloc_ty tZ75 (by decide) ?_
        exact ⟨H.next, by simp [go_sem, e2], by simp [go_sem, e3], by simp [go_sem, e4], by simp [go_sem, g0, hne0], by simp [go_sem, g1, hne1], by simp [go_sem], by simp [go_sem], hne0, hne1⟩
      clear e2 e3 e4 g0 g1 e13 e14 e15
      rintro env H ⟨nb, e2, e3, e4, g0, g1, e10, gn, m0, m1⟩
      refine scode_less_heap (b := nb) (cs := [.sc (.pointer none), .nil]) (cs' := [.sc (.pointer none), .ty 5 1 .nil]) gn (.cons (.same _) (.cons (.tyNil 5 1) .nil)) ?_
      refine scode_gen (fun env H => env 2 = .vs l.length 5 (eV l) ∧ env 3 = .ptr 0 0 ∧ env 4 = .ptr 1 0 ∧ H.get 0 = some (cfgC a) ∧ H.get 1 = some (cfgC b) ∧ env 10 = .ty 75 2 (.ptr nb 0) ∧ Bld H nb []) ⟨e2, e3, e4, by rw [Heap.get_set, if_neg m0]; exact g0, by rw [Heap.get_set, if_neg m1]; exact g1, e10, bld_fresh (by rw [Heap.get_set, if_pos rfl, gn]; rfl)⟩ ?_
      clear e2 e3 e4 g0 g1 e10 gn
      rintro env H ⟨e2, e3, e4, g0, g1, e10, hB⟩
      have hla := cfg_line_len a oka
      have hlb := cfg_line_len b okb
      have hadd : srun Tryz.prog (Op.stringOp .add (bs (a.line ++ [10])) (bs (b.line ++ [10]))) = some (.string (bs ((a.line ++ [10]) ++ (b.line ++ [10])))) := srun_sadd Tryz.prog _ _ (by simp; omega)
      obtain ⟨H2, cws, hB2⟩ := writeString_s (a.line ++ 10 :: (b.line ++ [10])) hB (by simp; omega)
      have hpt : [] ++ (a.line ++ 10 :: (b.line ++ [10])) = printT a b [] := by simp [printT, textL]
      rw [hpt] at hB2
      refine scode_seq_mid (fun env H => env 2 = .vs l.length 5 (eV l) ∧ ∃ nb, env 10 = .ty 75 2 (.ptr nb 0) ∧ Bld H nb (printT a b [])) ?_ ?_
      · skip
        refine scode_drawST (bf := [0, 1, 0, 7, 15, 31]) 5 mixed (by kernel_rfl) (by kernel_rfl) (by kernel_rfl) (fun K99 hK99 => ?_)
        refine ws_take 2 (fun K91 hK91 => ?_)
        simp [go_sem, e3, g0, cfgC]
        refine ⟨_, _, head_H a oka hna hsa _, rfl, ?_⟩
        try simp [go_sem]
        refine hK91 _ _ ?_
        refine ws_take 2 (fun K92 hK92 => ?_)
        simp [go_sem, e4, g1, cfgC]
        refine ⟨_, _, head_H b okb hnb hsb _, rfl, ?_⟩
        try simp [go_sem]
        refine hK92 _ _ ?_
        simp [go_sem, hadd]
        refine hK99 _ _ ?_
        simp [go_sem, e10]
        refine ⟨_, _, cws, ?_⟩
        try simp [go_sem]
        first | exact ⟨by simp [go_sem, e2], nb, by simp [go_sem, e10], hB2⟩ | exact ⟨by simp [go_sem, e2], hB2⟩ | exact ⟨e2, hB2⟩
      rintro env H ⟨e2, nb, e10, hB⟩
      refine scode_seq_k (fun K16 hK16 => ?_)
      refine scode_seq_k (fun K17 hK17 => ?_)
      refine scode_region (by kernel_rfl) ?_
      simp [go_sem, e2]
      refine hK17 _ _ ?_
      try clear hK17 K17
      refine scode_block ?_
      refine scode_loop (Inv := fun n env H => ∃ i : Nat, n = l.length - i ∧ i ≤ l.length ∧ env 33 = .vs l.length 5 (eV l) ∧ env 34 = .int l.length ∧ env 35 = .int i ∧ ∃ nb : Nat, env 10 = .ty 75 2 (.ptr nb 0) ∧ Bld H nb (printT a b ((l.take i).map EvI.toS))) ?_ (n := l.length) (⟨0, rfl, by omega, by simp [go_sem], by simp [go_sem], by simp [go_sem], nb, by simp [go_sem, e10], by simpa using hB⟩)
      clear e2 e10 hB
      rintro n env H ⟨i, rfl, hi, e33, e34, e35, nb, e10, hB⟩
      refine scode_seq_k (fun K18 hK18 => ?_)
      refine scode_region (by kernel_rfl) ?_
      simp [go_sem, e35, e34]
      refine hK18 _ _ ?_
      try clear hK18 K18
      refine scode_seq_k (fun K19 hK19 => ?_)
      refine scode_if (b := decide (i < l.length)) (by simp [go_sem]) (fun hb => ?_) (fun hb => ?_)
      · skip
        simp only [decide_eq_true_eq] at hb
        obtain ⟨e, he⟩ := get_of_lt l i hb
        obtain ⟨r, hdr⟩ := eV_drop he
        have hrl : l.length * 5 - i * 5 = 5 + r.length := by rw [← hLk, ← List.length_drop, hdr]; simp; omega
        have hps := printT_take a b (l.map EvI.toS) i
        rw [← List.map_take] at hps
        refine scode_skip ?_
        refine hK19 _ _ ?_
        try clear hK19 K19
        refine scode_seq_k (fun K20 hK20 => ?_)
        refine scode_block ?_
        refine scode_seq_k (fun K21 hK21 => ?_)
        refine scode_region (by kernel_rfl) ?_
        simp [go_sem, e33, e35, hLk, hdr, hb]
        refine hK21 _ _ ?_
        try clear hK21 K21
        refine scode_seq_k (fun K22 hK22 => ?_)
        refine scode_seq_k (fun K23 hK23 => ?_)
        refine scode_gen (fun env H => env 33 = .vs l.length 5 (eV l) ∧ env 34 = .int l.length ∧ env 35 = .int i ∧ env 10 = .ty 75 2 (.ptr nb 0) ∧ ∃ k, env 12 = .ptr k 0 ∧ H.get k = some [.int e.do_, .int e.end_, .int e.n, .int e.proto, bA e.b] ∧ Bld H nb (printT a b ((l.take i).map EvI.toS))) ⟨by simp [go_sem, e33], by simp [go_sem, e34], by simp [go_sem, e35], by simp [go_sem, e10], H.next, by simp [go_sem], by simp [Heap.get_set, Heap.get_alloc], hB.fresh_set _ _⟩ ?_
        clear e33 e34 e35 e10 hB
        rintro env H ⟨e33, e34, e35, e10, k, e12, gk, hB⟩
        refine scode_region (by kernel_rfl) ?_
        refine w_take 1 (fun K24 hK24 => ?_)
        simp [go_sem, e10]
        refine ⟨_, _, blen_s hB, ?_⟩
        refine hK24 _ _ ?_
        clear hK24 K24
        simp [go_sem, e10]
        refine hK23 _ _ ?_
        try clear hK23 K23
        refine scode_if (b := decide (65536 < ((printT a b ((l.take i).map EvI.toS)).length : Int))) (by simp [go_sem]) (fun hb => ?_) (fun hb => ?_)
        · skip
          simp only [decide_eq_true_eq] at hb
          have hres : printR a b (l.map EvI.toS) = ([], 3) := by rw [hr1, if_pos (by omega)]
          refine scode_seq_k (fun K25 hK25 => ?_)
          refine scode_region (by kernel_rfl) ?_
          simp [go_sem]
          refine hK25 _ _ ?_
          try clear hK25 K25
          refine scode_ret ?_
          simp only [go_sem]
          refine hR _ _ ?_
          rw [hres]
          exact ret_plain (by first | (simp [go_sem]; done) | (simp [go_sem]; rfl)) (empty_le _) (Nat.zero_le _) (by simp [go_sem])
        · skip
          simp only [decide_eq_false_iff_not] at hb
          have hse := hl e (List.mem_of_getElem? he)
          have hde : 1 ≤ e.do_ ∧ e.do_ ≤ 11 := by
            have := hok e (List.mem_of_getElem? he)
            simp [goodD] at this
            omega
          have hll := ev_line_len e.toS hse.1
          have hle := hse.2
          have hbb : e.toS.b = e.b := rfl
          rw [hbb] at hll
          obtain ⟨H2, cws, hB2⟩ := writeString_s (e.toS.line ++ [10]) hB (by rw [List.length_append]; show _ + (_ + 1) ≤ _; omega)
          rw [printT_succ a b l i e he] at hB2
          refine scode_skip ?_
          refine hK22 _ _ ?_
          try clear hK22 K22
          refine scode_region (by kernel_rfl) ?_
          refine w_take 2 (fun K26 hK26 => ?_)
          simp [go_sem, e12, gk, e10]
          refine ⟨_, _, row_I e hde hse _, ?_⟩
          refine hK26 _ _ ?_
          clear hK26 K26
          simp [go_sem, e12, gk, e10]
          refine ⟨_, _, cws, ?_⟩
          refine hK20 _ _ ?_
          try clear hK20 K20
          refine scode_region (by kernel_rfl) ?_
          simp [go_sem, e35]
          have hw := i64_succ i (by omega)
          exact ⟨l.length - (i + 1), by omega, i + 1, rfl, by omega, by simp [go_sem, e33], by simp [go_sem, e34], by simp [go_sem, hw], nb, by simp [go_sem, e10], by simpa using hB2⟩
      · skip
        simp only [decide_eq_false_iff_not] at hb
        obtain rfl : i = l.length := by omega
        rw [List.take_length] at hB
        refine scode_exit ?_
        refine hK16 _ _ ?_
        try clear hK16 K16
        refine scode_seq_k (fun K28 hK28 => ?_)
        refine scode_seq_k (fun K29 hK29 => ?_)
        refine scode_region (by kernel_rfl) ?_
        refine w_take 1 (fun K30 hK30 => ?_)
        simp [go_sem, e10]
        refine ⟨_, _, blen_s hB, ?_⟩
        refine hK30 _ _ ?_
        clear hK30 K30
        simp [go_sem, e10]
        refine hK29 _ _ ?_
        try clear hK29 K29
        refine scode_if (b := decide (65536 < ((printT a b (l.map EvI.toS)).length : Int))) (by simp [go_sem]) (fun hb => ?_) (fun hb => ?_)
        · skip
          simp only [decide_eq_true_eq] at hb
          have hres : printR a b (l.map EvI.toS) = ([], 3) := by rw [hr1, if_pos (by omega)]
          refine scode_seq_k (fun K31 hK31 => ?_)
          refine scode_region (by kernel_rfl) ?_
          simp [go_sem]
          refine hK31 _ _ ?_
          try clear hK31 K31
          refine scode_ret ?_
          simp only [go_sem]
          refine hR _ _ ?_
          rw [hres]
          exact ret_plain (by first | (simp [go_sem]; done) | (simp [go_sem]; rfl)) (empty_le _) (Nat.zero_le _) (by simp [go_sem])
        · skip
          simp only [decide_eq_false_iff_not] at hb
          have hres : printR a b (l.map EvI.toS) = (printT a b (l.map EvI.toS), 0) := by rw [hr1, if_neg (by omega)]
          obtain ⟨H2, cs32⟩ := bstring_s hB (printT_ne _ _ _) (by omega)
          refine scode_skip ?_
          refine hK28 _ _ ?_
          try clear hK28 K28
          refine scode_seq_k (fun K32 hK32 => ?_)
          refine scode_region (by kernel_rfl) ?_
          refine w_take 1 (fun K33 hK33 => ?_)
          simp [go_sem, e10]
          refine ⟨_, _, cs32, ?_⟩
          refine hK33 _ _ ?_
          clear hK33 K33
          simp [go_sem, e10]
          refine hK32 _ _ ?_
          try clear hK32 K32
          refine scode_ret ?_
          simp only [go_sem]
          refine hR _ _ ?_
          rw [hres]
          exact ret_plain (by first | (simp [go_sem]; done) | (simp [go_sem]; rfl)) (empty_le _) (Nat.zero_le _) (by simp [go_sem])

end Go.Proofs.YtfmpakmigmehkaaGreatDoor
