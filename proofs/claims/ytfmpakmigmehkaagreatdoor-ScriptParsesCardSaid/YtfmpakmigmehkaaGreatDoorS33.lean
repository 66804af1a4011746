/- Contract: the document's Print. -/
import Derived.Test.YtfmpakmigmehkaaGreatDoorFl43
import Derived.Test.YtfmpakmigmehkaaGreatDoorS30
import Derived.Test.YtfmpakmigmehkaaGreatDoorS31
set_option linter.unusedVariables false
set_option linter.unusedSimpArgs false
set_option maxRecDepth 20000
noncomputable section
namespace Go.Proofs.YtfmpakmigmehkaaGreatDoor
open Go Go.Fl Go.Proofs

theorem line_H (c : CfgS) (hok : c.ok) (hname : c.name.length ≤ 1000000) (hsecret : c.secret.length ≤ 1000000) (H : Heap) : SCalls Tryz.prog 35 [.agg (cfgC c)] H (sA (c.line ++ [10])) H := scalls_frame (line_s c hok hname hsecret) (by simp [go_sem, cfgC]) (by simp [go_sem]) H
theorem appT {H : Heap} {k : Nat} {t : Word} (w : Word) (hk : H.get k = some (bV t)) (h1 : t.length + w.length ≤ 1000000000) : aappend Tryz.prog H 42 9 (.ms k 0 t.length 1) (.sc (.string (bs w))) = some (.ms H.next 0 (t.length + w.length) 1, H.regrow (some k) (bV t ++ bV w)) := by
  have hl := bV_length t
  refine append_step (k := w.length) tU42 tS5 tB5 tZ5 rfl ?_ (grown_of hk (by rw [hl]; omega)) (by omega) (by omega) ?_
  · unfold source
    rw [tU9]
    simp [bs, bV]
    rfl
  · simp [bV, AV.leaf]
/-- The bytes that are printed, in a block. -/
def BSt (t : Word) (env : Env) (H : Heap) : Prop := ∃ k, env 11 = .ms k 0 t.length 1 ∧ H.get k = some (bV t)
theorem BSt.more {t : Word} {H : Heap} {k : Nat} (w : Word) (env : Env) (h : env 11 = .ms H.next 0 (t.length + w.length) 1) : BSt (t ++ w) env (H.regrow (some k) (bV t ++ bV w)) := by
  refine ⟨H.next, by rw [h, List.length_append], ?_⟩
  unfold Heap.regrow
  rw [Heap.get_alloc, Heap.delo_next, if_pos rfl, bV_app]
def pK (a b : CfgS) (l : List EvI) (i : Nat) : Word := printT a b ((l.take i).map EvI.toS)
def PEnd (a b : CfgS) (l : List EvI) (env : Env) (H : Heap) : Prop := ∃ i, i ≤ l.length ∧ BSt (pK a b l i) env H ∧ (i = l.length ∨ 65536 < (pK a b l i).length)
theorem line_k0 (e : EvI) (h : evKind e.do_.toNat = 0) : e.toS.line = (nmI e.do_ ++ [32]) ++ Lib.itoa e.end_ := by
  simp [EvS.line, EvS.words, EvS.tail, EvI.toS, h, joinW, nmI]
theorem line_k1 (e : EvI) (h : evKind e.do_.toNat = 1) : e.toS.line = (((nmI e.do_ ++ [32]) ++ Lib.itoa e.end_) ++ [32]) ++ Lib.itoa e.n := by
  simp [EvS.line, EvS.words, EvS.tail, EvI.toS, h, joinW, nmI]
theorem line_k2 (e : EvI) (h : evKind e.do_.toNat = 2) : e.toS.line = (((((nmI e.do_ ++ [32]) ++ Lib.itoa e.end_) ++ [32]) ++ Lib.itoa e.proto) ++ [32]) ++ hexL e.b := by
  simp [EvS.line, EvS.words, EvS.tail, EvI.toS, h, joinW, nmI]
theorem line_k3 (e : EvI) (h : evKind e.do_.toNat = 3) : e.toS.line = (((((nmI e.do_ ++ [32]) ++ Lib.itoa e.end_) ++ [32]) ++ Lib.itoa e.n) ++ [32]) ++ hexL e.b := by
  simp [EvS.line, EvS.words, EvS.tail, EvI.toS, h, joinW, nmI]
theorem line_k4 (e : EvI) (h : evKind e.do_.toNat = 4) : e.toS.line = (((nmI e.do_ ++ [32]) ++ Lib.itoa e.end_) ++ [32]) ++ hexL e.b := by
  simp [EvS.line, EvS.words, EvS.tail, EvI.toS, h, joinW, nmI]
theorem sadd32 (x : Word) (h : x.length ≤ 1000000000) : srun Tryz.prog (Op.stringOp .add (bs x) ⟨#[32]⟩) = some (.string (bs (x ++ [32]))) := srun_sadd Tryz.prog x [32] (by simp; omega)
theorem sadd10 (x : Word) (h : x.length ≤ 1000000000) : srun Tryz.prog (Op.stringOp .add (bs x) ⟨#[10]⟩) = some (.string (bs (x ++ [10]))) := srun_sadd Tryz.prog x [10] (by simp; omega)
theorem saddW (x y : Word) (h : x.length ≤ 1000000000) (h2 : y.length ≤ 1000000000) : srun Tryz.prog (Op.stringOp .add (bs x) (bs y)) = some (.string (bs (x ++ y))) := srun_sadd Tryz.prog x y (by omega)

theorem rprint_s (a b : CfgS) (l : List EvI) (oka : a.ok) (okb : b.ok) (hna : a.name.length ≤ 1000000) (hsa : a.secret.length ≤ 1000000) (hnb : b.name.length ≤ 1000000) (hsb : b.secret.length ≤ 1000000) (hl : ∀ e ∈ l, e.sat) (hn : l.length ≤ 1000000) : SCalls Tryz.prog 15 [.agg (cfgC a), .agg (cfgC b), eA l] Heap.empty (.tup [sA (printR a b (l.map EvI.toS)).1, .int (printR a b (l.map EvI.toS)).2]) Heap.empty := by
  have hLk : (eV l).length = l.length * 5 := eV_len l
  refine scalls_of_k (sz := 141) (Tryz.call15) Tryz.func15 rfl (Nat.zero_le _) (by kernel_rfl) (fun R hR => ?_)
  refine scode_seq_mid (fun env H => env 2 = .vs l.length 5 (eV l) ∧ env 3 = .ptr 0 0 ∧ env 4 = .ptr 1 0 ∧ H.get 0 = some (cfgC a) ∧ H.get 1 = some (cfgC b)) ?_ ?_
  · skip
    refine scode_region (by kernel_rfl) ?_
    simp [go_sem]
    first
      | done
      | exact ⟨rfl, rfl, rfl⟩
      | rfl
      | simp [go_sem, eA]
  rintro env H ⟨e2, e3, e4, g0, g1⟩
  refine scode_seq_k (fun K2 hK2 => ?_)
  refine scode_seq_k (fun K3 hK3 => ?_)
  refine scode_region (by kernel_rfl) ?_
  simp [go_sem]
  refine hK3 _ _ ?_
  try clear hK3 K3
  refine scode_block ?_
  refine scode_loop (Inv := fun n env H => ∃ i : Nat, n = l.length - i ∧ i ≤ l.length ∧ (env 2 = .vs l.length 5 (eV l) ∧ env 3 = .ptr 0 0 ∧ env 4 = .ptr 1 0 ∧ H.get 0 = some (cfgC a) ∧ H.get 1 = some (cfgC b)) ∧ env 8 = .int i ∧ (∀ e ∈ l.take i, goodD e = true)) ?_ (n := l.length) (⟨0, rfl, by omega, ⟨by simp [go_sem, e2], by simp [go_sem, e3], by simp [go_sem, e4], g0, g1⟩, by simp [go_sem], by simp⟩)
  clear e2 e3 e4 g0 g1
  rintro n env H ⟨i, rfl, hi, ⟨e2, e3, e4, g0, g1⟩, e8, hok⟩
  refine scode_seq_k (fun K4 hK4 => ?_)
  refine scode_seq_k (fun K5 hK5 => ?_)
  refine scode_region (by kernel_rfl) ?_
  simp [go_sem, e2, e8]
  refine hK5 _ _ ?_
  try clear hK5 K5
  refine scode_if (b := decide (i < l.length)) (by simp [go_sem]) (fun hb => ?_) (fun hb => ?_)
  · skip
    simp only [decide_eq_true_eq] at hb
    obtain ⟨e, he⟩ := get_of_lt l i hb
    obtain ⟨r, hdr, hrl⟩ := eV_cell he
    refine scode_skip ?_
    refine hK4 _ _ ?_
    try clear hK4 K4
    refine scode_seq_k (fun K6 hK6 => ?_)
    refine scode_block ?_
    refine scode_seq_k (fun K7 hK7 => ?_)
    refine scode_region (by kernel_rfl) ?_
    refine w_take 6 (fun K8 hK8 => ?_)
    simp [go_sem, e2, e8, hLk, hdr, hb, hrl]
    refine ⟨_, _, rname_H _ _, ?_⟩
    refine hK8 _ _ ?_
    clear hK8 K8
    simp [go_sem, e2, e8, hLk, hdr, hb, hrl]
    refine hK7 _ _ ?_
    try clear hK7 K7
    refine scode_seq_k (fun K9 hK9 => ?_)
    refine scode_region (by kernel_rfl) ?_
    simp [go_sem]
    refine hK9 _ _ ?_
    try clear hK9 K9
    refine scode_if (b := (nmI e.do_ == ([] : Word))) (by simp [go_sem]) (fun hb => ?_) (fun hb => ?_)
    · skip
      rw [nmI_ok] at hb
      have hres : printR a b (l.map EvI.toS) = ([], 1) := by
        unfold printR
        rw [any_good, if_pos]
        rw [List.any_eq_true]
        exact ⟨e, List.mem_of_getElem? he, hb⟩
      refine scode_seq_k (fun K10 hK10 => ?_)
      refine scode_region (by kernel_rfl) ?_
      simp [go_sem]
      refine hK10 _ _ ?_
      try clear hK10 K10
      refine scode_ret ?_
      simp only [go_sem]
      refine hR _ _ ?_
      rw [hres]
      exact ret_plain (by first | (simp [go_sem]; done) | (simp [go_sem]; rfl)) (empty_le _) (Nat.zero_le _) (by simp [go_sem])
    · skip
      rw [nmI_ok] at hb
      have hok2 : ∀ e ∈ l.take (i + 1), goodD e = true := by
        intro x hx
        rw [List.take_add_one, he] at hx
        rcases List.mem_append.1 hx with hx | hx
        · exact hok x hx
        · simp at hx; subst hx; simpa using hb
      refine scode_skip ?_
      refine hK6 _ _ ?_
      try clear hK6 K6
      refine scode_region (by kernel_rfl) ?_
      simp [go_sem, e8]
      have hw := i64_succ i (by omega)
      exact ⟨l.length - (i + 1), by omega, i + 1, rfl, by omega, ⟨by simp [go_sem, e2], by simp [go_sem, e3], by simp [go_sem, e4], by simp [go_sem, g0], by simp [go_sem, g1]⟩, by simp [go_sem, hw], hok2⟩
  · skip
    simp only [decide_eq_false_iff_not] at hb
    obtain rfl : i = l.length := by omega
    rw [List.take_length] at hok
    refine scode_exit ?_
    refine hK2 _ _ ?_
    try clear hK2 K2
    refine scode_seq_k (fun K11 hK11 => ?_)
    refine scode_seq_k (fun K12 hK12 => ?_)
    have hany : (l.map EvI.toS).any (fun e => !(decide (1 ≤ e.do_) && decide (e.do_ ≤ 11))) = false := by
      rw [any_good, Bool.eq_false_iff]
      intro h
      rw [List.any_eq_true] at h
      obtain ⟨y, hy, h⟩ := h
      rw [hok y hy] at h
      cases h
    have hr1 : printR a b (l.map EvI.toS) = if 2046 < (l.map EvI.toS).length then ([], 3) else if 65536 < (printT a b (l.map EvI.toS)).length then ([], 3) else (printT a b (l.map EvI.toS), 0) := by unfold printR; rw [hany]; rfl
    rw [List.length_map] at hr1
    refine scode_region (by kernel_rfl) ?_
    simp [go_sem, e2]
    refine hK12 _ _ ?_
    try clear hK12 K12
    refine scode_if (b := decide (2046 < (l.length : Int))) (by simp [go_sem]) (fun hb => ?_) (fun hb => ?_)
    · skip
      simp only [decide_eq_true_eq] at hb
      have hres : printR a b (l.map EvI.toS) = ([], 3) := by rw [hr1, if_pos (by omega)]
      refine scode_seq_k (fun K13 hK13 => ?_)
      refine scode_region (by kernel_rfl) ?_
      simp [go_sem]
      refine hK13 _ _ ?_
      try clear hK13 K13
      refine scode_ret ?_
      simp only [go_sem]
      refine hR _ _ ?_
      rw [hres]
      exact ret_plain (by first | (simp [go_sem]; done) | (simp [go_sem]; rfl)) (empty_le _) (Nat.zero_le _) (by simp [go_sem])
    · skip
      simp only [decide_eq_false_iff_not] at hb
      rw [if_neg (by omega)] at hr1
      refine scode_skip ?_
      refine hK11 _ _ ?_
      try clear hK11 K11
      have hla := cfg_line_len a oka
      have hlb := cfg_line_len b okb
      have hadd := saddW (a.line ++ [10]) (b.line ++ [10]) (by simp; omega) (by simp; omega)
      have hpt : (a.line ++ [10]) ++ (b.line ++ [10]) = printT a b [] := by simp [printT, textL]
      rw [hpt] at hadd
      obtain ⟨pt, hptq⟩ : ∃ p, printT a b [] = p := ⟨_, rfl⟩
      have hptl : pt.length ≤ 9000000 := by rw [← hptq, ← hpt]; simp; omega
      rw [hptq] at hadd
      refine scode_seq_mid (fun env H => env 2 = .vs l.length 5 (eV l) ∧ BSt (printT a b []) env H) ?_ ?_
      · skip
        refine scode_drawST (bf := [0, 1, 0, 7, 15, 31, 63]) 5 mixed (by kernel_rfl) (by kernel_rfl) (by kernel_rfl) (fun K99 hK99 => ?_)
        refine ws_take 2 (fun K91 hK91 => ?_)
        simp [go_sem, e3, g0, cl, c_t18']
        refine ⟨_, _, line_H a oka hna hsa _, rfl, ?_⟩
        try simp [go_sem]
        refine hK91 _ _ ?_
        refine ws_take 2 (fun K92 hK92 => ?_)
        simp [go_sem, e4, g1, cl, c_t18']
        refine ⟨_, _, line_H b okb hnb hsb _, rfl, ?_⟩
        try simp [go_sem]
        refine hK92 _ _ ?_
        simp [go_sem, hadd]
        refine hK99 _ _ ?_
        simp [go_sem]
        rw [hptq]
        exact ⟨by simp [go_sem, e2], H.next, by simp [go_sem, bs_size], by simp [go_sem, strV_bs]⟩
      rw [hptq]
      clear e2 e3 e4 g0 g1 e8
      rintro env H ⟨e2, hB⟩
      refine scode_seq_mid (PEnd a b l) ?_ ?_
      · skip
        refine scode_seq_k (fun K16 hK16 => ?_)
        refine scode_region (by kernel_rfl) ?_
        simp [go_sem]
        refine hK16 _ _ ?_
        try clear hK16 K16
        refine scode_block ?_
        refine scode_loop (Inv := fun n env H => ∃ i : Nat, n = l.length - i ∧ i ≤ l.length ∧ env 2 = .vs l.length 5 (eV l) ∧ env 12 = .int i ∧ BSt (pK a b l i) env H) ?_ (n := l.length) (⟨0, rfl, by omega, by simp [go_sem, e2], by simp [go_sem], by obtain ⟨k, h1, h2⟩ := hB; exact ⟨k, by simp [go_sem, h1, pK, hptq], by simp [pK, hptq, h2]⟩⟩)
        clear e2 hB
        rintro n env H ⟨i, rfl, hi, e2, e12, k, e11, gk⟩
        obtain ⟨tx, htx⟩ : ∃ t, pK a b l i = t := ⟨_, rfl⟩
        rw [htx] at e11 gk
        refine scode_seq_k (fun K17 hK17 => ?_)
        refine scode_seq_k (fun K18 hK18 => ?_)
        rcases (by omega : (i < l.length ∧ tx.length ≤ 65536) ∨ (i < l.length ∧ ¬ tx.length ≤ 65536) ∨ ¬ i < l.length) with ⟨hil, htl⟩ | ⟨hil, htl⟩ | hil
        · skip
          have hm : (tx.length : Int) ≤ 65536 := by omega
          obtain ⟨e, he⟩ := get_of_lt l i hil
          obtain ⟨r, hdr, hrl⟩ := eV_cell he
          have hb := hil
          have hse := hl e (List.mem_of_getElem? he)
          have i1 : inI e.end_ := hse.1.1
          have i2 : inI e.n := hse.1.2.1
          have i3 : inI e.proto := hse.1.2.2
          have hnl := evName_len e.do_.toNat
          have hnl2 : (nmI e.do_).length ≤ 6 := hnl
          have hle := itoa_len e.end_ hse.1.1
          have hln2 := itoa_len e.n hse.1.2.1
          have hlp := itoa_len e.proto hse.1.2.2
          have hhx := hexL_len e.b
          have hsb := hse.2
          have hll := ev_line_len e.toS hse.1
          have hbb : e.toS.b = e.b := rfl
          rw [hbb] at hll
          obtain ⟨x, hxd⟩ : ∃ x, (nmI e.do_ ++ [32]) ++ Lib.itoa e.end_ = x := ⟨_, rfl⟩
          have hxl : x.length ≤ 50 := by rw [← hxd]; simp; omega
          have s01 := sadd32 (nmI e.do_) (by omega)
          have s02 := saddW (nmI e.do_ ++ [32]) (Lib.itoa e.end_) (by simp; omega) (by omega)
          rw [hxd] at s02
          obtain ⟨L, hLd⟩ : ∃ L, e.toS.line = L := ⟨_, rfl⟩
          rw [hLd] at hll
          have s03 := sadd10 L (by omega)
          obtain ⟨wd, hwd⟩ : ∃ w, L ++ [10] = w := ⟨_, rfl⟩
          rw [hwd] at s03
          have hwl : wd.length ≤ 3000000 := by rw [← hwd]; simp; omega
          have hsucc := printT_succ a b l i e he
          rw [hLd, hwd] at hsucc
          refine scode_region (by kernel_rfl) ?_
          simp [go_sem, e2, e11, e12, hil, hm]
          refine hK18 _ _ ?_
          try clear hK18 K18
          refine scode_if (b := true) (by simp [go_sem]) (fun _ => ?_) (fun h => by cases h)
          refine scode_skip ?_
          refine hK17 _ _ ?_
          try clear hK17 K17
          refine scode_seq_k (fun K19 hK19 => ?_)
          refine scode_block ?_
          refine scode_seq_k (fun K20 hK20 => ?_)
          refine scode_region (by kernel_rfl) ?_
          refine w_take 6 (fun K21 hK21 => ?_)
          simp [go_sem, e2, e12, hLk, hdr, hb, hrl]
          refine ⟨_, _, rname_H _ _, ?_⟩
          refine hK21 _ _ ?_
          clear hK21 K21
          simp [go_sem, e2, e12, hLk, hdr, hb, hrl]
          refine hK20 _ _ ?_
          try clear hK20 K20
          refine scode_seq_k (fun K22 hK22 => ?_)
          refine scode_region (by kernel_rfl) ?_
          refine w_take 8 (fun K23 hK23 => ?_)
          simp [go_sem, e2, e12, hLk, hdr, hb, hrl, s01, s02]
          refine ⟨_, _, rint_H _ i1 _, ?_⟩
          refine hK23 _ _ ?_
          clear hK23 K23
          simp [go_sem, e2, e12, hLk, hdr, hb, hrl, s01, s02]
          refine hK22 _ _ ?_
          try clear hK22 K22
          refine scode_gen (fun env H => env 2 = .vs l.length 5 (eV l) ∧ env 12 = .int i ∧ env 14 = .sc (.int .u8 (hasI e.do_)) ∧ env 15 = sA x ∧ env 11 = .ms k 0 tx.length 1 ∧ H.get k = some (bV tx)) ⟨by simp [go_sem, e2], by simp [go_sem, e12], by simp [go_sem], by simp [go_sem], by simp [go_sem, e11], gk⟩ ?_
          clear e2 e12 e11 gk
          rintro env H ⟨e2, e12, e14, e15, e11, gk⟩
          refine scode_seq_mid (fun env H => env 2 = .vs l.length 5 (eV l) ∧ env 12 = .int i ∧ env 15 = sA L ∧ env 11 = .ms k 0 tx.length 1 ∧ H.get k = some (bV tx)) ?_ ?_
          · skip
            refine scode_seq_k (fun K25 hK25 => ?_)
            rcases kinds e.do_.toNat with hk | hk | hk | hk | hk
            · skip
              have hLx : L = x := by rw [← hLd, line_k0 e hk, hxd]
              have hh : hasI e.do_ = 0 := by simp only [hasI, hk]
              rw [hh] at e14
              have hln := line_k0 e hk
              refine scode_region (by kernel_rfl) ?_
              simp [go_sem, e14]
              refine hK25 _ _ ?_
              try clear hK25 K25
              refine scode_block ?_
              refine scode_seq_k (fun K26 hK26 => ?_)
              refine scode_region (by kernel_rfl) ?_
              simp [go_sem]
              refine hK26 _ _ ?_
              try clear hK26 K26
              refine scode_if (b := false) (by simp [go_sem]) (fun h => by cases h) (fun _ => ?_)
              refine scode_seq_k (fun K27 hK27 => ?_)
              refine scode_region (by kernel_rfl) ?_
              simp [go_sem]
              refine hK27 _ _ ?_
              try clear hK27 K27
              refine scode_if (b := false) (by simp [go_sem]) (fun h => by cases h) (fun _ => ?_)
              refine scode_seq_k (fun K28 hK28 => ?_)
              refine scode_region (by kernel_rfl) ?_
              simp [go_sem]
              refine hK28 _ _ ?_
              try clear hK28 K28
              refine scode_if (b := false) (by simp [go_sem]) (fun h => by cases h) (fun _ => ?_)
              refine scode_seq_k (fun K29 hK29 => ?_)
              refine scode_region (by kernel_rfl) ?_
              simp [go_sem]
              refine hK29 _ _ ?_
              try clear hK29 K29
              refine scode_if (b := false) (by simp [go_sem]) (fun h => by cases h) (fun _ => ?_)
              refine scode_skip ?_
              simp [go_sem, e2, e12, e15, e11, gk, hLx]
            · skip
              have hLx : L = x ++ [32] ++ Lib.itoa e.n := by rw [← hLd, line_k1 e hk, hxd]
              have hh : hasI e.do_ = 110 := by simp only [hasI, hk]
              rw [hh] at e14
              refine scode_region (by kernel_rfl) ?_
              simp [go_sem, e14]
              refine hK25 _ _ ?_
              try clear hK25 K25
              refine scode_block ?_
              refine scode_seq_k (fun K30 hK30 => ?_)
              refine scode_region (by kernel_rfl) ?_
              simp [go_sem]
              refine hK30 _ _ ?_
              try clear hK30 K30
              refine scode_if (b := true) (by simp [go_sem]) (fun _ => ?_) (fun h => by cases h)
              have s1 := sadd32 x (by omega)
              have s2 := saddW (x ++ [32]) (Lib.itoa e.n) (by simp; omega) (by omega)
              have hln := line_k1 e hk
              refine scode_region (by kernel_rfl) ?_
              refine w_take 8 (fun K31 hK31 => ?_)
              simp [go_sem, e2, e12, e15, hdr, hb, hrl, hLk, s1, s2]
              refine ⟨_, _, rint_H _ i2 _, ?_⟩
              refine hK31 _ _ ?_
              clear hK31 K31
              simp [go_sem, e2, e12, e15, hdr, hb, hrl, hLk, s1, s2]
              simp [go_sem, e2, e12, e15, e11, gk, hLx]
            · skip
              have hLx : L = x ++ [32] ++ Lib.itoa e.proto ++ [32] ++ hexL e.b := by rw [← hLd, line_k2 e hk, hxd]
              have hh : hasI e.do_ = 112 := by simp only [hasI, hk]
              rw [hh] at e14
              refine scode_region (by kernel_rfl) ?_
              simp [go_sem, e14]
              refine hK25 _ _ ?_
              try clear hK25 K25
              refine scode_block ?_
              refine scode_seq_k (fun K32 hK32 => ?_)
              refine scode_region (by kernel_rfl) ?_
              simp [go_sem]
              refine hK32 _ _ ?_
              try clear hK32 K32
              refine scode_if (b := false) (by simp [go_sem]) (fun h => by cases h) (fun _ => ?_)
              refine scode_seq_k (fun K33 hK33 => ?_)
              refine scode_region (by kernel_rfl) ?_
              simp [go_sem]
              refine hK33 _ _ ?_
              try clear hK33 K33
              refine scode_if (b := false) (by simp [go_sem]) (fun h => by cases h) (fun _ => ?_)
              refine scode_seq_k (fun K34 hK34 => ?_)
              refine scode_region (by kernel_rfl) ?_
              simp [go_sem]
              refine hK34 _ _ ?_
              try clear hK34 K34
              refine scode_if (b := true) (by simp [go_sem]) (fun _ => ?_) (fun h => by cases h)
              have s1 := sadd32 x (by omega)
              have s2 := saddW (x ++ [32]) (Lib.itoa e.proto) (by simp; omega) (by omega)
              have s3 := sadd32 ((x ++ [32]) ++ Lib.itoa e.proto) (by simp; omega)
              have s4 := saddW (((x ++ [32]) ++ Lib.itoa e.proto) ++ [32]) (hexL e.b) (by simp; omega) (by omega)
              have hln := line_k2 e hk
              refine scode_drawS mixed (by kernel_rfl) ?_
              refine ws_take 8 (fun K91 hK91 => ?_)
              simp [go_sem, e2, e12, e15, hdr, hb, hrl, hLk, s1, s2]
              refine ⟨_, _, rint_H _ i3 _, rfl, ?_⟩
              try simp [go_sem]
              refine hK91 _ _ ?_
              refine ws_take 8 (fun K92 hK92 => ?_)
              simp only [List.append_assoc, List.cons_append, List.nil_append] at s2 s3 s4
              simp [go_sem, e2, e12, e15, hdr, hb, hrl, hLk, s1, s2, s3, bA]
              refine ⟨_, _, rhex_H _ hse.2 _, rfl, ?_⟩
              try simp [go_sem]
              refine hK92 _ _ ?_
              simp [go_sem, e2, e12, e15, hdr, hb, hrl, hLk, s1, s2, s3, s4]
              simp [go_sem, e2, e12, e15, e11, gk, hLx]
            · skip
              have hLx : L = x ++ [32] ++ Lib.itoa e.n ++ [32] ++ hexL e.b := by rw [← hLd, line_k3 e hk, hxd]
              have hh : hasI e.do_ = 109 := by simp only [hasI, hk]
              rw [hh] at e14
              refine scode_region (by kernel_rfl) ?_
              simp [go_sem, e14]
              refine hK25 _ _ ?_
              try clear hK25 K25
              refine scode_block ?_
              refine scode_seq_k (fun K35 hK35 => ?_)
              refine scode_region (by kernel_rfl) ?_
              simp [go_sem]
              refine hK35 _ _ ?_
              try clear hK35 K35
              refine scode_if (b := false) (by simp [go_sem]) (fun h => by cases h) (fun _ => ?_)
              refine scode_seq_k (fun K36 hK36 => ?_)
              refine scode_region (by kernel_rfl) ?_
              simp [go_sem]
              refine hK36 _ _ ?_
              try clear hK36 K36
              refine scode_if (b := false) (by simp [go_sem]) (fun h => by cases h) (fun _ => ?_)
              refine scode_seq_k (fun K37 hK37 => ?_)
              refine scode_region (by kernel_rfl) ?_
              simp [go_sem]
              refine hK37 _ _ ?_
              try clear hK37 K37
              refine scode_if (b := false) (by simp [go_sem]) (fun h => by cases h) (fun _ => ?_)
              refine scode_seq_k (fun K38 hK38 => ?_)
              refine scode_region (by kernel_rfl) ?_
              simp [go_sem]
              refine hK38 _ _ ?_
              try clear hK38 K38
              refine scode_if (b := true) (by simp [go_sem]) (fun _ => ?_) (fun h => by cases h)
              have s1 := sadd32 x (by omega)
              have s2 := saddW (x ++ [32]) (Lib.itoa e.n) (by simp; omega) (by omega)
              have s3 := sadd32 ((x ++ [32]) ++ Lib.itoa e.n) (by simp; omega)
              have s4 := saddW (((x ++ [32]) ++ Lib.itoa e.n) ++ [32]) (hexL e.b) (by simp; omega) (by omega)
              have hln := line_k3 e hk
              refine scode_drawS mixed (by kernel_rfl) ?_
              refine ws_take 8 (fun K91 hK91 => ?_)
              simp [go_sem, e2, e12, e15, hdr, hb, hrl, hLk, s1, s2]
              refine ⟨_, _, rint_H _ i2 _, rfl, ?_⟩
              try simp [go_sem]
              refine hK91 _ _ ?_
              refine ws_take 8 (fun K92 hK92 => ?_)
              simp only [List.append_assoc, List.cons_append, List.nil_append] at s2 s3 s4
              simp [go_sem, e2, e12, e15, hdr, hb, hrl, hLk, s1, s2, s3, bA]
              refine ⟨_, _, rhex_H _ hse.2 _, rfl, ?_⟩
              try simp [go_sem]
              refine hK92 _ _ ?_
              simp [go_sem, e2, e12, e15, hdr, hb, hrl, hLk, s1, s2, s3, s4]
              simp [go_sem, e2, e12, e15, e11, gk, hLx]
            · skip
              have hLx : L = x ++ [32] ++ hexL e.b := by rw [← hLd, line_k4 e hk, hxd]
              have hh : hasI e.do_ = 98 := by simp only [hasI, hk]
              rw [hh] at e14
              refine scode_region (by kernel_rfl) ?_
              simp [go_sem, e14]
              refine hK25 _ _ ?_
              try clear hK25 K25
              refine scode_block ?_
              refine scode_seq_k (fun K39 hK39 => ?_)
              refine scode_region (by kernel_rfl) ?_
              simp [go_sem]
              refine hK39 _ _ ?_
              try clear hK39 K39
              refine scode_if (b := false) (by simp [go_sem]) (fun h => by cases h) (fun _ => ?_)
              refine scode_seq_k (fun K40 hK40 => ?_)
              refine scode_region (by kernel_rfl) ?_
              simp [go_sem]
              refine hK40 _ _ ?_
              try clear hK40 K40
              refine scode_if (b := true) (by simp [go_sem]) (fun _ => ?_) (fun h => by cases h)
              have s1 := sadd32 x (by omega)
              have s2 := saddW (x ++ [32]) (hexL e.b) (by simp; omega) (by omega)
              have hln := line_k4 e hk
              refine scode_region (by kernel_rfl) ?_
              refine w_take 8 (fun K41 hK41 => ?_)
              simp [go_sem, e2, e12, e15, hdr, hb, hrl, hLk, s1, s2, bA]
              refine ⟨_, _, rhex_H _ hse.2 _, ?_⟩
              refine hK41 _ _ ?_
              clear hK41 K41
              simp [go_sem, e2, e12, e15, hdr, hb, hrl, hLk, s1, s2, bA]
              simp [go_sem, e2, e12, e15, e11, gk, hLx]
          clear e2 e12 e14 e15 e11 gk
          rintro env H ⟨e2, e12, e15, e11, gk⟩
          have ha := appT wd gk (by omega)
          have hBn : ∀ env : Env, env 11 = .ms H.next 0 (tx.length + wd.length) 1 → BSt (pK a b l (i + 1)) env (H.regrow (some k) (bV tx ++ bV wd)) := by
            intro env h
            have hq : pK a b l (i + 1) = tx ++ wd := by rw [← htx]; exact hsucc.symm
            rw [hq]
            exact BSt.more wd env h
          refine scode_region (by kernel_rfl) ?_
          simp [go_sem, e11, e15, s03, ha]
          refine hK19 _ _ ?_
          try clear hK19 K19
          refine scode_region (by kernel_rfl) ?_
          simp [go_sem, e12]
          have hw := i64_succ i (by omega)
          exact ⟨l.length - (i + 1), by omega, i + 1, rfl, by omega, by simp [go_sem, e2], by simp [go_sem, hw], hBn _ (by simp [go_sem])⟩
        · skip
          have hm : ¬ (tx.length : Int) ≤ 65536 := by omega
          have hex : i = l.length ∨ 65536 < (pK a b l i).length := .inr (by rw [htx]; omega)
          refine scode_region (by kernel_rfl) ?_
          simp [go_sem, e2, e11, e12, hil, hm]
          refine hK18 _ _ ?_
          try clear hK18 K18
          refine scode_if (b := false) (by simp [go_sem]) (fun h => by cases h) (fun _ => ?_)
          refine scode_exit ?_
          exact ⟨i, hi, ⟨k, by simp [go_sem, e11, htx], by rw [htx]; exact gk⟩, hex⟩
        · skip
          have hex : i = l.length ∨ 65536 < (pK a b l i).length := .inl (by omega)
          refine scode_region (by kernel_rfl) ?_
          simp [go_sem, e2, e11, e12, hil]
          refine hK18 _ _ ?_
          try clear hK18 K18
          refine scode_if (b := false) (by simp [go_sem]) (fun h => by cases h) (fun _ => ?_)
          refine scode_exit ?_
          exact ⟨i, hi, ⟨k, by simp [go_sem, e11, htx], by rw [htx]; exact gk⟩, hex⟩
      clear e2 hB
      rintro env H ⟨i, hi, ⟨k, e11, gk⟩, hex⟩
      have hpi : (pK a b l i).length ≤ (printT a b (l.map EvI.toS)).length := by have := printT_take a b (l.map EvI.toS) i; rw [← List.map_take] at this; exact this
      refine scode_seq_k (fun K42 hK42 => ?_)
      refine scode_seq_k (fun K43 hK43 => ?_)
      refine scode_region (by kernel_rfl) ?_
      simp [go_sem, e11]
      refine hK43 _ _ ?_
      try clear hK43 K43
      refine scode_if (b := decide (65536 < ((pK a b l i).length : Int))) (by simp [go_sem]) (fun hb => ?_) (fun hb => ?_)
      · skip
        simp only [decide_eq_true_eq] at hb
        have hres : printR a b (l.map EvI.toS) = ([], 3) := by rw [hr1, if_pos (by omega)]
        refine scode_seq_k (fun K44 hK44 => ?_)
        refine scode_region (by kernel_rfl) ?_
        simp [go_sem]
        refine hK44 _ _ ?_
        try clear hK44 K44
        refine scode_ret ?_
        simp only [go_sem]
        refine hR _ _ ?_
        rw [hres]
        exact ret_plain (by first | (simp [go_sem]; done) | (simp [go_sem]; rfl)) (empty_le _) (Nat.zero_le _) (by simp [go_sem])
      · skip
        simp only [decide_eq_false_iff_not] at hb
        obtain rfl : i = l.length := by omega
        have hpe : pK a b l l.length = printT a b (l.map EvI.toS) := by unfold pK; rw [List.take_length]
        rw [hpe] at hb e11 gk
        have hres : printR a b (l.map EvI.toS) = (printT a b (l.map EvI.toS), 0) := by rw [hr1, if_neg (by omega)]
        refine scode_skip ?_
        refine hK42 _ _ ?_
        try clear hK42 K42
        refine scode_seq_k (fun K45 hK45 => ?_)
        refine scode_freeze_grown 11 e11 (grown_of gk (by rw [bV_length]; omega)) ?_
        refine scode_region (by kernel_rfl) ?_
        simp [go_sem, bV_len, u8s_bV, strOf_bs]
        refine hK45 _ _ ?_
        try clear hK45 K45
        refine scode_ret ?_
        simp only [go_sem]
        refine hR _ _ ?_
        rw [hres]
        exact ret_plain (by first | (simp [go_sem]; done) | (simp [go_sem]; rfl)) (empty_le _) (Nat.zero_le _) (by simp [go_sem])

end Go.Proofs.YtfmpakmigmehkaaGreatDoor
