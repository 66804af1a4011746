/- Contract: row. -/
import Derived.Test.YtfmpakmigmehkaaGreatDoorFl43
import Derived.Test.YtfmpakmigmehkaaGreatDoorS19
import Derived.Test.YtfmpakmigmehkaaGreatDoorS18
set_option linter.unusedVariables false
set_option linter.unusedSimpArgs false
set_option maxRecDepth 20000
noncomputable section
namespace Go.Proofs.YtfmpakmigmehkaaGreatDoor
open Go Go.Fl Go.Proofs

theorem app_many {P : Program} {H : Heap} {x : AV} {n k sz bt : Nat} {cs new zs : List AV} {bo : Option Nat} {t e : TypeId} (ht : P.underlying t = some (.slice e)) (hs : csz P e = some sz) (hb : byt P e = some bt) (hz : zeroC P e = some zs) (hzl : zs.length = sz)
    (hnew : new.length = k * sz) (hleaf : new.all AV.leaf = true) (hg : grown H sz x = some (n, cs, bo)) (h1 : (n + k) * bt ≤ 140737488355328) (h2 : n + k ≤ 140737488355328) :
    aappend P (H.alloc new) t t x (.ms H.next 0 k sz) = some (.ms (H.next + 1) 0 (n + k) sz, (H.alloc new).regrow bo (cs ++ new)) ∧
    grown ((H.alloc new).regrow bo (cs ++ new)) sz (.ms (H.next + 1) 0 (n + k) sz) = some (n + k, cs ++ new, some (H.next + 1)) := by
  refine ⟨append_step ht hs hb hz hzl ?_ (grown_alloc hg) h1 h2 hleaf, grown_after (H := H.alloc new) (k := k) (grown_alloc hg) hnew⟩
  unfold source
  rw [ht]
  have : k * sz ≤ new.length := by omega
  simp [sliceCells, Heap.get_alloc, hnew]
  exact List.take_of_length_le (by omega)
theorem appW2 {H : Heap} {x : AV} {n : Nat} {cs : List AV} {bo : Option Nat} (w v : List UInt8) (hg : grown H 1 x = some (n, cs, bo)) (hn : n ≤ 1000000000) : aappend Tryz.prog (H.alloc [sA w, sA v]) 51 51 x (.ms H.next 0 2 1) = some (.ms (H.next + 1) 0 (n + 2) 1, (H.alloc [sA w, sA v]).regrow bo (cs ++ [sA w, sA v])) ∧
    grown ((H.alloc [sA w, sA v]).regrow bo (cs ++ [sA w, sA v])) 1 (.ms (H.next + 1) 0 (n + 2) 1) = some (n + 2, cs ++ [sA w, sA v], some (H.next + 1)) :=
  app_many (P := Tryz.prog) (new := [sA w, sA v]) tU51 tS9 tB9 tZ9 rfl rfl rfl hg (by omega) (by omega)
theorem eleven (d : Nat) (h : 1 ≤ d ∧ d ≤ 11) : d = 1 ∨ d = 2 ∨ d = 3 ∨ d = 4 ∨ d = 5 ∨ d = 6 ∨ d = 7 ∨ d = 8 ∨ d = 9 ∨ d = 10 ∨ d = 11 := by omega

theorem row_s (e : EvS) (hd : 1 ≤ e.do_ ∧ e.do_ ≤ 11) (hi : e.ints) (hb : e.b.length ≤ 1000000) : SCalls Tryz.prog 31 [.agg (evC e)] Heap.empty (sA (e.line ++ [10])) Heap.empty := by
  obtain ⟨d, en, n, p, b⟩ := e
  simp only [EvS.ints] at hi
  have hlen : (EvS.line ⟨d, en, n, p, b⟩).length ≤ 5000000 := Nat.le_trans (ev_line_len _ hi) (by simp only at hb ⊢; omega)
  have hadd : srun Tryz.prog (Op.stringOp .add (bs (EvS.line ⟨d, en, n, p, b⟩)) ⟨#[10]⟩) = some (.string (bs (EvS.line ⟨d, en, n, p, b⟩ ++ [10]))) := srun_sadd Tryz.prog _ [10] (by simp; omega)
  have hw : (EvS.words ⟨d, en, n, p, b⟩).length ≤ 100 := by unfold EvS.words EvS.tail; simp only; split <;> simp
  have cj : ∀ H, SCalls Tryz.prog 53 [.vs (EvS.words ⟨d, en, n, p, b⟩).length 1 (wV (EvS.words ⟨d, en, n, p, b⟩)), sA [32]] H (sA (EvS.line ⟨d, en, n, p, b⟩)) H := join_s (EvS.words ⟨d, en, n, p, b⟩) hw (Nat.le_trans hlen (by omega))
  have cn := name_H (d : Int)
  simp only at hd hb
  refine scalls_of_k (sz := 55) (Tryz.call31) Tryz.func31 rfl (Nat.zero_le _) (by kernel_rfl) (fun R hR => ?_)
  refine scode_seq_k (fun K1 hK1 => ?_)
  refine scode_region (by kernel_rfl) ?_
  simp [go_sem, evC]
  refine hK1 _ _ ?_
  try clear hK1 K1
  refine scode_seq_mid (fun env H => env 1 = .ptr 0 0 ∧ env 3 = .ms 1 0 2 1 ∧ H.get 0 = some [.int d, .int en, .int n, .int p, bA b] ∧ H.get 1 = some [sA (nmI d), sA (Lib.itoa en)] ∧ H.next = 2) ?_ ?_
  · skip
    refine scode_drawST (bf := [0, 1, 3, 0, 8, 31, 63, 127]) 6 mixed (by kernel_rfl) (by kernel_rfl) (by kernel_rfl) (fun K99 hK99 => ?_)
    refine ws_take 3 (fun K91 hK91 => ?_)
    simp [go_sem, evC]
    refine ⟨_, _, cn _, rfl, ?_⟩
    try simp [go_sem]
    refine hK91 _ _ ?_
    simp [go_sem, evC]
    refine ⟨_, _, itoa_s _ hi.1 _, rfl, ?_⟩
    try simp [go_sem]
    refine hK99 _ _ ?_
    simp [go_sem, evC]
  rintro env H ⟨e1, e3, g0, g1, hn⟩
  have hg := grown_of (H := H) (sz := 1) (n := 2) g1 rfl
  refine scode_seq_mid (fun env H => ∃ k x, env 3 = x ∧ grown H 1 x = some ((EvS.words ⟨d, en, n, p, b⟩).length, wV (EvS.words ⟨d, en, n, p, b⟩), some k)) ?_ ?_
  · skip
    refine scode_seq_k (fun K4 hK4 => ?_)
    refine scode_region (by kernel_rfl) ?_
    simp [go_sem, e1, g0]
    refine hK4 _ _ ?_
    try clear hK4 K4
    refine scode_block ?_
    refine scode_seq_k (fun K5 hK5 => ?_)
    refine scode_block ?_
    refine scode_seq_k (fun K6 hK6 => ?_)
    refine scode_block ?_
    refine scode_seq_k (fun K7 hK7 => ?_)
    refine scode_block ?_
    refine scode_seq_k (fun K8 hK8 => ?_)
    refine scode_block ?_
    refine scode_seq_k (fun K9 hK9 => ?_)
    refine scode_seq_k (fun K10 hK10 => ?_)
    refine scode_seq_k (fun K11 hK11 => ?_)
    refine scode_seq_k (fun K12 hK12 => ?_)
    rcases eleven d hd with rfl | rfl | rfl | rfl | rfl | rfl | rfl | rfl | rfl | rfl | rfl
    · skip
      refine scode_region (by kernel_rfl) ?_
      simp [go_sem]
      refine hK12 _ _ ?_
      try clear hK12 K12
      refine scode_if (b := false) (by simp [go_sem]) (fun h => by cases h) (fun _ => ?_)
      refine scode_seq_k (fun K13 hK13 => ?_)
      refine scode_region (by kernel_rfl) ?_
      simp [go_sem]
      refine hK13 _ _ ?_
      try clear hK13 K13
      refine scode_if (b := false) (by simp [go_sem]) (fun h => by cases h) (fun _ => ?_)
      refine scode_seq_k (fun K14 hK14 => ?_)
      refine scode_region (by kernel_rfl) ?_
      simp [go_sem]
      refine hK14 _ _ ?_
      try clear hK14 K14
      refine scode_if (b := false) (by simp [go_sem]) (fun h => by cases h) (fun _ => ?_)
      refine scode_region (by kernel_rfl) ?_
      simp [go_sem]
      refine hK11 _ _ ?_
      try clear hK11 K11
      refine scode_if (b := false) (by simp [go_sem]) (fun h => by cases h) (fun _ => ?_)
      refine scode_skip ?_
      refine hK10 _ _ ?_
      try clear hK10 K10
      refine scode_seq_k (fun K15 hK15 => ?_)
      refine scode_seq_k (fun K16 hK16 => ?_)
      refine scode_region (by kernel_rfl) ?_
      simp [go_sem]
      refine hK16 _ _ ?_
      try clear hK16 K16
      refine scode_if (b := false) (by simp [go_sem]) (fun h => by cases h) (fun _ => ?_)
      refine scode_skip ?_
      refine hK15 _ _ ?_
      try clear hK15 K15
      refine scode_seq_k (fun K17 hK17 => ?_)
      refine scode_seq_k (fun K18 hK18 => ?_)
      refine scode_region (by kernel_rfl) ?_
      simp [go_sem]
      refine hK18 _ _ ?_
      try clear hK18 K18
      refine scode_if (b := false) (by simp [go_sem]) (fun h => by cases h) (fun _ => ?_)
      refine scode_skip ?_
      refine hK17 _ _ ?_
      try clear hK17 K17
      refine scode_seq_k (fun K19 hK19 => ?_)
      refine scode_seq_k (fun K20 hK20 => ?_)
      refine scode_region (by kernel_rfl) ?_
      simp [go_sem]
      refine hK20 _ _ ?_
      try clear hK20 K20
      refine scode_if (b := false) (by simp [go_sem]) (fun h => by cases h) (fun _ => ?_)
      refine scode_region (by kernel_rfl) ?_
      simp [go_sem]
      refine hK19 _ _ ?_
      try clear hK19 K19
      refine scode_if (b := false) (by simp [go_sem]) (fun h => by cases h) (fun _ => ?_)
      refine scode_skip ?_
      refine hK9 _ _ ?_
      try clear hK9 K9
      refine scode_exit ?_
      first | exact ⟨_, _, by simp [go_sem], hg2⟩ | exact ⟨_, _, by simp [go_sem, e3], hg⟩
    · skip
      refine scode_region (by kernel_rfl) ?_
      simp [go_sem]
      refine hK12 _ _ ?_
      try clear hK12 K12
      refine scode_if (b := false) (by simp [go_sem]) (fun h => by cases h) (fun _ => ?_)
      refine scode_seq_k (fun K21 hK21 => ?_)
      refine scode_region (by kernel_rfl) ?_
      simp [go_sem]
      refine hK21 _ _ ?_
      try clear hK21 K21
      refine scode_if (b := false) (by simp [go_sem]) (fun h => by cases h) (fun _ => ?_)
      refine scode_seq_k (fun K22 hK22 => ?_)
      refine scode_region (by kernel_rfl) ?_
      simp [go_sem]
      refine hK22 _ _ ?_
      try clear hK22 K22
      refine scode_if (b := false) (by simp [go_sem]) (fun h => by cases h) (fun _ => ?_)
      refine scode_region (by kernel_rfl) ?_
      simp [go_sem]
      refine hK11 _ _ ?_
      try clear hK11 K11
      refine scode_if (b := false) (by simp [go_sem]) (fun h => by cases h) (fun _ => ?_)
      refine scode_skip ?_
      refine hK10 _ _ ?_
      try clear hK10 K10
      refine scode_seq_k (fun K23 hK23 => ?_)
      refine scode_seq_k (fun K24 hK24 => ?_)
      refine scode_region (by kernel_rfl) ?_
      simp [go_sem]
      refine hK24 _ _ ?_
      try clear hK24 K24
      refine scode_if (b := false) (by simp [go_sem]) (fun h => by cases h) (fun _ => ?_)
      refine scode_skip ?_
      refine hK23 _ _ ?_
      try clear hK23 K23
      refine scode_seq_k (fun K25 hK25 => ?_)
      refine scode_seq_k (fun K26 hK26 => ?_)
      refine scode_region (by kernel_rfl) ?_
      simp [go_sem]
      refine hK26 _ _ ?_
      try clear hK26 K26
      refine scode_if (b := false) (by simp [go_sem]) (fun h => by cases h) (fun _ => ?_)
      refine scode_skip ?_
      refine hK25 _ _ ?_
      try clear hK25 K25
      refine scode_seq_k (fun K27 hK27 => ?_)
      refine scode_seq_k (fun K28 hK28 => ?_)
      refine scode_region (by kernel_rfl) ?_
      simp [go_sem]
      refine hK28 _ _ ?_
      try clear hK28 K28
      refine scode_if (b := false) (by simp [go_sem]) (fun h => by cases h) (fun _ => ?_)
      refine scode_region (by kernel_rfl) ?_
      simp [go_sem]
      refine hK27 _ _ ?_
      try clear hK27 K27
      refine scode_if (b := false) (by simp [go_sem]) (fun h => by cases h) (fun _ => ?_)
      refine scode_skip ?_
      refine hK9 _ _ ?_
      try clear hK9 K9
      refine scode_exit ?_
      first | exact ⟨_, _, by simp [go_sem], hg2⟩ | exact ⟨_, _, by simp [go_sem, e3], hg⟩
    · skip
      refine scode_region (by kernel_rfl) ?_
      simp [go_sem]
      refine hK12 _ _ ?_
      try clear hK12 K12
      refine scode_if (b := false) (by simp [go_sem]) (fun h => by cases h) (fun _ => ?_)
      refine scode_seq_k (fun K29 hK29 => ?_)
      refine scode_region (by kernel_rfl) ?_
      simp [go_sem]
      refine hK29 _ _ ?_
      try clear hK29 K29
      refine scode_if (b := false) (by simp [go_sem]) (fun h => by cases h) (fun _ => ?_)
      refine scode_seq_k (fun K30 hK30 => ?_)
      refine scode_region (by kernel_rfl) ?_
      simp [go_sem]
      refine hK30 _ _ ?_
      try clear hK30 K30
      refine scode_if (b := false) (by simp [go_sem]) (fun h => by cases h) (fun _ => ?_)
      refine scode_region (by kernel_rfl) ?_
      simp [go_sem]
      refine hK11 _ _ ?_
      try clear hK11 K11
      refine scode_if (b := false) (by simp [go_sem]) (fun h => by cases h) (fun _ => ?_)
      refine scode_skip ?_
      refine hK10 _ _ ?_
      try clear hK10 K10
      refine scode_seq_k (fun K31 hK31 => ?_)
      refine scode_seq_k (fun K32 hK32 => ?_)
      refine scode_region (by kernel_rfl) ?_
      simp [go_sem]
      refine hK32 _ _ ?_
      try clear hK32 K32
      refine scode_if (b := true) (by simp [go_sem]) (fun _ => ?_) (fun h => by cases h)
      refine scode_exit ?_
      refine hK7 _ _ ?_
      try clear hK7 K7
      refine scode_seq_k (fun K33 hK33 => ?_)
      have hk0 : (1 : Nat) ≠ 0 := by decide
      obtain ⟨ha, hg2⟩ := appW2 (Lib.itoa p) (hexL b) hg (by omega)
      refine scode_drawST (bf := [0, 0, 2, 6, 0, 16, 62, 126, 255, 511]) 7 mixed (by kernel_rfl) (by kernel_rfl) (by kernel_rfl) (fun K99 hK99 => ?_)
      refine ws_take 4 (fun K91 hK91 => ?_)
      simp [go_sem, e1, e3, g0]
      refine ⟨_, _, itoa_s _ hi.2.2 _, rfl, ?_⟩
      try simp [go_sem]
      refine hK91 _ _ ?_
      simp [go_sem, e1, e3, g0]
      refine ⟨_, _, hex_H _ hb _, rfl, ?_⟩
      try simp [go_sem]
      refine hK99 _ _ ?_
      simp [go_sem, e1, e3, g0, ha]
      refine hK33 _ _ ?_
      try clear hK33 K33
      refine scode_exit ?_
      first | exact ⟨_, _, by simp [go_sem], hg2⟩ | exact ⟨_, _, by simp [go_sem, e3], hg⟩
    · skip
      refine scode_region (by kernel_rfl) ?_
      simp [go_sem]
      refine hK12 _ _ ?_
      try clear hK12 K12
      refine scode_if (b := false) (by simp [go_sem]) (fun h => by cases h) (fun _ => ?_)
      refine scode_seq_k (fun K34 hK34 => ?_)
      refine scode_region (by kernel_rfl) ?_
      simp [go_sem]
      refine hK34 _ _ ?_
      try clear hK34 K34
      refine scode_if (b := false) (by simp [go_sem]) (fun h => by cases h) (fun _ => ?_)
      refine scode_seq_k (fun K35 hK35 => ?_)
      refine scode_region (by kernel_rfl) ?_
      simp [go_sem]
      refine hK35 _ _ ?_
      try clear hK35 K35
      refine scode_if (b := false) (by simp [go_sem]) (fun h => by cases h) (fun _ => ?_)
      refine scode_region (by kernel_rfl) ?_
      simp [go_sem]
      refine hK11 _ _ ?_
      try clear hK11 K11
      refine scode_if (b := false) (by simp [go_sem]) (fun h => by cases h) (fun _ => ?_)
      refine scode_skip ?_
      refine hK10 _ _ ?_
      try clear hK10 K10
      refine scode_seq_k (fun K36 hK36 => ?_)
      refine scode_seq_k (fun K37 hK37 => ?_)
      refine scode_region (by kernel_rfl) ?_
      simp [go_sem]
      refine hK37 _ _ ?_
      try clear hK37 K37
      refine scode_if (b := false) (by simp [go_sem]) (fun h => by cases h) (fun _ => ?_)
      refine scode_skip ?_
      refine hK36 _ _ ?_
      try clear hK36 K36
      refine scode_seq_k (fun K38 hK38 => ?_)
      refine scode_seq_k (fun K39 hK39 => ?_)
      refine scode_region (by kernel_rfl) ?_
      simp [go_sem]
      refine hK39 _ _ ?_
      try clear hK39 K39
      refine scode_if (b := false) (by simp [go_sem]) (fun h => by cases h) (fun _ => ?_)
      refine scode_skip ?_
      refine hK38 _ _ ?_
      try clear hK38 K38
      refine scode_seq_k (fun K40 hK40 => ?_)
      refine scode_seq_k (fun K41 hK41 => ?_)
      refine scode_region (by kernel_rfl) ?_
      simp [go_sem]
      refine hK41 _ _ ?_
      try clear hK41 K41
      refine scode_if (b := false) (by simp [go_sem]) (fun h => by cases h) (fun _ => ?_)
      refine scode_region (by kernel_rfl) ?_
      simp [go_sem]
      refine hK40 _ _ ?_
      try clear hK40 K40
      refine scode_if (b := false) (by simp [go_sem]) (fun h => by cases h) (fun _ => ?_)
      refine scode_skip ?_
      refine hK9 _ _ ?_
      try clear hK9 K9
      refine scode_exit ?_
      first | exact ⟨_, _, by simp [go_sem], hg2⟩ | exact ⟨_, _, by simp [go_sem, e3], hg⟩
    · skip
      refine scode_region (by kernel_rfl) ?_
      simp [go_sem]
      refine hK12 _ _ ?_
      try clear hK12 K12
      refine scode_if (b := true) (by simp [go_sem]) (fun _ => ?_) (fun h => by cases h)
      refine scode_skip ?_
      refine hK11 _ _ ?_
      try clear hK11 K11
      refine scode_if (b := true) (by simp [go_sem]) (fun _ => ?_) (fun h => by cases h)
      refine scode_exit ?_
      refine hK8 _ _ ?_
      try clear hK8 K8
      refine scode_seq_k (fun K42 hK42 => ?_)
      have hk0 : (1 : Nat) ≠ 0 := by decide
      obtain ⟨ha, hg2⟩ := appW (Lib.itoa n) hg (by omega)
      refine scode_region (by kernel_rfl) ?_
      refine w_take 4 (fun K43 hK43 => ?_)
      simp [go_sem, e1, e3, g0, ha]
      refine ⟨_, _, itoa_s _ hi.2.1 _, ?_⟩
      refine hK43 _ _ ?_
      clear hK43 K43
      simp [go_sem, e1, e3, g0, ha]
      refine hK42 _ _ ?_
      try clear hK42 K42
      refine scode_exit ?_
      first | exact ⟨_, _, by simp [go_sem], hg2⟩ | exact ⟨_, _, by simp [go_sem, e3], hg⟩
    · skip
      refine scode_region (by kernel_rfl) ?_
      simp [go_sem]
      refine hK12 _ _ ?_
      try clear hK12 K12
      refine scode_if (b := false) (by simp [go_sem]) (fun h => by cases h) (fun _ => ?_)
      refine scode_seq_k (fun K44 hK44 => ?_)
      refine scode_region (by kernel_rfl) ?_
      simp [go_sem]
      refine hK44 _ _ ?_
      try clear hK44 K44
      refine scode_if (b := true) (by simp [go_sem]) (fun _ => ?_) (fun h => by cases h)
      refine scode_skip ?_
      refine hK11 _ _ ?_
      try clear hK11 K11
      refine scode_if (b := true) (by simp [go_sem]) (fun _ => ?_) (fun h => by cases h)
      refine scode_exit ?_
      refine hK8 _ _ ?_
      try clear hK8 K8
      refine scode_seq_k (fun K45 hK45 => ?_)
      have hk0 : (1 : Nat) ≠ 0 := by decide
      obtain ⟨ha, hg2⟩ := appW (Lib.itoa n) hg (by omega)
      refine scode_region (by kernel_rfl) ?_
      refine w_take 4 (fun K46 hK46 => ?_)
      simp [go_sem, e1, e3, g0, ha]
      refine ⟨_, _, itoa_s _ hi.2.1 _, ?_⟩
      refine hK46 _ _ ?_
      clear hK46 K46
      simp [go_sem, e1, e3, g0, ha]
      refine hK45 _ _ ?_
      try clear hK45 K45
      refine scode_exit ?_
      first | exact ⟨_, _, by simp [go_sem], hg2⟩ | exact ⟨_, _, by simp [go_sem, e3], hg⟩
    · skip
      refine scode_region (by kernel_rfl) ?_
      simp [go_sem]
      refine hK12 _ _ ?_
      try clear hK12 K12
      refine scode_if (b := false) (by simp [go_sem]) (fun h => by cases h) (fun _ => ?_)
      refine scode_seq_k (fun K47 hK47 => ?_)
      refine scode_region (by kernel_rfl) ?_
      simp [go_sem]
      refine hK47 _ _ ?_
      try clear hK47 K47
      refine scode_if (b := false) (by simp [go_sem]) (fun h => by cases h) (fun _ => ?_)
      refine scode_seq_k (fun K48 hK48 => ?_)
      refine scode_region (by kernel_rfl) ?_
      simp [go_sem]
      refine hK48 _ _ ?_
      try clear hK48 K48
      refine scode_if (b := true) (by simp [go_sem]) (fun _ => ?_) (fun h => by cases h)
      refine scode_skip ?_
      refine hK11 _ _ ?_
      try clear hK11 K11
      refine scode_if (b := true) (by simp [go_sem]) (fun _ => ?_) (fun h => by cases h)
      refine scode_exit ?_
      refine hK8 _ _ ?_
      try clear hK8 K8
      refine scode_seq_k (fun K49 hK49 => ?_)
      have hk0 : (1 : Nat) ≠ 0 := by decide
      obtain ⟨ha, hg2⟩ := appW (Lib.itoa n) hg (by omega)
      refine scode_region (by kernel_rfl) ?_
      refine w_take 4 (fun K50 hK50 => ?_)
      simp [go_sem, e1, e3, g0, ha]
      refine ⟨_, _, itoa_s _ hi.2.1 _, ?_⟩
      refine hK50 _ _ ?_
      clear hK50 K50
      simp [go_sem, e1, e3, g0, ha]
      refine hK49 _ _ ?_
      try clear hK49 K49
      refine scode_exit ?_
      first | exact ⟨_, _, by simp [go_sem], hg2⟩ | exact ⟨_, _, by simp [go_sem, e3], hg⟩
    · skip
      refine scode_region (by kernel_rfl) ?_
      simp [go_sem]
      refine hK12 _ _ ?_
      try clear hK12 K12
      refine scode_if (b := false) (by simp [go_sem]) (fun h => by cases h) (fun _ => ?_)
      refine scode_seq_k (fun K51 hK51 => ?_)
      refine scode_region (by kernel_rfl) ?_
      simp [go_sem]
      refine hK51 _ _ ?_
      try clear hK51 K51
      refine scode_if (b := false) (by simp [go_sem]) (fun h => by cases h) (fun _ => ?_)
      refine scode_seq_k (fun K52 hK52 => ?_)
      refine scode_region (by kernel_rfl) ?_
      simp [go_sem]
      refine hK52 _ _ ?_
      try clear hK52 K52
      refine scode_if (b := false) (by simp [go_sem]) (fun h => by cases h) (fun _ => ?_)
      refine scode_region (by kernel_rfl) ?_
      simp [go_sem]
      refine hK11 _ _ ?_
      try clear hK11 K11
      refine scode_if (b := true) (by simp [go_sem]) (fun _ => ?_) (fun h => by cases h)
      refine scode_exit ?_
      refine hK8 _ _ ?_
      try clear hK8 K8
      refine scode_seq_k (fun K53 hK53 => ?_)
      have hk0 : (1 : Nat) ≠ 0 := by decide
      obtain ⟨ha, hg2⟩ := appW (Lib.itoa n) hg (by omega)
      refine scode_region (by kernel_rfl) ?_
      refine w_take 4 (fun K54 hK54 => ?_)
      simp [go_sem, e1, e3, g0, ha]
      refine ⟨_, _, itoa_s _ hi.2.1 _, ?_⟩
      refine hK54 _ _ ?_
      clear hK54 K54
      simp [go_sem, e1, e3, g0, ha]
      refine hK53 _ _ ?_
      try clear hK53 K53
      refine scode_exit ?_
      first | exact ⟨_, _, by simp [go_sem], hg2⟩ | exact ⟨_, _, by simp [go_sem, e3], hg⟩
    · skip
      refine scode_region (by kernel_rfl) ?_
      simp [go_sem]
      refine hK12 _ _ ?_
      try clear hK12 K12
      refine scode_if (b := false) (by simp [go_sem]) (fun h => by cases h) (fun _ => ?_)
      refine scode_seq_k (fun K55 hK55 => ?_)
      refine scode_region (by kernel_rfl) ?_
      simp [go_sem]
      refine hK55 _ _ ?_
      try clear hK55 K55
      refine scode_if (b := false) (by simp [go_sem]) (fun h => by cases h) (fun _ => ?_)
      refine scode_seq_k (fun K56 hK56 => ?_)
      refine scode_region (by kernel_rfl) ?_
      simp [go_sem]
      refine hK56 _ _ ?_
      try clear hK56 K56
      refine scode_if (b := false) (by simp [go_sem]) (fun h => by cases h) (fun _ => ?_)
      refine scode_region (by kernel_rfl) ?_
      simp [go_sem]
      refine hK11 _ _ ?_
      try clear hK11 K11
      refine scode_if (b := false) (by simp [go_sem]) (fun h => by cases h) (fun _ => ?_)
      refine scode_skip ?_
      refine hK10 _ _ ?_
      try clear hK10 K10
      refine scode_seq_k (fun K57 hK57 => ?_)
      refine scode_seq_k (fun K58 hK58 => ?_)
      refine scode_region (by kernel_rfl) ?_
      simp [go_sem]
      refine hK58 _ _ ?_
      try clear hK58 K58
      refine scode_if (b := false) (by simp [go_sem]) (fun h => by cases h) (fun _ => ?_)
      refine scode_skip ?_
      refine hK57 _ _ ?_
      try clear hK57 K57
      refine scode_seq_k (fun K59 hK59 => ?_)
      refine scode_seq_k (fun K60 hK60 => ?_)
      refine scode_region (by kernel_rfl) ?_
      simp [go_sem]
      refine hK60 _ _ ?_
      try clear hK60 K60
      refine scode_if (b := true) (by simp [go_sem]) (fun _ => ?_) (fun h => by cases h)
      refine scode_exit ?_
      refine hK6 _ _ ?_
      try clear hK6 K6
      have hk0 : (1 : Nat) ≠ 0 := by decide
      obtain ⟨ha, hg2⟩ := appW (Lib.itoa n) hg (by omega)
      refine scode_region (by kernel_rfl) ?_
      refine w_take 4 (fun K61 hK61 => ?_)
      simp [go_sem, e1, e3, g0, ha]
      refine ⟨_, _, itoa_s _ hi.2.1 _, ?_⟩
      refine hK61 _ _ ?_
      clear hK61 K61
      simp [go_sem, e1, e3, g0, ha]
      refine hK5 _ _ ?_
      try clear hK5 K5
      refine scode_seq_k (fun K62 hK62 => ?_)
      refine scode_gen (fun env H => env 1 = .ptr 0 0 ∧ H.get 0 = some [.int 9, .int en, .int n, .int p, bA b] ∧ ∃ k x, k ≠ 0 ∧ env 3 = x ∧ grown H 1 x = some (3, wV [evName 9, Lib.itoa en, Lib.itoa n], some k)) ?_ ?_
      · exact ⟨by simp [go_sem, e1], get_regrow_other (by rw [Heap.get_alloc, if_neg (by omega)]; exact g0) (by simp), H.next + 1, .ms (H.next + 1) 0 3 1, by omega, by simp [go_sem], hg2⟩
      clear e1 e3 g0 g1 hn hg hg2 ha
      rintro env H ⟨e1, g0, k, x, hk0, e3, hg⟩
      obtain ⟨ha, hg2⟩ := appW (hexL b) hg (by omega)
      refine scode_region (by kernel_rfl) ?_
      refine w_take 4 (fun K63 hK63 => ?_)
      simp [go_sem, e1, e3, g0, ha]
      refine ⟨_, _, hex_H _ hb _, ?_⟩
      refine hK63 _ _ ?_
      clear hK63 K63
      simp [go_sem, e1, e3, g0, ha]
      refine hK62 _ _ ?_
      try clear hK62 K62
      refine scode_exit ?_
      first | exact ⟨_, _, by simp [go_sem], hg2⟩ | exact ⟨_, _, by simp [go_sem, e3], hg⟩
    · skip
      refine scode_region (by kernel_rfl) ?_
      simp [go_sem]
      refine hK12 _ _ ?_
      try clear hK12 K12
      refine scode_if (b := false) (by simp [go_sem]) (fun h => by cases h) (fun _ => ?_)
      refine scode_seq_k (fun K64 hK64 => ?_)
      refine scode_region (by kernel_rfl) ?_
      simp [go_sem]
      refine hK64 _ _ ?_
      try clear hK64 K64
      refine scode_if (b := false) (by simp [go_sem]) (fun h => by cases h) (fun _ => ?_)
      refine scode_seq_k (fun K65 hK65 => ?_)
      refine scode_region (by kernel_rfl) ?_
      simp [go_sem]
      refine hK65 _ _ ?_
      try clear hK65 K65
      refine scode_if (b := false) (by simp [go_sem]) (fun h => by cases h) (fun _ => ?_)
      refine scode_region (by kernel_rfl) ?_
      simp [go_sem]
      refine hK11 _ _ ?_
      try clear hK11 K11
      refine scode_if (b := false) (by simp [go_sem]) (fun h => by cases h) (fun _ => ?_)
      refine scode_skip ?_
      refine hK10 _ _ ?_
      try clear hK10 K10
      refine scode_seq_k (fun K66 hK66 => ?_)
      refine scode_seq_k (fun K67 hK67 => ?_)
      refine scode_region (by kernel_rfl) ?_
      simp [go_sem]
      refine hK67 _ _ ?_
      try clear hK67 K67
      refine scode_if (b := false) (by simp [go_sem]) (fun h => by cases h) (fun _ => ?_)
      refine scode_skip ?_
      refine hK66 _ _ ?_
      try clear hK66 K66
      refine scode_seq_k (fun K68 hK68 => ?_)
      refine scode_seq_k (fun K69 hK69 => ?_)
      refine scode_region (by kernel_rfl) ?_
      simp [go_sem]
      refine hK69 _ _ ?_
      try clear hK69 K69
      refine scode_if (b := false) (by simp [go_sem]) (fun h => by cases h) (fun _ => ?_)
      refine scode_skip ?_
      refine hK68 _ _ ?_
      try clear hK68 K68
      refine scode_seq_k (fun K70 hK70 => ?_)
      refine scode_seq_k (fun K71 hK71 => ?_)
      refine scode_region (by kernel_rfl) ?_
      simp [go_sem]
      refine hK71 _ _ ?_
      try clear hK71 K71
      refine scode_if (b := true) (by simp [go_sem]) (fun _ => ?_) (fun h => by cases h)
      refine scode_skip ?_
      refine hK70 _ _ ?_
      try clear hK70 K70
      refine scode_if (b := true) (by simp [go_sem]) (fun _ => ?_) (fun h => by cases h)
      refine scode_exit ?_
      refine hK5 _ _ ?_
      try clear hK5 K5
      refine scode_seq_k (fun K72 hK72 => ?_)
      have hk0 : (1 : Nat) ≠ 0 := by decide
      obtain ⟨ha, hg2⟩ := appW (hexL b) hg (by omega)
      refine scode_region (by kernel_rfl) ?_
      refine w_take 4 (fun K73 hK73 => ?_)
      simp [go_sem, e1, e3, g0, ha]
      refine ⟨_, _, hex_H _ hb _, ?_⟩
      refine hK73 _ _ ?_
      clear hK73 K73
      simp [go_sem, e1, e3, g0, ha]
      refine hK72 _ _ ?_
      try clear hK72 K72
      refine scode_exit ?_
      first | exact ⟨_, _, by simp [go_sem], hg2⟩ | exact ⟨_, _, by simp [go_sem, e3], hg⟩
    · skip
      refine scode_region (by kernel_rfl) ?_
      simp [go_sem]
      refine hK12 _ _ ?_
      try clear hK12 K12
      refine scode_if (b := false) (by simp [go_sem]) (fun h => by cases h) (fun _ => ?_)
      refine scode_seq_k (fun K74 hK74 => ?_)
      refine scode_region (by kernel_rfl) ?_
      simp [go_sem]
      refine hK74 _ _ ?_
      try clear hK74 K74
      refine scode_if (b := false) (by simp [go_sem]) (fun h => by cases h) (fun _ => ?_)
      refine scode_seq_k (fun K75 hK75 => ?_)
      refine scode_region (by kernel_rfl) ?_
      simp [go_sem]
      refine hK75 _ _ ?_
      try clear hK75 K75
      refine scode_if (b := false) (by simp [go_sem]) (fun h => by cases h) (fun _ => ?_)
      refine scode_region (by kernel_rfl) ?_
      simp [go_sem]
      refine hK11 _ _ ?_
      try clear hK11 K11
      refine scode_if (b := false) (by simp [go_sem]) (fun h => by cases h) (fun _ => ?_)
      refine scode_skip ?_
      refine hK10 _ _ ?_
      try clear hK10 K10
      refine scode_seq_k (fun K76 hK76 => ?_)
      refine scode_seq_k (fun K77 hK77 => ?_)
      refine scode_region (by kernel_rfl) ?_
      simp [go_sem]
      refine hK77 _ _ ?_
      try clear hK77 K77
      refine scode_if (b := false) (by simp [go_sem]) (fun h => by cases h) (fun _ => ?_)
      refine scode_skip ?_
      refine hK76 _ _ ?_
      try clear hK76 K76
      refine scode_seq_k (fun K78 hK78 => ?_)
      refine scode_seq_k (fun K79 hK79 => ?_)
      refine scode_region (by kernel_rfl) ?_
      simp [go_sem]
      refine hK79 _ _ ?_
      try clear hK79 K79
      refine scode_if (b := false) (by simp [go_sem]) (fun h => by cases h) (fun _ => ?_)
      refine scode_skip ?_
      refine hK78 _ _ ?_
      try clear hK78 K78
      refine scode_seq_k (fun K80 hK80 => ?_)
      refine scode_seq_k (fun K81 hK81 => ?_)
      refine scode_region (by kernel_rfl) ?_
      simp [go_sem]
      refine hK81 _ _ ?_
      try clear hK81 K81
      refine scode_if (b := false) (by simp [go_sem]) (fun h => by cases h) (fun _ => ?_)
      refine scode_region (by kernel_rfl) ?_
      simp [go_sem]
      refine hK80 _ _ ?_
      try clear hK80 K80
      refine scode_if (b := true) (by simp [go_sem]) (fun _ => ?_) (fun h => by cases h)
      refine scode_exit ?_
      refine hK5 _ _ ?_
      try clear hK5 K5
      refine scode_seq_k (fun K82 hK82 => ?_)
      have hk0 : (1 : Nat) ≠ 0 := by decide
      obtain ⟨ha, hg2⟩ := appW (hexL b) hg (by omega)
      refine scode_region (by kernel_rfl) ?_
      refine w_take 4 (fun K83 hK83 => ?_)
      simp [go_sem, e1, e3, g0, ha]
      refine ⟨_, _, hex_H _ hb _, ?_⟩
      refine hK83 _ _ ?_
      clear hK83 K83
      simp [go_sem, e1, e3, g0, ha]
      refine hK82 _ _ ?_
      try clear hK82 K82
      refine scode_exit ?_
      first | exact ⟨_, _, by simp [go_sem], hg2⟩ | exact ⟨_, _, by simp [go_sem, e3], hg⟩
  rintro env H ⟨k, x, e3, hg⟩
  refine scode_freeze_grown 3 e3 hg ?_
  refine scode_seq_k (fun K84 hK84 => ?_)
  refine scode_region (by kernel_rfl) ?_
  refine w_take 2 (fun K85 hK85 => ?_)
  simp [go_sem, hadd]
  refine ⟨_, _, cj _, ?_⟩
  refine hK85 _ _ ?_
  clear hK85 K85
  simp [go_sem, hadd]
  refine hK84 _ _ ?_
  try clear hK84 K84
  refine scode_ret ?_
  simp only [go_sem]
  refine hR _ _ ?_
  exact ret_plain (by simp [go_sem]) (empty_le _) (Nat.zero_le _) (by simp [go_sem])

end Go.Proofs.YtfmpakmigmehkaaGreatDoor
