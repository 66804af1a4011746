/- Contracts: the document's words. -/
import Derived.Test.YtfmpakmigmehkaaGreatDoorS5As
set_option linter.unusedVariables false
set_option linter.unusedSimpArgs false
set_option maxRecDepth 20000
noncomputable section S9S
namespace Go.Proofs.YtfmpakmigmehkaaGreatDoor
open Go Go.Fl Go.Proofs

theorem app_one {P : Program} {H : Heap} {x : AV} {n sz bt : Nat} {cs new zs : List AV} {bo : Option Nat} {t e : TypeId} (ht : P.underlying t = some (.slice e)) (hs : csz P e = some sz) (hb : byt P e = some bt) (hz : zeroC P e = some zs) (hzl : zs.length = sz)
    (hnew : new.length = sz) (hleaf : new.all AV.leaf = true) (hg : grown H sz x = some (n, cs, bo)) (h1 : (n + 1) * bt ≤ 140737488355328) (h2 : n + 1 ≤ 140737488355328) :
    aappend P (H.alloc new) t t x (.ms H.next 0 1 sz) = some (.ms (H.next + 1) 0 (n + 1) sz, (H.alloc new).regrow bo (cs ++ new)) ∧
    grown ((H.alloc new).regrow bo (cs ++ new)) sz (.ms (H.next + 1) 0 (n + 1) sz) = some (n + 1, cs ++ new, some (H.next + 1)) := by
  refine ⟨append_step ht hs hb hz hzl ?_ (grown_alloc hg) h1 h2 hleaf, grown_after (H := H.alloc new) (k := 1) (grown_alloc hg) (by omega)⟩
  unfold source
  rw [ht]
  have : sz ≤ new.length := by omega
  simp [sliceCells, Heap.get_alloc, hnew]
  exact List.take_of_length_le (by omega)
theorem appW {H : Heap} {x : AV} {n : Nat} {cs : List AV} {bo : Option Nat} (w : List UInt8) (hg : grown H 1 x = some (n, cs, bo)) (hn : n ≤ 1000000000) : aappend Tryz.prog (H.alloc [sA w]) 51 51 x (.ms H.next 0 1 1) = some (.ms (H.next + 1) 0 (n + 1) 1, (H.alloc [sA w]).regrow bo (cs ++ [sA w])) ∧
    grown ((H.alloc [sA w]).regrow bo (cs ++ [sA w])) 1 (.ms (H.next + 1) 0 (n + 1) 1) = some (n + 1, cs ++ [sA w], some (H.next + 1)) :=
  app_one (P := Tryz.prog) (new := [sA w]) tU51 tS9 tB9 tZ9 rfl rfl rfl hg (by omega) (by omega)
theorem appB {H : Heap} {x : AV} {n : Nat} {cs : List AV} {bo : Option Nat} (c : Int) (hg : grown H 1 x = some (n, cs, bo)) (hn : n ≤ 1000000000) : aappend Tryz.prog (H.alloc [.sc (.int .u8 c)]) 42 42 x (.ms H.next 0 1 1) = some (.ms (H.next + 1) 0 (n + 1) 1, (H.alloc [.sc (.int .u8 c)]).regrow bo (cs ++ [.sc (.int .u8 c)])) ∧
    grown ((H.alloc [.sc (.int .u8 c)]).regrow bo (cs ++ [.sc (.int .u8 c)])) 1 (.ms (H.next + 1) 0 (n + 1) 1) = some (n + 1, cs ++ [.sc (.int .u8 c)], some (H.next + 1)) :=
  app_one (P := Tryz.prog) (new := [.sc (.int .u8 c)]) tU42 tS5 tB5 tZ5 rfl rfl rfl hg (by omega) (by omega)
theorem froz_vs {H : Heap} {x : AV} {n sz : Nat} {cs : List AV} {bo : Option Nat} (hg : grown H sz x = some (n, cs, bo)) : Froz H (fun b => Heap.empty.next ≤ b) x (.vs n sz cs) := grown_froz hg fun _ _ => Nat.zero_le _

theorem byte_eq {b : UInt8} {n : Nat} (h : ((b.toNat : Int) == (n : Int)) = true) (hn : n < 256) : b = UInt8.ofNat n := by
  have : b.toNat = n := by have := eq_of_beq h; omega
  rw [← this]; simp
theorem byte_ne {b : UInt8} {n : Nat} (h : ((b.toNat : Int) == (n : Int)) = false) (hn : n < 256) : b ≠ UInt8.ofNat n := by
  rintro rfl
  have : (UInt8.ofNat n).toNat = n := by simp; omega
  rw [this] at h
  simp at h

theorem cut_step (c : UInt8) {l : List UInt8} {i from_ : Nat} {b : UInt8} {r : List UInt8} (hi : l.drop i = b :: r) (hf : from_ ≤ i) : ((l.take i).drop from_ ++ [b]) = (l.take (i + 1)).drop from_ := by
  have hlt : i < l.length := by
    rcases Nat.lt_or_ge i l.length with h1 | h1
    · exact h1
    · rw [List.drop_eq_nil_of_le h1] at hi; cases hi
  have e := List.drop_eq_getElem_cons hlt
  rw [hi] at e
  cases e
  rw [List.take_succ_eq_append_getElem hlt, List.drop_append_of_le_length (by simp; omega)]

theorem words_s (l : List UInt8) (hl : l.length ≤ 1000000) : SCalls Tryz.prog 47 [sA l] Heap.empty (wA (pieces 32 l)) Heap.empty := by
  have hcut : cutAt 32 [] l = pieces 32 l := by rw [cutAt_eq, split_pieces]
  refine scalls_of_k (sz := 31) (Tryz.call47) Tryz.func47 rfl (Nat.zero_le _) (by kernel_rfl) (fun R hR => ?_)
  refine scode_seq_k (fun K1 hK1 => ?_)
  refine scode_region (by kernel_rfl) ?_
  simp [go_sem]
  refine hK1 _ _ ?_
  try clear hK1 K1
  refine scode_seq_k (fun K2 hK2 => ?_)
  refine scode_region (by kernel_rfl) ?_
  simp [go_sem]
  refine hK2 _ _ ?_
  try clear hK2 K2
  refine scode_seq_k (fun K3 hK3 => ?_)
  refine scode_region (by kernel_rfl) ?_
  simp [go_sem]
  refine hK3 _ _ ?_
  try clear hK3 K3
  refine scode_seq_k (fun K4 hK4 => ?_)
  refine scode_seq_k (fun K5 hK5 => ?_)
  refine scode_region (by kernel_rfl) ?_
  simp [go_sem]
  refine hK5 _ _ ?_
  try clear hK5 K5
  refine scode_block ?_
  refine scode_loop (Inv := fun n env H => ∃ (i fr : Nat) (done : List (List UInt8)) (x : AV) (bo : Option Nat), n = l.length - i ∧ fr ≤ i ∧ i ≤ l.length ∧ env 0 = sA l ∧ env 3 = x ∧ env 4 = .int fr ∧ env 5 = .int i ∧ grown H 1 x = some (done.length, wV done, bo) ∧ done.length ≤ i ∧ done ++ cutAt 32 ((l.take i).drop fr) (l.drop i) = pieces 32 l) ?_ (n := l.length) (⟨0, 0, [], .nil, none, rfl, by omega, by omega, by simp [go_sem], by simp [go_sem], by simp [go_sem], by simp [go_sem], rfl, by simp, by simpa using hcut⟩)
  rintro n env H ⟨i, fr, done, x, bo, rfl, hfi, hi, e0, e3, e4, e5, hg, hd, hp⟩
  refine scode_seq_k (fun K6 hK6 => ?_)
  refine scode_seq_k (fun K7 hK7 => ?_)
  refine scode_region (by kernel_rfl) ?_
  simp [go_sem, e0, e5]
  refine hK7 _ _ ?_
  try clear hK7 K7
  refine scode_if (b := decide (i < l.length)) (by simp [go_sem]) (fun hb => ?_) (fun hb => ?_)
  · skip
    simp only [decide_eq_true_eq] at hb
    obtain ⟨b, r, g1, g2, g3⟩ := drop_cons hb
    have hat := str_at l .i64 i i b rfl g3
    refine scode_skip ?_
    refine hK6 _ _ ?_
    try clear hK6 K6
    refine scode_seq_k (fun K8 hK8 => ?_)
    refine scode_block ?_
    refine scode_seq_k (fun K9 hK9 => ?_)
    refine scode_region (by kernel_rfl) ?_
    simp [go_sem, e0, e5, hat]
    refine hK9 _ _ ?_
    try clear hK9 K9
    refine scode_if (b := ((b.toNat : Int) == 32)) (by simp [go_sem]) (fun hb => ?_) (fun hb => ?_)
    · skip
      obtain rfl : b = 32 := byte_eq (n := 32) hb (by omega)
      have hnil : (l.take (i + 1)).drop (i + 1) = [] := List.drop_eq_nil_of_le (by rw [List.length_take]; omega)
      have hpT : (done ++ [(l.take i).drop fr]) ++ cutAt 32 ((l.take (i + 1)).drop (i + 1)) (l.drop (i + 1)) = pieces 32 l := by rw [← hp, g1, g2, cutAt, if_pos rfl, hnil]; simp
      have hsl := str_slice l .i64 .i64 fr i fr i rfl rfl hfi hi
      obtain ⟨ha, hg2⟩ := appW ((l.take i).drop fr) hg (by omega)
      refine scode_seq_k (fun K10 hK10 => ?_)
      refine scode_region (by kernel_rfl) ?_
      simp [go_sem, e0, e3, e4, e5, hsl, ha]
      refine hK10 _ _ ?_
      try clear hK10 K10
      refine scode_region (by kernel_rfl) ?_
      simp [go_sem, e5]
      refine hK8 _ _ ?_
      try clear hK8 K8
      refine scode_hide (fun K11 hK11 => ?_)
      refine scode_region (by kernel_rfl) ?_
      simp [go_sem, e5]
      refine hK11 _ _ ?_
      have hw := i64_succ i (by omega)
      first
        | exact ⟨l.length - (i + 1), by omega, i + 1, i + 1, done ++ [(l.take i).drop fr], .ms (H.next + 1) 0 (done.length + 1) 1, some (H.next + 1), rfl, by omega, by omega, by simp [go_sem, e0], by simp [go_sem], by simp [go_sem, hw], by simp [go_sem, hw], by rw [List.length_append, wV_app]; exact hg2, by simp; omega, hpT⟩
        | exact ⟨l.length - (i + 1), by omega, i + 1, fr, done, x, bo, rfl, by omega, by omega, by simp [go_sem, e0], by simp [go_sem, e3], by simp [go_sem, e4], by simp [go_sem, hw], hg, by omega, hpF⟩
    · skip
      have hb32 : b ≠ 32 := byte_ne (n := 32) hb (by omega)
      have hpF : done ++ cutAt 32 ((l.take (i + 1)).drop fr) (l.drop (i + 1)) = pieces 32 l := by rw [← hp, g1, g2, cutAt, if_neg hb32, cut_step 32 g1 hfi]
      refine scode_skip ?_
      refine hK8 _ _ ?_
      try clear hK8 K8
      refine scode_hide (fun K12 hK12 => ?_)
      refine scode_region (by kernel_rfl) ?_
      simp [go_sem, e5]
      refine hK12 _ _ ?_
      have hw := i64_succ i (by omega)
      first
        | exact ⟨l.length - (i + 1), by omega, i + 1, i + 1, done ++ [(l.take i).drop fr], .ms (H.next + 1) 0 (done.length + 1) 1, some (H.next + 1), rfl, by omega, by omega, by simp [go_sem, e0], by simp [go_sem], by simp [go_sem, hw], by simp [go_sem, hw], by rw [List.length_append, wV_app]; exact hg2, by simp; omega, hpT⟩
        | exact ⟨l.length - (i + 1), by omega, i + 1, fr, done, x, bo, rfl, by omega, by omega, by simp [go_sem, e0], by simp [go_sem, e3], by simp [go_sem, e4], by simp [go_sem, hw], hg, by omega, hpF⟩
  · skip
    simp only [decide_eq_false_iff_not] at hb
    obtain rfl : i = l.length := by omega
    refine scode_exit ?_
    refine hK4 _ _ ?_
    try clear hK4 K4
    refine scode_seq_k (fun K13 hK13 => ?_)
    have hsl := str_slice_lo l .i64 fr fr rfl hfi
    obtain ⟨ha, hg2⟩ := appW (l.drop fr) hg (by omega)
    refine scode_region (by kernel_rfl) ?_
    simp [go_sem, e0, e3, e4, e5, hsl, ha]
    refine hK13 _ _ ?_
    try clear hK13 K13
    refine scode_ret ?_
    simp only [go_sem]
    refine hR _ _ ?_
    have hps : pieces 32 l = done ++ [l.drop fr] := by rw [← hp, List.drop_eq_nil_of_le (Nat.le_refl _), List.take_length, cutAt]
    have hln : (pieces 32 l).length = done.length + 1 := by rw [hps]; simp
    refine ret_pure (v := .ms (H.next + 1) 0 (done.length + 1) 1) (by simp [go_sem]) ?_ (empty_le _) (Nat.zero_le _) (by rw [wA_lt]; trivial)
    unfold wA
    rw [hln, hps, wV_app]
    exact froz_vs hg2

end Go.Proofs.YtfmpakmigmehkaaGreatDoor
end S9S

set_option maxRecDepth 20000
noncomputable section S10S
namespace Go.Proofs.YtfmpakmigmehkaaGreatDoor
open Go Go.Fl Go.Proofs

/-- The document's lines of a text, and whether the last one has an end. -/
def lnsV (t : List UInt8) : List (List UInt8) := if (pieces 10 t).getLast?.getD [] = [] then (pieces 10 t).dropLast else pieces 10 t
def lnsE (t : List UInt8) : Bool := decide ((pieces 10 t).getLast?.getD [] = [])

theorem lines_s (l : List UInt8) (hl : l.length ≤ 1000000) : SCalls Tryz.prog 22 [sA l] Heap.empty (.tup [wA (lnsV l), .bool (lnsE l)]) Heap.empty := by
  have hcut : cutAt 10 [] l = pieces 10 l := by rw [cutAt_eq, split_pieces]
  refine scalls_of_k (sz := 37) (Tryz.call22) Tryz.func22 rfl (Nat.zero_le _) (by kernel_rfl) (fun R hR => ?_)
  refine scode_seq_k (fun K1 hK1 => ?_)
  refine scode_region (by kernel_rfl) ?_
  simp [go_sem]
  refine hK1 _ _ ?_
  try clear hK1 K1
  refine scode_seq_k (fun K2 hK2 => ?_)
  refine scode_region (by kernel_rfl) ?_
  simp [go_sem]
  refine hK2 _ _ ?_
  try clear hK2 K2
  refine scode_seq_k (fun K3 hK3 => ?_)
  refine scode_region (by kernel_rfl) ?_
  simp [go_sem]
  refine hK3 _ _ ?_
  try clear hK3 K3
  refine scode_seq_k (fun K4 hK4 => ?_)
  refine scode_seq_k (fun K5 hK5 => ?_)
  refine scode_region (by kernel_rfl) ?_
  simp [go_sem]
  refine hK5 _ _ ?_
  try clear hK5 K5
  refine scode_block ?_
  refine scode_loop (Inv := fun n env H => ∃ (i fr : Nat) (done : List (List UInt8)) (x : AV) (bo : Option Nat), n = l.length - i ∧ fr ≤ i ∧ i ≤ l.length ∧ env 0 = sA l ∧ env 4 = x ∧ env 5 = .int fr ∧ env 6 = .int i ∧ grown H 1 x = some (done.length, wV done, bo) ∧ done.length ≤ i ∧ done ++ cutAt 10 ((l.take i).drop fr) (l.drop i) = pieces 10 l) ?_ (n := l.length) (⟨0, 0, [], .nil, none, rfl, by omega, by omega, by simp [go_sem], by simp [go_sem], by simp [go_sem], by simp [go_sem], rfl, by simp, by simpa using hcut⟩)
  rintro n env H ⟨i, fr, done, x, bo, rfl, hfi, hi, e0, e4, e5, e6, hg, hd, hp⟩
  refine scode_seq_k (fun K6 hK6 => ?_)
  refine scode_seq_k (fun K7 hK7 => ?_)
  refine scode_region (by kernel_rfl) ?_
  simp [go_sem, e0, e6]
  refine hK7 _ _ ?_
  try clear hK7 K7
  refine scode_if (b := decide (i < l.length)) (by simp [go_sem]) (fun hb => ?_) (fun hb => ?_)
  · skip
    simp only [decide_eq_true_eq] at hb
    obtain ⟨b, r, g1, g2, g3⟩ := drop_cons hb
    have hat := str_at l .i64 i i b rfl g3
    refine scode_skip ?_
    refine hK6 _ _ ?_
    try clear hK6 K6
    refine scode_seq_k (fun K8 hK8 => ?_)
    refine scode_block ?_
    refine scode_seq_k (fun K9 hK9 => ?_)
    refine scode_region (by kernel_rfl) ?_
    simp [go_sem, e0, e6, hat]
    refine hK9 _ _ ?_
    try clear hK9 K9
    refine scode_if (b := ((b.toNat : Int) == 10)) (by simp [go_sem]) (fun hb => ?_) (fun hb => ?_)
    · skip
      obtain rfl : b = 10 := byte_eq (n := 10) hb (by omega)
      have hnil : (l.take (i + 1)).drop (i + 1) = [] := List.drop_eq_nil_of_le (by rw [List.length_take]; omega)
      have hpT : (done ++ [(l.take i).drop fr]) ++ cutAt 10 ((l.take (i + 1)).drop (i + 1)) (l.drop (i + 1)) = pieces 10 l := by rw [← hp, g1, g2, cutAt, if_pos rfl, hnil]; simp
      have hsl := str_slice l .i64 .i64 fr i fr i rfl rfl hfi hi
      obtain ⟨ha, hg2⟩ := appW ((l.take i).drop fr) hg (by omega)
      refine scode_seq_k (fun K10 hK10 => ?_)
      refine scode_region (by kernel_rfl) ?_
      simp [go_sem, e0, e4, e5, e6, hsl, ha]
      refine hK10 _ _ ?_
      try clear hK10 K10
      refine scode_region (by kernel_rfl) ?_
      simp [go_sem, e6]
      refine hK8 _ _ ?_
      try clear hK8 K8
      refine scode_hide (fun K11 hK11 => ?_)
      refine scode_region (by kernel_rfl) ?_
      simp [go_sem, e6]
      refine hK11 _ _ ?_
      have hw := i64_succ i (by omega)
      first
        | exact ⟨l.length - (i + 1), by omega, i + 1, i + 1, done ++ [(l.take i).drop fr], .ms (H.next + 1) 0 (done.length + 1) 1, some (H.next + 1), rfl, by omega, by omega, by simp [go_sem, e0], by simp [go_sem], by simp [go_sem, hw], by simp [go_sem, hw], by rw [List.length_append, wV_app]; exact hg2, by simp; omega, hpT⟩
        | exact ⟨l.length - (i + 1), by omega, i + 1, fr, done, x, bo, rfl, by omega, by omega, by simp [go_sem, e0], by simp [go_sem, e4], by simp [go_sem, e5], by simp [go_sem, hw], hg, by omega, hpF⟩
    · skip
      have hb10 : b ≠ 10 := byte_ne (n := 10) hb (by omega)
      have hpF : done ++ cutAt 10 ((l.take (i + 1)).drop fr) (l.drop (i + 1)) = pieces 10 l := by rw [← hp, g1, g2, cutAt, if_neg hb10, cut_step 10 g1 hfi]
      refine scode_skip ?_
      refine hK8 _ _ ?_
      try clear hK8 K8
      refine scode_hide (fun K12 hK12 => ?_)
      refine scode_region (by kernel_rfl) ?_
      simp [go_sem, e6]
      refine hK12 _ _ ?_
      have hw := i64_succ i (by omega)
      first
        | exact ⟨l.length - (i + 1), by omega, i + 1, i + 1, done ++ [(l.take i).drop fr], .ms (H.next + 1) 0 (done.length + 1) 1, some (H.next + 1), rfl, by omega, by omega, by simp [go_sem, e0], by simp [go_sem], by simp [go_sem, hw], by simp [go_sem, hw], by rw [List.length_append, wV_app]; exact hg2, by simp; omega, hpT⟩
        | exact ⟨l.length - (i + 1), by omega, i + 1, fr, done, x, bo, rfl, by omega, by omega, by simp [go_sem, e0], by simp [go_sem, e4], by simp [go_sem, e5], by simp [go_sem, hw], hg, by omega, hpF⟩
  · skip
    simp only [decide_eq_false_iff_not] at hb
    obtain rfl : i = l.length := by omega
    have hps : pieces 10 l = done ++ [l.drop fr] := by rw [← hp, List.drop_eq_nil_of_le (Nat.le_refl _), List.take_length, cutAt]
    refine scode_exit ?_
    refine hK4 _ _ ?_
    try clear hK4 K4
    refine scode_seq_k (fun K13 hK13 => ?_)
    refine scode_seq_k (fun K14 hK14 => ?_)
    refine scode_region (by kernel_rfl) ?_
    simp [go_sem, e0, e5]
    refine hK14 _ _ ?_
    try clear hK14 K14
    refine scode_if (b := decide (fr < l.length)) (by simp [go_sem]) (fun hb => ?_) (fun hb => ?_)
    · skip
      simp only [decide_eq_true_eq] at hb
      have hsl := str_slice_lo l .i64 fr fr rfl hfi
      obtain ⟨ha, hg2⟩ := appW (l.drop fr) hg (by omega)
      have hne : l.drop fr ≠ [] := by intro e; have := congrArg List.length e; simp at this; omega
      refine scode_seq_k (fun K15 hK15 => ?_)
      refine scode_region (by kernel_rfl) ?_
      simp [go_sem, e0, e4, e5, hsl, ha]
      refine hK15 _ _ ?_
      try clear hK15 K15
      refine scode_ret ?_
      simp only [go_sem]
      refine hR _ _ ?_
      have hv : lnsV l = done ++ [l.drop fr] := by unfold lnsV; rw [hps]; simp [hne]
      have he : lnsE l = false := by unfold lnsE; rw [hps]; simp [hne]
      refine ret_pure (v := .tup [.ms (H.next + 1) 0 (done.length + 1) 1, .bool false]) (by simp [go_sem]) ?_ (empty_le _) (Nat.zero_le _) (by simp [go_sem, wA_lt])
      rw [hv, he]
      refine .tupL (.cons ?_ (.cons (.same _) .nil))
      unfold wA
      rw [List.length_append, wV_app]
      exact froz_vs hg2
    · skip
      simp only [decide_eq_false_iff_not] at hb
      have hnil : l.drop fr = [] := List.drop_eq_nil_of_le (by omega)
      refine scode_skip ?_
      refine hK13 _ _ ?_
      try clear hK13 K13
      refine scode_seq_k (fun K16 hK16 => ?_)
      refine scode_region (by kernel_rfl) ?_
      simp [go_sem, e4]
      refine hK16 _ _ ?_
      try clear hK16 K16
      refine scode_ret ?_
      simp only [go_sem]
      refine hR _ _ ?_
      have hv : lnsV l = done := by unfold lnsV; rw [hps]; simp [hnil]
      have he : lnsE l = true := by unfold lnsE; rw [hps]; simp [hnil]
      refine ret_pure (v := .tup [x, .bool true]) (by simp [go_sem]) ?_ (empty_le _) (Nat.zero_le _) (by simp [go_sem, wA_lt])
      rw [hv, he]
      refine .tupL (.cons ?_ (.cons (.same _) .nil))
      unfold wA
      exact froz_vs hg

theorem int_neg (n : Int) (h : inI n) (hn : n < 0) : SCalls Tryz.prog 36 [.sc (.int .i64 n)] Heap.empty (sA (Lib.itoa n)) Heap.empty := by
  have hd := dec_s n.natAbs (by obtain ⟨h1, h2⟩ := h; omega)
  have hc := scalls_frame hd (by simp [go_sem]) (by simp [go_sem]) Heap.empty
  have w1 : IntKind.i64.wrap (n + 1) = n + 1 := IntWalk.i64_in _ (by obtain ⟨h1, h2⟩ := h; omega)
  have w2 : IntKind.i64.wrap (-(n + 1)) = -(n + 1) := IntWalk.i64_in _ (by obtain ⟨h1, h2⟩ := h; omega)
  have w3 : IntKind.u64.wrap (-(n + 1)) = -(n + 1) := u64in _ (by omega) (by obtain ⟨h1, h2⟩ := h; omega)
  have w4 : IntKind.u64.wrap (-(n + 1) + 1) = (n.natAbs : Int) := by rw [u64in _ (by omega) (by obtain ⟨h1, h2⟩ := h; omega)]; omega
  have hit : Lib.itoa n = 45 :: Lib.decDigits n.natAbs := by unfold Lib.itoa; rw [if_pos hn]
  have hl := dec_len64 n.natAbs (by obtain ⟨h1, h2⟩ := h; omega)
  have hadd : srun Tryz.prog (Op.stringOp .add ⟨#[45]⟩ (bs (Lib.decDigits n.natAbs))) = some (.string (bs (45 :: Lib.decDigits n.natAbs))) := srun_sadd Tryz.prog [45] (Lib.decDigits n.natAbs) (by simp; omega)
  rw [hit]
  refine scalls_of_k (sz := 15) (Tryz.call36) Tryz.func36 rfl (Nat.zero_le _) (by kernel_rfl) (fun R hR => ?_)
  refine scode_seq_k (fun K1 hK1 => ?_)
  refine scode_region (by kernel_rfl) ?_
  simp [go_sem]
  refine hK1 _ _ ?_
  try clear hK1 K1
  refine scode_seq_k (fun K2 hK2 => ?_)
  refine scode_seq_k (fun K3 hK3 => ?_)
  refine scode_region (by kernel_rfl) ?_
  simp [go_sem, hn]
  refine hK3 _ _ ?_
  try clear hK3 K3
  refine scode_if (b := true) (by simp [go_sem]) (fun _ => ?_) (fun h => by cases h)
  refine scode_seq_k (fun K4 hK4 => ?_)
  refine scode_region (by kernel_rfl) ?_
  refine w_take 6 (fun K5 hK5 => ?_)
  simp [go_sem, w1, w2, w3, w4, hadd]
  refine ⟨_, _, hc, ?_⟩
  refine hK5 _ _ ?_
  clear hK5 K5
  simp [go_sem, w1, w2, w3, w4, hadd]
  refine hK4 _ _ ?_
  try clear hK4 K4
  refine scode_ret ?_
  simp only [go_sem]
  refine hR _ _ ?_
  exact ret_plain (by simp [go_sem]) (empty_le _) (Nat.zero_le _) (by simp [go_sem])

theorem int_pos (m : Nat) (h : inI m) : SCalls Tryz.prog 36 [.sc (.int .i64 m)] Heap.empty (sA (Lib.decDigits m)) Heap.empty := by
  have hc := dec_s m (by obtain ⟨h1, h2⟩ := h; omega)
  have w1 : IntKind.u64.wrap (m : Int) = (m : Int) := u64in _ (by omega) (by obtain ⟨h1, h2⟩ := h; omega)
  have hn : ¬ (m : Int) < 0 := by omega
  refine scalls_of_k (sz := 15) (Tryz.call36) Tryz.func36 rfl (Nat.zero_le _) (by kernel_rfl) (fun R hR => ?_)
  refine scode_seq_k (fun K1 hK1 => ?_)
  refine scode_region (by kernel_rfl) ?_
  simp [go_sem]
  refine hK1 _ _ ?_
  try clear hK1 K1
  refine scode_seq_k (fun K2 hK2 => ?_)
  refine scode_seq_k (fun K3 hK3 => ?_)
  refine scode_region (by kernel_rfl) ?_
  simp [go_sem, hn]
  refine hK3 _ _ ?_
  try clear hK3 K3
  refine scode_if (b := false) (by simp [go_sem]) (fun h => by cases h) (fun _ => ?_)
  refine scode_skip ?_
  refine hK2 _ _ ?_
  try clear hK2 K2
  refine scode_seq_k (fun K4 hK4 => ?_)
  refine scode_region (by kernel_rfl) ?_
  refine w_take 3 (fun K5 hK5 => ?_)
  simp [go_sem, w1]
  refine ⟨_, _, hc, ?_⟩
  refine hK5 _ _ ?_
  clear hK5 K5
  simp [go_sem, w1]
  refine hK4 _ _ ?_
  try clear hK4 K4
  refine scode_ret ?_
  simp only [go_sem]
  refine hR _ _ ?_
  exact ret_plain (by simp [go_sem]) (empty_le _) (Nat.zero_le _) (by simp [go_sem])

theorem int_s (n : Int) (h : inI n) : SCalls Tryz.prog 36 [.sc (.int .i64 n)] Heap.empty (sA (Lib.itoa n)) Heap.empty := by
  by_cases hn : n < 0
  · exact int_neg n h hn
  · obtain ⟨m, rfl⟩ : ∃ m : Nat, n = m := ⟨n.toNat, by omega⟩
    rw [Lib.itoa_nonneg]
    exact int_pos m h

theorem rflag_a (l : List UInt8) (hz : (l == [48]) = true) : SCalls Tryz.prog 48 [sA l] Heap.empty (.tup [.bool (l == [49]), .bool true]) Heap.empty := by
  refine scalls_of_k (sz := 12) (Tryz.call48) Tryz.func48 rfl (Nat.zero_le _) (by kernel_rfl) (fun R hR => ?_)
  refine scode_seq_k (fun K1 hK1 => ?_)
  refine scode_region (by kernel_rfl) ?_
  simp [go_sem]
  refine hK1 _ _ ?_
  try clear hK1 K1
  refine scode_seq_k (fun K2 hK2 => ?_)
  refine scode_region (by kernel_rfl) ?_
  simp [go_sem, hz]
  refine hK2 _ _ ?_
  try clear hK2 K2
  refine scode_ret ?_
  simp only [go_sem]
  refine hR _ _ ?_
  exact ret_plain (by simp [go_sem]) (empty_le _) (Nat.zero_le _) (by simp [go_sem])

theorem rflag_b (l : List UInt8) (hz : (l == [48]) = false) : SCalls Tryz.prog 48 [sA l] Heap.empty (.tup [.bool (l == [49]), .bool (l == [49])]) Heap.empty := by
  refine scalls_of_k (sz := 12) (Tryz.call48) Tryz.func48 rfl (Nat.zero_le _) (by kernel_rfl) (fun R hR => ?_)
  refine scode_seq_k (fun K1 hK1 => ?_)
  refine scode_region (by kernel_rfl) ?_
  simp [go_sem]
  refine hK1 _ _ ?_
  try clear hK1 K1
  refine scode_seq_k (fun K2 hK2 => ?_)
  refine scode_region (by kernel_rfl) ?_
  simp [go_sem, hz]
  refine hK2 _ _ ?_
  try clear hK2 K2
  refine scode_ret ?_
  simp only [go_sem]
  refine hR _ _ ?_
  exact ret_plain (by simp [go_sem]) (empty_le _) (Nat.zero_le _) (by simp [go_sem])

theorem rflag_s (l : List UInt8) : SCalls Tryz.prog 48 [sA l] Heap.empty (.tup [.bool (l == [49]), .bool (flagV l).isSome]) Heap.empty := by
  cases hz : (l == [48]) with
  | true =>
    have h1 : l = [48] := by simpa using hz
    subst h1
    exact rflag_a _ hz
  | false =>
    have h1 : l ≠ [48] := by simpa using hz
    have h2 : (flagV l).isSome = (l == [49]) := by
      unfold flagV
      rw [if_neg h1]
      by_cases h3 : l = [49]
      · simp [h3]
      · simp [h3]
    rw [h2]
    exact rflag_b l hz
theorem flag_val (l : List UInt8) (b : Bool) (h : flagV l = some b) : (l == [49]) = b := by
  rw [flagV_iff] at h
  subst h
  cases b <;> rfl

end Go.Proofs.YtfmpakmigmehkaaGreatDoor
end S10S
