/- Contracts: bytes of a word and back, the document's. -/
import Derived.Test.YtfmpakmigmehkaaGreatDoorS11
import Derived.Test.YtfmpakmigmehkaaGreatDoorFl43
import Derived.Laws.BitsLemmas
import Derived.Test.YtfmpakmigmehkaaGreatDoorS4
set_option linter.unusedVariables false
set_option linter.unusedSimpArgs false
set_option maxRecDepth 20000
noncomputable section S12S
namespace Go.Proofs.YtfmpakmigmehkaaGreatDoor
open Go Go.Fl Go.Proofs

theorem hex_digI (c : UInt8) : digI c.toNat = match hexV c with | some d => (d : Int) | none => -1 := by
  unfold digI hexV
  by_cases h1 : 48 ≤ c.toNat ∧ c.toNat ≤ 57
  · rw [if_pos (by omega), if_pos h1]; simp only; omega
  · rw [if_neg (by omega), if_neg h1]
    by_cases h2 : 97 ≤ c.toNat ∧ c.toNat ≤ 102
    · rw [if_pos (by omega), if_pos h2]; simp only; omega
    · rw [if_neg (by omega), if_neg h2]
theorem hex_some {c : UInt8} {d : Nat} (h : hexV c = some d) : digI c.toNat = d := by rw [hex_digI, h]
theorem hex_none {c : UInt8} (h : hexV c = none) : digI c.toNat = -1 := by rw [hex_digI, h]
theorem digit_H (x : Int) (H : Heap) : SCalls Tryz.prog 71 [.sc (.int .u8 x)] H (.int (digI x)) H := scalls_frame (digit_s x) (by simp [go_sem]) (by simp [go_sem]) H
theorem two_drop {l : List UInt8} {i : Nat} (h : i < l.length) (he : l.length % 2 = 0) (hi : i % 2 = 0) : ∃ a b r, l.drop i = a :: b :: r ∧ l.drop (i + 2) = r ∧ l[i]? = some a ∧ l[i + 1]? = some b := by
  obtain ⟨a, r, g1, g2, g3⟩ := drop_cons h
  obtain ⟨b, r2, g4, g5, g6⟩ := drop_cons (show i + 1 < l.length by omega)
  exact ⟨a, b, r2, by rw [g1, ← g2, g4], g5, g3, g6⟩
theorem pairs_bad {a b : UInt8} {r : List UInt8} (h : hexV a = none ∨ hexV b = none) : pairsV (a :: b :: r) = none := by
  rcases h with h | h
  · simp [pairsV, h]
  · cases ha : hexV a <;> simp [pairsV, h, ha]
theorem hex_cases (a b : UInt8) : hexV a = none ∨ (∃ x, hexV a = some x ∧ hexV b = none) ∨ ∃ x y, hexV a = some x ∧ hexV b = some y := by
  cases ha : hexV a with
  | none => exact .inl rfl
  | some x => cases hb : hexV b with
    | none => exact .inr (.inl ⟨x, rfl, rfl⟩)
    | some y => exact .inr (.inr ⟨x, y, rfl, rfl⟩)
theorem join16 : ∀ x y : Fin 16, IntKind.u8.wrap (Go.bits .or .i64 (IntKind.i64.wrap ((x.val : Nat) * 16)) (y.val : Nat)) = ((x.val * 16 + y.val : Nat) : Int) := by decide
theorem join16' {x y : Nat} (hx : x < 16) (hy : y < 16) : IntKind.u8.wrap (Go.bits .or .i64 (IntKind.i64.wrap ((x : Int) * 16)) (y : Int)) = ((x * 16 + y : Nat) : Int) := join16 ⟨x, hx⟩ ⟨y, hy⟩

theorem raw_main (l : List UInt8) (hl : l.length ≤ 1000000) (h1 : (l == [45]) = false) (h0 : l ≠ []) (he : l.length % 2 = 0) : SCalls Tryz.prog 49 [sA l] Heap.empty (.tup [bA ((pairsV l).getD []), .bool (pairsV l).isSome]) Heap.empty := by
  have h3 : ((l.length : Int) == 0) = false := by simp; exact h0
  have h4 : ((l.length : Int).tmod 2 != 0) = false := by
    have : (l.length : Int).tmod 2 = ((l.length % 2 : Nat) : Int) := rfl
    rw [this, he]; rfl
  have h5 : (l.length : Int).tmod 2 = 0 := by
    have : (l.length : Int).tmod 2 = ((l.length % 2 : Nat) : Int) := rfl
    rw [this, he]; rfl
  refine scalls_of_k (sz := 49) (Tryz.call49) Tryz.func49 rfl (Nat.zero_le _) (by kernel_rfl) (fun R hR => ?_)
  refine scode_seq_k (fun K1 hK1 => ?_)
  refine scode_region (by kernel_rfl) ?_
  simp [go_sem]
  refine hK1 _ _ ?_
  try clear hK1 K1
  refine scode_seq_k (fun K2 hK2 => ?_)
  refine scode_seq_k (fun K3 hK3 => ?_)
  refine scode_region (by kernel_rfl) ?_
  simp [go_sem, h1]
  refine hK3 _ _ ?_
  try clear hK3 K3
  refine scode_if (b := false) (by simp [go_sem]) (fun h => by cases h) (fun _ => ?_)
  refine scode_skip ?_
  refine hK2 _ _ ?_
  try clear hK2 K2
  refine scode_seq_k (fun K4 hK4 => ?_)
  refine scode_seq_k (fun K5 hK5 => ?_)
  refine scode_region (by kernel_rfl) ?_
  simp [go_sem, h3, h4, h5, h0]
  refine hK5 _ _ ?_
  try clear hK5 K5
  refine scode_if (b := false) (by simp [go_sem]) (fun h => by cases h) (fun _ => ?_)
  refine scode_skip ?_
  refine hK4 _ _ ?_
  try clear hK4 K4
  refine scode_seq_k (fun K6 hK6 => ?_)
  refine scode_region (by kernel_rfl) ?_
  simp [go_sem]
  refine hK6 _ _ ?_
  try clear hK6 K6
  refine scode_seq_k (fun K7 hK7 => ?_)
  refine scode_seq_k (fun K8 hK8 => ?_)
  refine scode_region (by kernel_rfl) ?_
  simp [go_sem]
  refine hK8 _ _ ?_
  try clear hK8 K8
  refine scode_block ?_
  refine scode_loop (Inv := fun n env H => ∃ (i : Nat) (done : List UInt8) (x : AV) (bo : Option Nat), n = l.length - i ∧ i ≤ l.length ∧ i % 2 = 0 ∧ env 0 = sA l ∧ env 4 = x ∧ env 5 = .int i ∧ grown H 1 x = some (done.length, bV done, bo) ∧ done.length ≤ i ∧ pairsV l = (pairsV (l.drop i)).map (done ++ ·)) ?_ (n := l.length) (⟨0, [], .nil, none, rfl, by omega, by omega, by simp [go_sem], by simp [go_sem], by simp [go_sem], rfl, by simp, by simp⟩)
  rintro n env H ⟨i, done, x, bo, rfl, hi, hi2, e0, e4, e5, hg, hd, hp⟩
  refine scode_seq_k (fun K9 hK9 => ?_)
  refine scode_seq_k (fun K10 hK10 => ?_)
  refine scode_region (by kernel_rfl) ?_
  simp [go_sem, e0, e5]
  refine hK10 _ _ ?_
  try clear hK10 K10
  refine scode_if (b := decide (i < l.length)) (by simp [go_sem]) (fun hb => ?_) (fun hb => ?_)
  · skip
    simp only [decide_eq_true_eq] at hb
    obtain ⟨a, b, r, g1, g2, g3, g4⟩ := two_drop hb he hi2
    have hat := str_at l .i64 i i a rfl g3
    have hw1 := i64_succ i (by omega)
    have hat1 := str_at l .i64 ((i + 1 : Nat) : Int) (i + 1) b rfl g4
    obtain ⟨j, hj⟩ : ∃ j, i + 1 = j := ⟨_, rfl⟩
    rw [hj] at hw1 hat1
    refine scode_skip ?_
    refine hK9 _ _ ?_
    try clear hK9 K9
    refine scode_seq_k (fun K11 hK11 => ?_)
    refine scode_block ?_
    refine scode_seq_k (fun K12 hK12 => ?_)
    refine scode_region (by kernel_rfl) ?_
    refine w_take 4 (fun K13 hK13 => ?_)
    simp [go_sem, e0, e5, hat]
    refine ⟨_, _, digit_H _ _, ?_⟩
    refine hK13 _ _ ?_
    clear hK13 K13
    simp [go_sem, e0, e5, hat]
    refine hK12 _ _ ?_
    try clear hK12 K12
    refine scode_seq_k (fun K14 hK14 => ?_)
    refine scode_region (by kernel_rfl) ?_
    refine w_take 5 (fun K15 hK15 => ?_)
    simp [go_sem, e0, e5, hw1, hat1]
    refine ⟨_, _, digit_H _ _, ?_⟩
    refine hK15 _ _ ?_
    clear hK15 K15
    simp [go_sem, e0, e5, hw1, hat1]
    refine hK14 _ _ ?_
    try clear hK14 K14
    refine scode_seq_k (fun K16 hK16 => ?_)
    refine scode_seq_k (fun K17 hK17 => ?_)
    rcases hex_cases a b with ea | ⟨x0, ea, eb⟩ | ⟨x0, y0, ea, eb⟩
    · skip
      refine scode_region (by kernel_rfl) ?_
      simp [go_sem, hex_none ea]
      refine hK17 _ _ ?_
      try clear hK17 K17
      refine scode_if (b := true) (by simp [go_sem]) (fun _ => ?_) (fun h => by cases h)
      refine scode_seq_k (fun K18 hK18 => ?_)
      refine scode_region (by kernel_rfl) ?_
      simp [go_sem]
      refine hK18 _ _ ?_
      try clear hK18 K18
      refine scode_ret ?_
      simp only [go_sem]
      refine hR _ _ ?_
      have hbad : pairsV l = none := by rw [hp, g1, pairs_bad (.inl ea)]; rfl
      rw [hbad]
      exact ret_pure (v := .tup [.nil, .bool false]) (by simp [go_sem]) (.tupL (.cons (.nil 1) (.cons (.same _) .nil))) (empty_le _) (Nat.zero_le _) (by simp [go_sem, bA_lt])
    · skip
      have n1 : ¬ (x0 : Int) < 0 := by omega
      refine scode_region (by kernel_rfl) ?_
      simp [go_sem, hex_none eb, hex_some ea, n1]
      refine hK17 _ _ ?_
      try clear hK17 K17
      refine scode_if (b := true) (by simp [go_sem]) (fun _ => ?_) (fun h => by cases h)
      refine scode_seq_k (fun K19 hK19 => ?_)
      refine scode_region (by kernel_rfl) ?_
      simp [go_sem]
      refine hK19 _ _ ?_
      try clear hK19 K19
      refine scode_ret ?_
      simp only [go_sem]
      refine hR _ _ ?_
      have hbad : pairsV l = none := by rw [hp, g1, pairs_bad (.inr eb)]; rfl
      rw [hbad]
      exact ret_pure (v := .tup [.nil, .bool false]) (by simp [go_sem]) (.tupL (.cons (.nil 1) (.cons (.same _) .nil))) (empty_le _) (Nat.zero_le _) (by simp [go_sem, bA_lt])
    · skip
      have hx := hexV_lt ea
      have hy := hexV_lt eb
      have n1 : ¬ (x0 : Int) < 0 := by omega
      have n2 : ¬ (y0 : Int) < 0 := by omega
      refine scode_region (by kernel_rfl) ?_
      simp [go_sem, hex_some ea, hex_some eb, n1, n2]
      refine hK17 _ _ ?_
      try clear hK17 K17
      refine scode_if (b := false) (by simp [go_sem]) (fun h => by cases h) (fun _ => ?_)
      refine scode_skip ?_
      refine hK16 _ _ ?_
      try clear hK16 K16
      obtain ⟨c, hc⟩ : ∃ c, UInt8.ofNat (x0 * 16 + y0) = c := ⟨_, rfl⟩
      have hj16 : IntKind.u8.wrap (Go.bits .or .i64 (IntKind.i64.wrap ((x0 : Int) * 16)) (y0 : Int)) = (c.toNat : Int) := by rw [join16' hx hy, ← hc]; simp; omega
      obtain ⟨ha, hg2⟩ := appB c.toNat hg (by omega)
      refine scode_region (by kernel_rfl) ?_
      simp [go_sem, e4, hex_some ea, hex_some eb, hj16, ha]
      refine hK11 _ _ ?_
      try clear hK11 K11
      refine scode_hide (fun K20 hK20 => ?_)
      refine scode_region (by kernel_rfl) ?_
      simp [go_sem, e5]
      refine hK20 _ _ ?_
      have hw : IntKind.i64.wrap ((i : Int) + 2) = ((i + 2 : Nat) : Int) := by rw [i64in _ (by omega) (by omega)]; rfl
      refine ⟨l.length - (i + 2), by omega, i + 2, done ++ [c], .ms (H.next + 1) 0 (done.length + 1) 1, some (H.next + 1), rfl, by omega, by omega, by simp [go_sem, e0], by simp [go_sem], by simp [go_sem, hw], by rw [List.length_append, bV_app]; exact hg2, by simp; omega, ?_⟩
      rw [hp, g1, g2, pairsV, ea, eb]
      cases pairsV r with
      | none => rfl
      | some t => simp [hc]
  · skip
    simp only [decide_eq_false_iff_not] at hb
    obtain rfl : i = l.length := by omega
    have hfin : pairsV l = some done := by rw [hp, List.drop_eq_nil_of_le (Nat.le_refl _)]; simp [pairsV]
    refine scode_exit ?_
    refine hK7 _ _ ?_
    try clear hK7 K7
    refine scode_seq_k (fun K21 hK21 => ?_)
    refine scode_region (by kernel_rfl) ?_
    simp [go_sem, e4]
    refine hK21 _ _ ?_
    try clear hK21 K21
    refine scode_ret ?_
    simp only [go_sem]
    refine hR _ _ ?_
    rw [hfin]
    refine ret_pure (v := .tup [x, .bool true]) (by simp [go_sem, e4]) ?_ (empty_le _) (Nat.zero_le _) (by simp [go_sem, bA_lt])
    refine .tupL (.cons ?_ (.cons (.same _) .nil))
    exact froz_vs hg

theorem raw_dash  : SCalls Tryz.prog 49 [sA [45]] Heap.empty (.tup [bA [], .bool true]) Heap.empty := by
  refine scalls_of_k (sz := 49) (Tryz.call49) Tryz.func49 rfl (Nat.zero_le _) (by kernel_rfl) (fun R hR => ?_)
  refine scode_seq_k (fun K1 hK1 => ?_)
  refine scode_region (by kernel_rfl) ?_
  simp [go_sem]
  refine hK1 _ _ ?_
  try clear hK1 K1
  refine scode_seq_k (fun K2 hK2 => ?_)
  refine scode_seq_k (fun K3 hK3 => ?_)
  refine scode_region (by kernel_rfl) ?_
  simp [go_sem]
  refine hK3 _ _ ?_
  try clear hK3 K3
  refine scode_if (b := true) (by simp [go_sem]) (fun _ => ?_) (fun h => by cases h)
  refine scode_seq_k (fun K4 hK4 => ?_)
  refine scode_region (by kernel_rfl) ?_
  simp [go_sem]
  refine hK4 _ _ ?_
  try clear hK4 K4
  refine scode_ret ?_
  simp only [go_sem]
  refine hR _ _ ?_
  exact ret_pure (v := .tup [.nil, .bool true]) (by simp [go_sem]) (.tupL (.cons (.nil 1) (.cons (.same _) .nil))) (empty_le _) (Nat.zero_le _) (by simp [go_sem, bA_lt])

theorem raw_nil  : SCalls Tryz.prog 49 [sA []] Heap.empty (.tup [bA [], .bool false]) Heap.empty := by
  refine scalls_of_k (sz := 49) (Tryz.call49) Tryz.func49 rfl (Nat.zero_le _) (by kernel_rfl) (fun R hR => ?_)
  refine scode_seq_k (fun K1 hK1 => ?_)
  refine scode_region (by kernel_rfl) ?_
  simp [go_sem]
  refine hK1 _ _ ?_
  try clear hK1 K1
  refine scode_seq_k (fun K2 hK2 => ?_)
  refine scode_seq_k (fun K3 hK3 => ?_)
  refine scode_region (by kernel_rfl) ?_
  simp [go_sem]
  refine hK3 _ _ ?_
  try clear hK3 K3
  refine scode_if (b := false) (by simp [go_sem]) (fun h => by cases h) (fun _ => ?_)
  refine scode_skip ?_
  refine hK2 _ _ ?_
  try clear hK2 K2
  refine scode_seq_k (fun K4 hK4 => ?_)
  refine scode_seq_k (fun K5 hK5 => ?_)
  refine scode_region (by kernel_rfl) ?_
  simp [go_sem]
  refine hK5 _ _ ?_
  try clear hK5 K5
  refine scode_if (b := true) (by simp [go_sem]) (fun _ => ?_) (fun h => by cases h)
  refine scode_seq_k (fun K6 hK6 => ?_)
  refine scode_region (by kernel_rfl) ?_
  simp [go_sem]
  refine hK6 _ _ ?_
  try clear hK6 K6
  refine scode_ret ?_
  simp only [go_sem]
  refine hR _ _ ?_
  exact ret_pure (v := .tup [.nil, .bool false]) (by simp [go_sem]) (.tupL (.cons (.nil 1) (.cons (.same _) .nil))) (empty_le _) (Nat.zero_le _) (by simp [go_sem, bA_lt])

theorem raw_odd (l : List UInt8) (h1 : (l == [45]) = false) (h0 : l ≠ []) (he : l.length % 2 = 1) : SCalls Tryz.prog 49 [sA l] Heap.empty (.tup [bA [], .bool false]) Heap.empty := by
  have h3 : ((l.length : Int) == 0) = false := by simp; exact h0
  have h5 : (l.length : Int).tmod 2 = 1 := by
    have : (l.length : Int).tmod 2 = ((l.length % 2 : Nat) : Int) := rfl
    rw [this, he]; rfl
  refine scalls_of_k (sz := 49) (Tryz.call49) Tryz.func49 rfl (Nat.zero_le _) (by kernel_rfl) (fun R hR => ?_)
  refine scode_seq_k (fun K1 hK1 => ?_)
  refine scode_region (by kernel_rfl) ?_
  simp [go_sem]
  refine hK1 _ _ ?_
  try clear hK1 K1
  refine scode_seq_k (fun K2 hK2 => ?_)
  refine scode_seq_k (fun K3 hK3 => ?_)
  refine scode_region (by kernel_rfl) ?_
  simp [go_sem, h1]
  refine hK3 _ _ ?_
  try clear hK3 K3
  refine scode_if (b := false) (by simp [go_sem]) (fun h => by cases h) (fun _ => ?_)
  refine scode_skip ?_
  refine hK2 _ _ ?_
  try clear hK2 K2
  refine scode_seq_k (fun K4 hK4 => ?_)
  refine scode_seq_k (fun K5 hK5 => ?_)
  refine scode_region (by kernel_rfl) ?_
  simp [go_sem, h3, h5, h0]
  refine hK5 _ _ ?_
  try clear hK5 K5
  refine scode_if (b := true) (by simp [go_sem]) (fun _ => ?_) (fun h => by cases h)
  refine scode_seq_k (fun K6 hK6 => ?_)
  refine scode_region (by kernel_rfl) ?_
  simp [go_sem]
  refine hK6 _ _ ?_
  try clear hK6 K6
  refine scode_ret ?_
  simp only [go_sem]
  refine hR _ _ ?_
  exact ret_pure (v := .tup [.nil, .bool false]) (by simp [go_sem]) (.tupL (.cons (.nil 1) (.cons (.same _) .nil))) (empty_le _) (Nat.zero_le _) (by simp [go_sem, bA_lt])

theorem pairs_odd : ∀ (n : Nat) (l : List UInt8), l.length ≤ n → l.length % 2 = 1 → pairsV l = none
  | _, [], _, h => by simp at h
  | _, [_], _, _ => rfl
  | 0, _ :: _ :: _, hn, _ => by simp at hn
  | n + 1, a :: b :: r, hn, h => by
    have ih := pairs_odd n r (by simp at hn; omega) (by simp at h; omega)
    unfold pairsV
    rw [ih]
    cases hexV a <;> cases hexV b <;> rfl
def rawB (l : List UInt8) : AV := .tup [bA ((rawV' l).getD []), .bool (rawV' l).isSome]
theorem raw_s (l : List UInt8) (hl : l.length ≤ 1000000) : SCalls Tryz.prog 49 [sA l] Heap.empty (rawB l) Heap.empty := by
  unfold rawB rawV'
  by_cases h1 : l = [45]
  · subst h1; exact raw_dash
  · have g1 : (l == [45]) = false := by simpa using h1
    rw [if_neg h1]
    by_cases h0 : l = []
    · subst h0; exact raw_nil
    · rw [if_neg h0]
      by_cases he : l.length % 2 = 0
      · exact raw_main l hl g1 h0 he
      · rw [pairs_odd _ l (Nat.le_refl _) (by omega)]
        exact raw_odd l g1 h0 (by omega)

theorem appB2 {H : Heap} {x : AV} {n : Nat} {cs : List AV} {bo : Option Nat} (c d : Int) (hg : grown H 1 x = some (n, cs, bo)) (hn : n ≤ 1000000000) :
    aappend Tryz.prog (H.alloc [.sc (.int .u8 c), .sc (.int .u8 d)]) 42 42 x (.ms H.next 0 2 1) = some (.ms (H.next + 1) 0 (n + 2) 1, (H.alloc [.sc (.int .u8 c), .sc (.int .u8 d)]).regrow bo (cs ++ [.sc (.int .u8 c), .sc (.int .u8 d)])) ∧
    grown ((H.alloc [.sc (.int .u8 c), .sc (.int .u8 d)]).regrow bo (cs ++ [.sc (.int .u8 c), .sc (.int .u8 d)])) 1 (.ms (H.next + 1) 0 (n + 2) 1) = some (n + 2, cs ++ [.sc (.int .u8 c), .sc (.int .u8 d)], some (H.next + 1)) := by
  refine ⟨append_step (P := Tryz.prog) (new := [.sc (.int .u8 c), .sc (.int .u8 d)]) tU42 tS5 tB5 tZ5 rfl ?_ (grown_alloc hg) (by omega) (by omega) rfl, grown_after (H := H.alloc [.sc (.int .u8 c), .sc (.int .u8 d)]) (k := 2) (grown_alloc hg) rfl⟩
  unfold source
  rw [tU42]
  simp [sliceCells, Heap.get_alloc]
theorem pairs_take {b : List UInt8} {i : Nat} {c : UInt8} {r : List UInt8} (h : b.drop i = c :: r) : pairsL (b.take (i + 1)) = pairsL (b.take i) ++ [hexC (c.toNat / 16), hexC (c.toNat % 16)] := by
  have hlt : i < b.length := by
    rcases Nat.lt_or_ge i b.length with h1 | h1
    · exact h1
    · rw [List.drop_eq_nil_of_le h1] at h; cases h
  have e := List.drop_eq_getElem_cons hlt
  rw [h] at e
  cases e
  rw [List.take_succ_eq_append_getElem hlt]
  unfold pairsL
  rw [List.flatMap_append, List.flatMap_singleton]
theorem hexD_ok : ∀ d : Fin 16, hexDs[d.val]? = some (hexC d.val) := by decide
theorem hex_at (k : IntKind) (n : Int) (d : Nat) (hn : n = d) (hd : d < 16) : srun Tryz.prog (Instr.index 9 (.string ⟨#[48, 49, 50, 51, 52, 53, 54, 55, 56, 57, 97, 98, 99, 100, 101, 102]⟩) (.int k n)) = some (.int .u8 (hexC d).toNat) :=
  str_at hexDs k n d _ hn (hexD_ok ⟨d, hd⟩)

theorem and15 (c : UInt8) : Go.bits .and .u8 (c.toNat : Int) 15 = ((c.toNat % 16 : Nat) : Int) := by
  have := bits_mask .u8 8 (by decide) wraps_u8 4 (by decide) (c.toNat : Int) (by omega) (by have := UInt8.toNat_lt c; omega)
  simpa using this

theorem rhex_s (b : List UInt8) (hl : b.length ≤ 1000000) : SCalls Tryz.prog 37 [bA b] Heap.empty (sA (hexL b)) Heap.empty := by
  refine scalls_of_k (sz := 31) (Tryz.call37) Tryz.func37 rfl (Nat.zero_le _) (by kernel_rfl) (fun R hR => ?_)
  refine scode_seq_k (fun K1 hK1 => ?_)
  refine scode_region (by kernel_rfl) ?_
  simp [go_sem]
  refine hK1 _ _ ?_
  try clear hK1 K1
  refine scode_seq_k (fun K2 hK2 => ?_)
  refine scode_seq_k (fun K3 hK3 => ?_)
  refine scode_region (by kernel_rfl) ?_
  simp [go_sem, bA]
  refine hK3 _ _ ?_
  try clear hK3 K3
  refine scode_if (b := ((b.length : Int) == 0)) (by simp [go_sem]) (fun hb => ?_) (fun hb => ?_)
  · skip
    have h0 : b = [] := by simpa using hb
    have hh : hexL b = [45] := by rw [h0]; rfl
    rw [hh] at hR
    refine scode_seq_k (fun K4 hK4 => ?_)
    refine scode_region (by kernel_rfl) ?_
    simp [go_sem]
    refine hK4 _ _ ?_
    try clear hK4 K4
    refine scode_ret ?_
    simp only [go_sem]
    refine hR _ _ ?_
    exact ret_plain (by simp [go_sem]; rfl) (empty_le _) (Nat.zero_le _) (by simp [go_sem])
  · skip
    have h0 : b ≠ [] := by simpa using hb
    have hh : hexL b = pairsL b := by unfold hexL; rw [if_neg h0]
    rw [hh] at hR
    refine scode_skip ?_
    refine hK2 _ _ ?_
    try clear hK2 K2
    refine scode_seq_k (fun K5 hK5 => ?_)
    refine scode_region (by kernel_rfl) ?_
    simp [go_sem]
    refine hK5 _ _ ?_
    try clear hK5 K5
    refine scode_seq_k (fun K6 hK6 => ?_)
    refine scode_seq_k (fun K7 hK7 => ?_)
    refine scode_region (by kernel_rfl) ?_
    simp [go_sem]
    refine hK7 _ _ ?_
    try clear hK7 K7
    refine scode_block ?_
    refine scode_loop (Inv := fun n env H => ∃ (i : Nat) (x : AV) (bo : Option Nat), n = b.length - i ∧ i ≤ b.length ∧ env 0 = bA b ∧ env 3 = x ∧ env 4 = .int i ∧ grown H 1 x = some (2 * i, bV (pairsL (b.take i)), bo)) ?_ (n := b.length) (⟨0, .nil, none, rfl, by omega, by simp [go_sem, bA], by simp [go_sem], by simp [go_sem], rfl⟩)
    rintro n env H ⟨i, x, bo, rfl, hi, e0, e3, e4, hg⟩
    refine scode_seq_k (fun K8 hK8 => ?_)
    refine scode_seq_k (fun K9 hK9 => ?_)
    refine scode_region (by kernel_rfl) ?_
    simp [go_sem, e0, e4, bA]
    refine hK9 _ _ ?_
    try clear hK9 K9
    refine scode_if (b := decide (i < b.length)) (by simp [go_sem]) (fun hb => ?_) (fun hb => ?_)
    · skip
      simp only [decide_eq_true_eq] at hb
      obtain ⟨c, r, g1, g2, g3⟩ := drop_cons hb
      have hc := UInt8.toNat_lt c
      have hrow : (bV b).drop i = .sc (.int .u8 c.toNat) :: bV r := by rw [bV_drop, g1]; rfl
      obtain ⟨ha, hg2⟩ := appB2 (hexC (c.toNat / 16)).toNat (hexC (c.toNat % 16)).toNat hg (by omega)
      have ha1 := hex_at .u8 ((c.toNat : Int) / 16) (c.toNat / 16) rfl (by omega)
      have ha2 := hex_at .u8 (Go.bits .and .u8 c.toNat 15) (c.toNat % 16) (and15 c) (by omega)
      refine scode_skip ?_
      refine hK8 _ _ ?_
      try clear hK8 K8
      refine scode_seq_k (fun K10 hK10 => ?_)
      refine scode_block ?_
      refine scode_draw mixed (by kernel_rfl) (bf := [0, 0, 0, 6, 14, 30, 62, 0, 0, 384, 896, 1920, 3968, 8190, 16383, 32767]) (by kernel_rfl) ?_
      simp [go_sem, e0, e3, e4, bA, hb, bV_len, hrow, befL, ha, ha1, ha2]
      refine hK10 _ _ ?_
      try clear hK10 K10
      refine scode_hide (fun K11 hK11 => ?_)
      refine scode_region (by kernel_rfl) ?_
      simp [go_sem, e4]
      refine hK11 _ _ ?_
      have hw := i64_succ i (by omega)
      exact ⟨b.length - (i + 1), by omega, i + 1, .ms (H.next + 1) 0 (2 * i + 2) 1, some (H.next + 1), rfl, by omega, by simp [go_sem, e0], by simp [go_sem], by simp [go_sem, hw], by rw [pairs_take g1, bV_app]; exact hg2⟩
    · skip
      simp only [decide_eq_false_iff_not] at hb
      obtain rfl : i = b.length := by omega
      rw [List.take_length] at hg
      refine scode_exit ?_
      refine hK6 _ _ ?_
      try clear hK6 K6
      refine scode_seq_k (fun K12 hK12 => ?_)
      refine scode_freeze_grown 3 e3 hg ?_
      refine scode_region (by kernel_rfl) ?_
      simp [go_sem, bV_len, u8s_bV, strOf_bs, pairsL_len]
      refine hK12 _ _ ?_
      try clear hK12 K12
      refine scode_ret ?_
      simp only [go_sem]
      refine hR _ _ ?_
      exact ret_plain (by simp [go_sem]) (empty_le _) (Nat.zero_le _) (by simp [go_sem])

end Go.Proofs.YtfmpakmigmehkaaGreatDoor
end S12S

set_option maxRecDepth 20000
noncomputable section S13S
namespace Go.Proofs.YtfmpakmigmehkaaGreatDoor
open Go Go.Fl Go.Proofs

theorem pairs_ne {b : List UInt8} (h : b ≠ []) : pairsL b ≠ [] := by
  intro e
  have := congrArg List.length e
  rw [pairsL_len] at this
  exact h (List.length_eq_zero_iff.1 (by simp at this; omega))

theorem hex_s (b : List UInt8) (hl : b.length ≤ 1000000) : SCalls Tryz.prog 55 [bA b] Heap.empty (sA (hexL b)) Heap.empty := by
  refine scalls_of_k (sz := 25) (Tryz.call55) Tryz.func55 rfl (Nat.zero_le _) (by kernel_rfl) (fun R hR => ?_)
  refine scode_seq_k (fun K1 hK1 => ?_)
  refine scode_region (by kernel_rfl) ?_
  simp [go_sem]
  refine hK1 _ _ ?_
  try clear hK1 K1
  refine scode_seq_k (fun K2 hK2 => ?_)
  refine scode_seq_k (fun K3 hK3 => ?_)
  refine scode_region (by kernel_rfl) ?_
  simp [go_sem, bA]
  refine hK3 _ _ ?_
  try clear hK3 K3
  refine scode_if (b := ((b.length : Int) == 0)) (by simp [go_sem]) (fun hb => ?_) (fun hb => ?_)
  · skip
    have h0 : b = [] := by simpa using hb
    have hh : hexL b = [45] := by rw [h0]; rfl
    rw [hh] at hR
    refine scode_seq_k (fun K4 hK4 => ?_)
    refine scode_region (by kernel_rfl) ?_
    simp [go_sem]
    refine hK4 _ _ ?_
    try clear hK4 K4
    refine scode_ret ?_
    simp only [go_sem]
    refine hR _ _ ?_
    exact ret_plain (by simp [go_sem]; rfl) (empty_le _) (Nat.zero_le _) (by simp [go_sem])
  · skip
    have h0 : b ≠ [] := by simpa using hb
    have hh : hexL b = pairsL b := by unfold hexL; rw [if_neg h0]
    rw [hh] at hR
    refine scode_skip ?_
    refine hK2 _ _ ?_
    try clear hK2 K2
    refine scode_seq_k (fun K5 hK5 => ?_)
    refine scode_alloc_ty tZ75 (by decide) ?_
    refine hK5 _ _ ?_
    try clear hK5 K5
    refine scode_seq_k (fun K6 hK6 => ?_)
    refine scode_seq_k (fun K7 hK7 => ?_)
    refine scode_less_heap (b := 0) (cs := [.sc (.pointer none), .nil]) (cs' := [.sc (.pointer none), .ty 5 1 .nil]) (by simp [go_sem]) (.cons (.same _) (.cons (.tyNil 5 1) .nil)) ?_
    refine scode_gen (fun env H => env 0 = bA b ∧ env 3 = .ty 75 2 (.ptr 0 0) ∧ Bld H 0 []) ⟨by simp [go_sem, bA], by simp [go_sem], bld_fresh (by simp [go_sem])⟩ ?_
    rintro env H ⟨e0, e3, hB⟩
    refine scode_region (by kernel_rfl) ?_
    simp [go_sem, e0, bA]
    refine hK7 _ _ ?_
    try clear hK7 K7
    refine scode_block ?_
    refine scode_loop (Inv := fun n env H => ∃ i : Nat, n = b.length - i ∧ i ≤ b.length ∧ env 9 = bA b ∧ env 10 = .int b.length ∧ env 11 = .int i ∧ env 3 = .ty 75 2 (.ptr 0 0) ∧ Bld H 0 (pairsL (b.take i))) ?_ (n := b.length) (⟨0, rfl, by omega, by simp [go_sem, bA], by simp [go_sem], by simp [go_sem], by simp [go_sem, e3], hB⟩)
    clear e0 e3 hB
    rintro n env H ⟨i, rfl, hi, e9, e10, e11, e3, hB⟩
    refine scode_seq_k (fun K8 hK8 => ?_)
    refine scode_region (by kernel_rfl) ?_
    simp [go_sem, e10, e11]
    refine hK8 _ _ ?_
    try clear hK8 K8
    refine scode_seq_k (fun K9 hK9 => ?_)
    refine scode_if (b := decide (i < b.length)) (by simp [go_sem]) (fun hb => ?_) (fun hb => ?_)
    · skip
      simp only [decide_eq_true_eq] at hb
      obtain ⟨c, r, g1, g2, g3⟩ := drop_cons hb
      have hc := UInt8.toNat_lt c
      have hrow : (bV b).drop i = .sc (.int .u8 c.toNat) :: bV r := by rw [bV_drop, g1]; rfl
      have hpl : (pairsL (b.take i)).length ≤ 2000000 := by rw [pairsL_len, List.length_take]; omega
      have ha1 := hex_at .u8 ((c.toNat : Int) / 16) (c.toNat / 16) rfl (by omega)
      have ha2 := hex_at .u8 (Go.bits .and .u8 c.toNat 15) (c.toNat % 16) (and15 c) (by omega)
      obtain ⟨H2, c75, hB2⟩ := writeByte_s (hexC (c.toNat / 16)) hB (by omega)
      obtain ⟨H3, c75b, hB3⟩ := writeByte_s (hexC (c.toNat % 16)) hB2 (by simp; omega)
      refine scode_skip ?_
      refine hK9 _ _ ?_
      try clear hK9 K9
      refine scode_seq_k (fun K10 hK10 => ?_)
      refine scode_block ?_
      refine scode_seq_k (fun K11 hK11 => ?_)
      refine scode_region (by kernel_rfl) ?_
      simp [go_sem, e9, e11, bA, hb, bV_len, hrow]
      refine hK11 _ _ ?_
      try clear hK11 K11
      refine scode_seq_k (fun K12 hK12 => ?_)
      refine scode_region (by kernel_rfl) ?_
      simp [go_sem, e3, ha1]
      refine ⟨_, _, c75, ?_⟩
      refine hK12 _ _ ?_
      try clear hK12 K12
      refine scode_region (by kernel_rfl) ?_
      simp [go_sem, e3, ha2]
      refine ⟨_, _, c75b, ?_⟩
      refine hK10 _ _ ?_
      try clear hK10 K10
      refine scode_hide (fun K15 hK15 => ?_)
      refine scode_region (by kernel_rfl) ?_
      simp [go_sem, e11]
      refine hK15 _ _ ?_
      have hw := i64_succ i (by omega)
      exact ⟨b.length - (i + 1), by omega, i + 1, rfl, by omega, by simp [go_sem, e9], by simp [go_sem, e10], by simp [go_sem, hw], by simp [go_sem, e3], by rw [pairs_take g1]; simpa using hB3⟩
    · skip
      simp only [decide_eq_false_iff_not] at hb
      obtain rfl : i = b.length := by omega
      rw [List.take_length] at hB
      obtain ⟨H4, c32⟩ := bstring_s hB (pairs_ne h0) (by rw [pairsL_len]; omega)
      refine scode_exit ?_
      refine hK6 _ _ ?_
      try clear hK6 K6
      refine scode_seq_k (fun K16 hK16 => ?_)
      refine scode_region (by kernel_rfl) ?_
      refine w_take 1 (fun K17 hK17 => ?_)
      simp [go_sem, e3]
      refine ⟨_, _, c32, ?_⟩
      refine hK17 _ _ ?_
      clear hK17 K17
      simp [go_sem, e3]
      refine hK16 _ _ ?_
      try clear hK16 K16
      refine scode_ret ?_
      simp only [go_sem]
      refine hR _ _ ?_
      exact ret_plain (by simp [go_sem]) (empty_le _) (Nat.zero_le _) (by simp [go_sem])

end Go.Proofs.YtfmpakmigmehkaaGreatDoor
end S13S
