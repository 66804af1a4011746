/- The document's event: what it answers. -/
import Derived.Test.YtfmpakmigmehkaaGreatDoorFl43
import Derived.Test.YtfmpakmigmehkaaGreatDoorS33
set_option linter.unusedVariables false
set_option linter.unusedSimpArgs false
set_option maxRecDepth 20000
noncomputable section S36S
namespace Go.Proofs.YtfmpakmigmehkaaGreatDoor
open Go Go.Fl Go.Proofs

/-- What the document's event answers. -/
def noEv : EvS := ⟨0, 0, 0, 0, []⟩
def rE (l : Word) : EvS × Bool := match evV l with
  | some e => (e, true)
  | none => (noEv, false)
def wantK (k : Nat) : Nat := match k with
  | 1 => 3
  | 2 => 4
  | 3 => 4
  | 4 => 3
  | _ => 2
theorem tail_len {k : Nat} (hk : k ≤ 4) {r : List Word} (h : r.length + 2 ≠ wantK k) : tailV k r = none := by
  match k, hk, r with
  | 0, _, [] => exact absurd rfl h
  | 0, _, _ :: _ => rfl
  | 1, _, [] => rfl
  | 1, _, [_] => exact absurd rfl h
  | 1, _, _ :: _ :: _ => rfl
  | 2, _, [] => rfl
  | 2, _, [_] => rfl
  | 2, _, [_, _] => exact absurd rfl h
  | 2, _, _ :: _ :: _ :: _ => rfl
  | 3, _, [] => rfl
  | 3, _, [_] => rfl
  | 3, _, [_, _] => exact absurd rfl h
  | 3, _, _ :: _ :: _ :: _ => rfl
  | 4, _, [] => rfl
  | 4, _, [_] => exact absurd rfl h
  | 4, _, _ :: _ :: _ => rfl
theorem evV_len {l : Word} {w0 : Word} {ws : List Word} {d : Nat} (hp : pieces 32 l = w0 :: ws) (hd : nameV w0 = some d) (h : ws.length + 1 ≠ wantK (evKind d)) : evV l = none := by
  unfold evV
  rw [hp]
  cases ws with
  | nil => rfl
  | cons x r =>
    simp only [parseEv, hd, Option.bind_some]
    rw [tail_len (kind_le d) (by simpa using h)]
    cases canonV x <;> rfl
theorem evV_miss {l : Word} {w0 : Word} {ws : List Word} (hp : pieces 32 l = w0 :: ws) (hd : nameV w0 = none) : evV l = none := by
  unfold evV
  rw [hp]
  cases ws with
  | nil => rfl
  | cons x r => simp only [parseEv, hd]; rfl
theorem evV_hit {l : Word} {w0 x : Word} {r : List Word} {d : Nat} (hp : pieces 32 l = w0 :: x :: r) (hd : nameV w0 = some d) : evV l = (canonV x).bind fun e => (tailV (evKind d) r).map fun t => ⟨d, e, t.1, t.2.1, t.2.2⟩ := by
  unfold evV
  rw [hp]
  simp only [parseEv, hd]
  rfl
theorem numR_eq (l : Word) : numR l = .tup [.int ((canonV l).getD 0), .bool (canonV l).isSome] := by unfold numR; rw [refNum_eq]
theorem refnum_H (l : Word) (H : Heap) : SCalls Tryz.prog 50 [sA l] H (.tup [.int ((canonV l).getD 0), .bool (canonV l).isSome]) H := numR_eq l ▸ scalls_frame (refnum_s l) (by simp [go_sem]) (by simp [numR, go_sem]) H
theorem raw_H (l : Word) (hl : l.length ≤ 1000000) (H : Heap) : SCalls Tryz.prog 49 [sA l] H (.tup [.vs ((rawV' l).getD []).length 1 (bV ((rawV' l).getD [])), .bool (rawV' l).isSome]) H := scalls_frame (raw_s l hl) (by simp [go_sem]) (by simp [go_sem, bA_lt, rawB]) H

end Go.Proofs.YtfmpakmigmehkaaGreatDoor
end S36S

set_option maxRecDepth 20000
noncomputable section S37S
namespace Go.Proofs.YtfmpakmigmehkaaGreatDoor
open Go Go.Fl Go.Proofs

/-- Whether all is well, and what is answered then. -/
def rE2 (z : Bool) (e : EvS) : EvS × Bool := if z = true then (e, true) else (noEv, false)
theorem rE_none {l : Word} (h : evV l = none) : rE l = (noEv, false) := by unfold rE; rw [h]
theorem rE_k0 {l w0 x1 : Word} {d : Nat} (hp : pieces 32 l = [w0, x1]) (hd : nameV w0 = some d) (hk : evKind d = 0) :
    rE l = rE2 (canonV x1).isSome ⟨d, (canonV x1).getD 0, 0, 0, []⟩ := by
  unfold rE rE2
  rw [evV_hit hp hd, hk]
  cases canonV x1 <;> rfl
theorem rE_k1 {l w0 x1 x2 : Word} {d : Nat} (hp : pieces 32 l = [w0, x1, x2]) (hd : nameV w0 = some d) (hk : evKind d = 1) :
    rE l = rE2 ((canonV x1).isSome && (canonV x2).isSome) ⟨d, (canonV x1).getD 0, (canonV x2).getD 0, 0, []⟩ := by
  unfold rE rE2
  rw [evV_hit hp hd, hk]
  simp only [tailV]
  cases canonV x1 <;> cases canonV x2 <;> rfl
theorem rE_k4 {l w0 x1 x2 : Word} {d : Nat} (hp : pieces 32 l = [w0, x1, x2]) (hd : nameV w0 = some d) (hk : evKind d = 4) :
    rE l = rE2 ((canonV x1).isSome && (rawV' x2).isSome) ⟨d, (canonV x1).getD 0, 0, 0, (rawV' x2).getD []⟩ := by
  unfold rE rE2
  rw [evV_hit hp hd, hk]
  simp only [tailV]
  cases canonV x1 <;> cases rawV' x2 <;> rfl
theorem rE_k2 {l w0 x1 x2 x3 : Word} {d : Nat} (hp : pieces 32 l = [w0, x1, x2, x3]) (hd : nameV w0 = some d) (hk : evKind d = 2) :
    rE l = rE2 ((canonV x1).isSome && (canonV x2).isSome && (rawV' x3).isSome) ⟨d, (canonV x1).getD 0, 0, (canonV x2).getD 0, (rawV' x3).getD []⟩ := by
  unfold rE rE2
  rw [evV_hit hp hd, hk]
  simp only [tailV]
  cases canonV x1 <;> cases canonV x2 <;> cases rawV' x3 <;> rfl
theorem rE_k3 {l w0 x1 x2 x3 : Word} {d : Nat} (hp : pieces 32 l = [w0, x1, x2, x3]) (hd : nameV w0 = some d) (hk : evKind d = 3) :
    rE l = rE2 ((canonV x1).isSome && (canonV x2).isSome && (rawV' x3).isSome) ⟨d, (canonV x1).getD 0, (canonV x2).getD 0, 0, (rawV' x3).getD []⟩ := by
  unfold rE rE2
  rw [evV_hit hp hd, hk]
  simp only [tailV]
  cases canonV x1 <;> cases canonV x2 <;> cases rawV' x3 <;> rfl
/-- The words of a line, the result's cell. -/
def REv (ws : List Word) (env : Env) (H : Heap) : Prop := env 2 = .ptr 0 0 ∧ env 4 = .vs ws.length 1 (wV ws) ∧ H.get 0 = some [.int 0, .int 0, .int 0, .int 0, .nil] ∧ H.next = 1
/-- Behind the switch: what has been read. -/
def RSw (l : Word) (d : Nat) (env : Env) (H : Heap) : Prop := ∃ z1 z2 z3 v1 v2 v3 x b, env 2 = .ptr 0 0 ∧ env 9 = .ptr 1 0 ∧ env 11 = .bool z1 ∧ env 12 = .bool z2 ∧ env 13 = .bool z3 ∧
  H.get 0 = some [.int 0, .int 0, .int 0, .int 0, .nil] ∧ H.get 1 = some [.int d, .int v1, .int v2, .int v3, x] ∧ rE l = rE2 (z1 && z2 && z3) ⟨d, v1, v2, v3, b⟩ ∧ (x = bA b ∨ (x = .nil ∧ b = []))
theorem int_ne (a b : Nat) : ((a : Int) + 1 != (b : Int)) = !decide (a + 1 = b) := by
  by_cases h : a + 1 = b
  · subst h; simp
  · simp [h]; omega
theorem isSome_ex {α : Type} (o : Option α) : ∃ z, o.isSome = z := ⟨_, rfl⟩

set_option maxHeartbeats 4000000 in
theorem revent_s (l : Word) (hl : l.length ≤ 1000000) : SCalls Tryz.prog 24 [sA l] Heap.empty (.tup [.agg (evC (rE l).1), .bool (rE l).2]) Heap.empty := by
  obtain ⟨w0, ws, hp⟩ := pieces_ne 32 l
  have c47 := words_s l hl
  rw [hp] at c47
  unfold wA at c47
  simp only [List.length_cons] at c47
  have hpl : ∀ w ∈ w0 :: ws, w.length ≤ 1000000 := fun w hw => Nat.le_trans (pieces_len 32 l w (by rw [hp]; exact hw)) hl
  refine scalls_of_k (sz := 123) (Tryz.call24) Tryz.func24 rfl (Nat.zero_le _) (by kernel_rfl) (fun R hR => ?_)
  refine scode_seq_k (fun K1 hK1 => ?_)
  refine scode_region (by kernel_rfl) ?_
  simp [go_sem]
  refine hK1 _ _ ?_
  try clear hK1 K1
  refine scode_seq_mid (REv (w0 :: ws)) ?_ ?_
  · skip
    refine scode_region (by kernel_rfl) ?_
    refine w_take 2 (fun K3 hK3 => ?_)
    simp [go_sem]
    refine ⟨_, _, scalls_frame c47 (by simp [go_sem]) (by simp [go_sem, wV]) _, ?_⟩
    refine hK3 _ _ ?_
    clear hK3 K3
    simp [go_sem]
    exact ⟨by simp [go_sem], by simp [go_sem], by simp [go_sem], by simp [go_sem]⟩
  rintro env H ⟨e2, e4, g0, hn⟩
  refine scode_seq_k (fun K4 hK4 => ?_)
  refine scode_seq_k (fun K5 hK5 => ?_)
  refine scode_region (by kernel_rfl) ?_
  simp [go_sem]
  refine hK5 _ _ ?_
  try clear hK5 K5
  refine scode_block ?_
  refine scode_loop (Inv := fun n env H => ∃ k : Nat, n = 12 - k ∧ 1 ≤ k ∧ k ≤ 12 ∧ REv (w0 :: ws) env H ∧ env 5 = .int k ∧ ∀ j, 1 ≤ j → j < k → evName j ≠ w0) ?_ (n := 11) (⟨1, rfl, by omega, by omega, ⟨by simp [go_sem, e2], by simp [go_sem, e4], by simp [go_sem, g0], by simp [go_sem, hn]⟩, by simp [go_sem], fun j h1 h2 => by omega⟩)
  clear e2 e4 g0 hn
  rintro n env H ⟨k, rfl, hk1, hk2, ⟨e2, e4, g0, hn⟩, e5, hno⟩
  refine scode_seq_k (fun K6 hK6 => ?_)
  refine scode_seq_k (fun K7 hK7 => ?_)
  rcases k_cases k w0 hk2 with hk | ⟨hk, hmk⟩ | ⟨hk, hmk⟩
  · skip
    subst hk
    have hres : rE l = (noEv, false) := rE_none (evV_miss hp (by
      cases hn : nameV w0 with
      | none => rfl
      | some d =>
        obtain ⟨⟨h1, h2⟩, h3⟩ := (nameV_iff w0 d).1 hn
        exact absurd h3.symm (hno d h1 (by omega))))
    refine scode_region (by kernel_rfl) ?_
    simp [go_sem, e5]
    refine hK7 _ _ ?_
    try clear hK7 K7
    refine scode_if (b := false) (by simp [go_sem]) (fun h => by cases h) (fun _ => ?_)
    refine scode_exit ?_
    refine hK4 _ _ ?_
    try clear hK4 K4
    refine scode_seq_k (fun K8 hK8 => ?_)
    refine scode_region (by kernel_rfl) ?_
    simp [go_sem, e2, g0]
    refine hK8 _ _ ?_
    try clear hK8 K8
    refine scode_ret ?_
    simp only [go_sem]
    refine hR _ _ ?_
    rw [hres]
    refine ret_pure (v := .tup [.agg [.int 0, .int 0, .int 0, .int 0, .nil], .bool false]) (by simp [go_sem, e2, g0]) ?_ (empty_le _) (Nat.zero_le _) (by simp [go_sem, evC, bA_lt])
    exact .tupL (.cons (froz_ev 0 0 0 0 _ [] (.inr ⟨rfl, rfl⟩)) (.cons (.same _) .nil))
  · skip
    have hd : nameV w0 = some k := (nameV_iff w0 k).2 ⟨⟨hk1, hk⟩, hmk.symm⟩
    clear hno
    have hki : (k : Int) ≤ 11 := by omega
    have hnm : (evName k == w0) = true := by simp [hmk]
    have hnm2 : (w0 == evName k) = true := by simp [hmk]
    refine scode_region (by kernel_rfl) ?_
    simp [go_sem, e5, hki]
    refine hK7 _ _ ?_
    try clear hK7 K7
    refine scode_if (b := true) (by simp [go_sem]) (fun _ => ?_) (fun h => by cases h)
    refine scode_skip ?_
    refine hK6 _ _ ?_
    try clear hK6 K6
    refine scode_seq_k (fun K9 hK9 => ?_)
    refine scode_block ?_
    refine scode_seq_k (fun K10 hK10 => ?_)
    refine scode_region (by kernel_rfl) ?_
    refine w_take 2 (fun K11 hK11 => ?_)
    simp [go_sem, e5]
    refine ⟨_, _, rname_H _ _, ?_⟩
    refine hK11 _ _ ?_
    clear hK11 K11
    simp [go_sem, e5]
    refine hK10 _ _ ?_
    try clear hK10 K10
    refine scode_seq_k (fun K12 hK12 => ?_)
    refine scode_seq_k (fun K13 hK13 => ?_)
    refine scode_region (by kernel_rfl) ?_
    simp [go_sem, e4, wV, nmI, hnm2, hnm]
    refine hK13 _ _ ?_
    try clear hK13 K13
    refine scode_if (b := false) (by simp [go_sem]) (fun h => by cases h) (fun _ => ?_)
    refine scode_skip ?_
    refine hK12 _ _ ?_
    try clear hK12 K12
    refine scode_seq_mid (fun env H => REv (w0 :: ws) env H ∧ env 5 = .int k ∧ env 7 = .sc (.int .u8 (hasI k)) ∧ env 8 = .int 2) ?_ ?_
    · skip
      refine scode_hide (fun K15 hK15 => ?_)
      refine scode_region (by kernel_rfl) ?_
      simp [go_sem]
      refine hK15 _ _ ?_
      exact ⟨⟨by simp [go_sem, e2], by simp [go_sem, e4], by simp [go_sem, g0], by simp [go_sem, hn]⟩, by simp [go_sem, e5], by simp [go_sem], by simp [go_sem]⟩
    clear e2 e4 g0 hn e5
    rintro env H ⟨⟨e2, e4, g0, hn⟩, e5, e7, e8⟩
    refine scode_seq_mid (fun env H => REv (w0 :: ws) env H ∧ env 5 = .int k ∧ env 7 = .sc (.int .u8 (hasI k)) ∧ env 8 = .int (wantK (evKind k))) ?_ ?_
    · skip
      refine scode_seq_k (fun K17 hK17 => ?_)
      refine scode_region (by kernel_rfl) ?_
      simp [go_sem, e7]
      refine hK17 _ _ ?_
      try clear hK17 K17
      refine scode_block ?_
      refine scode_seq_k (fun K18 hK18 => ?_)
      refine scode_seq_k (fun K19 hK19 => ?_)
      refine scode_gen (fun env H => REv (w0 :: ws) env H ∧ env 5 = .int k ∧ env 7 = .sc (.int .u8 (hasI k)) ∧ env 8 = .int 2 ∧ env 30 = .sc (.int .u8 (hasI k))) ⟨⟨by simp [go_sem, e2], by simp [go_sem, e4], by simp [go_sem, g0], by simp [go_sem, hn]⟩, by simp [go_sem, e5], by simp [go_sem, e7], by simp [go_sem, e8], by simp [go_sem, e7]⟩ ?_
      clear e2 e4 g0 hn e5 e7 e8
      rintro env H ⟨⟨e2, e4, g0, hn⟩, e5, e7, e8, e30⟩
      rcases kinds k with hkk | hkk | hkk | hkk | hkk
      · skip
        have hh : hasI (k : Int) = 0 := by simp only [hasI, Int.toNat_natCast, hkk]
        rw [hh] at e30
        refine scode_region (by kernel_rfl) ?_
        simp [go_sem, e30, e30]
        refine hK19 _ _ ?_
        try clear hK19 K19
        refine scode_if (b := false) (by simp [go_sem, e30]) (fun h => by cases h) (fun _ => ?_)
        refine scode_region (by kernel_rfl) ?_
        simp [go_sem, e30]
        refine hK18 _ _ ?_
        try clear hK18 K18
        refine scode_if (b := false) (by simp [go_sem, e30]) (fun h => by cases h) (fun _ => ?_)
        refine scode_seq_k (fun K20 hK20 => ?_)
        refine scode_seq_k (fun K21 hK21 => ?_)
        refine scode_region (by kernel_rfl) ?_
        simp [go_sem, e30]
        refine hK21 _ _ ?_
        try clear hK21 K21
        refine scode_if (b := false) (by simp [go_sem, e30]) (fun h => by cases h) (fun _ => ?_)
        refine scode_hide (fun K22 hK22 => ?_)
        refine scode_region (by kernel_rfl) ?_
        simp [go_sem, e30]
        refine hK22 _ _ ?_
        refine hK20 _ _ ?_
        try clear hK20 K20
        refine scode_if (b := false) (by simp [go_sem, e30]) (fun h => by cases h) (fun _ => ?_)
        refine scode_skip ?_
        exact ⟨⟨by simp [go_sem, e2], by simp [go_sem, e4], by simp [go_sem, g0], by simp [go_sem, hn]⟩, by simp [go_sem, e5], by simp [go_sem, e7, hh], by simp [go_sem, e8, hkk, wantK]⟩
      · skip
        have hh : hasI (k : Int) = 110 := by simp only [hasI, Int.toNat_natCast, hkk]
        rw [hh] at e30
        refine scode_region (by kernel_rfl) ?_
        simp [go_sem, e30, e30]
        refine hK19 _ _ ?_
        try clear hK19 K19
        refine scode_if (b := true) (by simp [go_sem, e30]) (fun _ => ?_) (fun h => by cases h)
        refine scode_skip ?_
        refine hK18 _ _ ?_
        try clear hK18 K18
        refine scode_if (b := true) (by simp [go_sem, e30]) (fun _ => ?_) (fun h => by cases h)
        refine scode_hide (fun K23 hK23 => ?_)
        refine scode_region (by kernel_rfl) ?_
        simp [go_sem, e30]
        refine hK23 _ _ ?_
        exact ⟨⟨by simp [go_sem, e2], by simp [go_sem, e4], by simp [go_sem, g0], by simp [go_sem, hn]⟩, by simp [go_sem, e5], by simp [go_sem, e7, hh], by simp [go_sem, e8, hkk, wantK]⟩
      · skip
        have hh : hasI (k : Int) = 112 := by simp only [hasI, Int.toNat_natCast, hkk]
        rw [hh] at e30
        refine scode_region (by kernel_rfl) ?_
        simp [go_sem, e30, e30]
        refine hK19 _ _ ?_
        try clear hK19 K19
        refine scode_if (b := false) (by simp [go_sem, e30]) (fun h => by cases h) (fun _ => ?_)
        refine scode_region (by kernel_rfl) ?_
        simp [go_sem, e30]
        refine hK18 _ _ ?_
        try clear hK18 K18
        refine scode_if (b := false) (by simp [go_sem, e30]) (fun h => by cases h) (fun _ => ?_)
        refine scode_seq_k (fun K24 hK24 => ?_)
        refine scode_seq_k (fun K25 hK25 => ?_)
        refine scode_region (by kernel_rfl) ?_
        simp [go_sem, e30]
        refine hK25 _ _ ?_
        try clear hK25 K25
        refine scode_if (b := true) (by simp [go_sem, e30]) (fun _ => ?_) (fun h => by cases h)
        refine scode_skip ?_
        refine hK24 _ _ ?_
        try clear hK24 K24
        refine scode_if (b := true) (by simp [go_sem, e30]) (fun _ => ?_) (fun h => by cases h)
        refine scode_hide (fun K26 hK26 => ?_)
        refine scode_region (by kernel_rfl) ?_
        simp [go_sem, e30]
        refine hK26 _ _ ?_
        exact ⟨⟨by simp [go_sem, e2], by simp [go_sem, e4], by simp [go_sem, g0], by simp [go_sem, hn]⟩, by simp [go_sem, e5], by simp [go_sem, e7, hh], by simp [go_sem, e8, hkk, wantK]⟩
      · skip
        have hh : hasI (k : Int) = 109 := by simp only [hasI, Int.toNat_natCast, hkk]
        rw [hh] at e30
        refine scode_region (by kernel_rfl) ?_
        simp [go_sem, e30, e30]
        refine hK19 _ _ ?_
        try clear hK19 K19
        refine scode_if (b := false) (by simp [go_sem, e30]) (fun h => by cases h) (fun _ => ?_)
        refine scode_region (by kernel_rfl) ?_
        simp [go_sem, e30]
        refine hK18 _ _ ?_
        try clear hK18 K18
        refine scode_if (b := false) (by simp [go_sem, e30]) (fun h => by cases h) (fun _ => ?_)
        refine scode_seq_k (fun K27 hK27 => ?_)
        refine scode_seq_k (fun K28 hK28 => ?_)
        refine scode_region (by kernel_rfl) ?_
        simp [go_sem, e30]
        refine hK28 _ _ ?_
        try clear hK28 K28
        refine scode_if (b := false) (by simp [go_sem, e30]) (fun h => by cases h) (fun _ => ?_)
        refine scode_hide (fun K29 hK29 => ?_)
        refine scode_region (by kernel_rfl) ?_
        simp [go_sem, e30]
        refine hK29 _ _ ?_
        refine hK27 _ _ ?_
        try clear hK27 K27
        refine scode_if (b := true) (by simp [go_sem, e30]) (fun _ => ?_) (fun h => by cases h)
        refine scode_hide (fun K30 hK30 => ?_)
        refine scode_region (by kernel_rfl) ?_
        simp [go_sem, e30]
        refine hK30 _ _ ?_
        exact ⟨⟨by simp [go_sem, e2], by simp [go_sem, e4], by simp [go_sem, g0], by simp [go_sem, hn]⟩, by simp [go_sem, e5], by simp [go_sem, e7, hh], by simp [go_sem, e8, hkk, wantK]⟩
      · skip
        have hh : hasI (k : Int) = 98 := by simp only [hasI, Int.toNat_natCast, hkk]
        rw [hh] at e30
        refine scode_region (by kernel_rfl) ?_
        simp [go_sem, e30, e30]
        refine hK19 _ _ ?_
        try clear hK19 K19
        refine scode_if (b := false) (by simp [go_sem, e30]) (fun h => by cases h) (fun _ => ?_)
        refine scode_region (by kernel_rfl) ?_
        simp [go_sem, e30]
        refine hK18 _ _ ?_
        try clear hK18 K18
        refine scode_if (b := true) (by simp [go_sem, e30]) (fun _ => ?_) (fun h => by cases h)
        refine scode_hide (fun K31 hK31 => ?_)
        refine scode_region (by kernel_rfl) ?_
        simp [go_sem, e30]
        refine hK31 _ _ ?_
        exact ⟨⟨by simp [go_sem, e2], by simp [go_sem, e4], by simp [go_sem, g0], by simp [go_sem, hn]⟩, by simp [go_sem, e5], by simp [go_sem, e7, hh], by simp [go_sem, e8, hkk, wantK]⟩
    clear e2 e4 g0 hn e5 e7 e8
    rintro env H ⟨⟨e2, e4, g0, hn⟩, e5, e7, e8⟩
    refine scode_seq_k (fun K32 hK32 => ?_)
    refine scode_seq_k (fun K33 hK33 => ?_)
    refine scode_region (by kernel_rfl) ?_
    simp [go_sem, e4, e8]
    refine hK33 _ _ ?_
    try clear hK33 K33
    refine scode_if (b := !(decide (ws.length + 1 = wantK (evKind k)))) (by simp [go_sem, int_ne]) (fun hb => ?_) (fun hb => ?_)
    · skip
      have hres : rE l = (noEv, false) := rE_none (evV_len hp hd (by simpa using hb))
      refine scode_seq_k (fun K34 hK34 => ?_)
      refine scode_region (by kernel_rfl) ?_
      simp [go_sem, e2, g0]
      refine hK34 _ _ ?_
      try clear hK34 K34
      refine scode_ret ?_
      simp only [go_sem]
      refine hR _ _ ?_
      rw [hres]
      refine ret_pure (v := .tup [.agg [.int 0, .int 0, .int 0, .int 0, .nil], .bool false]) (by simp [go_sem, e2, g0]) ?_ (empty_le _) (Nat.zero_le _) (by simp [go_sem, evC, bA_lt])
      exact .tupL (.cons (froz_ev 0 0 0 0 _ [] (.inr ⟨rfl, rfl⟩)) (.cons (.same _) .nil))
    · skip
      have hlen : ws.length + 1 = wantK (evKind k) := by simpa using hb
      refine scode_skip ?_
      refine hK32 _ _ ?_
      try clear hK32 K32
      refine scode_seq_mid (fun env H => env 2 = .ptr 0 0 ∧ env 4 = .vs (ws.length + 1) 1 (wV (w0 :: ws)) ∧ env 7 = .sc (.int .u8 (hasI k)) ∧ env 9 = .ptr 1 0 ∧ H.get 0 = some [.int 0, .int 0, .int 0, .int 0, .nil] ∧ H.get 1 = some [.int k, .int 0, .int 0, .int 0, .nil]) ?_ ?_
      · skip
        refine scode_hide (fun K36 hK36 => ?_)
        refine scode_region (by kernel_rfl) ?_
        simp [go_sem, e5, hn]
        refine hK36 _ _ ?_
        exact ⟨by simp [go_sem, e2], by simp [go_sem, e4], by simp [go_sem, e7], by simp [go_sem, hn], by simp [go_sem, g0, hn], by simp [go_sem, hn]⟩
      clear e2 e4 g0 hn e5 e7 e8
      rintro env H ⟨e2, e4, e7, e9, g0, g1⟩
      obtain ⟨x1, xs, rfl⟩ : ∃ x xs, ws = x :: xs := by
        match ws, hlen with
        | [], h => exact absurd h (by unfold wantK; split <;> simp)
        | a :: b, _ => exact ⟨a, b, rfl⟩
      refine scode_seq_mid (fun env H => env 2 = .ptr 0 0 ∧ env 4 = .vs (xs.length + 1 + 1) 1 (wV (w0 :: x1 :: xs)) ∧ env 7 = .sc (.int .u8 (hasI k)) ∧ env 9 = .ptr 1 0 ∧ env 10 = .int ((canonV x1).getD 0) ∧ env 11 = .bool (canonV x1).isSome ∧ H.get 0 = some [.int 0, .int 0, .int 0, .int 0, .nil] ∧ H.get 1 = some [.int k, .int 0, .int 0, .int 0, .nil]) ?_ ?_
      · skip
        have h1x : (1 : Int) < (xs.length : Int) + 1 + 1 := by omega
        refine scode_hide (fun K38 hK38 => ?_)
        refine scode_region (by kernel_rfl) ?_
        refine w_take 4 (fun K39 hK39 => ?_)
        simp [go_sem, e4, wV, h1x]
        refine ⟨_, _, refnum_H x1 _, ?_⟩
        refine hK39 _ _ ?_
        clear hK39 K39
        simp [go_sem, e4, wV, h1x]
        refine hK38 _ _ ?_
        exact ⟨by simp [go_sem, e2], by simp [go_sem, e4], by simp [go_sem, e7], by simp [go_sem, e9], by simp [go_sem], by simp [go_sem], by simp [go_sem, g0], by simp [go_sem, g1]⟩
      clear e2 e4 e7 e9 g0 g1
      rintro env H ⟨e2, e4, e7, e9, e10, e11, g0, g1⟩
      refine scode_seq_mid (fun env H => env 2 = .ptr 0 0 ∧ env 4 = .vs (xs.length + 1 + 1) 1 (wV (w0 :: x1 :: xs)) ∧ env 7 = .sc (.int .u8 (hasI k)) ∧ env 9 = .ptr 1 0 ∧ env 11 = .bool (canonV x1).isSome ∧ H.get 0 = some [.int 0, .int 0, .int 0, .int 0, .nil] ∧ H.get 1 = some [.int k, .int ((canonV x1).getD 0), .int 0, .int 0, .nil]) ?_ ?_
      · skip
        refine scode_hide (fun K41 hK41 => ?_)
        refine scode_region (by kernel_rfl) ?_
        simp [go_sem, e9, e10, g1]
        refine hK41 _ _ ?_
        exact ⟨by simp [go_sem, e2], by simp [go_sem, e4], by simp [go_sem, e7], by simp [go_sem, e9], by simp [go_sem, e11], by simp [go_sem, g0], by simp [go_sem, g1]⟩
      clear e2 e4 e7 e9 e10 e11 g0 g1
      rintro env H ⟨e2, e4, e7, e9, e11, g0, g1⟩
      refine scode_seq_k (fun K42 hK42 => ?_)
      refine scode_region (by kernel_rfl) ?_
      simp [go_sem]
      refine hK42 _ _ ?_
      try clear hK42 K42
      refine scode_seq_mid (RSw l k) ?_ ?_
      · skip
        refine scode_seq_k (fun K44 hK44 => ?_)
        refine scode_region (by kernel_rfl) ?_
        simp [go_sem, e7]
        refine hK44 _ _ ?_
        try clear hK44 K44
        refine scode_block ?_
        refine scode_seq_k (fun K45 hK45 => ?_)
        refine scode_gen (fun env H => env 2 = .ptr 0 0 ∧ env 4 = .vs (xs.length + 1 + 1) 1 (wV (w0 :: x1 :: xs)) ∧ env 9 = .ptr 1 0 ∧ env 11 = .bool (canonV x1).isSome ∧ env 12 = .bool true ∧ env 13 = .bool true ∧ env 53 = .sc (.int .u8 (hasI k)) ∧ H.get 0 = some [.int 0, .int 0, .int 0, .int 0, .nil] ∧ H.get 1 = some [.int k, .int ((canonV x1).getD 0), .int 0, .int 0, .nil]) ⟨by simp [go_sem, e2], by simp [go_sem, e4], by simp [go_sem, e9], by simp [go_sem, e11], by simp [go_sem], by simp [go_sem], by simp [go_sem, e7], by simp [go_sem, g0], by simp [go_sem, g1]⟩ ?_
        clear e2 e4 e7 e9 e11 g0 g1
        rintro env H ⟨e2, e4, e9, e11, e12, e13, e53, g0, g1⟩
        rcases kinds k with hkk | hkk | hkk | hkk | hkk
        · skip
          have hh : hasI (k : Int) = 0 := by simp only [hasI, Int.toNat_natCast, hkk]
          rw [hh] at e53
          have hwn : wantK (evKind k) = 2 := by rw [hkk]; rfl
          rw [hwn] at hlen
          obtain rfl : xs = [] := by
            match xs, hlen with
            | [], _ => rfl
          have hrE := rE_k0 hp hd hkk
          refine scode_region (by kernel_rfl) ?_
          simp [go_sem, e53, e53]
          refine hK45 _ _ ?_
          try clear hK45 K45
          refine scode_if (b := false) (by simp [go_sem, e53]) (fun h => by cases h) (fun _ => ?_)
          refine scode_seq_k (fun K46 hK46 => ?_)
          refine scode_region (by kernel_rfl) ?_
          simp [go_sem, e53]
          refine hK46 _ _ ?_
          try clear hK46 K46
          refine scode_if (b := false) (by simp [go_sem, e53]) (fun h => by cases h) (fun _ => ?_)
          refine scode_seq_k (fun K47 hK47 => ?_)
          refine scode_region (by kernel_rfl) ?_
          simp [go_sem, e53]
          refine hK47 _ _ ?_
          try clear hK47 K47
          refine scode_if (b := false) (by simp [go_sem, e53]) (fun h => by cases h) (fun _ => ?_)
          refine scode_seq_k (fun K48 hK48 => ?_)
          refine scode_hide (fun K49 hK49 => ?_)
          refine scode_region (by kernel_rfl) ?_
          simp [go_sem, e53]
          refine hK49 _ _ ?_
          refine hK48 _ _ ?_
          try clear hK48 K48
          refine scode_if (b := false) (by simp [go_sem, e53]) (fun h => by cases h) (fun _ => ?_)
          refine scode_skip ?_
          exact ⟨(canonV x1).isSome, true, true, (canonV x1).getD 0, 0, 0, .nil, [], by simp [go_sem, e2], by simp [go_sem, e9], by simp [go_sem, e11], by simp [go_sem, e12], by simp [go_sem, e13], by simp [go_sem, g0], by simp [go_sem, g1, bA], by rw [hrE]; try simp, .inr ⟨rfl, rfl⟩⟩
        · skip
          have hh : hasI (k : Int) = 110 := by simp only [hasI, Int.toNat_natCast, hkk]
          rw [hh] at e53
          have hwn : wantK (evKind k) = 3 := by rw [hkk]; rfl
          rw [hwn] at hlen
          obtain ⟨x2, rfl⟩ : ∃ x2, xs = [x2] := by
            match xs, hlen with
            | [ax2], _ => exact ⟨ax2, rfl⟩
          have hrE := rE_k1 hp hd hkk
          refine scode_region (by kernel_rfl) ?_
          simp [go_sem, e53, e53]
          refine hK45 _ _ ?_
          try clear hK45 K45
          refine scode_if (b := true) (by simp [go_sem, e53]) (fun _ => ?_) (fun h => by cases h)
          refine scode_hide (fun K50 hK50 => ?_)
          refine scode_region (by kernel_rfl) ?_
          refine w_take 4 (fun K51 hK51 => ?_)
          simp [go_sem, e53, e4, e9, g1, wV]
          refine ⟨_, _, refnum_H x2 _, ?_⟩
          refine hK51 _ _ ?_
          clear hK51 K51
          simp [go_sem, e53, e4, e9, g1, wV]
          refine hK50 _ _ ?_
          exact ⟨(canonV x1).isSome, (canonV x2).isSome, true, (canonV x1).getD 0, (canonV x2).getD 0, 0, .nil, [], by simp [go_sem, e2], by simp [go_sem, e9], by simp [go_sem, e11], by simp [go_sem, e12], by simp [go_sem, e13], by simp [go_sem, g0], by simp [go_sem, g1, bA], by rw [hrE]; try simp, .inr ⟨rfl, rfl⟩⟩
        · skip
          have hh : hasI (k : Int) = 112 := by simp only [hasI, Int.toNat_natCast, hkk]
          rw [hh] at e53
          have hwn : wantK (evKind k) = 4 := by rw [hkk]; rfl
          rw [hwn] at hlen
          obtain ⟨x2, x3, rfl⟩ : ∃ x2 x3, xs = [x2, x3] := by
            match xs, hlen with
            | [ax2, ax3], _ => exact ⟨ax2, ax3, rfl⟩
          have hrE := rE_k2 hp hd hkk
          refine scode_region (by kernel_rfl) ?_
          simp [go_sem, e53, e53]
          refine hK45 _ _ ?_
          try clear hK45 K45
          refine scode_if (b := false) (by simp [go_sem, e53]) (fun h => by cases h) (fun _ => ?_)
          refine scode_seq_k (fun K52 hK52 => ?_)
          refine scode_region (by kernel_rfl) ?_
          simp [go_sem, e53]
          refine hK52 _ _ ?_
          try clear hK52 K52
          refine scode_if (b := false) (by simp [go_sem, e53]) (fun h => by cases h) (fun _ => ?_)
          refine scode_seq_k (fun K53 hK53 => ?_)
          refine scode_region (by kernel_rfl) ?_
          simp [go_sem, e53]
          refine hK53 _ _ ?_
          try clear hK53 K53
          refine scode_if (b := true) (by simp [go_sem, e53]) (fun _ => ?_) (fun h => by cases h)
          refine scode_seq_k (fun K54 hK54 => ?_)
          refine scode_region (by kernel_rfl) ?_
          refine w_take 4 (fun K55 hK55 => ?_)
          simp [go_sem, e53, e4, e9, g1, wV]
          refine ⟨_, _, refnum_H x2 _, ?_⟩
          refine hK55 _ _ ?_
          clear hK55 K55
          simp [go_sem, e53, e4, e9, g1, wV]
          refine hK54 _ _ ?_
          try clear hK54 K54
          have hx3 : x3.length ≤ 1000000 := hpl x3 (by simp)
          refine scode_hide (fun K56 hK56 => ?_)
          refine scode_region (by kernel_rfl) ?_
          refine w_take 4 (fun K57 hK57 => ?_)
          simp [go_sem, e53, e4, e9, g1, wV]
          refine ⟨_, _, raw_H x3 hx3 _, ?_⟩
          refine hK57 _ _ ?_
          clear hK57 K57
          simp [go_sem, e53, e4, e9, g1, wV]
          refine hK56 _ _ ?_
          exact ⟨(canonV x1).isSome, (canonV x2).isSome, (rawV' x3).isSome, (canonV x1).getD 0, 0, (canonV x2).getD 0, bA ((rawV' x3).getD []), (rawV' x3).getD [], by simp [go_sem, e2], by simp [go_sem, e9], by simp [go_sem, e11], by simp [go_sem, e12], by simp [go_sem, e13], by simp [go_sem, g0], by simp [go_sem, g1, bA], by rw [hrE]; try simp, .inl rfl⟩
        · skip
          have hh : hasI (k : Int) = 109 := by simp only [hasI, Int.toNat_natCast, hkk]
          rw [hh] at e53
          have hwn : wantK (evKind k) = 4 := by rw [hkk]; rfl
          rw [hwn] at hlen
          obtain ⟨x2, x3, rfl⟩ : ∃ x2 x3, xs = [x2, x3] := by
            match xs, hlen with
            | [ax2, ax3], _ => exact ⟨ax2, ax3, rfl⟩
          have hrE := rE_k3 hp hd hkk
          refine scode_region (by kernel_rfl) ?_
          simp [go_sem, e53, e53]
          refine hK45 _ _ ?_
          try clear hK45 K45
          refine scode_if (b := false) (by simp [go_sem, e53]) (fun h => by cases h) (fun _ => ?_)
          refine scode_seq_k (fun K58 hK58 => ?_)
          refine scode_region (by kernel_rfl) ?_
          simp [go_sem, e53]
          refine hK58 _ _ ?_
          try clear hK58 K58
          refine scode_if (b := false) (by simp [go_sem, e53]) (fun h => by cases h) (fun _ => ?_)
          refine scode_seq_k (fun K59 hK59 => ?_)
          refine scode_region (by kernel_rfl) ?_
          simp [go_sem, e53]
          refine hK59 _ _ ?_
          try clear hK59 K59
          refine scode_if (b := false) (by simp [go_sem, e53]) (fun h => by cases h) (fun _ => ?_)
          refine scode_seq_k (fun K60 hK60 => ?_)
          refine scode_hide (fun K61 hK61 => ?_)
          refine scode_region (by kernel_rfl) ?_
          simp [go_sem, e53]
          refine hK61 _ _ ?_
          refine hK60 _ _ ?_
          try clear hK60 K60
          refine scode_if (b := true) (by simp [go_sem, e53]) (fun _ => ?_) (fun h => by cases h)
          refine scode_seq_k (fun K62 hK62 => ?_)
          refine scode_region (by kernel_rfl) ?_
          refine w_take 4 (fun K63 hK63 => ?_)
          simp [go_sem, e53, e4, e9, g1, wV]
          refine ⟨_, _, refnum_H x2 _, ?_⟩
          refine hK63 _ _ ?_
          clear hK63 K63
          simp [go_sem, e53, e4, e9, g1, wV]
          refine hK62 _ _ ?_
          try clear hK62 K62
          have hx3 : x3.length ≤ 1000000 := hpl x3 (by simp)
          refine scode_hide (fun K64 hK64 => ?_)
          refine scode_region (by kernel_rfl) ?_
          refine w_take 4 (fun K65 hK65 => ?_)
          simp [go_sem, e53, e4, e9, g1, wV]
          refine ⟨_, _, raw_H x3 hx3 _, ?_⟩
          refine hK65 _ _ ?_
          clear hK65 K65
          simp [go_sem, e53, e4, e9, g1, wV]
          refine hK64 _ _ ?_
          exact ⟨(canonV x1).isSome, (canonV x2).isSome, (rawV' x3).isSome, (canonV x1).getD 0, (canonV x2).getD 0, 0, bA ((rawV' x3).getD []), (rawV' x3).getD [], by simp [go_sem, e2], by simp [go_sem, e9], by simp [go_sem, e11], by simp [go_sem, e12], by simp [go_sem, e13], by simp [go_sem, g0], by simp [go_sem, g1, bA], by rw [hrE]; try simp, .inl rfl⟩
        · skip
          have hh : hasI (k : Int) = 98 := by simp only [hasI, Int.toNat_natCast, hkk]
          rw [hh] at e53
          have hwn : wantK (evKind k) = 3 := by rw [hkk]; rfl
          rw [hwn] at hlen
          obtain ⟨x2, rfl⟩ : ∃ x2, xs = [x2] := by
            match xs, hlen with
            | [ax2], _ => exact ⟨ax2, rfl⟩
          have hrE := rE_k4 hp hd hkk
          refine scode_region (by kernel_rfl) ?_
          simp [go_sem, e53, e53]
          refine hK45 _ _ ?_
          try clear hK45 K45
          refine scode_if (b := false) (by simp [go_sem, e53]) (fun h => by cases h) (fun _ => ?_)
          refine scode_seq_k (fun K66 hK66 => ?_)
          refine scode_region (by kernel_rfl) ?_
          simp [go_sem, e53]
          refine hK66 _ _ ?_
          try clear hK66 K66
          refine scode_if (b := true) (by simp [go_sem, e53]) (fun _ => ?_) (fun h => by cases h)
          have hx2 : x2.length ≤ 1000000 := hpl x2 (by simp)
          refine scode_hide (fun K67 hK67 => ?_)
          refine scode_region (by kernel_rfl) ?_
          refine w_take 4 (fun K68 hK68 => ?_)
          simp [go_sem, e53, e4, e9, g1, wV]
          refine ⟨_, _, raw_H x2 hx2 _, ?_⟩
          refine hK68 _ _ ?_
          clear hK68 K68
          simp [go_sem, e53, e4, e9, g1, wV]
          refine hK67 _ _ ?_
          exact ⟨(canonV x1).isSome, (rawV' x2).isSome, true, (canonV x1).getD 0, 0, 0, bA ((rawV' x2).getD []), (rawV' x2).getD [], by simp [go_sem, e2], by simp [go_sem, e9], by simp [go_sem, e11], by simp [go_sem, e12], by simp [go_sem, e13], by simp [go_sem, g0], by simp [go_sem, g1, bA], by rw [hrE]; try simp, .inl rfl⟩
      clear e2 e4 e7 e9 e11 g0 g1
      rintro env H ⟨z1, z2, z3, v1, v2, v3, x, b, e2, e9, e11, e12, e13, g0, g1, hrE, hx⟩
      refine scode_seq_k (fun K69 hK69 => ?_)
      refine scode_seq_k (fun K70 hK70 => ?_)
      rcases (by cases z1 <;> cases z2 <;> cases z3 <;> simp : z1 = false ∨ (z1 = true ∧ z2 = false) ∨ (z1 = true ∧ z2 = true ∧ z3 = false) ∨ (z1 = true ∧ z2 = true ∧ z3 = true)) with rfl | ⟨rfl, rfl⟩ | ⟨rfl, rfl, rfl⟩ | ⟨rfl, rfl, rfl⟩
      · skip
        have hres : rE l = (noEv, false) := by rw [hrE]; rfl
        refine scode_region (by kernel_rfl) ?_
        simp [go_sem, e11, e12, e13]
        refine hK70 _ _ ?_
        try clear hK70 K70
        refine scode_if (b := true) (by simp [go_sem]) (fun _ => ?_) (fun h => by cases h)
        refine scode_seq_k (fun K71 hK71 => ?_)
        refine scode_region (by kernel_rfl) ?_
        simp [go_sem, e2, g0]
        refine hK71 _ _ ?_
        try clear hK71 K71
        refine scode_ret ?_
        simp only [go_sem]
        refine hR _ _ ?_
        rw [hres]
        refine ret_pure (v := .tup [.agg [.int 0, .int 0, .int 0, .int 0, .nil], .bool false]) (by simp [go_sem, e2, g0]) ?_ (empty_le _) (Nat.zero_le _) (by simp [go_sem, evC, bA_lt])
        exact .tupL (.cons (froz_ev 0 0 0 0 _ [] (.inr ⟨rfl, rfl⟩)) (.cons (.same _) .nil))
      · skip
        have hres : rE l = (noEv, false) := by rw [hrE]; rfl
        refine scode_region (by kernel_rfl) ?_
        simp [go_sem, e11, e12, e13]
        refine hK70 _ _ ?_
        try clear hK70 K70
        refine scode_if (b := true) (by simp [go_sem]) (fun _ => ?_) (fun h => by cases h)
        refine scode_seq_k (fun K72 hK72 => ?_)
        refine scode_region (by kernel_rfl) ?_
        simp [go_sem, e2, g0]
        refine hK72 _ _ ?_
        try clear hK72 K72
        refine scode_ret ?_
        simp only [go_sem]
        refine hR _ _ ?_
        rw [hres]
        refine ret_pure (v := .tup [.agg [.int 0, .int 0, .int 0, .int 0, .nil], .bool false]) (by simp [go_sem, e2, g0]) ?_ (empty_le _) (Nat.zero_le _) (by simp [go_sem, evC, bA_lt])
        exact .tupL (.cons (froz_ev 0 0 0 0 _ [] (.inr ⟨rfl, rfl⟩)) (.cons (.same _) .nil))
      · skip
        have hres : rE l = (noEv, false) := by rw [hrE]; rfl
        refine scode_region (by kernel_rfl) ?_
        simp [go_sem, e11, e12, e13]
        refine hK70 _ _ ?_
        try clear hK70 K70
        refine scode_if (b := true) (by simp [go_sem]) (fun _ => ?_) (fun h => by cases h)
        refine scode_seq_k (fun K73 hK73 => ?_)
        refine scode_region (by kernel_rfl) ?_
        simp [go_sem, e2, g0]
        refine hK73 _ _ ?_
        try clear hK73 K73
        refine scode_ret ?_
        simp only [go_sem]
        refine hR _ _ ?_
        rw [hres]
        refine ret_pure (v := .tup [.agg [.int 0, .int 0, .int 0, .int 0, .nil], .bool false]) (by simp [go_sem, e2, g0]) ?_ (empty_le _) (Nat.zero_le _) (by simp [go_sem, evC, bA_lt])
        exact .tupL (.cons (froz_ev 0 0 0 0 _ [] (.inr ⟨rfl, rfl⟩)) (.cons (.same _) .nil))
      · skip
        have hres : rE l = (⟨k, v1, v2, v3, b⟩, true) := by rw [hrE]; rfl
        refine scode_region (by kernel_rfl) ?_
        simp [go_sem, e11, e12, e13]
        refine hK70 _ _ ?_
        try clear hK70 K70
        refine scode_if (b := false) (by simp [go_sem]) (fun h => by cases h) (fun _ => ?_)
        refine scode_skip ?_
        refine hK69 _ _ ?_
        try clear hK69 K69
        refine scode_seq_k (fun K74 hK74 => ?_)
        have hlx : x.leaf = true := by rcases hx with rfl | ⟨rfl, rfl⟩ <;> rfl
        unfold AV.leaf at hlx
        refine scode_region (by kernel_rfl) ?_
        simp [go_sem, e2, e9, g0, g1, hlx]
        refine hK74 _ _ ?_
        try clear hK74 K74
        refine scode_ret ?_
        simp only [go_sem]
        refine hR _ _ ?_
        rw [hres]
        refine ret_pure (v := .tup [.agg [.int k, .int v1, .int v2, .int v3, x], .bool true]) (by simp [go_sem, e2, g0, g1]) ?_ (empty_le _) (Nat.zero_le _) (by simp [go_sem, evC, bA_lt])
        exact .tupL (.cons (froz_ev k v1 v2 v3 _ b hx) (.cons (.same _) .nil))
  · skip
    have hki : (k : Int) ≤ 11 := by omega
    have hnm : (evName k == w0) = false := by simp [hmk]
    have hnm2 : (w0 == evName k) = false := by simp [Ne.symm hmk]
    refine scode_region (by kernel_rfl) ?_
    simp [go_sem, e5, hki]
    refine hK7 _ _ ?_
    try clear hK7 K7
    refine scode_if (b := true) (by simp [go_sem]) (fun _ => ?_) (fun h => by cases h)
    refine scode_skip ?_
    refine hK6 _ _ ?_
    try clear hK6 K6
    refine scode_seq_k (fun K75 hK75 => ?_)
    refine scode_block ?_
    refine scode_seq_k (fun K76 hK76 => ?_)
    refine scode_region (by kernel_rfl) ?_
    refine w_take 2 (fun K77 hK77 => ?_)
    simp [go_sem, e5]
    refine ⟨_, _, rname_H _ _, ?_⟩
    refine hK77 _ _ ?_
    clear hK77 K77
    simp [go_sem, e5]
    refine hK76 _ _ ?_
    try clear hK76 K76
    refine scode_seq_k (fun K78 hK78 => ?_)
    refine scode_seq_k (fun K79 hK79 => ?_)
    refine scode_region (by kernel_rfl) ?_
    simp [go_sem, e4, wV, nmI, hnm2, hnm]
    refine hK79 _ _ ?_
    try clear hK79 K79
    refine scode_if (b := true) (by simp [go_sem]) (fun _ => ?_) (fun h => by cases h)
    refine scode_exit ?_
    refine hK75 _ _ ?_
    try clear hK75 K75
    refine scode_region (by kernel_rfl) ?_
    simp [go_sem, e5]
    have hw := i64_succ k (by omega)
    exact ⟨12 - (k + 1), by omega, k + 1, rfl, by omega, by omega, ⟨by simp [go_sem, e2], by simp [go_sem, e4], by simp [go_sem, g0], by simp [go_sem, hn]⟩, by simp [go_sem, hw], fun j j1 j2 => by
        rcases Nat.lt_or_ge j k with h | h
        · exact hno j j1 h
        · obtain rfl : j = k := by omega
          exact hmk⟩

end Go.Proofs.YtfmpakmigmehkaaGreatDoor
end S37S
