/- Contract: Parse. -/
import Derived.Test.YtfmpakmigmehkaaGreatDoorFl43
import Derived.Test.YtfmpakmigmehkaaGreatDoorS21
set_option linter.unusedVariables false
set_option linter.unusedSimpArgs false
set_option maxRecDepth 20000
noncomputable section
namespace Go.Proofs.YtfmpakmigmehkaaGreatDoor
open Go Go.Fl Go.Proofs

/-- The configuration that has been read at place k, once i lines are read. -/
def cAt (ls : List Word) (k i : Nat) : CfgS := if k < i then (endR (ls.getD k [])).1 else noCfg
/-- The events that have been read, once i lines are read. -/
def esAt (ls : List Word) (i : Nat) : List EvS := ((ls.take i).drop 2).map fun l => (evR l).1
theorem lineOk_end (i : Nat) (w : Word) (h : i < 2) : (endR w).2 = !(lineOk i w) := by
  unfold lineOk
  rw [if_pos h, (endR_spec w).1]
  cases cfgV w <;> rfl
theorem lineOk_ev (i : Nat) (w : Word) (h : ¬ i < 2) : (evR w).2 = !(lineOk i w) := by
  unfold lineOk
  rw [if_neg h, (evR_spec w).1]
  cases evV w <;> rfl
theorem evsV_of (r : List Word) : ∀ i, 2 ≤ i → badAt i r = none → evsV r = some (r.map fun l => (evR l).1) := by
  induction r with
  | nil => intro i _ _; rfl
  | cons l r ih =>
    intro i hi h
    unfold badAt at h
    split at h
    · rename_i hl
      unfold lineOk at hl
      rw [if_neg (by omega)] at hl
      obtain ⟨e, he⟩ := Option.isSome_iff_exists.1 hl
      unfold evsV
      rw [he, ih (i + 1) (by omega) h]
      simp [(evR_spec l).2 e he]
    · cases h
theorem last_app {α : Type} (ls : List α) (x : α) (d : α) : (ls ++ [x]).getLast?.getD d = x := by simp
theorem parseT_many (t : Word) (ls : List Word) (last : Word) (hps : pieces 10 t = ls ++ [last]) (h1 : t.length ≤ 65536) (h2 : 2048 < ls.length ∨ (ls.length = 2048 ∧ last ≠ [])) : parseT t = .bad 0 3 := by
  unfold parseT
  rw [if_neg (by omega)]
  simp only [hps, List.dropLast_concat, last_app]
  rw [if_pos h2]
theorem parseT_bad (t : Word) (ls : List Word) (last : Word) (i : Nat) (hps : pieces 10 t = ls ++ [last]) (h1 : t.length ≤ 65536) (h2 : ¬ (2048 < ls.length ∨ (ls.length = 2048 ∧ last ≠ []))) (hb : badAt 0 ls = some i) : parseT t = .bad (i + 1) 11 := by
  unfold parseT
  rw [if_neg (by omega)]
  simp only [hps, List.dropLast_concat, last_app]
  rw [if_neg h2, hb]
theorem parseT_open (t : Word) (ls : List Word) (last : Word) (hps : pieces 10 t = ls ++ [last]) (h1 : t.length ≤ 65536) (h2 : ¬ (2048 < ls.length ∨ (ls.length = 2048 ∧ last ≠ []))) (hb : badAt 0 ls = none) (h3 : ls.length < 2 ∨ last ≠ []) : parseT t = .bad (ls.length + 1) 11 := by
  unfold parseT
  rw [if_neg (by omega)]
  simp only [hps, List.dropLast_concat, last_app]
  rw [if_neg h2, hb]
  simp only
  rw [if_pos h3]
theorem parseT_good (t : Word) (ls : List Word) (last : Word) (hps : pieces 10 t = ls ++ [last]) (h1 : t.length ≤ 65536) (h2 : ¬ (2048 < ls.length ∨ (ls.length = 2048 ∧ last ≠ []))) (hb : badAt 0 ls = none) (h3 : ¬ (ls.length < 2 ∨ last ≠ [])) : parseT t = .good (cAt ls 0 ls.length) (cAt ls 1 ls.length) (esAt ls ls.length) := by
  match ls, h3 with
  | [], h3 => exact absurd (.inl (by simp)) h3
  | [x], h3 => exact absurd (.inl (by simp)) h3
  | x :: y :: r, h3 =>
    unfold badAt at hb
    split at hb
    · rename_i hx
      unfold badAt at hb
      split at hb
      · rename_i hy
        unfold lineOk at hx hy
        rw [if_pos (by omega)] at hx hy
        obtain ⟨a, ha⟩ := Option.isSome_iff_exists.1 hx
        obtain ⟨b, hb'⟩ := Option.isSome_iff_exists.1 hy
        have hr := evsV_of r (0 + 1 + 1) (by omega) hb
        unfold parseT
        rw [if_neg (by omega)]
        simp only [hps, List.dropLast_concat, last_app]
        have hb0 : badAt 0 (x :: y :: r) = none := by
          unfold badAt
          rw [if_pos (by unfold lineOk; rw [if_pos (by omega)]; exact hx)]
          unfold badAt
          rw [if_pos (by unfold lineOk; rw [if_pos (by omega)]; exact hy)]
          exact hb
        rw [if_neg h2, hb0]
        simp only
        rw [if_neg h3]
        simp only [ha, hb', hr]
        have e1 := (endR_spec x).2 a ha
        have e2 := (endR_spec y).2 b hb'
        unfold cAt esAt
        rw [if_pos (by simp), if_pos (by simp)]
        simp [e1, e2]
      · cases hb
    · cases hb
theorem cAt_succ (ls : List Word) (i : Nat) (w : Word) (h : ls[i]? = some w) : cAt ls i (i + 1) = (endR w).1 := by
  unfold cAt
  rw [if_pos (by omega), List.getD_eq_getElem?_getD, h]
  rfl
theorem cAt_keep (ls : List Word) (k i : Nat) (h : k ≠ i) : cAt ls k (i + 1) = cAt ls k i := by
  unfold cAt
  by_cases hk : k < i
  · rw [if_pos hk, if_pos (by omega)]
  · rw [if_neg hk, if_neg (by omega)]
theorem esAt_small (ls : List Word) (i : Nat) (h : i ≤ 2) : esAt ls i = [] := by
  unfold esAt
  rw [List.drop_eq_nil_of_le (by simp; omega)]
  rfl
theorem esAt_succ (ls : List Word) (i : Nat) (w : Word) (h : ls[i]? = some w) (h2 : 2 ≤ i) : esAt ls (i + 1) = esAt ls i ++ [(evR w).1] := by
  have hi := (List.getElem?_eq_some_iff.1 h).1
  unfold esAt
  rw [List.take_add_one, h]
  show (((ls.take i) ++ [w]).drop 2).map _ = _
  rw [List.drop_append_of_le_length (by simp; omega), List.map_append]
  rfl
theorem badAt_next (ls : List Word) (i : Nat) (w : Word) (h : ls[i]? = some w) : badAt i (ls.drop i) = if lineOk i w = true then badAt (i + 1) (ls.drop (i + 1)) else some i := by
  have hi := (List.getElem?_eq_some_iff.1 h)
  rw [List.drop_eq_getElem_cons hi.1, hi.2]
  rfl
theorem pieces_count (c : UInt8) (l : Word) : (pieces c l).length ≤ l.length + 1 := by
  induction l with
  | nil => simp [pieces]
  | cons b l ih =>
    unfold pieces
    split
    · simp; omega
    · split
      · simp
      · rename_i h; rw [h] at ih; simp at ih ⊢; omega
theorem number_E (b : Bool) (H : Heap) : SCalls Tryz.prog 21 [errA b] H (.int (if b then 11 else 0)) H := by
  cases b with
  | false => exact scalls_frame number0_s (by simp [errA, go_sem]) (by simp [go_sem]) H
  | true => exact scalls_frame (number_s 11 scriptS) (by simp [go_sem]) (by simp [go_sem]) H
theorem cl (c : CfgS) : (cfgC c).length = 18 := rfl
theorem cfl (c : CfgS) : (∀ x ∈ cfgC c, x.leaf = true) = True := by simp [cfgC, AV.leaf]
theorem c_t18 (a b : CfgS) : (cfgC a ++ cfgC b).take 18 = cfgC a := rfl
theorem c_d18 (a b : CfgS) : (cfgC a ++ cfgC b).drop 18 = cfgC b := rfl
theorem c_d36 (a b : CfgS) : (cfgC a ++ cfgC b).drop 36 = [] := rfl
theorem c_d18' (a : CfgS) : (cfgC a).drop 18 = [] := rfl
theorem zrep5 (a b c d e : AV) : zrep [a, b, c, d, e] 5 = [a, b, c, d, e] := rfl
theorem c_t18' (a : CfgS) : (cfgC a).take 18 = cfgC a := rfl
theorem wV_at {l : List Word} {i : Nat} {w : Word} (h : l[i]? = some w) : ∃ r, (wV l).drop i = sA w :: r := by
  have hi := (List.getElem?_eq_some_iff.1 h)
  refine ⟨wV (l.drop (i + 1)), ?_⟩
  unfold wV
  rw [← List.map_drop, List.drop_eq_getElem_cons hi.1, hi.2]
  rfl
theorem wV_take (ls : List Word) (w : Word) : (wV (ls ++ [w])).take ls.length = wV ls := by
  rw [wV_app]
  exact List.take_left' (wV_len ls)
theorem wV_last (ls : List Word) (w : Word) : (wV (ls ++ [w])).drop ls.length = [sA w] := by
  rw [wV_app]
  exact List.drop_left' (wV_len ls)
theorem grown_set {H : Heap} {x : AV} {n sz b : Nat} {cs cs' : List AV} {bo : Option Nat} (h : grown H sz x = some (n, cs, bo)) (hb : bo ≠ some b) : grown (H.set b cs') sz x = some (n, cs, bo) := by
  rcases grown_cases h with ⟨rfl, h5, h6, h7⟩ | ⟨b', off, rfl, rfl, c, h5, h6, h7⟩
  · rw [h5, h6, h7]; rfl
  · have hne : b' ≠ b := fun e => hb (by rw [e])
    rw [h7]
    simp [grown, Heap.get_set, hne, h5]
    omega
theorem grown_ne {H : Heap} {x : AV} {n sz : Nat} {cs : List AV} {bo : Option Nat} (h : grown H sz x = some (n, cs, bo)) : bo ≠ some H.next := by
  rcases grown_cases h with ⟨rfl, h5, h6, h7⟩ | ⟨b', off, rfl, rfl, c, h5, h6, h7⟩
  · subst h7; simp
  · intro e
    cases e
    exact absurd (Heap.lt_of_get h5) (Nat.lt_irrefl _)
theorem eV_app (a b : List EvI) : eV (a ++ b) = eV a ++ eV b := by simp [eV]
theorem esAt_len (ls : List Word) (i : Nat) : (esAt ls i).length ≤ ls.length := by unfold esAt; simp; omega
theorem esAt_cells (ls : List Word) (i : Nat) (w : Word) (h : ls[i]? = some w) (h2 : 2 ≤ i) : (esAt ls (i + 1)).length = (esAt ls i).length + 1 ∧ eV ((esAt ls (i + 1)).map toI) = eV ((esAt ls i).map toI) ++ evC (evR w).1 := by
  rw [esAt_succ ls i w h h2]
  refine ⟨by simp, ?_⟩
  rw [List.map_append, eV_app]
  congr 1
theorem appE {H : Heap} {x : AV} {n : Nat} {cs : List AV} {bo : Option Nat} (e : EvS) (hg : grown H 5 x = some (n, cs, bo)) (hn : n ≤ 1000000000) : aappend Tryz.prog (H.alloc (evC e)) 26 26 x (.ms H.next 0 1 5) = some (.ms (H.next + 1) 0 (n + 1) 5, (H.alloc (evC e)).regrow bo (cs ++ evC e)) ∧
    grown ((H.alloc (evC e)).regrow bo (cs ++ evC e)) 5 (.ms (H.next + 1) 0 (n + 1) 5) = some (n + 1, cs ++ evC e, some (H.next + 1)) :=
  app_one (P := Tryz.prog) (new := evC e) tU26 tS53 tB53 tZ53 rfl rfl rfl hg (by omega) (by omega)
/-- What Parse answers. -/
def resA : ResS → AV
  | .bad p e => .tup [.agg (cfgC noCfg), .agg (cfgC noCfg), eA [], .int p, .int e]
  | .good a b l => .tup [.agg (cfgC a), .agg (cfgC b), eA (l.map toI), .int 0, .int 0]
theorem end_H (l : Word) (hl : l.length ≤ 1000000) (H : Heap) : SCalls Tryz.prog 19 [sA l] H (.tup [.agg (cfgC (endR l).1), errA (endR l).2]) H := scalls_frame (end_s l hl) (by simp [go_sem]) (by simp [go_sem, cfgC, errA_lt]) H
theorem event_H (l : Word) (hl : l.length ≤ 1000000) (H : Heap) : SCalls Tryz.prog 20 [sA l] H (.tup [.agg (evC (evR l).1), errA (evR l).2]) H := scalls_frame (event_s l hl) (by simp [go_sem]) (by simp [go_sem, evC, errA_lt, bA_lt]) H
def PSt (ls : List Word) (last : Word) (env : Env) (H : Heap) : Prop := env 2 = .ptr 0 0 ∧ env 3 = .ptr 1 0 ∧ env 7 = .ptr 2 0 ∧ env 8 = .vs ls.length 1 (wV ls) ∧ env 9 = sA last ∧ env 48 = .vs ls.length 1 (wV ls) ∧ env 49 = .int ls.length ∧ H.get 0 = some (cfgC noCfg) ∧ H.get 1 = some (cfgC noCfg)
def PZ (ls : List Word) (last : Word) (env : Env) (H : Heap) : Prop := env 2 = .ptr 0 0 ∧ env 3 = .ptr 1 0 ∧ env 7 = .ptr 2 0 ∧ env 8 = .vs ls.length 1 (wV ls) ∧ env 9 = sA last ∧ H.get 0 = some (cfgC noCfg) ∧ H.get 1 = some (cfgC noCfg) ∧ H.get 2 = some (cfgC noCfg ++ cfgC noCfg)
def PEv (ls : List Word) (i : Nat) (env : Env) (H : Heap) : Prop := H.get 2 = some (cfgC (cAt ls 0 i) ++ cfgC (cAt ls 1 i)) ∧ ∃ x bo, env 10 = x ∧ grown H 5 x = some ((esAt ls i).length, eV ((esAt ls i).map toI), bo) ∧ bo ≠ some 0 ∧ bo ≠ some 1 ∧ bo ≠ some 2

theorem parse_s (t : Word) (ht : t.length ≤ 1000000) : SCalls Tryz.prog 8 [sA t] Heap.empty (resA (parseT t)) Heap.empty := by
  obtain ⟨ls, last, hps⟩ : ∃ ls last, pieces 10 t = ls ++ [last] := ⟨_, _, (List.dropLast_concat_getLast (by obtain ⟨w, ws, e⟩ := pieces_ne 10 t; rw [e]; simp)).symm⟩
  have c18 := fun H => scalls_frame (split_s 10 t (by omega)) (by simp [go_sem]) (by rw [wA_lt]; trivial) H
  rw [hps] at c18
  unfold wA at c18
  rw [List.length_append, List.length_singleton] at c18
  have hpl := pieces_len 10 t
  rw [hps] at hpl
  have hcnt : (ls ++ [last]).length ≤ t.length + 1 := by rw [← hps]; exact pieces_count 10 t
  rw [List.length_append, List.length_singleton] at hcnt
  have hlt1 : (ls.length : Int) < ls.length + 1 := by omega
  have hlt2 : (ls.length : Int) ≤ ls.length + 1 := by omega
  have hwl : IntKind.i64.wrap (ls.length : Int) = ls.length := i64in _ (by omega) (by omega)
  refine scalls_of_k (sz := 100) (Tryz.call8) Tryz.func8 rfl (Nat.zero_le _) (by kernel_rfl) (fun R hR => ?_)
  refine scode_seq_k (fun K1 hK1 => ?_)
  refine scode_region (by kernel_rfl) ?_
  simp [go_sem]
  refine hK1 _ _ ?_
  try clear hK1 K1
  refine scode_seq_mid (fun env H => env 0 = sA t ∧ env 2 = .ptr 0 0 ∧ env 3 = .ptr 1 0 ∧ env 7 = .ptr 2 0 ∧ H.get 0 = some (cfgC noCfg) ∧ H.get 1 = some (cfgC noCfg) ∧ H.get 2 = some (cfgC noCfg ++ cfgC noCfg) ∧ H.next = 3) ?_ ?_
  · skip
    refine scode_region (by kernel_rfl) ?_
    simp [go_sem]
    refine ⟨?_, ?_⟩ <;> rfl
  rintro env H ⟨e0, e2, e3, e7, g0, g1, g2, hn⟩
  refine scode_seq_k (fun K3 hK3 => ?_)
  refine scode_seq_k (fun K4 hK4 => ?_)
  refine scode_region (by kernel_rfl) ?_
  simp [go_sem, e0]
  refine hK4 _ _ ?_
  try clear hK4 K4
  refine scode_if (b := decide (65536 < (t.length : Int))) (by simp [go_sem]) (fun hb => ?_) (fun hb => ?_)
  · skip
    simp only [decide_eq_true_eq] at hb
    have hres : parseT t = .bad 0 3 := by unfold parseT; rw [if_pos (by omega)]
    refine scode_seq_k (fun K5 hK5 => ?_)
    refine scode_region (by kernel_rfl) ?_
    simp [go_sem, e2, e3, g0, g1, cl, cfl]
    refine hK5 _ _ ?_
    try clear hK5 K5
    refine scode_ret ?_
    simp only [go_sem]
    refine hR _ _ ?_
    rw [hres]
    refine ret_pure (v := .tup [.agg (cfgC noCfg), .agg (cfgC noCfg), .nil, .int 0, .int 3]) (by first | (simp [go_sem, e2, e3, g0, g1, c_d18']; done) | (simp [go_sem, e2, e3, g0, g1, c_d18']; rfl)) ?_ (empty_le _) (Nat.zero_le _) (by simp [resA, eA, eV, go_sem, cfgC])
    exact .tupL (.cons (.same _) (.cons (.same _) (.cons (.nil 5) (.cons (.same _) (.cons (.same _) .nil)))))
  · skip
    simp only [decide_eq_false_iff_not] at hb
    have hle : t.length ≤ 65536 := by omega
    refine scode_skip ?_
    refine hK3 _ _ ?_
    try clear hK3 K3
    refine scode_seq_k (fun K6 hK6 => ?_)
    refine scode_region (by kernel_rfl) ?_
    refine w_take 2 (fun K7 hK7 => ?_)
    simp [go_sem, e0]
    refine ⟨_, _, c18 _, ?_⟩
    refine hK7 _ _ ?_
    clear hK7 K7
    simp [go_sem, e0]
    refine hK6 _ _ ?_
    try clear hK6 K6
    refine scode_seq_k (fun K8 hK8 => ?_)
    refine scode_region (by kernel_rfl) ?_
    simp [go_sem, hwl, hlt1, wV_len, wV_last]
    refine hK8 _ _ ?_
    try clear hK8 K8
    refine scode_seq_k (fun K9 hK9 => ?_)
    refine scode_region (by kernel_rfl) ?_
    simp [go_sem, hwl, hlt1, hlt2, wV_len, wV_take]
    refine hK9 _ _ ?_
    try clear hK9 K9
    refine scode_gen (fun env H => PZ ls last env H) ⟨by simp [go_sem, e2], by simp [go_sem, e3], by simp [go_sem, e7], by simp [go_sem], by simp [go_sem], g0, g1, g2⟩ ?_
    clear e0 e2 e3 e7 g0 g1 g2 hn
    rintro env H ⟨e2, e3, e7, e8, e9, g0, g1, g2⟩
    refine scode_seq_mid (fun env H => PZ ls last env H ∧ ¬ (2048 < ls.length ∨ (ls.length = 2048 ∧ last ≠ []))) ?_ ?_
    · skip
      refine scode_seq_k (fun K11 hK11 => ?_)
      rcases (by omega : ls.length < 2048 ∨ ls.length = 2048 ∨ 2048 < ls.length) with hm | hm | hm
      · skip
        have m1 : ¬ (2048 < (ls.length : Int)) := by omega
        have m2 : ((ls.length : Int) == 2048) = false := by simp; omega
        have hmany : ¬ (2048 < ls.length ∨ (ls.length = 2048 ∧ last ≠ [])) := by omega
        refine scode_region (by kernel_rfl) ?_
        simp [go_sem, e8, e9, m1, m2]
        refine hK11 _ _ ?_
        try clear hK11 K11
        refine scode_if (b := false) (by simp [go_sem]) (fun h => by cases h) (fun _ => ?_)
        refine scode_skip ?_
        exact ⟨⟨by simp [go_sem, e2], by simp [go_sem, e3], by simp [go_sem, e7], by simp [go_sem, e8], by simp [go_sem, e9], g0, g1, g2⟩, hmany⟩
      · skip
        have m1 : ¬ (2048 < (ls.length : Int)) := by omega
        have m2 : ((ls.length : Int) == 2048) = true := by simp; omega
        refine scode_region (by kernel_rfl) ?_
        simp [go_sem, e8, e9, m1, m2]
        refine hK11 _ _ ?_
        try clear hK11 K11
        refine scode_if (b := !(last == ([] : Word))) (by simp [go_sem]) (fun hb => ?_) (fun hb => ?_)
        · skip
          have hres : parseT t = .bad 0 3 := parseT_many t ls last hps hle (by simp at hb; exact .inr ⟨hm, hb⟩)
          refine scode_seq_k (fun K12 hK12 => ?_)
          refine scode_region (by kernel_rfl) ?_
          simp [go_sem, e2, e3, g0, g1, cl, cfl]
          refine hK12 _ _ ?_
          try clear hK12 K12
          refine scode_ret ?_
          simp only [go_sem]
          refine hR _ _ ?_
          rw [hres]
          refine ret_pure (v := .tup [.agg (cfgC noCfg), .agg (cfgC noCfg), .nil, .int 0, .int 3]) (by first | (simp [go_sem, e2, e3, g0, g1, c_d18']; done) | (simp [go_sem, e2, e3, g0, g1, c_d18']; rfl)) ?_ (empty_le _) (Nat.zero_le _) (by simp [resA, eA, eV, go_sem, cfgC])
          exact .tupL (.cons (.same _) (.cons (.same _) (.cons (.nil 5) (.cons (.same _) (.cons (.same _) .nil)))))
        · skip
          have hmany : ¬ (2048 < ls.length ∨ (ls.length = 2048 ∧ last ≠ [])) := by simp at hb; simp [hb]; omega
          refine scode_skip ?_
          exact ⟨⟨by simp [go_sem, e2], by simp [go_sem, e3], by simp [go_sem, e7], by simp [go_sem, e8], by simp [go_sem, e9], g0, g1, g2⟩, hmany⟩
      · skip
        have m1 : 2048 < (ls.length : Int) := by omega
        have hres : parseT t = .bad 0 3 := parseT_many t ls last hps hle (.inl hm)
        refine scode_region (by kernel_rfl) ?_
        simp [go_sem, e8, e9, m1]
        refine hK11 _ _ ?_
        try clear hK11 K11
        refine scode_if (b := true) (by simp [go_sem]) (fun _ => ?_) (fun h => by cases h)
        refine scode_seq_k (fun K13 hK13 => ?_)
        refine scode_region (by kernel_rfl) ?_
        simp [go_sem, e2, e3, g0, g1, cl, cfl]
        refine hK13 _ _ ?_
        try clear hK13 K13
        refine scode_ret ?_
        simp only [go_sem]
        refine hR _ _ ?_
        rw [hres]
        refine ret_pure (v := .tup [.agg (cfgC noCfg), .agg (cfgC noCfg), .nil, .int 0, .int 3]) (by first | (simp [go_sem, e2, e3, g0, g1, c_d18']; done) | (simp [go_sem, e2, e3, g0, g1, c_d18']; rfl)) ?_ (empty_le _) (Nat.zero_le _) (by simp [resA, eA, eV, go_sem, cfgC])
        exact .tupL (.cons (.same _) (.cons (.same _) (.cons (.nil 5) (.cons (.same _) (.cons (.same _) .nil)))))
    rintro env H ⟨⟨e2, e3, e7, e8, e9, g0, g1, g2⟩, hmany⟩
    refine scode_seq_k (fun K14 hK14 => ?_)
    refine scode_region (by kernel_rfl) ?_
    simp [go_sem]
    refine hK14 _ _ ?_
    try clear hK14 K14
    refine scode_seq_k (fun K15 hK15 => ?_)
    refine scode_seq_k (fun K16 hK16 => ?_)
    refine scode_region (by kernel_rfl) ?_
    simp [go_sem, e8]
    refine hK16 _ _ ?_
    try clear hK16 K16
    refine scode_block ?_
    refine scode_loop (Inv := fun n env H => ∃ i : Nat, n = ls.length - i ∧ i ≤ ls.length ∧ PSt ls last env H ∧ env 50 = .int i ∧ badAt 0 ls = badAt i (ls.drop i) ∧ PEv ls i env H) ?_ (n := ls.length) (⟨0, rfl, by omega, ⟨by simp [go_sem, e2], by simp [go_sem, e3], by simp [go_sem, e7], by simp [go_sem, e8], by simp [go_sem, e9], by simp [go_sem, e8], by simp [go_sem], g0, g1⟩, by simp [go_sem], rfl, ⟨g2, .nil, none, by simp [go_sem], rfl, by simp, by simp, by simp⟩⟩)
    clear e2 e3 e7 e8 e9 g0 g1 g2
    rintro n env H ⟨i, rfl, hi, ⟨e2, e3, e7, e8, e9, e48, e49, g0, g1⟩, e50, hbad, g2, x, bo, e10, hg, hbo0, hbo1, hbo2⟩
    refine scode_seq_k (fun K17 hK17 => ?_)
    refine scode_region (by kernel_rfl) ?_
    simp [go_sem, e50, e49]
    refine hK17 _ _ ?_
    try clear hK17 K17
    refine scode_seq_k (fun K18 hK18 => ?_)
    refine scode_if (b := decide (i < ls.length)) (by simp [go_sem]) (fun hb => ?_) (fun hb => ?_)
    · skip
      simp only [decide_eq_true_eq] at hb
      obtain ⟨w, hw⟩ := get_of_lt ls i hb
      obtain ⟨r, hdr⟩ := wV_at hw
      have hwlen : w.length ≤ 1000000 := Nat.le_trans (hpl w (List.mem_append_left _ (List.mem_of_getElem? hw))) ht
      have hnext := badAt_next ls i w hw
      have hLs : (wV ls).length = ls.length := wV_len ls
      refine scode_skip ?_
      refine hK18 _ _ ?_
      try clear hK18 K18
      refine scode_seq_k (fun K19 hK19 => ?_)
      refine scode_block ?_
      refine scode_seq_k (fun K20 hK20 => ?_)
      refine scode_region (by kernel_rfl) ?_
      simp [go_sem, e48, e50, hdr, hb, hLs]
      refine hK20 _ _ ?_
      try clear hK20 K20
      refine scode_seq_k (fun K21 hK21 => ?_)
      refine scode_region (by kernel_rfl) ?_
      simp [go_sem]
      refine hK21 _ _ ?_
      try clear hK21 K21
      refine scode_gen (fun env H => PSt ls last env H ∧ env 50 = .int i ∧ env 11 = .int i ∧ env 12 = sA w ∧ PEv ls i env H) ⟨⟨by simp [go_sem, e2], by simp [go_sem, e3], by simp [go_sem, e7], by simp [go_sem, e8], by simp [go_sem, e9], by simp [go_sem, e48], by simp [go_sem, e49], g0, g1⟩, by simp [go_sem, e50], by simp [go_sem], by simp [go_sem], g2, x, bo, by simp [go_sem, e10], hg, hbo0, hbo1, hbo2⟩ ?_
      clear e2 e3 e7 e8 e9 e48 e49 g0 g1 e50 g2 e10 hg
      rintro env H ⟨⟨e2, e3, e7, e8, e9, e48, e49, g0, g1⟩, e50, e11, e12, g2, x, bo, e10, hg, hbo0, hbo1, hbo2⟩
      refine scode_seq_mid (fun env H => PSt ls last env H ∧ env 50 = .int i ∧ env 11 = .int i ∧ env 13 = errA (!(lineOk i w)) ∧ PEv ls (i + 1) env H) ?_ ?_
      · skip
        refine scode_seq_k (fun K23 hK23 => ?_)
        refine scode_region (by kernel_rfl) ?_
        simp [go_sem, e11]
        refine hK23 _ _ ?_
        try clear hK23 K23
        refine scode_if (b := decide ((i : Int) < 2)) (by simp [go_sem]) (fun hb => ?_) (fun hb => ?_)
        · skip
          simp only [decide_eq_true_eq] at hb
          have hlk := lineOk_end i w (by omega)
          obtain ⟨c, hc⟩ : ∃ c, (endR w).1 = c := ⟨_, rfl⟩
          have cend := end_H w hwlen H
          have hlf := cfl c
          simp only [AV.leaf] at hlf
          rw [hlk, hc] at cend
          rcases (by omega : i = 0 ∨ i = 1) with rfl | rfl
          · skip
            have ga : H.get 2 = some (cfgC noCfg ++ cfgC noCfg) := g2
            refine scode_region (by kernel_rfl) ?_
            refine w_take 3 (fun K24 hK24 => ?_)
            simp [go_sem, e7, e11, e12, ga, cl, hlf, c_d18, c_d36, c_t18]
            refine ⟨_, _, cend, ?_⟩
            refine hK24 _ _ ?_
            clear hK24 K24
            simp [go_sem, e7, e11, e12, ga, cl, hlf, c_d18, c_d36, c_t18]
            first
              | exact ⟨⟨by simp [go_sem, e2], by simp [go_sem, e3], by simp [go_sem, e7], by simp [go_sem, e8], by simp [go_sem, e9], by simp [go_sem, e48], by simp [go_sem, e49], by simp [go_sem, g0], by simp [go_sem, g1]⟩, by simpa using e50, by rw [Heap.get_set, if_pos rfl, cAt_succ ls 0 w hw, hc, ga]; rfl, x, bo, by simp [go_sem, e10], by rw [esAt_small ls 1 (by omega)]; rw [esAt_small ls 0 (by omega)] at hg; exact grown_set hg hbo2, hbo0, hbo1, hbo2⟩
              | exact ⟨⟨by simp [go_sem, e2], by simp [go_sem, e3], by simp [go_sem, e7], by simp [go_sem, e8], by simp [go_sem, e9], by simp [go_sem, e48], by simp [go_sem, e49], by simp [go_sem, g0], by simp [go_sem, g1]⟩, by simpa using e50, by rw [Heap.get_set, if_pos rfl, cAt_succ ls 1 w hw, cAt_keep ls 0 1 (by omega), hc, ga]; rfl, x, bo, by simp [go_sem, e10], by rw [esAt_small ls 2 (by omega)]; rw [esAt_small ls 1 (by omega)] at hg; exact grown_set hg hbo2, hbo0, hbo1, hbo2⟩
              | exact ⟨⟨by simp [go_sem, e2], by simp [go_sem, e3], by simp [go_sem, e7], by simp [go_sem, e8], by simp [go_sem, e9], by simp [go_sem, e48], by simp [go_sem, e49], get_regrow_other (by rw [Heap.get_alloc, if_neg m0]; exact g0) hbo0, get_regrow_other (by rw [Heap.get_alloc, if_neg m1]; exact g1) hbo1⟩, by simp [go_sem, e50], by simp [go_sem, e11], by simp [go_sem, e13], hPE _ (by simp [go_sem])⟩
          · skip
            have ga : H.get 2 = some (cfgC (cAt ls 0 1) ++ cfgC noCfg) := g2
            refine scode_region (by kernel_rfl) ?_
            refine w_take 3 (fun K25 hK25 => ?_)
            simp [go_sem, e7, e11, e12, ga, cl, hlf, c_d18, c_d36, c_t18]
            refine ⟨_, _, cend, ?_⟩
            refine hK25 _ _ ?_
            clear hK25 K25
            simp [go_sem, e7, e11, e12, ga, cl, hlf, c_d18, c_d36, c_t18]
            first
              | exact ⟨⟨by simp [go_sem, e2], by simp [go_sem, e3], by simp [go_sem, e7], by simp [go_sem, e8], by simp [go_sem, e9], by simp [go_sem, e48], by simp [go_sem, e49], by simp [go_sem, g0], by simp [go_sem, g1]⟩, by simpa using e50, by rw [Heap.get_set, if_pos rfl, cAt_succ ls 0 w hw, hc, ga]; rfl, x, bo, by simp [go_sem, e10], by rw [esAt_small ls 1 (by omega)]; rw [esAt_small ls 0 (by omega)] at hg; exact grown_set hg hbo2, hbo0, hbo1, hbo2⟩
              | exact ⟨⟨by simp [go_sem, e2], by simp [go_sem, e3], by simp [go_sem, e7], by simp [go_sem, e8], by simp [go_sem, e9], by simp [go_sem, e48], by simp [go_sem, e49], by simp [go_sem, g0], by simp [go_sem, g1]⟩, by simpa using e50, by rw [Heap.get_set, if_pos rfl, cAt_succ ls 1 w hw, cAt_keep ls 0 1 (by omega), hc, ga]; rfl, x, bo, by simp [go_sem, e10], by rw [esAt_small ls 2 (by omega)]; rw [esAt_small ls 1 (by omega)] at hg; exact grown_set hg hbo2, hbo0, hbo1, hbo2⟩
              | exact ⟨⟨by simp [go_sem, e2], by simp [go_sem, e3], by simp [go_sem, e7], by simp [go_sem, e8], by simp [go_sem, e9], by simp [go_sem, e48], by simp [go_sem, e49], get_regrow_other (by rw [Heap.get_alloc, if_neg m0]; exact g0) hbo0, get_regrow_other (by rw [Heap.get_alloc, if_neg m1]; exact g1) hbo1⟩, by simp [go_sem, e50], by simp [go_sem, e11], by simp [go_sem, e13], hPE _ (by simp [go_sem])⟩
        · skip
          simp only [decide_eq_false_iff_not] at hb
          have hlk := lineOk_ev i w (by omega)
          refine scode_seq_k (fun K26 hK26 => ?_)
          refine scode_region (by kernel_rfl) ?_
          simp [go_sem]
          refine hK26 _ _ ?_
          try clear hK26 K26
          refine scode_seq_k (fun K27 hK27 => ?_)
          obtain ⟨ev, hev⟩ : ∃ e, (evR w).1 = e := ⟨_, rfl⟩
          have cev := event_H w hwlen
          rw [hlk, hev] at cev
          refine scode_region (by kernel_rfl) ?_
          refine w_take 2 (fun K28 hK28 => ?_)
          simp [go_sem, e12, evC]
          refine ⟨_, _, cev _, ?_⟩
          refine hK28 _ _ ?_
          clear hK28 K28
          simp [go_sem, e12, evC]
          refine hK27 _ _ ?_
          try clear hK27 K27
          have q0 := Heap.lt_of_get g0
          have q1 := Heap.lt_of_get g1
          have q2 := Heap.lt_of_get g2
          have m0 : ¬ (0 = H.next) := by omega
          have m1 : ¬ (1 = H.next) := by omega
          have m2 : ¬ (2 = H.next) := by omega
          refine scode_gen (fun env H => PSt ls last env H ∧ env 50 = .int i ∧ env 11 = .int i ∧ env 13 = errA (!(lineOk i w)) ∧ H.get 2 = some (cfgC (cAt ls 0 i) ++ cfgC (cAt ls 1 i)) ∧ env 10 = x ∧ grown H 5 x = some ((esAt ls i).length, eV ((esAt ls i).map toI), bo) ∧ ∃ k, env 14 = .ptr k 0 ∧ H.get k = some [.int ev.do_, .int ev.end_, .int ev.n, .int ev.proto, bA ev.b]) ⟨⟨by simp [go_sem, e2], by simp [go_sem, e3], by simp [go_sem, e7], by simp [go_sem, e8], by simp [go_sem, e9], by simp [go_sem, e48], by simp [go_sem, e49], by simp [go_sem, g0, m0], by simp [go_sem, g1, m1]⟩, by simp [go_sem, e50], by simp [go_sem, e11], by simp [go_sem], by simp [go_sem, g2, m2], by simp [go_sem, e10], grown_set (grown_alloc hg) (grown_ne hg), H.next, by simp [go_sem], by simp [go_sem]⟩ ?_
          clear e2 e3 e7 e8 e9 e48 e49 g0 g1 e50 g2 e10 hg e11 e12 q0 q1 q2 m0 m1 m2
          rintro env H ⟨⟨e2, e3, e7, e8, e9, e48, e49, g0, g1⟩, e50, e11, e13, g2, e10, hg, k, e14, gk⟩
          have q0 := Heap.lt_of_get g0
          have q1 := Heap.lt_of_get g1
          have q2 := Heap.lt_of_get g2
          have m0 : ¬ (0 = H.next) := by omega
          have m1 : ¬ (1 = H.next) := by omega
          have m2 : ¬ (2 = H.next) := by omega
          obtain ⟨ha, hg2⟩ := appE ev hg (Nat.le_trans (esAt_len ls i) (by omega))
          have hcl := esAt_cells ls i w hw (by omega)
          rw [hev] at hcl
          have hPE : ∀ env : Env, env 10 = .ms (H.next + 1) 0 ((esAt ls i).length + 1) 5 → PEv ls (i + 1) env ((H.alloc (evC ev)).regrow bo (eV ((esAt ls i).map toI) ++ evC ev)) := fun env h10 => ⟨get_regrow_other (by rw [Heap.get_alloc, if_neg m2, cAt_keep ls 0 i (by omega), cAt_keep ls 1 i (by omega)]; exact g2) hbo2, _, _, h10, by rw [hcl.1, hcl.2]; exact hg2, by simp, by simp; omega, by simp; omega⟩
          unfold evC at ha hPE
          refine scode_region (by kernel_rfl) ?_
          simp [go_sem, e10, e14, gk, ha, zrep5]
          first
            | exact ⟨⟨by simp [go_sem, e2], by simp [go_sem, e3], by simp [go_sem, e7], by simp [go_sem, e8], by simp [go_sem, e9], by simp [go_sem, e48], by simp [go_sem, e49], by simp [go_sem, g0], by simp [go_sem, g1]⟩, by simpa using e50, by rw [Heap.get_set, if_pos rfl, cAt_succ ls 0 w hw, hc, ga]; rfl, x, bo, by simp [go_sem, e10], by rw [esAt_small ls 1 (by omega)]; rw [esAt_small ls 0 (by omega)] at hg; exact grown_set hg hbo2, hbo0, hbo1, hbo2⟩
            | exact ⟨⟨by simp [go_sem, e2], by simp [go_sem, e3], by simp [go_sem, e7], by simp [go_sem, e8], by simp [go_sem, e9], by simp [go_sem, e48], by simp [go_sem, e49], by simp [go_sem, g0], by simp [go_sem, g1]⟩, by simpa using e50, by rw [Heap.get_set, if_pos rfl, cAt_succ ls 1 w hw, cAt_keep ls 0 1 (by omega), hc, ga]; rfl, x, bo, by simp [go_sem, e10], by rw [esAt_small ls 2 (by omega)]; rw [esAt_small ls 1 (by omega)] at hg; exact grown_set hg hbo2, hbo0, hbo1, hbo2⟩
            | exact ⟨⟨by simp [go_sem, e2], by simp [go_sem, e3], by simp [go_sem, e7], by simp [go_sem, e8], by simp [go_sem, e9], by simp [go_sem, e48], by simp [go_sem, e49], get_regrow_other (by rw [Heap.get_alloc, if_neg m0]; exact g0) hbo0, get_regrow_other (by rw [Heap.get_alloc, if_neg m1]; exact g1) hbo1⟩, by simp [go_sem, e50], by simp [go_sem, e11], by simp [go_sem, e13], hPE _ (by simp [go_sem])⟩
      clear e2 e3 e7 e8 e9 e48 e49 g0 g1 e50 g2 e10 hg
      rintro env H ⟨⟨e2, e3, e7, e8, e9, e48, e49, g0, g1⟩, e50, e11, e13, g2, x, bo, e10, hg, hbo0, hbo1, hbo2⟩
      refine scode_seq_k (fun K29 hK29 => ?_)
      have cnum := number_E (!(lineOk i w)) H
      rcases Bool.eq_false_or_eq_true (lineOk i w) with hlo | hlo
      · skip
        rw [hlo] at e13 cnum
        simp only [Bool.not_true, Bool.false_eq_true, if_false] at e13 cnum
        have hbad2 : badAt 0 ls = badAt (i + 1) (ls.drop (i + 1)) := by rw [hbad, hnext, if_pos hlo]
        refine scode_region (by kernel_rfl) ?_
        refine w_take 2 (fun K30 hK30 => ?_)
        simp [go_sem, e13]
        refine ⟨_, _, cnum, ?_⟩
        refine hK30 _ _ ?_
        clear hK30 K30
        simp [go_sem, e13]
        refine hK29 _ _ ?_
        try clear hK29 K29
        refine scode_seq_k (fun K31 hK31 => ?_)
        refine scode_region (by kernel_rfl) ?_
        simp [go_sem]
        refine hK31 _ _ ?_
        try clear hK31 K31
        refine scode_if (b := false) (by simp [go_sem]) (fun h => by cases h) (fun _ => ?_)
        refine scode_skip ?_
        refine hK19 _ _ ?_
        try clear hK19 K19
        refine scode_region (by kernel_rfl) ?_
        simp [go_sem, e50]
        have hw1 := i64_succ i (by omega)
        exact ⟨ls.length - (i + 1), by omega, i + 1, rfl, by omega, ⟨by simp [go_sem, e2], by simp [go_sem, e3], by simp [go_sem, e7], by simp [go_sem, e8], by simp [go_sem, e9], by simp [go_sem, e48], by simp [go_sem, e49], by simp [go_sem, g0], by simp [go_sem, g1]⟩, by simp [go_sem, hw1], hbad2, g2, x, bo, by simp [go_sem, e10], hg, hbo0, hbo1, hbo2⟩
      · skip
        rw [hlo] at e13 cnum
        simp only [Bool.not_false, if_true] at e13 cnum
        have hres : parseT t = .bad (i + 1) 11 := parseT_bad t ls last i hps hle hmany (by rw [hbad, hnext, if_neg (by rw [hlo]; simp)])
        refine scode_region (by kernel_rfl) ?_
        refine w_take 2 (fun K32 hK32 => ?_)
        simp [go_sem, e13]
        refine ⟨_, _, cnum, ?_⟩
        refine hK32 _ _ ?_
        clear hK32 K32
        simp [go_sem, e13]
        refine hK29 _ _ ?_
        try clear hK29 K29
        refine scode_seq_k (fun K33 hK33 => ?_)
        refine scode_region (by kernel_rfl) ?_
        simp [go_sem]
        refine hK33 _ _ ?_
        try clear hK33 K33
        refine scode_if (b := true) (by simp [go_sem]) (fun _ => ?_) (fun h => by cases h)
        refine scode_seq_k (fun K34 hK34 => ?_)
        have hw1 := i64_succ i (by omega)
        have hl1 := cfl noCfg
        refine scode_region (by kernel_rfl) ?_
        simp [go_sem, e2, e3, e11, g0, g1, hw1, cl]
        refine hK34 _ _ ?_
        try clear hK34 K34
        refine scode_ret ?_
        simp only [go_sem]
        refine hR _ _ ?_
        rw [hres]
        refine ret_pure (v := .tup [.agg (cfgC noCfg), .agg (cfgC noCfg), .nil, .int ((i : Int) + 1), .int 11]) (by first | (simp [go_sem, e2, e3, g0, g1, c_d18']; done) | (simp [go_sem, e2, e3, g0, g1, c_d18']; rfl)) ?_ (empty_le _) (Nat.zero_le _) (by simp [resA, eA, eV, go_sem, cfgC])
        exact .tupL (.cons (.same _) (.cons (.same _) (.cons (.nil 5) (.cons (.same _) (.cons (.same _) .nil)))))
    · skip
      simp only [decide_eq_false_iff_not] at hb
      obtain rfl : i = ls.length := by omega
      have hbn : badAt 0 ls = none := by rw [hbad, List.drop_eq_nil_of_le (Nat.le_refl _)]; rfl
      refine scode_exit ?_
      refine hK15 _ _ ?_
      try clear hK15 K15
      refine scode_seq_k (fun K35 hK35 => ?_)
      refine scode_seq_k (fun K36 hK36 => ?_)
      rcases Nat.lt_or_ge ls.length 2 with hm | hm
      · skip
        have m1 : (ls.length : Int) < 2 := by omega
        have hres : parseT t = .bad (ls.length + 1) 11 := parseT_open t ls last hps hle hmany hbn (.inl hm)
        refine scode_region (by kernel_rfl) ?_
        simp [go_sem, e8, e9, m1]
        refine hK36 _ _ ?_
        try clear hK36 K36
        refine scode_if (b := true) (by simp [go_sem]) (fun _ => ?_) (fun h => by cases h)
        refine scode_seq_k (fun K37 hK37 => ?_)
        have hw1 := i64_succ ls.length (by omega)
        refine scode_region (by kernel_rfl) ?_
        simp [go_sem, e2, e3, e8, g0, g1, hw1, cl]
        refine hK37 _ _ ?_
        try clear hK37 K37
        refine scode_ret ?_
        simp only [go_sem]
        refine hR _ _ ?_
        rw [hres]
        refine ret_pure (v := .tup [.agg (cfgC noCfg), .agg (cfgC noCfg), .nil, .int ((ls.length : Int) + 1), .int 11]) (by first | (simp [go_sem, e2, e3, g0, g1, c_d18']; done) | (simp [go_sem, e2, e3, g0, g1, c_d18']; rfl)) ?_ (empty_le _) (Nat.zero_le _) (by simp [resA, eA, eV, go_sem, cfgC])
        exact .tupL (.cons (.same _) (.cons (.same _) (.cons (.nil 5) (.cons (.same _) (.cons (.same _) .nil)))))
      · skip
        have m1 : ¬ ((ls.length : Int) < 2) := by omega
        refine scode_region (by kernel_rfl) ?_
        simp [go_sem, e8, e9, m1]
        refine hK36 _ _ ?_
        try clear hK36 K36
        refine scode_if (b := !(last == ([] : Word))) (by simp [go_sem]) (fun hb => ?_) (fun hb => ?_)
        · skip
          have hres : parseT t = .bad (ls.length + 1) 11 := parseT_open t ls last hps hle hmany hbn (.inr (by simpa using hb))
          refine scode_seq_k (fun K38 hK38 => ?_)
          have hw1 := i64_succ ls.length (by omega)
          refine scode_region (by kernel_rfl) ?_
          simp [go_sem, e2, e3, e8, g0, g1, hw1, cl]
          refine hK38 _ _ ?_
          try clear hK38 K38
          refine scode_ret ?_
          simp only [go_sem]
          refine hR _ _ ?_
          rw [hres]
          refine ret_pure (v := .tup [.agg (cfgC noCfg), .agg (cfgC noCfg), .nil, .int ((ls.length : Int) + 1), .int 11]) (by first | (simp [go_sem, e2, e3, g0, g1, c_d18']; done) | (simp [go_sem, e2, e3, g0, g1, c_d18']; rfl)) ?_ (empty_le _) (Nat.zero_le _) (by simp [resA, eA, eV, go_sem, cfgC])
          exact .tupL (.cons (.same _) (.cons (.same _) (.cons (.nil 5) (.cons (.same _) (.cons (.same _) .nil)))))
        · skip
          have hres := parseT_good t ls last hps hle hmany hbn (by simp at hb; simp [hb]; omega)
          refine scode_skip ?_
          refine hK35 _ _ ?_
          try clear hK35 K35
          refine scode_seq_k (fun K39 hK39 => ?_)
          obtain ⟨a, hca⟩ : ∃ a, cAt ls 0 ls.length = a := ⟨_, rfl⟩
          obtain ⟨b, hcb⟩ : ∃ b, cAt ls 1 ls.length = b := ⟨_, rfl⟩
          rw [hca, hcb] at g2 hres
          have hl1 := cfl a
          have hl2 := cfl b
          simp only [AV.leaf] at hl1 hl2
          refine scode_draw mixed (by kernel_rfl) (bf := [0, 1, 0, 4, 0, 3, 47, 127, 255, 511]) (by kernel_rfl) ?_
          simp [go_sem, e7, e2, e3, e10, g0, g1, g2, befL, cl, hl1, hl2, c_d18, c_t18, c_t18', c_d18']
          refine hK39 _ _ ?_
          try clear hK39 K39
          refine scode_ret ?_
          simp only [go_sem]
          refine hR _ _ ?_
          rw [hres]
          refine ret_pure (v := .tup [.agg (cfgC a), .agg (cfgC b), x, .int 0, .int 0]) (by simp [go_sem, e2, e3, e10, g0, g1, c_t18', cl]) ?_ (empty_le _) (Nat.zero_le _) (by simp [resA, eA, go_sem, cfgC]; exact eV_lt _ _)
          exact .tupL (.cons (.same _) (.cons (.same _) (.cons (by unfold eA; rw [List.length_map]; exact froz_vs (grown_set (grown_set hg hbo0) hbo1)) (.cons (.same _) (.cons (.same _) .nil)))))

end Go.Proofs.YtfmpakmigmehkaaGreatDoor
