/- Contract: the document's end. -/
import Derived.Test.YtfmpakmigmehkaaGreatDoorFl43
import Derived.Test.YtfmpakmigmehkaaGreatDoorS36
set_option linter.unusedVariables false
set_option linter.unusedSimpArgs false
set_option maxRecDepth 20000
noncomputable section
namespace Go.Proofs.YtfmpakmigmehkaaGreatDoor
open Go Go.Fl Go.Proofs

theorem u32in (n : Int) (h0 : 0 ≤ n) (h1 : n ≤ 4294967295) : IntKind.u32.wrap n = n := by show n % 4294967296 = n; omega
theorem flag_get (l : Word) : (flagV l).getD false = (l == [49]) := by
  unfold flagV
  by_cases h1 : l = [48]
  · subst h1; rfl
  · by_cases h2 : l = [49]
    · subst h2; rfl
    · simp [h1, h2]
theorem parseCfg_len (ws : List Word) (h : ws.length ≠ 19) : parseCfg ws = none := by
  unfold parseCfg
  split
  · exact absurd rfl h
  · rfl
def okL (w1 w2 w3 w4 w5 w6 w7 w8 w9 w10 w11 w12 w13 w14 w15 w16 w17 w18 : Word) : List Bool := [(flagV w1).isSome, (rawV' w2).isSome, (rawV' w3).isSome, (canonV w4).isSome, (flagV w5).isSome, (flagV w6).isSome, ((canonV w7).isSome && decide (0 ≤ (canonV w7).getD 0) && decide ((canonV w7).getD 0 ≤ 4294967295)), (canonV w8).isSome, (flagV w9).isSome, (canonV w10).isSome, (flagV w11).isSome, (flagV w12).isSome, (flagV w13).isSome, (flagV w14).isSome, (flagV w15).isSome, (canonV w16).isSome, (canonV w17).isSome, (canonV w18).isSome]
def cfV (w1 w2 w3 w4 w5 w6 w7 w8 w9 w10 w11 w12 w13 w14 w15 w16 w17 w18 : Word) : CfgS := ⟨((flagV w1).getD false), ((rawV' w2).getD []), ((rawV' w3).getD []), ((canonV w4).getD 0), ((flagV w5).getD false), ((flagV w6).getD false), (IntKind.u32.wrap ((canonV w7).getD 0)), ((canonV w8).getD 0), ((flagV w9).getD false), ((canonV w10).getD 0), ((flagV w11).getD false), ((flagV w12).getD false), ((flagV w13).getD false), ((flagV w14).getD false), ((flagV w15).getD false), ((canonV w16).getD 0), ((canonV w17).getD 0), ((canonV w18).getD 0)⟩
theorem bind_if {α β : Type} (o : Option α) (d : α) (f : α → Option β) : o.bind f = if o.isSome = true then f (o.getD d) else none := by cases o <;> rfl
theorem if_if {β : Type} (a b : Bool) (x : Option β) : (if a = true then (if b = true then x else none) else none) = if (a && b) = true then x else none := by cases a <;> cases b <;> rfl
theorem accm_bind {β : Type} (w : Word) (f : Int → Option β) : (accmV w).bind f = if ((canonV w).isSome && decide (0 ≤ (canonV w).getD 0) && decide ((canonV w).getD 0 ≤ 4294967295)) = true then f (IntKind.u32.wrap ((canonV w).getD 0)) else none := by
  unfold accmV
  cases canonV w with
  | none => rfl
  | some n =>
    by_cases h : 0 ≤ n ∧ n ≤ 4294967295
    · have hw : IntKind.u32.wrap n = n := u32in n h.1 (by omega)
      simp [h, hw]
    · simp only [Option.bind_some, if_neg h, Option.bind_none, Option.isSome_some, Option.getD_some, Bool.true_and]
      rw [if_neg]
      simpa using h
theorem parseCfg_all (w0 w1 w2 w3 w4 w5 w6 w7 w8 w9 w10 w11 w12 w13 w14 w15 w16 w17 w18 : Word) : parseCfg [w0, w1, w2, w3, w4, w5, w6, w7, w8, w9, w10, w11, w12, w13, w14, w15, w16, w17, w18] = if (w0 == wEnd && (okL w1 w2 w3 w4 w5 w6 w7 w8 w9 w10 w11 w12 w13 w14 w15 w16 w17 w18).all id) = true then some (cfV w1 w2 w3 w4 w5 w6 w7 w8 w9 w10 w11 w12 w13 w14 w15 w16 w17 w18) else none := by
  simp only [parseCfg]
  by_cases h0 : w0 = wEnd
  · have h0b : (w0 == wEnd) = true := by simpa using h0
    rw [if_pos h0, h0b]
    rw [bind_if (flagV w1) false]
    rw [bind_if (rawV' w2) []]
    rw [bind_if (rawV' w3) []]
    rw [bind_if (canonV w4) 0]
    rw [bind_if (flagV w5) false]
    rw [bind_if (flagV w6) false]
    rw [accm_bind]
    rw [bind_if (canonV w8) 0]
    rw [bind_if (flagV w9) false]
    rw [bind_if (canonV w10) 0]
    rw [bind_if (flagV w11) false]
    rw [bind_if (flagV w12) false]
    rw [bind_if (flagV w13) false]
    rw [bind_if (flagV w14) false]
    rw [bind_if (flagV w15) false]
    rw [bind_if (canonV w16) 0]
    rw [bind_if (canonV w17) 0]
    rw [bind_if (canonV w18) 0]
    simp only [if_if, Bool.true_and]
    congr 1
    unfold okL
    simp only [List.all_cons, List.all_nil, id, Bool.and_true, Bool.and_assoc]
  · have h0b : (w0 == wEnd) = false := by simpa using h0
    rw [if_neg h0, h0b]
    rfl

/-- What the document's config answers. -/
def rC2 (l : Word) : CfgS × Bool := match cfgV l with
  | some c => (c, true)
  | none => (noCfg, false)
def okC (z : List Bool) : List AV := z.map .bool
theorem okC_len (z : List Bool) : (okC z).length = z.length := by simp [okC]
theorem okC_set (z : List Bool) (i : Nat) (h : i < z.length) (v : Bool) : List.take i (okC z) ++ .bool v :: List.drop (i + 1) (okC z) = okC (z.set i v) := by
  unfold okC
  rw [List.set_eq_take_append_cons_drop, if_pos h]
  simp
theorem okC_at {z : List Bool} {i : Nat} {b : Bool} (h : z[i]? = some b) : ∃ r, (okC z).drop i = .bool b :: r := by
  have hi := (List.getElem?_eq_some_iff.1 h)
  refine ⟨okC (z.drop (i + 1)), ?_⟩
  unfold okC
  rw [← List.map_drop, List.drop_eq_getElem_cons hi.1, hi.2]
  rfl
theorem zrep18 : zrep [.bool false] 18 = okC (List.replicate 18 false) := rfl
theorem rflag_H (l : Word) (H : Heap) : SCalls Tryz.prog 48 [sA l] H (.tup [.bool ((flagV l).getD false), .bool (flagV l).isSome]) H := by
  rw [flag_get]
  exact scalls_frame (rflag_s l) (by simp [go_sem]) (by simp [go_sem]) H
def RCf (ws : List Word) (c : CfgS) (z : List Bool) (env : Env) (H : Heap) : Prop := env 2 = .ptr 0 0 ∧ env 4 = .vs 19 1 (wV ws) ∧ env 5 = .ms 1 0 18 1 ∧ env 6 = .ptr 2 0 ∧ H.get 0 = some (cfgC noCfg) ∧ H.get 1 = some (okC z) ∧ H.get 2 = some (cfgC c)

theorem sx1 (c : CfgS) (v : Bool) : List.take 0 (cfgC c) ++ .bool v :: List.drop 1 (cfgC c) = cfgC { c with server := v } := rfl

theorem sx2 (c : CfgS) (v : Word) : List.take 1 (cfgC c) ++ sA v :: List.drop 2 (cfgC c) = cfgC { c with name := v } := rfl

theorem sx3 (c : CfgS) (v : Word) : List.take 2 (cfgC c) ++ sA v :: List.drop 3 (cfgC c) = cfgC { c with secret := v } := rfl

theorem sx4 (c : CfgS) (v : Int) : List.take 3 (cfgC c) ++ .int v :: List.drop 4 (cfgC c) = cfgC { c with mru := v } := rfl

theorem sx5 (c : CfgS) (v : Bool) : List.take 4 (cfgC c) ++ .bool v :: List.drop 5 (cfgC c) = cfgC { c with pfc := v } := rfl

theorem sx6 (c : CfgS) (v : Bool) : List.take 5 (cfgC c) ++ .bool v :: List.drop 6 (cfgC c) = cfgC { c with acfc := v } := rfl

theorem sx7 (c : CfgS) (v : Int) : List.take 6 (cfgC c) ++ .sc (.int .u32 v) :: List.drop 7 (cfgC c) = cfgC { c with accm := v } := rfl

theorem sx8 (c : CfgS) (v : Int) : List.take 7 (cfgC c) ++ .int v :: List.drop 8 (cfgC c) = cfgC { c with mrru := v } := rfl

theorem sx9 (c : CfgS) (v : Bool) : List.take 8 (cfgC c) ++ .bool v :: List.drop 9 (cfgC c) = cfgC { c with short := v } := rfl

theorem sx10 (c : CfgS) (v : Int) : List.take 9 (cfgC c) ++ .int v :: List.drop 10 (cfgC c) = cfgC { c with bits := v } := rfl

theorem sx11 (c : CfgS) (v : Bool) : List.take 10 (cfgC c) ++ .bool v :: List.drop 11 (cfgC c) = cfgC { c with stl := v } := rfl

theorem sx12 (c : CfgS) (v : Bool) : List.take 11 (cfgC c) ++ .bool v :: List.drop 12 (cfgC c) = cfgC { c with mppc := v } := rfl

theorem sx13 (c : CfgS) (v : Bool) : List.take 12 (cfgC c) ++ .bool v :: List.drop 13 (cfgC c) = cfgC { c with defl := v } := rfl

theorem sx14 (c : CfgS) (v : Bool) : List.take 13 (cfgC c) ++ .bool v :: List.drop 14 (cfgC c) = cfgC { c with must := v } := rfl

theorem sx15 (c : CfgS) (v : Bool) : List.take 14 (cfgC c) ++ .bool v :: List.drop 15 (cfgC c) = cfgC { c with sym := v } := rfl

theorem sx16 (c : CfgS) (v : Int) : List.take 15 (cfgC c) ++ .int v :: List.drop 16 (cfgC c) = cfgC { c with tmo := v } := rfl

theorem sx17 (c : CfgS) (v : Int) : List.take 16 (cfgC c) ++ .int v :: List.drop 17 (cfgC c) = cfgC { c with tries := v } := rfl

theorem sx18 (c : CfgS) (v : Int) : List.take 17 (cfgC c) ++ .int v :: List.drop 18 (cfgC c) = cfgC { c with frag := v } := rfl

theorem sx1t (c : CfgS) (v : Bool) : AV.bool v :: (cfgC c).tail = cfgC { c with server := v } := rfl

theorem okC_set0 (z : List Bool) (h : 0 < z.length) (v : Bool) : AV.bool v :: (okC z).tail = okC (z.set 0 v) := by
  cases z with
  | nil => simp at h
  | cons x z => rfl

set_option maxHeartbeats 8000000 in
theorem rconfig_s (l : Word) (hl : l.length ≤ 1000000) : SCalls Tryz.prog 23 [sA l] Heap.empty (.tup [.agg (cfgC (rC2 l).1), .bool (rC2 l).2]) Heap.empty := by
  obtain ⟨ws, hp⟩ : ∃ ws, pieces 32 l = ws := ⟨_, rfl⟩
  have c47 := words_s l hl
  rw [hp] at c47
  unfold wA at c47
  have hpl : ∀ w ∈ ws, w.length ≤ 1000000 := fun w hw => Nat.le_trans (pieces_len 32 l w (by rw [hp]; exact hw)) hl
  refine scalls_of_k (sz := 238) (Tryz.call23) Tryz.func23 rfl (Nat.zero_le _) (by kernel_rfl) (fun R hR => ?_)
  refine scode_seq_k (fun K1 hK1 => ?_)
  refine scode_region (by kernel_rfl) ?_
  simp [go_sem]
  refine hK1 _ _ ?_
  try clear hK1 K1
  refine scode_seq_mid (fun env H => env 2 = .ptr 0 0 ∧ env 4 = .vs ws.length 1 (wV ws) ∧ H.get 0 = some (cfgC noCfg) ∧ H.next = 1) ?_ ?_
  · skip
    refine scode_hide (fun K3 hK3 => ?_)
    refine scode_region (by kernel_rfl) ?_
    refine w_take 2 (fun K4 hK4 => ?_)
    simp [go_sem]
    refine ⟨_, _, scalls_frame c47 (by simp [go_sem]) (by simp [go_sem, wV]) _, ?_⟩
    refine hK4 _ _ ?_
    clear hK4 K4
    simp [go_sem]
    refine hK3 _ _ ?_
    exact ⟨by simp [go_sem], by simp [go_sem], by simp [go_sem, cfgC, noCfg]; rfl, by simp [go_sem]⟩
  rintro env H ⟨e2, e4, g0, hn⟩
  refine scode_seq_k (fun K5 hK5 => ?_)
  refine scode_seq_k (fun K6 hK6 => ?_)
  by_cases hl19 : ws.length = 19
  · skip
    obtain ⟨w0, w1, w2, w3, w4, w5, w6, w7, w8, w9, w10, w11, w12, w13, w14, w15, w16, w17, w18, rfl⟩ : ∃ w0 w1 w2 w3 w4 w5 w6 w7 w8 w9 w10 w11 w12 w13 w14 w15 w16 w17 w18, ws = [w0, w1, w2, w3, w4, w5, w6, w7, w8, w9, w10, w11, w12, w13, w14, w15, w16, w17, w18] := by
      match ws, hl19 with
      | [w0, w1, w2, w3, w4, w5, w6, w7, w8, w9, w10, w11, w12, w13, w14, w15, w16, w17, w18], _ => exact ⟨w0, w1, w2, w3, w4, w5, w6, w7, w8, w9, w10, w11, w12, w13, w14, w15, w16, w17, w18, rfl⟩
    have hall := parseCfg_all w0 w1 w2 w3 w4 w5 w6 w7 w8 w9 w10 w11 w12 w13 w14 w15 w16 w17 w18
    rw [← hp] at hall
    simp only [List.length_cons, List.length_nil, Nat.reduceAdd] at e4
    refine scode_region (by kernel_rfl) ?_
    simp [go_sem, e4, wV]
    refine hK6 _ _ ?_
    try clear hK6 K6
    refine scode_if (b := !(w0 == wEnd)) (by simp [go_sem, wEnd]) (fun hb => ?_) (fun hb => ?_)
    · skip
      have hb0 : (w0 == wEnd) = false := by simpa using hb
      rw [hb0] at hall
      have hres : rC2 l = (noCfg, false) := by unfold rC2 cfgV; rw [hall]; rfl
      refine scode_seq_k (fun K7 hK7 => ?_)
      refine scode_region (by kernel_rfl) ?_
      simp [go_sem, e2, g0]
      refine hK7 _ _ ?_
      try clear hK7 K7
      refine scode_ret ?_
      simp only [go_sem]
      refine hR _ _ ?_
      rw [hres]
      exact ret_plain (by first | (simp [go_sem, e2, g0, c_t18', cl]; done) | (simp [go_sem, e2, g0, c_t18', cl]; rfl)) (empty_le _) (Nat.zero_le _) (by simp [go_sem, cfgC])
    · skip
      have hb0 : (w0 == wEnd) = true := by simpa using hb
      rw [hb0] at hall
      simp only [Bool.true_and] at hall
      refine scode_skip ?_
      refine hK5 _ _ ?_
      try clear hK5 K5
      refine scode_seq_mid (fun env H => env 2 = .ptr 0 0 ∧ env 4 = .vs 19 1 (wV [w0, w1, w2, w3, w4, w5, w6, w7, w8, w9, w10, w11, w12, w13, w14, w15, w16, w17, w18]) ∧ env 5 = .ms 1 0 18 1 ∧ H.get 0 = some (cfgC noCfg) ∧ H.get 1 = some (okC (List.replicate 18 false)) ∧ H.next = 2) ?_ ?_
      · skip
        refine scode_hide (fun K9 hK9 => ?_)
        refine scode_region (by kernel_rfl) ?_
        simp [go_sem, hn]
        refine hK9 _ _ ?_
        exact ⟨by simp [go_sem, e2], by simp [go_sem, e4], by simp [go_sem, hn], by simp [go_sem, g0, hn], by simp [go_sem, hn, zrep18], by simp [go_sem, hn]⟩
      clear e2 e4 g0 hn
      rintro env H ⟨e2, e4, e5, g0, g1, hn⟩
      refine scode_seq_mid (RCf [w0, w1, w2, w3, w4, w5, w6, w7, w8, w9, w10, w11, w12, w13, w14, w15, w16, w17, w18] noCfg (List.replicate 18 false)) ?_ ?_
      · skip
        refine scode_hide (fun K11 hK11 => ?_)
        refine scode_region (by kernel_rfl) ?_
        simp [go_sem, hn]
        refine hK11 _ _ ?_
        exact ⟨by simp [go_sem, e2], by simp [go_sem, e4], by simp [go_sem, e5], by simp [go_sem, hn], by simp [go_sem, g0, hn], by simp [go_sem, g1, hn], by simp [go_sem, cfgC, noCfg, hn]; try rfl⟩
      clear e2 e4 e5 g0 g1 hn
      rintro env H ⟨e2, e4, e5, e6, g0, g1, g2⟩
      obtain ⟨c0, hc0⟩ : ∃ c, noCfg = c := ⟨_, rfl⟩
      obtain ⟨z0, hz0⟩ : ∃ z, List.replicate 18 false = z := ⟨_, rfl⟩
      have hzl0 : z0.length = 18 := by rw [← hz0]; rfl
      simp only [hz0] at g1
      conv at g2 => rw [hc0]
      refine scode_seq_mid (RCf [w0, w1, w2, w3, w4, w5, w6, w7, w8, w9, w10, w11, w12, w13, w14, w15, w16, w17, w18] { c0 with server := ((flagV w1).getD false) } (z0.set 0 (flagV w1).isSome)) ?_ ?_
      · skip
        have so := okC_set z0 0 (by omega)
        have zl : (okC z0).length = 18 := by rw [okC_len, hzl0]
        have so0 := okC_set0 z0 (by omega)
        refine scode_hide (fun K13 hK13 => ?_)
        refine scode_region (by kernel_rfl) ?_
        refine w_take 5 (fun K14 hK14 => ?_)
        simp [go_sem, e4, e5, e6, g1, g2, wV, cl, sx1, so, zl, sx1t, so0]
        refine ⟨_, _, rflag_H w1 _, ?_⟩
        refine hK14 _ _ ?_
        clear hK14 K14
        simp [go_sem, e4, e5, e6, g1, g2, wV, cl, sx1, so, zl, sx1t, so0]
        refine hK13 _ _ ?_
        exact ⟨by simp [go_sem, e2], by simp [go_sem, e4], by simp [go_sem, e5], by simp [go_sem, e6], by simp [go_sem, g0], by simp [go_sem, g1], by simp [go_sem, g2]⟩
      clear e2 e4 e5 e6 g0 g1 g2
      rintro env H ⟨e2, e4, e5, e6, g0, g1, g2⟩
      obtain ⟨c1, hc1⟩ : ∃ c, { c0 with server := ((flagV w1).getD false) } = c := ⟨_, rfl⟩
      obtain ⟨z1, hz1⟩ : ∃ z, (z0.set 0 (flagV w1).isSome) = z := ⟨_, rfl⟩
      have hzl1 : z1.length = 18 := by rw [← hz1, List.length_set, hzl0]
      rw [hc1] at g2
      rw [hz1] at g1
      refine scode_seq_mid (fun env H => RCf [w0, w1, w2, w3, w4, w5, w6, w7, w8, w9, w10, w11, w12, w13, w14, w15, w16, w17, w18] c1 z1 env H ∧ env 7 = bA ((rawV' w2).getD []) ∧ env 8 = .bool (rawV' w2).isSome) ?_ ?_
      · skip
        have hx2 : w2.length ≤ 1000000 := hpl w2 (by simp)
        refine scode_hide (fun K16 hK16 => ?_)
        refine scode_region (by kernel_rfl) ?_
        refine w_take 4 (fun K17 hK17 => ?_)
        simp [go_sem, e4, wV]
        refine ⟨_, _, raw_H w2 hx2 _, ?_⟩
        refine hK17 _ _ ?_
        clear hK17 K17
        simp [go_sem, e4, wV]
        refine hK16 _ _ ?_
        exact ⟨⟨by simp [go_sem, e2], by simp [go_sem, e4], by simp [go_sem, e5], by simp [go_sem, e6], by simp [go_sem, g0], by simp [go_sem, g1], by simp [go_sem, g2]⟩, by simp [go_sem, bA], by simp [go_sem]⟩
      clear e2 e4 e5 e6 g0 g1 g2
      rintro env H ⟨⟨e2, e4, e5, e6, g0, g1, g2⟩, e7, e8⟩
      refine scode_seq_mid (fun env H => RCf [w0, w1, w2, w3, w4, w5, w6, w7, w8, w9, w10, w11, w12, w13, w14, w15, w16, w17, w18] c1 z1 env H ∧ (env 7 = bA ((rawV' w2).getD []) ∧ env 8 = .bool (rawV' w2).isSome) ∧ env 9 = bA ((rawV' w3).getD []) ∧ env 10 = .bool (rawV' w3).isSome) ?_ ?_
      · skip
        have hx3 : w3.length ≤ 1000000 := hpl w3 (by simp)
        refine scode_hide (fun K19 hK19 => ?_)
        refine scode_region (by kernel_rfl) ?_
        refine w_take 4 (fun K20 hK20 => ?_)
        simp [go_sem, e4, wV]
        refine ⟨_, _, raw_H w3 hx3 _, ?_⟩
        refine hK20 _ _ ?_
        clear hK20 K20
        simp [go_sem, e4, wV]
        refine hK19 _ _ ?_
        exact ⟨⟨by simp [go_sem, e2], by simp [go_sem, e4], by simp [go_sem, e5], by simp [go_sem, e6], by simp [go_sem, g0], by simp [go_sem, g1], by simp [go_sem, g2]⟩, ⟨by simp [go_sem, e7], by simp [go_sem, e8]⟩, by simp [go_sem, bA], by simp [go_sem]⟩
      clear e2 e4 e5 e6 g0 g1 g2 e7 e8
      rintro env H ⟨⟨e2, e4, e5, e6, g0, g1, g2⟩, ⟨e7, e8⟩, e9, e10⟩
      refine scode_seq_mid (fun env H => RCf [w0, w1, w2, w3, w4, w5, w6, w7, w8, w9, w10, w11, w12, w13, w14, w15, w16, w17, w18] c1 (z1.set 1 (rawV' w2).isSome) env H ∧ (env 7 = bA ((rawV' w2).getD []) ∧ env 8 = .bool (rawV' w2).isSome) ∧ env 9 = bA ((rawV' w3).getD []) ∧ env 10 = .bool (rawV' w3).isSome) ?_ ?_
      · skip
        have so := okC_set z1 1 (by omega)
        have zl : (okC z1).length = 18 := by rw [okC_len, hzl1]
        refine scode_hide (fun K22 hK22 => ?_)
        refine scode_region (by kernel_rfl) ?_
        simp [go_sem, e5, e8, e10, g1, so, zl]
        refine hK22 _ _ ?_
        exact ⟨⟨by simp [go_sem, e2], by simp [go_sem, e4], by simp [go_sem, e5], by simp [go_sem, e6], by simp [go_sem, g0], by simp [go_sem, g1], by simp [go_sem, g2]⟩, ⟨by simp [go_sem, e7], by simp [go_sem, e8]⟩, by simp [go_sem, e9], by simp [go_sem, e10]⟩
      clear e2 e4 e5 e6 g0 g1 g2 e7 e8 e9 e10
      rintro env H ⟨⟨e2, e4, e5, e6, g0, g1, g2⟩, ⟨e7, e8⟩, e9, e10⟩
      obtain ⟨z2, hz2⟩ : ∃ z, (z1.set 1 (rawV' w2).isSome) = z := ⟨_, rfl⟩
      have hzl2 : z2.length = 18 := by rw [← hz2, List.length_set, hzl1]
      rw [hz2] at g1
      refine scode_seq_mid (fun env H => RCf [w0, w1, w2, w3, w4, w5, w6, w7, w8, w9, w10, w11, w12, w13, w14, w15, w16, w17, w18] c1 (z2.set 2 (rawV' w3).isSome) env H ∧ (env 7 = bA ((rawV' w2).getD []) ∧ env 8 = .bool (rawV' w2).isSome) ∧ env 9 = bA ((rawV' w3).getD []) ∧ env 10 = .bool (rawV' w3).isSome) ?_ ?_
      · skip
        have so := okC_set z2 2 (by omega)
        have zl : (okC z2).length = 18 := by rw [okC_len, hzl2]
        refine scode_hide (fun K24 hK24 => ?_)
        refine scode_region (by kernel_rfl) ?_
        simp [go_sem, e5, e8, e10, g1, so, zl]
        refine hK24 _ _ ?_
        exact ⟨⟨by simp [go_sem, e2], by simp [go_sem, e4], by simp [go_sem, e5], by simp [go_sem, e6], by simp [go_sem, g0], by simp [go_sem, g1], by simp [go_sem, g2]⟩, ⟨by simp [go_sem, e7], by simp [go_sem, e8]⟩, by simp [go_sem, e9], by simp [go_sem, e10]⟩
      clear e2 e4 e5 e6 g0 g1 g2 e7 e8 e9 e10
      rintro env H ⟨⟨e2, e4, e5, e6, g0, g1, g2⟩, ⟨e7, e8⟩, e9, e10⟩
      obtain ⟨z3, hz3⟩ : ∃ z, (z2.set 2 (rawV' w3).isSome) = z := ⟨_, rfl⟩
      have hzl3 : z3.length = 18 := by rw [← hz3, List.length_set, hzl2]
      rw [hz3] at g1
      refine scode_seq_mid (fun env H => RCf [w0, w1, w2, w3, w4, w5, w6, w7, w8, w9, w10, w11, w12, w13, w14, w15, w16, w17, w18] { c1 with name := ((rawV' w2).getD []) } z3 env H ∧ env 9 = bA ((rawV' w3).getD [])) ?_ ?_
      · skip
        refine scode_hide (fun K26 hK26 => ?_)
        refine scode_region (by kernel_rfl) ?_
        simp [go_sem, e7, e6, g2, cl, sx2, bA, bV_len, u8s_bV, strOf_bs]
        refine hK26 _ _ ?_
        exact ⟨⟨by simp [go_sem, e2], by simp [go_sem, e4], by simp [go_sem, e5], by simp [go_sem, e6], by simp [go_sem, g0], by simp [go_sem, g1], by simp [go_sem, g2]⟩, by simp [go_sem, e9]⟩
      clear e2 e4 e5 e6 g0 g1 g2 e7 e8 e9 e10
      rintro env H ⟨⟨e2, e4, e5, e6, g0, g1, g2⟩, e9⟩
      obtain ⟨c2, hc2⟩ : ∃ c, { c1 with name := ((rawV' w2).getD []) } = c := ⟨_, rfl⟩
      rw [hc2] at g2
      refine scode_seq_mid (fun env H => RCf [w0, w1, w2, w3, w4, w5, w6, w7, w8, w9, w10, w11, w12, w13, w14, w15, w16, w17, w18] { c2 with secret := ((rawV' w3).getD []) } z3 env H) ?_ ?_
      · skip
        refine scode_hide (fun K28 hK28 => ?_)
        refine scode_region (by kernel_rfl) ?_
        simp [go_sem, e9, e6, g2, cl, sx3, bA, bV_len, u8s_bV, strOf_bs]
        refine hK28 _ _ ?_
        exact ⟨by simp [go_sem, e2], by simp [go_sem, e4], by simp [go_sem, e5], by simp [go_sem, e6], by simp [go_sem, g0], by simp [go_sem, g1], by simp [go_sem, g2]⟩
      clear e2 e4 e5 e6 g0 g1 g2 e9
      rintro env H ⟨e2, e4, e5, e6, g0, g1, g2⟩
      obtain ⟨c3, hc3⟩ : ∃ c, { c2 with secret := ((rawV' w3).getD []) } = c := ⟨_, rfl⟩
      rw [hc3] at g2
      refine scode_seq_mid (RCf [w0, w1, w2, w3, w4, w5, w6, w7, w8, w9, w10, w11, w12, w13, w14, w15, w16, w17, w18] { c3 with mru := ((canonV w4).getD 0) } (z3.set 3 (canonV w4).isSome)) ?_ ?_
      · skip
        have so := okC_set z3 3 (by omega)
        have zl : (okC z3).length = 18 := by rw [okC_len, hzl3]
        refine scode_hide (fun K30 hK30 => ?_)
        refine scode_region (by kernel_rfl) ?_
        refine w_take 5 (fun K31 hK31 => ?_)
        simp [go_sem, e4, e5, e6, g1, g2, wV, cl, sx4, so, zl]
        refine ⟨_, _, refnum_H w4 _, ?_⟩
        refine hK31 _ _ ?_
        clear hK31 K31
        simp [go_sem, e4, e5, e6, g1, g2, wV, cl, sx4, so, zl]
        refine hK30 _ _ ?_
        exact ⟨by simp [go_sem, e2], by simp [go_sem, e4], by simp [go_sem, e5], by simp [go_sem, e6], by simp [go_sem, g0], by simp [go_sem, g1], by simp [go_sem, g2]⟩
      clear e2 e4 e5 e6 g0 g1 g2
      rintro env H ⟨e2, e4, e5, e6, g0, g1, g2⟩
      obtain ⟨c4, hc4⟩ : ∃ c, { c3 with mru := ((canonV w4).getD 0) } = c := ⟨_, rfl⟩
      obtain ⟨z4, hz4⟩ : ∃ z, (z3.set 3 (canonV w4).isSome) = z := ⟨_, rfl⟩
      have hzl4 : z4.length = 18 := by rw [← hz4, List.length_set, hzl3]
      rw [hc4] at g2
      rw [hz4] at g1
      refine scode_seq_mid (RCf [w0, w1, w2, w3, w4, w5, w6, w7, w8, w9, w10, w11, w12, w13, w14, w15, w16, w17, w18] { c4 with pfc := ((flagV w5).getD false) } (z4.set 4 (flagV w5).isSome)) ?_ ?_
      · skip
        have so := okC_set z4 4 (by omega)
        have zl : (okC z4).length = 18 := by rw [okC_len, hzl4]
        refine scode_hide (fun K33 hK33 => ?_)
        refine scode_region (by kernel_rfl) ?_
        refine w_take 5 (fun K34 hK34 => ?_)
        simp [go_sem, e4, e5, e6, g1, g2, wV, cl, sx5, so, zl]
        refine ⟨_, _, rflag_H w5 _, ?_⟩
        refine hK34 _ _ ?_
        clear hK34 K34
        simp [go_sem, e4, e5, e6, g1, g2, wV, cl, sx5, so, zl]
        refine hK33 _ _ ?_
        exact ⟨by simp [go_sem, e2], by simp [go_sem, e4], by simp [go_sem, e5], by simp [go_sem, e6], by simp [go_sem, g0], by simp [go_sem, g1], by simp [go_sem, g2]⟩
      clear e2 e4 e5 e6 g0 g1 g2
      rintro env H ⟨e2, e4, e5, e6, g0, g1, g2⟩
      obtain ⟨c5, hc5⟩ : ∃ c, { c4 with pfc := ((flagV w5).getD false) } = c := ⟨_, rfl⟩
      obtain ⟨z5, hz5⟩ : ∃ z, (z4.set 4 (flagV w5).isSome) = z := ⟨_, rfl⟩
      have hzl5 : z5.length = 18 := by rw [← hz5, List.length_set, hzl4]
      rw [hc5] at g2
      rw [hz5] at g1
      refine scode_seq_mid (RCf [w0, w1, w2, w3, w4, w5, w6, w7, w8, w9, w10, w11, w12, w13, w14, w15, w16, w17, w18] { c5 with acfc := ((flagV w6).getD false) } (z5.set 5 (flagV w6).isSome)) ?_ ?_
      · skip
        have so := okC_set z5 5 (by omega)
        have zl : (okC z5).length = 18 := by rw [okC_len, hzl5]
        refine scode_hide (fun K36 hK36 => ?_)
        refine scode_region (by kernel_rfl) ?_
        refine w_take 5 (fun K37 hK37 => ?_)
        simp [go_sem, e4, e5, e6, g1, g2, wV, cl, sx6, so, zl]
        refine ⟨_, _, rflag_H w6 _, ?_⟩
        refine hK37 _ _ ?_
        clear hK37 K37
        simp [go_sem, e4, e5, e6, g1, g2, wV, cl, sx6, so, zl]
        refine hK36 _ _ ?_
        exact ⟨by simp [go_sem, e2], by simp [go_sem, e4], by simp [go_sem, e5], by simp [go_sem, e6], by simp [go_sem, g0], by simp [go_sem, g1], by simp [go_sem, g2]⟩
      clear e2 e4 e5 e6 g0 g1 g2
      rintro env H ⟨e2, e4, e5, e6, g0, g1, g2⟩
      obtain ⟨c6, hc6⟩ : ∃ c, { c5 with acfc := ((flagV w6).getD false) } = c := ⟨_, rfl⟩
      obtain ⟨z6, hz6⟩ : ∃ z, (z5.set 5 (flagV w6).isSome) = z := ⟨_, rfl⟩
      have hzl6 : z6.length = 18 := by rw [← hz6, List.length_set, hzl5]
      rw [hc6] at g2
      rw [hz6] at g1
      refine scode_seq_mid (fun env H => RCf [w0, w1, w2, w3, w4, w5, w6, w7, w8, w9, w10, w11, w12, w13, w14, w15, w16, w17, w18] c6 z6 env H ∧ env 11 = .int ((canonV w7).getD 0) ∧ env 12 = .bool (canonV w7).isSome) ?_ ?_
      · skip
        refine scode_hide (fun K39 hK39 => ?_)
        refine scode_region (by kernel_rfl) ?_
        refine w_take 4 (fun K40 hK40 => ?_)
        simp [go_sem, e4, wV]
        refine ⟨_, _, refnum_H w7 _, ?_⟩
        refine hK40 _ _ ?_
        clear hK40 K40
        simp [go_sem, e4, wV]
        refine hK39 _ _ ?_
        exact ⟨⟨by simp [go_sem, e2], by simp [go_sem, e4], by simp [go_sem, e5], by simp [go_sem, e6], by simp [go_sem, g0], by simp [go_sem, g1], by simp [go_sem, g2]⟩, by simp [go_sem], by simp [go_sem]⟩
      clear e2 e4 e5 e6 g0 g1 g2
      rintro env H ⟨⟨e2, e4, e5, e6, g0, g1, g2⟩, e11, e12⟩
      refine scode_seq_mid (fun env H => RCf [w0, w1, w2, w3, w4, w5, w6, w7, w8, w9, w10, w11, w12, w13, w14, w15, w16, w17, w18] c6 (z6.set 6 ((canonV w7).isSome && decide (0 ≤ (canonV w7).getD 0) && decide ((canonV w7).getD 0 ≤ 4294967295))) env H ∧ env 11 = .int ((canonV w7).getD 0)) ?_ ?_
      · skip
        have so := okC_set z6 6 (by omega)
        have zl : (okC z6).length = 18 := by rw [okC_len, hzl6]
        obtain ⟨b7, h7⟩ : ∃ b, (canonV w7).isSome = b := ⟨_, rfl⟩
        obtain ⟨b8, h8⟩ : ∃ b, decide (0 ≤ (canonV w7).getD 0) = b := ⟨_, rfl⟩
        obtain ⟨b9, h9⟩ : ∃ b, decide ((canonV w7).getD 0 ≤ 4294967295) = b := ⟨_, rfl⟩
        rcases (by cases b7 <;> cases b8 <;> cases b9 <;> simp : (b7 = true ∧ b8 = true ∧ b9 = true) ∨ (b7 = true ∧ b8 = true ∧ b9 = false) ∨ (b7 = true ∧ b8 = false) ∨ b7 = false) with ⟨rfl, rfl, rfl⟩ | ⟨rfl, rfl, rfl⟩ | ⟨rfl, rfl⟩ | rfl
        · skip
          have hzz : z6.set 6 true = z6.set 6 ((canonV w7).isSome && decide (0 ≤ (canonV w7).getD 0) && decide ((canonV w7).getD 0 ≤ 4294967295)) := by rw [h7, h8, h9]; rfl
          refine scode_hide (fun K42 hK42 => ?_)
          refine scode_region (by kernel_rfl) ?_
          simp [go_sem, e5, e11, e12, g1, so, zl, h7, h8, h9]
          refine hK42 _ _ ?_
          rw [← hzz]
          exact ⟨⟨by simp [go_sem, e2], by simp [go_sem, e4], by simp [go_sem, e5], by simp [go_sem, e6], by simp [go_sem, g0], by simp [go_sem, g1], by simp [go_sem, g2]⟩, by simp [go_sem, e11]⟩
        · skip
          have hzz : z6.set 6 false = z6.set 6 ((canonV w7).isSome && decide (0 ≤ (canonV w7).getD 0) && decide ((canonV w7).getD 0 ≤ 4294967295)) := by rw [h7, h8, h9]; rfl
          refine scode_hide (fun K43 hK43 => ?_)
          refine scode_region (by kernel_rfl) ?_
          simp [go_sem, e5, e11, e12, g1, so, zl, h7, h8, h9]
          refine hK43 _ _ ?_
          rw [← hzz]
          exact ⟨⟨by simp [go_sem, e2], by simp [go_sem, e4], by simp [go_sem, e5], by simp [go_sem, e6], by simp [go_sem, g0], by simp [go_sem, g1], by simp [go_sem, g2]⟩, by simp [go_sem, e11]⟩
        · skip
          have hzz : z6.set 6 false = z6.set 6 ((canonV w7).isSome && decide (0 ≤ (canonV w7).getD 0) && decide ((canonV w7).getD 0 ≤ 4294967295)) := by rw [h7, h8]; simp
          refine scode_hide (fun K44 hK44 => ?_)
          refine scode_region (by kernel_rfl) ?_
          simp [go_sem, e5, e11, e12, g1, so, zl, h7, h8]
          refine hK44 _ _ ?_
          rw [← hzz]
          exact ⟨⟨by simp [go_sem, e2], by simp [go_sem, e4], by simp [go_sem, e5], by simp [go_sem, e6], by simp [go_sem, g0], by simp [go_sem, g1], by simp [go_sem, g2]⟩, by simp [go_sem, e11]⟩
        · skip
          have hzz : z6.set 6 false = z6.set 6 ((canonV w7).isSome && decide (0 ≤ (canonV w7).getD 0) && decide ((canonV w7).getD 0 ≤ 4294967295)) := by rw [h7]; rfl
          refine scode_hide (fun K45 hK45 => ?_)
          refine scode_region (by kernel_rfl) ?_
          simp [go_sem, e5, e11, e12, g1, so, zl, h7]
          refine hK45 _ _ ?_
          rw [← hzz]
          exact ⟨⟨by simp [go_sem, e2], by simp [go_sem, e4], by simp [go_sem, e5], by simp [go_sem, e6], by simp [go_sem, g0], by simp [go_sem, g1], by simp [go_sem, g2]⟩, by simp [go_sem, e11]⟩
      clear e2 e4 e5 e6 g0 g1 g2 e11 e12
      rintro env H ⟨⟨e2, e4, e5, e6, g0, g1, g2⟩, e11⟩
      obtain ⟨z7, hz7⟩ : ∃ z, (z6.set 6 ((canonV w7).isSome && decide (0 ≤ (canonV w7).getD 0) && decide ((canonV w7).getD 0 ≤ 4294967295))) = z := ⟨_, rfl⟩
      have hzl7 : z7.length = 18 := by rw [← hz7, List.length_set, hzl6]
      rw [hz7] at g1
      refine scode_seq_mid (RCf [w0, w1, w2, w3, w4, w5, w6, w7, w8, w9, w10, w11, w12, w13, w14, w15, w16, w17, w18] { c6 with accm := (IntKind.u32.wrap ((canonV w7).getD 0)) } z7) ?_ ?_
      · skip
        refine scode_hide (fun K47 hK47 => ?_)
        refine scode_region (by kernel_rfl) ?_
        simp [go_sem, e6, e11, g2, cl, sx7]
        refine hK47 _ _ ?_
        exact ⟨by simp [go_sem, e2], by simp [go_sem, e4], by simp [go_sem, e5], by simp [go_sem, e6], by simp [go_sem, g0], by simp [go_sem, g1], by simp [go_sem, g2]⟩
      clear e2 e4 e5 e6 g0 g1 g2 e11
      rintro env H ⟨e2, e4, e5, e6, g0, g1, g2⟩
      obtain ⟨c7, hc7⟩ : ∃ c, { c6 with accm := (IntKind.u32.wrap ((canonV w7).getD 0)) } = c := ⟨_, rfl⟩
      rw [hc7] at g2
      refine scode_seq_mid (RCf [w0, w1, w2, w3, w4, w5, w6, w7, w8, w9, w10, w11, w12, w13, w14, w15, w16, w17, w18] { c7 with mrru := ((canonV w8).getD 0) } (z7.set 7 (canonV w8).isSome)) ?_ ?_
      · skip
        have so := okC_set z7 7 (by omega)
        have zl : (okC z7).length = 18 := by rw [okC_len, hzl7]
        refine scode_hide (fun K49 hK49 => ?_)
        refine scode_region (by kernel_rfl) ?_
        refine w_take 5 (fun K50 hK50 => ?_)
        simp [go_sem, e4, e5, e6, g1, g2, wV, cl, sx8, so, zl]
        refine ⟨_, _, refnum_H w8 _, ?_⟩
        refine hK50 _ _ ?_
        clear hK50 K50
        simp [go_sem, e4, e5, e6, g1, g2, wV, cl, sx8, so, zl]
        refine hK49 _ _ ?_
        exact ⟨by simp [go_sem, e2], by simp [go_sem, e4], by simp [go_sem, e5], by simp [go_sem, e6], by simp [go_sem, g0], by simp [go_sem, g1], by simp [go_sem, g2]⟩
      clear e2 e4 e5 e6 g0 g1 g2
      rintro env H ⟨e2, e4, e5, e6, g0, g1, g2⟩
      obtain ⟨c8, hc8⟩ : ∃ c, { c7 with mrru := ((canonV w8).getD 0) } = c := ⟨_, rfl⟩
      obtain ⟨z8, hz8⟩ : ∃ z, (z7.set 7 (canonV w8).isSome) = z := ⟨_, rfl⟩
      have hzl8 : z8.length = 18 := by rw [← hz8, List.length_set, hzl7]
      rw [hc8] at g2
      rw [hz8] at g1
      refine scode_seq_mid (RCf [w0, w1, w2, w3, w4, w5, w6, w7, w8, w9, w10, w11, w12, w13, w14, w15, w16, w17, w18] { c8 with short := ((flagV w9).getD false) } (z8.set 8 (flagV w9).isSome)) ?_ ?_
      · skip
        have so := okC_set z8 8 (by omega)
        have zl : (okC z8).length = 18 := by rw [okC_len, hzl8]
        refine scode_hide (fun K52 hK52 => ?_)
        refine scode_region (by kernel_rfl) ?_
        refine w_take 5 (fun K53 hK53 => ?_)
        simp [go_sem, e4, e5, e6, g1, g2, wV, cl, sx9, so, zl]
        refine ⟨_, _, rflag_H w9 _, ?_⟩
        refine hK53 _ _ ?_
        clear hK53 K53
        simp [go_sem, e4, e5, e6, g1, g2, wV, cl, sx9, so, zl]
        refine hK52 _ _ ?_
        exact ⟨by simp [go_sem, e2], by simp [go_sem, e4], by simp [go_sem, e5], by simp [go_sem, e6], by simp [go_sem, g0], by simp [go_sem, g1], by simp [go_sem, g2]⟩
      clear e2 e4 e5 e6 g0 g1 g2
      rintro env H ⟨e2, e4, e5, e6, g0, g1, g2⟩
      obtain ⟨c9, hc9⟩ : ∃ c, { c8 with short := ((flagV w9).getD false) } = c := ⟨_, rfl⟩
      obtain ⟨z9, hz9⟩ : ∃ z, (z8.set 8 (flagV w9).isSome) = z := ⟨_, rfl⟩
      have hzl9 : z9.length = 18 := by rw [← hz9, List.length_set, hzl8]
      rw [hc9] at g2
      rw [hz9] at g1
      refine scode_seq_mid (RCf [w0, w1, w2, w3, w4, w5, w6, w7, w8, w9, w10, w11, w12, w13, w14, w15, w16, w17, w18] { c9 with bits := ((canonV w10).getD 0) } (z9.set 9 (canonV w10).isSome)) ?_ ?_
      · skip
        have so := okC_set z9 9 (by omega)
        have zl : (okC z9).length = 18 := by rw [okC_len, hzl9]
        refine scode_hide (fun K55 hK55 => ?_)
        refine scode_region (by kernel_rfl) ?_
        refine w_take 5 (fun K56 hK56 => ?_)
        simp [go_sem, e4, e5, e6, g1, g2, wV, cl, sx10, so, zl]
        refine ⟨_, _, refnum_H w10 _, ?_⟩
        refine hK56 _ _ ?_
        clear hK56 K56
        simp [go_sem, e4, e5, e6, g1, g2, wV, cl, sx10, so, zl]
        refine hK55 _ _ ?_
        exact ⟨by simp [go_sem, e2], by simp [go_sem, e4], by simp [go_sem, e5], by simp [go_sem, e6], by simp [go_sem, g0], by simp [go_sem, g1], by simp [go_sem, g2]⟩
      clear e2 e4 e5 e6 g0 g1 g2
      rintro env H ⟨e2, e4, e5, e6, g0, g1, g2⟩
      obtain ⟨c10, hc10⟩ : ∃ c, { c9 with bits := ((canonV w10).getD 0) } = c := ⟨_, rfl⟩
      obtain ⟨z10, hz10⟩ : ∃ z, (z9.set 9 (canonV w10).isSome) = z := ⟨_, rfl⟩
      have hzl10 : z10.length = 18 := by rw [← hz10, List.length_set, hzl9]
      rw [hc10] at g2
      rw [hz10] at g1
      refine scode_seq_mid (RCf [w0, w1, w2, w3, w4, w5, w6, w7, w8, w9, w10, w11, w12, w13, w14, w15, w16, w17, w18] { c10 with stl := ((flagV w11).getD false) } (z10.set 10 (flagV w11).isSome)) ?_ ?_
      · skip
        have so := okC_set z10 10 (by omega)
        have zl : (okC z10).length = 18 := by rw [okC_len, hzl10]
        refine scode_hide (fun K58 hK58 => ?_)
        refine scode_region (by kernel_rfl) ?_
        refine w_take 5 (fun K59 hK59 => ?_)
        simp [go_sem, e4, e5, e6, g1, g2, wV, cl, sx11, so, zl]
        refine ⟨_, _, rflag_H w11 _, ?_⟩
        refine hK59 _ _ ?_
        clear hK59 K59
        simp [go_sem, e4, e5, e6, g1, g2, wV, cl, sx11, so, zl]
        refine hK58 _ _ ?_
        exact ⟨by simp [go_sem, e2], by simp [go_sem, e4], by simp [go_sem, e5], by simp [go_sem, e6], by simp [go_sem, g0], by simp [go_sem, g1], by simp [go_sem, g2]⟩
      clear e2 e4 e5 e6 g0 g1 g2
      rintro env H ⟨e2, e4, e5, e6, g0, g1, g2⟩
      obtain ⟨c11, hc11⟩ : ∃ c, { c10 with stl := ((flagV w11).getD false) } = c := ⟨_, rfl⟩
      obtain ⟨z11, hz11⟩ : ∃ z, (z10.set 10 (flagV w11).isSome) = z := ⟨_, rfl⟩
      have hzl11 : z11.length = 18 := by rw [← hz11, List.length_set, hzl10]
      rw [hc11] at g2
      rw [hz11] at g1
      refine scode_seq_mid (RCf [w0, w1, w2, w3, w4, w5, w6, w7, w8, w9, w10, w11, w12, w13, w14, w15, w16, w17, w18] { c11 with mppc := ((flagV w12).getD false) } (z11.set 11 (flagV w12).isSome)) ?_ ?_
      · skip
        have so := okC_set z11 11 (by omega)
        have zl : (okC z11).length = 18 := by rw [okC_len, hzl11]
        refine scode_hide (fun K61 hK61 => ?_)
        refine scode_region (by kernel_rfl) ?_
        refine w_take 5 (fun K62 hK62 => ?_)
        simp [go_sem, e4, e5, e6, g1, g2, wV, cl, sx12, so, zl]
        refine ⟨_, _, rflag_H w12 _, ?_⟩
        refine hK62 _ _ ?_
        clear hK62 K62
        simp [go_sem, e4, e5, e6, g1, g2, wV, cl, sx12, so, zl]
        refine hK61 _ _ ?_
        exact ⟨by simp [go_sem, e2], by simp [go_sem, e4], by simp [go_sem, e5], by simp [go_sem, e6], by simp [go_sem, g0], by simp [go_sem, g1], by simp [go_sem, g2]⟩
      clear e2 e4 e5 e6 g0 g1 g2
      rintro env H ⟨e2, e4, e5, e6, g0, g1, g2⟩
      obtain ⟨c12, hc12⟩ : ∃ c, { c11 with mppc := ((flagV w12).getD false) } = c := ⟨_, rfl⟩
      obtain ⟨z12, hz12⟩ : ∃ z, (z11.set 11 (flagV w12).isSome) = z := ⟨_, rfl⟩
      have hzl12 : z12.length = 18 := by rw [← hz12, List.length_set, hzl11]
      rw [hc12] at g2
      rw [hz12] at g1
      refine scode_seq_mid (RCf [w0, w1, w2, w3, w4, w5, w6, w7, w8, w9, w10, w11, w12, w13, w14, w15, w16, w17, w18] { c12 with defl := ((flagV w13).getD false) } (z12.set 12 (flagV w13).isSome)) ?_ ?_
      · skip
        have so := okC_set z12 12 (by omega)
        have zl : (okC z12).length = 18 := by rw [okC_len, hzl12]
        refine scode_hide (fun K64 hK64 => ?_)
        refine scode_region (by kernel_rfl) ?_
        refine w_take 5 (fun K65 hK65 => ?_)
        simp [go_sem, e4, e5, e6, g1, g2, wV, cl, sx13, so, zl]
        refine ⟨_, _, rflag_H w13 _, ?_⟩
        refine hK65 _ _ ?_
        clear hK65 K65
        simp [go_sem, e4, e5, e6, g1, g2, wV, cl, sx13, so, zl]
        refine hK64 _ _ ?_
        exact ⟨by simp [go_sem, e2], by simp [go_sem, e4], by simp [go_sem, e5], by simp [go_sem, e6], by simp [go_sem, g0], by simp [go_sem, g1], by simp [go_sem, g2]⟩
      clear e2 e4 e5 e6 g0 g1 g2
      rintro env H ⟨e2, e4, e5, e6, g0, g1, g2⟩
      obtain ⟨c13, hc13⟩ : ∃ c, { c12 with defl := ((flagV w13).getD false) } = c := ⟨_, rfl⟩
      obtain ⟨z13, hz13⟩ : ∃ z, (z12.set 12 (flagV w13).isSome) = z := ⟨_, rfl⟩
      have hzl13 : z13.length = 18 := by rw [← hz13, List.length_set, hzl12]
      rw [hc13] at g2
      rw [hz13] at g1
      refine scode_seq_mid (RCf [w0, w1, w2, w3, w4, w5, w6, w7, w8, w9, w10, w11, w12, w13, w14, w15, w16, w17, w18] { c13 with must := ((flagV w14).getD false) } (z13.set 13 (flagV w14).isSome)) ?_ ?_
      · skip
        have so := okC_set z13 13 (by omega)
        have zl : (okC z13).length = 18 := by rw [okC_len, hzl13]
        refine scode_hide (fun K67 hK67 => ?_)
        refine scode_region (by kernel_rfl) ?_
        refine w_take 5 (fun K68 hK68 => ?_)
        simp [go_sem, e4, e5, e6, g1, g2, wV, cl, sx14, so, zl]
        refine ⟨_, _, rflag_H w14 _, ?_⟩
        refine hK68 _ _ ?_
        clear hK68 K68
        simp [go_sem, e4, e5, e6, g1, g2, wV, cl, sx14, so, zl]
        refine hK67 _ _ ?_
        exact ⟨by simp [go_sem, e2], by simp [go_sem, e4], by simp [go_sem, e5], by simp [go_sem, e6], by simp [go_sem, g0], by simp [go_sem, g1], by simp [go_sem, g2]⟩
      clear e2 e4 e5 e6 g0 g1 g2
      rintro env H ⟨e2, e4, e5, e6, g0, g1, g2⟩
      obtain ⟨c14, hc14⟩ : ∃ c, { c13 with must := ((flagV w14).getD false) } = c := ⟨_, rfl⟩
      obtain ⟨z14, hz14⟩ : ∃ z, (z13.set 13 (flagV w14).isSome) = z := ⟨_, rfl⟩
      have hzl14 : z14.length = 18 := by rw [← hz14, List.length_set, hzl13]
      rw [hc14] at g2
      rw [hz14] at g1
      refine scode_seq_mid (RCf [w0, w1, w2, w3, w4, w5, w6, w7, w8, w9, w10, w11, w12, w13, w14, w15, w16, w17, w18] { c14 with sym := ((flagV w15).getD false) } (z14.set 14 (flagV w15).isSome)) ?_ ?_
      · skip
        have so := okC_set z14 14 (by omega)
        have zl : (okC z14).length = 18 := by rw [okC_len, hzl14]
        refine scode_hide (fun K70 hK70 => ?_)
        refine scode_region (by kernel_rfl) ?_
        refine w_take 5 (fun K71 hK71 => ?_)
        simp [go_sem, e4, e5, e6, g1, g2, wV, cl, sx15, so, zl]
        refine ⟨_, _, rflag_H w15 _, ?_⟩
        refine hK71 _ _ ?_
        clear hK71 K71
        simp [go_sem, e4, e5, e6, g1, g2, wV, cl, sx15, so, zl]
        refine hK70 _ _ ?_
        exact ⟨by simp [go_sem, e2], by simp [go_sem, e4], by simp [go_sem, e5], by simp [go_sem, e6], by simp [go_sem, g0], by simp [go_sem, g1], by simp [go_sem, g2]⟩
      clear e2 e4 e5 e6 g0 g1 g2
      rintro env H ⟨e2, e4, e5, e6, g0, g1, g2⟩
      obtain ⟨c15, hc15⟩ : ∃ c, { c14 with sym := ((flagV w15).getD false) } = c := ⟨_, rfl⟩
      obtain ⟨z15, hz15⟩ : ∃ z, (z14.set 14 (flagV w15).isSome) = z := ⟨_, rfl⟩
      have hzl15 : z15.length = 18 := by rw [← hz15, List.length_set, hzl14]
      rw [hc15] at g2
      rw [hz15] at g1
      refine scode_seq_mid (RCf [w0, w1, w2, w3, w4, w5, w6, w7, w8, w9, w10, w11, w12, w13, w14, w15, w16, w17, w18] { c15 with tmo := ((canonV w16).getD 0) } (z15.set 15 (canonV w16).isSome)) ?_ ?_
      · skip
        have so := okC_set z15 15 (by omega)
        have zl : (okC z15).length = 18 := by rw [okC_len, hzl15]
        refine scode_hide (fun K73 hK73 => ?_)
        refine scode_region (by kernel_rfl) ?_
        refine w_take 5 (fun K74 hK74 => ?_)
        simp [go_sem, e4, e5, e6, g1, g2, wV, cl, sx16, so, zl]
        refine ⟨_, _, refnum_H w16 _, ?_⟩
        refine hK74 _ _ ?_
        clear hK74 K74
        simp [go_sem, e4, e5, e6, g1, g2, wV, cl, sx16, so, zl]
        refine hK73 _ _ ?_
        exact ⟨by simp [go_sem, e2], by simp [go_sem, e4], by simp [go_sem, e5], by simp [go_sem, e6], by simp [go_sem, g0], by simp [go_sem, g1], by simp [go_sem, g2]⟩
      clear e2 e4 e5 e6 g0 g1 g2
      rintro env H ⟨e2, e4, e5, e6, g0, g1, g2⟩
      obtain ⟨c16, hc16⟩ : ∃ c, { c15 with tmo := ((canonV w16).getD 0) } = c := ⟨_, rfl⟩
      obtain ⟨z16, hz16⟩ : ∃ z, (z15.set 15 (canonV w16).isSome) = z := ⟨_, rfl⟩
      have hzl16 : z16.length = 18 := by rw [← hz16, List.length_set, hzl15]
      rw [hc16] at g2
      rw [hz16] at g1
      refine scode_seq_mid (RCf [w0, w1, w2, w3, w4, w5, w6, w7, w8, w9, w10, w11, w12, w13, w14, w15, w16, w17, w18] { c16 with tries := ((canonV w17).getD 0) } (z16.set 16 (canonV w17).isSome)) ?_ ?_
      · skip
        have so := okC_set z16 16 (by omega)
        have zl : (okC z16).length = 18 := by rw [okC_len, hzl16]
        refine scode_hide (fun K76 hK76 => ?_)
        refine scode_region (by kernel_rfl) ?_
        refine w_take 5 (fun K77 hK77 => ?_)
        simp [go_sem, e4, e5, e6, g1, g2, wV, cl, sx17, so, zl]
        refine ⟨_, _, refnum_H w17 _, ?_⟩
        refine hK77 _ _ ?_
        clear hK77 K77
        simp [go_sem, e4, e5, e6, g1, g2, wV, cl, sx17, so, zl]
        refine hK76 _ _ ?_
        exact ⟨by simp [go_sem, e2], by simp [go_sem, e4], by simp [go_sem, e5], by simp [go_sem, e6], by simp [go_sem, g0], by simp [go_sem, g1], by simp [go_sem, g2]⟩
      clear e2 e4 e5 e6 g0 g1 g2
      rintro env H ⟨e2, e4, e5, e6, g0, g1, g2⟩
      obtain ⟨c17, hc17⟩ : ∃ c, { c16 with tries := ((canonV w17).getD 0) } = c := ⟨_, rfl⟩
      obtain ⟨z17, hz17⟩ : ∃ z, (z16.set 16 (canonV w17).isSome) = z := ⟨_, rfl⟩
      have hzl17 : z17.length = 18 := by rw [← hz17, List.length_set, hzl16]
      rw [hc17] at g2
      rw [hz17] at g1
      refine scode_seq_mid (RCf [w0, w1, w2, w3, w4, w5, w6, w7, w8, w9, w10, w11, w12, w13, w14, w15, w16, w17, w18] { c17 with frag := ((canonV w18).getD 0) } (z17.set 17 (canonV w18).isSome)) ?_ ?_
      · skip
        have so := okC_set z17 17 (by omega)
        have zl : (okC z17).length = 18 := by rw [okC_len, hzl17]
        refine scode_hide (fun K79 hK79 => ?_)
        refine scode_region (by kernel_rfl) ?_
        refine w_take 5 (fun K80 hK80 => ?_)
        simp [go_sem, e4, e5, e6, g1, g2, wV, cl, sx18, so, zl]
        refine ⟨_, _, refnum_H w18 _, ?_⟩
        refine hK80 _ _ ?_
        clear hK80 K80
        simp [go_sem, e4, e5, e6, g1, g2, wV, cl, sx18, so, zl]
        refine hK79 _ _ ?_
        exact ⟨by simp [go_sem, e2], by simp [go_sem, e4], by simp [go_sem, e5], by simp [go_sem, e6], by simp [go_sem, g0], by simp [go_sem, g1], by simp [go_sem, g2]⟩
      clear e2 e4 e5 e6 g0 g1 g2
      rintro env H ⟨e2, e4, e5, e6, g0, g1, g2⟩
      obtain ⟨c18, hc18⟩ : ∃ c, { c17 with frag := ((canonV w18).getD 0) } = c := ⟨_, rfl⟩
      obtain ⟨z18, hz18⟩ : ∃ z, (z17.set 17 (canonV w18).isSome) = z := ⟨_, rfl⟩
      have hzl18 : z18.length = 18 := by rw [← hz18, List.length_set, hzl17]
      rw [hc18] at g2
      rw [hz18] at g1
      have hzf : z18 = okL w1 w2 w3 w4 w5 w6 w7 w8 w9 w10 w11 w12 w13 w14 w15 w16 w17 w18 := by rw [← hz18, ← hz17, ← hz16, ← hz15, ← hz14, ← hz13, ← hz12, ← hz11, ← hz10, ← hz9, ← hz8, ← hz7, ← hz6, ← hz5, ← hz4, ← hz3, ← hz2, ← hz1, ← hz0]; rfl
      have hcf : c18 = cfV w1 w2 w3 w4 w5 w6 w7 w8 w9 w10 w11 w12 w13 w14 w15 w16 w17 w18 := by rw [← hc18, ← hc17, ← hc16, ← hc15, ← hc14, ← hc13, ← hc12, ← hc11, ← hc10, ← hc9, ← hc8, ← hc7, ← hc6, ← hc5, ← hc4, ← hc3, ← hc2, ← hc1, ← hc0]; rfl
      rw [← hzf, ← hcf] at hall
      clear hzf hcf hz18 hz17 hz16 hz15 hz14 hz13 hz12 hz11 hz10 hz9 hz8 hz7 hz6 hz5 hz4 hz3 hz2 hz1 hz0 hc18 hc17 hc16 hc15 hc14 hc13 hc12 hc11 hc10 hc9 hc8 hc7 hc6 hc5 hc4 hc3 hc2 hc1 hc0
      obtain ⟨z, hzq⟩ : ∃ z, z18 = z := ⟨_, rfl⟩
      obtain ⟨c, hcq⟩ : ∃ c, c18 = c := ⟨_, rfl⟩
      have hzl := hzl18
      rw [hzq] at hall g1 hzl
      rw [hcq] at hall g2
      have hlf := cfl c
      simp only [AV.leaf] at hlf
      have zl : (okC z).length = 18 := by rw [okC_len, hzl]
      refine scode_seq_k (fun K81 hK81 => ?_)
      refine scode_seq_k (fun K82 hK82 => ?_)
      refine scode_region (by kernel_rfl) ?_
      simp [go_sem]
      refine hK82 _ _ ?_
      try clear hK82 K82
      refine scode_block ?_
      refine scode_loop (Inv := fun n env H => ∃ i : Nat, n = 18 - i ∧ i ≤ 18 ∧ RCf [w0, w1, w2, w3, w4, w5, w6, w7, w8, w9, w10, w11, w12, w13, w14, w15, w16, w17, w18] c z env H ∧ env 13 = .int i ∧ ∀ j, j < i → z[j]? = some true) ?_ (n := 18) (⟨0, rfl, by omega, ⟨by simp [go_sem, e2], by simp [go_sem, e4], by simp [go_sem, e5], by simp [go_sem, e6], g0, g1, g2⟩, by simp [go_sem], fun j hj => by omega⟩)
      clear e2 e4 e5 e6 g0 g1 g2
      rintro n env H ⟨i, rfl, hi, ⟨e2, e4, e5, e6, g0, g1, g2⟩, e13, hok⟩
      refine scode_seq_k (fun K83 hK83 => ?_)
      refine scode_seq_k (fun K84 hK84 => ?_)
      refine scode_region (by kernel_rfl) ?_
      simp [go_sem, e5, e13]
      refine hK84 _ _ ?_
      try clear hK84 K84
      refine scode_if (b := decide ((i : Int) < 18)) (by simp [go_sem]) (fun hb => ?_) (fun hb => ?_)
      · skip
        simp only [decide_eq_true_eq] at hb
        obtain ⟨bz, hzi⟩ := get_of_lt z i (by omega)
        obtain ⟨r, hdr⟩ := okC_at hzi
        have hb18 : i ≤ 17 := by omega
        have hbi : (i : Int) < 18 := by omega
        refine scode_skip ?_
        refine hK83 _ _ ?_
        try clear hK83 K83
        refine scode_seq_k (fun K85 hK85 => ?_)
        refine scode_block ?_
        refine scode_seq_k (fun K86 hK86 => ?_)
        cases bz
        · skip
          have hres : rC2 l = (noCfg, false) := by
            have : z.all id = false := by
              rw [Bool.eq_false_iff]
              intro h
              rw [List.all_eq_true] at h
              have := h false (List.mem_of_getElem? hzi)
              cases this
            unfold rC2 cfgV
            rw [hall, this]
            rfl
          refine scode_region (by kernel_rfl) ?_
          simp [go_sem, e5, e13, g1, hdr, zl, hb18, hbi]
          refine hK86 _ _ ?_
          try clear hK86 K86
          refine scode_if (b := true) (by simp [go_sem]) (fun _ => ?_) (fun h => by cases h)
          refine scode_seq_k (fun K87 hK87 => ?_)
          refine scode_region (by kernel_rfl) ?_
          simp [go_sem, e2, g0]
          refine hK87 _ _ ?_
          try clear hK87 K87
          refine scode_ret ?_
          simp only [go_sem]
          refine hR _ _ ?_
          rw [hres]
          exact ret_plain (by first | (simp [go_sem, e2, g0, c_t18', cl]; done) | (simp [go_sem, e2, g0, c_t18', cl]; rfl)) (empty_le _) (Nat.zero_le _) (by simp [go_sem, cfgC])
        · skip
          refine scode_region (by kernel_rfl) ?_
          simp [go_sem, e5, e13, g1, hdr, zl, hb18, hbi]
          refine hK86 _ _ ?_
          try clear hK86 K86
          refine scode_if (b := false) (by simp [go_sem]) (fun h => by cases h) (fun _ => ?_)
          refine scode_skip ?_
          refine hK85 _ _ ?_
          try clear hK85 K85
          refine scode_region (by kernel_rfl) ?_
          simp [go_sem, e13]
          have hw := i64_succ i (by omega)
          exact ⟨18 - (i + 1), by omega, i + 1, rfl, by omega, ⟨by simp [go_sem, e2], by simp [go_sem, e4], by simp [go_sem, e5], by simp [go_sem, e6], by simp [go_sem, g0], by simp [go_sem, g1], by simp [go_sem, g2]⟩, by simp [go_sem, hw], fun j hj => by
              rcases Nat.lt_or_ge j i with h | h
              · exact hok j h
              · obtain rfl : j = i := by omega
                exact hzi⟩
      · skip
        simp only [decide_eq_false_iff_not] at hb
        obtain rfl : i = 18 := by omega
        have hall2 : z.all id = true := by
          rw [List.all_eq_true]
          intro x hx
          obtain ⟨j, hj⟩ := List.mem_iff_getElem?.1 hx
          have hjl := (List.getElem?_eq_some_iff.1 hj).1
          rw [hok j (by omega)] at hj
          cases hj
          rfl
        rw [hall2, if_pos rfl] at hall
        have hres : rC2 l = (c, true) := by unfold rC2 cfgV; rw [hall]
        refine scode_exit ?_
        refine hK81 _ _ ?_
        try clear hK81 K81
        refine scode_seq_k (fun K88 hK88 => ?_)
        refine scode_region (by kernel_rfl) ?_
        simp [go_sem, e2, e6, g0, g2, cl, hlf, c_t18', c_d18']
        refine hK88 _ _ ?_
        try clear hK88 K88
        refine scode_ret ?_
        simp only [go_sem]
        refine hR _ _ ?_
        rw [hres]
        exact ret_plain (by first | (simp [go_sem, e2, g0, c_t18', cl]; done) | (simp [go_sem, e2, g0, c_t18', cl]; rfl)) (empty_le _) (Nat.zero_le _) (by simp [go_sem, cfgC])
  · skip
    have h19 : ((ws.length : Int) != 19) = true := by simp; omega
    have hres : rC2 l = (noCfg, false) := by unfold rC2 cfgV; rw [hp, parseCfg_len ws hl19]
    refine scode_region (by kernel_rfl) ?_
    simp [go_sem, e4, h19]
    refine hK6 _ _ ?_
    try clear hK6 K6
    refine scode_if (b := true) (by simp [go_sem]) (fun _ => ?_) (fun h => by cases h)
    refine scode_seq_k (fun K89 hK89 => ?_)
    refine scode_region (by kernel_rfl) ?_
    simp [go_sem, e2, g0]
    refine hK89 _ _ ?_
    try clear hK89 K89
    refine scode_ret ?_
    simp only [go_sem]
    refine hR _ _ ?_
    rw [hres]
    exact ret_plain (by first | (simp [go_sem, e2, g0, c_t18', cl]; done) | (simp [go_sem, e2, g0, c_t18', cl]; rfl)) (empty_le _) (Nat.zero_le _) (by simp [go_sem, cfgC])

end Go.Proofs.YtfmpakmigmehkaaGreatDoor
