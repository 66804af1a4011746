/- Contracts: lcp.Ask. -/
import Derived.Test.YtklihehobpahkaaGreatDoorM16
import Derived.Test.YtklihehobpahkaaGreatDoorM18
set_option linter.unusedVariables false
set_option linter.unusedSimpArgs false
set_option maxRecDepth 20000
noncomputable section M19S
namespace Go.Proofs.YtklihehobpahkaaGreatDoor
open Go Go.Fl Go.Proofs

/-- Bytes as they stand in an option that is made: nil where there are none. -/
def dA : List Int → AV
  | [] => .nil
  | x :: r => bytesA (x :: r)
def rawC (o : Opt) : List AV := [.int o.kind, dA o.data]
def rawV (l : List Opt) : List AV := l.flatMap rawC
theorem dA_leaf (d : List Int) : (dA d).leaf = true := by cases d <;> rfl
theorem dA_cells (d : List Int) : acells (dA d) = some [dA d] := by cases d <;> rfl
theorem bytesA_cells (d : List Int) : acells (bytesA d) = some [bytesA d] := rfl
theorem ac_int (k : IntKind) (n : Int) : acells (.sc (.int k n)) = some [.sc (.int k n)] := rfl
theorem ac_agg (cs : List AV) : acells (.agg cs) = some cs := rfl
theorem ac_ms (b o l s : Nat) : acells (.ms b o l s) = some [.ms b o l s] := rfl
theorem ac_ptr (b o : Nat) : acells (.ptr b o) = some [.ptr b o] := rfl
theorem dA_lt (d : List Int) (n : Nat) : (dA d).Lt n := by
  cases d with
  | nil => exact .sc _
  | cons x r => have := bytesA_lt (x :: r) n; show (bytesA (x :: r)).Lt n; rw [this]; trivial
theorem rawV_app (l : List Opt) (o : Opt) : rawV (l ++ [o]) = rawV l ++ [.int o.kind, dA o.data] := by simp [rawV, rawC]
theorem rawV_lt (l : List Opt) (n : Nat) : ∀ x ∈ rawV l, x.Lt n := by
  intro x hx
  simp only [rawV, List.mem_flatMap, rawC, List.mem_cons, List.mem_nil_iff, or_false] at hx
  obtain ⟨o, _, rfl | rfl⟩ := hx
  · exact .sc _
  · exact dA_lt _ _
theorem rawV_len (l : List Opt) : (rawV l).length = l.length * 2 := by
  induction l with
  | nil => rfl
  | cons o r ih => simp only [rawV, List.flatMap_cons, List.length_append] at *; rw [ih]; simp [rawC]; omega

theorem app2 {H : Heap} {s : AV} {n : Nat} {cs : List AV} {bo : Option Nat} {k : Int} {d : AV} (hg : grown H 2 s = some (n, cs, bo)) (hn : n ≤ 100000) (hd : d.leaf = true) :
    aappend Tryz.prog (H.alloc [.int k, d]) 25 25 s (.ms H.next 0 1 2) = some (.ms (H.next + 1) 0 (n + 1) 2, (H.alloc [.int k, d]).regrow bo (cs ++ [.int k, d])) := by
  have h := append_step (P := Tryz.prog) (H := H.alloc [.int k, d]) (t := 25) (u := 25) (e := 56) (x := .ms H.next 0 1 2) (k := 1) (new := [.int k, d]) tU25 tS56 tB56 tZ56 rfl (by
    unfold source
    rw [tU25]
    simp [sliceCells, Heap.get_alloc]) (grown_alloc (v := [.int k, d]) hg) (by omega) (by omega) (by simp only [List.all_cons, List.all_nil, hd, Bool.and_true]; rfl)
  rw [h]
  rfl
theorem app2_grown {H : Heap} {s : AV} {n : Nat} {cs : List AV} {bo : Option Nat} {k : Int} {d : AV} (hg : grown H 2 s = some (n, cs, bo)) :
    grown ((H.alloc [.int k, d]).regrow bo (cs ++ [.int k, d])) 2 (.ms (H.next + 1) 0 (n + 1) 2) = some (n + 1, cs ++ [.int k, d], some (H.next + 1)) :=
  grown_after (H := H.alloc [.int k, d]) (k := 1) (new := [.int k, d]) (grown_alloc (v := [.int k, d]) hg) rfl

theorem regrow_cases {H : Heap} {bo : Option Nat} {cs c : List AV} {b : Nat} (h : (H.regrow bo cs).get b = some c) : (b = H.next ∧ c = cs) ∨ H.get b = some c := by
  unfold Heap.regrow at h
  rw [Heap.get_alloc, Heap.delo_next] at h
  split at h
  · rename_i e; cases h; exact .inl ⟨e, rfl⟩
  · cases bo with
    | none => exact .inr h
    | some b' =>
      have h : (H.del b').get b = some c := h
      rw [Heap.get_del] at h
      split at h
      · cases h
      · exact .inr h

def onl (b : Bool) (o : Opt) : List Opt := if b = true then [o] else []

/-- A heap with a configuration in block 0 and a list of options in block q. -/
def StB (H : Heap) (q : Nat) (l : List Opt) (cc : List AV) : Prop := H.get 0 = some cc ∧ ∃ x bo, H.get q = some [x] ∧ grown H 2 x = some (l.length, rawV l, bo) ∧ bo ≠ some 0 ∧ bo ≠ some q

theorem add_s {H : Heap} {q : Nat} {l : List Opt} {cc : List AV} (b : Bool) (o : Opt) (hq : q ≠ 0) (h : StB H q l cc) (hl : l.length ≤ 100) :
    ∃ H', SCalls Tryz.prog 30 [.bool b, .int o.kind, dA o.data, .ptr q 0] H (.tup []) H' ∧ StB H' q (l ++ onl b o) cc := by
  obtain ⟨g0, x, bo, gq, hg, b0, bq⟩ := h
  cases b with
  | false =>
    refine ⟨H, ?_, g0, x, bo, gq, by simpa [onl] using hg, b0, bq⟩
    refine scalls_of_k (sz := 14) (Tryz.call30) Tryz.func30 rfl (Nat.le_refl _) (by kernel_rfl) (fun R hR => ?_)
    refine scode_seq_k (fun K1 hK1 => ?_)
    refine scode_region (by kernel_rfl) ?_
    simp [go_sem]
    refine hK1 _ _ ?_
    refine scode_if (b := false) (by simp [go_sem]) (fun h => by cases h) (fun _ => ?_)
    refine scode_skip ?_
    refine hR _ _ ?_
    exact ret_plain (by simp [go_sem]) (Heap.le_refl _) (Nat.le_refl _) (by simp [go_sem])
  | true =>
    have hap := app2 (k := o.kind) (d := dA o.data) hg (by omega) (dA_leaf _)
    have hlt := Heap.lt_of_get gq
    have h0lt := Heap.lt_of_get g0
    have gq' : ((H.alloc [.int o.kind, dA o.data]).regrow bo (rawV l ++ [.int o.kind, dA o.data])).get q = some [x] := get_regrow_other (by rw [Heap.get_alloc, if_neg (by omega)]; exact gq) bq
    have g0' : ((H.alloc [.int o.kind, dA o.data]).regrow bo (rawV l ++ [.int o.kind, dA o.data])).get 0 = some cc := get_regrow_other (by rw [Heap.get_alloc, if_neg (by omega)]; exact g0) b0
    have hgr := app2_grown (k := o.kind) (d := dA o.data) hg
    have hnx : ((H.alloc [.int o.kind, dA o.data]).regrow bo (rawV l ++ [.int o.kind, dA o.data])).next = H.next + 2 := by rw [Heap.next_regrow]; rfl
    refine ⟨((H.alloc [.int o.kind, dA o.data]).regrow bo (rawV l ++ [.int o.kind, dA o.data])).set q [.ms (H.next + 1) 0 (l.length + 1) 2], ?_, ?_⟩
    · have hle : H.next ≤ (((H.alloc [.int o.kind, dA o.data]).regrow bo (rawV l ++ [.int o.kind, dA o.data])).set q [.ms (H.next + 1) 0 (l.length + 1) 2]).next := by
        show H.next ≤ ((H.alloc [.int o.kind, dA o.data]).regrow bo (rawV l ++ [.int o.kind, dA o.data])).next
        rw [hnx]; omega
      refine scalls_of_k (sz := 14) (Tryz.call30) Tryz.func30 rfl hle (by kernel_rfl) (fun R hR => ?_)
      refine scode_seq_k (fun K1 hK1 => ?_)
      refine scode_region (by kernel_rfl) ?_
      simp [go_sem]
      refine hK1 _ _ ?_
      refine scode_if (b := true) (by simp [go_sem]) (fun _ => ?_) (fun h => by cases h)
      refine scode_hide (fun K hK => ?_)
      refine scode_region (by kernel_rfl) ?_
      have hnx2 : (H.alloc [.int o.kind, dA o.data]).next = H.next + 1 := rfl
      have fin : ∀ env', K env' (((H.alloc [.int o.kind, dA o.data]).regrow bo (rawV l ++ [.int o.kind, dA o.data])).set q [.ms (H.next + 1) 0 (l.length + 1) 2]) := by
        intro env'
        refine hK _ _ ?_
        refine hR _ _ ?_
        refine ⟨⟨.tup [], by simp [go_sem], .same _⟩, Heap.le_refl _, hle, Nat.le_refl _, by simp [go_sem], fun b cs hb => ?_⟩
        have hn2 : (((H.alloc [.int o.kind, dA o.data]).regrow bo (rawV l ++ [.int o.kind, dA o.data])).set q [.ms (H.next + 1) 0 (l.length + 1) 2]).next = H.next + 2 := hnx
        rw [Heap.get_set] at hb
        rw [hn2]
        split at hb
        · rename_i ebq
          rw [ebq, gq'] at hb
          cases hb
          right
          intro y hy
          rw [List.mem_singleton.1 hy]
          exact .ms (by omega)
        · rcases regrow_cases hb with ⟨_, rfl⟩ | hb
          · right
            rw [← rawV_app]
            exact rawV_lt _ _
          · rw [Heap.get_alloc] at hb
            split at hb
            · cases hb
              right
              intro y hy
              simp only [List.mem_cons, List.mem_nil_iff, or_false] at hy
              rcases hy with rfl | rfl
              · exact .sc _
              · exact dA_lt _ _
            · exact .inl hb
      clear hK hR
      have hc : dA o.data = .nil ∨ ∃ n cs, dA o.data = .vs n 1 cs := by
        cases o.data with
        | nil => exact .inl rfl
        | cons x r => exact .inr ⟨_, _, rfl⟩
      have hlf := dA_leaf o.data
      generalize dA o.data = dv at *
      rcases hc with rfl | ⟨n, cs, rfl⟩
      · simp [go_sem, gq, hap, gq']
        exact fin _
      · simp [go_sem, gq, hap, gq']
        exact fin _
    · refine ⟨by rw [Heap.get_set, if_neg (by omega)]; exact g0', _, some (H.next + 1), by rw [Heap.get_set, if_pos rfl, gq']; rfl, ?_, by simp, ?_⟩
      · have e : (l ++ onl true o).length = l.length + 1 := by simp [onl]
        have e2 : rawV (l ++ onl true o) = rawV l ++ [.int o.kind, dA o.data] := rawV_app l o
        rw [e, e2]
        exact grown_set hgr (by intro e; cases e; omega)
      · intro e; cases e; omega

theorem froz_raw {H : Heap} {d : Nat → Prop} {x : AV} {l : List Opt} {bo : Option Nat} (hg : grown H 2 x = some (l.length, rawV l, bo)) (hd : ∀ b, bo = some b → d b) : Froz H d x (optsA l) := by
  rcases grown_cases hg with ⟨rfl, h2, _, _⟩ | ⟨b, off, rfl, rfl, c, h1, h2, h3⟩
  · have : l = [] := List.length_eq_zero_iff.1 h2
    subst this
    exact .nil 2
  · refine .ms h1 (hd b rfl) (Nat.le_of_eq h2) (by rw [optsV_len]) (fun i x y hx hy => ?_)
    have hy' : (rawV l)[i]? = some y := by rw [h3, List.getElem?_drop]; exact hy
    clear hy h1 h2 h3 hg hd
    induction l generalizing i with
    | nil => simp [rawV] at hy'
    | cons o r ih =>
      match i with
      | 0 => simp [optsV, Opt.cells] at hx; simp [rawV, rawC] at hy'; subst hx; subst hy'; exact .same _
      | 1 =>
        simp [optsV, Opt.cells] at hx
        simp [rawV, rawC] at hy'
        subst hx; subst hy'
        cases o.data with
        | nil => exact .nil 1
        | cons => exact .same _
      | i + 2 =>
        refine ih i (by simpa [optsV, Opt.cells] using hx) (by simpa [rawV, rawC] using hy')
end Go.Proofs.YtklihehobpahkaaGreatDoor
end M19S

set_option maxRecDepth 20000
noncomputable section M20S
namespace Go.Proofs.YtklihehobpahkaaGreatDoor
open Go Go.Fl Go.Proofs

def askL (c : Cfg) (m : Int) : List Opt := [] ++ onl (c.mru != 1500) ⟨1, hf c.mru⟩ ++ onl (c.accm != 4294967295) ⟨2, wd c.accm⟩ ++ onl c.server ⟨3, proofL⟩ ++ onl (m != 0) ⟨5, wd m⟩ ++ onl c.pfc ⟨7, []⟩ ++ onl c.acfc ⟨8, []⟩ ++ onl (c.mrru != 0) ⟨17, hf c.mrru⟩ ++ onl (c.mrru != 0 && c.short) ⟨18, []⟩

theorem onl_len (b : Bool) (o : Opt) : (onl b o).length ≤ 1 := by cases b <;> simp [onl]
theorem len_onl (l : List Opt) (b : Bool) (o : Opt) {n : Nat} (h : l.length ≤ n) : (l ++ onl b o).length ≤ n + 1 := by
  have := onl_len b o
  rw [List.length_append]; omega

theorem cfg_drop2 (c : Cfg) : (c.cells.take 1 = [.bool c.server]) ∧ (∃ r, c.cells.drop 3 = .int c.mru :: r) ∧ (∃ r, c.cells.drop 4 = .bool c.pfc :: r) ∧ (∃ r, c.cells.drop 5 = .bool c.acfc :: r) ∧ (∃ r, c.cells.drop 6 = .sc (.int .u32 c.accm) :: r) ∧ (∃ r, c.cells.drop 7 = .int c.mrru :: r) ∧ (∃ r, c.cells.drop 8 = .bool c.short :: r) :=
  ⟨rfl, ⟨_, rfl⟩, ⟨_, rfl⟩, ⟨_, rfl⟩, ⟨_, rfl⟩, ⟨_, rfl⟩, ⟨_, rfl⟩⟩

/-- The frame of Ask with so many options asked. -/
def StE (c : Cfg) (m : Int) (l : List Opt) (env : Env) (H : Heap) : Prop := env 1 = .sc (.int .u32 m) ∧ env 2 = .ptr 0 0 ∧ env 5 = .ptr 1 0 ∧ env 6 = .fn (.func 30) [] [.ptr 1 0] ∧ StB H 1 l c.cells

set_option maxHeartbeats 4000000 in
theorem ask_s (c : Cfg) (m : Int) : SCalls Tryz.prog 12 [.agg c.cells, .sc (.int .u32 m)] Heap.empty (optsA (askL c m)) Heap.empty := by
  have c25 := fun H => scalls_frame proof_s (by simp) (by simp [bytesA_lt]) H
  have c31 := fun x H => scalls_frame (half_s x) (by simp [go_sem]) (by simp [bytesA_lt]) H
  have c32 := fun x H => scalls_frame (word_s x) (by simp [go_sem]) (by simp [bytesA_lt]) H
  obtain ⟨d0, ⟨r3, d3⟩, ⟨r4, d4⟩, ⟨r5, d5⟩, ⟨r6, d6⟩, ⟨r7, d7⟩, ⟨r8, d8⟩⟩ := cfg_drop2 c
  refine scalls_of_k (sz := 61) (Tryz.call12) Tryz.func12 rfl (Nat.le_refl _) (by kernel_rfl) (fun R hR => ?_)
  refine scode_seq_k (fun K1 hK1 => ?_)
  refine scode_region (by kernel_rfl) ?_
  simp [go_sem]
  refine hK1 _ _ ?_
  clear hK1 K1
  refine scode_seq_k (fun K2 hK2 => ?_)
  refine scode_region (by kernel_rfl) ?_
  simp [go_sem]
  refine hK2 _ _ ?_
  clear hK2 K2
  refine scode_seq_k (fun K3 hK3 => ?_)
  refine scode_region (by kernel_rfl) ?_
  simp [go_sem]
  refine hK3 _ _ ?_
  clear hK3 K3
  refine scode_gen (StE c m []) ⟨by simp [go_sem], by simp [go_sem], by simp [go_sem], by simp [go_sem], by simp [go_sem], .nil, none, by simp [go_sem], rfl, by simp, by simp⟩ ?_
  rintro env H ⟨h1, h2, h5, h6, hst⟩
  have hl0 : ([] : List Opt).length ≤ 0 := Nat.le_refl _
  obtain ⟨H', ca, hst'⟩ := add_s (c.mru != 1500) ⟨1, hf c.mru⟩ (by decide) hst (by omega)
  have ca : SCalls Tryz.prog 30 [.bool (c.mru != 1500), .int 1, bytesA (hf c.mru), .ptr 1 0] H (.tup []) H' := ca
  have g0 := hst.1
  refine scode_seq_mid (StE c m ([] ++ onl (c.mru != 1500) ⟨1, hf c.mru⟩)) ?_ ?_
  · refine scode_hide (fun K hK => ?_)
    refine scode_draw mixed (by kernel_rfl) (bf := [0, 0, 2, 6, 0, 16, 48, 127]) (by kernel_rfl) ?_
    refine wd_take 7 (by decide) (fun K6 hK6 => ?_)
    simp [go_sem, h1, h2, h6, g0, cfg_len, d3, befL]
    refine ⟨_, _, c31 _ _, ?_⟩
    try simp [go_sem, h1, h2, h6, g0, cfg_len, d3, befL]
    refine hK6 _ _ _ _ ?_
    clear hK6 K6
    simp [go_sem, h1, h2, h6, g0, cfg_len, d3, befL]
    refine ⟨_, _, ca, ?_⟩
    try simp [go_sem, h1, h2, h6, g0, cfg_len, d3, befL]
    refine hK _ _ ?_
    exact ⟨by simp [go_sem, h1], by simp [go_sem, h2], by simp [go_sem, h5], by simp [go_sem, h6], hst'⟩
  clear h1 h2 h5 h6 hst hst' ca g0
  rintro env H ⟨h1, h2, h5, h6, hst⟩
  have hl1 := len_onl _ (c.mru != 1500) ⟨1, hf c.mru⟩ hl0
  obtain ⟨H', ca, hst'⟩ := add_s (c.accm != 4294967295) ⟨2, wd c.accm⟩ (by decide) hst (by omega)
  have ca : SCalls Tryz.prog 30 [.bool (c.accm != 4294967295), .int 2, bytesA (wd c.accm), .ptr 1 0] H (.tup []) H' := ca
  have g0 := hst.1
  refine scode_seq_mid (StE c m ([] ++ onl (c.mru != 1500) ⟨1, hf c.mru⟩ ++ onl (c.accm != 4294967295) ⟨2, wd c.accm⟩)) ?_ ?_
  · refine scode_hide (fun K hK => ?_)
    refine scode_draw mixed (by kernel_rfl) (bf := [0, 0, 2, 6, 0, 16, 48, 127]) (by kernel_rfl) ?_
    refine wd_take 7 (by decide) (fun K6 hK6 => ?_)
    simp [go_sem, h1, h2, h6, g0, cfg_len, d6, befL]
    refine ⟨_, _, c32 _ _, ?_⟩
    try simp [go_sem, h1, h2, h6, g0, cfg_len, d6, befL]
    refine hK6 _ _ _ _ ?_
    clear hK6 K6
    simp [go_sem, h1, h2, h6, g0, cfg_len, d6, befL]
    refine ⟨_, _, ca, ?_⟩
    try simp [go_sem, h1, h2, h6, g0, cfg_len, d6, befL]
    refine hK _ _ ?_
    exact ⟨by simp [go_sem, h1], by simp [go_sem, h2], by simp [go_sem, h5], by simp [go_sem, h6], hst'⟩
  clear h1 h2 h5 h6 hst hst' ca g0
  rintro env H ⟨h1, h2, h5, h6, hst⟩
  have hl2 := len_onl _ (c.accm != 4294967295) ⟨2, wd c.accm⟩ hl1
  obtain ⟨H', ca, hst'⟩ := add_s (c.server) ⟨3, proofL⟩ (by decide) hst (by omega)
  have ca : SCalls Tryz.prog 30 [.bool (c.server), .int 3, bytesA (proofL), .ptr 1 0] H (.tup []) H' := ca
  have g0 := hst.1
  refine scode_seq_mid (StE c m ([] ++ onl (c.mru != 1500) ⟨1, hf c.mru⟩ ++ onl (c.accm != 4294967295) ⟨2, wd c.accm⟩ ++ onl (c.server) ⟨3, proofL⟩)) ?_ ?_
  · refine scode_hide (fun K hK => ?_)
    refine scode_draw mixed (by kernel_rfl) (bf := [0, 0, 2, 0, 15]) (by kernel_rfl) ?_
    refine wd_take 4 (by decide) (fun K6 hK6 => ?_)
    simp [go_sem, h1, h2, h6, g0, cfg_len, d0, befL]
    refine ⟨_, _, c25 _, ?_⟩
    try simp [go_sem, h1, h2, h6, g0, cfg_len, d0, befL]
    refine hK6 _ _ _ _ ?_
    clear hK6 K6
    simp [go_sem, h1, h2, h6, g0, cfg_len, d0, befL]
    refine ⟨_, _, ca, ?_⟩
    try simp [go_sem, h1, h2, h6, g0, cfg_len, d0, befL]
    refine hK _ _ ?_
    exact ⟨by simp [go_sem, h1], by simp [go_sem, h2], by simp [go_sem, h5], by simp [go_sem, h6], hst'⟩
  clear h1 h2 h5 h6 hst hst' ca g0
  rintro env H ⟨h1, h2, h5, h6, hst⟩
  have hl3 := len_onl _ (c.server) ⟨3, proofL⟩ hl2
  obtain ⟨H', ca, hst'⟩ := add_s (m != 0) ⟨5, wd m⟩ (by decide) hst (by omega)
  have ca : SCalls Tryz.prog 30 [.bool (m != 0), .int 5, bytesA (wd m), .ptr 1 0] H (.tup []) H' := ca
  have g0 := hst.1
  refine scode_seq_mid (StE c m ([] ++ onl (c.mru != 1500) ⟨1, hf c.mru⟩ ++ onl (c.accm != 4294967295) ⟨2, wd c.accm⟩ ++ onl (c.server) ⟨3, proofL⟩ ++ onl (m != 0) ⟨5, wd m⟩)) ?_ ?_
  · refine scode_hide (fun K hK => ?_)
    refine scode_region (by kernel_rfl) ?_
    refine w_take 5 (fun K6 hK6 => ?_)
    simp [go_sem, h1, h2, h6, g0, cfg_len, h1, befL]
    refine ⟨_, _, c32 _ _, ?_⟩
    refine hK6 _ _ ?_
    clear hK6 K6
    simp [go_sem, h1, h2, h6, g0, cfg_len, h1, befL]
    refine ⟨_, _, ca, ?_⟩
    try simp [go_sem, h1, h2, h6, g0, cfg_len, h1, befL]
    refine hK _ _ ?_
    exact ⟨by simp [go_sem, h1], by simp [go_sem, h2], by simp [go_sem, h5], by simp [go_sem, h6], hst'⟩
  clear h1 h2 h5 h6 hst hst' ca g0
  rintro env H ⟨h1, h2, h5, h6, hst⟩
  have hl4 := len_onl _ (m != 0) ⟨5, wd m⟩ hl3
  obtain ⟨H', ca, hst'⟩ := add_s (c.pfc) ⟨7, []⟩ (by decide) hst (by omega)
  have ca : SCalls Tryz.prog 30 [.bool (c.pfc), .int 7, .nil, .ptr 1 0] H (.tup []) H' := ca
  have g0 := hst.1
  refine scode_seq_mid (StE c m ([] ++ onl (c.mru != 1500) ⟨1, hf c.mru⟩ ++ onl (c.accm != 4294967295) ⟨2, wd c.accm⟩ ++ onl (c.server) ⟨3, proofL⟩ ++ onl (m != 0) ⟨5, wd m⟩ ++ onl (c.pfc) ⟨7, []⟩)) ?_ ?_
  · refine scode_hide (fun K hK => ?_)
    refine scode_region (by kernel_rfl) ?_
    refine w_take 3 (fun K6 hK6 => ?_)
    simp [go_sem, h1, h2, h6, g0, cfg_len, d4, befL]
    refine hK6 _ _ ?_
    clear hK6 K6
    simp [go_sem, h1, h2, h6, g0, cfg_len, d4, befL]
    refine ⟨_, _, ca, ?_⟩
    try simp [go_sem, h1, h2, h6, g0, cfg_len, d4, befL]
    refine hK _ _ ?_
    exact ⟨by simp [go_sem, h1], by simp [go_sem, h2], by simp [go_sem, h5], by simp [go_sem, h6], hst'⟩
  clear h1 h2 h5 h6 hst hst' ca g0
  rintro env H ⟨h1, h2, h5, h6, hst⟩
  have hl5 := len_onl _ (c.pfc) ⟨7, []⟩ hl4
  obtain ⟨H', ca, hst'⟩ := add_s (c.acfc) ⟨8, []⟩ (by decide) hst (by omega)
  have ca : SCalls Tryz.prog 30 [.bool (c.acfc), .int 8, .nil, .ptr 1 0] H (.tup []) H' := ca
  have g0 := hst.1
  refine scode_seq_mid (StE c m ([] ++ onl (c.mru != 1500) ⟨1, hf c.mru⟩ ++ onl (c.accm != 4294967295) ⟨2, wd c.accm⟩ ++ onl (c.server) ⟨3, proofL⟩ ++ onl (m != 0) ⟨5, wd m⟩ ++ onl (c.pfc) ⟨7, []⟩ ++ onl (c.acfc) ⟨8, []⟩)) ?_ ?_
  · refine scode_hide (fun K hK => ?_)
    refine scode_region (by kernel_rfl) ?_
    refine w_take 3 (fun K6 hK6 => ?_)
    simp [go_sem, h1, h2, h6, g0, cfg_len, d5, befL]
    refine hK6 _ _ ?_
    clear hK6 K6
    simp [go_sem, h1, h2, h6, g0, cfg_len, d5, befL]
    refine ⟨_, _, ca, ?_⟩
    try simp [go_sem, h1, h2, h6, g0, cfg_len, d5, befL]
    refine hK _ _ ?_
    exact ⟨by simp [go_sem, h1], by simp [go_sem, h2], by simp [go_sem, h5], by simp [go_sem, h6], hst'⟩
  clear h1 h2 h5 h6 hst hst' ca g0
  rintro env H ⟨h1, h2, h5, h6, hst⟩
  have hl6 := len_onl _ (c.acfc) ⟨8, []⟩ hl5
  obtain ⟨H', ca, hst'⟩ := add_s (c.mrru != 0) ⟨17, hf c.mrru⟩ (by decide) hst (by omega)
  have ca : SCalls Tryz.prog 30 [.bool (c.mrru != 0), .int 17, bytesA (hf c.mrru), .ptr 1 0] H (.tup []) H' := ca
  have g0 := hst.1
  refine scode_seq_mid (StE c m ([] ++ onl (c.mru != 1500) ⟨1, hf c.mru⟩ ++ onl (c.accm != 4294967295) ⟨2, wd c.accm⟩ ++ onl (c.server) ⟨3, proofL⟩ ++ onl (m != 0) ⟨5, wd m⟩ ++ onl (c.pfc) ⟨7, []⟩ ++ onl (c.acfc) ⟨8, []⟩ ++ onl (c.mrru != 0) ⟨17, hf c.mrru⟩)) ?_ ?_
  · refine scode_hide (fun K hK => ?_)
    refine scode_draw mixed (by kernel_rfl) (bf := [0, 0, 2, 6, 0, 16, 48, 127]) (by kernel_rfl) ?_
    refine wd_take 7 (by decide) (fun K6 hK6 => ?_)
    simp [go_sem, h1, h2, h6, g0, cfg_len, d7, befL]
    refine ⟨_, _, c31 _ _, ?_⟩
    try simp [go_sem, h1, h2, h6, g0, cfg_len, d7, befL]
    refine hK6 _ _ _ _ ?_
    clear hK6 K6
    simp [go_sem, h1, h2, h6, g0, cfg_len, d7, befL]
    refine ⟨_, _, ca, ?_⟩
    try simp [go_sem, h1, h2, h6, g0, cfg_len, d7, befL]
    refine hK _ _ ?_
    exact ⟨by simp [go_sem, h1], by simp [go_sem, h2], by simp [go_sem, h5], by simp [go_sem, h6], hst'⟩
  clear h1 h2 h5 h6 hst hst' ca g0
  rintro env H ⟨h1, h2, h5, h6, hst⟩
  have hl7 := len_onl _ (c.mrru != 0) ⟨17, hf c.mrru⟩ hl6
  obtain ⟨H', ca, hst'⟩ := add_s (c.mrru != 0 && c.short) ⟨18, []⟩ (by decide) hst (by omega)
  have ca : SCalls Tryz.prog 30 [.bool (c.mrru != 0 && c.short), .int 18, .nil, .ptr 1 0] H (.tup []) H' := ca
  have g0 := hst.1
  refine scode_seq_mid (StE c m ([] ++ onl (c.mru != 1500) ⟨1, hf c.mru⟩ ++ onl (c.accm != 4294967295) ⟨2, wd c.accm⟩ ++ onl (c.server) ⟨3, proofL⟩ ++ onl (m != 0) ⟨5, wd m⟩ ++ onl (c.pfc) ⟨7, []⟩ ++ onl (c.acfc) ⟨8, []⟩ ++ onl (c.mrru != 0) ⟨17, hf c.mrru⟩ ++ onl (c.mrru != 0 && c.short) ⟨18, []⟩)) ?_ ?_
  · refine scode_hide (fun K hK => ?_)
    refine scode_region (by kernel_rfl) ?_
    obtain ⟨z, hz⟩ : ∃ z, c.short = z := ⟨_, rfl⟩
    rw [hz] at ca
    cases z
    · simp only [Bool.and_false] at ca
      refine w_take 8 (fun K6 hK6 => ?_)
      simp [go_sem, h1, h2, h6, g0, cfg_len, d7, d8, hz]
      refine hK6 _ _ ?_
      clear hK6 K6
      simp [go_sem, h1, h2, h6, g0, cfg_len, d7, d8]
      refine ⟨_, _, ca, ?_⟩
      refine hK _ _ ?_
      exact ⟨by simp [go_sem, h1], by simp [go_sem, h2], by simp [go_sem, h5], by simp [go_sem, h6], hst'⟩
    · simp only [Bool.and_true] at ca
      refine w_take 8 (fun K6 hK6 => ?_)
      simp [go_sem, h1, h2, h6, g0, cfg_len, d7, d8, hz]
      refine hK6 _ _ ?_
      clear hK6 K6
      simp [go_sem, h1, h2, h6, g0, cfg_len, d7, d8]
      refine ⟨_, _, ca, ?_⟩
      refine hK _ _ ?_
      exact ⟨by simp [go_sem, h1], by simp [go_sem, h2], by simp [go_sem, h5], by simp [go_sem, h6], hst'⟩
  clear h1 h2 h5 h6 hst hst' ca g0
  rintro env H ⟨h1, h2, h5, h6, hst⟩
  have hl8 := len_onl _ (c.mrru != 0 && c.short) ⟨18, []⟩ hl7
  obtain ⟨g0, x, bo, g1, hg, b0, b1⟩ := hst
  refine scode_seq_k (fun K1 hK1 => ?_)
  refine scode_region (by kernel_rfl) ?_
  simp [go_sem, h5, g1]
  refine hK1 _ _ ?_
  refine scode_ret ?_
  simp only [go_sem]
  refine hR _ _ ?_
  exact ret_pure (v := x) (by simp [go_sem]) (froz_raw hg (fun b _ => Nat.zero_le b)) (empty_le _) (Nat.zero_le _) (optsA_lt _ _)
end Go.Proofs.YtklihehobpahkaaGreatDoor
end M20S

set_option maxRecDepth 20000
noncomputable section M21S
namespace Go.Proofs.YtklihehobpahkaaGreatDoor
open Go Go.Fl Go.Proofs

/-- The frame of the document's Ask with so many options asked. -/
def StR (c : Cfg) (m : Int) (l : List Opt) (env : Env) (H : Heap) : Prop := env 1 = .sc (.int .u32 m) ∧ env 2 = .ptr 0 0 ∧ H.get 0 = some c.cells ∧ ∃ bo, grown H 2 (env 5) = some (l.length, rawV l, bo) ∧ bo ≠ some 0

theorem stR_add {c : Cfg} {m : Int} {l : List Opt} {env env' : Env} {H : Heap} {k : Int} {d : List Int} {bo : Option Nat} (h0 : H.get 0 = some c.cells) (hg : grown H 2 (env 5) = some (l.length, rawV l, bo)) (hb : bo ≠ some 0)
    (h1 : env' 1 = .sc (.int .u32 m)) (h2 : env' 2 = .ptr 0 0) (h5 : env' 5 = .ms (H.next + 1) 0 (l.length + 1) 2) : StR c m (l ++ onl true ⟨k, d⟩) env' ((H.alloc [.int k, dA d]).regrow bo (rawV l ++ [.int k, dA d])) := by
  refine ⟨h1, h2, get_regrow_other (by rw [Heap.get_alloc, if_neg (by have := Heap.lt_of_get h0; omega)]; exact h0) hb, some (H.next + 1), ?_, by simp⟩
  have e : (l ++ onl true ⟨k, d⟩).length = l.length + 1 := by simp [onl]
  have e2 : rawV (l ++ onl true ⟨k, d⟩) = rawV l ++ [.int k, dA d] := rawV_app l ⟨k, d⟩
  rw [e, e2, h5]
  exact app2_grown hg
theorem stR_skip {c : Cfg} {m : Int} {l : List Opt} {env : Env} {H : Heap} {o : Opt} (h : StR c m l env H) : StR c m (l ++ onl false o) env H := by simpa [onl] using h

set_option maxHeartbeats 4000000 in
theorem ask2_s (c : Cfg) (m : Int) (hm : 0 ≤ m ∧ m ≤ 4294967295) (hac : 0 ≤ c.accm ∧ c.accm ≤ 4294967295) : SCalls Tryz.prog 13 [.agg c.cells, .sc (.int .u32 m)] Heap.empty (optsA (askL c m)) Heap.empty := by
  have c28 := fun H => scalls_frame proof2_s (by simp) (by simp [bytesA_lt]) H
  have c332 := fun x H => scalls_frame (wide2_s x) (by simp [go_sem]) (by simp [bytesA_lt]) H
  have c334 := fun x H => scalls_frame (wide4_s x) (by simp [go_sem]) (by simp [bytesA_lt]) H
  have w1 : IntKind.i64.wrap m = m := IntWalk.i64_in _ (by omega)
  have w2 : IntKind.i64.wrap c.accm = c.accm := IntWalk.i64_in _ (by omega)
  obtain ⟨d0, ⟨r3, d3⟩, ⟨r4, d4⟩, ⟨r5, d5⟩, ⟨r6, d6⟩, ⟨r7, d7⟩, ⟨r8, d8⟩⟩ := cfg_drop2 c
  refine scalls_of_k (sz := 77) (Tryz.call13) Tryz.func13 rfl (Nat.le_refl _) (by kernel_rfl) (fun R hR => ?_)
  refine scode_seq_k (fun K1 hK1 => ?_)
  refine scode_region (by kernel_rfl) ?_
  simp [go_sem]
  refine hK1 _ _ ?_
  clear hK1 K1
  refine scode_seq_k (fun K2 hK2 => ?_)
  refine scode_region (by kernel_rfl) ?_
  simp [go_sem]
  refine hK2 _ _ ?_
  clear hK2 K2
  obtain ⟨l0, e0⟩ : ∃ l : List Opt, l = [] := ⟨_, rfl⟩
  refine scode_gen (StR c m l0) (by subst e0; exact ⟨by simp [go_sem], by simp [go_sem], by simp [go_sem], none, by simp [go_sem]; rfl, by simp⟩) ?_
  rintro env H ⟨h1, h2, g0, bo, hg, hb⟩
  have hl0 : l0.length ≤ 0 := by rw [e0]; exact Nat.le_refl _
  refine scode_seq_mid (StR c m (l0 ++ onl (c.mru != 1500) ⟨1, hf c.mru⟩)) ?_ ?_
  · obtain ⟨z, hz⟩ : ∃ z, (c.mru != 1500) = z := ⟨_, rfl⟩
    have hap : aappend Tryz.prog (H.alloc [.int 1, .vs (hf c.mru).length 1 (bytesV (hf c.mru))]) 25 25 (env 5) (.ms H.next 0 1 2) = some (.ms (H.next + 1) 0 ((l0).length + 1) 2, (H.alloc [.int 1, .vs (hf c.mru).length 1 (bytesV (hf c.mru))]).regrow bo (rawV (l0) ++ [.int 1, .vs (hf c.mru).length 1 (bytesV (hf c.mru))])) := app2 hg (by omega) rfl
    refine scode_seq_k (fun K3 hK3 => ?_)
    refine scode_region (by kernel_rfl) ?_
    simp [go_sem, h1, h2, g0, cfg_len, d3, hz]
    refine hK3 _ _ ?_
    rw [hz]
    refine scode_if (b := z) (by simp [go_sem]) (fun hx => ?_) (fun hx => ?_)
    · subst hx
      refine scode_hide (fun K hK => ?_)
      refine scode_region (by kernel_rfl) ?_
      refine w_take 4 (fun K6 hK6 => ?_)
      simp [go_sem, h1, h2, g0, cfg_len, d3]
      refine ⟨_, _, c332 _ _, ?_⟩
      refine hK6 _ _ ?_
      clear hK6 K6
      simp [go_sem, h1, h2, g0, cfg_len, d3, bytesA, hap]
      refine hK _ _ ?_
      exact stR_add (k := 1) (d := hf c.mru) g0 hg hb (by simp [go_sem, h1]) (by simp [go_sem, h2]) (by simp [go_sem])
    · subst hx
      refine scode_skip ?_
      exact stR_skip ⟨by simp [go_sem, h1], by simp [go_sem, h2], g0, bo, by simpa [go_sem] using hg, hb⟩
  clear h1 h2 g0 hg hb bo
  rintro env H ⟨h1, h2, g0, bo, hg, hb⟩
  have hl1 := len_onl _ (c.mru != 1500) ⟨1, hf c.mru⟩ hl0
  generalize e1 : l0 ++ onl (c.mru != 1500) ⟨1, hf c.mru⟩ = l1 at hg hl1
  refine scode_seq_mid (StR c m (l1 ++ onl (c.accm != 4294967295) ⟨2, wd c.accm⟩)) ?_ ?_
  · obtain ⟨z, hz⟩ : ∃ z, (c.accm != 4294967295) = z := ⟨_, rfl⟩
    have hap : aappend Tryz.prog (H.alloc [.int 2, .vs (wd c.accm).length 1 (bytesV (wd c.accm))]) 25 25 (env 5) (.ms H.next 0 1 2) = some (.ms (H.next + 1) 0 ((l1).length + 1) 2, (H.alloc [.int 2, .vs (wd c.accm).length 1 (bytesV (wd c.accm))]).regrow bo (rawV (l1) ++ [.int 2, .vs (wd c.accm).length 1 (bytesV (wd c.accm))])) := app2 hg (by omega) rfl
    refine scode_seq_k (fun K3 hK3 => ?_)
    refine scode_region (by kernel_rfl) ?_
    simp [go_sem, h1, h2, g0, cfg_len, d6, w2, hz]
    refine hK3 _ _ ?_
    rw [hz]
    refine scode_if (b := z) (by simp [go_sem]) (fun hx => ?_) (fun hx => ?_)
    · subst hx
      refine scode_hide (fun K hK => ?_)
      refine scode_region (by kernel_rfl) ?_
      refine w_take 5 (fun K6 hK6 => ?_)
      simp [go_sem, h1, h2, g0, cfg_len, d6, w2]
      refine ⟨_, _, c334 _ _, ?_⟩
      refine hK6 _ _ ?_
      clear hK6 K6
      simp [go_sem, h1, h2, g0, cfg_len, d6, w2, bytesA, hap]
      refine hK _ _ ?_
      exact stR_add (k := 2) (d := wd c.accm) g0 hg hb (by simp [go_sem, h1]) (by simp [go_sem, h2]) (by simp [go_sem])
    · subst hx
      refine scode_skip ?_
      exact stR_skip ⟨by simp [go_sem, h1], by simp [go_sem, h2], g0, bo, by simpa [go_sem] using hg, hb⟩
  clear h1 h2 g0 hg hb bo
  rintro env H ⟨h1, h2, g0, bo, hg, hb⟩
  have hl2 := len_onl _ (c.accm != 4294967295) ⟨2, wd c.accm⟩ hl1
  generalize e2 : l1 ++ onl (c.accm != 4294967295) ⟨2, wd c.accm⟩ = l2 at hg hl2
  refine scode_seq_mid (StR c m (l2 ++ onl (c.server) ⟨3, proofL⟩)) ?_ ?_
  · obtain ⟨z, hz⟩ : ∃ z, (c.server) = z := ⟨_, rfl⟩
    have hap : aappend Tryz.prog (H.alloc [.int 3, .vs (proofL).length 1 (bytesV (proofL))]) 25 25 (env 5) (.ms H.next 0 1 2) = some (.ms (H.next + 1) 0 ((l2).length + 1) 2, (H.alloc [.int 3, .vs (proofL).length 1 (bytesV (proofL))]).regrow bo (rawV (l2) ++ [.int 3, .vs (proofL).length 1 (bytesV (proofL))])) := app2 hg (by omega) rfl
    refine scode_seq_k (fun K3 hK3 => ?_)
    refine scode_region (by kernel_rfl) ?_
    simp [go_sem, h1, h2, g0, cfg_len, d0, hz]
    refine hK3 _ _ ?_
    rw [hz]
    refine scode_if (b := z) (by simp [go_sem]) (fun hx => ?_) (fun hx => ?_)
    · subst hx
      refine scode_hide (fun K hK => ?_)
      refine scode_region (by kernel_rfl) ?_
      refine w_take 2 (fun K6 hK6 => ?_)
      simp [go_sem, h1, h2, g0, cfg_len, d0]
      refine ⟨_, _, c28 _, ?_⟩
      refine hK6 _ _ ?_
      clear hK6 K6
      simp [go_sem, h1, h2, g0, cfg_len, d0, bytesA, hap]
      refine hK _ _ ?_
      exact stR_add (k := 3) (d := proofL) g0 hg hb (by simp [go_sem, h1]) (by simp [go_sem, h2]) (by simp [go_sem])
    · subst hx
      refine scode_skip ?_
      exact stR_skip ⟨by simp [go_sem, h1], by simp [go_sem, h2], g0, bo, by simpa [go_sem] using hg, hb⟩
  clear h1 h2 g0 hg hb bo
  rintro env H ⟨h1, h2, g0, bo, hg, hb⟩
  have hl3 := len_onl _ (c.server) ⟨3, proofL⟩ hl2
  generalize e3 : l2 ++ onl (c.server) ⟨3, proofL⟩ = l3 at hg hl3
  refine scode_seq_mid (StR c m (l3 ++ onl (m != 0) ⟨5, wd m⟩)) ?_ ?_
  · obtain ⟨z, hz⟩ : ∃ z, (m != 0) = z := ⟨_, rfl⟩
    have hap : aappend Tryz.prog (H.alloc [.int 5, .vs (wd m).length 1 (bytesV (wd m))]) 25 25 (env 5) (.ms H.next 0 1 2) = some (.ms (H.next + 1) 0 ((l3).length + 1) 2, (H.alloc [.int 5, .vs (wd m).length 1 (bytesV (wd m))]).regrow bo (rawV (l3) ++ [.int 5, .vs (wd m).length 1 (bytesV (wd m))])) := app2 hg (by omega) rfl
    refine scode_seq_k (fun K3 hK3 => ?_)
    refine scode_region (by kernel_rfl) ?_
    simp [go_sem, h1, h2, g0, cfg_len, h1, w1, hz]
    refine hK3 _ _ ?_
    rw [hz]
    refine scode_if (b := z) (by simp [go_sem]) (fun hx => ?_) (fun hx => ?_)
    · subst hx
      refine scode_hide (fun K hK => ?_)
      refine scode_region (by kernel_rfl) ?_
      refine w_take 4 (fun K6 hK6 => ?_)
      simp [go_sem, h1, h2, g0, cfg_len, h1, w1]
      refine ⟨_, _, c334 _ _, ?_⟩
      refine hK6 _ _ ?_
      clear hK6 K6
      simp [go_sem, h1, h2, g0, cfg_len, h1, w1, bytesA, hap]
      refine hK _ _ ?_
      exact stR_add (k := 5) (d := wd m) g0 hg hb (by simp [go_sem, h1]) (by simp [go_sem, h2]) (by simp [go_sem])
    · subst hx
      refine scode_skip ?_
      exact stR_skip ⟨by simp [go_sem, h1], by simp [go_sem, h2], g0, bo, by simpa [go_sem] using hg, hb⟩
  clear h1 h2 g0 hg hb bo
  rintro env H ⟨h1, h2, g0, bo, hg, hb⟩
  have hl4 := len_onl _ (m != 0) ⟨5, wd m⟩ hl3
  generalize e4 : l3 ++ onl (m != 0) ⟨5, wd m⟩ = l4 at hg hl4
  refine scode_seq_mid (StR c m (l4 ++ onl (c.pfc) ⟨7, []⟩)) ?_ ?_
  · obtain ⟨z, hz⟩ : ∃ z, (c.pfc) = z := ⟨_, rfl⟩
    have hap : aappend Tryz.prog (H.alloc [.int 7, .nil]) 25 25 (env 5) (.ms H.next 0 1 2) = some (.ms (H.next + 1) 0 ((l4).length + 1) 2, (H.alloc [.int 7, .nil]).regrow bo (rawV (l4) ++ [.int 7, .nil])) := app2 hg (by omega) rfl
    refine scode_seq_k (fun K3 hK3 => ?_)
    refine scode_region (by kernel_rfl) ?_
    simp [go_sem, h1, h2, g0, cfg_len, d4, hz]
    refine hK3 _ _ ?_
    rw [hz]
    refine scode_if (b := z) (by simp [go_sem]) (fun hx => ?_) (fun hx => ?_)
    · subst hx
      refine scode_hide (fun K hK => ?_)
      refine scode_region (by kernel_rfl) ?_
      simp [go_sem, h1, h2, g0, cfg_len, d4, bytesA, hap]
      refine hK _ _ ?_
      exact stR_add (k := 7) (d := []) g0 hg hb (by simp [go_sem, h1]) (by simp [go_sem, h2]) (by simp [go_sem])
    · subst hx
      refine scode_skip ?_
      exact stR_skip ⟨by simp [go_sem, h1], by simp [go_sem, h2], g0, bo, by simpa [go_sem] using hg, hb⟩
  clear h1 h2 g0 hg hb bo
  rintro env H ⟨h1, h2, g0, bo, hg, hb⟩
  have hl5 := len_onl _ (c.pfc) ⟨7, []⟩ hl4
  generalize e5 : l4 ++ onl (c.pfc) ⟨7, []⟩ = l5 at hg hl5
  refine scode_seq_mid (StR c m (l5 ++ onl (c.acfc) ⟨8, []⟩)) ?_ ?_
  · obtain ⟨z, hz⟩ : ∃ z, (c.acfc) = z := ⟨_, rfl⟩
    have hap : aappend Tryz.prog (H.alloc [.int 8, .nil]) 25 25 (env 5) (.ms H.next 0 1 2) = some (.ms (H.next + 1) 0 ((l5).length + 1) 2, (H.alloc [.int 8, .nil]).regrow bo (rawV (l5) ++ [.int 8, .nil])) := app2 hg (by omega) rfl
    refine scode_seq_k (fun K3 hK3 => ?_)
    refine scode_region (by kernel_rfl) ?_
    simp [go_sem, h1, h2, g0, cfg_len, d5, hz]
    refine hK3 _ _ ?_
    rw [hz]
    refine scode_if (b := z) (by simp [go_sem]) (fun hx => ?_) (fun hx => ?_)
    · subst hx
      refine scode_hide (fun K hK => ?_)
      refine scode_region (by kernel_rfl) ?_
      simp [go_sem, h1, h2, g0, cfg_len, d5, bytesA, hap]
      refine hK _ _ ?_
      exact stR_add (k := 8) (d := []) g0 hg hb (by simp [go_sem, h1]) (by simp [go_sem, h2]) (by simp [go_sem])
    · subst hx
      refine scode_skip ?_
      exact stR_skip ⟨by simp [go_sem, h1], by simp [go_sem, h2], g0, bo, by simpa [go_sem] using hg, hb⟩
  clear h1 h2 g0 hg hb bo
  rintro env H ⟨h1, h2, g0, bo, hg, hb⟩
  have hl6 := len_onl _ (c.acfc) ⟨8, []⟩ hl5
  generalize e6 : l5 ++ onl (c.acfc) ⟨8, []⟩ = l6 at hg hl6
  refine scode_seq_mid (StR c m (l6 ++ onl (c.mrru != 0) ⟨17, hf c.mrru⟩)) ?_ ?_
  · obtain ⟨z, hz⟩ : ∃ z, (c.mrru != 0) = z := ⟨_, rfl⟩
    have hap : aappend Tryz.prog (H.alloc [.int 17, .vs (hf c.mrru).length 1 (bytesV (hf c.mrru))]) 25 25 (env 5) (.ms H.next 0 1 2) = some (.ms (H.next + 1) 0 ((l6).length + 1) 2, (H.alloc [.int 17, .vs (hf c.mrru).length 1 (bytesV (hf c.mrru))]).regrow bo (rawV (l6) ++ [.int 17, .vs (hf c.mrru).length 1 (bytesV (hf c.mrru))])) := app2 hg (by omega) rfl
    refine scode_seq_k (fun K3 hK3 => ?_)
    refine scode_region (by kernel_rfl) ?_
    simp [go_sem, h1, h2, g0, cfg_len, d7, hz]
    refine hK3 _ _ ?_
    rw [hz]
    refine scode_if (b := z) (by simp [go_sem]) (fun hx => ?_) (fun hx => ?_)
    · subst hx
      refine scode_hide (fun K hK => ?_)
      refine scode_region (by kernel_rfl) ?_
      refine w_take 4 (fun K6 hK6 => ?_)
      simp [go_sem, h1, h2, g0, cfg_len, d7]
      refine ⟨_, _, c332 _ _, ?_⟩
      refine hK6 _ _ ?_
      clear hK6 K6
      simp [go_sem, h1, h2, g0, cfg_len, d7, bytesA, hap]
      refine hK _ _ ?_
      exact stR_add (k := 17) (d := hf c.mrru) g0 hg hb (by simp [go_sem, h1]) (by simp [go_sem, h2]) (by simp [go_sem])
    · subst hx
      refine scode_skip ?_
      exact stR_skip ⟨by simp [go_sem, h1], by simp [go_sem, h2], g0, bo, by simpa [go_sem] using hg, hb⟩
  clear h1 h2 g0 hg hb bo
  rintro env H ⟨h1, h2, g0, bo, hg, hb⟩
  have hl7 := len_onl _ (c.mrru != 0) ⟨17, hf c.mrru⟩ hl6
  generalize e7 : l6 ++ onl (c.mrru != 0) ⟨17, hf c.mrru⟩ = l7 at hg hl7
  refine scode_seq_mid (StR c m (l7 ++ onl (c.mrru != 0 && c.short) ⟨18, []⟩)) ?_ ?_
  · obtain ⟨z, hz⟩ : ∃ z, (c.mrru != 0 && c.short) = z := ⟨_, rfl⟩
    have hap : aappend Tryz.prog (H.alloc [.int 18, .nil]) 25 25 (env 5) (.ms H.next 0 1 2) = some (.ms (H.next + 1) 0 ((l7).length + 1) 2, (H.alloc [.int 18, .nil]).regrow bo (rawV (l7) ++ [.int 18, .nil])) := app2 hg (by omega) rfl
    refine scode_seq_mid (fun env' H' => env' 1 = .sc (.int .u32 m) ∧ env' 2 = .ptr 0 0 ∧ env' 5 = env 5 ∧ env' 71 = .bool z ∧ H = H') ?_ ?_
    · refine scode_hide (fun K hK => ?_)
      refine scode_region (by kernel_rfl) ?_
      obtain ⟨z2, hz2⟩ : ∃ z, (c.mrru != 0) = z := ⟨_, rfl⟩
      rw [hz2] at hz
      cases z2
      · simp [go_sem, h1, h2, g0, cfg_len, d7, d8, hz2]
        refine hK _ _ ?_
        exact ⟨by simp [go_sem, h1], by simp [go_sem, h2], by simp [go_sem], by rw [← hz]; simp [go_sem], rfl⟩
      · simp [go_sem, h1, h2, g0, cfg_len, d7, d8, hz2]
        refine hK _ _ ?_
        exact ⟨by simp [go_sem, h1], by simp [go_sem, h2], by simp [go_sem], by rw [← hz]; simp [go_sem], rfl⟩
    clear h1 h2
    rintro env' H' ⟨h1, h2, h5, ht, rfl⟩
    rw [← h5] at hg hap
    clear h5
    have hz := hz
    rw [hz]
    refine scode_if (b := z) (by simp [go_sem, ht]) (fun hx => ?_) (fun hx => ?_)
    · subst hx
      refine scode_hide (fun K hK => ?_)
      refine scode_region (by kernel_rfl) ?_
      simp [go_sem, h1, h2, g0, cfg_len, d7, d8, bytesA, hap]
      refine hK _ _ ?_
      exact stR_add (k := 18) (d := []) g0 hg hb (by simp [go_sem, h1]) (by simp [go_sem, h2]) (by simp [go_sem])
    · subst hx
      refine scode_skip ?_
      exact stR_skip ⟨by simp [go_sem, h1], by simp [go_sem, h2], g0, bo, by simpa [go_sem] using hg, hb⟩
  clear h1 h2 g0 hg hb bo
  rintro env H ⟨h1, h2, g0, bo, hg, hb⟩
  have hl8 := len_onl _ (c.mrru != 0 && c.short) ⟨18, []⟩ hl7
  generalize e8 : l7 ++ onl (c.mrru != 0 && c.short) ⟨18, []⟩ = l8 at hg hl8
  refine scode_seq_k (fun K1 hK1 => ?_)
  refine scode_region (by kernel_rfl) ?_
  simp [go_sem]
  refine hK1 _ _ ?_
  refine scode_ret ?_
  simp only [go_sem]
  refine hR _ _ ?_
  have hask : askL c m = l8 := by rw [← e8, ← e7, ← e6, ← e5, ← e4, ← e3, ← e2, ← e1, e0]; rfl
  rw [hask]
  exact ret_pure (v := env 5) (by simp [go_sem]) (froz_raw hg (fun b _ => Nat.zero_le b)) (empty_le _) (Nat.zero_le _) (optsA_lt _ _)
end Go.Proofs.YtklihehobpahkaaGreatDoor
end M21S
