/- Contracts: chap.units, chap.hash, chap.Hash. -/
import Derived.Test.YtklihehobpahkaaGreatDoorM9
import Derived.Test.YtklihehobpahkaaGreatDoorM1
import Derived.Test.YtklihehobpahkaaGreatDoorM3
set_option linter.unusedVariables false
set_option linter.unusedSimpArgs false
set_option maxRecDepth 20000
noncomputable section M10S
namespace Go.Proofs.YtklihehobpahkaaGreatDoor
open Go Go.Fl Go.Proofs

/-- A row of cells of one word, some more put behind. -/
theorem appT {t e bt : Nat} {zs : List AV} (ht : Tryz.prog.underlying t = some (.slice e)) (hs : csz Tryz.prog e = some 1) (hb : byt Tryz.prog e = some bt) (hz : zeroC Tryz.prog e = some zs) (hzl : zs.length = 1) (hbt : bt ≤ 16)
    {H : Heap} {s : AV} {n k : Nat} {cs new : List AV} {bo : Option Nat} (hg : grown H 1 s = some (n, cs, bo)) (hn : n + k ≤ 1073741824) (hk : new.length = k) (hx : new.all AV.leaf = true) :
    aappend Tryz.prog (H.alloc new) t t s (.ms H.next 0 k 1) = some (.ms (H.next + 1) 0 (n + k) 1, (H.alloc new).regrow bo (cs ++ new)) := by
  have hm : (n + k) * bt ≤ 1073741824 * 16 := Nat.mul_le_mul hn hbt
  have h := append_step (P := Tryz.prog) (H := H.alloc new) (t := t) (u := t) (e := e) (x := .ms H.next 0 k 1) (k := k) (new := new) ht hs hb hz hzl (by
    unfold source
    rw [ht]
    simp [sliceCells, Heap.get_alloc, hk]
    rw [← hk, List.take_length]) (grown_alloc (v := new) hg) (by omega) (by omega) hx
  rw [h]
  rfl

theorem appT_grown {H : Heap} {s : AV} {n k : Nat} {cs new : List AV} {bo : Option Nat} (hg : grown H 1 s = some (n, cs, bo)) (hk : new.length = k) :
    grown ((H.alloc new).regrow bo (cs ++ new)) 1 (.ms (H.next + 1) 0 (n + k) 1) = some (n + k, cs ++ new, some (H.next + 1)) :=
  grown_after (H := H.alloc new) (k := k) (new := new) (grown_alloc (v := new) hg) (by omega)

/-- How many units a text has (none: it is no text). -/
def walkU : Nat → ByteArray → Option Nat
  | 0, _ => some 0
  | f + 1, s => if s.size = 0 then some 0 else if letD s = (0, 0) then none else (walkU f (s.extract (letD s).2 s.size)).map (· + if 65535 < (letD s).1 then 2 else 1)

def unitsV (s : ByteArray) : AV := match walkU s.size s with
  | none => .tup [.nil, faultA 4]
  | some k => if 256 < k then .tup [.nil, faultA 3] else .tup [aiA .i64 k, .sc .nilIface]

theorem faultA_lt (n : Int) (m : Nat) : (faultA n).Lt m := by simp [faultA, go_sem]

theorem walkU_zero (f : Nat) (s : ByteArray) (h : s.size = 0) : walkU f s = some 0 := by
  cases f with
  | zero => rfl
  | succ f => simp only [walkU, if_pos h]

theorem map_none {k : Nat} : (none : Option Nat).map (· + k) = none := rfl

set_option maxHeartbeats 8000000 in
theorem units_s (s : ByteArray) (hs : s.size ≤ 100000) : SCalls Tryz.prog 57 [.sc (.string s)] Heap.empty (unitsV s) Heap.empty := by
  have hf := fun n (hn : n ≠ 0) H => scalls_frame (fault_s n hn) (by simp [go_sem]) (faultA_lt n 0) H
  refine scalls_of_k (sz := 50) (Tryz.call57) Tryz.func57 rfl (Nat.le_refl _) (by kernel_rfl) (fun R hR => ?_)
  refine scode_seq_k (fun K1 hK1 => ?_)
  refine scode_region (by kernel_rfl) ?_
  simp [go_sem]
  refine hK1 _ _ ?_
  clear hK1 K1
  refine scode_seq_k (fun K2 hK2 => ?_)
  refine scode_region (by kernel_rfl) ?_
  simp [go_sem]
  refine hK2 _ _ ?_
  clear hK2 K2
  refine scode_seq_mid (fun env H => ∃ k cs bo, grown H 1 (env 4) = some (k, cs, bo) ∧ allK .i64 cs ∧ walkU s.size s = some k) ?_ ?_
  · refine scode_block ?_
    refine scode_loop (Inv := fun m env H => ∃ (s' : ByteArray) (f k : Nat) (cs : List AV) (bo : Option Nat), m = s'.size ∧ s'.size ≤ f ∧ s'.size ≤ s.size ∧ k + 2 * s'.size ≤ 2 * s.size ∧ env 0 = .sc (.string s') ∧ grown H 1 (env 4) = some (k, cs, bo) ∧ allK .i64 cs ∧ walkU s.size s = (walkU f s').map (· + k)) ?_ (n := s.size) ⟨s, s.size, 0, [], none, rfl, by omega, by omega, by omega, by simp [go_sem], by simp [go_sem], (fun x hx => by cases hx), by simp⟩
    rintro m env H ⟨s', f, k, cs, bo, rfl, hsf, hss, hk, h0, hg, hc, hw⟩
    refine scode_seq_k (fun K5 hK5 => ?_)
    refine scode_seq_k (fun K6 hK6 => ?_)
    refine scode_region (by kernel_rfl) ?_
    simp [go_sem, h0]
    refine hK6 _ _ ?_
    clear hK6 K6
    refine scode_if (b := decide (0 < s'.size)) (by simp [go_sem]) (fun hb => ?_) (fun hb => ?_)
    · refine scode_skip ?_
      refine hK5 _ _ ?_
      clear hK5 K5
      have hpos : 0 < s'.size := by simpa using hb
      have hne : ¬ s'.size = 0 := by omega
      obtain ⟨f', rfl⟩ : ∃ f', f = f' + 1 := ⟨f - 1, by omega⟩
      refine scode_block ?_
      refine scode_seq_k (fun K7 hK7 => ?_)
      refine scode_region (by kernel_rfl) ?_
      simp [go_sem, h0]
      refine ⟨_, _, dec_s s' hpos _, ?_⟩
      simp [go_sem]
      refine hK7 _ _ ?_
      clear hK7 K7
      refine scode_gen (fun env H => env 0 = .sc (.string s') ∧ env 5 = .sc (.int .i32 (decD s').1) ∧ env 6 = .sc (.int .i64 (decD s').2) ∧ grown H 1 (env 4) = some (k, cs, bo)) ⟨by simp [go_sem, h0], by simp [go_sem], by simp [go_sem], by simpa [go_sem] using hg⟩ ?_
      clear hg h0
      rintro env H ⟨h0, h5, h6, hg⟩
      rcases dec_let s' hpos with ⟨d1, d2⟩ | ⟨d1, d2, d3, d4, d5, d6, d7⟩
      · refine scode_seq_k (fun K8 hK8 => ?_)
        refine scode_seq_k (fun K9 hK9 => ?_)
        refine scode_region (by kernel_rfl) ?_
        simp [go_sem, h5, h6, d2]
        refine hK9 _ _ ?_
        clear hK9 K9
        refine scode_if (b := true) (by simp [go_sem]) (fun _ => ?_) (fun h => by cases h)
        refine scode_seq_k (fun K10 hK10 => ?_)
        refine scode_region (by kernel_rfl) ?_
        simp [go_sem]
        refine ⟨_, _, hf 4 (by decide) _, ?_⟩
        refine hK10 _ _ ?_
        refine scode_ret ?_
        simp only [go_sem]
        refine hR _ _ ?_
        have hv : unitsV s = .tup [.nil, faultA 4] := by
          unfold unitsV
          rw [hw]
          simp only [walkU, if_neg hne, if_pos d1, Option.map_none]
        rw [hv]
        exact ret_plain (by simp [go_sem]) (empty_le _) (Nat.zero_le _) (by simp [go_sem]; exact faultA_lt _ _)
      · obtain ⟨rr, hrr⟩ : ∃ rr, (decD s').1 = rr := ⟨_, rfl⟩
        obtain ⟨nn, hnn⟩ : ∃ nn, (decD s').2 = nn := ⟨_, rfl⟩
        have hl0 : letD s' ≠ (0, 0) := by
          intro e
          rw [d1] at e
          have := congrArg Prod.snd e
          simp only at this
          omega
        have hl1 : (letD s').1 = rr := by rw [d1, hrr]
        have hl2 : (letD s').2 = nn := by rw [d1, hnn]
        rw [hrr] at h5 d6 d7
        rw [hnn] at h6 d3 d4 d5 d7
        refine scode_seq_k (fun K8 hK8 => ?_)
        refine scode_seq_mid (fun env H => env 0 = .sc (.string s') ∧ env 5 = .sc (.int .i32 rr) ∧ env 6 = .sc (.int .i64 nn) ∧ grown H 1 (env 4) = some (k, cs, bo) ∧ env 21 = .sc (.bool false)) ?_ ?_
        · refine scode_hide (fun K9 hK9 => ?_)
          refine scode_region (by kernel_rfl) ?_
          by_cases hq : rr = 65533
          · have hnn2 : ¬ nn < 2 := fun h => by have := d7 h; omega
            have hnn3 : ¬ (nn : Int) < 2 := by omega
            subst hq
            simp [go_sem, h5, h6, hnn3]
            refine hK9 _ _ ?_
            exact ⟨by simp [go_sem, h0], by simp [go_sem, h5], by simp [go_sem, h6], by simpa [go_sem] using hg, by simp [go_sem]⟩
          · have hq' : ((rr : Int) == 65533) = false := by rw [beq_eq_false_iff_ne]; omega
            simp [go_sem, h5, h6, hq']
            refine hK9 _ _ ?_
            exact ⟨by simp [go_sem, h0], by simp [go_sem, h5], by simp [go_sem, h6], by simpa [go_sem] using hg, by simp [go_sem]⟩
        clear h0 h5 h6 hg
        rintro env H ⟨h0, h5, h6, hg, h21⟩
        refine scode_if (b := false) (by simp [go_sem, h21]) (fun h => by cases h) (fun _ => ?_)
        refine scode_skip ?_
        refine hK8 _ _ ?_
        clear hK8 K8 h21
        refine scode_seq_mid (fun env H => env 0 = .sc (.string s') ∧ env 6 = .sc (.int .i64 nn) ∧ ∃ cs bo, grown H 1 (env 4) = some (k + (if 65535 < rr then 2 else 1), cs, bo) ∧ allK .i64 cs) ?_ ?_
        · refine scode_seq_k (fun K12 hK12 => ?_)
          refine scode_region (by kernel_rfl) ?_
          simp [go_sem, h5]
          refine hK12 _ _ ?_
          clear hK12 K12
          have h2 : aappend Tryz.prog = aappend Tryz.prog := rfl
          refine scode_if (b := decide ((65536 : Int) ≤ rr)) (by simp [go_sem]) (fun hb => ?_) (fun hb => ?_)
          · have hb' : 65535 < rr := by simp at hb; omega
            rw [if_pos hb']
            refine scode_seq_k (fun K13 hK13 => ?_)
            refine scode_region (by kernel_rfl) ?_
            simp [go_sem, h5]
            refine hK13 _ _ ?_
            clear hK13 K13
            refine scode_region (by kernel_rfl) ?_
            have hap := fun v w : Int => appT (t := 103) (k := 2) (new := [.sc (.int .i64 v), .sc (.int .i64 w)]) tU103 tS3 tB3 tZ3 rfl (by decide) hg (by omega) rfl rfl
            simp [go_sem, hap]
            exact ⟨h0, h6, _, ⟨_, appT_grown hg rfl⟩, hc.append (fun x hx => by simp only [List.mem_cons, List.mem_nil_iff, or_false] at hx; rcases hx with rfl | rfl <;> exact .inl ⟨_, rfl⟩)⟩
          · have hb' : ¬ 65535 < rr := by simp at hb; omega
            rw [if_neg hb']
            refine scode_region (by kernel_rfl) ?_
            have hap := fun v : Int => appT (t := 103) (k := 1) (new := [.sc (.int .i64 v)]) tU103 tS3 tB3 tZ3 rfl (by decide) hg (by omega) rfl rfl
            simp [go_sem, h5, hap]
            exact ⟨h0, h6, _, ⟨_, appT_grown hg rfl⟩, hc.append (fun x hx => by rw [List.mem_singleton.1 hx]; exact .inl ⟨_, rfl⟩)⟩
        clear h0 h5 h6 hg
        rintro env H ⟨h0, h6, cs', bo', hg, hc'⟩
        refine scode_hide (fun K4 hK4 => ?_)
        refine scode_region (by kernel_rfl) ?_
        simp [go_sem, h0, h6, str_slice s' .i64 nn d5]
        refine hK4 _ _ ?_
        have hsz := size_ext s' nn d5
        refine ⟨s'.size - nn, by omega, s'.extract nn s'.size, f', _, cs', bo', hsz.symm, by omega, by omega, ?_, by simp [go_sem], by simpa [go_sem] using hg, hc', ?_⟩
        · split <;> omega
        · rw [hw]
          simp only [walkU, if_neg hne, if_neg hl0, hl1, hl2, Option.map_map]
          congr 1
          funext x
          simp only [Function.comp]
          omega
    · refine scode_exit ?_
      have h0' : s'.size = 0 := by have := of_decide_eq_false hb; omega
      simp [go_sem]
      exact ⟨k, cs, ⟨bo, hg⟩, hc, by rw [hw, walkU_zero _ _ h0']; simp⟩
  rintro env H ⟨k, cs, bo, hg, hc, hw⟩
  have hl := grown_len (P := Tryz.prog) tU103 hg
  have hv : unitsV s = if 256 < k then .tup [.nil, faultA 3] else .tup [aiA .i64 k, .sc .nilIface] := by
    unfold unitsV; rw [hw]
  refine scode_seq_k (fun K14 hK14 => ?_)
  refine scode_seq_k (fun K15 hK15 => ?_)
  refine scode_region (by kernel_rfl) ?_
  simp [go_sem, hl]
  refine hK15 _ _ ?_
  clear hK15 K15
  refine scode_if (b := decide ((256 : Int) < k)) (by simp [go_sem]) (fun hb => ?_) (fun hb => ?_)
  · have hb' : 256 < k := by simp at hb; omega
    rw [if_pos hb'] at hv
    rw [hv] at hR
    refine scode_seq_k (fun K16 hK16 => ?_)
    refine scode_region (by kernel_rfl) ?_
    simp [go_sem]
    refine ⟨_, _, hf 3 (by decide) _, ?_⟩
    refine hK16 _ _ ?_
    refine scode_ret ?_
    simp only [go_sem]
    refine hR _ _ ?_
    exact ret_plain (by simp [go_sem]) (empty_le _) (Nat.zero_le _) (by simp [go_sem]; exact faultA_lt _ _)
  · have hb' : ¬ 256 < k := by simp at hb; omega
    rw [if_neg hb'] at hv
    rw [hv] at hR
    refine scode_skip ?_
    refine hK14 _ _ ?_
    clear hK14 K14
    refine scode_seq_k (fun K17 hK17 => ?_)
    refine scode_region (by kernel_rfl) ?_
    simp [go_sem]
    refine hK17 _ _ ?_
    refine scode_ret ?_
    simp only [go_sem]
    refine hR _ _ ?_
    exact ret_pure (v := .tup [env 4, .sc .nilIface]) (by simp [go_sem]) (Froz.tupL (.cons (froz_grown hg (fun b _ => Nat.zero_le b) hc) (.cons (.same _) .nil))) (empty_le _) (Nat.zero_le _) (by simp [go_sem]; exact aiA_lt _ _ _)
end Go.Proofs.YtklihehobpahkaaGreatDoor
end M10S

set_option maxRecDepth 20000
noncomputable section M11S
namespace Go.Proofs.YtklihehobpahkaaGreatDoor
open Go Go.Fl Go.Proofs

/-- The number of the error of a secret's digest. -/
def hashE (s : ByteArray) : Int := match walkU s.size s with
  | none => 4
  | some k => if 256 < k then 3 else 0
def hashB (s : ByteArray) : AV := if hashE s = 0 then aiA .u8 16 else .nil
def errA (n : Int) : AV := if n = 0 then .sc .nilIface else faultA n

theorem hash_cases (s : ByteArray) : (∃ k, walkU s.size s = some k ∧ k ≤ 256 ∧ hashE s = 0 ∧ unitsV s = .tup [aiA .i64 k, .sc .nilIface]) ∨ (∃ n, n ≠ 0 ∧ hashE s = n ∧ unitsV s = .tup [.nil, faultA n]) := by
  unfold hashE unitsV
  cases walkU s.size s with
  | none => exact .inr ⟨4, by decide, rfl, rfl⟩
  | some k =>
    by_cases h : 256 < k
    · refine .inr ⟨3, by decide, ?_, ?_⟩
      · simp only [if_pos h]
      · simp only [if_pos h]
    · refine .inl ⟨k, rfl, by omega, ?_, ?_⟩
      · simp only [if_neg h]
      · simp only [if_neg h]

theorem lt_one {a : AV} {n : Nat} (h : a.Lt n) : ∀ x ∈ [a], x.Lt n := fun x hx => by rw [List.mem_singleton.1 hx]; exact h
theorem aiA_len (k : IntKind) (n : Nat) : (ais k n).length = n := ais_len k n

set_option maxHeartbeats 8000000 in
theorem hash_s (s : ByteArray) (hs : s.size ≤ 100000) : SCalls Tryz.prog 42 [.sc (.string s)] Heap.empty (.tup [hashB s, errA (hashE s)]) Heap.empty := by
  have hu := units_s s hs
  refine scalls_of_k (sz := 34) (Tryz.call42) Tryz.func42 rfl (Nat.le_refl _) (by kernel_rfl) (fun R hR => ?_)
  refine scode_seq_k (fun K1 hK1 => ?_)
  refine scode_region (by kernel_rfl) ?_
  simp [go_sem]
  refine hK1 _ _ ?_
  clear hK1 K1
  refine scode_seq_k (fun K2 hK2 => ?_)
  refine scode_region (by kernel_rfl) ?_
  simp [go_sem]
  refine ⟨_, _, hu, ?_⟩
  rcases hash_cases s with ⟨k, _, hk, he, hv⟩ | ⟨n, hn, he, hv⟩
  · rw [hv]
    simp [go_sem]
    refine hK2 _ _ ?_
    clear hK2 K2
    refine scode_seq_k (fun K3 hK3 => ?_)
    refine scode_seq_k (fun K4 hK4 => ?_)
    refine scode_region (by kernel_rfl) ?_
    simp [go_sem]
    refine hK4 _ _ ?_
    clear hK4 K4
    refine scode_if (b := false) (by simp [go_sem]) (fun h => by cases h) (fun _ => ?_)
    refine scode_skip ?_
    refine hK3 _ _ ?_
    clear hK3 K3
    refine scode_seq_k (fun K6 hK6 => ?_)
    refine scode_region (by kernel_rfl) ?_
    simp [go_sem]
    refine hK6 _ _ ?_
    clear hK6 K6
    refine scode_seq_mid (fun env H => ∃ cs bo, grown H 1 (env 6) = some (2 * k, cs, bo) ∧ allK .u8 cs) ?_ ?_
    · refine scode_seq_k (fun K8 hK8 => ?_)
      refine scode_region (by kernel_rfl) ?_
      simp [go_sem, aiA]
      refine hK8 _ _ ?_
      clear hK8 K8
      refine scode_block ?_
      refine scode_loop (Inv := fun m env H => ∃ (i : Nat) (cs : List AV) (bo : Option Nat), m = k - i ∧ i ≤ k ∧ env 17 = aiA .i64 k ∧ env 18 = .sc (.int .i64 k) ∧ env 19 = .sc (.int .i64 i) ∧ grown H 1 (env 6) = some (2 * i, cs, bo) ∧ allK .u8 cs) ?_ (n := k) ⟨0, [], none, rfl, by omega, by simp [go_sem, aiA], by simp [go_sem], by simp [go_sem], by simp [go_sem], fun x hx => by cases hx⟩
      rintro m env H ⟨i, cs, bo, rfl, hi, h17, h18, h19, hg, hc⟩
      refine scode_seq_k (fun K10 hK10 => ?_)
      refine scode_region (by kernel_rfl) ?_
      simp [go_sem, h18, h19]
      refine hK10 _ _ ?_
      clear hK10 K10
      refine scode_seq_k (fun K11 hK11 => ?_)
      refine scode_if (b := decide (i < k)) (by simp [go_sem]) (fun hb => ?_) (fun hb => ?_)
      · refine scode_skip ?_
        refine hK11 _ _ ?_
        clear hK11 K11
        have hik : i < k := of_decide_eq_true hb
        have d1 := ais_drop .i64 hik
        have hw1 : IntKind.i64.wrap ((i : Int) + 1) = ((i + 1 : Nat) : Int) := by rw [IntWalk.i64_in _ (by omega)]; rfl
        refine scode_seq_k (fun K12 hK12 => ?_)
        refine scode_block ?_
        refine scode_seq_k (fun K13 hK13 => ?_)
        refine scode_region (by kernel_rfl) ?_
        simp [go_sem, h17, h19, aiA, ais_len, hik, d1]
        refine hK13 _ _ ?_
        clear hK13 K13
        refine scode_region (by kernel_rfl) ?_
        have hap := appT (t := 51) (k := 2) (new := [.ai .u8, .ai .u8]) tU51 tS5 tB5 tZ5 rfl (by decide) hg (by omega) rfl rfl
        simp [go_sem, hap]
        refine hK12 _ _ ?_
        clear hK12 K12
        refine scode_hide (fun K4 hK4 => ?_)
        refine scode_region (by kernel_rfl) ?_
        simp [go_sem, h19, hw1]
        refine hK4 _ _ ?_
        refine ⟨k - (i + 1), by omega, i + 1, cs ++ [.ai .u8, .ai .u8], some (H.next + 1), rfl, by omega, by simp [go_sem, h17, aiA], by simp [go_sem, h18], by simp [go_sem], ?_, hc.append (fun x hx => by simp only [List.mem_cons, List.mem_nil_iff, or_false] at hx; rcases hx with rfl | rfl <;> exact .inr rfl)⟩
        have := appT_grown (k := 2) (new := [.ai .u8, .ai .u8]) hg rfl
        rw [show 2 * (i + 1) = 2 * i + 2 by omega]
        simp [go_sem]
        exact this
      · refine scode_exit ?_
        have e : i = k := by have := of_decide_eq_false hb; omega
        subst e
        exact ⟨cs, bo, hg, hc⟩
    rintro env H ⟨cs, bo, hg, hc⟩
    refine scode_seq_k (fun K14 hK14 => ?_)
    refine scode_region (by kernel_rfl) ?_
    simp [go_sem]
    refine ⟨_, _, scalls_freeze (H' := H.delo bo) (args' := [aiA .u8 (2 * k)]) (Heap.delo_le _ _) (Heap.delo_next _ _).symm (.cons (froz_grown hg (fun b hb => ?_) hc) .nil) (scalls_frame (sum_s (2 * k) (by omega)) (lt_one (aiA_lt _ _ _)) (aiA_lt _ _ _) _), ?_⟩
    · subst hb
      show (H.del b).get b = none
      rw [Heap.get_del, if_pos rfl]
    refine hK14 _ _ ?_
    refine scode_ret ?_
    simp only [go_sem]
    refine hR _ _ ?_
    refine ret_plain ?_ (empty_le _) (Nat.zero_le _) ?_
    · simp [go_sem, hashB, he, errA]
    · simp [go_sem, hashB, he, errA]; exact aiA_lt _ _ _
  · rw [hv]
    simp [go_sem]
    refine hK2 _ _ ?_
    clear hK2 K2
    refine scode_seq_k (fun K3 hK3 => ?_)
    refine scode_seq_k (fun K4 hK4 => ?_)
    refine scode_region (by kernel_rfl) ?_
    simp [go_sem, faultA]
    refine hK4 _ _ ?_
    clear hK4 K4
    refine scode_if (b := true) (by simp [go_sem]) (fun _ => ?_) (fun h => by cases h)
    refine scode_seq_k (fun K5 hK5 => ?_)
    refine scode_region (by kernel_rfl) ?_
    simp [go_sem]
    refine hK5 _ _ ?_
    clear hK5 K5
    refine scode_ret ?_
    simp only [go_sem]
    refine hR _ _ ?_
    refine ret_plain ?_ (empty_le _) (Nat.zero_le _) ?_
    · simp [go_sem, hashB, he, errA, hn, faultA]
    · simp [go_sem, hashB, he, errA, hn]; exact faultA_lt _ _

theorem hashV_lt (s : ByteArray) (m : Nat) : (AV.tup [hashB s, errA (hashE s)]).Lt m := by
  refine .tup (fun x hx => ?_)
  simp only [List.mem_cons, List.mem_nil_iff, or_false] at hx
  rcases hx with rfl | rfl
  · unfold hashB; split
    · exact aiA_lt _ _ _
    · exact .sc _
  · unfold errA; split
    · exact .sc _
    · exact faultA_lt _ _
theorem hashR_lt (s : ByteArray) (m : Nat) : (AV.tup [hashB s, .int (hashE s)]).Lt m := by
  refine .tup (fun x hx => ?_)
  simp only [List.mem_cons, List.mem_nil_iff, or_false] at hx
  rcases hx with rfl | rfl
  · unfold hashB; split
    · exact aiA_lt _ _ _
    · exact .sc _
  · exact .sc _

theorem numberE_s (n : Int) : SCalls Tryz.prog 43 [errA n] Heap.empty (.int n) Heap.empty := by
  unfold errA
  by_cases h : n = 0
  · rw [if_pos h, h]; exact number0_s
  · rw [if_neg h]; exact number_s n chapS

theorem Hash_s (s : ByteArray) (hs : s.size ≤ 100000) : SCalls Tryz.prog 19 [.sc (.string s)] Heap.empty (.tup [hashB s, .int (hashE s)]) Heap.empty := by
  have c1 := hash_s s hs
  have hel : (errA (hashE s)).Lt 0 := by
    have := hashV_lt s 0
    rw [Lt_tup] at this
    exact this _ (by simp)
  have c2 := fun H => scalls_frame (numberE_s (hashE s)) (by simp; exact hel) (by simp [go_sem]) H
  refine scalls_of_k (sz := 14) (Tryz.call19) Tryz.func19 rfl (Nat.le_refl _) (by kernel_rfl) (fun R hR => ?_)
  refine scode_seq_k (fun K1 hK1 => ?_)
  refine scode_region (by kernel_rfl) ?_
  simp [go_sem]
  refine hK1 _ _ ?_
  clear hK1 K1
  refine scode_seq_k (fun K2 hK2 => ?_)
  refine scode_region (by kernel_rfl) ?_
  simp [go_sem]
  refine ⟨_, _, c1, ?_⟩
  simp [go_sem]
  refine hK2 _ _ ?_
  clear hK2 K2
  refine scode_seq_k (fun K3 hK3 => ?_)
  refine scode_region (by kernel_rfl) ?_
  simp [go_sem]
  refine ⟨_, _, c2 _, ?_⟩
  refine hK3 _ _ ?_
  refine scode_ret ?_
  simp only [go_sem]
  refine hR _ _ ?_
  exact ret_plain (by simp [go_sem]) (empty_le _) (Nat.zero_le _) (hashR_lt s _)
end Go.Proofs.YtklihehobpahkaaGreatDoor
end M11S
