/- sameRules. -/
import Derived.Test.YtklihehobpahkaaGreatDoorM19
import Derived.Test.YtklihehobpahkaaGreatDoorFl43
set_option linter.unusedVariables false
set_option linter.unusedSimpArgs false
set_option maxRecDepth 20000
noncomputable section
namespace Go.Proofs.YtklihehobpahkaaGreatDoor
open Go Go.Fl Go.Proofs

structure Rul where
  kind : Int
  len : Int
  how : Int
  lo : Int
  hi : Int
  want : List Int
  need : Bool
def Rul.cells (r : Rul) : List AV := [.int r.kind, .int r.len, .int r.how, .int r.lo, .int r.hi, dA r.want, .bool r.need]
def rulesV (l : List Rul) : List AV := l.flatMap Rul.cells
def rulesA (l : List Rul) : AV := .vs l.length 7 (rulesV l)
theorem rulesV_len (l : List Rul) : (rulesV l).length = l.length * 7 := by
  induction l with
  | nil => rfl
  | cons o r ih => simp only [rulesV, List.flatMap_cons, List.length_append] at *; rw [ih]; simp [Rul.cells]; omega
theorem rulesV_drop (l : List Rul) : ∀ i, (rulesV l).drop (i * 7) = rulesV (l.drop i) := by
  induction l with
  | nil => intro i; simp [rulesV]
  | cons s r ih =>
    intro i
    cases i with
    | zero => simp
    | succ i =>
      have e : (i + 1) * 7 = (i * 7) + 7 := by omega
      rw [e]
      simp only [rulesV, List.flatMap_cons, List.drop_succ_cons] at *
      rw [← ih i]
      simp [Rul.cells, List.drop_succ_cons]
theorem rulesA_lt (l : List Rul) (n : Nat) : (rulesA l).Lt n := by
  refine .vs (fun x hx => ?_)
  simp only [rulesV, List.mem_flatMap, Rul.cells, List.mem_cons, List.mem_nil_iff, or_false] at hx
  obtain ⟨o, _, rfl | rfl | rfl | rfl | rfl | rfl | rfl⟩ := hx <;> first | exact .sc _ | exact dA_lt _ _

def ruleL (server pfc acfc mr : Bool) : List Rul :=
  [⟨1, 2, 2, 64, 1500, [], false⟩, ⟨2, 4, 1, 0, 0, [], false⟩] ++ (if server then [] else [⟨3, 3, 3, 0, 0, proofL, true⟩]) ++ [⟨5, 4, 1, 0, 0, [], false⟩] ++ (if pfc then [⟨7, 0, 1, 0, 0, [], false⟩] else []) ++
    (if acfc then [⟨8, 0, 1, 0, 0, [], false⟩] else []) ++ (if mr then [⟨17, 2, 2, 64, 1500, [], false⟩, ⟨18, 0, 1, 0, 0, [], false⟩] else [])

theorem enQ : ∀ f ∈ [25, 28, 34, 35, 36, 46, 47], Enters Tryz.prog f := by
  simp only [List.mem_cons, List.mem_nil_iff, or_false, forall_eq_or_imp, forall_eq]
  exact ⟨Tryz.call25, Tryz.call28, Tryz.call34, Tryz.call35, Tryz.call36, Tryz.call46, Tryz.call47⟩

theorem turned (server pfc acfc mr : Bool) : SCalls Tryz.prog 35 [rulesA (ruleL server pfc acfc mr)] Heap.empty (rulesA (ruleL server pfc acfc mr)) Heap.empty := by
  cases server <;> cases pfc <;> cases acfc <;> cases mr <;> exact pcall1 enQ 60 (by kernel_rfl)

theorem ruled (c : Cfg) : ∃ l : List Rul, l.length ≤ 20 ∧ (∀ r ∈ l, r.want.length ≤ 3) ∧ SCalls Tryz.prog 34 [.agg c.cells] Heap.empty (rulesA l) Heap.empty ∧ SCalls Tryz.prog 36 [.agg c.cells] Heap.empty (rulesA l) Heap.empty ∧ SCalls Tryz.prog 35 [rulesA l] Heap.empty (rulesA l) Heap.empty := by
  refine ⟨ruleL c.server c.pfc c.acfc (c.mrru != 0), ?_, ?_, ?_, ?_, turned _ _ _ _⟩
  · cases c.server <;> cases c.pfc <;> cases c.acfc <;> cases (c.mrru != 0) <;> decide
  · cases c.server <;> cases c.pfc <;> cases c.acfc <;> cases (c.mrru != 0) <;> simp [ruleL, proofL]
  · obtain ⟨server, name, secret, mru, pfc, acfc, accm, mrru, short, bits, stl, mppc, defl, must, sym, tmo, tries, frag⟩ := c
    rcases mrru with (_ | k) | k
    · cases server <;> cases pfc <;> cases acfc <;> exact pcall1 enQ 60 (by kernel_rfl)
    · cases server <;> cases pfc <;> cases acfc <;> exact pcall1 enQ 60 (by kernel_rfl)
    · cases server <;> cases pfc <;> cases acfc <;> exact pcall1 enQ 60 (by kernel_rfl)
  · obtain ⟨server, name, secret, mru, pfc, acfc, accm, mrru, short, bits, stl, mppc, defl, must, sym, tmo, tries, frag⟩ := c
    rcases mrru with (_ | k) | k
    · cases server <;> cases pfc <;> cases acfc <;> exact pcall1 enQ 60 (by kernel_rfl)
    · cases server <;> cases pfc <;> cases acfc <;> exact pcall1 enQ 60 (by kernel_rfl)
    · cases server <;> cases pfc <;> cases acfc <;> exact pcall1 enQ 60 (by kernel_rfl)

theorem enN : ∀ f ∈ [27], Enters Tryz.prog f := by
  simp only [List.mem_cons, List.mem_nil_iff, or_false, forall_eq]
  exact Tryz.call27
theorem same_d (d : List Int) (hd : d.length ≤ maxLen) : SCalls Tryz.prog 27 [dA d, dA d] Heap.empty (.bool true) Heap.empty := by
  cases d with
  | nil => exact pcall1 enN 20 (by kernel_rfl)
  | cons x r =>
    have := refSame_s (x :: r) (x :: r) hd
    rw [beq_self_eq_true] at this
    exact this

theorem ne_bool (b : Bool) : srun Tryz.prog (binOp BinOp.neq 4 (.bool b) (.bool b)) = some (.bool false) := by cases b <;> kernel_rfl

set_option maxHeartbeats 4000000 in
theorem rules_s (c : Cfg) : SCalls Tryz.prog 14 [.agg c.cells] Heap.empty (.bool true) Heap.empty := by
  obtain ⟨l, hl, hw3, c34, c36, c35⟩ := ruled c
  have c34 := fun H => scalls_frame c34 (by intro x hx; rw [List.mem_singleton.1 hx]; exact c.lt 0) (rulesA_lt _ _) H
  have c36 := fun H => scalls_frame c36 (by intro x hx; rw [List.mem_singleton.1 hx]; exact c.lt 0) (rulesA_lt _ _) H
  have c35 := fun H => scalls_frame c35 (by intro x hx; rw [List.mem_singleton.1 hx]; exact rulesA_lt _ _) (rulesA_lt _ _) H
  have t18 : List.take 18 c.cells = c.cells := rfl
  have cl : c.cells.length = 18 := rfl
  have og : ∀ cs : List AV, (Heap.one cs).get 0 = some cs := fun _ => rfl
  have hmx : 3 ≤ maxLen := by decide
  refine scalls_of_k (sz := 73) (Tryz.call14) Tryz.func14 rfl (Nat.le_refl _) (by kernel_rfl) (fun R hR => ?_)
  refine scode_seq_k (fun K1 hK1 => ?_)
  refine scode_region (by kernel_rfl) ?_
  simp [go_sem]
  refine hK1 _ _ ?_
  clear hK1 K1
  rw [show Heap.empty.alloc c.cells = Heap.one c.cells from rfl]
  refine scode_seq_k (fun K2 hK2 => ?_)
  refine scode_region (by kernel_rfl) ?_
  refine w_take 2 (fun K6 hK6 => ?_)
  simp [go_sem, og, cl, t18]
  refine ⟨_, _, c34 _, ?_⟩
  refine hK6 _ _ ?_
  clear hK6 K6
  simp [go_sem]
  refine hK2 _ _ ?_
  clear hK2 K2
  refine scode_seq_k (fun K2 hK2 => ?_)
  refine scode_region (by kernel_rfl) ?_
  refine w_take 2 (fun K6 hK6 => ?_)
  simp [go_sem, og, cl, t18]
  refine ⟨_, _, c36 _, ?_⟩
  refine hK6 _ _ ?_
  clear hK6 K6
  refine w_take 1 (fun K6 hK6 => ?_)
  simp [go_sem]
  refine ⟨_, _, c35 _, ?_⟩
  refine hK6 _ _ ?_
  clear hK6 K6
  simp [go_sem]
  refine hK2 _ _ ?_
  clear hK2 K2
  refine scode_gen (fun env H => env 3 = rulesA l ∧ env 4 = rulesA l) ⟨by simp [go_sem], by simp [go_sem]⟩ ?_
  rintro env H ⟨h3, h4⟩
  refine scode_seq_k (fun K2 hK2 => ?_)
  refine scode_seq_k (fun K3 hK3 => ?_)
  refine scode_region (by kernel_rfl) ?_
  simp [go_sem, h3, h4, rulesA]
  refine hK3 _ _ ?_
  clear hK3 K3
  refine scode_if (b := false) (by simp [go_sem]) (fun h => by cases h) (fun _ => ?_)
  refine scode_skip ?_
  refine hK2 _ _ ?_
  clear hK2 K2
  refine scode_gen (fun env H => env 3 = rulesA l ∧ env 4 = rulesA l) ⟨by simp [go_sem, h3], by simp [go_sem, h4]⟩ ?_
  clear h3 h4
  rintro env H ⟨h3, h4⟩
  refine scode_seq_mid (fun env H => True) ?_ ?_
  · refine scode_seq_k (fun K3 hK3 => ?_)
    refine scode_region (by kernel_rfl) ?_
    simp [go_sem]
    refine hK3 _ _ ?_
    clear hK3 K3
    refine scode_block ?_
    refine scode_loop (Inv := fun n env H => ∃ i : Nat, n = l.length - i ∧ i ≤ l.length ∧ env 3 = rulesA l ∧ env 4 = rulesA l ∧ env 5 = .int i) ?_ (n := l.length) ⟨0, rfl, by omega, by simp [go_sem, h3], by simp [go_sem, h4], by simp [go_sem]⟩
    clear h3 h4
    rintro n env H ⟨i, rfl, hi, h3, h4, h5⟩
    refine scode_seq_k (fun K6 hK6 => ?_)
    refine scode_seq_k (fun K7 hK7 => ?_)
    refine scode_region (by kernel_rfl) ?_
    simp [go_sem, h3, h5, rulesA]
    refine hK7 _ _ ?_
    clear hK7 K7
    refine scode_if (b := decide (i < l.length)) (by simp [go_sem]) (fun hb => ?_) (fun hb => ?_)
    · refine scode_skip ?_
      refine hK6 _ _ ?_
      clear hK6 K6
      simp only [decide_eq_true_eq] at hb
      obtain ⟨r, rs, e1, e2, e3⟩ := drop_cons hb
      obtain ⟨dw, hdw⟩ : ∃ dw, dA r.want = dw := ⟨_, rfl⟩
      have hcw : dw = .nil ∨ ∃ n cs, dw = .vs n 1 cs := by
        rw [← hdw]
        cases r.want with
        | nil => exact .inl rfl
        | cons x r => exact .inr ⟨_, _, rfl⟩
      have hrow : ((rulesV l).drop (i * 7)).take 7 = [.int r.kind, .int r.len, .int r.how, .int r.lo, .int r.hi, dw, .bool r.need] := by rw [rulesV_drop, e1, ← hdw]; simp [rulesV, Rul.cells]
      have hle : 7 ≤ l.length * 7 - i * 7 := by omega
      have hle3 : i * 7 + 7 ≤ l.length * 7 := by omega
      have hrw := hw3 r (List.mem_of_getElem? e3)
      have c27 := fun H => scalls_frame (same_d r.want (by omega)) (by intro x hx; simp only [List.mem_cons, List.mem_nil_iff, or_false] at hx; rcases hx with rfl | rfl <;> exact dA_lt _ _) (by simp [go_sem]) H
      rw [hdw] at c27
      have hw1 : IntKind.i64.wrap ((i : Int) + 1) = ((i + 1 : Nat) : Int) := by rw [IntWalk.i64_in _ (by omega)]; rfl
      refine scode_seq_k (fun K8 hK8 => ?_)
      refine scode_block ?_
      refine scode_gen (fun env H => env 3 = rulesA l ∧ env 4 = rulesA l ∧ env 5 = .int i) ⟨by simp [go_sem, h3, rulesA], by simp [go_sem, h4], by simp [go_sem, h5]⟩ ?_
      clear h3 h4 h5
      rintro env H ⟨h3, h4, h5⟩
      refine scode_seq_mid (fun env H => env 3 = rulesA l ∧ env 4 = rulesA l ∧ env 5 = .int i ∧ ∃ b6 b7, env 6 = .ptr b6 0 ∧ env 7 = .ptr b7 0 ∧ H.get b6 = some [.int r.kind, .int r.len, .int r.how, .int r.lo, .int r.hi, dw, .bool r.need] ∧ H.get b7 = some [.int r.kind, .int r.len, .int r.how, .int r.lo, .int r.hi, dw, .bool r.need]) ?_ ?_
      · refine scode_hide (fun K hK => ?_)
        refine scode_draw2 (d0 := 6) (d1 := 7) (t := 77) (bf := [0, 0, 3, 7, 0, 0, 48, 112, 0, 0, 783, 2047]) 8 mixed (by kernel_rfl) rfl rfl tZ77 (by kernel_rfl) ?_
        rcases hcw with rfl | ⟨nw, cw, rfl⟩
        · simp [go_sem, h3, h4, h5, rulesA, rulesV_len, hb, hrow, hle, hle3, befL]
          refine hK _ _ ?_
          exact ⟨by simp [go_sem, h3, rulesA], by simp [go_sem, h4, rulesA], by simp [go_sem, h5], _, _, by simp [go_sem]; rfl, by simp [go_sem]; rfl, by simp [go_sem], by simp [go_sem]⟩
        · simp [go_sem, h3, h4, h5, rulesA, rulesV_len, hb, hrow, hle, hle3, befL]
          refine hK _ _ ?_
          exact ⟨by simp [go_sem, h3, rulesA], by simp [go_sem, h4, rulesA], by simp [go_sem, h5], _, _, by simp [go_sem]; rfl, by simp [go_sem]; rfl, by simp [go_sem], by simp [go_sem]⟩
      clear h3 h4 h5
      rintro env H ⟨h3, h4, h5, b6, b7, h6, h7, g6, g7⟩
      refine scode_seq_mid (fun env H => env 3 = rulesA l ∧ env 4 = rulesA l ∧ env 5 = .int i ∧ env 72 = .bool false) ?_ ?_
      · refine scode_hide (fun K hK => ?_)
        refine scode_region (by kernel_rfl) ?_
        refine w_take 6 (fun K6 hK6 => ?_)
        simp [go_sem, h6, h7, g6, g7, ne_bool]
        refine hK6 _ _ ?_
        clear hK6 K6
        refine w_take 7 (fun K6 hK6 => ?_)
        simp [go_sem, h6, h7, g6, g7, ne_bool]
        refine hK6 _ _ ?_
        clear hK6 K6
        refine w_take 7 (fun K6 hK6 => ?_)
        simp [go_sem, h6, h7, g6, g7, ne_bool]
        refine hK6 _ _ ?_
        clear hK6 K6
        refine w_take 7 (fun K6 hK6 => ?_)
        simp [go_sem, h6, h7, g6, g7, ne_bool]
        refine hK6 _ _ ?_
        clear hK6 K6
        refine w_take 7 (fun K6 hK6 => ?_)
        simp [go_sem, h6, h7, g6, g7, ne_bool]
        refine hK6 _ _ ?_
        clear hK6 K6
        refine w_take 5 (fun K6 hK6 => ?_)
        simp [go_sem, h6, h7, g6, g7, ne_bool]
        refine ⟨_, _, c27 _, ?_⟩
        refine hK6 _ _ ?_
        clear hK6 K6
        simp [go_sem]
        refine hK _ _ ?_
        exact ⟨by simp [go_sem, h3], by simp [go_sem, h4], by simp [go_sem, h5], by simp [go_sem]⟩
      clear h3 h4 h5 h6 h7 g6 g7
      rintro env H ⟨h3, h4, h5, ht⟩
      refine scode_if (b := false) (by simp [go_sem, ht]) (fun h => by cases h) (fun _ => ?_)
      refine scode_skip ?_
      refine hK8 _ _ ?_
      clear hK8 K8
      refine scode_hide (fun K hK => ?_)
      refine scode_region (by kernel_rfl) ?_
      simp [go_sem, h5, hw1]
      refine hK _ _ ?_
      exact ⟨l.length - (i + 1), by omega, i + 1, rfl, by omega, by simp [go_sem, h3], by simp [go_sem, h4], by simp [go_sem]⟩
    · refine scode_exit ?_
      trivial
  intro env H _
  refine scode_seq_k (fun K2 hK2 => ?_)
  refine scode_region (by kernel_rfl) ?_
  simp [go_sem]
  refine hK2 _ _ ?_
  refine scode_ret ?_
  simp only [go_sem]
  refine hR _ _ ?_
  exact ret_plain (by simp [go_sem]) (empty_le _) (Nat.zero_le _) (by simp [go_sem])
end Go.Proofs.YtklihehobpahkaaGreatDoor
