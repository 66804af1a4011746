/- Contracts: bytes and options. -/
import Derived.Test.YtklihehobpahkaaGreatDoorT6Types
import Derived.Test.YtklihehobpahkaaGreatDoorFl39
import Derived.ChangeKeysEq
set_option linter.unusedVariables false
set_option linter.unusedSimpArgs false
set_option maxRecDepth 20000
noncomputable section
namespace Go.Proofs.YtklihehobpahkaaGreatDoor
open Go Go.Fl Go.Proofs

@[go_sem] theorem next_empty : Heap.empty.next = 0 := rfl
@[go_sem] theorem get_empty (b : Nat) : Heap.empty.get b = none := rfl

@[go_sem] theorem srun_pure {α : Type} (P : Program) (v : α) : srun P (pure v : Sem α) = some v := rfl

def bytesV (l : List Int) : List AV := l.map fun n => .sc (.int .u8 n)
theorem len_bytesV (l : List Int) : (bytesV l).length = l.length := by simp [bytesV]

/-- A slice of bytes. -/
def bytesA (l : List Int) : AV := .vs l.length 1 (bytesV l)
theorem bytesA_lt (l : List Int) (n : Nat) : (bytesA l).Lt n = True := by
  simp [bytesA, go_sem, bytesV]

def isBytes (l : List Int) : Prop := ∀ x ∈ l, 0 ≤ x ∧ x ≤ 255

theorem drop_cons {α : Type} {l : List α} {i : Nat} (h : i < l.length) : ∃ x r, l.drop i = x :: r ∧ l.drop (i + 1) = r ∧ l[i]? = some x := by
  refine ⟨l[i], l.drop (i + 1), ?_, rfl, List.getElem?_eq_getElem h⟩
  exact List.drop_eq_getElem_cons h

theorem bytesV_drop (l : List Int) (i : Nat) : (bytesV l).drop i = bytesV (l.drop i) := by simp [bytesV, List.map_drop]
theorem bytesV_cons (x : Int) (l : List Int) : bytesV (x :: l) = .sc (.int .u8 x) :: bytesV l := rfl

theorem refSame_s (a b : List Int) (hlen : a.length ≤ maxLen) : SCalls Tryz.prog 27 [bytesA a, bytesA b] Heap.empty (.bool (a == b)) Heap.empty := by
  refine scalls_of_k (sz := 26) (Tryz.call27) Tryz.func27 rfl (Nat.le_refl _) (by kernel_rfl) (fun R hR => ?_)
  refine scode_seq_k (fun K1 hK1 => ?_)
  refine scode_region (by kernel_rfl) ?_
  simp [go_sem]
  refine hK1 _ _ ?_
  clear hK1 K1
  refine scode_seq_k (fun K1 hK1 => ?_)
  refine scode_seq_k (fun K2 hK2 => ?_)
  refine scode_region (by kernel_rfl) ?_
  simp [go_sem, bytesA]
  refine hK2 _ _ ?_
  clear hK2 K2
  obtain ⟨q, hq⟩ : ∃ q, ((a.length : Int) != (b.length : Int)) = q := ⟨_, rfl⟩
  refine scode_if (b := q) (by simp [go_sem, hq]) (fun hb => ?_) (fun hb => ?_)
  · refine scode_seq_k (fun K2 hK2 => ?_)
    refine scode_region (by kernel_rfl) ?_
    simp [go_sem]
    refine hK2 _ _ ?_
    refine scode_ret ?_
    simp only [go_sem]
    refine hR _ _ ?_
    have hres : (a == b) = false := by
      rw [hb] at hq
      rw [beq_eq_false_iff_ne]
      intro e
      rw [e] at hq
      simp at hq
    refine ret_plain (by simp [go_sem, hres]) (Heap.le_refl _) (by simp [go_sem]) (by simp [go_sem])
  · have hl : a.length = b.length := by
      rw [hb] at hq
      simp at hq
      omega
    refine scode_skip ?_
    refine hK1 _ _ ?_
    clear hK1 K1
    refine scode_seq_k (fun K1 hK1 => ?_)
    refine scode_seq_k (fun K2 hK2 => ?_)
    refine scode_region (by kernel_rfl) ?_
    simp [go_sem]
    refine hK2 _ _ ?_
    clear hK2 K2
    refine scode_block ?_
    refine scode_loop (Inv := fun n env H => ∃ i : Nat, n = a.length - i ∧ env 0 = bytesA a ∧ env 1 = bytesA b ∧ env 5 = .sc (.int .i64 i) ∧ H = Heap.empty ∧ (a.drop i == b.drop i) = (a == b)) ?_ (n := a.length) ⟨0, rfl, by simp [go_sem, bytesA], by simp [go_sem, bytesA], by simp [go_sem], rfl, rfl⟩
    rintro n env H ⟨i, rfl, h0, h1, h5, rfl, hr⟩
    refine scode_seq_k (fun K2 hK2 => ?_)
    refine scode_seq_k (fun K3 hK3 => ?_)
    refine scode_region (by kernel_rfl) ?_
    simp [go_sem, h0, h1, h5, bytesA]
    refine hK3 _ _ ?_
    clear hK3 K3
    refine scode_if (b := decide (i < a.length)) (by simp [go_sem]) (fun hb => ?_) (fun hb => ?_)
    · refine scode_skip ?_
      refine hK2 _ _ ?_
      clear hK2 K2
      simp only [decide_eq_true_eq] at hb
      obtain ⟨x, r, e1, e2, _⟩ := drop_cons hb
      obtain ⟨y, t, f1, f2, _⟩ := drop_cons (show i < b.length by omega)
      have hbl : i < b.length := by omega
      refine scode_seq_k (fun K4 hK4 => ?_)
      refine scode_block ?_
      refine scode_seq_k (fun K5 hK5 => ?_)
      refine scode_draw mixed (by kernel_rfl) (bf := [0, 0, 3, 7, 0, 0, 48, 112, 255]) (by kernel_rfl) ?_
      simp [go_sem, h0, h1, h5, bytesA, hb, hbl, len_bytesV, bytesV_drop, e1, f1, bytesV_cons, befL]
      refine hK5 _ _ ?_
      clear hK5 K5
      obtain ⟨p, hp⟩ : ∃ p, (x != y) = p := ⟨_, rfl⟩
      refine scode_if (b := p) (by simp [go_sem, hp]) (fun hq' => ?_) (fun hq' => ?_)
      · refine scode_seq_k (fun K5 hK5 => ?_)
        refine scode_region (by kernel_rfl) ?_
        simp [go_sem]
        refine hK5 _ _ ?_
        refine scode_ret ?_
        simp only [go_sem]
        refine hR _ _ ?_
        have hres : (a == b) = false := by
          rw [← hr, e1, f1, beq_eq_false_iff_ne]
          intro e
          cases e
          rw [hq'] at hp
          simp at hp
        refine ret_plain (by simp [go_sem, hres]) (Heap.le_refl _) (by simp [go_sem]) (by simp [go_sem])
      · refine scode_skip ?_
        refine hK4 _ _ ?_
        refine scode_region (by kernel_rfl) ?_
        have hw : IntKind.i64.wrap ((i : Int) + 1) = ((i + 1 : Nat) : Int) := by
          rw [IntWalk.i64_in _ (by unfold maxLen at hlen; omega)]; rfl
        simp [go_sem, h0, h1, h5, hw, bytesA]
        refine ⟨a.length - (i + 1), by omega, i + 1, rfl, rfl, ?_⟩
        have hxy : x = y := by rw [hq'] at hp; simpa using hp
        rw [e2, f2, ← hr, e1, f1, hxy]
        simp
    · refine scode_exit ?_
      refine hK1 _ _ ?_
      refine scode_seq_k (fun K4 hK4 => ?_)
      refine scode_region (by kernel_rfl) ?_
      simp [go_sem]
      refine hK4 _ _ ?_
      refine scode_ret ?_
      simp only [go_sem]
      refine hR _ _ ?_
      simp only [decide_eq_false_iff_not] at hb
      have hres : (a == b) = true := by
        rw [← hr, List.drop_eq_nil_of_le (by omega), List.drop_eq_nil_of_le (by omega)]; rfl
      refine ret_plain (by simp [go_sem, hres]) (Heap.le_refl _) (by simp [go_sem]) (by simp [go_sem])

theorem empty_le (H : Heap) : Heap.empty.le H := fun b cs hb => by rw [get_empty] at hb; cases hb

structure Opt where
  kind : Int
  data : List Int

def Opt.cells (o : Opt) : List AV := [.sc (.int .i64 o.kind), bytesA o.data]
def optsV (l : List Opt) : List AV := l.flatMap Opt.cells
def optsA (l : List Opt) : AV := .vs l.length 2 (optsV l)
@[go_sem] theorem ocells_len (o : Opt) : o.cells.length = 2 := rfl
@[go_sem] theorem ocells_take (o : Opt) : o.cells.take 2 = o.cells := rfl
theorem ocells_lt (o : Opt) (n : Nat) : ∀ x ∈ o.cells, x.Lt n := by simp [Opt.cells, bytesA_lt, go_sem]
theorem optsV_len (l : List Opt) : (optsV l).length = l.length * 2 := by
  induction l with
  | nil => rfl
  | cons s r ih => simp only [optsV, List.flatMap_cons, List.length_append] at *; rw [ih]; simp [Opt.cells]; omega
theorem optsV_drop (l : List Opt) : ∀ i, (optsV l).drop (i * 2) = optsV (l.drop i) := by
  induction l with
  | nil => intro i; simp [optsV]
  | cons s r ih =>
    intro i
    cases i with
    | zero => simp
    | succ i =>
      have e : (i + 1) * 2 = (i * 2) + 2 := by omega
      rw [e]
      simp only [optsV, List.flatMap_cons, List.drop_succ_cons] at *
      rw [← ih i]
      simp [Opt.cells, List.drop_succ_cons]
theorem optsA_lt (l : List Opt) (n : Nat) : (optsA l).Lt n := by
  simp only [optsA, Lt_vs, optsV, List.mem_flatMap]
  rintro x ⟨s, _, hx⟩
  exact ocells_lt s n x hx


theorem refSame_H (a b : List Int) (ha : a.length ≤ maxLen) (H : Heap) : SCalls Tryz.prog 27 [bytesA a, bytesA b] H (.bool (a == b)) H :=
  scalls_frame (refSame_s a b ha) (by simp [bytesA_lt]) (by simp [go_sem]) H

theorem one_refl (o : Opt) (ho : o.data.length ≤ maxLen) : SCalls Tryz.prog 29 [.agg o.cells, .agg o.cells] Heap.empty (.bool true) Heap.empty := by
  have c1 := fun H => refSame_H o.data o.data ho H
  have e : (o.data == o.data) = true := beq_self_eq_true _
  simp only [e] at c1
  refine scalls_of_k (sz := 17) (Tryz.call29) Tryz.func29 rfl (Nat.le_refl _) (by kernel_rfl) (fun R hR => ?_)
  refine scode_seq_k (fun K1 hK1 => ?_)
  refine scode_region (by kernel_rfl) ?_
  simp [go_sem, Opt.cells]
  refine hK1 _ _ ?_
  clear hK1 K1
  refine scode_seq_k (fun K1 hK1 => ?_)
  refine scode_region (by kernel_rfl) ?_
  simp [go_sem]
  refine ⟨_, _, c1 _, ?_⟩
  refine hK1 _ _ ?_
  refine scode_ret ?_
  simp only [go_sem]
  refine hR _ _ ?_
  exact ret_plain (by simp [go_sem]) (empty_le _) (Nat.zero_le _) (by simp [go_sem])

theorem sameO_refl (l : List Opt) (hlen : l.length ≤ 1048576) (hl : ∀ o ∈ l, o.data.length ≤ maxLen) : SCalls Tryz.prog 11 [optsA l, optsA l] Heap.empty (.bool true) Heap.empty := by
  refine scalls_of_k (sz := 27) (Tryz.call11) Tryz.func11 rfl (Nat.le_refl _) (by kernel_rfl) (fun R hR => ?_)
  refine scode_seq_k (fun K1 hK1 => ?_)
  refine scode_region (by kernel_rfl) ?_
  simp [go_sem]
  refine hK1 _ _ ?_
  clear hK1 K1
  refine scode_seq_k (fun K1 hK1 => ?_)
  refine scode_seq_k (fun K2 hK2 => ?_)
  refine scode_region (by kernel_rfl) ?_
  simp [go_sem, optsA]
  refine hK2 _ _ ?_
  clear hK2 K2
  refine scode_if (b := false) (by simp [go_sem]) (fun h => by cases h) (fun _ => ?_)
  refine scode_skip ?_
  refine hK1 _ _ ?_
  clear hK1 K1
  refine scode_seq_k (fun K1 hK1 => ?_)
  refine scode_seq_k (fun K2 hK2 => ?_)
  refine scode_region (by kernel_rfl) ?_
  simp [go_sem]
  refine hK2 _ _ ?_
  clear hK2 K2
  refine scode_block ?_
  refine scode_loop (Inv := fun n env H => ∃ i : Nat, n = l.length - i ∧ env 0 = optsA l ∧ env 1 = optsA l ∧ env 5 = .sc (.int .i64 i) ∧ H = Heap.empty) ?_ (n := l.length) ⟨0, rfl, by simp [go_sem, optsA], by simp [go_sem, optsA], by simp [go_sem], rfl⟩
  rintro n env H ⟨i, rfl, h0, h1, h5, rfl⟩
  refine scode_seq_k (fun K2 hK2 => ?_)
  refine scode_seq_k (fun K3 hK3 => ?_)
  refine scode_region (by kernel_rfl) ?_
  simp [go_sem, h0, h5, optsA]
  refine hK3 _ _ ?_
  clear hK3 K3
  refine scode_if (b := decide (i < l.length)) (by simp [go_sem]) (fun hb => ?_) (fun hb => ?_)
  · refine scode_skip ?_
    refine hK2 _ _ ?_
    clear hK2 K2
    simp only [decide_eq_true_eq] at hb
    obtain ⟨s, r, e1, e2, e3⟩ := drop_cons hb
    have hrow : ((optsV l).drop (i * 2)).take 2 = s.cells := by rw [optsV_drop, e1]; simp [optsV, Opt.cells]
    have hle : 2 ≤ l.length * 2 - i * 2 := by omega
    refine scode_seq_k (fun K4 hK4 => ?_)
    refine scode_block ?_
    refine scode_seq_k (fun K5 hK5 => ?_)
    refine scode_drawK mixed (by kernel_rfl) ?_
    simp [go_sem, h0, h1, h5, optsA, optsV_len, hb, hrow, hle]
    refine ⟨_, _, one_refl s (hl s (List.mem_of_getElem? e3)), ?_⟩
    simp [go_sem]
    refine hK5 _ _ ?_
    clear hK5 K5
    refine scode_if (b := false) (by simp [go_sem]) (fun h => by cases h) (fun _ => ?_)
    refine scode_skip ?_
    refine hK4 _ _ ?_
    refine scode_region (by kernel_rfl) ?_
    have hw : IntKind.i64.wrap ((i : Int) + 1) = ((i + 1 : Nat) : Int) := by
      rw [IntWalk.i64_in _ (by omega)]; rfl
    simp [go_sem, h0, h1, h5, hw, optsA]
    exact ⟨l.length - (i + 1), by omega, i + 1, rfl, rfl⟩
  · refine scode_exit ?_
    refine hK1 _ _ ?_
    refine scode_seq_k (fun K4 hK4 => ?_)
    refine scode_region (by kernel_rfl) ?_
    simp [go_sem]
    refine hK4 _ _ ?_
    refine scode_ret ?_
    simp only [go_sem]
    refine hR _ _ ?_
    exact ret_plain (by simp [go_sem]) (empty_le _) (Nat.zero_le _) (by simp [go_sem])
end Go.Proofs.YtklihehobpahkaaGreatDoor
