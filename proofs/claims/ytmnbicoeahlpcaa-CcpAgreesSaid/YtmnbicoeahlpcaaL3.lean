/- Contracts: bytes.Equal, ledger.Same, ledger.Place. -/
import Derived.Test.YtmnbicoeahlpcaaT1Types
import Derived.Test.YtmnbicoeahlpcaaFl26
import Derived.ChangeKeysEq
set_option maxRecDepth 20000
noncomputable section
namespace Go.Proofs.Ytmnbicoeahlpcaa
open Go Go.Fl Go.Proofs

@[go_sem] theorem next_empty : Heap.empty.next = 0 := rfl
@[go_sem] theorem get_empty (b : Nat) : Heap.empty.get b = none := rfl

@[go_sem] theorem srun_pure {α : Type} (P : Program) (v : α) : srun P (pure v : Sem α) = some v := rfl

def bytesV (l : List Int) : List AV := l.map fun n => .sc (.int .u8 n)
theorem u8s_bytesV (l : List Int) : u8s (bytesV l) = some l := by
  induction l with
  | nil => rfl
  | cons n l ih => simp only [bytesV, List.map_cons, u8s]; simp only [bytesV] at ih; rw [ih]; rfl
theorem len_bytesV (l : List Int) : (bytesV l).length = l.length := by simp [bytesV]

/-- A slice of bytes. -/
def bytesA (l : List Int) : AV := .vs l.length 1 (bytesV l)
theorem bytesA_lt (l : List Int) (n : Nat) : (bytesA l).Lt n = True := by
  simp [bytesA, go_sem, bytesV]

def isBytes (l : List Int) : Prop := ∀ x ∈ l, 0 ≤ x ∧ x ≤ 255

theorem toList_strOf (a : List Int) : (strOf a).data.toList = a.map fun n => UInt8.ofNat n.toNat := by
  have key : ∀ (l : List Int) (r : ByteArray), (l.foldl (fun r n => r.push (UInt8.ofNat n.toNat)) r).data.toList = r.data.toList ++ l.map fun n => UInt8.ofNat n.toNat := by
    intro l
    induction l with
    | nil => intro r; simp
    | cons x l ih => intro r; rw [List.foldl_cons, ih]; simp [ByteArray.push]
  rw [strOf, key]; rfl
theorem map_inj : ∀ {a b : List Int}, isBytes a → isBytes b → (a.map fun n => UInt8.ofNat n.toNat) = (b.map fun n => UInt8.ofNat n.toNat) → a = b
  | [], [], _, _, _ => rfl
  | [], _ :: _, _, _, h => by simp at h
  | _ :: _, [], _, _, h => by simp at h
  | x :: a, y :: b, ha, hb, h => by
    simp only [List.map_cons, List.cons.injEq] at h
    have hx := ha x List.mem_cons_self
    have hy := hb y List.mem_cons_self
    have h1 := congrArg UInt8.toNat h.1
    simp at h1
    have h2 : x = y := by omega
    rw [h2, map_inj (fun z hz => ha z (List.mem_cons_of_mem _ hz)) (fun z hz => hb z (List.mem_cons_of_mem _ hz)) h.2]
theorem strOf_inj {a b : List Int} (ha : isBytes a) (hb : isBytes b) : ((strOf a).toList == (strOf b).toList) = (a == b) := by
  rw [Bool.eq_iff_iff, beq_iff_eq, beq_iff_eq]
  constructor
  · intro h
    refine map_inj ha hb ?_
    rw [← toList_strOf, ← toList_strOf, ← ByteArray.toList_eq, ← ByteArray.toList_eq]
    exact h
  · rintro rfl; rfl

-- bytes.Equal
theorem equal_s (a b : List Int) (ha : isBytes a) (hb : isBytes b) : SCalls Try.prog 37 [bytesA a, bytesA b] Heap.empty (.bool (a == b)) Heap.empty := by
  rw [← strOf_inj ha hb]
  refine scalls_of_k (sz := 10) (Try.call37) Try.func37 rfl (Nat.le_refl _) (by kernel_rfl) (fun R hR => ?_)
  refine scode_seq_k (fun K1 hK1 => ?_)
  refine scode_region (by kernel_rfl) ?_
  simp [go_sem, bytesA]
  refine hK1 _ _ ?_
  clear hK1 K1
  refine scode_seq_k (fun K2 hK2 => ?_)
  refine scode_region (by kernel_rfl) ?_
  simp [go_sem, u8s_bytesV, len_bytesV, bytesA]
  refine hK2 _ _ ?_
  clear hK2 K2
  refine scode_ret ?_
  simp only [go_sem]
  refine hR _ _ ?_
  refine ret_plain (by simp [go_sem]) (Heap.le_refl _) (Nat.le_refl _) (by simp [go_sem])

structure Sn where
  at_ : Int
  proto : Int
  info : List Int

def Sn.cells (s : Sn) : List AV := [.sc (.int .i64 s.at_), .sc (.int .i64 s.proto), bytesA s.info]
def Sn.ok (s : Sn) : Prop := isBytes s.info
def Sn.same (a b : Sn) : Bool := a.proto == b.proto && a.info == b.info

theorem same_s (a b : Sn) (ha : a.ok) (hb : b.ok) : SCalls Try.prog 15 [.agg a.cells, .agg b.cells] Heap.empty (.bool (a.same b)) Heap.empty := by
  refine scalls_of_k (sz := 21) (Try.call15) Try.func15 rfl (Nat.le_refl _) (by kernel_rfl) (fun R hR => ?_)
  refine scode_seq_k (fun K1 hK1 => ?_)
  refine scode_region (by kernel_rfl) ?_
  simp [go_sem, Sn.cells]
  refine hK1 _ _ ?_
  clear hK1 K1
  refine scode_seq_k (fun K2 hK2 => ?_)
  refine scode_region (by kernel_rfl) ?_
  obtain ⟨q, hq⟩ : ∃ q, (a.proto == b.proto) = q := ⟨_, rfl⟩
  have hres : a.same b = (q && (a.info == b.info)) := by rw [Sn.same, hq]
  rcases Bool.eq_false_or_eq_true q with hp | hp
  · simp [go_sem, Sn.cells, hq, hp]
    refine ⟨_, _, scalls_frame (equal_s _ _ ha hb) (by simp [go_sem, bytesA_lt]) (by simp [go_sem]) _, ?_⟩
    refine hK2 _ _ ?_
    clear hK2 K2
    refine scode_ret ?_
    simp only [go_sem]
    refine hR _ _ ?_
    refine ret_plain (by simp [go_sem, hres, hp]) (Heap.le_alloc (Heap.le_alloc (Heap.le_refl _))) (by simp [go_sem]) (by simp [go_sem])
  · simp [go_sem, Sn.cells, hq, hp]
    refine hK2 _ _ ?_
    clear hK2 K2
    refine scode_ret ?_
    simp only [go_sem]
    refine hR _ _ ?_
    refine ret_plain (by simp [go_sem, hres, hp]) (Heap.le_alloc (Heap.le_alloc (Heap.le_refl _))) (by simp [go_sem]) (by simp [go_sem])

@[go_sem] theorem cells_len (s : Sn) : s.cells.length = 3 := rfl
@[go_sem] theorem cells_take (s : Sn) : s.cells.take 3 = s.cells := rfl
theorem cells_lt (s : Sn) (n : Nat) : ∀ x ∈ s.cells, x.Lt n := by simp [Sn.cells, bytesA_lt, go_sem]

def sentsV (l : List Sn) : List AV := l.flatMap Sn.cells
def sentsA (l : List Sn) : AV := .vs l.length 3 (sentsV l)
theorem sentsV_len (l : List Sn) : (sentsV l).length = l.length * 3 := by
  induction l with
  | nil => rfl
  | cons s r ih => simp only [sentsV, List.flatMap_cons, List.length_append] at *; rw [ih]; simp [Sn.cells]; omega
theorem sentsV_drop (l : List Sn) : ∀ i, (sentsV l).drop (i * 3) = sentsV (l.drop i) := by
  induction l with
  | nil => intro i; simp [sentsV]
  | cons s r ih =>
    intro i
    cases i with
    | zero => simp
    | succ i =>
      have e : (i + 1) * 3 = (i * 3) + 3 := by omega
      rw [e]
      simp only [sentsV, List.flatMap_cons, List.drop_succ_cons] at *
      rw [← ih i]
      simp [Sn.cells, List.drop_succ_cons]

def placeL : List Sn → Nat → Sn → Int
  | [], _, _ => -1
  | s :: r, i, d => if s.same d then i else placeL r (i + 1) d

theorem drop_cons {α : Type} {l : List α} {i : Nat} (h : i < l.length) : ∃ x r, l.drop i = x :: r ∧ l.drop (i + 1) = r ∧ l[i]? = some x := by
  refine ⟨l[i], l.drop (i + 1), ?_, rfl, List.getElem?_eq_getElem h⟩
  exact List.drop_eq_getElem_cons h

theorem srun_max0 (P : Program) (tys : Array TypeId) (t : TypeId) (n : Int) : srun P (Builtin.max_ tys t #[.int .i64 n, .int .i64 0]) = some (.int .i64 (n.toNat : Int)) := by
  have h : (if (0 : Int) > n then (0 : Int) else n) = (n.toNat : Int) := by split <;> omega
  show some (Value.int .i64 (if (0 : Int) > n then (0 : Int) else n)) = _
  rw [h]

theorem place_s (l : List Sn) (d : Sn) (from_ : Int) (hl : ∀ s ∈ l, s.ok) (hlen : l.length ≤ maxLen) (hd : d.ok) (hf : from_ ≤ 9223372036854775807) :
    SCalls Try.prog 14 [sentsA l, .sc (.int .i64 from_), .agg d.cells] Heap.empty (.int (placeL (l.drop from_.toNat) from_.toNat d)) Heap.empty := by
  refine scalls_of_k (sz := 23) (Try.call14) Try.func14 rfl (Nat.le_refl _) (by kernel_rfl) (fun R hR => ?_)
  refine scode_seq_k (fun K1 hK1 => ?_)
  refine scode_region (by kernel_rfl) ?_
  simp [go_sem, Sn.cells]
  refine hK1 _ _ ?_
  clear hK1 K1
  refine scode_seq_k (fun K1 hK1 => ?_)
  refine scode_seq_k (fun K2 hK2 => ?_)
  refine scode_region (by kernel_rfl) ?_
  simp [go_sem, srun_max0]
  refine hK2 _ _ ?_
  clear hK2 K2
  refine scode_block ?_
  refine scode_loop (Inv := fun n env H => ∃ i : Nat, n = l.length - i ∧ env 0 = sentsA l ∧ env 5 = .ptr 0 0 ∧ env 7 = .sc (.int .i64 i) ∧ H = Heap.empty.alloc d.cells ∧ placeL (l.drop i) i d = placeL (l.drop from_.toNat) from_.toNat d) ?_ (n := l.length - from_.toNat) ⟨from_.toNat, rfl, by simp [go_sem], by simp [go_sem], by simp [go_sem], by simp [Sn.cells], rfl⟩
  rintro n env H ⟨i, rfl, h0, h5, h7, rfl, hr⟩
  refine scode_seq_k (fun K2 hK2 => ?_)
  refine scode_seq_k (fun K3 hK3 => ?_)
  refine scode_region (by kernel_rfl) ?_
  simp [go_sem, h0, h5, h7, sentsA]
  refine hK3 _ _ ?_
  clear hK3 K3
  refine scode_if (b := decide (i < l.length)) (by simp [go_sem]) (fun hb => ?_) (fun hb => ?_)
  · refine scode_skip ?_
    refine hK2 _ _ ?_
    clear hK2 K2
    simp only [decide_eq_true_eq] at hb
    obtain ⟨s, r, e1, e2, e3⟩ := drop_cons hb
    have hs : s.ok := hl s (List.mem_of_getElem? e3)
    have hrow : ((sentsV l).drop (i * 3)).take 3 = s.cells := by rw [sentsV_drop, e1]; simp [sentsV, Sn.cells]
    refine scode_seq_k (fun K4 hK4 => ?_)
    refine scode_block ?_
    refine scode_seq_k (fun K5 hK5 => ?_)
    refine scode_draw mixed (by kernel_rfl) (bf := [0, 0, 3, 7, 0, 31]) (by kernel_rfl) ?_
    have hle : 3 ≤ l.length * 3 - i * 3 := by omega
    simp [go_sem, h0, h5, h7, sentsA, sentsV_len, hb, hrow, hle, befL]
    refine ⟨_, _, scalls_frame (same_s s d hs hd) (by simp [go_sem]; exact ⟨cells_lt _ _, cells_lt _ _⟩) (by simp [go_sem]) _, ?_⟩
    refine hK5 _ _ ?_
    clear hK5 K5
    refine scode_if (b := s.same d) (by simp [go_sem]) (fun hq => ?_) (fun hq => ?_)
    · refine scode_seq_k (fun K5 hK5 => ?_)
      refine scode_region (by kernel_rfl) ?_
      simp [go_sem, h7]
      refine hK5 _ _ ?_
      refine scode_ret ?_
      simp only [go_sem]
      refine hR _ _ ?_
      have hres : placeL (l.drop from_.toNat) from_.toNat d = i := by
        rw [← hr, e1, placeL, if_pos hq]
      refine ret_plain (by simp [go_sem, hres]) (Heap.le_alloc (Heap.le_refl _)) (by simp [go_sem]) (by simp [go_sem])
    · refine scode_skip ?_
      refine hK4 _ _ ?_
      refine scode_region (by kernel_rfl) ?_
      have hw : IntKind.i64.wrap ((i : Int) + 1) = ((i + 1 : Nat) : Int) := by
        rw [IntWalk.i64_in _ (by unfold maxLen at hlen; omega)]; rfl
      simp [go_sem, h0, h5, h7, hw]
      refine ⟨l.length - (i + 1), by omega, i + 1, rfl, rfl, ?_⟩
      rw [e2, ← hr, e1, placeL, if_neg (by rw [hq]; simp)]
  · refine scode_exit ?_
    refine hK1 _ _ ?_
    refine scode_seq_k (fun K4 hK4 => ?_)
    refine scode_region (by kernel_rfl) ?_
    simp [go_sem]
    refine hK4 _ _ ?_
    refine scode_ret ?_
    simp only [go_sem]
    refine hR _ _ ?_
    simp only [decide_eq_false_iff_not] at hb
    have hres : placeL (l.drop from_.toNat) from_.toNat d = -1 := by
      rw [← hr, List.drop_eq_nil_of_le (by omega)]; rfl
    refine ret_plain (by simp [go_sem, hres]) (Heap.le_alloc (Heap.le_refl _)) (by simp [go_sem]) (by simp [go_sem])


theorem bytesV_drop (l : List Int) (i : Nat) : (bytesV l).drop i = bytesV (l.drop i) := by simp [bytesV, List.map_drop]
theorem bytesV_cons (x : Int) (l : List Int) : bytesV (x :: l) = .sc (.int .u8 x) :: bytesV l := rfl

theorem refSame_s (a b : List Int) (hlen : a.length ≤ maxLen) : SCalls Try.prog 38 [bytesA a, bytesA b] Heap.empty (.bool (a == b)) Heap.empty := by
  refine scalls_of_k (sz := 26) (Try.call38) Try.func38 rfl (Nat.le_refl _) (by kernel_rfl) (fun R hR => ?_)
  refine scode_seq_k (fun K1 hK1 => ?_)
  refine scode_region (by kernel_rfl) ?_
  simp [go_sem]
  refine hK1 _ _ ?_
  clear hK1 K1
  refine scode_seq_k (fun K1 hK1 => ?_)
  refine scode_seq_k (fun K2 hK2 => ?_)
  refine scode_region (by kernel_rfl) ?_
  simp [go_sem, bytesA]
  refine hK2 _ _ ?_
  clear hK2 K2
  obtain ⟨q, hq⟩ : ∃ q, ((a.length : Int) != (b.length : Int)) = q := ⟨_, rfl⟩
  refine scode_if (b := q) (by simp [go_sem, hq]) (fun hb => ?_) (fun hb => ?_)
  · refine scode_seq_k (fun K2 hK2 => ?_)
    refine scode_region (by kernel_rfl) ?_
    simp [go_sem]
    refine hK2 _ _ ?_
    refine scode_ret ?_
    simp only [go_sem]
    refine hR _ _ ?_
    have hres : (a == b) = false := by
      rw [hb] at hq
      rw [beq_eq_false_iff_ne]
      intro e
      rw [e] at hq
      simp at hq
    refine ret_plain (by simp [go_sem, hres]) (Heap.le_refl _) (by simp [go_sem]) (by simp [go_sem])
  · have hl : a.length = b.length := by
      rw [hb] at hq
      simp at hq
      omega
    refine scode_skip ?_
    refine hK1 _ _ ?_
    clear hK1 K1
    refine scode_seq_k (fun K1 hK1 => ?_)
    refine scode_seq_k (fun K2 hK2 => ?_)
    refine scode_region (by kernel_rfl) ?_
    simp [go_sem]
    refine hK2 _ _ ?_
    clear hK2 K2
    refine scode_block ?_
    refine scode_loop (Inv := fun n env H => ∃ i : Nat, n = a.length - i ∧ env 0 = bytesA a ∧ env 1 = bytesA b ∧ env 5 = .sc (.int .i64 i) ∧ H = Heap.empty ∧ (a.drop i == b.drop i) = (a == b)) ?_ (n := a.length) ⟨0, rfl, by simp [go_sem, bytesA], by simp [go_sem, bytesA], by simp [go_sem], rfl, rfl⟩
    rintro n env H ⟨i, rfl, h0, h1, h5, rfl, hr⟩
    refine scode_seq_k (fun K2 hK2 => ?_)
    refine scode_seq_k (fun K3 hK3 => ?_)
    refine scode_region (by kernel_rfl) ?_
    simp [go_sem, h0, h1, h5, bytesA]
    refine hK3 _ _ ?_
    clear hK3 K3
    refine scode_if (b := decide (i < a.length)) (by simp [go_sem]) (fun hb => ?_) (fun hb => ?_)
    · refine scode_skip ?_
      refine hK2 _ _ ?_
      clear hK2 K2
      simp only [decide_eq_true_eq] at hb
      obtain ⟨x, r, e1, e2, _⟩ := drop_cons hb
      obtain ⟨y, t, f1, f2, _⟩ := drop_cons (show i < b.length by omega)
      have hbl : i < b.length := by omega
      refine scode_seq_k (fun K4 hK4 => ?_)
      refine scode_block ?_
      refine scode_seq_k (fun K5 hK5 => ?_)
      refine scode_draw mixed (by kernel_rfl) (bf := [0, 0, 3, 7, 0, 0, 48, 112, 255]) (by kernel_rfl) ?_
      simp [go_sem, h0, h1, h5, bytesA, hb, hbl, len_bytesV, bytesV_drop, e1, f1, bytesV_cons, befL]
      refine hK5 _ _ ?_
      clear hK5 K5
      obtain ⟨p, hp⟩ : ∃ p, (x != y) = p := ⟨_, rfl⟩
      refine scode_if (b := p) (by simp [go_sem, hp]) (fun hq' => ?_) (fun hq' => ?_)
      · refine scode_seq_k (fun K5 hK5 => ?_)
        refine scode_region (by kernel_rfl) ?_
        simp [go_sem]
        refine hK5 _ _ ?_
        refine scode_ret ?_
        simp only [go_sem]
        refine hR _ _ ?_
        have hres : (a == b) = false := by
          rw [← hr, e1, f1, beq_eq_false_iff_ne]
          intro e
          cases e
          rw [hq'] at hp
          simp at hp
        refine ret_plain (by simp [go_sem, hres]) (Heap.le_refl _) (by simp [go_sem]) (by simp [go_sem])
      · refine scode_skip ?_
        refine hK4 _ _ ?_
        refine scode_region (by kernel_rfl) ?_
        have hw : IntKind.i64.wrap ((i : Int) + 1) = ((i + 1 : Nat) : Int) := by
          rw [IntWalk.i64_in _ (by unfold maxLen at hlen; omega)]; rfl
        simp [go_sem, h0, h1, h5, hw, bytesA]
        refine ⟨a.length - (i + 1), by omega, i + 1, rfl, rfl, ?_⟩
        have hxy : x = y := by rw [hq'] at hp; simpa using hp
        rw [e2, f2, ← hr, e1, f1, hxy]
        simp
    · refine scode_exit ?_
      refine hK1 _ _ ?_
      refine scode_seq_k (fun K4 hK4 => ?_)
      refine scode_region (by kernel_rfl) ?_
      simp [go_sem]
      refine hK4 _ _ ?_
      refine scode_ret ?_
      simp only [go_sem]
      refine hR _ _ ?_
      simp only [decide_eq_false_iff_not] at hb
      have hres : (a == b) = true := by
        rw [← hr, List.drop_eq_nil_of_le (by omega), List.drop_eq_nil_of_le (by omega)]; rfl
      refine ret_plain (by simp [go_sem, hres]) (Heap.le_refl _) (by simp [go_sem]) (by simp [go_sem])

theorem same24_s (a b : Sn) (ha : a.info.length ≤ maxLen) : SCalls Try.prog 19 [.agg a.cells, .agg b.cells] Heap.empty (.bool (a.same b)) Heap.empty := by
  refine scalls_of_k (sz := 21) (Try.call19) Try.func19 rfl (Nat.le_refl _) (by kernel_rfl) (fun R hR => ?_)
  refine scode_seq_k (fun K1 hK1 => ?_)
  refine scode_region (by kernel_rfl) ?_
  simp [go_sem, Sn.cells]
  refine hK1 _ _ ?_
  clear hK1 K1
  refine scode_seq_k (fun K2 hK2 => ?_)
  refine scode_region (by kernel_rfl) ?_
  obtain ⟨q, hq⟩ : ∃ q, (a.proto == b.proto) = q := ⟨_, rfl⟩
  have hres : a.same b = (q && (a.info == b.info)) := by rw [Sn.same, hq]
  rcases Bool.eq_false_or_eq_true q with hp | hp
  · simp [go_sem, Sn.cells, hq, hp]
    refine ⟨_, _, scalls_frame (refSame_s _ _ ha) (by simp [go_sem, bytesA_lt]) (by simp [go_sem]) _, ?_⟩
    refine hK2 _ _ ?_
    clear hK2 K2
    refine scode_ret ?_
    simp only [go_sem]
    refine hR _ _ ?_
    refine ret_plain (by simp [go_sem, hres, hp]) (Heap.le_alloc (Heap.le_alloc (Heap.le_refl _))) (by simp [go_sem]) (by simp [go_sem])
  · simp [go_sem, Sn.cells, hq, hp]
    refine hK2 _ _ ?_
    clear hK2 K2
    refine scode_ret ?_
    simp only [go_sem]
    refine hR _ _ ?_
    refine ret_plain (by simp [go_sem, hres, hp]) (Heap.le_alloc (Heap.le_alloc (Heap.le_refl _))) (by simp [go_sem]) (by simp [go_sem])
theorem place24_s (l : List Sn) (d : Sn) (from_ : Int) (hl : ∀ s ∈ l, s.info.length ≤ maxLen) (hlen : l.length ≤ maxLen) (hf : from_ ≤ 9223372036854775807) :
    SCalls Try.prog 18 [sentsA l, .sc (.int .i64 from_), .agg d.cells] Heap.empty (.int (placeL (l.drop from_.toNat) from_.toNat d)) Heap.empty := by
  refine scalls_of_k (sz := 23) (Try.call18) Try.func18 rfl (Nat.le_refl _) (by kernel_rfl) (fun R hR => ?_)
  refine scode_seq_k (fun K1 hK1 => ?_)
  refine scode_region (by kernel_rfl) ?_
  simp [go_sem, Sn.cells]
  refine hK1 _ _ ?_
  clear hK1 K1
  refine scode_seq_k (fun K1 hK1 => ?_)
  refine scode_seq_k (fun K2 hK2 => ?_)
  refine scode_region (by kernel_rfl) ?_
  simp [go_sem, srun_max0]
  refine hK2 _ _ ?_
  clear hK2 K2
  refine scode_block ?_
  refine scode_loop (Inv := fun n env H => ∃ i : Nat, n = l.length - i ∧ env 0 = sentsA l ∧ env 5 = .ptr 0 0 ∧ env 7 = .sc (.int .i64 i) ∧ H = Heap.empty.alloc d.cells ∧ placeL (l.drop i) i d = placeL (l.drop from_.toNat) from_.toNat d) ?_ (n := l.length - from_.toNat) ⟨from_.toNat, rfl, by simp [go_sem], by simp [go_sem], by simp [go_sem], by simp [Sn.cells], rfl⟩
  rintro n env H ⟨i, rfl, h0, h5, h7, rfl, hr⟩
  refine scode_seq_k (fun K2 hK2 => ?_)
  refine scode_seq_k (fun K3 hK3 => ?_)
  refine scode_region (by kernel_rfl) ?_
  simp [go_sem, h0, h5, h7, sentsA]
  refine hK3 _ _ ?_
  clear hK3 K3
  refine scode_if (b := decide (i < l.length)) (by simp [go_sem]) (fun hb => ?_) (fun hb => ?_)
  · refine scode_skip ?_
    refine hK2 _ _ ?_
    clear hK2 K2
    simp only [decide_eq_true_eq] at hb
    obtain ⟨s, r, e1, e2, e3⟩ := drop_cons hb
    have hs : s.info.length ≤ maxLen := hl s (List.mem_of_getElem? e3)
    have hrow : ((sentsV l).drop (i * 3)).take 3 = s.cells := by rw [sentsV_drop, e1]; simp [sentsV, Sn.cells]
    refine scode_seq_k (fun K4 hK4 => ?_)
    refine scode_block ?_
    refine scode_seq_k (fun K5 hK5 => ?_)
    refine scode_draw mixed (by kernel_rfl) (bf := [0, 0, 3, 7, 0, 31]) (by kernel_rfl) ?_
    have hle : 3 ≤ l.length * 3 - i * 3 := by omega
    simp [go_sem, h0, h5, h7, sentsA, sentsV_len, hb, hrow, hle, befL]
    refine ⟨_, _, scalls_frame (same24_s s d hs) (by simp [go_sem]; exact ⟨cells_lt _ _, cells_lt _ _⟩) (by simp [go_sem]) _, ?_⟩
    refine hK5 _ _ ?_
    clear hK5 K5
    refine scode_if (b := s.same d) (by simp [go_sem]) (fun hq => ?_) (fun hq => ?_)
    · refine scode_seq_k (fun K5 hK5 => ?_)
      refine scode_region (by kernel_rfl) ?_
      simp [go_sem, h7]
      refine hK5 _ _ ?_
      refine scode_ret ?_
      simp only [go_sem]
      refine hR _ _ ?_
      have hres : placeL (l.drop from_.toNat) from_.toNat d = i := by
        rw [← hr, e1, placeL, if_pos hq]
      refine ret_plain (by simp [go_sem, hres]) (Heap.le_alloc (Heap.le_refl _)) (by simp [go_sem]) (by simp [go_sem])
    · refine scode_skip ?_
      refine hK4 _ _ ?_
      refine scode_region (by kernel_rfl) ?_
      have hw : IntKind.i64.wrap ((i : Int) + 1) = ((i + 1 : Nat) : Int) := by
        rw [IntWalk.i64_in _ (by unfold maxLen at hlen; omega)]; rfl
      simp [go_sem, h0, h5, h7, hw]
      refine ⟨l.length - (i + 1), by omega, i + 1, rfl, rfl, ?_⟩
      rw [e2, ← hr, e1, placeL, if_neg (by rw [hq]; simp)]
  · refine scode_exit ?_
    refine hK1 _ _ ?_
    refine scode_seq_k (fun K4 hK4 => ?_)
    refine scode_region (by kernel_rfl) ?_
    simp [go_sem]
    refine hK4 _ _ ?_
    refine scode_ret ?_
    simp only [go_sem]
    refine hR _ _ ?_
    simp only [decide_eq_false_iff_not] at hb
    have hres : placeL (l.drop from_.toNat) from_.toNat d = -1 := by
      rw [← hr, List.drop_eq_nil_of_le (by omega)]; rfl
    refine ret_plain (by simp [go_sem, hres]) (Heap.le_alloc (Heap.le_refl _)) (by simp [go_sem]) (by simp [go_sem])

end Go.Proofs.Ytmnbicoeahlpcaa
