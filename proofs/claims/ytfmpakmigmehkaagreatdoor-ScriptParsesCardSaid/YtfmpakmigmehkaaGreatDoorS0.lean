/- Texts and rows of bytes at this seat; the operations on texts. -/
import Derived.Test.YtfmpakmigmehkaaGreatDoorT7Types
import Derived.Test.YtfmpakmigmehkaaGreatDoorFl43
import Derived.ChangeKeysEq
set_option linter.unusedVariables false
set_option linter.unusedSimpArgs false
set_option maxRecDepth 20000
noncomputable section
namespace Go.Proofs.YtfmpakmigmehkaaGreatDoor
open Go Go.Fl Go.Proofs

@[go_sem] theorem next_empty : Heap.empty.next = 0 := rfl
@[go_sem] theorem get_empty (b : Nat) : Heap.empty.get b = none := rfl
@[go_sem] theorem srun_pure {α : Type} (P : Program) (v : α) : srun P (pure v : Sem α) = some v := rfl
theorem empty_le (H : Heap) : Heap.empty.le H := fun b cs hb => by rw [get_empty] at hb; cases hb

/-- A text out of its bytes. -/
def bs (l : List UInt8) : ByteArray := ⟨l.toArray⟩
theorem bs_inj {a b : List UInt8} (h : bs a = bs b) : a = b := by
  have := congrArg (fun x => x.data.toList) h
  simpa [bs] using this
theorem bs_data (l : List UInt8) : (bs l).data.toList = l := by simp [bs]
theorem bs_of (s : ByteArray) : s = bs s.data.toList := by cases s; simp [bs]
@[go_sem] theorem bs_toList (l : List UInt8) : (bs l).toList = l := by rw [ByteArray.toList_eq, bs_data]
@[go_sem] theorem mk_toList (a : Array UInt8) : (ByteArray.mk a).toList = a.toList := ByteArray.toList_eq _
@[go_sem] theorem bs_size (l : List UInt8) : (bs l).size = l.length := by simp [bs, ByteArray.size]
theorem bs_app (a b : List UInt8) : bs a ++ bs b = bs (a ++ b) := by
  apply ByteArray.ext
  simp [bs, ByteArray.data_append]
theorem mk_bs (a : Array UInt8) : ByteArray.mk a = bs a.toList := by simp [bs]
theorem bs_extract (l : List UInt8) (i j : Nat) : (bs l).extract i j = bs ((l.take j).drop i) := by
  apply ByteArray.ext
  rw [ByteArray.data_extract]
  simp [bs, List.extract_eq_take_drop, List.drop_take]

/-- A text as a value. -/
abbrev sA (l : List UInt8) : AV := .sc (.string (bs l))

def bV (l : List UInt8) : List AV := l.map fun n => .sc (.int .u8 n.toNat)
theorem bV_len (l : List UInt8) : (bV l).length = l.length := by simp [bV]
/-- A slice of bytes. -/
def bA (l : List UInt8) : AV := .vs l.length 1 (bV l)
theorem bA_lt (l : List UInt8) (n : Nat) : (bA l).Lt n = True := by simp [bA, go_sem, bV]
theorem bV_cons (x : UInt8) (l : List UInt8) : bV (x :: l) = .sc (.int .u8 x.toNat) :: bV l := rfl
theorem bV_app (a b : List UInt8) : bV (a ++ b) = bV a ++ bV b := by simp [bV]
theorem bV_drop (l : List UInt8) (i : Nat) : (bV l).drop i = bV (l.drop i) := by simp [bV, List.map_drop]
theorem strV_bs (l : List UInt8) : strV (bs l) = bV l := by simp [strV, bV, bs]
theorem u8s_bV (l : List UInt8) : u8s (bV l) = some (l.map fun b => (b.toNat : Int)) := by
  induction l with
  | nil => rfl
  | cons n l ih => simp only [bV, List.map_cons, u8s]; simp only [bV] at ih; rw [ih]; rfl
theorem strOf_bs (l : List UInt8) : strOf (l.map fun b => (b.toNat : Int)) = bs l := by
  have key : ∀ (l : List UInt8) (r : ByteArray), ((l.map fun b => (b.toNat : Int)).foldl (fun r n => r.push (UInt8.ofNat n.toNat)) r).data.toList = r.data.toList ++ l := by
    intro l
    induction l with
    | nil => intro r; simp
    | cons x l ih => intro r; rw [List.map_cons, List.foldl_cons, ih]; simp [ByteArray.push]
  rw [bs_of (strOf _)]
  congr 1
  rw [strOf, key]; rfl
theorem bV_all (l : List UInt8) : (bV l).all AV.leaf = true := by simp [bV, AV.leaf]
theorem bV_lt (l : List UInt8) (n : Nat) : ∀ x ∈ bV l, x.Lt n := by
  intro x hx
  simp only [bV, List.mem_map] at hx
  obtain ⟨b, _, rfl⟩ := hx
  exact .sc _

theorem drop_cons {α : Type} {l : List α} {i : Nat} (h : i < l.length) : ∃ x r, l.drop i = x :: r ∧ l.drop (i + 1) = r ∧ l[i]? = some x := by
  refine ⟨l[i], l.drop (i + 1), ?_, rfl, List.getElem?_eq_getElem h⟩
  exact List.drop_eq_getElem_cons h

theorem und9 : Tryz.prog.underlying 9 = some .string := by kernel_rfl

theorem srun_sadd (P : Program) (x y : List UInt8) (h : x.length + y.length ≤ 4611686018427387904) : srun P (Op.stringOp .add (bs x) (bs y)) = some (.string (bs (x ++ y))) := by
  have hx := bs_size x
  have hy := bs_size y
  have : ¬ (((bs x).size + (bs y).size : Nat) : Int) > IntKind.i64.max := by
    have : IntKind.i64.max = 9223372036854775807 := by decide
    omega
  simp only [Op.stringOp]
  rw [if_neg this, bs_app]
  rfl

@[go_sem] theorem str_len (s : ByteArray) : srun Tryz.prog (Builtin.len_ #[9] 3 #[.string s]) = some (.int .i64 s.size) := by
  show srun Tryz.prog (underlying 9 >>= fun d => _) = _
  rw [srun_bind _ _ _ _ (srun_underlying und9)]
  rfl

@[go_sem] theorem alen_str (s : ByteArray) : alen Tryz.prog 9 (.sc (.string s)) = none := by simp [alen, und9]
@[go_sem] theorem alen_vs42 (n s : Nat) (c : List AV) : alen Tryz.prog 42 (.vs n s c) = some (.int n) := by simp [alen, tU42]
@[go_sem] theorem alen_ms42 (b o n s : Nat) : alen Tryz.prog 42 (.ms b o n s) = some (.int n) := by simp [alen, tU42]
@[go_sem] theorem alen_nil42 : alen Tryz.prog 42 .nil = some (.int 0) := by simp [alen, tU42]
@[go_sem] theorem alen_vs51 (n s : Nat) (c : List AV) : alen Tryz.prog 51 (.vs n s c) = some (.int n) := by simp [alen, tU51]
@[go_sem] theorem alen_ms51 (b o n s : Nat) : alen Tryz.prog 51 (.ms b o n s) = some (.int n) := by simp [alen, tU51]
@[go_sem] theorem alen_nil51 : alen Tryz.prog 51 .nil = some (.int 0) := by simp [alen, tU51]
@[go_sem] theorem alen_vs26 (n s : Nat) (c : List AV) : alen Tryz.prog 26 (.vs n s c) = some (.int n) := by simp [alen, tU26]
@[go_sem] theorem alen_ms26 (b o n s : Nat) : alen Tryz.prog 26 (.ms b o n s) = some (.int n) := by simp [alen, tU26]
@[go_sem] theorem alen_nil26 : alen Tryz.prog 26 .nil = some (.int 0) := by simp [alen, tU26]
@[go_sem] theorem alen_vs30 (n s : Nat) (c : List AV) : alen Tryz.prog 30 (.vs n s c) = some (.int n) := by simp [alen, tU30]
@[go_sem] theorem alen_ms30 (b o n s : Nat) : alen Tryz.prog 30 (.ms b o n s) = some (.int n) := by simp [alen, tU30]
@[go_sem] theorem alen_nil30 : alen Tryz.prog 30 .nil = some (.int 0) := by simp [alen, tU30]
theorem str_at (l : List UInt8) (k : IntKind) (n : Int) (i : Nat) (x : UInt8) (hn : n = i) (h : l[i]? = some x) : srun Tryz.prog (Instr.index 9 (.string (bs l)) (.int k n)) = some (.int .u8 x.toNat) := by
  subst hn
  have hi : (0 : Int) ≤ (i : Int) := Int.natCast_nonneg i
  have hlt : i < l.length := (List.getElem?_eq_some_iff.1 h).1
  have hs : (bs l)[i]? = some x := by
    have h1 : i < (bs l).size := by rw [bs_size]; exact hlt
    rw [getElem?_pos (bs l) i h1]
    have : (bs l)[i] = (bs l).data[i] := rfl
    rw [this]
    have h2 := (List.getElem?_eq_some_iff.1 h).2
    simp [bs, h2]
  unfold Instr.index
  rw [srun_bind (a := (k, (i : Int)))]
  · simp only
    rw [srun_bind (a := .string)]
    · simp only [hi, if_true, Int.toNat_natCast, hs]
      rfl
    · exact srun_underlying und9
  · rfl

theorem str_slice (l : List UInt8) (k k' : IntKind) (n m : Int) (i j : Nat) (hn : n = i) (hm : m = j) (hij : i ≤ j) (hj : j ≤ l.length) : srun Tryz.prog (Instr.slice 9 (.string (bs l)) (some (.int k n)) (some (.int k' m)) none) = some (.string (bs ((l.take j).drop i))) := by
  subst hn hm
  have h0 : (0 : Int) ≤ (i : Int) := Int.natCast_nonneg i
  have h1 : (0 : Int) ≤ (j : Int) := Int.natCast_nonneg j
  have hs : (bs l).size = l.length := bs_size l
  unfold Instr.slice
  rw [srun_bind _ _ _ _ (srun_underlying und9)]
  simp only [Option.isSome_none, Bool.false_eq_true, if_false]
  rw [srun_bind (a := (i, j, (bs l).size))]
  · simp only [bs_extract]
    rfl
  · unfold Instr.sliceBounds
    simp only [pure_bind]
    rw [srun_bind (a := j)]
    · rw [srun_bind (a := i)]
      · rfl
      · unfold Instr.sliceBound
        rw [srun_bind (a := (k, (i : Int)))]
        · simp only
          rw [if_pos ⟨h0, by omega⟩]
          simp only [Int.toNat_natCast]
          rfl
        · rfl
    · unfold Instr.sliceBound
      rw [srun_bind (a := (k', (j : Int)))]
      · simp only
        rw [if_pos ⟨h1, by omega⟩]
        simp only [Int.toNat_natCast]
        rfl
      · rfl
theorem str_slice_lo (l : List UInt8) (k : IntKind) (n : Int) (i : Nat) (hn : n = i) (hi : i ≤ l.length) : srun Tryz.prog (Instr.slice 9 (.string (bs l)) (some (.int k n)) none none) = some (.string (bs (l.drop i))) := by
  subst hn
  have h0 : (0 : Int) ≤ (i : Int) := Int.natCast_nonneg i
  have hs : (bs l).size = l.length := bs_size l
  unfold Instr.slice
  rw [srun_bind _ _ _ _ (srun_underlying und9)]
  simp only [Option.isSome_none, Bool.false_eq_true, if_false]
  rw [srun_bind (a := (i, (bs l).size, (bs l).size))]
  · simp only [bs_extract, hs, List.take_length]
    rfl
  · unfold Instr.sliceBounds
    simp only [pure_bind]
    rw [srun_bind (a := i)]
    · rfl
    · unfold Instr.sliceBound
      rw [srun_bind (a := (k, (i : Int)))]
      · simp only
        rw [if_pos ⟨h0, by omega⟩]
        simp only [Int.toNat_natCast]
        rfl
      · rfl

theorem i64_nat (n : Nat) (h : n < 1099511627776) : IntKind.i64.wrap (n : Int) = n := IntWalk.i64_in _ (by omega)
theorem i64_succ (n : Nat) (h : n < 1099511627776) : IntKind.i64.wrap ((n : Int) + 1) = ((n + 1 : Nat) : Int) := by rw [IntWalk.i64_in _ (by omega)]; rfl

theorem pcall1 {fs : List FuncId} (hfs : ∀ f ∈ fs, Enters Tryz.prog f) (n : Nat) {f : FuncId} {args : List AV} {r : AV} (h : pcall Tryz.prog fs n f args = some r) : SCalls Tryz.prog f args Heap.empty r Heap.empty := (pcall_sound mixed hfs n h).1

/-- A row of texts. -/
def wV (l : List (List UInt8)) : List AV := l.map fun w => sA w
theorem wV_len (l : List (List UInt8)) : (wV l).length = l.length := by simp [wV]
def wA (l : List (List UInt8)) : AV := .vs l.length 1 (wV l)
theorem wA_lt (l : List (List UInt8)) (n : Nat) : (wA l).Lt n = True := by simp [wA, go_sem, wV]
theorem wV_cons (x : List UInt8) (l : List (List UInt8)) : wV (x :: l) = sA x :: wV l := rfl
theorem wV_app (a b : List (List UInt8)) : wV (a ++ b) = wV a ++ wV b := by simp [wV]
theorem wV_drop (l : List (List UInt8)) (i : Nat) : (wV l).drop i = wV (l.drop i) := by simp [wV, List.map_drop]
theorem wV_lt (l : List (List UInt8)) (n : Nat) : ∀ x ∈ wV l, x.Lt n := by
  intro x hx
  simp only [wV, List.mem_map] at hx
  obtain ⟨b, _, rfl⟩ := hx
  exact .sc _
end Go.Proofs.YtfmpakmigmehkaaGreatDoor
