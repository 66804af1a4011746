/- Contracts: errors.As at a *Fault that is there, chap.number, chap.fault. -/
import Derived.Test.YtklihehobpahkaaGreatDoorM0
import Derived.Test.YtklihehobpahkaaGreatDoorFl39
import Derived.Test.YtklihehobpahkaaGreatDoorL60As
import Derived.Laws.BitsLemmas
import Derived.Lib.DecodeNEq
set_option linter.unusedVariables false
set_option linter.unusedSimpArgs false
set_option maxRecDepth 20000
noncomputable section M1S
namespace Go.Proofs.YtklihehobpahkaaGreatDoor
open Go Go.Fl Go.Proofs

theorem as_s {b : Nat} {old : AV} {fc : List AV} (hf : ∀ x ∈ fc, x.Lt 0) (H : Heap) (hb : H.get b = some [old]) :
    SCalls Tryz.prog 59 [.ifc 109 (.ep fc), .ifc 111 (.ptr b 0)] H (.bool true) (H.set b [.ep fc]) := by
  refine ⟨Tryz.call59, Nat.le_refl _, fun ρ I w cargs hrel hargs => ?_⟩
  obtain ⟨u, v, rfl⟩ : ∃ u v, cargs = #[u, v] := by
    have := hargs.1
    match cargs, this with
    | ⟨[u, v]⟩, _ => exact ⟨u, v, rfl⟩
  have hu := hargs.2 0 _ rfl
  have hv := hargs.2 1 _ rfl
  simp at hu hv
  cases hu with
  | ifc hu =>
  cases hv with
  | ifc hv =>
  cases hv with
  | ptr hv =>
  rename_i cb base
  have hu0 := hu
  cases hu with
  | ep k1 k2 k3 k4 =>
  rename_i ecb eoff ec ee efz
  rcases hrel.live b _ hb with ⟨h1, _⟩ | ⟨cb', base', c, e, h1, h2, ⟨fz3, hf3, h3⟩, h4, h5⟩
  · rw [hv] at h1; cases h1
  rw [hv] at h1
  simp only [Option.some.injEq, Prod.mk.injEq] at h1
  obtain ⟨rfl, rfl⟩ := h1
  simp only [List.length_cons, List.length_nil] at h4
  have hlt : cb < w.heap.size := (Array.getElem?_eq_some_iff.1 h3).1
  obtain ⟨i0, e0, fz0, g0⟩ := hrel.glob 0 _ rfl
  have hg : w.cell? ⟨0, 0, none⟩ = some (.iface 156 (.agg #[.pointer (some ⟨3, 87, none⟩)])) := by
    simp [World.cell?, g0]
  have hc : w.cell? ⟨cb, base, none⟩ = some (c.getD base Go.undef) := by
    have : base < c.size := by omega
    simp [World.cell?, h3, this]
  have hfz : w.frozen? ⟨cb, base, none⟩ = false := by
    have := hf3 base (by omega)
    simp only [World.frozen?, h3]
    rw [Bool.eq_false_iff]
    intro h
    simp only [Bool.and_eq_true, decide_eq_true_eq] at h
    exact this h
  have hrun := as_hit ⟨ecb, eoff, none⟩ ⟨cb, base, none⟩ _ w hg hc hfz
  refine hrun.mono ?_
  rintro ev w' ⟨rfl, hw'⟩
  obtain ⟨r1, x1⟩ := rel_junk hrel (w1 := w.alloc (.cells #[.pointer (some ⟨cb, base, none⟩)] 111)) rfl rfl rfl rfl
  obtain ⟨r2, x2⟩ := rel_junk r1 (w1 := (w.alloc (.cells #[.pointer (some ⟨cb, base, none⟩)] 111)).alloc (.cells #[.pointer (some ⟨3, 111, none⟩), .pointer (some ⟨w.heap.size, 0, none⟩), .int .u64 150] 134)) rfl rfl rfl rfl
  obtain ⟨r3, x3⟩ := rel_junk r2 (w1 := ((w.alloc (.cells #[.pointer (some ⟨cb, base, none⟩)] 111)).alloc (.cells #[.pointer (some ⟨3, 111, none⟩), .pointer (some ⟨w.heap.size, 0, none⟩), .int .u64 150] 134)).alloc (.cells #[.pointer (some ⟨3, 111, none⟩), .pointer (some ⟨w.heap.size, 0, none⟩), .int .u64 150] 134)) rfl rfl rfl rfl
  obtain ⟨r4, x4⟩ := rel_junk r3 (w1 := (((w.alloc (.cells #[.pointer (some ⟨cb, base, none⟩)] 111)).alloc (.cells #[.pointer (some ⟨3, 111, none⟩), .pointer (some ⟨w.heap.size, 0, none⟩), .int .u64 150] 134)).alloc (.cells #[.pointer (some ⟨3, 111, none⟩), .pointer (some ⟨w.heap.size, 0, none⟩), .int .u64 150] 134)).alloc (.cells #[.pointer (some ⟨ecb, eoff, none⟩)] 109)) rfl rfl rfl rfl
  obtain ⟨w4, hw4⟩ : ∃ w4, (((w.alloc (.cells #[.pointer (some ⟨cb, base, none⟩)] 111)).alloc (.cells #[.pointer (some ⟨3, 111, none⟩), .pointer (some ⟨w.heap.size, 0, none⟩), .int .u64 150] 134)).alloc (.cells #[.pointer (some ⟨3, 111, none⟩), .pointer (some ⟨w.heap.size, 0, none⟩), .int .u64 150] 134)).alloc (.cells #[.pointer (some ⟨ecb, eoff, none⟩)] 109) = w4 := ⟨_, rfl⟩
  rw [hw4] at r4 x4 hw'
  have hx := ((x1.trans x2).trans x3).trans x4
  have h3' : w4.heap[cb]? = some (.cells c e fz3) := by
    have h34 : ∀ (W : World) (o : Obj), cb < W.heap.size → (W.alloc o).heap[cb]? = W.heap[cb]? := by
      intro W o h
      show (W.heap.push o)[cb]? = _
      rw [Array.getElem?_push, if_neg (by omega)]
    have hs : ∀ (W : World) (o : Obj), (W.alloc o).heap.size = W.heap.size + 1 := by
      intro W o
      show (W.heap.push o).size = _
      simp
    rw [← hw4, h34, h34, h34, h34]
    · exact h3
    · exact hlt
    · rw [hs]; omega
    · rw [hs, hs]; omega
    · rw [hs, hs, hs]; omega
  subst hw'
  have hset : ∀ k, k ≠ cb → (w4.setCell ⟨cb, base, none⟩ (.pointer (some ⟨ecb, eoff, none⟩))).heap[k]? = w4.heap[k]? := by
    intro k hk
    simp only [World.setCell, Array.getElem?_modify]
    rw [if_neg (fun e => hk e.symm)]
  have hset2 : (w4.setCell ⟨cb, base, none⟩ (.pointer (some ⟨ecb, eoff, none⟩))).heap[cb]? = some (.cells (c.setIfInBounds base (.pointer (some ⟨ecb, eoff, none⟩))) e fz3) := by
    simp only [World.setCell, Array.getElem?_modify, if_true, h3', Option.map_some]
    rfl
  have hep : VR ρ I w4.heap (.ep fc) (.pointer (some ⟨ecb, eoff, none⟩)) := hu0.mono hx
  obtain ⟨r5, x5⟩ := rel_write (w1 := w4.setCell ⟨cb, base, none⟩ (.pointer (some ⟨ecb, eoff, none⟩))) r4 (cs' := [.ep fc]) (c' := c.setIfInBounds base (.pointer (some ⟨ecb, eoff, none⟩))) hb (hx.rho _ _ hv) h2 hf3 h3' hset2 (by simp)
    (by simp [World.setCell]) hset rfl rfl rfl (by simpa using h4) (by
      intro i x hx'
      cases i with
      | zero =>
        simp at hx'
        subst hx'
        have : base < c.size := by omega
        simp [this]
        exact hep
      | succ i => simp at hx')
  exact ⟨_, ρ, I, rfl, .sc _, r5, hx.trans x5⟩

/-- The number of a fault that is kept. -/
theorem number_s (n : Int) (s : ByteArray) : SCalls Tryz.prog 43 [.ifc 109 (.ep [.sc (.string s), .sc (.int .i64 n)])] Heap.empty (.int n) Heap.empty := by
  have ha := fun H b old (hb : H.get b = some [old]) => as_s (fc := [.sc (.string s), .sc (.int .i64 n)]) (by simp [go_sem]) H hb
  refine scalls_of_k (sz := 11) (Tryz.call43) Tryz.func43 rfl (Nat.le_refl _) (by kernel_rfl) (fun R hR => ?_)
  refine scode_seq_k (fun K1 hK1 => ?_)
  refine scode_region (by kernel_rfl) ?_
  simp [go_sem]
  refine hK1 _ _ ?_
  clear hK1 K1
  refine scode_seq_k (fun K1 hK1 => ?_)
  refine scode_region (by kernel_rfl) ?_
  simp [go_sem]
  refine hK1 _ _ ?_
  clear hK1 K1
  refine scode_seq_k (fun K1 hK1 => ?_)
  refine scode_seq_k (fun K2 hK2 => ?_)
  refine scode_region (by kernel_rfl) ?_
  simp [go_sem]
  refine ⟨_, _, ha _ 0 (.sc (.pointer none)) (by simp [go_sem]), ?_⟩
  refine hK2 _ _ ?_
  clear hK2 K2
  refine scode_if (b := true) (by simp [go_sem]) (fun _ => ?_) (fun h => by cases h)
  refine scode_seq_k (fun K2 hK2 => ?_)
  refine scode_region (by kernel_rfl) ?_
  simp [go_sem]
  refine hK2 _ _ ?_
  refine scode_ret ?_
  simp only [go_sem]
  refine hR _ _ ?_
  exact ret_plain (by simp [go_sem]) (empty_le _) (Nat.zero_le _) (by simp [go_sem])

theorem number0_s : SCalls Tryz.prog 43 [.sc .nilIface] Heap.empty (.int 0) Heap.empty := by
  have hen : ∀ f ∈ [43, 59], Enters Tryz.prog f := by simp; exact ⟨Tryz.call43, Tryz.call59⟩
  obtain ⟨H, h⟩ := ecall_plain (v := .int .i64 0) mixed hen 10 (f := 43) (args := [.sc .nilIface]) (by kernel_rfl)
  exact scalls_forget h

def chapS : ByteArray := ⟨#[99, 104, 97, 112]⟩
def faultA (n : Int) : AV := .ifc 109 (.ep [.sc (.string chapS), .sc (.int .i64 n)])

theorem fault_s (n : Int) (hn : n ≠ 0) : SCalls Tryz.prog 72 [.int n] Heap.empty (faultA n) Heap.empty := by
  refine scalls_of_k (sz := 9) (Tryz.call72) Tryz.func72 rfl (Nat.le_refl _) (by kernel_rfl) (fun R hR => ?_)
  refine scode_seq_k (fun K1 hK1 => ?_)
  refine scode_region (by kernel_rfl) ?_
  simp [go_sem]
  refine hK1 _ _ ?_
  clear hK1 K1
  refine scode_seq_k (fun K1 hK1 => ?_)
  refine scode_seq_k (fun K2 hK2 => ?_)
  refine scode_region (by kernel_rfl) ?_
  simp [go_sem]
  refine hK2 _ _ ?_
  clear hK2 K2
  refine scode_if (b := false) (by simp [go_sem, hn]) (fun h => by cases h) (fun _ => ?_)
  refine scode_skip ?_
  refine hK1 _ _ ?_
  clear hK1 K1
  refine scode_seq_k (fun K1 hK1 => ?_)
  refine scode_region (by kernel_rfl) ?_
  simp [go_sem]
  refine hK1 _ _ ?_
  refine scode_ret ?_
  simp only [go_sem]
  refine hR _ _ ?_
  refine ret_pure (v := .ifc 109 (.ptr 0 0)) (by simp [go_sem]) ?_ (empty_le _) (Nat.zero_le _) (by simp [faultA, go_sem])
  refine .ifc (.ep (cs := [.sc (.string chapS), .sc (.int .i64 n)]) (by simp [go_sem, chapS]) (Nat.zero_le _) (by simp) (by simp) ?_)
  intro i x y hx hy
  rw [Nat.zero_add, hx] at hy
  cases hy
  exact .same _
end Go.Proofs.YtklihehobpahkaaGreatDoor
end M1S

set_option maxRecDepth 20000
noncomputable section M2S
namespace Go.Proofs.YtklihehobpahkaaGreatDoor
open Go Go.Fl Go.Proofs

theorem und9 : Tryz.prog.underlying 9 = some .string := by kernel_rfl

/-- A byte of a text. -/
def gb (s : ByteArray) (i : Nat) : Nat := (s.get! i).toNat
theorem gb_lt (s : ByteArray) (i : Nat) : gb s i < 256 := UInt8.toNat_lt _

theorem ba_get (s : ByteArray) (k : Nat) (h : k < s.size) : s.get! k = s[k]'h := by
  cases s with
  | mk d => exact getElem!_pos d k h

theorem str_at (s : ByteArray) (k : IntKind) (i : Nat) (h : i < s.size) : srun Tryz.prog (Instr.index 9 (.string s) (.int k i)) = some (.int .u8 (gb s i)) := by
  have hi : (0 : Int) ≤ (i : Int) := Int.natCast_nonneg i
  have hs : s[i]? = some (s.get! i) := by rw [ba_get s i h]; exact getElem?_pos s i h
  unfold Instr.index
  rw [srun_bind (a := (k, (i : Int)))]
  · simp only
    rw [srun_bind (a := .string)]
    · simp only [hi, if_true, Int.toNat_natCast, hs]
      rfl
    · exact srun_underlying und9
  · rfl
theorem str_at' (s : ByteArray) (k : IntKind) (n : Int) (i : Nat) (hn : n = i) (h : i < s.size) : srun Tryz.prog (Instr.index 9 (.string s) (.int k n)) = some (.int .u8 (gb s i)) := by
  rw [hn]; exact str_at s k i h

@[go_sem] theorem str_len (s : ByteArray) : srun Tryz.prog (Builtin.len_ #[9] 3 #[.string s]) = some (.int .i64 s.size) := by
  show srun Tryz.prog (underlying 9 >>= fun d => _) = _
  rw [srun_bind _ _ _ _ (srun_underlying und9)]
  rfl

theorem str_slice (s : ByteArray) (k : IntKind) (i : Nat) (hi : i ≤ s.size) : srun Tryz.prog (Instr.slice 9 (.string s) (some (.int k i)) none none) = some (.string (s.extract i s.size)) := by
  have h0 : (0 : Int) ≤ (i : Int) := Int.natCast_nonneg i
  unfold Instr.slice
  rw [srun_bind _ _ _ _ (srun_underlying und9)]
  simp only [Option.isSome_none, Bool.false_eq_true, if_false]
  rw [srun_bind (a := (i, s.size, s.size))]
  · rfl
  · unfold Instr.sliceBounds
    simp only [pure_bind]
    rw [srun_bind (a := i)]
    · rfl
    · unfold Instr.sliceBound
      rw [srun_bind (a := (k, (i : Int)))]
      · simp only
        rw [if_pos ⟨h0, by omega⟩]
        simp only [Int.toNat_natCast]
        rfl
      · rfl
theorem str_slice' (s : ByteArray) (k : IntKind) (n : Int) (i : Nat) (hn : n = i) (hi : i ≤ s.size) : srun Tryz.prog (Instr.slice 9 (.string s) (some (.int k n)) none none) = some (.string (s.extract i s.size)) := by
  rw [hn]; exact str_slice s k i hi

theorem size_ext (s : ByteArray) (i : Nat) (h : i ≤ s.size) : (s.extract i s.size).size = s.size - i := by
  rw [ByteArray.size_extract]; omega

theorem gb_data (s : ByteArray) (j : Nat) (h : j < s.size) : gb s j = (s.data[j]'h).toNat := by
  unfold gb
  rw [ba_get s j h]
  rfl
theorem gb_ext (s : ByteArray) (i j : Nat) (h : i + j < s.size) : gb (s.extract i s.size) j = gb s (i + j) := by
  have hs : j < (s.extract i s.size).size := by rw [size_ext s i (by omega)]; omega
  rw [gb_data _ _ hs, gb_data _ _ h]
  congr 1
  simp [ByteArray.data_extract, Array.getElem_extract]
theorem ext_ext (s : ByteArray) (i j : Nat) (h : i + j ≤ s.size) : (s.extract i s.size).extract j (s.extract i s.size).size = s.extract (i + j) s.size := by
  rw [size_ext s i (by omega), ByteArray.extract_extract]
  congr 1
  omega

/-- What the library's decoder says. -/
def decD (s : ByteArray) : Nat × Nat := Lib.decodeN s.size (gb s 0) (gb s 1) (gb s 2) (gb s 3)
def letD (s : ByteArray) : Nat × Nat := if decD s = (65533, 1) then (0, 0) else decD s

theorem i64_nat (n : Nat) (h : n < 1099511627776) : IntKind.i64.wrap (n : Int) = n := IntWalk.i64_in _ (by omega)
theorem w40 : ∀ n : Int, 0 ≤ n → n < 2 ^ 40 → IntKind.i64.wrap n = n := fun n h0 h1 => IntWalk.i64_in _ (by omega)
theorem w8 : ∀ n : Int, 0 ≤ n → n < 2 ^ 8 → IntKind.u8.wrap n = n := wraps_u8
theorem mask5 (n : Nat) (h : n < 1099511627776) : Go.bits .and .i64 (n : Int) 31 = ((n % 32 : Nat) : Int) := by
  have := bits_mask .i64 40 (by decide) w40 5 (by decide) (n : Int) (by omega) (by omega)
  simpa using this
theorem mask4 (n : Nat) (h : n < 1099511627776) : Go.bits .and .i64 (n : Int) 15 = ((n % 16 : Nat) : Int) := by
  have := bits_mask .i64 40 (by decide) w40 4 (by decide) (n : Int) (by omega) (by omega)
  simpa using this
theorem mask3 (n : Nat) (h : n < 1099511627776) : Go.bits .and .i64 (n : Int) 7 = ((n % 8 : Nat) : Int) := by
  have := bits_mask .i64 40 (by decide) w40 3 (by decide) (n : Int) (by omega) (by omega)
  simpa using this
theorem mask6u (n : Nat) (h : n < 256) : Go.bits .and .u8 (n : Int) 63 = ((n % 64 : Nat) : Int) := by
  have := bits_mask .u8 8 (by decide) w8 6 (by decide) (n : Int) (by omega) (by omega)
  simpa using this
set_option maxRecDepth 100000 in
theorem top2 : ∀ n : Fin 256, (Go.bits .and .u8 ((n.val : Nat) : Int) 192 != 128) = !decide (n.val / 64 = 2) := by decide
theorem top2' (n : Nat) (h : n < 256) : (Go.bits .and .u8 (n : Int) 192 != 128) = !decide (n / 64 = 2) := top2 ⟨n, h⟩
theorem join6 (x y : Nat) (hx : x < 4294967296) (hy : y < 64) : Go.bits .or .i64 ((x * 64 : Nat) : Int) (y : Int) = ((x * 64 + y : Nat) : Int) := by
  have := bits_join .i64 40 (by decide) w40 6 ((x * 64 : Nat) : Int) (y : Int) (by omega) (by omega) (by omega) (by omega) (by omega) (by omega)
  rw [this]; omega
end Go.Proofs.YtklihehobpahkaaGreatDoor
end M2S
