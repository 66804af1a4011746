/- What is asked, read, ruled, judged: by the evaluator. -/
import Derived.Test.YtinbldahpifinaaGreatDoorL41
set_option maxRecDepth 20000
noncomputable section
namespace Go.Proofs.YtinbldahpifinaaGreatDoor
open Go Go.Fl Go.Proofs

def cfOk (c : Cf) : Prop := (c.mru = 500 ∨ c.mru = 1500) ∧ (c.accm = 0 ∨ c.accm = 4294967295) ∧ ((c.mrru = 0 ∧ c.short = false) ∨ c.mrru = 1500)

theorem cfOk_mk (q1 q8 q2 q4 q16 q32 q64 stl mppc defl must : Bool) (bits tries frag : Int) : cfOk ⟨q1, pick q8 500 1500, q2, q4, pick q16 0 4294967295, pick q32 1500 0, q32 && q64, bits, stl, mppc, defl, must, tries, frag⟩ := by
  cases q8 <;> cases q16 <;> cases q32 <;> simp [cfOk]

theorem madeR_s (n : Int) : ∃ c : Cf, cfOk c ∧ SCalls Tryz.prog 5 [.int n, .int 3] Heap.empty (.agg c.cells) Heap.empty :=
  ⟨_, cfOk_mk _ _ _ _ _ _ _ _ _ _ _ _ _ _, made39_aux n _ _ _ _ _ _ _ _ _ _ _ _ _ _ _ rfl rfl rfl rfl rfl rfl rfl rfl rfl rfl rfl rfl rfl rfl rfl⟩

/-- A number in four bytes. -/
def wd (m : Int) : List Int := [IntKind.u8.wrap (m / 16777216), IntKind.u8.wrap (m / 65536), IntKind.u8.wrap (m / 256), IntKind.u8.wrap m]
def nR (x b : Int) : Int := Go.bits .or .i64 (IntKind.i64.wrap (x * 256)) (IntKind.i64.wrap b)

theorem word_s (m : Int) : SCalls Tryz.prog 16 [.sc (.int .u32 m)] Heap.empty (bytesA (wd m)) Heap.empty := by
  refine scalls_of_k (sz := 15) (Tryz.call16) Tryz.func16 rfl (Nat.le_refl _) (by kernel_rfl) (fun R hR => ?_)
  refine scode_seq_k (fun K1 hK1 => ?_)
  refine scode_region (by kernel_rfl) ?_
  simp [go_sem]
  refine hK1 _ _ ?_
  clear hK1 K1
  refine scode_seq_k (fun K1 hK1 => ?_)
  refine scode_region (by kernel_rfl) ?_
  simp [go_sem, zrep]
  refine hK1 _ _ ?_
  refine scode_ret ?_
  simp only [go_sem]
  refine hR _ _ ?_
  exact ret_pure (v := .ms 0 0 4 1) (by simp [go_sem]) (Froz.row (b := 0) (off := 0) (len := 4) (sz := 1) (cs := bytesV (wd m)) (by simp [go_sem, bytesV, wd]) (Nat.zero_le _) (by simp [bytesV, wd]) rfl) (empty_le _) (Nat.zero_le _) (by rw [bytesA_lt]; trivial)

theorem number_s (a b c d : Int) : SCalls Tryz.prog 19 [bytesA [a, b, c, d]] Heap.empty (.int (nR (nR (nR (nR 0 a) b) c) d)) Heap.empty := by
  obtain ⟨f, hf⟩ : ∃ f : Nat → Int, f = fun i => match i with | 0 => 0 | 1 => nR 0 a | 2 => nR (nR 0 a) b | 3 => nR (nR (nR 0 a) b) c | _ => nR (nR (nR (nR 0 a) b) c) d := ⟨_, rfl⟩
  have f0 : f 0 = 0 := by subst hf; rfl
  have f1 : f 1 = nR 0 a := by subst hf; rfl
  have f2 : f 2 = nR (nR 0 a) b := by subst hf; rfl
  have f3 : f 3 = nR (nR (nR 0 a) b) c := by subst hf; rfl
  have f4 : f 4 = nR (nR (nR (nR 0 a) b) c) d := by subst hf; rfl
  clear hf
  refine scalls_of_k (sz := 19) (Tryz.call19) Tryz.func19 rfl (Nat.le_refl _) (by kernel_rfl) (fun R hR => ?_)
  refine scode_seq_k (fun K1 hK1 => ?_)
  refine scode_region (by kernel_rfl) ?_
  simp [go_sem]
  refine hK1 _ _ ?_
  clear hK1 K1
  refine scode_seq_k (fun K1 hK1 => ?_)
  refine scode_region (by kernel_rfl) ?_
  simp [go_sem]
  refine hK1 _ _ ?_
  clear hK1 K1
  refine scode_seq_k (fun K1 hK1 => ?_)
  refine scode_seq_k (fun K2 hK2 => ?_)
  refine scode_region (by kernel_rfl) ?_
  simp [go_sem, bytesA, len_bytesV]
  refine hK2 _ _ ?_
  clear hK2 K2
  refine scode_block ?_
  refine scode_loop (Inv := fun n env H => ∃ i : Nat, n = 4 - i ∧ i ≤ 4 ∧ env 6 = bytesA [a, b, c, d] ∧ env 3 = .sc (.int .i64 (f i)) ∧ env 7 = .sc (.int .i64 4) ∧ env 8 = .sc (.int .i64 i) ∧ H = Heap.empty) ?_ (n := 4) ⟨0, rfl, by omega, by simp [go_sem, bytesA], by simp [go_sem, f0], by simp [go_sem], by simp [go_sem], rfl⟩
  rintro n env H ⟨i, rfl, hi, e6, e3, e7, e8, rfl⟩
  refine scode_seq_k (fun K2 hK2 => ?_)
  refine scode_region (by kernel_rfl) ?_
  simp [go_sem, e7, e8]
  refine hK2 _ _ ?_
  clear hK2 K2
  refine scode_seq_k (fun K2 hK2 => ?_)
  refine scode_if (b := decide (i < 4)) (by simp [go_sem]; omega) (fun hb => ?_) (fun hb => ?_)
  · refine scode_skip ?_
    refine hK2 _ _ ?_
    clear hK2 K2
    simp only [decide_eq_true_eq] at hb
    have hii : i = 0 ∨ i = 1 ∨ i = 2 ∨ i = 3 := by omega
    obtain ⟨x, rest, g1, g2⟩ : ∃ x rest, ([a, b, c, d] : List Int).drop i = x :: rest ∧ nR (f i) x = f (i + 1) := by
      rcases hii with rfl | rfl | rfl | rfl
      · exact ⟨a, _, rfl, by rw [f0, f1]⟩
      · exact ⟨b, _, rfl, by rw [f1, f2]⟩
      · exact ⟨c, _, rfl, by rw [f2, f3]⟩
      · exact ⟨d, _, rfl, by rw [f3, f4]⟩
    unfold nR at g2
    have hrow : (bytesV [a, b, c, d]).drop i = .sc (.int .u8 x) :: bytesV rest := by rw [bytesV_drop, g1]; rfl
    have hb4 : (i : Int) < 4 := by omega
    refine scode_seq_k (fun K4 hK4 => ?_)
    refine scode_block ?_
    refine scode_seq_k (fun K5 hK5 => ?_)
    refine scode_region (by kernel_rfl) ?_
    simp [go_sem, e6, e8, bytesA, len_bytesV, hb, hrow, hb4]
    refine hK5 _ _ ?_
    refine scode_region (by kernel_rfl) ?_
    simp [go_sem, e3, g2]
    refine hK4 _ _ ?_
    refine scode_region (by kernel_rfl) ?_
    have hw : IntKind.i64.wrap ((i : Int) + 1) = ((i + 1 : Nat) : Int) := by
      rw [IntWalk.i64_in _ (by omega)]; rfl
    simp [go_sem, e6, e7, e8, hw, bytesA]
    exact ⟨4 - (i + 1), by omega, i + 1, rfl, by omega, rfl, rfl⟩
  · refine scode_exit ?_
    refine hK1 _ _ ?_
    refine scode_seq_k (fun K4 hK4 => ?_)
    refine scode_region (by kernel_rfl) ?_
    simp only [decide_eq_false_iff_not] at hb
    obtain rfl : i = 4 := by omega
    simp [go_sem, e3]
    refine hK4 _ _ ?_
    refine scode_ret ?_
    simp only [go_sem]
    refine hR _ _ ?_
    exact ret_plain (by simp [go_sem, f4]) (empty_le _) (Nat.zero_le _) (by simp [go_sem])
end Go.Proofs.YtinbldahpifinaaGreatDoor
