/- LcpReads: all together. -/
import Derived.Test.YtinbldahpifinaaGreatDoorL46
import Derived.Test.YtinbldahpifinaaGreatDoorL47
import Derived.Test.YtinbldahpifinaaGreatDoorL440
import Derived.Test.YtinbldahpifinaaGreatDoorL441
import Derived.Test.YtinbldahpifinaaGreatDoorL442
import Derived.Test.YtinbldahpifinaaGreatDoorL443
import Derived.Test.YtinbldahpifinaaGreatDoorL450
import Derived.Test.YtinbldahpifinaaGreatDoorL451
import Derived.Test.YtinbldahpifinaaGreatDoorL452
import Derived.Test.YtinbldahpifinaaGreatDoorL453
set_option maxRecDepth 20000
noncomputable section
namespace Go.Proofs.YtinbldahpifinaaGreatDoor
open Go Go.Fl Go.Proofs

theorem onlyIf_mem {q : Bool} {o x : Opt} (h : x ∈ onlyIf q o) : x = o := by
  unfold onlyIf at h
  split at h
  · simpa using h
  · cases h
theorem onlyIf_len (q : Bool) (o : Opt) : (onlyIf q o).length ≤ 1 := by
  unfold onlyIf
  split <;> simp

theorem askL_len (a b c d e f g h : Bool) (m : Int) : (askL a b c d e f g h m).length ≤ 1000 := by
  unfold askL
  simp only [List.length_append]
  have := onlyIf_len a ⟨1, [1, 244]⟩
  have := onlyIf_len b ⟨2, wd 0⟩
  have := onlyIf_len c ⟨3, [194, 35, 129]⟩
  have := onlyIf_len d ⟨5, wd m⟩
  have := onlyIf_len e ⟨7, []⟩
  have := onlyIf_len f ⟨8, []⟩
  have := onlyIf_len g ⟨17, [5, 220]⟩
  have := onlyIf_len h ⟨18, []⟩
  omega
theorem askL_dat (a b c d e f g h : Bool) (m : Int) : ∀ o ∈ askL a b c d e f g h m, o.data.length ≤ maxLen := by
  intro o ho
  unfold askL at ho
  simp only [List.mem_append] at ho
  have h4 : 4 ≤ maxLen := by decide
  rcases ho with ((((((ho | ho) | ho) | ho) | ho) | ho) | ho) | ho <;> (rw [onlyIf_mem ho]; simp [wd]; try omega)

theorem ask_all (server mg mru500 pfc acfc accm0 mrru short : Bool) (h : short = true → mrru = true) : AskOk server mg mru500 pfc acfc accm0 mrru short := by
  cases server <;> cases mg
  · exact askOk3 _ _ _ _ _ _ h
  · exact askOk2 _ _ _ _ _ _ h
  · exact askOk1 _ _ _ _ _ _ h
  · exact askOk0 _ _ _ _ _ _ h
theorem read_all (server mg mru500 pfc acfc accm0 mrru short : Bool) (h : short = true → mrru = true) : ReadOk server mg mru500 pfc acfc accm0 mrru short := by
  cases server <;> cases mg
  · exact readOk3 _ _ _ _ _ _ h
  · exact readOk2 _ _ _ _ _ _ h
  · exact readOk1 _ _ _ _ _ _ h
  · exact readOk0 _ _ _ _ _ _ h
theorem judge_all (server mg mru500 pfc acfc accm0 mrru short : Bool) (h : short = true → mrru = true) : JudgeOk server mg mru500 pfc acfc accm0 mrru short := by
  cases server <;> cases mg
  · exact judgeOk3 _ _ _ _ _ _ h
  · exact judgeOk2 _ _ _ _ _ _ h
  · exact judgeOk1 _ _ _ _ _ _ h
  · exact judgeOk0 _ _ _ _ _ _ h

theorem reads_s (n m : Int) (h0 : 0 ≤ m) (h1 : m ≤ 4294967295) : SCalls Tryz.prog 3 [.int n, .sc (.int .u32 m)] Heap.empty (.bool true) Heap.empty := by
  obtain ⟨c, hc, hmade⟩ := madeR_s n
  obtain ⟨server, mru, pfc, acfc, accm, mrru, short, bits, stl, mppc, defl, must, tries, frag⟩ := c
  simp only [cfOk] at hc
  obtain ⟨c1, c2, c3⟩ := hc
  obtain ⟨m5, rfl⟩ : ∃ q : Bool, mru = cond q 500 1500 := by
    rcases c1 with rfl | rfl
    · exact ⟨true, rfl⟩
    · exact ⟨false, rfl⟩
  obtain ⟨a0, rfl⟩ : ∃ q : Bool, accm = cond q 0 4294967295 := by
    rcases c2 with rfl | rfl
    · exact ⟨true, rfl⟩
    · exact ⟨false, rfl⟩
  obtain ⟨mr, rfl, hs⟩ : ∃ q : Bool, mrru = cond q 1500 0 ∧ (short = true → q = true) := by
    rcases c3 with ⟨rfl, rfl⟩ | rfl
    · exact ⟨false, rfl, fun h => by cases h⟩
    · exact ⟨true, rfl, fun _ => rfl⟩
  obtain ⟨mg, k, rfl⟩ : ∃ (mg : Bool) (k : Nat), m = mgI mg k := by
    obtain ⟨j, rfl⟩ := Int.eq_ofNat_of_zero_le h0
    cases j with
    | zero => exact ⟨false, 0, rfl⟩
    | succ k => exact ⟨true, k, rfl⟩
  have e : cond mg (mR (mgI mg k)) 0 = mgI mg k := by
    cases mg with
    | false => rfl
    | true => exact mR_eq _ h0 h1
  have k6 := (g_sound (ask_all server mg m5 pfc acfc a0 mr short hs k bits stl mppc defl must tries frag)).1
  have k7 := (g_sound (read_all server mg m5 pfc acfc a0 mr short hs k)).1
  have k8 := g_sound (rules_g m5 pfc acfc a0 mr short bits stl mppc defl must tries frag)
  have k9 := (g_sound (judge_all server mg m5 pfc acfc a0 mr short hs k)).1
  unfold readV at k7
  rw [e] at k7
  refine reads_aux n (mgI mg k) ⟨server, cond m5 500 1500, pfc, acfc, cond a0 0 4294967295, cond mr 1500 0, short, bits, stl, mppc, defl, must, tries, frag⟩ _ _ ?_ (askL_len _ _ _ _ _ _ _ _ _) (askL_dat _ _ _ _ _ _ _ _ _) k8.2 awake_s hmade k6 k7 k8.1 k9
  intro h
  rw [hs h]
  show (0 : Int) < 1500
  decide
end Go.Proofs.YtinbldahpifinaaGreatDoor
