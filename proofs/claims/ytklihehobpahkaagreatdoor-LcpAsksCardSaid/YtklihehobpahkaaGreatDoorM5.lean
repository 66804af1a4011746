/- Contracts: md4: that it ends, whatever the bytes are. -/
import Derived.Test.YtklihehobpahkaaGreatDoorM0
import Derived.Test.YtklihehobpahkaaGreatDoorFl43
set_option linter.unusedVariables false
set_option linter.unusedSimpArgs false
set_option maxRecDepth 20000
noncomputable section M5S
namespace Go.Proofs.YtklihehobpahkaaGreatDoor
open Go Go.Fl Go.Proofs

theorem enM : ∀ f ∈ [74, 85, 86, 87, 88, 93, 94, 95, 96], Enters Tryz.prog f := by
  simp only [List.mem_cons, List.mem_nil_iff, or_false, forall_eq_or_imp, forall_eq]
  exact ⟨Tryz.call74, Tryz.call85, Tryz.call86, Tryz.call87, Tryz.call88, Tryz.call93, Tryz.call94, Tryz.call95, Tryz.call96⟩

set_option maxHeartbeats 4000000 in
theorem mix_run : oneB (ais .u32 4) (ecall Tryz.prog [74, 85, 86, 87, 88, 93, 94, 95, 96] 40 74 [.ptr 0 0, aiA .u8 64] (Heap.one (ais .u32 4))) = true := by kernel_rfl

theorem mix_one : ∃ H', SCalls Tryz.prog 74 [.ptr 0 0, aiA .u8 64] (Heap.one (ais .u32 4)) (.tup []) H' ∧ H'.get 0 = some (ais .u32 4) := ecall_one mixed enM 40 mix_run

theorem mix_s {b : Nat} {H : Heap} (hb : H.get b = some (ais .u32 4)) : SCalls Tryz.prog 74 [.ptr b 0, aiA .u8 64] H (.tup []) (H.set b (ais .u32 4)) := by
  obtain ⟨H', h1, h2⟩ := mix_one
  exact scalls_one h1 h2 (ais_lt _ _ _) (ais_lt _ _ _) (.tup (fun x hx => by cases hx)) (.cons (.ptr 0) (.cons (.same (aiA_lt _ _ _)) .nil)) hb
end Go.Proofs.YtklihehobpahkaaGreatDoor
end M5S

set_option maxRecDepth 20000
noncomputable section M6S
namespace Go.Proofs.YtklihehobpahkaaGreatDoor
open Go Go.Fl Go.Proofs

@[go_sem] theorem tmod64 (m : Nat) : (m : Int).tmod 64 = ((m % 64 : Nat) : Int) := rfl

/-- One cell more at the end of a row. -/
theorem app1 {H : Heap} {s x : AV} {n : Nat} {cs : List AV} {bo : Option Nat} (hg : grown H 1 s = some (n, cs, bo)) (hn : n ≤ 1073741824) (hx : x.leaf = true) :
    aappend Tryz.prog (H.alloc [x]) 51 51 s (.ms H.next 0 1 1) = some (.ms (H.next + 1) 0 (n + 1) 1, (H.alloc [x]).regrow bo (cs ++ [x])) := by
  have h := append_step (P := Tryz.prog) (H := H.alloc [x]) (t := 51) (u := 51) (e := 5) (x := .ms H.next 0 1 1) (k := 1) (new := [x]) tU51 tS5 tB5 tZ5 rfl (by
    unfold source
    rw [tU51]
    simp [sliceCells, Heap.get_alloc]) (grown_alloc (v := [x]) hg) (by omega) (by omega) (by simp [hx])
  rw [h]
  rfl

theorem app1_next {H : Heap} {x : AV} {cs : List AV} {bo : Option Nat} : ((H.alloc [x]).regrow bo (cs ++ [x])).next = H.next + 2 := by
  rw [Heap.next_regrow]; rfl

theorem app1_grown {H : Heap} {s x : AV} {n : Nat} {cs : List AV} {bo : Option Nat} (hg : grown H 1 s = some (n, cs, bo)) :
    grown ((H.alloc [x]).regrow bo (cs ++ [x])) 1 (.ms (H.next + 1) 0 (n + 1) 1) = some (n + 1, cs ++ [x], some (H.next + 1)) :=
  grown_after (H := H.alloc [x]) (k := 1) (new := [x]) (grown_alloc (v := [x]) hg) rfl

set_option maxHeartbeats 4000000 in
theorem padded_s (n : Nat) (hn : n ≤ 1048576) : ∃ m, m % 64 = 0 ∧ m ≤ n + 128 ∧ SCalls Tryz.prog 73 [aiA .u8 n] Heap.empty (aiA .u8 m) Heap.empty := by
  refine ⟨n + 1 + (119 - n % 64) % 64 + 8, by omega, by omega, ?_⟩
  refine scalls_of_k (sz := 34) (Tryz.call73) Tryz.func73 rfl (Nat.le_refl _) (by kernel_rfl) (fun R hR => ?_)
  have hb : (0 + n) * 1 ≤ 140737488355328 := by omega
  have hb2 : 0 + n ≤ 140737488355328 := by omega
  have hb3 : (n + 1) * 1 ≤ 140737488355328 := by omega
  have hb4 : n + 1 ≤ 140737488355328 := by omega
  have hall : (ais .u8 n).all AV.leaf = true := List.all_eq_true.2 fun x hx => by rw [(List.mem_replicate.1 hx).2]; rfl
  have hlen : (ais .u8 n).length = n := ais_len _ _
  have htk : (ais .u8 n).take n = ais .u8 n := List.take_of_length_le (by omega)
  refine scode_seq_k (fun K1 hK1 => ?_)
  refine scode_region (by kernel_rfl) ?_
  simp [go_sem]
  refine hK1 _ _ ?_
  clear hK1 K1
  refine scode_seq_k (fun K2 hK2 => ?_)
  refine scode_region (by kernel_rfl) ?_
  have hlf : ∀ x, x ∈ ais .u8 n → x.leaf = true := List.all_eq_true.1 hall
  simp only [AV.leaf] at hlf
  have hap0 : aappend Tryz.prog Heap.empty 51 51 (.sc (.slice none 0 0)) (aiA .u8 n) = some (.ms 0 0 n 1, Heap.empty.alloc (ais .u8 n)) := by
    have h := append_step (P := Tryz.prog) (H := Heap.empty) (t := 51) (u := 51) (e := 5) (s := .nil) (x := aiA .u8 n) (k := n) (new := ais .u8 n) (n := 0) (cs := []) (bo := none) tU51 tS5 tB5 tZ5 rfl (by
      unfold source
      rw [tU51]
      simp [sliceCells, aiA, hlen]) rfl (by omega) (by omega) hall
    rw [h]
    simp [Heap.regrow, Heap.delo, next_empty]
  have hg0 : grown (Heap.empty.alloc (ais .u8 n)) 1 (.ms 0 0 n 1) = some (n, ais .u8 n, some 0) := grown_of (by rw [Heap.get_alloc]; rfl) (by omega)
  have hap1 := app1 (x := .sc (.int .u8 128)) hg0 (by omega) rfl
  have hn0 : (Heap.empty.alloc (ais .u8 n)).next = 1 := rfl
  rw [hn0] at hap1
  simp [go_sem, hap0, hap1]
  refine hK2 _ _ ?_
  clear hK2 K2
  refine scode_gen (fun env H => env 0 = aiA .u8 n ∧ ∃ cs bo, grown H 1 (env 3) = some (n + 1, cs, bo) ∧ allK .u8 cs) ?_ ?_
  · refine ⟨by simp [go_sem], ais .u8 n ++ [.sc (.int .u8 128)], some 2, ?_, ?_⟩
    · simp [go_sem]
      exact app1_grown (x := .sc (.int .u8 128)) hg0
    · refine allK.append (fun x hx => ?_) (fun x hx => ?_)
      · rw [(List.mem_replicate.1 hx).2]; exact .inr rfl
      · rw [List.mem_singleton.1 hx]; exact .inl ⟨_, rfl⟩
  rintro env H ⟨h0, cs, bo, hg, hc⟩
  refine scode_seq_mid (fun env H => env 0 = aiA .u8 n ∧ ∃ cs bo, grown H 1 (env 3) = some (n + 1 + (119 - n % 64) % 64, cs, bo) ∧ allK .u8 cs) ?_ ?_
  · refine scode_block ?_
    refine scode_loop (Inv := fun k env H => ∃ m cs bo, env 0 = aiA .u8 n ∧ grown H 1 (env 3) = some (m, cs, bo) ∧ allK .u8 cs ∧ n + 1 ≤ m ∧ k = (120 - m % 64) % 64 ∧ m + k = n + 1 + (119 - n % 64) % 64) ?_ (n := (119 - n % 64) % 64) ⟨n + 1, cs, bo, h0, hg, hc, by omega, by omega, by omega⟩
    clear hc hg h0
    rintro k env H ⟨m, cs, bo, h0, hg, hc, hm, hk, hs⟩
    refine scode_seq_k (fun K2 hK2 => ?_)
    refine scode_seq_k (fun K3 hK3 => ?_)
    refine scode_region (by kernel_rfl) ?_
    have hl := grown_len (P := Tryz.prog) tU51 hg
    simp [go_sem, hl]
    refine hK3 _ _ ?_
    clear hK3 K3
    obtain ⟨q, hq⟩ : ∃ q, ((m : Int) % 64 != 56) = q := ⟨_, rfl⟩
    refine scode_if (b := q) (by simp [go_sem, hq]) (fun hb => ?_) (fun hb => ?_)
    · refine scode_skip ?_
      refine hK2 _ _ ?_
      clear hK2 K2
      have hne : m % 64 ≠ 56 := by
        intro e
        rw [hb] at hq
        simp at hq
        omega
      refine scode_block ?_
      refine scode_hide (fun K4 hK4 => ?_)
      refine scode_region (by kernel_rfl) ?_
      simp [go_sem, app1 (x := .sc (.int .u8 0)) hg (by omega) rfl]
      refine hK4 _ _ ?_
      exact ⟨k - 1, by omega, m + 1, cs ++ [.sc (.int .u8 0)], some (H.next + 1), by simpa [go_sem] using h0, by simpa [go_sem] using app1_grown hg, hc.append (fun x hx => by rw [List.mem_singleton.1 hx]; exact .inl ⟨_, rfl⟩), by omega, by omega, by omega⟩
    · refine scode_exit ?_
      have he : m % 64 = 56 := by
        rw [hb] at hq
        simp at hq
        omega
      have e : n + 1 + (119 - n % 64) % 64 = m := by omega
      simp [go_sem]
      rw [e]
      exact ⟨h0, cs, ⟨bo, hg⟩, hc⟩
  clear hg hc h0
  rintro env H ⟨h0, cs, bo, hg, hc⟩
  obtain ⟨m, hm⟩ : ∃ m, n + 1 + (119 - n % 64) % 64 = m := ⟨_, rfl⟩
  rw [hm] at hg hR
  have hmb : m ≤ n + 64 := by omega
  refine scode_seq_k (fun K1 hK1 => ?_)
  refine scode_region (by kernel_rfl) ?_
  simp [go_sem, h0, aiA]
  refine hK1 _ _ ?_
  clear hK1 K1
  refine scode_gen (fun env H => (∃ z, env 4 = .sc (.int .u64 z)) ∧ ∃ cs bo, grown H 1 (env 3) = some (m, cs, bo) ∧ allK .u8 cs) ⟨⟨_, by simp [go_sem]; rfl⟩, cs, bo, by simpa [go_sem] using hg, hc⟩ ?_
  clear hg hc h0
  rintro env H ⟨⟨z, h4⟩, cs, bo, hg, hc⟩
  refine scode_seq_mid (fun env H => ∃ cs bo, grown H 1 (env 3) = some (m + 8, cs, bo) ∧ allK .u8 cs) ?_ ?_
  · refine scode_seq_k (fun K1 hK1 => ?_)
    refine scode_region (by kernel_rfl) ?_
    simp [go_sem]
    refine hK1 _ _ ?_
    clear hK1 K1
    refine scode_block ?_
    refine scode_loop (Inv := fun k env H => ∃ (i : Nat) (cs : List AV) (bo : Option Nat), k = 8 - i ∧ i ≤ 8 ∧ env 4 = .sc (.int .u64 z) ∧ env 21 = .sc (.int .i64 i) ∧ grown H 1 (env 3) = some (m + i, cs, bo) ∧ allK .u8 cs) ?_ (n := 8) ⟨0, cs, bo, rfl, by omega, by simpa [go_sem] using h4, by simp [go_sem], by simpa [go_sem] using hg, hc⟩
    clear hc hg h4
    rintro k env H ⟨i, cs, bo, rfl, hi, h4, h21, hg, hc⟩
    refine scode_seq_k (fun K2 hK2 => ?_)
    refine scode_region (by kernel_rfl) ?_
    simp [go_sem, h21]
    refine hK2 _ _ ?_
    clear hK2 K2
    refine scode_seq_k (fun K2 hK2 => ?_)
    refine scode_if (b := decide ((i : Int) < 8)) (by simp [go_sem]) (fun hb => ?_) (fun hb => ?_)
    · refine scode_skip ?_
      refine hK2 _ _ ?_
      clear hK2 K2
      have hlt : i < 8 := by simp at hb; omega
      have hw8 : IntKind.i64.wrap (8 * (i : Int)) = ((8 * i : Nat) : Int) := by rw [IntWalk.i64_in _ (by omega)]; omega
      have hw1 : IntKind.i64.wrap ((i : Int) + 1) = ((i + 1 : Nat) : Int) := by rw [IntWalk.i64_in _ (by omega)]; rfl
      have hp : (0 : Int) ≤ 8 * (i : Int) := by omega
      refine scode_seq_k (fun K4 hK4 => ?_)
      refine scode_block ?_
      refine scode_seq_k (fun K5 hK5 => ?_)
      refine scode_region (by kernel_rfl) ?_
      simp [go_sem, h21]
      refine hK5 _ _ ?_
      clear hK5 K5
      refine scode_region (by kernel_rfl) ?_
      have hap := fun v : Int => app1 (x := .sc (.int .u8 v)) hg (by omega) rfl
      simp [go_sem, h4, h21, hw8, hp, hap]
      refine hK4 _ _ ?_
      clear hK4 K4
      refine scode_hide (fun K4 hK4 => ?_)
      refine scode_region (by kernel_rfl) ?_
      simp [go_sem, h21, hw1]
      refine hK4 _ _ ?_
      refine ⟨8 - (i + 1), by omega, i + 1, _, _, rfl, by omega, by simp [go_sem, h4], by simp [go_sem], by simp [go_sem]; exact app1_grown hg, hc.append (fun x hx => by rw [List.mem_singleton.1 hx]; exact .inl ⟨_, rfl⟩)⟩
    · refine scode_exit ?_
      have e : i = 8 := by simp at hb; omega
      subst e
      exact ⟨cs, bo, hg, hc⟩
  clear hg hc h4
  rintro env H ⟨cs, bo, hg, hc⟩
  refine scode_seq_k (fun K1 hK1 => ?_)
  refine scode_region (by kernel_rfl) ?_
  simp [go_sem]
  refine hK1 _ _ ?_
  refine scode_ret ?_
  simp only [go_sem]
  refine hR _ _ ?_
  exact ret_pure (v := env 3) (by simp [go_sem]) (froz_grown hg (fun b _ => Nat.zero_le b) hc) (empty_le _) (Nat.zero_le _) (aiA_lt _ _ _)
end Go.Proofs.YtklihehobpahkaaGreatDoor
end M6S

set_option maxRecDepth 20000
noncomputable section M7S
namespace Go.Proofs.YtklihehobpahkaaGreatDoor
open Go Go.Fl Go.Proofs

/-- A heap with one block, of that number. -/
def solo (b : Nat) (cs : List AV) : Heap := ⟨b + 1, Tr.leaf.put b (some cs), fun x hx => by rw [Tr.get_put, if_neg (by omega)]; rfl⟩
theorem solo_get (b : Nat) (cs : List AV) (x : Nat) : (solo b cs).get x = if x = b then some cs else none := by
  unfold solo Heap.get
  simp only
  rw [Tr.get_put]
  rfl
theorem solo_next (b : Nat) (cs : List AV) : (solo b cs).next = b + 1 := rfl

def copyR (n : Nat) : AV := if n = 0 then .nil else .ms (2 * n - 1) 0 n 1
def copyH (n : Nat) : Heap := if n = 0 then Heap.empty else solo (2 * n - 1) (ais .u8 n)
theorem copy_grown (n : Nat) : ∃ bo, grown (copyH n) 1 (copyR n) = some (n, ais .u8 n, bo) := by
  unfold copyH copyR
  by_cases h : n = 0
  · subst h; exact ⟨none, rfl⟩
  · rw [if_neg h, if_neg h]
    exact ⟨some (2 * n - 1), grown_of (by rw [solo_get, if_pos rfl]) (by rw [ais_len]; omega)⟩

theorem ais_succ (k : IntKind) (n : Nat) : ais k n ++ [.ai k] = ais k (n + 1) := by
  unfold ais
  rw [List.replicate_succ', ]

set_option maxHeartbeats 4000000 in
theorem copy_s (n : Nat) (hn : n ≤ 1048576) : SCalls Tryz.prog 79 [aiA .u8 n] Heap.empty (copyR n) (copyH n) := by
  refine scalls_of_k (sz := 19) (Tryz.call79) Tryz.func79 rfl (Nat.zero_le _) (by kernel_rfl) (fun R hR => ?_)
  have hlen : (ais .u8 n).length = n := ais_len _ _
  refine scode_seq_k (fun K1 hK1 => ?_)
  refine scode_region (by kernel_rfl) ?_
  simp [go_sem]
  refine hK1 _ _ ?_
  clear hK1 K1
  refine scode_seq_k (fun K1 hK1 => ?_)
  refine scode_region (by kernel_rfl) ?_
  simp [go_sem]
  refine hK1 _ _ ?_
  clear hK1 K1
  refine scode_seq_mid (fun env H => env 3 = copyR n ∧ H.next = 2 * n ∧ (0 < n → H.get (2 * n - 1) = some (ais .u8 n))) ?_ ?_
  · refine scode_seq_k (fun K1 hK1 => ?_)
    refine scode_region (by kernel_rfl) ?_
    simp [go_sem]
    refine hK1 _ _ ?_
    clear hK1 K1
    refine scode_block ?_
    refine scode_loop (Inv := fun k env H => ∃ i : Nat, k = n - i ∧ i ≤ n ∧ env 0 = aiA .u8 n ∧ env 4 = .sc (.int .i64 i) ∧ env 3 = copyR i ∧ H.next = 2 * i ∧ (0 < i → H.get (2 * i - 1) = some (ais .u8 i))) ?_ (n := n) ⟨0, rfl, by omega, by simp [go_sem], by simp [go_sem], by simp [go_sem, copyR], rfl, fun h => by omega⟩
    rintro k env H ⟨i, rfl, hi, h0, h4, h3, hnx, hg⟩
    refine scode_seq_k (fun K5 hK5 => ?_)
    refine scode_seq_k (fun K6 hK6 => ?_)
    refine scode_region (by kernel_rfl) ?_
    simp [go_sem, h0, h4, aiA]
    refine hK6 _ _ ?_
    clear hK6 K6
    refine scode_if (b := decide (i < n)) (by simp [go_sem]) (fun hb => ?_) (fun hb => ?_)
    · refine scode_skip ?_
      refine hK5 _ _ ?_
      clear hK5 K5
      have hlt : i < n := by simpa using hb
      obtain ⟨x, r, e1, _, e3⟩ := drop_cons (l := ais .u8 n) (i := i) (by omega)
      have hx := ais_get e3
      subst hx
      refine scode_seq_k (fun K7 hK7 => ?_)
      refine scode_block ?_
      refine scode_region (by kernel_rfl) ?_
      obtain ⟨bo, hgr⟩ : ∃ bo, grown H 1 (env 3) = some (i, ais .u8 i, bo) := by
        rw [h3]
        unfold copyR
        by_cases h : i = 0
        · subst h; exact ⟨none, rfl⟩
        · rw [if_neg h]
          exact ⟨_, grown_of (hg (by omega)) (by rw [ais_len]; omega)⟩
      have hap := app1 (x := .ai .u8) hgr (by omega) rfl
      simp [go_sem, h0, h4, aiA, hlen, hlt, e1, hap]
      refine hK7 _ _ ?_
      clear hK7 K7
      refine scode_hide (fun K4 hK4 => ?_)
      refine scode_region (by kernel_rfl) ?_
      have hw1 : IntKind.i64.wrap ((i : Int) + 1) = ((i + 1 : Nat) : Int) := by rw [IntWalk.i64_in _ (by omega)]; rfl
      simp [go_sem, h4, hw1]
      refine hK4 _ _ ?_
      refine ⟨n - (i + 1), by omega, i + 1, rfl, by omega, by simp [go_sem, h0, aiA], by simp [go_sem], ?_, ?_, ?_⟩
      · simp [go_sem, copyR, hnx]; omega
      · rw [app1_next, hnx]; omega
      · intro _
        have := Heap.get_alloc ((H.alloc [.ai .u8]).delo bo) (ais .u8 i ++ [.ai .u8]) (2 * (i + 1) - 1)
        unfold Heap.regrow
        rw [this, Heap.delo_next, Heap.next_alloc, hnx, if_pos (by omega), ais_succ]
    · refine scode_exit ?_
      have e : i = n := by simp at hb; omega
      subst e
      simp [go_sem]
      exact ⟨h3, hnx, hg⟩
  rintro env H ⟨h3, hnx, hg⟩
  refine scode_seq_k (fun K7 hK7 => ?_)
  refine scode_region (by kernel_rfl) ?_
  simp [go_sem]
  refine hK7 _ _ ?_
  refine scode_ret ?_
  simp only [go_sem]
  refine hR _ _ ?_
  refine ⟨⟨env 3, by simp [go_sem], by rw [h3]; exact .same _⟩, ?_, Nat.zero_le _, ?_, ?_, ?_⟩
  · unfold copyH
    by_cases h : n = 0
    · rw [if_pos h]; exact empty_le _
    · rw [if_neg h]
      intro b cs hb
      rw [solo_get] at hb
      split at hb
      · rename_i e; subst e; cases hb; exact hg (by omega)
      · cases hb
  · unfold copyH
    by_cases h : n = 0
    · rw [if_pos h]; exact Nat.zero_le _
    · rw [if_neg h, solo_next]; omega
  · unfold copyH copyR
    by_cases h : n = 0
    · rw [if_pos h, if_pos h]; exact .sc _
    · rw [if_neg h, if_neg h, solo_next]; exact .ms (by omega)
  · unfold copyH
    intro b cs hb
    right
    by_cases h : n = 0
    · rw [if_pos h, get_empty] at hb; cases hb
    · rw [if_neg h, solo_get] at hb
      split at hb
      · cases hb; exact ais_lt _ _ _
      · cases hb
end Go.Proofs.YtklihehobpahkaaGreatDoor
end M7S
