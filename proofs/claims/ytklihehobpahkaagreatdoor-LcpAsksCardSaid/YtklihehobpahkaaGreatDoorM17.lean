/- Contracts: long, lcp.Read. -/
import Derived.Test.YtklihehobpahkaaGreatDoorM13
set_option linter.unusedVariables false
set_option linter.unusedSimpArgs false
set_option maxRecDepth 20000
noncomputable section
namespace Go.Proofs.YtklihehobpahkaaGreatDoor
open Go Go.Fl Go.Proofs

theorem u8s_bytesV (l : List Int) : u8s (bytesV l) = some l := by
  induction l with
  | nil => rfl
  | cons n l ih => simp only [bytesV, List.map_cons, u8s]; simp only [bytesV] at ih; rw [ih]; rfl
theorem toList_strOf (a : List Int) : (strOf a).data.toList = a.map fun n => UInt8.ofNat n.toNat := by
  have key : ∀ (l : List Int) (r : ByteArray), (l.foldl (fun r n => r.push (UInt8.ofNat n.toNat)) r).data.toList = r.data.toList ++ l.map fun n => UInt8.ofNat n.toNat := by
    intro l
    induction l with
    | nil => intro r; simp
    | cons x l ih => intro r; rw [List.foldl_cons, ih]; simp [ByteArray.push]
  rw [strOf, key]; rfl
theorem map_inj : ∀ {a b : List Int}, isBytes a → isBytes b → (a.map fun n => UInt8.ofNat n.toNat) = (b.map fun n => UInt8.ofNat n.toNat) → a = b
  | [], [], _, _, _ => rfl
  | [], _ :: _, _, _, h => by simp at h
  | _ :: _, [], _, _, h => by simp at h
  | x :: a, y :: b, ha, hb, h => by
    simp only [List.map_cons, List.cons.injEq] at h
    have hx := ha x List.mem_cons_self
    have hy := hb y List.mem_cons_self
    have h1 := congrArg UInt8.toNat h.1
    simp at h1
    have h2 : x = y := by omega
    rw [h2, map_inj (fun z hz => ha z (List.mem_cons_of_mem _ hz)) (fun z hz => hb z (List.mem_cons_of_mem _ hz)) h.2]
theorem strOf_inj {a b : List Int} (ha : isBytes a) (hb : isBytes b) : ((strOf a).toList == (strOf b).toList) = (a == b) := by
  rw [Bool.eq_iff_iff, beq_iff_eq, beq_iff_eq]
  constructor
  · intro h
    refine map_inj ha hb ?_
    rw [← toList_strOf, ← toList_strOf, ← ByteArray.toList_eq, ← ByteArray.toList_eq]
    exact h
  · rintro rfl; rfl
theorem proof_bytes : isBytes proofL := by
  intro x hx
  simp only [proofL, List.mem_cons, List.mem_nil_iff, or_false] at hx
  rcases hx with rfl | rfl | rfl <;> omega

def longV (k : Int) : Int := if (k == 1) = true then 2 else if (k == 17) = true then 2 else if (k == 3) = true then 3 else if (k == 5) = true then 4 else if (k == 2) = true then 4 else 0

theorem enLong : ∀ f ∈ [23], Enters Tryz.prog f := by
  simp only [List.mem_cons, List.mem_nil_iff, or_false, forall_eq]
  exact Tryz.call23

theorem long_s (k : Int) : SCalls Tryz.prog 23 [.int k] Heap.empty (.int (longV k)) Heap.empty := by
  obtain ⟨z1, q1⟩ : ∃ z, (k == 1) = z := ⟨_, rfl⟩
  obtain ⟨z2, q2⟩ : ∃ z, (k == 17) = z := ⟨_, rfl⟩
  obtain ⟨z3, q3⟩ : ∃ z, (k == 3) = z := ⟨_, rfl⟩
  obtain ⟨z4, q4⟩ : ∃ z, (k == 5) = z := ⟨_, rfl⟩
  obtain ⟨z5, q5⟩ : ∃ z, (k == 2) = z := ⟨_, rfl⟩
  cases z1
  case true => obtain rfl : k = 1 := by simpa using q1
               exact pcall1 enLong 20 (by kernel_rfl)
  cases z2
  case true => obtain rfl : k = 17 := by simpa using q2
               exact pcall1 enLong 20 (by kernel_rfl)
  cases z3
  case true => obtain rfl : k = 3 := by simpa using q3
               exact pcall1 enLong 20 (by kernel_rfl)
  cases z4
  case true => obtain rfl : k = 5 := by simpa using q4
               exact pcall1 enLong 20 (by kernel_rfl)
  cases z5
  case true => obtain rfl : k = 2 := by simpa using q5
               exact pcall1 enLong 20 (by kernel_rfl)
  have hv : longV k = 0 := by unfold longV; rw [q1, q2, q3, q4, q5]; rfl
  refine scalls_of_k (sz := 13) (Tryz.call23) Tryz.func23 rfl (Nat.le_refl _) (by kernel_rfl) (fun R hR => ?_)
  refine scode_seq_k (fun K1 hK1 => ?_)
  refine scode_region (by kernel_rfl) ?_
  simp [go_sem]
  refine hK1 _ _ ?_
  clear hK1 K1
  refine scode_seq_k (fun K2 hK2 => ?_)
  refine scode_seq_k (fun K3 hK3 => ?_)
  refine scode_region (by kernel_rfl) ?_
  simp [go_sem]
  refine hK3 _ _ ?_
  clear hK3 K3
  refine scode_block ?_
  refine scode_seq_k (fun K4 hK4 => ?_)
  refine scode_block ?_
  refine scode_block ?_
  refine scode_seq_k (fun K5 hK5 => ?_)
  refine scode_block ?_
  refine scode_seq_k (fun K6 hK6 => ?_)
  refine scode_block ?_
  refine scode_seq_k (fun K7 hK7 => ?_)
  refine scode_seq_k (fun K8 hK8 => ?_)
  refine scode_seq_k (fun K9 hK9 => ?_)
  refine scode_seq_k (fun K10 hK10 => ?_)
  refine scode_region (by kernel_rfl) ?_
  simp [go_sem, q1]
  refine hK10 _ _ ?_
  clear hK10 K10
  refine scode_if (b := false) (by simp [go_sem]) (fun h => by cases h) (fun _ => ?_)
  refine scode_region (by kernel_rfl) ?_
  simp [go_sem, q2]
  refine hK9 _ _ ?_
  refine scode_if (b := false) (by simp [go_sem]) (fun h => by cases h) (fun _ => ?_)
  refine scode_skip ?_
  refine hK8 _ _ ?_
  refine scode_seq_k (fun K27 hK27 => ?_)
  refine scode_seq_k (fun K28 hK28 => ?_)
  refine scode_region (by kernel_rfl) ?_
  simp [go_sem, q3]
  refine hK28 _ _ ?_
  refine scode_if (b := false) (by simp [go_sem]) (fun h => by cases h) (fun _ => ?_)
  refine scode_skip ?_
  refine hK27 _ _ ?_
  refine scode_seq_k (fun K31 hK31 => ?_)
  refine scode_seq_k (fun K32 hK32 => ?_)
  refine scode_region (by kernel_rfl) ?_
  simp [go_sem, q4]
  refine hK32 _ _ ?_
  refine scode_if (b := false) (by simp [go_sem]) (fun h => by cases h) (fun _ => ?_)
  refine scode_skip ?_
  refine hK31 _ _ ?_
  refine scode_seq_k (fun K35 hK35 => ?_)
  refine scode_region (by kernel_rfl) ?_
  simp [go_sem, q5]
  refine hK35 _ _ ?_
  refine scode_if (b := false) (by simp [go_sem]) (fun h => by cases h) (fun _ => ?_)
  refine scode_skip ?_
  refine hK7 _ _ ?_
  refine scode_exit ?_
  refine hK2 _ _ ?_
  refine scode_seq_k (fun K38 hK38 => ?_)
  refine scode_region (by kernel_rfl) ?_
  simp [go_sem]
  refine hK38 _ _ ?_
  refine scode_ret ?_
  simp only [go_sem]
  refine hR _ _ ?_
  exact ret_plain (by simp [go_sem, hv]) (empty_le _) (Nat.zero_le _) (by simp [go_sem])

structure Vals where
  mru : Int
  mrru : Int
  accm : Int
  auth : Bool
  pfc : Bool
  acfc : Bool
  short : Bool
  magic : Int
def Vals.cells (v : Vals) : List AV := [.int v.mru, .int v.mrru, .sc (.int .u32 v.accm), .bool v.auth, .bool v.pfc, .bool v.acfc, .bool v.short, .sc (.int .u32 v.magic)]
def zeroV : Vals := ⟨0, 0, 0, false, false, false, false, 0⟩
def firstV : Vals := ⟨1500, 0, 4294967295, false, false, false, false, 0⟩

def stepV (v : Vals) (o : Opt) : Vals :=
  if ((o.data.length : Int) != longV o.kind) = true then v
  else if (o.kind == 1) = true then { v with mru := numL o.data }
  else if (o.kind == 2) = true then { v with accm := IntKind.u32.wrap (numL o.data) }
  else if (o.kind == 3) = true then { v with auth := v.auth || o.data == proofL }
  else if (o.kind == 5) = true then { v with magic := IntKind.u32.wrap (numL o.data) }
  else if (o.kind == 7) = true then { v with pfc := true }
  else if (o.kind == 8) = true then { v with acfc := true }
  else if (o.kind == 17) = true then { v with mrru := numL o.data }
  else if (o.kind == 18) = true then { v with short := true }
  else v
def readV (l : List Opt) : Vals := l.foldl stepV firstV

theorem fold_step {α β : Type} {f : β → α → β} {a0 : β} {l r : List α} {i : Nat} {x : α} (h : l.drop i = x :: r) : (l.take (i + 1)).foldl f a0 = f ((l.take i).foldl f a0) x := by
  have hi : i < l.length := by
    rcases Nat.lt_or_ge i l.length with h1 | h1
    · exact h1
    · rw [List.drop_eq_nil_of_le h1] at h; cases h
  have e := List.drop_eq_getElem_cons hi
  rw [h] at e
  cases e
  rw [List.take_succ_eq_append_getElem hi, List.foldl_append]
  rfl

set_option maxHeartbeats 8000000 in
theorem read_s (l : List Opt) (hl : l.length ≤ 1000) (hd : ∀ o ∈ l, o.data.length ≤ 1000 ∧ isBytes o.data) : SCalls Tryz.prog 9 [optsA l] Heap.empty (.agg (readV l).cells) Heap.empty := by
  have c23 := fun k H => scalls_frame (long_s k) (by simp [go_sem]) (by simp [go_sem]) H
  have c24 := fun d hd H => scalls_frame (number0 d hd) (by simp [bytesA_lt]) (by simp [go_sem]) H
  have c25 := fun H => scalls_frame proof_s (by simp) (by simp [bytesA_lt]) H
  refine scalls_of_k (sz := 68) (Tryz.call9) Tryz.func9 rfl (Nat.zero_le _) (by kernel_rfl) (fun R hR => ?_)
  refine scode_seq_k (fun K1 hK1 => ?_)
  refine scode_region (by kernel_rfl) ?_
  simp [go_sem]
  refine hK1 _ _ ?_
  clear hK1 K1
  refine scode_seq_k (fun K2 hK2 => ?_)
  refine scode_region (by kernel_rfl) ?_
  simp [go_sem]
  refine hK2 _ _ ?_
  clear hK2 K2
  refine scode_gen (fun env H => env 0 = optsA l ∧ env 2 = .ptr 0 0 ∧ env 3 = .ptr 1 0 ∧ 2 ≤ H.next ∧ H.get 0 = some zeroV.cells ∧ H.get 1 = some firstV.cells) ?_ ?_
  · exact ⟨by simp [go_sem], by simp [go_sem], by simp [go_sem], by simp [go_sem], rfl, rfl⟩
  rintro env H ⟨h0, h2, h3, hn, g0, g1⟩
  refine scode_seq_mid (fun env H => env 2 = .ptr 0 0 ∧ env 3 = .ptr 1 0 ∧ H.get 0 = some zeroV.cells ∧ H.get 1 = some (readV l).cells) ?_ ?_
  · refine scode_seq_k (fun K4 hK4 => ?_)
    refine scode_region (by kernel_rfl) ?_
    simp [go_sem, h0, optsA]
    refine hK4 _ _ ?_
    clear hK4 K4
    refine scode_block ?_
    refine scode_loop (Inv := fun n env H => ∃ (i : Nat) (v : Vals), n = l.length - i ∧ i ≤ l.length ∧ v = (l.take i).foldl stepV firstV ∧ env 2 = .ptr 0 0 ∧ env 3 = .ptr 1 0 ∧ env 8 = optsA l ∧ env 9 = .int l.length ∧ env 10 = .int i ∧ 2 ≤ H.next ∧ H.get 0 = some zeroV.cells ∧ H.get 1 = some v.cells) ?_ (n := l.length) ⟨0, firstV, rfl, by omega, rfl, by simp [go_sem, h2], by simp [go_sem, h3], by simp [go_sem, optsA], by simp [go_sem], by simp [go_sem], hn, g0, g1⟩
    clear h0 h2 h3 hn g0 g1
    rintro n env H ⟨i, v, rfl, hi, hv, h2, h3, h8, h9, h10, hn, g0, g1⟩
    refine scode_seq_k (fun K6 hK6 => ?_)
    refine scode_region (by kernel_rfl) ?_
    simp [go_sem, h9, h10]
    refine hK6 _ _ ?_
    clear hK6 K6
    refine scode_seq_k (fun K7 hK7 => ?_)
    refine scode_if (b := decide (i < l.length)) (by simp [go_sem]) (fun hb => ?_) (fun hb => ?_)
    · refine scode_skip ?_
      refine hK7 _ _ ?_
      clear hK7 K7
      simp only [decide_eq_true_eq] at hb
      obtain ⟨o, r, e1, e2, e3⟩ := drop_cons hb
      have hrow : ((optsV l).drop (i * 2)).take 2 = o.cells := by rw [optsV_drop, e1]; simp [optsV, Opt.cells]
      have hle : 2 ≤ l.length * 2 - i * 2 := by omega
      obtain ⟨hdl, hdb⟩ := hd o (List.mem_of_getElem? e3)
      have hst := fold_step (f := stepV) (a0 := firstV) e1
      rw [← hv] at hst
      refine scode_seq_mid (fun env H => env 2 = .ptr 0 0 ∧ env 3 = .ptr 1 0 ∧ env 8 = optsA l ∧ env 9 = .int l.length ∧ env 10 = .int i ∧ 2 ≤ H.next ∧ H.get 0 = some zeroV.cells ∧ H.get 1 = some (stepV v o).cells) ?_ ?_
      · refine scode_block ?_
        refine scode_seq_k (fun K9 hK9 => ?_)
        refine scode_region (by kernel_rfl) ?_
        simp [go_sem, h8, h10, optsA, optsV_len, hb, hrow, hle]
        refine hK9 _ _ ?_
        clear hK9 K9
        refine scode_gen (fun env H => ∃ b, env 2 = .ptr 0 0 ∧ env 3 = .ptr 1 0 ∧ env 8 = optsA l ∧ env 9 = .int l.length ∧ env 10 = .int i ∧ env 5 = .ptr b 0 ∧ 2 ≤ b ∧ b < H.next ∧ H.get b = some [.int o.kind, bytesA o.data] ∧ H.get 0 = some zeroV.cells ∧ H.get 1 = some v.cells) ?_ ?_
        · refine ⟨H.next, by simp [go_sem, h2], by simp [go_sem, h3], by simp [go_sem, h8, optsA], by simp [go_sem, h9], by simp [go_sem, h10], by simp [go_sem], hn, by simp [go_sem], ?_, ?_, ?_⟩
          · simp [go_sem, Opt.cells]
          · have : ¬ 0 = H.next := by omega
            simp [go_sem, this, g0]
          · have : ¬ 1 = H.next := by omega
            simp [go_sem, this, g1]
        clear h2 h3 h8 h9 h10 hn g0 g1
        rintro env H ⟨b, h2, h3, h8, h9, h10, h5, hb2, hbn, gb5, g0, g1⟩
        have hn : 2 ≤ H.next := by omega
        refine scode_seq_k (fun K10 hK10 => ?_)
        refine scode_seq_k (fun K11 hK11 => ?_)
        refine scode_drawS mixed (by kernel_rfl) ?_
        refine ws_take 6 (fun K12 hK12 => ?_)
        simp [go_sem, h5, gb5, bytesA]
        refine ⟨_, _, c23 _ _, rfl, ?_⟩
        refine hK12 _ _ ?_
        clear hK12 K12
        simp [go_sem]
        refine hK11 _ _ ?_
        clear hK11 K11
        refine scode_if (b := (o.data.length : Int) != longV o.kind) (by simp [go_sem]) (fun hx => ?_) (fun hx => ?_)
        · refine scode_exit ?_
          have hs : stepV v o = v := by unfold stepV; rw [if_pos hx]
          rw [hs]
          exact ⟨by simp [go_sem, h2], by simp [go_sem, h3], by simp [go_sem, h8], by simp [go_sem, h9], by simp [go_sem, h10], hn, g0, g1⟩
        refine scode_skip ?_
        refine hK10 _ _ ?_
        clear hK10 K10
        refine scode_seq_k (fun K12 hK12 => ?_)
        refine scode_region (by kernel_rfl) ?_
        refine w_take 3 (fun K13 hK13 => ?_)
        simp [go_sem, h5, gb5]
        refine ⟨_, _, c24 _ (by omega) _, ?_⟩
        refine hK13 _ _ ?_
        clear hK13 K13
        simp [go_sem]
        refine hK12 _ _ ?_
        clear hK12 K12
        refine scode_seq_k (fun K12 hK12 => ?_)
        refine scode_region (by kernel_rfl) ?_
        simp [go_sem, h5, gb5]
        refine hK12 _ _ ?_
        clear hK12 K12
        refine scode_gen (fun env' H' => env' 2 = .ptr 0 0 ∧ env' 3 = .ptr 1 0 ∧ env' 8 = optsA l ∧ env' 9 = .int l.length ∧ env' 10 = .int i ∧ env' 5 = .ptr b 0 ∧ env' 6 = .int (numL o.data) ∧ env' 25 = .int o.kind ∧ H' = H) ⟨by simp [go_sem, h2], by simp [go_sem, h3], by simp [go_sem, h8], by simp [go_sem, h9], by simp [go_sem, h10], by simp [go_sem, h5], by simp [go_sem], by simp [go_sem], rfl⟩ ?_
        clear h2 h3 h8 h9 h10 h5
        rintro env H' ⟨h2, h3, h8, h9, h10, h5, h6, h25, rfl⟩
        obtain ⟨m, mm, ac, au, pf, af, sh, mg⟩ := v
        simp only [Vals.cells] at g1
        refine scode_block ?_
        refine scode_seq_k (fun K14 hK14 => ?_)
        refine scode_region (by kernel_rfl) ?_
        simp [go_sem, h25]
        refine hK14 _ _ ?_
        clear hK14 K14
        refine scode_if (b := o.kind == 1) (by simp [go_sem]) (fun b1 => ?_) (fun b1 => ?_)
        · have hs : stepV ⟨m, mm, ac, au, pf, af, sh, mg⟩ o = { (⟨m, mm, ac, au, pf, af, sh, mg⟩ : Vals) with mru := numL o.data } := by simp only [stepV, hx, b1, Bool.false_eq_true, if_false, if_true]
          rw [hs]
          refine scode_hide (fun K hK => ?_)
          refine scode_region (by kernel_rfl) ?_
          simp [go_sem, h3, h6, g1]
          refine hK _ _ ?_
          exact ⟨by simp [go_sem, h2], by simp [go_sem, h3], by simp [go_sem, h8], by simp [go_sem, h9], by simp [go_sem, h10], hn, by simp [go_sem, g0], by simp [go_sem, g1, Vals.cells]⟩
        refine scode_seq_k (fun K14 hK14 => ?_)
        refine scode_region (by kernel_rfl) ?_
        simp [go_sem, h25]
        refine hK14 _ _ ?_
        clear hK14 K14
        refine scode_if (b := o.kind == 2) (by simp [go_sem]) (fun b2 => ?_) (fun b2 => ?_)
        · have hs : stepV ⟨m, mm, ac, au, pf, af, sh, mg⟩ o = { (⟨m, mm, ac, au, pf, af, sh, mg⟩ : Vals) with accm := IntKind.u32.wrap (numL o.data) } := by simp only [stepV, hx, b1, b2, Bool.false_eq_true, if_false, if_true]
          rw [hs]
          refine scode_hide (fun K hK => ?_)
          refine scode_region (by kernel_rfl) ?_
          simp [go_sem, h3, h6, g1]
          refine hK _ _ ?_
          exact ⟨by simp [go_sem, h2], by simp [go_sem, h3], by simp [go_sem, h8], by simp [go_sem, h9], by simp [go_sem, h10], hn, by simp [go_sem, g0], by simp [go_sem, g1, Vals.cells]⟩
        refine scode_seq_k (fun K14 hK14 => ?_)
        refine scode_region (by kernel_rfl) ?_
        simp [go_sem, h25]
        refine hK14 _ _ ?_
        clear hK14 K14
        refine scode_if (b := o.kind == 3) (by simp [go_sem]) (fun b3 => ?_) (fun b3 => ?_)
        · have hs : stepV ⟨m, mm, ac, au, pf, af, sh, mg⟩ o = { (⟨m, mm, ac, au, pf, af, sh, mg⟩ : Vals) with auth := au || o.data == proofL } := by simp only [stepV, hx, b1, b2, b3, Bool.false_eq_true, if_false, if_true]
          rw [hs]
          refine scode_hide (fun K hK => ?_)
          have hinj := strOf_inj hdb proof_bytes
          refine scode_draw mixed (by kernel_rfl) (bf := [0, 1, 3, 7, 15, 31, 7, 71, 255, 511, 1023, 2047]) (by kernel_rfl) ?_
          cases au
          · refine wd_take 7 (by decide) (fun K7 hK7 => ?_)
            simp [go_sem, h3, h5, gb5, g1, bytesA, len_bytesV, u8s_bytesV, befL]
            refine ⟨_, _, c25 _, ?_⟩
            refine ⟨by simp [go_sem, gb5, bytesA], ?_⟩
            refine hK7 _ _ _ _ ?_
            clear hK7 K7
            simp [go_sem, h3, h5, gb5, g1, bytesA, len_bytesV, u8s_bytesV, befL, hinj]
            refine hK _ _ ?_
            exact ⟨by simp [go_sem, h2], by simp [go_sem, h3], by simp [go_sem, h8], by simp [go_sem, h9], by simp [go_sem, h10], hn, by simp [go_sem, g0], by simp [go_sem, g1, Vals.cells]⟩
          · refine wd_take 7 (by decide) (fun K7 hK7 => ?_)
            simp [go_sem, h3, h5, gb5, g1, bytesA, len_bytesV, u8s_bytesV, befL]
            refine hK7 _ _ _ _ ?_
            clear hK7 K7
            simp [go_sem, h3, h5, gb5, g1, bytesA, len_bytesV, u8s_bytesV, befL, hinj]
            refine hK _ _ ?_
            exact ⟨by simp [go_sem, h2], by simp [go_sem, h3], by simp [go_sem, h8], by simp [go_sem, h9], by simp [go_sem, h10], hn, by simp [go_sem, g0], by simp [go_sem, g1, Vals.cells]⟩
        refine scode_seq_k (fun K14 hK14 => ?_)
        refine scode_region (by kernel_rfl) ?_
        simp [go_sem, h25]
        refine hK14 _ _ ?_
        clear hK14 K14
        refine scode_if (b := o.kind == 5) (by simp [go_sem]) (fun b5 => ?_) (fun b5 => ?_)
        · have hs : stepV ⟨m, mm, ac, au, pf, af, sh, mg⟩ o = { (⟨m, mm, ac, au, pf, af, sh, mg⟩ : Vals) with magic := IntKind.u32.wrap (numL o.data) } := by simp only [stepV, hx, b1, b2, b3, b5, Bool.false_eq_true, if_false, if_true]
          rw [hs]
          refine scode_hide (fun K hK => ?_)
          refine scode_region (by kernel_rfl) ?_
          simp [go_sem, h3, h6, g1]
          refine hK _ _ ?_
          exact ⟨by simp [go_sem, h2], by simp [go_sem, h3], by simp [go_sem, h8], by simp [go_sem, h9], by simp [go_sem, h10], hn, by simp [go_sem, g0], by simp [go_sem, g1, Vals.cells]⟩
        refine scode_seq_k (fun K14 hK14 => ?_)
        refine scode_region (by kernel_rfl) ?_
        simp [go_sem, h25]
        refine hK14 _ _ ?_
        clear hK14 K14
        refine scode_if (b := o.kind == 7) (by simp [go_sem]) (fun b7 => ?_) (fun b7 => ?_)
        · have hs : stepV ⟨m, mm, ac, au, pf, af, sh, mg⟩ o = { (⟨m, mm, ac, au, pf, af, sh, mg⟩ : Vals) with pfc := true } := by simp only [stepV, hx, b1, b2, b3, b5, b7, Bool.false_eq_true, if_false, if_true]
          rw [hs]
          refine scode_hide (fun K hK => ?_)
          refine scode_region (by kernel_rfl) ?_
          simp [go_sem, h3, h6, g1]
          refine hK _ _ ?_
          exact ⟨by simp [go_sem, h2], by simp [go_sem, h3], by simp [go_sem, h8], by simp [go_sem, h9], by simp [go_sem, h10], hn, by simp [go_sem, g0], by simp [go_sem, g1, Vals.cells]⟩
        refine scode_seq_k (fun K14 hK14 => ?_)
        refine scode_region (by kernel_rfl) ?_
        simp [go_sem, h25]
        refine hK14 _ _ ?_
        clear hK14 K14
        refine scode_if (b := o.kind == 8) (by simp [go_sem]) (fun b8 => ?_) (fun b8 => ?_)
        · have hs : stepV ⟨m, mm, ac, au, pf, af, sh, mg⟩ o = { (⟨m, mm, ac, au, pf, af, sh, mg⟩ : Vals) with acfc := true } := by simp only [stepV, hx, b1, b2, b3, b5, b7, b8, Bool.false_eq_true, if_false, if_true]
          rw [hs]
          refine scode_hide (fun K hK => ?_)
          refine scode_region (by kernel_rfl) ?_
          simp [go_sem, h3, h6, g1]
          refine hK _ _ ?_
          exact ⟨by simp [go_sem, h2], by simp [go_sem, h3], by simp [go_sem, h8], by simp [go_sem, h9], by simp [go_sem, h10], hn, by simp [go_sem, g0], by simp [go_sem, g1, Vals.cells]⟩
        refine scode_seq_k (fun K14 hK14 => ?_)
        refine scode_region (by kernel_rfl) ?_
        simp [go_sem, h25]
        refine hK14 _ _ ?_
        clear hK14 K14
        refine scode_if (b := o.kind == 17) (by simp [go_sem]) (fun b17 => ?_) (fun b17 => ?_)
        · have hs : stepV ⟨m, mm, ac, au, pf, af, sh, mg⟩ o = { (⟨m, mm, ac, au, pf, af, sh, mg⟩ : Vals) with mrru := numL o.data } := by simp only [stepV, hx, b1, b2, b3, b5, b7, b8, b17, Bool.false_eq_true, if_false, if_true]
          rw [hs]
          refine scode_hide (fun K hK => ?_)
          refine scode_region (by kernel_rfl) ?_
          simp [go_sem, h3, h6, g1]
          refine hK _ _ ?_
          exact ⟨by simp [go_sem, h2], by simp [go_sem, h3], by simp [go_sem, h8], by simp [go_sem, h9], by simp [go_sem, h10], hn, by simp [go_sem, g0], by simp [go_sem, g1, Vals.cells]⟩
        refine scode_seq_k (fun K14 hK14 => ?_)
        refine scode_region (by kernel_rfl) ?_
        simp [go_sem, h25]
        refine hK14 _ _ ?_
        clear hK14 K14
        refine scode_if (b := o.kind == 18) (by simp [go_sem]) (fun b18 => ?_) (fun b18 => ?_)
        · have hs : stepV ⟨m, mm, ac, au, pf, af, sh, mg⟩ o = { (⟨m, mm, ac, au, pf, af, sh, mg⟩ : Vals) with short := true } := by simp only [stepV, hx, b1, b2, b3, b5, b7, b8, b17, b18, Bool.false_eq_true, if_false, if_true]
          rw [hs]
          refine scode_hide (fun K hK => ?_)
          refine scode_region (by kernel_rfl) ?_
          simp [go_sem, h3, h6, g1]
          refine hK _ _ ?_
          exact ⟨by simp [go_sem, h2], by simp [go_sem, h3], by simp [go_sem, h8], by simp [go_sem, h9], by simp [go_sem, h10], hn, by simp [go_sem, g0], by simp [go_sem, g1, Vals.cells]⟩
        have hs : stepV ⟨m, mm, ac, au, pf, af, sh, mg⟩ o = ⟨m, mm, ac, au, pf, af, sh, mg⟩ := by simp only [stepV, hx, b1, b2, b3, b5, b7, b8, b17, b18, Bool.false_eq_true, if_false]
        rw [hs]
        refine scode_skip ?_
        exact ⟨by simp [go_sem, h2], by simp [go_sem, h3], by simp [go_sem, h8], by simp [go_sem, h9], by simp [go_sem, h10], hn, g0, g1⟩
      clear h2 h3 h8 h9 h10 hn g0 g1
      rintro env H ⟨h2, h3, h8, h9, h10, hn, g0, g1⟩
      have hw : IntKind.i64.wrap ((i : Int) + 1) = ((i + 1 : Nat) : Int) := by rw [IntWalk.i64_in _ (by omega)]; rfl
      refine scode_hide (fun K hK => ?_)
      refine scode_region (by kernel_rfl) ?_
      simp [go_sem, h10, hw]
      refine hK _ _ ?_
      exact ⟨l.length - (i + 1), by omega, i + 1, stepV v o, rfl, by omega, hst.symm, by simp [go_sem, h2], by simp [go_sem, h3], by simp [go_sem, h8], by simp [go_sem, h9], by simp [go_sem], hn, g0, g1⟩
    · refine scode_exit ?_
      have hi2 : i = l.length := by have := of_decide_eq_false hb; omega
      subst hi2
      rw [List.take_length] at hv
      subst hv
      exact ⟨by simp [go_sem, h2], by simp [go_sem, h3], g0, g1⟩
  clear h0 h2 h3 hn g0 g1
  rintro env H ⟨h2, h3, g0, g1⟩
  generalize readV l = v at *
  obtain ⟨m, mm, ac, au, pf, af, sh, mg⟩ := v
  simp only [Vals.cells, zeroV] at g0 g1 hR
  refine scode_seq_k (fun K14 hK14 => ?_)
  refine scode_region (by kernel_rfl) ?_
  simp [go_sem, h2, h3, g0, g1]
  refine hK14 _ _ ?_
  refine scode_ret ?_
  simp only [go_sem]
  refine hR _ _ ?_
  exact ret_plain (by simp [go_sem, h2, g0]) (empty_le _) (Nat.zero_le _) (by simp [go_sem])
end Go.Proofs.YtklihehobpahkaaGreatDoor
