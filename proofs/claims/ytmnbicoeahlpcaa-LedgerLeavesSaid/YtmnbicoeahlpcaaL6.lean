/- Contract: the iterator places$1. -/
import Derived.Test.YtmnbicoeahlpcaaL5
import Derived.Test.YtmnbicoeahlpcaaFl28
set_option maxRecDepth 20000
noncomputable section
namespace Go.Proofs.Ytmnbicoeahlpcaa
open Go Go.Fl Go.Proofs Go.RowKit

def placesL (a : List Sn) : List Sn → Nat → Nat → List (Nat × Int)
  | [], _, _ => []
  | d :: r, at_, i => (i, placeL (a.drop at_) at_ d) :: placesL a r (placeL (a.drop at_) at_ d + 1).toNat (i + 1)

theorem placesL_len (a : List Sn) : ∀ (b : List Sn) (at_ i : Nat), (placesL a b at_ i).length = b.length
  | [], _, _ => rfl
  | d :: r, at_, i => by rw [placesL, List.length_cons, placesL_len a r, List.length_cons]

def P51 (sent got : List Sn) (l i at_ : Nat) (env : Env) : Prop :=
  env 0 = .fn (.yield l) [] [] ∧ env 1 = .ep [sentsA got] ∧ env 2 = .ep [sentsA sent] ∧ env 4 = .sc (.int .i64 at_) ∧ env 8 = sentsA got ∧ env 9 = .sc (.int .i64 got.length) ∧ env 10 = .sc (.int .i64 i)

def c51 : Nat → Code := fun _ => Code.skip

theorem r0_51 (l : Nat) (sent got : List Sn) : ∃ c r, Try.f51.body = some (.seq c r) ∧ SCode Try.prog 27 c (fun e env _ => e = .normal ∧ env 0 = .fn (.yield l) [] [] ∧ env 1 = .ep [sentsA got] ∧ env 2 = .ep [sentsA sent] ∧ env 4 = .sc (.int .i64 (0 : Nat))) (enterEnv [.fn (.yield l) [] [], .ep [sentsA got], .ep [sentsA sent]]) Heap.empty := by
  refine ⟨_, _, rfl, ?_⟩
  refine scode_region (by kernel_rfl) ?_
  simp [go_sem]

theorem places1_stops (sent got : List Sn) (hsent : ∀ s ∈ sent, s.ok) (hgot : ∀ s ∈ got, s.ok) (hl1 : sent.length ≤ 1048576) (hl2 : got.length ≤ 1048576) (B n : Nat) (w : World) (v1 v2 : Value) (hB : B < w.heap.size)
    (h1 : VR (fun _ => none) (IB B w) w.heap (.ep [sentsA got]) v1) (h2 : VR (fun _ => none) (IB B w) w.heap (.ep [sentsA sent]) v2) :
    SeqStopsK Fence.wide n Try.prog 51 #[v1, v2] (fun x : Nat × Int => #[.int .i64 x.1, .int .i64 x.2]) (KeepC B) (fun xs => xs = placesL sent got 0 0) (fun pre => pre <+: placesL sent got 0 0) got.length w := by
  intro l J Jx W hW hJ hJx hY h0
  refine callsIn_of_wp Try.func51 rfl trivial ?_ rfl
  have hBW : B < W.heap.size := Nat.lt_of_lt_of_le hB hW.size
  have kW : KeepC B w W := ⟨hW.size, fun k c e fz hk => ⟨c, fz, by rw [hW.block k (Array.getElem?_eq_some_iff.1 hk).1]; exact hk, rfl, fun _ => ⟨rfl, rfl⟩⟩⟩
  have e00 : EB B 27 w (enterEnv [.fn (.yield l) [] [], .ep [sentsA got], .ep [sentsA sent]]) { tmps := (#[.func (.yield l) #[] #[]] ++ #[v1, v2]) ++ Array.replicate (Try.f51.ntmps - (#[.func (.yield l) #[] #[]] ++ #[v1, v2] : Array Value).size) undef, defers := [] } := by
    refine enter_rel ⟨rfl, fun i x hx => ?_⟩ rfl
    rcases i with _ | _ | _ | i
    · simp at hx; subst hx; exact .fn rfl rfl (fun i x h => by simp at h) (fun i x h => by simp at h)
    · simp at hx; subst hx; exact h1
    · simp at hx; subst hx; exact h2
    · simp at hx
  have e0 := e00.keep kW
  -- the first two regions
  refine wpIn_seq ?_
  refine scode_inB (Q := fun e env _ => e = .normal ∧ env 0 = .fn (.yield l) [] [] ∧ env 1 = .ep [sentsA got] ∧ env 2 = .ep [sentsA sent] ∧ env 4 = .sc (.int .i64 (0 : Nat))) (scode_region (by kernel_rfl) (by simp [go_sem])) e0 ?_
  rintro e a1 w1 ⟨env1, H1, ρ1, I1, ⟨rfl, g0, g1, g2, g4⟩, hr1, he1, hx1⟩
  have J1 : J [] w1 := hJ _ _ _ none h0 hx1.grownB (fun r h => by cases h)
  have hB1 : B < w1.heap.size := Nat.lt_of_lt_of_le hBW hx1.size
  have f1 := EB.only [0, 1, 2, 4] hBW hx1 hr1 he1 (by intro k hk; simp at hk; rcases hk with rfl | rfl | rfl | rfl <;> simp only [g0, g1, g2, g4] <;> simp [go_sem, sentsA_lt])
  have o0 : only [0, 1, 2, 4] env1 0 = .fn (.yield l) [] [] := (only_in (by decide)).trans g0
  have o1 : only [0, 1, 2, 4] env1 1 = .ep [sentsA got] := (only_in (by decide)).trans g1
  have o2 : only [0, 1, 2, 4] env1 2 = .ep [sentsA sent] := (only_in (by decide)).trans g2
  have o4 : only [0, 1, 2, 4] env1 4 = .sc (.int .i64 (0 : Nat)) := (only_in (by decide)).trans g4
  clear he1 hr1
  show Code.wpIn _ _ _ _ _ _ _
  refine wpIn_seq ?_
  refine scode_inB (Q := fun e env _ => e = .normal ∧ P51 sent got l 0 0 env) (scode_region (by kernel_rfl) (by simp [go_sem, o0, o1, o2, o4, P51, sentsA])) f1 ?_
  rintro e a2 w2 ⟨env2, H2, ρ2, I2, ⟨rfl, hp2⟩, hr2, he2, hx2⟩
  show Code.wpIn _ _ _ _ _ _ _
  have J2 : J [] w2 := hJ _ _ _ none J1 hx2.grownB (fun r h => by cases h)
  have hB2 : B < w2.heap.size := Nat.lt_of_lt_of_le hB1 hx2.size
  have lt51 : ∀ {i at_ : Nat} {env : Env}, P51 sent got l i at_ env → ∀ k ∈ [0, 1, 2, 4, 8, 9, 10], (env k).Lt 0 := by
    rintro i at_ env ⟨k0, k1, k2, k4, k8, k9, k10⟩ k hk
    simp at hk
    rcases hk with rfl | rfl | rfl | rfl | rfl | rfl | rfl <;> simp only [k0, k1, k2, k4, k8, k9, k10] <;> simp [go_sem, sentsA_lt]
  have only51 : ∀ {i at_ : Nat} {env : Env}, P51 sent got l i at_ env → P51 sent got l i at_ (only [0, 1, 2, 4, 8, 9, 10] env) := by
    rintro i at_ env ⟨k0, k1, k2, k4, k8, k9, k10⟩
    exact ⟨(only_in (by decide)).trans k0, (only_in (by decide)).trans k1, (only_in (by decide)).trans k2, (only_in (by decide)).trans k4, (only_in (by decide)).trans k8, (only_in (by decide)).trans k9, (only_in (by decide)).trans k10⟩
  refine wpIn_block ?_
  refine wpIn_loop (fun a w => ∃ pre i at_ env, EB B 27 w env a ∧ P51 sent got l i at_ env ∧ J pre w ∧ B < w.heap.size ∧ i ≤ got.length ∧ at_ ≤ sent.length ∧ placesL sent got 0 0 = pre ++ placesL sent (got.drop i) at_ i ∧ pre.length = i)
    (fun a _ => match a.tmps.getD 10 undef with | .int _ n => got.length - n.toNat | _ => 0)
    ⟨[], 0, 0, _, EB.only [0, 1, 2, 4, 8, 9, 10] hB1 hx2 hr2 he2 (lt51 hp2), only51 hp2, J2, hB2, Nat.zero_le _, Nat.zero_le _, rfl, rfl⟩ ?_
  rintro a w ⟨pre, i, at_, env, he, hp, hJw, hBw, hi, hat, hpl, hlen⟩
  have hmu : (match a.tmps.getD 10 undef with | .int _ n => got.length - n.toNat | _ => 0) = got.length - i := by
    have := he.val 10
    rw [hp.2.2.2.2.2.2] at this
    rw [this.eq_sc]
    simp
  rw [hmu]
  clear hmu
  refine wpIn_seq ?_
  refine scode_inB (Q := fun e env _ => e = .normal ∧ P51 sent got l i at_ env ∧ env 11 = .sc (.bool (decide (i < got.length)))) (scode_region (by kernel_rfl) (by
    obtain ⟨k0, k1, k2, k4, k8, k9, k10⟩ := hp
    simp [go_sem, P51, k0, k1, k2, k4, k8, k9, k10])) he ?_
  rintro e a3 w3 ⟨env3, H3, ρ3, I3, ⟨rfl, hp3, g11⟩, hr3, he3, hx3⟩
  show Code.wpIn _ _ _ _ _ _ _
  have J3 : J pre w3 := hJ _ _ _ none hJw hx3.grownB (fun r h => by cases h)
  have hB3 : B < w3.heap.size := Nat.lt_of_lt_of_le hBw hx3.size
  have f3 := EB.only [0, 1, 2, 4, 8, 9, 10] hBw hx3 hr3 he3 (lt51 hp3)
  have p3 := only51 hp3
  have c11 : a3.eval (.tmp 11) = .bool (decide (i < got.length)) := by
    have := he3.eval (.tmp 11)
    rw [show aev env3 (.tmp 11) = env3 11 from rfl, g11] at this
    exact this.eq_sc
  clear he3 hr3 hp3 g11
  refine wpIn_seq ?_
  refine wpIn_cond_split c11 (fun hb => ?_) (fun hb => ?_)
  · refine wpIn_skip ?_
    show Code.wpIn _ _ _ _ _ _ _
    simp only [decide_eq_true_eq] at hb
    obtain ⟨d, r, e1, e2, e3⟩ := drop_cons hb
    have hd : d.ok := hgot d (List.mem_of_getElem? e3)
    have hrow : ((sentsV got).drop (i * 3)).take 3 = d.cells := by rw [sentsV_drop, e1]; simp [sentsV, Sn.cells]
    have hle : 3 ≤ got.length * 3 - i * 3 := by omega
    refine wpIn_seq ?_
    refine wpIn_block ?_
    refine wpIn_seq ?_
    refine scode_inB (Q := fun e env H => e = .normal ∧ P51 sent got l i at_ env ∧ env 5 = .sc (.int .i64 i) ∧ env 6 = .ptr 0 0 ∧ H.get 0 = some d.cells) (scode_region (by kernel_rfl) (by
      obtain ⟨k0, k1, k2, k4, k8, k9, k10⟩ := p3
      simp [go_sem, P51, k0, k1, k2, k4, k8, k9, k10, sentsA, sentsV_len, hb, hrow, hle, Sn.cells, bytesA])) f3 ?_
    rintro e a4 w4 ⟨env4, H4, ρ4, I4, ⟨rfl, hp4, g5, g6, gH⟩, hr4, he4, hx4⟩
    show Code.wpIn _ _ _ _ _ _ _
    obtain ⟨p, hpp⟩ : ∃ p, placeL (sent.drop at_) at_ d = p := ⟨_, rfl⟩
    have hcall := place_s sent d (at_ : Int) hsent (by unfold maxLen; omega) hd (by omega)
    rw [Int.toNat_natCast, hpp] at hcall
    have hrange := placeL_range d (sent.drop at_) at_
    rw [hpp, List.length_drop] at hrange
    refine wpIn_seq ?_
    refine wpIn_wide.2 ((show SCode Try.prog 27 _ (fun e env _ => e = .normal ∧ P51 sent got l i at_ env ∧ env 5 = .sc (.int .i64 i) ∧ env 7 = .sc (.int .i64 p)) env4 H4 from scode_region (by kernel_rfl) (by
      obtain ⟨k0, k1, k2, k4, k8, k9, k10⟩ := hp4
      simp [go_sem, P51, k0, k1, k2, k4, k8, k9, k10, g5, g6, gH, sentsA]
      exact ⟨H4, scalls_frame hcall (by simp [go_sem]; exact ⟨sentsA_lt _ _, cells_lt _ _⟩) (by simp [go_sem]) _⟩)) ρ4 I4 w4 a4 _ hr4 he4 ?_)
    rintro e a5 w5 ⟨env5, H5, ρ5, I5, ⟨rfl, hp5, m5, m7⟩, hr5, he5, hx5⟩
    show Code.wpIn _ _ _ _ _ _ _
    have hx5' := hx4.trans hx5
    have J5 : J pre w5 := hJ _ _ _ none J3 hx5'.grownB (fun r h => by cases h)
    have hB5 : B < w5.heap.size := Nat.lt_of_lt_of_le hB3 hx5'.size
    have f5 := EB.only [0, 1, 2, 4, 8, 9, 10, 5, 7] hB3 hx5' hr5 he5 (by
      intro k hk
      have := lt51 hp5 k
      simp at hk this
      rcases hk with h | h | h | h | h | h | h | rfl | rfl
      · exact this (.inl h)
      · exact this (.inr (.inl h))
      · exact this (.inr (.inr (.inl h)))
      · exact this (.inr (.inr (.inr (.inl h))))
      · exact this (.inr (.inr (.inr (.inr (.inl h)))))
      · exact this (.inr (.inr (.inr (.inr (.inr (.inl h))))))
      · exact this (.inr (.inr (.inr (.inr (.inr (.inr h))))))
      · rw [m5]; exact .sc _
      · rw [m7]; exact .sc _)
    obtain ⟨env6, henv6⟩ : ∃ env6, only [0, 1, 2, 4, 8, 9, 10, 5, 7] env5 = env6 := ⟨_, rfl⟩
    have p6 : P51 sent got l i at_ env6 := by
      obtain ⟨k0, k1, k2, k4, k8, k9, k10⟩ := hp5
      rw [← henv6]
      exact ⟨(only_in (by decide)).trans k0, (only_in (by decide)).trans k1, (only_in (by decide)).trans k2, (only_in (by decide)).trans k4, (only_in (by decide)).trans k8, (only_in (by decide)).trans k9, (only_in (by decide)).trans k10⟩
    have n5 : env6 5 = .sc (.int .i64 i) := by rw [← henv6]; exact (only_in (by decide)).trans m5
    have n7 : env6 7 = .sc (.int .i64 p) := by rw [← henv6]; exact (only_in (by decide)).trans m7
    rw [henv6] at f5
    clear he5 hr5 hp5 m5 m7 henv6
    obtain ⟨k0, k1, k2, k4, k8, k9, k10⟩ := p6
    refine wpIn_seq ?_
    refine wpIn_seq ?_
    refine wpIn_region_list ?_
    refine listIn_step (Rel.nothingB B w5) f5 (dstsB_ok (by kernel_rfl)) (by simp [go_sem]) (by simp [go_sem]; exact ⟨rfl, rfl⟩) (by simp) (by simp) ?_
    intro a6 w6 ρ6 I6 hr6 he6 hx6
    refine listIn_step hr6 he6 (dstsB_ok (by kernel_rfl)) (by simp [go_sem]) (by simp [go_sem]; exact ⟨rfl, rfl⟩) (by simp) (by simp) ?_
    intro a7 w7 ρ7 I7 hr7 he7 hx7
    refine listIn_step hr7 he7 (dstsB_ok (by kernel_rfl)) (by simp [go_sem]) (by simp [go_sem]; exact ⟨rfl, rfl⟩) (by simp) (by simp) ?_
    intro a8 w8 ρ8 I8 hr8 he8 hx8
    have hx58 := (hx6.trans hx7).trans hx8
    have J8 : J pre w8 := hJ _ _ _ none J5 hx58.grownB (fun r h => by cases h)
    have hB8 : B < w8.heap.size := Nat.lt_of_lt_of_le hB5 hx58.size
    have v19 : a8.eval (.tmp 19) = .func (.yield l) #[] #[] := by
      have := he8.eval (.tmp 19)
      rw [show aev _ (.tmp 19) = AV.fn (.yield l) [] [] from by simp [go_sem, k0]] at this
      generalize a8.eval (.tmp 19) = v at this
      cases this with
      | fn q1 q2 _ _ =>
        obtain rfl := Array.eq_empty_of_size_eq_zero q1.symm
        obtain rfl := Array.eq_empty_of_size_eq_zero q2.symm
        rfl
    have v20 : a8.eval (.tmp 20) = .int .i64 i := by
      have := he8.eval (.tmp 20)
      rw [show aev _ (.tmp 20) = AV.sc (.int .i64 i) from by simp [go_sem, n5]] at this
      exact this.eq_sc
    have v21 : a8.eval (.tmp 21) = .int .i64 p := by
      have := he8.eval (.tmp 21)
      rw [show aev _ (.tmp 21) = AV.sc (.int .i64 p) from by simp [go_sem, n7]] at this
      exact this.eq_sc
    have f8 : EB B 27 w8 (only [0, 1, 2, 4, 8, 9, 10, 7] env6) a8 := EB.of hB5 hx58 hr8 he8 _ (fun k => by
      by_cases hk : [0, 1, 2, 4, 8, 9, 10, 7].contains k = true
      · right
        rw [only_in hk]
        simp at hk
        rcases hk with rfl | rfl | rfl | rfl | rfl | rfl | rfl | rfl <;> simp [go_sem, k0, k1, k2, k4, k8, k9, k10, n7, sentsA_lt]
      · left
        simp only [only, hk]; rfl)
    refine listIn_yield v19 (by simpa [v20, v21] using hY pre (i, p) w8 J8 (by omega)) ?_
    rintro e w9 (⟨rfl, J9, K9⟩ | ⟨rfl, J9⟩)
    · refine ⟨_, rfl, ?_⟩
      have hB9 : B < w9.heap.size := Nat.lt_of_lt_of_le hB8 K9.size
      have f9 := (f8.keep K9).put (d := some 22) (x := .sc (.bool true)) (by simp) (.sc (.bool true))
      refine listIn_step (Rel.nothingB B w9) f9 (dstsB_ok (by kernel_rfl)) (by simp [go_sem]) (by simp [go_sem]; exact ⟨rfl, rfl⟩) (by simp) (by simp) ?_
      intro a10 w10 ρ10 I10 hr10 he10 hx10
      have J10 : J (pre ++ [((i : Nat), p)]) w10 := hJ _ _ _ none J9 hx10.grownB (fun r h => by cases h)
      have hB10 : B < w10.heap.size := Nat.lt_of_lt_of_le hB9 hx10.size
      have c23 : a10.eval (.tmp 23) = .bool false := by
        have := he10.eval (.tmp 23)
        rw [show aev _ (.tmp 23) = AV.sc (.bool false) from by simp [go_sem]] at this
        exact this.eq_sc
      have f10 : EB B 27 w10 (only [0, 1, 2, 4, 8, 9, 10, 7] env6) a10 := EB.of hB9 hx10 hr10 he10 _ (fun k => by
        by_cases hk : [0, 1, 2, 4, 8, 9, 10, 7].contains k = true
        · right
          rw [only_in hk]
          simp at hk
          rcases hk with rfl | rfl | rfl | rfl | rfl | rfl | rfl | rfl <;> simp [go_sem, only, k0, k1, k2, k4, k8, k9, k10, n7, sentsA_lt]
        · left
          simp only [only, hk]; rfl)
      show Code.wpIn _ _ _ _ _ _ _
      refine wpIn_cond_false c23 (wpIn_skip ?_)
      show Code.wpIn _ _ _ _ _ _ _
      -- at = place + 1
      have hw1 : IntKind.i64.wrap (p + 1) = (((p + 1).toNat : Nat) : Int) := by
        rw [IntWalk.i64_in _ (by rcases hrange with h | ⟨k, q1, q2⟩ <;> omega)]
        rcases hrange with h | ⟨k, q1, q2⟩ <;> omega
      have hat2 : (p + 1).toNat ≤ sent.length := by rcases hrange with h | ⟨k, q1, q2⟩ <;> omega
      have hw2 : IntKind.i64.wrap ((i : Int) + 1) = ((i + 1 : Nat) : Int) := by
        rw [IntWalk.i64_in _ (by omega)]; rfl
      have o0 : only [0, 1, 2, 4, 8, 9, 10, 7] env6 0 = _ := (only_in (by decide)).trans k0
      have o1 : only [0, 1, 2, 4, 8, 9, 10, 7] env6 1 = _ := (only_in (by decide)).trans k1
      have o2 : only [0, 1, 2, 4, 8, 9, 10, 7] env6 2 = _ := (only_in (by decide)).trans k2
      have o7 : only [0, 1, 2, 4, 8, 9, 10, 7] env6 7 = _ := (only_in (by decide)).trans n7
      have o8 : only [0, 1, 2, 4, 8, 9, 10, 7] env6 8 = _ := (only_in (by decide)).trans k8
      have o9 : only [0, 1, 2, 4, 8, 9, 10, 7] env6 9 = _ := (only_in (by decide)).trans k9
      have o10 : only [0, 1, 2, 4, 8, 9, 10, 7] env6 10 = _ := (only_in (by decide)).trans k10
      refine scode_inB (Q := fun e env _ => e = .normal ∧ P51 sent got l i (p + 1).toNat env) (scode_region (by kernel_rfl) (by
        simp [go_sem, P51, o0, o1, o2, o7, o8, o9, o10, hw1])) f10 ?_
      rintro e a11 w11 ⟨env11, H11, ρ11, I11, ⟨rfl, hp11⟩, hr11, he11, hx11⟩
      have J11 : J (pre ++ [((i : Nat), p)]) w11 := hJ _ _ _ none J10 hx11.grownB (fun r h => by cases h)
      have hB11 : B < w11.heap.size := Nat.lt_of_lt_of_le hB10 hx11.size
      have f11 := EB.only [0, 1, 2, 4, 8, 9, 10] hB10 hx11 hr11 he11 (lt51 hp11)
      have p11 := only51 hp11
      show Code.wpIn _ _ _ _ _ _ _
      refine scode_inB (Q := fun e env _ => e = .normal ∧ P51 sent got l (i + 1) (p + 1).toNat env) (scode_region (by kernel_rfl) (by
        obtain ⟨k0, k1, k2, k4, k8, k9, k10⟩ := p11
        simp [go_sem, P51, k0, k1, k2, k4, k8, k9, k10, hw2])) f11 ?_
      rintro e a12 w12 ⟨env12, H12, ρ12, I12, ⟨rfl, hp12⟩, hr12, he12, hx12⟩
      have J12 : J (pre ++ [((i : Nat), p)]) w12 := hJ _ _ _ none J11 hx12.grownB (fun r h => by cases h)
      have hB12 : B < w12.heap.size := Nat.lt_of_lt_of_le hB11 hx12.size
      have f12 := EB.only [0, 1, 2, 4, 8, 9, 10] hB11 hx12 hr12 he12 (lt51 hp12)
      have p12 := only51 hp12
      refine ⟨⟨pre ++ [((i : Nat), p)], i + 1, (p + 1).toNat, _, f12, p12, J12, hB12, by omega, hat2, ?_, by simp [hlen]⟩, ?_⟩
      · rw [hpl, e1, e2, placesL, hpp, List.append_assoc]; rfl
      · have := f12.val 10
        rw [p12.2.2.2.2.2.2] at this
        rw [this.eq_sc]
        simp
        omega
    · refine ⟨_, rfl, ?_⟩
      have f9 : EB B 27 w9 (Env.upd (fun _ => AV.top) (some 22) (.sc (.bool false))) (a8.put (some 22) (.bool false)) := ERel.put (env := fun _ => AV.top) ⟨f8.size, f8.defers, fun _ => .top _⟩ (by simp) (.sc _)
      refine listIn_step (Rel.nothingB B w9) f9 (dstsB_ok (by kernel_rfl)) (by simp [go_sem]) (by simp [go_sem]; exact ⟨rfl, rfl⟩) (by simp) (by simp) ?_
      intro a10 w10 ρ10 I10 hr10 he10 hx10
      have J10 : Jx (pre ++ [((i : Nat), p)]) w10 := hJx _ _ _ none J9 hx10.grownB (fun r h => by cases h)
      have c23 : a10.eval (.tmp 23) = .bool true := by
        have := he10.eval (.tmp 23)
        rw [show aev _ (.tmp 23) = AV.sc (.bool true) from by simp [go_sem]] at this
        exact this.eq_sc
      show Code.wpIn _ _ _ _ _ _ _
      refine wpIn_cond_true c23 (wpIn_ret ?_)
      refine ⟨he10.defers, .tuple #[], by kernel_rfl, ⟨_, rfl⟩, .inr ⟨_, ?_, J10⟩⟩
      rw [hpl, e1, placesL, hpp]
      exact ⟨placesL sent r (p + 1).toNat (i + 1), by rw [List.append_assoc]; rfl⟩
  · refine wpIn_exit ?_
    simp only [Exit.then, Exit.inBlock, if_true]
    simp only [decide_eq_false_iff_not] at hb
    obtain rfl : i = got.length := by omega
    rw [List.drop_eq_nil_of_le (Nat.le_refl _)] at hpl
    refine ⟨f3.defers, .tuple #[], by kernel_rfl, ⟨_, rfl⟩, .inl ⟨_, rfl, ?_⟩⟩
    rw [hpl]
    simpa [placesL] using J3
end Go.Proofs.Ytmnbicoeahlpcaa
