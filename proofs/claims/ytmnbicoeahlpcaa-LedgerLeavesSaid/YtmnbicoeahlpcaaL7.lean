/- Contract: ledger.First. -/
import Derived.Test.YtmnbicoeahlpcaaL6
import Derived.Shelf.Abstract
import Derived.Shelf.RegionOpen
import Derived.WalkKit
import Derived.OwnWalkIn
import Derived.TacticsInMore
import Derived.LoopNIn
import Derived.LoopIn
set_option maxRecDepth 20000
noncomputable section
namespace Go.Proofs.Ytmnbicoeahlpcaa
open Go Go.Fl Go.Proofs Go.RowKit Go.Shelf
attribute [local go_sem] Oper.semAt_some

theorem cell_new_l (W : World) (v : Value) (t : TypeId) : (W.alloc (.cells #[v] t)).cell? ⟨W.heap.size, 0, none⟩ = some v ∧ (W.alloc (.cells #[v] t)).frozen? ⟨W.heap.size, 0, none⟩ = false := by
  have h := World.alloc_heap_new W (.cells #[v] t)
  constructor
  · unfold World.cell?; simp only [h]; rfl
  · unfold World.frozen?; simp only [h]; rfl
theorem cell_alloc_l {W : World} {a : Addr} {v : Value} (o : Obj) (h : W.cell? a = some v) : (W.alloc o).cell? a = some v := cell_kept h (World.grownBy_alloc W o none) (fun r e => by cases e)
theorem frozen_alloc_l {W : World} {a : Addr} {v : Value} (o : Obj) (h : W.cell? a = some v) (hf : W.frozen? a = false) : (W.alloc o).frozen? a = false := (frozen_kept h (World.grownBy_alloc W o none) (fun r e => by cases e)).trans hf

theorem firstL_none (a : List Sn) : ∀ (b : List Sn) (at_ i : Nat), (∀ y ∈ placesL a b at_ i, 0 ≤ y.2) → firstL a b at_ i = -1
  | [], _, _, _ => rfl
  | d :: r, at_, i, h => by
    rw [placesL] at h
    have h1 := h _ List.mem_cons_self
    simp only at h1
    rw [firstL, if_neg (by omega)]
    have e : (placeL (a.drop at_) at_ d + 1).toNat = (placeL (a.drop at_) at_ d).toNat + 1 := by omega
    rw [← e]
    exact firstL_none a r _ _ fun y hy => h y (List.mem_cons_of_mem _ hy)

theorem firstL_some (a : List Sn) (x : Nat × Int) : ∀ (b : List Sn) (at_ i : Nat) (pre : List (Nat × Int)), pre ++ [x] <+: placesL a b at_ i → (∀ y ∈ pre, 0 ≤ y.2) → x.2 < 0 → firstL a b at_ i = (x.1 : Int)
  | [], at_, i, pre, h, _, _ => by
    rw [placesL] at h
    have := h.length_le
    simp at this
  | d :: r, at_, i, pre, h, hp, hx => by
    rw [placesL] at h
    cases pre with
    | nil =>
      obtain ⟨t, ht⟩ := h
      simp at ht
      obtain ⟨ht, _⟩ := ht
      subst ht
      rw [firstL, if_pos hx]
    | cons y pre =>
      rw [List.cons_append, List.cons_prefix_cons] at h
      obtain ⟨rfl, h⟩ := h
      have h1 := hp _ List.mem_cons_self
      simp only at h1
      rw [firstL, if_neg (by omega)]
      have e : (placeL (a.drop at_) at_ d + 1).toNat = (placeL (a.drop at_) at_ d).toNat + 1 := by omega
      rw [← e]
      exact firstL_some a x r _ _ pre h (fun y hy => hp y (List.mem_cons_of_mem _ hy)) hx

theorem places_in (F : Fence) (n : Nat) (h36 : F.fn 36) (hro : F.round = none) (a0 a1 : Option Addr) (l0 c0 l1 c1 : Nat) (w : World) :
    CallsIn F n Try.prog 36 #[.slice a0 l0 c0, .slice a1 l1 c1] w fun e W => e = .returned (.func (.func 51) #[] #[.pointer (some ⟨w.heap.size + 1, 0, none⟩), .pointer (some ⟨w.heap.size, 0, none⟩)]) ∧
      W = (w.alloc (.cells #[.slice a0 l0 c0] 23)).alloc (.cells #[.slice a1 l1 c1] 23) := by
  refine callsIn_of_wp Try.func36 rfl h36 ?_ hro
  simp only [Try.ntmps36, List.size_toArray, List.length_cons, List.length_nil, Nat.reduceAdd, Nat.reduceSub, Array.replicate_succ, Array.replicate_zero, List.push_toArray, List.append_toArray, List.nil_append, List.cons_append]
  gi_wp2
  exact ⟨rfl, _, results_tmp rfl _ _ _, rfl, rfl⟩

def Stops51 (F : Fence) (a b : List Sn) : Prop := ∀ (n : Nat) (w0 : World) (v1 v2 : Value) (B : Nat), B < w0.heap.size → VR (fun _ => none) (IB B w0) w0.heap (.ep [sentsA b]) v1 → VR (fun _ => none) (IB B w0) w0.heap (.ep [sentsA a]) v2 →
  SeqStopsK F n Try.prog 51 #[v1, v2] (fun x : Nat × Int => #[.int .i64 x.1, .int .i64 x.2]) (KeepC B) (fun xs => xs = placesL a b 0 0) (fun pre => pre <+: placesL a b 0 0) b.length w0

theorem first_in (a b : List Sn) (F : Fence) (hstops : Stops51 F a b) (h12 : F.fn 12) (h36 : F.fn 36) (h51 : F.fn 51) (hro : F.round = none) (ha : ∀ s ∈ a, s.ok) (hb : ∀ s ∈ b, s.ok) (hl1 : a.length ≤ 1048576) (hl2 : b.length ≤ 1048576) (a0 a1 : Option Addr) (l0 c0 l1 c1 : Nat) (w : World)
    (h0 : VR (fun _ => none) (fun cb => cb < w.heap.size) w.heap (sentsA a) (.slice a0 l0 c0)) (h1 : VR (fun _ => none) (fun cb => cb < w.heap.size) w.heap (sentsA b) (.slice a1 l1 c1)) :
    CallsIn F 5 Try.prog 12 #[.slice a0 l0 c0, .slice a1 l1 c1] w fun e W => e = .returned (.int .i64 (firstL a b 0 0)) ∧ Below w.heap.size w W := by
  refine callsIn_of_wp_marks Try.func12 rfl h12 ?_ hro
  simp only [Try.ntmps12, List.size_toArray, List.length_cons, List.length_nil, Nat.reduceAdd, Nat.reduceSub, Array.replicate_succ, Array.replicate_zero, List.push_toArray, List.append_toArray, List.nil_append, List.cons_append]
  gi_wp2_with (gi_at_call 36; refine (places_in F _ h36 hro _ _ _ _ _ _ _).mono ?_; rintro e w' ⟨rfl, rfl⟩)
  have k0 := cell_new_l w (.int .i64 (-1)) 3
  obtain ⟨W0, hW0⟩ : ∃ W0, ((w.alloc (.cells #[.int .i64 (-1)] 3)).alloc (.cells #[.slice a0 l0 c0] 23)).alloc (.cells #[.slice a1 l1 c1] 23) = W0 := ⟨_, rfl⟩
  have hB0 : Below w.heap.size w W0 := by rw [← hW0]; exact (((Below.refl _ w).alloc (Nat.le_refl _) _).alloc (by simp) _).alloc (by simp; omega) _
  have hsz : W0.heap.size = w.heap.size + 1 + 1 + 1 := by rw [← hW0]; simp
  have hcell : W0.cell? ⟨w.heap.size, 0, none⟩ = some (.int .i64 (-1)) := by rw [← hW0]; exact cell_alloc_l _ (cell_alloc_l _ k0.1)
  have hfrz : W0.frozen? ⟨w.heap.size, 0, none⟩ = false := by rw [← hW0]; exact frozen_alloc_l _ (cell_alloc_l _ k0.1) (frozen_alloc_l _ k0.1 k0.2)
  have b1 : W0.heap[w.heap.size + 1]? = some (.cells #[.slice a0 l0 c0] 23) := by
    have := World.alloc_heap_new (w.alloc (.cells #[.int .i64 (-1)] 3)) (.cells #[.slice a0 l0 c0] 23)
    rw [World.size_alloc] at this
    rw [← hW0]
    exact (Below.heap_alloc _ _ _ (by simp)).trans this
  have b2 : W0.heap[w.heap.size + 1 + 1]? = some (.cells #[.slice a1 l1 c1] 23) := by
    have := World.alloc_heap_new ((w.alloc (.cells #[.int .i64 (-1)] 3)).alloc (.cells #[.slice a0 l0 c0] 23)) (.cells #[.slice a1 l1 c1] 23)
    rw [World.size_alloc, World.size_alloc] at this
    rw [← hW0]
    exact this
  have lift : ∀ {x : AV} {v : Value}, VR (fun _ => none) (fun cb => cb < w.heap.size) w.heap x v → VR (fun _ => none) (IB w.heap.size W0) W0.heap x v := by
    intro x v h
    refine h.cells.mono' (fun _ _ h => h) ?_ ?_ ?_
    · rintro cb ⟨q1, c, e, fz, q2⟩
      exact ⟨⟨by omega, by omega⟩, c, e, fz, by rw [hB0.block cb q1]; exact q2⟩
    · rintro cb ⟨q1, _⟩
      exact hB0.block cb q1
    · intro cb c e fz hc
      exact ⟨c, fz, by rw [hB0.block cb (Array.getElem?_eq_some_iff.1 hc).1]; exact hc, rfl⟩
  have e1 : VR (fun _ => none) (IB w.heap.size W0) W0.heap (.ep [sentsA b]) (.pointer (some ⟨w.heap.size + 1 + 1, 0, none⟩)) :=
    .ep ⟨⟨by omega, by omega⟩, _, _, _, b2⟩ b2 (by simp) (fun i x hx => by
      rcases i with _ | i
      · simp at hx; subst hx; exact lift h1
      · simp at hx)
  have e0 : VR (fun _ => none) (IB w.heap.size W0) W0.heap (.ep [sentsA a]) (.pointer (some ⟨w.heap.size + 1, 0, none⟩)) :=
    .ep ⟨⟨by omega, by omega⟩, _, _, _, b1⟩ b1 (by simp) (fun i x hx => by
      rcases i with _ | i
      · simp at hx; subst hx; exact lift h0
      · simp at hx)
  rw [hW0]
  refine wpIn_rangeFunc_ownF (α := Nat × Int) hro (by omega) (gf := 51) (lb := #[.pointer (some ⟨w.heap.size + 1 + 1, 0, none⟩), .pointer (some ⟨w.heap.size + 1, 0, none⟩)]) rfl h51 (enters_of Try.func51 (by kernel_rfl) rfl)
    (hstops _ W0 _ _ w.heap.size (by omega) e1 e0) KeepC.trans (fun W l o o' _ h ho _ => KeepC.putObj W l o o' h ho) (Below.refl _ _) (fun _ => rfl)
    (fun pre W => ((∀ y ∈ pre, 0 ≤ y.2) ∧ W.cell? ⟨w.heap.size, 0, none⟩ = some (.int .i64 (-1)) ∧ W.frozen? ⟨w.heap.size, 0, none⟩ = false) ∧ Below w.heap.size w W)
    (fun c pre W => (c = .exit 0 ∧ ∃ pre' x, pre = pre' ++ [x] ∧ (∀ y ∈ pre', 0 ≤ y.2) ∧ x.2 < 0 ∧ W.cell? ⟨w.heap.size, 0, none⟩ = some (.int .i64 x.1)) ∧ Below w.heap.size w W)
    (OwnFrom.and (Own.from (fun s A B row hs hg hr => ⟨hs.1, cell_kept hs.2.1 hg hr, (frozen_kept hs.2.1 hg hr).trans hs.2.2⟩) _) (ownFrom_below (Nat.le_refl _) (by omega)))
    (fun c => OwnFrom.and (Own.from (fun s A B row hs hg hr => ⟨hs.1, by obtain ⟨p, x, q1, q2, q3, q4⟩ := hs.2; exact ⟨p, x, q1, q2, q3, cell_kept q4 hg hr⟩⟩) _) (ownFrom_below (Nat.le_refl _) (by omega)))
    ⟨⟨by simp, hcell, hfrz⟩, hB0⟩
    (fun x => { tmps := #[.slice a0 l0 c0, .slice a1 l1 c1, undef, undef, .int .i64 0, .pointer (some ⟨w.heap.size, 0, none⟩), .int .i64 x.1, .int .i64 x.2, .slice a0 l0 c0, .slice a1 l1 c1, .func (.func 51) #[] #[.pointer (some ⟨w.heap.size + 1 + 1, 0, none⟩), .pointer (some ⟨w.heap.size + 1, 0, none⟩)], .int .i64 x.1, .int .i64 x.2, undef, undef, undef, undef], defers := [] }) ?assign ?body ?done ?stop
  case assign =>
    intro l x W K hK
    gi_wp2
    exact hK
  case body =>
    rintro l pre x W ⟨⟨hp, hc, hf⟩, hB⟩ _
    gi_wp2
    · rename_i hx
      exact ⟨KeepsOthers.setCell _ _ _, ⟨rfl, pre, x.1, x.2, rfl, fun u v h => hp (u, v) h, by simpa using hx, World.cell?_setCell_same' _ _ _ (by rw [hc]; rfl)⟩, hB.setCell (p := ⟨w.heap.size, 0, none⟩) (Nat.le_refl _) _⟩
    · rename_i hx
      exact ⟨KeepsOthers.refl _, KeepC.refl _ _, ⟨fun u v h => (List.mem_append.1 h).elim (hp (u, v)) (fun e => by simp at e; have := congrArg Prod.snd e; simp at this; subst this; simpa using hx), hc, hf⟩, hB⟩
  case done =>
    rintro D ys W hD rfl ⟨⟨hp, hc, hf⟩, hB⟩ hK
    gi_wp2
    refine ⟨by simp, .inl ⟨_, _, rfl, run_takeDeferred hK, ?_⟩⟩
    exact ⟨_, results_tmp rfl _ _ _, by rw [firstL_none a b 0 0 hp]; rfl, hB.trans (belowK_b (w := w) (Nat.le_refl _) W D _ _ (by omega) hK rfl rfl)⟩
  case stop =>
    rintro D c pre W hD hpre ⟨⟨rfl, pre', x, rfl, hp, hx, hc⟩, hB⟩ hK
    gi_wp2
    refine ⟨by simp, .inl ⟨_, _, rfl, run_takeDeferred hK, ?_⟩⟩
    exact ⟨_, results_tmp rfl _ _ _, by rw [firstL_some a x b 0 0 pre' hpre hp hx]; rfl, hB.trans (belowK_b (w := w) (Nat.le_refl _) W D _ _ (by omega) hK rfl rfl)⟩

theorem first_s (a b : List Sn) (ha : ∀ s ∈ a, s.ok) (hb : ∀ s ∈ b, s.ok) (hl1 : a.length ≤ 1048576) (hl2 : b.length ≤ 1048576) : SCalls Try.prog 12 [sentsA a, sentsA b] Heap.empty (.int (firstL a b 0 0)) Heap.empty := by
  refine ⟨Try.call12, Nat.le_refl _, fun ρ I w cargs hrel hargs => ?_⟩
  have hρ : ∀ b, ρ b = none := fun b => by
    cases hb : ρ b with
    | none => rfl
    | some p => exact absurd (hrel.rng b p hb) (Nat.not_lt_zero _)
  obtain ⟨l⟩ := cargs
  obtain ⟨hlen, hval⟩ := hargs
  match l, hlen, hval with
  | [v0, v1], _, hval =>
    have g : ∀ {x : AV} {v : Value}, x.Lt 0 → VR ρ I w.heap x v → VR (fun _ => none) (fun cb => cb < w.heap.size) w.heap x v := by
      intro x v hx h
      have := h.lower hx
      rw [below_zero] at this
      exact this.mono' (fun b p hb => by cases hb) hrel.irng (fun _ _ => rfl) (fun _ c _ fz h => ⟨c, fz, h, rfl⟩)
    have h0 := g (sentsA_lt a 0) (hval 0 _ rfl)
    have h1 := g (sentsA_lt b 0) (hval 1 _ rfl)
    obtain ⟨a0, l0, c0, rfl⟩ : ∃ a0 l0 c0, v0 = .slice a0 l0 c0 := by
      have h0' : VR (fun _ => none) (fun cb => cb < w.heap.size) w.heap (sentsA a) v0 := h0
      unfold sentsA at h0'
      generalize a.length = n at h0'
      generalize sentsV a = cs at h0'
      cases h0' with
      | vs0 _ => exact ⟨_, _, _, rfl⟩
      | vs _ _ _ _ _ _ => exact ⟨_, _, _, rfl⟩
    obtain ⟨a1, l1, c1, rfl⟩ : ∃ a1 l1 c1, v1 = .slice a1 l1 c1 := by
      have h1' : VR (fun _ => none) (fun cb => cb < w.heap.size) w.heap (sentsA b) v1 := h1
      unfold sentsA at h1'
      generalize b.length = n at h1'
      generalize sentsV b = cs at h1'
      cases h1' with
      | vs0 _ => exact ⟨_, _, _, rfl⟩
      | vs _ _ _ _ _ _ => exact ⟨_, _, _, rfl⟩
    refine (callsIn_wide.1 (first_in a b Fence.wide (fun n w0 v1 v2 B hB h1 h2 => places1_stops a b ha hb hl1 hl2 B n w0 v1 v2 hB h1 h2) trivial trivial trivial rfl ha hb hl1 hl2 a0 a1 l0 c0 l1 c1 w h0 h1)).mono ?_
    rintro e w' ⟨rfl, hB⟩
    refine ⟨_, ρ, I, rfl, .sc _, ⟨?_, ?_, hrel.rng, ?_, fun cb hcb => Nat.lt_of_lt_of_le (hrel.irng cb hcb) hB.size⟩, ?_⟩
    · intro b cs hb; rw [get_empty] at hb; cases hb
    · intro b b' cs cs' cb base base' hb; rw [get_empty] at hb; cases hb
    · intro b cb base hb; rw [hρ b] at hb; cases hb
    · exact { rho := fun _ _ h => h
              imm := fun _ h => h
              size := hB.size
              kept := fun cb hcb => hB.block cb (hrel.irng cb hcb)
              blocks := fun cb c e fz hc => ⟨c, fz, by rw [hB.block cb (Array.getElem?_eq_some_iff.1 hc).1]; exact hc, rfl⟩
              frame := fun cb hlt _ => hB.block cb hlt
              newI := fun _ h => .inl h
              newR := fun _ _ _ h => .inl h
              os := hB.os
              tape := hB.tape
              output := hB.output }
end Go.Proofs.Ytmnbicoeahlpcaa
