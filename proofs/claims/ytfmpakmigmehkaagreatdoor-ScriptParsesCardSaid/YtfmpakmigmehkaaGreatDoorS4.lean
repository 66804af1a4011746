/- Contracts: a strings.Builder: copyCheck, WriteString, WriteByte, Len. -/
import Derived.Test.YtfmpakmigmehkaaGreatDoorS3
import Derived.Test.YtfmpakmigmehkaaGreatDoorFl43
import Derived.Shelf.Strings.Builder1
import Derived.Shelf.Strconv.Itoa3
set_option linter.unusedVariables false
set_option linter.unusedSimpArgs false
set_option maxRecDepth 20000
noncomputable section S4S
namespace Go.Proofs.YtfmpakmigmehkaaGreatDoor
open Go Go.Fl Go.Proofs
open Go.RowKit
/-- A builder in block b that holds these bytes. -/
def Bld (H : Heap) (b : Nat) (l : List UInt8) : Prop := ∃ p x bo, H.get b = some [p, .ty 5 1 x] ∧ (p = .sc (.pointer none) ∨ p = .ptr b 0) ∧ grown H 1 x = some (l.length, bV l, bo) ∧ bo ≠ some b
theorem bld_fresh {H : Heap} {b : Nat} (h : H.get b = some [.sc (.pointer none), .ty 5 1 .nil]) : Bld H b [] := ⟨_, _, none, h, .inl rfl, rfl, by simp⟩
theorem Bld.alloc {H : Heap} {b : Nat} {l : List UInt8} (h : Bld H b l) (cs : List AV) : Bld (H.alloc cs) b l := by
  obtain ⟨p, x, bo, h1, h2, h3, h4⟩ := h
  refine ⟨p, x, bo, ?_, h2, grown_alloc h3, h4⟩
  rw [Heap.get_alloc, if_neg (by have := Heap.lt_of_get h1; omega)]
  exact h1
theorem Bld.lt {H : Heap} {b : Nat} {l : List UInt8} (h : Bld H b l) : b < H.next := by
  obtain ⟨p, x, bo, h1, _⟩ := h
  exact Heap.lt_of_get h1
theorem grown_Lt {H : Heap} {x : AV} {n sz : Nat} {cs : List AV} {bo : Option Nat} (h : grown H sz x = some (n, cs, bo)) : x.Lt H.next := by
  rcases grown_cases h with ⟨rfl, _⟩ | ⟨b, off, rfl, _, c, h1, _⟩
  · exact .sc _
  · exact .ms (Heap.lt_of_get h1)

theorem copyCheck_s {H : Heap} {b : Nat} {p v : AV} (hb : H.get b = some [p, v]) (hp : p = .sc (.pointer none) ∨ p = .ptr b 0) : SCalls Tryz.prog 51 [.ty 75 2 (.ptr b 0)] H (.tup []) (H.set b [.ptr b 0, v]) := by
  refine ⟨Tryz.call51, Nat.le_refl _, fun ρ I w cargs hrel hargs => ?_⟩
  obtain ⟨u, rfl⟩ : ∃ u, cargs = #[u] := by
    have := hargs.1
    match cargs, this with
    | ⟨[u]⟩, _ => exact ⟨u, rfl⟩
  have hu := hargs.2 0 _ rfl
  simp at hu
  cases hu with
  | ty k1 k2 =>
  cases k1 with
  | ptr hρ =>
  rename_i cb base
  obtain ⟨e0, c, fz, k3, k4⟩ := k2
  obtain rfl : base = 0 := by omega
  rcases hrel.live b _ hb with ⟨h1, _⟩ | ⟨cb', base', c', e, h1, h2, ⟨fz3, hf3, h3⟩, h4, h5⟩
  · rw [hρ] at h1; cases h1
  rw [hρ] at h1
  simp only [Option.some.injEq, Prod.mk.injEq] at h1
  obtain ⟨rfl, rfl⟩ := h1
  rw [h3] at k3
  simp only [Option.some.injEq, Obj.cells.injEq] at k3
  obtain ⟨rfl, rfl, rfl⟩ := k3
  have hlt : cb < w.heap.size := (Array.getElem?_eq_some_iff.1 h3).1
  have hc0 : w.cell? ⟨cb, 0, none⟩ = some (c'.getD 0 Go.undef) := by
    have : 0 < c'.size := by omega
    simp [World.cell?, h3, this]
  have v0 := h5 0 p rfl
  have v1 := h5 1 v rfl
  rw [Nat.zero_add] at v0 v1
  rcases hp with rfl | rfl
  · have hcv := v0.eq_sc
    rw [hcv] at hc0
    have hsh : w.shape? cb = some (75, 2) := by simp [World.shape?, h3, k4]
    have hfz : w.frozen? ⟨cb, 0, none⟩ = false := by
      have := hf3 0 (by omega)
      simp only [World.frozen?, h3]
      rw [Bool.eq_false_iff]
      intro h
      simp only [Bool.and_eq_true, decide_eq_true_eq] at h
      exact this h
    refine (Any.Builder_copyCheck_fresh lay240 bx.toX72 cb w hc0 hsh hfz).mono ?_
    rintro e w' ⟨rfl, rfl⟩
    have hset : ∀ k, k ≠ cb → (w.setCell ⟨cb, 0, none⟩ (.pointer (some ⟨cb, 0, none⟩))).heap[k]? = w.heap[k]? := by
      intro k hk
      simp only [World.setCell, Array.getElem?_modify]
      rw [if_neg (fun e => hk e.symm)]
    have hset2 : (w.setCell ⟨cb, 0, none⟩ (.pointer (some ⟨cb, 0, none⟩))).heap[cb]? = some (.cells (c'.setIfInBounds 0 (.pointer (some ⟨cb, 0, none⟩))) 75 fz3) := by
      simp only [World.setCell, Array.getElem?_modify, if_true, h3, Option.map_some]
      rfl
    obtain ⟨r5, x5⟩ := rel_write (w1 := w.setCell ⟨cb, 0, none⟩ (.pointer (some ⟨cb, 0, none⟩))) hrel (cs' := [.ptr b 0, v]) (c' := c'.setIfInBounds 0 (.pointer (some ⟨cb, 0, none⟩))) hb hρ h2 hf3 h3 hset2 (by simp)
      (by simp [World.setCell]) hset rfl rfl rfl (by simpa using h4) (by
        intro i x hx'
        match i with
        | 0 =>
          simp at hx'
          subst hx'
          have : 0 < c'.size := by omega
          simp [this]
          exact .ptr (o := 0) hρ
        | 1 =>
          simp at hx'
          subst hx'
          have e1 : (c'.setIfInBounds 0 (.pointer (some ⟨cb, 0, none⟩))).getD (0 + 1) Go.undef = c'.getD 1 Go.undef := by
            simp [Array.getD_eq_getD_getElem?, Array.getElem?_setIfInBounds]
          rw [e1]; exact v1
        | i + 2 => simp at hx')
    exact ⟨_, ρ, I, rfl, .tup rfl (fun i x hx => by simp at hx), r5, x5⟩
  · cases hv0 : c'.getD 0 Go.undef with
    | pointer a =>
      rw [hv0] at v0 hc0
      cases v0 with
      | ptr hρ2 =>
      rw [hρ] at hρ2
      simp only [Option.some.injEq, Prod.mk.injEq] at hρ2
      obtain ⟨rfl, rfl⟩ := hρ2
      refine (Any.Builder_copyCheck_used lay240 bx.toX72 cb w hc0).mono ?_
      rintro e w' ⟨rfl, rfl⟩
      refine ⟨_, ρ, I, rfl, .tup rfl (fun i x hx => by simp at hx), ?_, Ext.refl _ _ _⟩
      refine hrel.weak (HW.set hb (.cons (.same _) (.cons (.same _) .nil)))
    | _ => rw [hv0] at v0; cases v0

theorem append_ty {P : Program} {H : Heap} {t u e : TypeId} {s x : AV} {n : Nat} : aappend P H t u (.ty e n s) x = none := by
  unfold aappend
  split
  · have hg : ∀ sz, grown H sz (.ty e n s) = none := fun _ => rfl
    simp only [hg, Option.bind_none]
    cases csz P _ with
    | none => rfl
    | some a => cases byt P _ with
      | none => rfl
      | some b => cases zeroC P _ with
        | none => rfl
        | some z => simp only [Option.bind_some]; cases source P H a u x <;> rfl
  · rfl

theorem bld_put {H : Heap} {b : Nat} {x : AV} {l r : List UInt8} {bo : Option Nat} {p : AV} (hb : H.get b = some [p, .ty 5 1 x]) (hg : grown H 1 x = some (l.length, bV l, bo)) (hbo : bo ≠ some b) :
    Bld ((H.regrow bo (bV l ++ bV r)).set b [.ptr b 0, .ty 5 1 (.ms H.next 0 (l.length + r.length) 1)]) b (l ++ r) := by
  have hlt := Heap.lt_of_get hb
  have g1 : (H.regrow bo (bV l ++ bV r)).get b = some [p, .ty 5 1 x] := get_regrow_other hb hbo
  refine ⟨.ptr b 0, .ms H.next 0 (l.length + r.length) 1, some H.next, ?_, .inr rfl, ?_, by intro e; cases e; omega⟩
  · rw [Heap.get_set, if_pos rfl, g1]; rfl
  · have := grown_after (H := H) (k := r.length) (new := bV r) hg (by rw [bV_len, Nat.mul_one])
    rw [← bV_app] at this
    rw [← bV_app, List.length_append]
    exact grown_set this (by intro e; cases e; omega)

theorem bld_cont {H : Heap} {b : Nat} {x p0 v : AV} {l r : List UInt8} {bo : Option Nat} (hb : H.get b = some [p0, v]) (hg : grown H 1 x = some (l.length, bV l, bo)) (k : Nat) (cs : List AV)
    (h : ((((H.set b [.ptr b 0, .ty 5 1 x]).regrow bo (bV l ++ bV r)).set b [.ptr b 0, .ty 5 1 (.ms H.next 0 (l.length + r.length) 1)])).get k = some cs) : H.get k = some cs ∨ ∀ y ∈ cs, y.Lt (H.next + 1) := by
  have hlt := Heap.lt_of_get hb
  rw [Heap.get_set] at h
  split at h
  · rename_i e
    right
    cases hh : ((H.set b [.ptr b 0, .ty 5 1 x]).regrow bo (bV l ++ bV r)).get k with
    | none => rw [hh] at h; cases h
    | some q =>
      rw [hh] at h; cases h
      intro y hy
      simp only [List.mem_cons, List.mem_nil_iff, or_false] at hy
      rcases hy with rfl | rfl
      · exact .ptr (by omega)
      · exact .ty (.ms (by omega))
  · rename_i hkb
    unfold Heap.regrow at h
    rw [Heap.get_alloc, Heap.delo_next] at h
    split at h
    · cases h
      right
      rw [← bV_app]
      exact fun y hy => bV_lt _ _ y hy
    · have h2 : (H.set b [.ptr b 0, .ty 5 1 x]).get k = some cs := by
        cases bo with
        | none => exact h
        | some b' =>
          have h : ((H.set b [.ptr b 0, .ty 5 1 x]).del b').get k = some cs := h
          rw [Heap.get_del] at h
          split at h
          · cases h
          · exact h
      rw [Heap.get_set, if_neg hkb] at h2
      exact .inl h2

theorem writeString_s {H : Heap} {b : Nat} {l : List UInt8} (r : List UInt8) (h : Bld H b l) (hl : l.length + r.length ≤ 1099511627776) : ∃ H', SCalls Tryz.prog 28 [.ty 75 2 (.ptr b 0), sA r] H (.tup [.int r.length, .sc .nilIface]) H' ∧ Bld H' b (l ++ r) := by
  obtain ⟨p, x, bo, hb, hp, hg, hbo⟩ := h
  have hlt := Heap.lt_of_get hb
  have cc := copyCheck_s hb hp
  obtain ⟨H2, hH2⟩ : ∃ H2, H.set b [.ptr b 0, .ty 5 1 x] = H2 := ⟨_, rfl⟩
  have hn2 : H2.next = H.next := by rw [← hH2]; rfl
  have hb2 : H2.get b = some [.ptr b 0, .ty 5 1 x] := by rw [← hH2, Heap.get_set, if_pos rfl]; show (H.get b).map _ = _; rw [hb]; rfl
  have hg2 : grown H2 1 x = some (l.length, bV l, bo) := by rw [← hH2]; exact grown_set hg hbo
  rw [hH2] at cc
  have tap : aappend Tryz.prog H2 42 9 x (sA r) = some (.ms H2.next 0 (l.length + r.length) 1, H2.regrow bo (bV l ++ bV r)) :=
    append_step (P := Tryz.prog) tU42 tS5 tB5 tZ5 rfl (by unfold source; rw [und9]; simp [bs_size, bs_data, bV]) hg2 (by omega) (by omega) (bV_all r)
  have hb3 : (H2.regrow bo (bV l ++ bV r)).get b = some [.ptr b 0, .ty 5 1 x] := get_regrow_other hb2 hbo
  obtain ⟨H3, hH3⟩ : ∃ H3, (H2.regrow bo (bV l ++ bV r)).set b [.ptr b 0, .ty 5 1 (.ms H2.next 0 (l.length + r.length) 1)] = H3 := ⟨_, rfl⟩
  have hn3 : H3.next = H.next + 1 := by rw [← hH3]; show (H2.regrow bo (bV l ++ bV r)).next = _; rw [Heap.next_regrow, hn2]
  have hB : Bld H3 b (l ++ r) := by rw [← hH3]; exact bld_put hb2 hg2 hbo
  refine ⟨H3, ?_, hB⟩
  have hcont : ∀ (k : Nat) (cs : List AV), H3.get k = some cs → H.get k = some cs ∨ ∀ y ∈ cs, y.Lt H3.next := by
    intro k cs hk
    rw [← hH3, ← hH2] at hk
    rw [hn3]
    exact bld_cont hb hg k cs hk
  refine scalls_of_k (sz := 19) (Tryz.call28) Tryz.func28 rfl (by omega) (by kernel_rfl) (fun R hR => ?_)
  refine scode_seq_k (fun K1 hK1 => ?_)
  refine scode_region (by kernel_rfl) ?_
  simp [go_sem]
  refine hK1 _ _ ?_
  clear hK1 K1
  refine scode_seq_k (fun K2 hK2 => ?_)
  refine scode_region (by kernel_rfl) ?_
  simp [go_sem]
  refine ⟨_, _, cc, ?_⟩
  refine hK2 _ _ ?_
  clear hK2 K2
  refine scode_seq_k (fun K4 hK4 => ?_)
  refine scode_less 0 (y := .ptr b 0) (by simp [go_sem]; exact .ty _ _ _) ?_
  refine scode_region (by kernel_rfl) ?_
  simp [go_sem, hb2, append_ty, tyApp, tap, hb3, hH3]
  refine hK4 _ _ ?_
  clear hK4 K4
  refine scode_seq_k (fun K5 hK5 => ?_)
  refine scode_region (by kernel_rfl) ?_
  simp [go_sem]
  refine hK5 _ _ ?_
  clear hK5 K5
  refine scode_ret ?_
  simp only [go_sem]
  refine hR _ _ ?_
  exact ⟨⟨_, by simp [go_sem], .same _⟩, Heap.le_refl _, by omega, Nat.le_refl _, by simp [go_sem], hcont⟩

theorem writeByte_s {H : Heap} {b : Nat} {l : List UInt8} (c : UInt8) (h : Bld H b l) (hl : l.length + 1 ≤ 1099511627776) : ∃ H', SCalls Tryz.prog 75 [.ty 75 2 (.ptr b 0), .sc (.int .u8 c.toNat)] H (.sc .nilIface) H' ∧ Bld H' b (l ++ [c]) := by
  obtain ⟨p, x, bo, hb, hp, hg, hbo⟩ := h
  have hlt := Heap.lt_of_get hb
  have cc := copyCheck_s hb hp
  obtain ⟨H2, hH2⟩ : ∃ H2, H.set b [.ptr b 0, .ty 5 1 x] = H2 := ⟨_, rfl⟩
  have hn2 : H2.next = H.next := by rw [← hH2]; rfl
  have hb2 : H2.get b = some [.ptr b 0, .ty 5 1 x] := by rw [← hH2, Heap.get_set, if_pos rfl]; show (H.get b).map _ = _; rw [hb]; rfl
  have hg2 : grown H2 1 x = some (l.length, bV l, bo) := by rw [← hH2]; exact grown_set hg hbo
  rw [hH2] at cc
  obtain ⟨H4, hH4⟩ : ∃ H4, H2.alloc [.sc (.int .u8 c.toNat)] = H4 := ⟨_, rfl⟩
  have hn4 : H4.next = H.next + 1 := by rw [← hH4]; show H2.next + 1 = _; rw [hn2]
  have hb4 : H4.get b = some [.ptr b 0, .ty 5 1 x] := by rw [← hH4, Heap.get_alloc, if_neg (by omega)]; exact hb2
  have hg4 : grown H4 1 x = some (l.length, bV l, bo) := by rw [← hH4]; exact grown_alloc hg2
  have hs4 : H4.get H2.next = some [.sc (.int .u8 c.toNat)] := by rw [← hH4, Heap.get_alloc, if_pos rfl]
  have tap : aappend Tryz.prog H4 42 42 x (.ms H2.next 0 1 1) = some (.ms H4.next 0 (l.length + 1) 1, H4.regrow bo (bV l ++ bV [c])) :=
    append_step (P := Tryz.prog) tU42 tS5 tB5 tZ5 rfl (by unfold source; rw [tU42]; simp [sliceCells, hs4, bV]) hg4 (by omega) (by omega) (bV_all [c])
  have hb3 : (H4.regrow bo (bV l ++ bV [c])).get b = some [.ptr b 0, .ty 5 1 x] := get_regrow_other hb4 hbo
  obtain ⟨H3, hH3⟩ : ∃ H3, (H4.regrow bo (bV l ++ bV [c])).set b [.ptr b 0, .ty 5 1 (.ms H4.next 0 (l.length + 1) 1)] = H3 := ⟨_, rfl⟩
  have hn3 : H3.next = H.next + 2 := by rw [← hH3]; show (H4.regrow bo (bV l ++ bV [c])).next = _; rw [Heap.next_regrow, hn4]
  have hB : Bld H3 b (l ++ [c]) := by rw [← hH3]; exact bld_put (r := [c]) hb4 hg4 hbo
  refine ⟨H3, ?_, hB⟩
  have hcont : ∀ (k : Nat) (cs : List AV), H3.get k = some cs → H.get k = some cs ∨ ∀ y ∈ cs, y.Lt H3.next := by
    intro k cs hk
    have hset : H4.set b [.ptr b 0, .ty 5 1 x] = H4 ∨ True := .inr trivial
    rw [← hH3] at hk
    rw [hn3]
    rw [Heap.get_set] at hk
    split at hk
    · rename_i e
      right
      rw [e, hb3] at hk
      cases hk
      intro y hy
      simp only [List.mem_cons, List.mem_nil_iff, or_false] at hy
      rcases hy with rfl | rfl
      · exact .ptr (by omega)
      · exact .ty (.ms (by omega))
    · rename_i hkb
      unfold Heap.regrow at hk
      rw [Heap.get_alloc, Heap.delo_next] at hk
      split at hk
      · cases hk
        right
        rw [← bV_app]
        exact fun y hy => bV_lt _ _ y hy
      · have h2 : H4.get k = some cs := by
          cases bo with
          | none => exact hk
          | some b' =>
            have hk : (H4.del b').get k = some cs := hk
            rw [Heap.get_del] at hk
            split at hk
            · cases hk
            · exact hk
        rw [← hH4, Heap.get_alloc] at h2
        split at h2
        · cases h2
          right
          intro y hy
          rw [List.mem_singleton.1 hy]
          exact .sc _
        · rw [← hH2, Heap.get_set, if_neg hkb] at h2
          exact .inl h2
  refine scalls_of_k (sz := 17) (Tryz.call75) Tryz.func75 rfl (by omega) (by kernel_rfl) (fun R hR => ?_)
  refine scode_seq_k (fun K1 hK1 => ?_)
  refine scode_region (by kernel_rfl) ?_
  simp [go_sem]
  refine hK1 _ _ ?_
  clear hK1 K1
  refine scode_seq_k (fun K2 hK2 => ?_)
  refine scode_region (by kernel_rfl) ?_
  simp [go_sem]
  refine ⟨_, _, cc, ?_⟩
  refine hK2 _ _ ?_
  clear hK2 K2
  refine scode_seq_k (fun K4 hK4 => ?_)
  refine scode_less 0 (y := .ptr b 0) (by simp [go_sem]; exact .ty _ _ _) ?_
  refine scode_region (by kernel_rfl) ?_
  simp [go_sem, hb2, append_ty, tyApp, hH4, hb4, tap, hb3, hH3]
  refine hK4 _ _ ?_
  clear hK4 K4
  refine scode_seq_k (fun K5 hK5 => ?_)
  refine scode_region (by kernel_rfl) ?_
  simp [go_sem]
  refine hK5 _ _ ?_
  clear hK5 K5
  refine scode_ret ?_
  simp only [go_sem]
  refine hR _ _ ?_
  exact ⟨⟨_, by simp [go_sem], .same _⟩, Heap.le_refl _, by omega, Nat.le_refl _, by simp [go_sem], hcont⟩

theorem blen_s {H : Heap} {b : Nat} {l : List UInt8} (h : Bld H b l) : SCalls Tryz.prog 30 [.ty 75 2 (.ptr b 0)] H (.int l.length) H := by
  obtain ⟨p, x, bo, hb, hp, hg, hbo⟩ := h
  refine scalls_of_k (sz := 8) (Tryz.call30) Tryz.func30 rfl (Nat.le_refl _) (by kernel_rfl) (fun R hR => ?_)
  have hx : alen Tryz.prog 42 (.ty 5 1 x) = some (.int l.length) := by
    rcases grown_cases hg with ⟨rfl, h2, _, _⟩ | ⟨b2, off, rfl, _, _⟩
    · simp [alen, tU42, h2]
    · simp [alen, tU42]
  refine scode_seq_k (fun K1 hK1 => ?_)
  refine scode_region (by kernel_rfl) ?_
  simp [go_sem]
  refine hK1 _ _ ?_
  clear hK1 K1
  refine scode_seq_k (fun K2 hK2 => ?_)
  refine scode_less 0 (y := .ptr b 0) (by simp [go_sem]; exact .ty _ _ _) ?_
  refine scode_region (by kernel_rfl) ?_
  simp [go_sem, hb, hx]
  refine hK2 _ _ ?_
  clear hK2 K2
  refine scode_ret ?_
  simp only [go_sem]
  refine hR _ _ ?_
  exact ⟨⟨_, by simp [go_sem], .same _⟩, Heap.le_refl _, Nat.le_refl _, Nat.le_refl _, by simp [go_sem], fun k cs hk => .inl hk⟩

end Go.Proofs.YtfmpakmigmehkaaGreatDoor
end S4S

set_option maxRecDepth 20000
noncomputable section S5S
namespace Go.Proofs
open Go Go.Shelf Go.RowKit
variable {P : Program} {ρ : Ren}

set_option maxHeartbeats 1000000 in
set_option maxRecDepth 100000 in
theorem string_run (L : Lays.n169 P ρ) (X : Builder.Extra P ρ) (b g cap n : Nat) (l : List UInt8) (w : World) (h0 : l ≠ []) (hcap : cap ≠ 0) (hm : l.length ≤ 9223372036854775807)
    (k1 : w.cell? ⟨b, 1, none⟩ = some (.slice (some ⟨g, 0, none⟩) l.length cap)) (hsh : w.shape? g = some (ρ.t 5, n)) (hn : l.length ≤ n)
    (hcell : ∀ (j : Nat) (x : UInt8), l[j]? = some x → w.cell? ((⟨g, 0, none⟩ : Addr).add j) = some (.int .u8 x.toNat)) :
    Calls P (ρ.f 169) #[.pointer (some ⟨b, 0, none⟩)] w fun e w' => e = .returned (.string ⟨l.toArray⟩) ∧ w' = w.drew.freeze ⟨g, 0, none⟩ l.length := by
  have hl0 : l.length ≠ 0 := by simpa using h0
  have c1 : w.drew.cell? ⟨b, 1, none⟩ = some (.slice (some ⟨g, 0, none⟩) l.length cap) := k1
  have hSD : (Builtin.unsafeSliceData_ #[(ρ.t 37)] (ρ.t 127) #[.slice (some ⟨g, 0, none⟩) l.length cap]).run P w.drew = .ok (.pointer (some ⟨g, 0, none⟩)) w.drew :=
    Lib.run_unsafeSliceData_row _ _ _ _ _ _ hcap
  have hUS : (Builtin.unsafeString_ #[(ρ.t 127), (ρ.t 3)] (ρ.t 9) #[.pointer (some ⟨g, 0, none⟩), .int .i64 l.length]).run P w.drew = .ok (.string ⟨l.toArray⟩) (w.drew.freeze ⟨g, 0, none⟩ l.length) :=
    Lib.run_unsafeString_row w.drew (ρ.t 127) (ρ.t 3) (ρ.t 9) (ρ.t 5) L.t127 X.cellsByte g n hsh l h0 hn hm hcell
  clear hcell hcap h0
  have mixed := L.mixed
  have t72 := L.t72; have a72 := L.a72; have z72 := L.z72; have v72 := L.v72; have u72 := run_underlying L.t72
  have t70 := L.t70; have a70 := L.a70; have z70 := L.z70; have v70 := L.v70; have u70 := run_underlying L.t70
  have t37 := L.t37; have a37 := L.a37; have z37 := L.z37; have v37 := L.v37; have u37 := run_underlying L.t37
  have t127 := L.t127; have a127 := L.a127; have z127 := L.z127; have v127 := L.v127; have u127 := run_underlying L.t127
  have t3 := L.t3; have a3 := L.a3; have z3 := L.z3; have v3 := L.v3; have u3 := run_underlying L.t3
  have t9 := L.t9; have a9 := L.a9; have z9 := L.z9; have v9 := L.v9; have u9 := run_underlying L.t9
  have t5 := X.t5; have a5 := X.a5; have z5 := X.z5; have v5 := X.v5; have u5 := run_underlying X.t5
  go_enter L.f169, Body.n169_ntmps ρ
  go_wp2
  go_region_o
  all_goals (go_wp2; go_ret; exact ⟨rfl, rfl⟩)
end Go.Proofs

namespace Go.Proofs.YtfmpakmigmehkaaGreatDoor
open Go Go.Fl Go.Proofs Go.RowKit

theorem bstring_s {H : Heap} {b : Nat} {l : List UInt8} (h : Bld H b l) (h0 : l ≠ []) (hl : l.length ≤ 1099511627776) : ∃ H', SCalls Tryz.prog 32 [.ty 75 2 (.ptr b 0)] H (sA l) H' := by
  obtain ⟨p, x, bo, hb, hp, hg, hbo⟩ := h
  rcases grown_cases hg with ⟨rfl, h2, _, _⟩ | ⟨b2, off, rfl, rfl, cs2, g1, g2, g3⟩
  · exact absurd (List.length_eq_zero_iff.1 h2) h0
  refine ⟨H.del b2, Tryz.call32, Nat.le_refl _, fun ρ I w cargs hrel hargs => ?_⟩
  obtain ⟨u, rfl⟩ : ∃ u, cargs = #[u] := by
    have := hargs.1
    match cargs, this with
    | ⟨[u]⟩, _ => exact ⟨u, rfl⟩
  have hu := hargs.2 0 _ rfl
  simp at hu
  cases hu with
  | ty k1 k2 =>
  cases k1 with
  | ptr hρ =>
  rename_i cb base
  obtain ⟨e0, c, fz, k3, k4⟩ := k2
  obtain rfl : base = 0 := by omega
  rcases hrel.live b _ hb with ⟨h1, _⟩ | ⟨cb', base', c', e, h1, h2, ⟨fz3, hf3, h3⟩, h4, h5⟩
  · rw [hρ] at h1; cases h1
  rw [hρ] at h1
  simp only [Option.some.injEq, Prod.mk.injEq] at h1
  obtain ⟨rfl, rfl⟩ := h1
  have v1 := h5 1 _ rfl
  rw [Nat.zero_add] at v1
  have hc1 : w.cell? ⟨cb, 1, none⟩ = some (c'.getD 1 Go.undef) := by
    simp only [List.length_cons, List.length_nil] at h4
    have : 1 < c'.size := by omega
    simp [World.cell?, h3, this]
  generalize c'.getD 1 Go.undef = v at v1 hc1
  cases v1 with
  | ty q1 q2 =>
  have hlpos : l.length ≠ 0 := by simpa using h0
  rcases q1.ms_inv with ⟨g, base2, cap, cg, eg, fzg, rfl, hρ2, q3, q4, q5⟩ | ⟨hz, _⟩
  rotate_left
  · exact absurd hz hlpos
  obtain ⟨e2, cg', fzg', q6, q7⟩ := q2
  rw [q4] at q6
  simp only [Option.some.injEq, Obj.cells.injEq] at q6
  obtain ⟨rfl, rfl, rfl⟩ := q6
  rcases hrel.live b2 _ g1 with ⟨m1, _⟩ | ⟨cb2, base2', c2, ee, m1, m2, ⟨fz5, hf5, m3⟩, m4, m5⟩
  · rw [hρ2] at m1; cases m1
  rw [hρ2] at m1
  simp only [Option.some.injEq, Prod.mk.injEq] at m1
  obtain ⟨rfl, rfl⟩ := m1
  rw [q4] at m3
  simp only [Option.some.injEq, Obj.cells.injEq] at m3
  obtain ⟨rfl, rfl, rfl⟩ := m3
  rw [e2] at hc1
  have hsh : w.shape? g = some (ren.t 5, cg.size) := by simp only [World.shape?, q4]; rfl
  have hcells : ∀ (j : Nat) (x : UInt8), l[j]? = some x → w.cell? ((⟨g, 0, none⟩ : Addr).add j) = some (.int .u8 x.toNat) := by
    intro j x hj
    have hjl : j < l.length := (List.getElem?_eq_some_iff.1 hj).1
    have h6 : cs2[off + j]? = some (.sc (.int .u8 x.toNat)) := by
      have : (bV l)[j]? = some (.sc (.int .u8 x.toNat)) := by simp [bV, hj]
      rw [g3, List.getElem?_drop] at this
      exact this
    have h7 := (m5 _ _ h6).eq_sc
    have h8 : base2 + (off + j) = j := by omega
    rw [h8] at h7
    have h9 : j < cg.size := by omega
    rw [add_plain]
    simp [World.cell?, q4, h9] at h7 ⊢
    simpa [h9] using h7
  refine (string_run lay169 bx cb g cap cg.size l w h0 (by omega) (by omega) hc1 hsh (by omega) hcells).mono ?_
  rintro e w' ⟨rfl, rfl⟩
  have hw1 : ∀ k, k ≠ g → (w.drew.freeze ⟨g, 0, none⟩ l.length).heap[k]? = w.heap[k]? := by
    intro k hk
    unfold World.freeze
    rw [if_neg hlpos]
    simp only [Array.getElem?_modify]
    rw [if_neg (fun e => hk e.symm)]
    rfl
  obtain ⟨fz', hw2⟩ : ∃ fz', (w.drew.freeze ⟨g, 0, none⟩ l.length).heap[g]? = some (.cells cg 5 fz') := by
    unfold World.freeze
    rw [if_neg hlpos]
    simp only [Array.getElem?_modify, if_true]
    have : w.drew.heap[g]? = some (.cells cg 5 fzg) := q4
    rw [this]
    exact ⟨_, rfl⟩
  have hsz : (w.drew.freeze ⟨g, 0, none⟩ l.length).heap.size = w.heap.size := by
    unfold World.freeze
    rw [if_neg hlpos]
    simp only [Array.size_modify]
    rfl
  have hos : (w.drew.freeze ⟨g, 0, none⟩ l.length).os = w.os ∧ (w.drew.freeze ⟨g, 0, none⟩ l.length).tape = w.tape ∧ (w.drew.freeze ⟨g, 0, none⟩ l.length).output = w.output := by
    unfold World.freeze
    rw [if_neg hlpos]
    exact ⟨rfl, rfl, rfl⟩
  obtain ⟨r1, x1⟩ := rel_fz hrel g1 hρ2 m2 q4 hw2 hsz hw1 hos.1 hos.2.1 hos.2.2
  exact ⟨_, ρ, I, rfl, .sc _, r1, x1⟩
end Go.Proofs.YtfmpakmigmehkaaGreatDoor
end S5S

set_option maxRecDepth 20000
noncomputable section S6S
namespace Go.Proofs.YtfmpakmigmehkaaGreatDoor
open Go Go.Fl Go.Proofs Go.RowKit Go.Sort Go.Lib Go.Shelf

theorem holds_zero0 (w : World) (T : TypeId) (nd : Nat) (hs : nd ≤ 24) : Holds (fun (b : UInt8) => Value.int .u8 (b.toNat : Int)) (w.alloc (.cells zeros24 T)) w.heap.size 0 (Array.replicate nd (0 : UInt8)) := fun j hj => by
  have hj' : j < nd := by simpa using hj
  refine ⟨?_, World.frozen?_alloc_new _ _ _ _⟩
  rw [World.cell?_alloc_new, zeros24_at _ (by omega), getElem!_pos _ j hj]
  simp

theorem fin0 (w : World) (o : Obj) (dk : Array UInt8) (k : Nat) : ∃ os, (putRow (fun (b : UInt8) => Value.int .u8 (b.toNat : Int)) (w.alloc o) w.heap.size 0 dk).drewN k = grow (w.drewN k) os := by
  rw [alloc_eq_grow]
  obtain ⟨os', _, e⟩ := putRow_grow_new (fun (b : UInt8) => Value.int .u8 (b.toNat : Int)) w #[o] w.heap.size 0 dk (Nat.le_refl _)
  exact ⟨os', by rw [e]; rfl⟩

set_option maxHeartbeats 6400000 in
set_option maxRecDepth 100000 in
theorem formatUint_in (u : Nat) (hu : u ≤ 4294967295) (w : World) {I : Nat → Prop} (hgl : GlobOk I w.heap) :
    Calls Tryz.prog 76 #[.int .u64 u, .int .i64 10] w fun e w' => e = .returned (.string ⟨(Lib.decDigits u).toArray⟩) ∧ ∃ k os, w' = grow (w.drewN k) os := by
  by_cases hs : u < 100
  · go_enter Tryz.func76, Tryz.ntmps76
    go_wp2_with (go_at_call 89; refine (Any.internal_strconv_small { layM173 with } u hs _).mono ?_; rintro e w' ⟨rfl, rfl⟩)
    go_ret
    exact ⟨rfl, 0, #[], by simp [World.drewN_zero]⟩
  · have hu1 : 1 ≤ u := by omega
    have hu64 : u < 18446744073709551616 := by omega
    have hnd20 : Lib.nDigits u ≤ 20 := by have := Lib.numDigits_eq u hu1 hu64; split at this <;> omega
    have hb3 : Lib.nDigits u ≤ 24 := by omega
    have hal : Tryz.prog.arrayLen 154 = 24 := by kernel_rfl
    have hsl1 : ∀ W, (Instr.sliceAt 154 (.pointer (some ⟨w.heap.size, 0, none⟩)) none (some (.int .i64 (Lib.nDigits u : Int))) none).run Tryz.prog W = .ok (.slice (some ⟨w.heap.size, 0, none⟩) (Lib.nDigits u) 24) W := fun W => by
      rw [run_sliceAt_array_h W 154 ⟨w.heap.size, 0, none⟩ (by kernel_rfl) .i64 (Lib.nDigits u : Int) (by omega) (by rw [hal]; omega)]
      go_simp
    have hH0 := holds_zero0 w 154 (Lib.nDigits u) (by omega)
    have hfmt := Any.internal_strconv_formatBase10 (P := Tryz.prog) (ρ := ren) { layM173 with } w.heap.size 0 24 u (Array.replicate (Lib.nDigits u) 0) (w.alloc (.cells Lib.zeros24 154)) hH0 (by rw [Array.size_replicate]; exact Lib.lt_pow_nDigits u) hu64 (by rw [Array.size_replicate]; omega)
    rw [Array.size_replicate] at hfmt
    have hfmt : Calls Tryz.prog 91 _ _ _ := hfmt
    have htab := tab_ok hgl layM173.m17
    have hnd := fun W hW => Any.internal_strconv_numDigits (P := Tryz.prog) (ρ := ren) { layM173 with } u hu1 hu64 W hW
    have HH0 := Lib.hid hH0
    have HT := Lib.hid htab
    clear hH0 hal htab hgl
    go_enter Tryz.func76, Tryz.ntmps76
    go_wp2_with (go_at_call 90; refine (Any.internal_strconv_numDigits (P := Tryz.prog) (ρ := ren) { layM173 with } u hu1 hu64 _ (Lib.tabIs_alloc HT.out _)).mono ?_; rintro e w' ⟨rfl, rfl⟩)
    go_at_call 91
    refine hfmt.mono ?_
    rintro e w' ⟨rfl, k, v', dk, rfl, hF⟩
    have hcv : (convert 42 9 (.slice (some ⟨w.heap.size, 0, none⟩) (Lib.nDigits u) 24)).run Tryz.prog ((putRow (fun (b : UInt8) => Value.int .u8 (b.toNat : Int)) (w.alloc (.cells Lib.zeros24 154)) w.heap.size 0 dk).drewN k) = .ok (.string ⟨(Lib.decDigits u).toArray⟩) ((putRow (fun (b : UInt8) => Value.int .u8 (b.toNat : Int)) (w.alloc (.cells Lib.zeros24 154)) w.heap.size 0 dk).drewN k) := by
      have h := run_convert_bytes_back (P := Tryz.prog) ((putRow (fun (b : UInt8) => Value.int .u8 (b.toNat : Int)) (w.alloc (.cells Lib.zeros24 154)) w.heap.size 0 dk).drewN k) 42 9 5 ⟨w.heap.size, 0, none⟩ 24 (Lib.decDigits u) Tryz.underlying42 Tryz.underlying5 Tryz.underlying9 (fun j hj => by
        rw [Lib.row_is_numeral hF j hj, Lib.add_plain, World.cell?_drewN]
        exact cell?_putRow (fun (b : UInt8) => Value.int .u8 (b.toNat : Int)) _ w.heap.size 0 _ dk HH0.out (by rw [hF.size, Array.size_replicate]) j (by rw [hF.size]; rw [Lib.decDigits_length] at hj; exact hj))
      rw [Lib.decDigits_length] at h
      exact h
    go_wp2
    go_ret
    obtain ⟨os, eo⟩ := fin0 w (.cells Lib.zeros24 154) dk k
    exact ⟨rfl, k, os, eo⟩

theorem formatUint_s (u : Nat) (hu : u ≤ 4294967295) (H : Heap) : SCalls Tryz.prog 56 [.sc (.int .u64 u), .int 10] H (sA (Lib.itoa u)) H := by
  refine scalls_below Tryz.call56 fun ρ I w cargs hrel hargs => ?_
  obtain ⟨v, rfl, hv⟩ := args2 hargs
  cases hv.eq_sc
  have h := formatUint_in u hu w hrel.glob
  have h2 : Calls Tryz.prog 56 #[.int .u64 u, .int .i64 10] w fun e w' => e = .returned (.string ⟨(Lib.decDigits u).toArray⟩) ∧ ∃ k os, w' = grow (w.drewN k) os := by
    go_enter Tryz.func56, Tryz.ntmps56
    go_wp2_with (go_at_call 76; refine h.mono ?_; rintro e w' ⟨rfl, k, os, rfl⟩)
    go_ret
    exact ⟨rfl, k, os, rfl⟩
  refine h2.mono ?_
  rintro e w' ⟨rfl, k, os, rfl⟩
  refine ⟨_, rfl, below_growN _ _ _, ?_⟩
  rw [Lib.itoa_nonneg]
  exact .sc _
end Go.Proofs.YtfmpakmigmehkaaGreatDoor
end S6S
