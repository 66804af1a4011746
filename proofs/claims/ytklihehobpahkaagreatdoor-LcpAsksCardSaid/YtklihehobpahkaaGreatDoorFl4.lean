/- The operations on abstract values: what each does, and that the machine does so. -/
import Derived.Test.YtklihehobpahkaaGreatDoorFl3
set_option linter.unusedVariables false
set_option linter.unusedSimpArgs false
noncomputable section
namespace Go.Fl
open Go

theorem add_plain (b o j : Nat) : (⟨b, o, none⟩ : Addr).add j = ⟨b, o + j, none⟩ := by
  unfold Addr.add; split
  · rename_i h; subst h; rfl
  · rfl

section
variable {P : Program} {ρ : Rho} {I : Nat → Prop} {H : Heap} {w : World}

/-- What an address reads. -/
theorem cellsAt_run (hr : Rel ρ I H w.heap) {p : AV} {n : Nat} {cs : List AV} {v : Value} (h : cellsAt H p n = some cs) (hv : VR ρ I w.heap p v) :
    cs.length = n ∧ ∃ cb off, v = .pointer (some ⟨cb, off, none⟩) ∧ ∃ ys : List Value, ys.length = n ∧ (∀ j y, ys[j]? = some y → w.cell? ((⟨cb, off, none⟩ : Addr).add j) = some y) ∧ VRs ρ I w.heap cs ys.toArray := by
  cases hv with
  | ptr hb =>
    rename_i b o cb base
    simp only [cellsAt] at h
    cases hg : H.get b with
    | none => simp [hg] at h
    | some cs0 =>
      simp only [hg, Option.bind_some] at h
      split at h
      · rename_i hle
        simp only [Option.some.injEq] at h
        subst h
        rcases hr.live _ _ hg with ⟨h1, _⟩ | ⟨cb', base', c, e, h1, _, ⟨fz3, _, h3⟩, h4, h5⟩
        · rw [hb] at h1; cases h1
        · rw [hb] at h1; cases h1
          refine ⟨by simp; omega, cb, base + o, rfl, (c.toList.drop (base + o)).take n, by simp; omega, ?_, ?_⟩
          · intro j y hy
            rw [add_plain]
            have hj : j < n := by
              have := (List.getElem?_eq_some_iff.1 hy).1
              simp at this; omega
            rw [List.getElem?_take_of_lt hj, List.getElem?_drop] at hy
            simp only [World.cell?, h3]
            simpa using hy
          · refine ⟨by simp; omega, fun i x hx => ?_⟩
            have hi : i < n := by
              have := (List.getElem?_eq_some_iff.1 hx).1
              simp at this; omega
            rw [List.getElem?_take_of_lt hi, List.getElem?_drop] at hx
            have := h5 _ _ hx
            have e1 : ((c.toList.drop (base + o)).take n).toArray.getD i Go.undef = c.getD (base + (o + i)) Go.undef := by
              rw [Array.getD_eq_getD_getElem?, Array.getD_eq_getD_getElem?, List.getElem?_toArray, List.getElem?_take_of_lt hi, List.getElem?_drop, Array.getElem?_toList, Nat.add_assoc]
            rw [e1]; exact this
      · cases h
  | ep h1 h2 h3 h4 =>
    rename_i cb off cells c e fz
    simp only [cellsAt] at h
    split at h
    · rename_i hle
      simp only [Option.some.injEq] at h
      subst h
      refine ⟨by simp; omega, cb, off, rfl, (c.toList.drop off).take n, by simp; omega, ?_, ?_⟩
      · intro j y hy
        rw [add_plain]
        have hj : j < n := by
          have := (List.getElem?_eq_some_iff.1 hy).1
          simp at this; omega
        rw [List.getElem?_take_of_lt hj, List.getElem?_drop] at hy
        simp only [World.cell?, h2]
        simpa using hy
      · refine ⟨by simp; omega, fun i x hx => ?_⟩
        have hi : i < n := by
          have := (List.getElem?_eq_some_iff.1 hx).1
          simp at this; omega
        rw [List.getElem?_take_of_lt hi] at hx
        have := h4 _ _ hx
        have e1 : ((c.toList.drop off).take n).toArray.getD i Go.undef = c.getD (off + i) Go.undef := by
          rw [Array.getD_eq_getD_getElem?, Array.getD_eq_getD_getElem?, List.getElem?_toArray, List.getElem?_take_of_lt hi, List.getElem?_drop, Array.getElem?_toList]
        rw [e1]; exact this
    · cases h
  | _ => simp [cellsAt] at h

theorem loadCells_run (hr : Rel ρ I H w.heap) {p : AV} {n : Nat} {cs : List AV} {v : Value} (h : cellsAt H p n = some cs) (hv : VR ρ I w.heap p v) :
    cs.length = n ∧ ∃ cb off, v = .pointer (some ⟨cb, off, none⟩) ∧ ∃ ys : Array Value, (loadCells ⟨cb, off, none⟩ n).run P w = .ok ys w ∧ VRs ρ I w.heap cs ys := by
  obtain ⟨h0, cb, off, rfl, ys, h1, h2, h3⟩ := cellsAt_run hr h hv
  refine ⟨h0, cb, off, rfl, ys.toArray, ?_, h3⟩
  have := run_loadCells_list (P := P) w ⟨cb, off, none⟩ ys h2
  rw [h1] at this
  exact this

theorem aload_run (hr : Rel ρ I H w.heap) {t : TypeId} {p x : AV} {v : Value} (h : aload P H t p = some x) (hv : VR ρ I w.heap p v) :
    ∃ u, (Instr.loadAt t v).run P w = .ok u w ∧ VR ρ I w.heap x u := by
  unfold aload at h
  cases hg : isAggT P t with
  | none => simp [hg] at h
  | some g =>
    cases g with
    | true =>
      simp only [hg, Option.bind_some, if_true] at h
      cases hc : csz P t with
      | none => simp [hc] at h
      | some n =>
        simp only [hc, Option.bind_some, Option.map_eq_some_iff] at h
        obtain ⟨cs, h1, rfl⟩ := h
        obtain ⟨_, cb, off, rfl, ys, h2, h3⟩ := loadCells_run (P := P) hr h1 hv
        exact ⟨.agg ys, by simp [Instr.loadAt, Instr.sureAddr, loadVar, isAggT_run P hg, csz_run P hc, h2], .agg h3.1 h3.2⟩
    | false =>
      simp only [hg, Option.bind_some, Bool.false_eq_true, if_false] at h
      cases h1 : cellsAt H p 1 with
      | none => simp [h1] at h
      | some cs =>
        simp only [h1, Option.bind_some] at h
        obtain ⟨_, cb, off, rfl, ys, h2, h3, h4⟩ := cellsAt_run hr h1 hv
        match ys, h2 with
        | [y], _ =>
          have hc := h3 0 y rfl
          rw [add_plain, Nat.add_zero] at hc
          refine ⟨y, by simp [Instr.loadAt, Instr.sureAddr, loadVar, isAggT_run P hg, hc], ?_⟩
          cases cs with
          | nil => simp at h
          | cons z zs =>
            simp at h; subst h
            have := h4.2 0 z rfl
            simpa using this

theorem astore_run (hr : Rel ρ I H w.heap) {t : TypeId} {p x : AV} {v u : Value} {H' : Heap} (h : astore P H t p x = some H') (hv : VR ρ I w.heap p v) (hu : VR ρ I w.heap x u) :
    ∃ w', (Instr.storeAt t v u).run P w = .ok () w' ∧ Rel ρ I H' w'.heap ∧ Ext ρ I w ρ I w' := by
  unfold astore at h
  cases hn : csz P t with
  | none => simp [hn] at h
  | some n =>
    cases ha : acells x with
    | none => simp [hn, ha] at h
    | some vs =>
      simp only [hn, ha, Option.bind_some] at h
      have hvs := acells_VRs ha hu
      cases hv with
      | ptr hb =>
        rename_i b o cb base
        simp only at h
        cases hg : H.get b with
        | none => simp [hg] at h
        | some cs =>
          simp only [hg, Option.bind_some] at h
          split at h
          · rename_i hle
            obtain ⟨h1, h2, h3⟩ := hle
            simp only [Option.some.injEq] at h
            subst h
            rcases hr.live _ _ hg with ⟨h4, _⟩ | ⟨cb', base', c, e, h4, h5, ⟨fz6, hf6, h6⟩, h7, h8⟩
            · rw [hb] at h4; cases h4
            · rw [hb] at h4; cases h4
              have hsz : u.cells.size = n := by rw [← hvs.1]; exact h1
              have hone : ∀ y ∈ u.cells.toList, y.oneCell' = true := by
                intro y hy
                obtain ⟨i, hi, rfl⟩ := List.getElem_of_mem hy
                have hi' : i < vs.length := by rw [hvs.1]; simpa using hi
                have := hvs.2 i vs[i] (List.getElem?_eq_getElem hi')
                have hl : (vs[i]).leaf = true := List.all_eq_true.1 h3 _ (List.getElem_mem hi')
                have e1 : u.cells.getD i Go.undef = u.cells.toList[i] := by
                  have hi2 : i < u.cells.size := by simpa using hi
                  simp [hi2]
                rw [e1] at this
                exact leaf_oneCell hl this
              have hrun := run_storeCells_fz P cb (base + o) e hf6 u.cells.toList 0 c w rfl h6 (by simp; omega) hone
              let c' := (c.toList.take (base + o) ++ u.cells.toList ++ c.toList.drop (base + o + u.cells.toList.length)).toArray
              have hrun' : (storeCells ⟨cb, base + o, none⟩ u.cells.toList 0).run P w = .ok () (w.setRow cb c') := by simpa [c'] using hrun
              have hc'sz : c'.size = c.size := by simp [c']; omega
              have key := rel_write (w1 := w.setRow cb c') hr (cs' := splice cs o vs) (c' := c') hg hb h5 hf6 h6 (setRow_heap w cb c c' e fz6 h6) hc'sz (by simp [World.setRow])
                (fun k hk => setRow_other w cb k c' hk) rfl rfl rfl (by rw [splice_length (by omega)]; omega) (by
                  intro i y hy
                  rw [splice_get (by omega)] at hy
                  have e2 : c'.getD (base + i) Go.undef = if i < o then c.getD (base + i) Go.undef else if i < o + n then u.cells.getD (i - o) Go.undef else c.getD (base + i) Go.undef := by
                    simp only [c', Array.getD_eq_getD_getElem?, List.getElem?_toArray]
                    have hlen : (c.toList.take (base + o)).length = base + o := by simp; omega
                    rw [List.append_assoc, List.getElem?_append, hlen]
                    by_cases hi1 : i < o
                    · rw [if_pos (by omega), if_pos hi1, List.getElem?_take_of_lt (by omega)]; simp
                    · rw [if_neg (by omega), if_neg hi1, List.getElem?_append]
                      have hul : u.cells.toList.length = n := by simpa using hsz
                      rw [hul]
                      by_cases hi2 : i < o + n
                      · rw [if_pos (by omega), if_pos hi2]
                        have : base + i - (base + o) = i - o := by omega
                        rw [this]; simp
                      · rw [if_neg (by omega), if_neg hi2, List.getElem?_drop]
                        have : base + o + n + (base + i - (base + o) - n) = base + i := by omega
                        rw [this]; simp
                  rw [e2]
                  rw [h1] at hy
                  by_cases hi1 : i < o
                  · rw [if_pos hi1] at hy ⊢; exact h8 i y hy
                  · rw [if_neg hi1] at hy ⊢
                    by_cases hi2 : i < o + n
                    · rw [if_pos hi2] at hy ⊢; exact hvs.2 _ _ hy
                    · rw [if_neg hi2] at hy ⊢; exact h8 i y hy)
              refine ⟨w.setRow cb c', ?_, key⟩
              simp [Instr.storeAt, Instr.sureAddr, storeVar, csz_run P hn, hsz, hrun']
          · cases h
      | _ => simp at h

theorem ashift_run {p x : AV} {v : Value} {n : Nat} (h : ashift p n = some x) (hv : VR ρ I w.heap p v) :
    ∃ cb off, v = .pointer (some ⟨cb, off, none⟩) ∧ VR ρ I w.heap x (.pointer (some ((⟨cb, off, none⟩ : Addr).add n))) := by
  cases hv with
  | ptr hb =>
    simp only [ashift, Option.some.injEq] at h
    subst h
    refine ⟨_, _, rfl, ?_⟩
    rw [add_plain, Nat.add_assoc]
    exact .ptr hb
  | ep h1 h2 h3 h4 =>
    simp only [ashift] at h
    split at h
    · simp only [Option.some.injEq] at h
      subst h
      refine ⟨_, _, rfl, ?_⟩
      rw [add_plain]
      refine .ep h1 h2 (by simp; omega) (fun i y hy => ?_)
      rw [List.getElem?_drop] at hy
      rw [Nat.add_assoc]
      exact h4 _ _ hy
    · cases h
  | _ => simp [ashift] at h

theorem afield_run {s : TypeId} {p x : AV} {f : Nat} {v : Value} (h : afield P s p f = some x) (hv : VR ρ I w.heap p v) :
    ∃ u, (Instr.fieldAt s v f).run P w = .ok u w ∧ VR ρ I w.heap x u := by
  unfold afield at h
  cases hu : P.underlying s with
  | none => simp [hu] at h
  | some d =>
    cases d <;> simp only [hu] at h <;> try (cases h; done)
    rename_i fields
    cases hf : fields[f]? with
    | none => simp [hf] at h
    | some fl =>
      cases hn : csz P fl.type with
      | none => simp [hf, hn] at h
      | some n =>
        simp only [hf, hn, Option.bind_some] at h
        split at h
        · cases h
        · rename_i hne
          obtain ⟨cb, off, rfl, hx⟩ := ashift_run h hv
          exact ⟨_, by simp [Instr.fieldAt, run_underlying hu, hf, Instr.sureAddr, fieldPlace, csz_run P hn, hne], hx⟩

theorem aindex_run {t : TypeId} {p i x : AV} {v j : Value} (h : aindex P t p i = some x) (hv : VR ρ I w.heap p v) (hj : VR ρ I w.heap i j) :
    ∃ u, (Instr.indexAt t v j).run P w = .ok u w ∧ VR ρ I w.heap x u := by
  unfold aindex at h
  split at h
  · rename_i len e k n hu
    cases hj.eq_sc
    cases hn : csz P e with
    | none => simp [hn] at h
    | some sz =>
      simp only [hn, Option.bind_some] at h
      split at h
      · rename_i hlt
        obtain ⟨cb, off, rfl, hx⟩ := ashift_run h hv
        exact ⟨_, by simp [Instr.indexAt, asIntOf, run_underlying hu, Instr.sureAddr, hlt, csz_run P hn], hx⟩
      · cases h
  · rename_i e k n hu
    cases hj.eq_sc
    cases hn : csz P e with
    | none => simp [hn] at h
    | some sz =>
      simp only [hn, Option.bind_some] at h
      split at h
      · rename_i b off len sz'
        split at h
        · rename_i hlt
          obtain ⟨rfl, h1, h2⟩ := hlt
          simp only [Option.some.injEq] at h
          subst h
          cases hv with
          | ms hb h3 h4 h5 =>
            refine ⟨_, by simp [Instr.indexAt, asIntOf, run_underlying hu, h1, h2, csz_run P hn]; rfl, ?_⟩
            rw [add_plain, Nat.add_assoc]
            exact .ptr hb
          | ms0 => exact absurd h2 (by omega)
        · cases h
      · rename_i len sz' cells
        split at h
        · rename_i hlt
          obtain ⟨rfl, h1, h2, h3⟩ := hlt
          simp only [Option.some.injEq] at h
          subst h
          cases hv with
          | vs hI hcp hb h4 h5 h6 =>
            refine ⟨_, by simp [Instr.indexAt, asIntOf, run_underlying hu, h1, h2, csz_run P hn]; rfl, ?_⟩
            rw [add_plain]
            have hle : n.toNat * sz' ≤ cells.length := by
              rw [h4]; exact Nat.mul_le_mul_right _ (by omega)
            refine .ep hI hb (by simp; omega) (fun i y hy => ?_)
            rw [List.getElem?_drop] at hy
            rw [Nat.add_assoc]
            exact h6 _ _ hy
          | vs0 => exact absurd h2 (by omega)
        · cases h
      · cases h
  · cases h

theorem apart_run {t : TypeId} {cs : List AV} {ys : Array Value} {off : Nat} {x : AV} (h : apart P t cs off = some x) (hv : VRs ρ I w.heap cs ys) :
    ∃ u, (part t ys off).run P w = .ok u w ∧ VR ρ I w.heap x u := by
  unfold apart at h
  cases hg : isAggT P t with
  | none => simp [hg] at h
  | some g =>
    cases g with
    | true =>
      simp only [hg, Option.bind_some, if_true] at h
      cases hc : csz P t with
      | none => simp [hc] at h
      | some n =>
        simp only [hc, Option.bind_some] at h
        split at h
        · rename_i hle
          simp only [Option.some.injEq] at h
          subst h
          refine ⟨.agg (ys.extract off (off + n)), by simp [part, isAggT_run P hg, csz_run P hc], .agg (by have := hv.1; simp; omega) (fun i y hy => ?_)⟩
          have hi : i < n := by
            have := (List.getElem?_eq_some_iff.1 hy).1
            simp at this; omega
          rw [List.getElem?_take_of_lt hi, List.getElem?_drop] at hy
          have := hv.2 _ _ hy
          have e1 : (ys.extract off (off + n)).getD i Go.undef = ys.getD (off + i) Go.undef := by
            have := hv.1
            simp only [Array.getD_eq_getD_getElem?]
            rw [Array.getElem?_extract]
            rw [if_pos (by omega)]
          rw [e1]; exact this
        · cases h
    | false =>
      simp only [hg, Option.bind_some, Bool.false_eq_true, if_false] at h
      have hlt := (List.getElem?_eq_some_iff.1 h).1
      rw [hv.1] at hlt
      have := hv.2 _ _ h
      have e1 : ys.getD off Go.undef = ys[off] := by simp [hlt]
      rw [e1] at this
      exact ⟨ys[off], by simp [part, isAggT_run P hg, hlt], this⟩

end
end Go.Fl
