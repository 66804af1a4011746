/- That the machine does what aop says. -/
import Derived.Test.YtklihehobpahkaaGreatDoorFl9
set_option linter.unusedVariables false
set_option linter.unusedSimpArgs false
noncomputable section
namespace Go.Fl
open Go

/-- An operation ran to its end, with this value, in this world. -/
def Ran (P : Program) (cv : Operand → Value) (o : Oper) (w : World) (v : Value) (w' : World) : Prop :=
  (execOp cv o).run P w = .ok (.value v) w' ∨ ((execOp cv o).run P w = .ok .skip w' ∧ v = Go.undef)

section
variable {P : Program} {ρ : Rho} {I : Nat → Prop} {H : Heap} {w : World}

theorem VRs_map {ev : Operand → AV} {cv : Operand → Value} (hv : ∀ y, VR ρ I w.heap (ev y) (cv y)) (xs : Array Operand) : VRs ρ I w.heap (xs.toList.map ev) (xs.map cv) := by
  refine ⟨by simp, fun i x hx => ?_⟩
  simp only [List.getElem?_map, Option.map_eq_some_iff] at hx
  obtain ⟨y, h1, rfl⟩ := hx
  have : (xs.map cv).getD i Go.undef = cv y := by
    simp only [Array.getD_eq_getD_getElem?, Array.getElem?_map]
    rw [Array.getElem?_toList] at h1
    rw [h1]; rfl
  rw [this]; exact hv y

theorem parts_rel {ev : Operand → AV} {cv : Operand → Value} (hv : ∀ y, VR ρ I w.heap (ev y) (cv y)) (parts : Array (Nat × Operand)) :
    (parts.toList.map fun p => (p.1, ev p.2)).length = (parts.map fun (i, x) => (i, cv x)).toList.length ∧
    ∀ (j i : Nat) (x : AV), (parts.toList.map fun p => (p.1, ev p.2))[j]? = some (i, x) → ∃ v, (parts.map fun (i, x) => (i, cv x)).toList[j]? = some (i, v) ∧ VR ρ I w.heap x v := by
  refine ⟨by simp, fun j i x hx => ?_⟩
  simp only [List.getElem?_map, Option.map_eq_some_iff, Prod.mk.injEq] at hx
  obtain ⟨⟨i', y⟩, h1, rfl, rfl⟩ := hx
  refine ⟨cv y, ?_, hv y⟩
  rw [Array.toList_map, List.getElem?_map, h1]
  rfl

theorem VRo_map {ev : Operand → AV} {cv : Operand → Value} (hv : ∀ y, VR ρ I w.heap (ev y) (cv y)) (x : Option Operand) : VRo ρ I w.heap (x.map ev) (x.map cv) := by
  cases x with
  | none => trivial
  | some x => exact hv x

theorem abuiltin_run (hr : Rel ρ I H w.heap) {b : Builtin} {argTypes : Array TypeId} {ty : TypeId} {consts : Array Bool} {args : List AV} {cargs : Array Value} {r : AV} {H' : Heap}
    (h : abuiltin P H b argTypes ty args = some (r, H')) (hv : VRs ρ I w.heap args cargs) :
    ∃ v w' ρ', (builtin b argTypes ty consts cargs).run P w = .ok (.value v) w' ∧ VR ρ' I w'.heap r v ∧ Rel ρ' I H' w'.heap ∧ Ext ρ I w ρ' I w' := by
  have two : ∀ (t u : TypeId), argTypes.size = 2 → argTypes.getD 0 0 = t → argTypes.getD 1 0 = u → argTypes = #[t, u] := by
    intro t u h1 h2 h3
    apply Array.ext
    · simpa using h1
    · intro i hi1 hi2
      match i, hi1 with
      | 0, hi1 => simpa [Array.getD_eq_getD_getElem?, hi1] using h2
      | 1, hi1 => simpa [Array.getD_eq_getD_getElem?, hi1] using h3
      | i + 2, hi1 => omega
  have arg1 : ∀ x, args = [x] → ∃ v, cargs = #[v] ∧ VR ρ I w.heap x v := by
    intro x hx
    subst hx
    have h1 := hv.1
    match cargs, h1 with
    | ⟨[v]⟩, _ => exact ⟨v, rfl, hv.2 0 x rfl⟩
  have arg2 : ∀ x y, args = [x, y] → ∃ u v, cargs = #[u, v] ∧ VR ρ I w.heap x u ∧ VR ρ I w.heap y v := by
    intro x y hx
    subst hx
    have h1 := hv.1
    match cargs, h1 with
    | ⟨[u, v]⟩, _ => exact ⟨u, v, rfl, hv.2 0 x rfl, hv.2 1 y rfl⟩
  unfold abuiltin at h
  split at h
  · rename_i x
    obtain ⟨v, rfl, hxv⟩ := arg1 _ rfl
    split at h
    · rename_i r' hl
      simp only [Option.some.injEq, Prod.mk.injEq] at h
      obtain ⟨rfl, rfl⟩ := h
      cases ha : argTypes[0]? with
      | none => simp [ha] at hl
      | some t =>
        simp only [ha, Option.bind_some] at hl
        obtain ⟨u, h1, h2⟩ := alen_run (P := P) (argTypes := argTypes) (ty := ty) hl ha hxv
        exact ⟨u, w, ρ, by simp [builtin, h1], h2, hr, Ext.refl _ _ _⟩
    · cases hc : conc x with
      | none => simp [hc] at h
      | some v' =>
        simp only [hc, Option.bind_some, Option.map_eq_some_iff, Prod.mk.injEq] at h
        obtain ⟨u, h1, rfl, rfl⟩ := h
        cases conc_VR hc hxv
        exact ⟨u, w, ρ, by simp [builtin, srun_run h1 w], VR_ofV u, hr, Ext.refl _ _ _⟩
  · rename_i s x
    obtain ⟨sv, xv, rfl, hsv, hxv⟩ := arg2 _ _ rfl
    split at h
    · rename_i hsz
      obtain ⟨v, w', ρ', h1, h2, h3, h4⟩ := aappend_run (ty := ty) hr h hsv hxv
      rw [← two _ _ hsz rfl rfl] at h1
      exact ⟨v, w', ρ', by simp [builtin, h1], h2, h3, h4⟩
    · cases h
  · rename_i d x
    obtain ⟨dv, xv, rfl, hdv, hxv⟩ := arg2 _ _ rfl
    split at h
    · rename_i hsz
      obtain ⟨v, w', h1, h2, h3, h4⟩ := acopy_run (ty := ty) hr h hdv hxv
      rw [← two _ _ hsz rfl rfl] at h1
      exact ⟨v, w', ρ, by simp [builtin, h1], h2, h3, h4⟩
    · cases h
  · cases hc : concs args with
    | none => simp [hc] at h
    | some vs =>
      simp only [hc, Option.bind_some, Option.map_eq_some_iff, Prod.mk.injEq] at h
      obtain ⟨u, h1, rfl, rfl⟩ := h
      cases concs_VRs hc hv
      exact ⟨u, w, ρ, by simp [builtin, srun_run h1 w], VR_ofV u, hr, Ext.refl _ _ _⟩
  · cases hc : concs args with
    | none => simp [hc] at h
    | some vs =>
      simp only [hc, Option.bind_some, Option.map_eq_some_iff, Prod.mk.injEq] at h
      obtain ⟨u, h1, rfl, rfl⟩ := h
      cases concs_VRs hc hv
      exact ⟨u, w, ρ, by simp [builtin, srun_run h1 w], VR_ofV u, hr, Ext.refl _ _ _⟩
  · cases h

theorem afld_run {t : TypeId} {x r : AV} {f : Nat} {v : Value} (h : afld P t x f = some r) (hv : VR ρ I w.heap x v) : ∃ u, (Instr.field t v f).run P w = .ok u w ∧ VR ρ I w.heap r u := by
  unfold afld at h
  split at h
  · rename_i fields cs hu
    cases hf : fields[f]? with
    | none => simp [hf] at h
    | some fl =>
      simp only [hf, Option.bind_some] at h
      cases hv with
      | agg h1 h2 =>
        obtain ⟨u, h3, h4⟩ := apart_run h ⟨h1, h2⟩
        exact ⟨u, by simp [Instr.field, run_underlying hu, hf, asAgg, h3], h4⟩
  · cases h

theorem aidx_run {t : TypeId} {x i r : AV} {v j : Value} (h : aidx P t x i = some r) (hv : VR ρ I w.heap x v) (hj : VR ρ I w.heap i j) : ∃ u, (Instr.index t v j).run P w = .ok u w ∧ VR ρ I w.heap r u := by
  unfold aidx at h
  split at h
  · rename_i n e cs k m hu
    cases hj.eq_sc
    cases hn : csz P e with
    | none => simp [hn] at h
    | some sz =>
      simp only [hn, Option.bind_some] at h
      split at h
      · rename_i hlt
        cases hv with
        | agg h1 h2 =>
          obtain ⟨u, h3, h4⟩ := apart_run h ⟨h1, h2⟩
          exact ⟨u, by simp [Instr.index, asIntOf, run_underlying hu, hlt, csz_run P hn, h3], h4⟩
      · cases h
  · rename_i u' v' hu
    cases hv.eq_sc
    cases hj.eq_sc
    simp only [Option.map_eq_some_iff] at h
    obtain ⟨z, h1, rfl⟩ := h
    exact ⟨z, srun_run h1 w, VR_ofV z⟩
  · cases h

theorem aop_sound (hr : Rel ρ I H w.heap) {o : Oper} {ev : Operand → AV} {cv : Operand → Value} (hv : ∀ y, VR ρ I w.heap (ev y) (cv y)) {x : AV} {H' : Heap} (h : aop P o ev H = some (x, H')) :
    ∃ v w' ρ', Ran P cv o w v w' ∧ VR ρ' I w'.heap x v ∧ Rel ρ' I H' w'.heap ∧ Ext ρ I w ρ' I w' := by
  obtain ⟨dst, op, type, pos, after, guard⟩ := o
  have still : ∀ {u : Value} {r : AV}, (execOp cv ⟨dst, op, type, pos, after, guard⟩).run P w = .ok (.value u) w → VR ρ I w.heap r u →
      ∃ v w' ρ', Ran P cv ⟨dst, op, type, pos, after, guard⟩ w v w' ∧ VR ρ' I w'.heap r v ∧ Rel ρ' I H w'.heap ∧ Ext ρ I w ρ' I w' :=
    fun h1 h2 => ⟨_, w, ρ, .inl h1, h2, hr, Ext.refl _ _ _⟩
  cases op <;> simp only [aop] at h <;> try (cases h; done)
  case move y =>
    simp only [Option.some.injEq, Prod.mk.injEq] at h; obtain ⟨rfl, rfl⟩ := h
    exact still (by simp [execOp]) (hv y)
  case assign y =>
    simp only [Option.some.injEq, Prod.mk.injEq] at h; obtain ⟨rfl, rfl⟩ := h
    exact still (by simp [execOp]) (hv y)
  case pick c a b =>
    split at h
    · rename_i t hc
      simp only [Option.some.injEq, Prod.mk.injEq] at h; obtain ⟨rfl, rfl⟩ := h
      have h1 := hv c
      rw [hc] at h1
      have h2 := h1.eq_sc
      cases t with
      | true => exact still (u := cv a) (by simp [execOp, h2, asBool]) (hv a)
      | false => exact still (u := cv b) (by simp [execOp, h2, asBool]) (hv b)
    · cases h
  case alloc t =>
    simp only [Option.map_eq_some_iff, Prod.mk.injEq] at h
    obtain ⟨zs, h1, rfl, rfl⟩ := h
    obtain ⟨z, h2, rfl⟩ := zeroC_run P h1 w
    have hz := VRs_scs (ρ := ρ) (I := I) (w := w) z.cells
    obtain ⟨k1, k2⟩ := rel_alloc (w1 := w.alloc (.cells z.cells t)) hr (cs := z.cells.toList.map .sc) (c := z.cells) (e := t) rfl rfl rfl rfl (by simp) hz.2
    exact ⟨.pointer (some ⟨w.heap.size, 0, none⟩), _, _, .inl (by simp [execOp, Instr.alloc, h2, newVar, newRow]), .ptr (o := 0) (Rho.upd_same _ _ _), k1, k2⟩
  case box t y =>
    simp only [Option.map_eq_some_iff, Prod.mk.injEq] at h
    obtain ⟨cs, h1, rfl, rfl⟩ := h
    have hz := acells_VRs h1 (hv y)
    obtain ⟨k1, k2⟩ := rel_alloc (w1 := w.alloc (.cells (cv y).cells t)) hr (cs := cs) (c := (cv y).cells) (e := t) rfl rfl rfl rfl (by rw [hz.1]; exact Nat.le_refl _) hz.2
    exact ⟨.pointer (some ⟨w.heap.size, 0, none⟩), _, _, .inl (by simp [execOp, Instr.box, newVar, newRow]), .ptr (o := 0) (Rho.upd_same _ _ _), k1, k2⟩
  case build t parts =>
    simp only [Option.map_eq_some_iff, Prod.mk.injEq] at h
    obtain ⟨r, h1, rfl, rfl⟩ := h
    obtain ⟨p1, p2⟩ := parts_rel hv parts
    obtain ⟨u, h2, h3⟩ := abuild_run p1 p2 h1
    have e : (parts.map fun (i, x) => (i, cv x)).toList.toArray = parts.map fun (i, x) => (i, cv x) := Array.toArray_toList
    rw [e] at h2
    exact still (by simp only [execOp]; rw [Sem.run_bind, h2]; rfl) h3
  case buildSlice t len parts =>
    obtain ⟨p1, p2⟩ := parts_rel hv parts
    obtain ⟨u, w', ρ', h2, h3, h4, h5⟩ := abuildSlice_run hr p1 p2 h
    have e : (parts.map fun (i, x) => (i, cv x)).toList.toArray = parts.map fun (i, x) => (i, cv x) := Array.toArray_toList
    rw [e] at h2
    exact ⟨u, w', ρ', .inl (by simp only [execOp]; rw [Sem.run_bind, h2]; rfl), h3, h4, h5⟩
  case load t a =>
    simp only [Option.map_eq_some_iff, Prod.mk.injEq] at h
    obtain ⟨r, h1, rfl, rfl⟩ := h
    obtain ⟨u, h2, h3⟩ := aload_run (P := P) hr h1 (hv a)
    exact still (by simp [execOp, h2]) h3
  case store t a y =>
    simp only [Option.map_eq_some_iff, Prod.mk.injEq] at h
    obtain ⟨H1, h1, rfl, rfl⟩ := h
    obtain ⟨w', h2, h3, h4⟩ := astore_run (P := P) hr h1 (hv a) (hv y)
    exact ⟨Go.undef, w', ρ, .inr ⟨by simp [execOp, h2], rfl⟩, .sc _, h3, h4⟩
  case nilCheck y =>
    have hy := hv y
    split at h
    · rename_i b o he
      simp only [Option.some.injEq, Prod.mk.injEq] at h; obtain ⟨rfl, rfl⟩ := h
      rw [he] at hy
      generalize hc : cv y = c at hy
      cases hy with
      | ptr hb => exact still (by simp [execOp, hc]) (.ptr hb)
    · rename_i cs he
      simp only [Option.some.injEq, Prod.mk.injEq] at h; obtain ⟨rfl, rfl⟩ := h
      rw [he] at hy
      generalize hc : cv y = c at hy
      cases hy with
      | ep h1 h2 h3 h4 => exact still (by simp [execOp, hc]) (.ep h1 h2 h3 h4)
    · rename_i t v he
      simp only [Option.some.injEq, Prod.mk.injEq] at h; obtain ⟨rfl, rfl⟩ := h
      rw [he] at hy
      generalize hc : cv y = c at hy
      cases hy with
      | ifc h1 => exact still (by simp [execOp, hc]) (.ifc h1)
    · rename_i f a b he
      simp only [Option.some.injEq, Prod.mk.injEq] at h; obtain ⟨rfl, rfl⟩ := h
      rw [he] at hy
      generalize hc : cv y = c at hy
      cases hy with
      | fn h1 h2 h3 h4 => exact still (by simp [execOp, hc]) (.fn h1 h2 h3 h4)
    · cases h
  case binOp op t y z yt =>
    simp only [Option.map_eq_some_iff, Prod.mk.injEq] at h
    obtain ⟨r, h1, rfl, rfl⟩ := h
    obtain ⟨u, h2, h3⟩ := abin_run (P := P) h1 (hv y) (hv z)
    exact still (by simp only [execOp]; rw [Sem.run_bind, h2]; rfl) h3
  case unOp op t y =>
    simp only [Option.map_eq_some_iff, Prod.mk.injEq] at h
    obtain ⟨r, h1, rfl, rfl⟩ := h
    obtain ⟨u, h2, h3⟩ := aun_run (P := P) h1 (hv y)
    exact still (by simp [execOp, h2]) h3
  case convert src dst y =>
    cases hb : bytesT dst with
    | true =>
      simp only [hb] at h
      obtain ⟨v, w', ρ', h1, h2, h3, h4⟩ := astrB_run (P := P) hr h (hv y)
      exact ⟨v, w', ρ', .inl (by simp [execOp, h1]), h2, h3, h4⟩
    | false =>
    simp only [hb] at h
    cases hac : aconv P H src dst (ev y) with
    | some r =>
      simp only [hac, Option.some.injEq, Prod.mk.injEq] at h
      obtain ⟨rfl, rfl⟩ := h
      obtain ⟨u, h2, h3⟩ := aconv_run hr hac (hv y)
      exact still (by simp [execOp, h2]) h3
    | none =>
    simp only [hac] at h
    simp only [Option.map_eq_some_iff, Prod.mk.injEq] at h
    obtain ⟨r, h1, rfl, rfl⟩ := h
    obtain ⟨u, h2, h3⟩ := acvt_run (P := P) h1 (hv y)
    exact still (by simp [execOp, h2]) h3
  case makeInterface t y =>
    cases hu : P.underlying t with
    | none => simp [hu] at h
    | some d =>
      have key : (execOp cv ⟨dst, .makeInterface t y, type, pos, after, guard⟩).run P w = .ok (.value (.iface t (cv y))) w ∧ x = .ifc t (ev y) ∧ H' = H := by
        cases d <;> simp only [hu] at h <;> first
          | (cases h; done)
          | (simp only [Option.some.injEq, Prod.mk.injEq] at h
             obtain ⟨rfl, rfl⟩ := h
             exact ⟨by simp [execOp, Instr.makeInterface, run_underlying hu], rfl, rfl⟩)
      obtain ⟨k1, rfl, rfl⟩ := key
      exact still k1 (.ifc (hv y))
  case makeFunc f first captured =>
    simp only [Option.some.injEq, Prod.mk.injEq] at h; obtain ⟨rfl, rfl⟩ := h
    have h1 := VRs_map hv first
    have h2 := VRs_map hv captured
    exact still (by simp [execOp, Instr.makeFunc]) (.fn h1.1 h2.1 h1.2 h2.2)
  case makeSlice t l c =>
    obtain ⟨v, w', ρ', h1, h2, h3, h4⟩ := amake_run (P := P) hr h (hv l) (hv c)
    exact ⟨v, w', ρ', .inl (by simp [execOp, h1]), h2, h3, h4⟩
  case slice t y lo hi mx =>
    simp only [Option.map_eq_some_iff, Prod.mk.injEq] at h
    obtain ⟨r, h1, rfl, rfl⟩ := h
    obtain ⟨u, h2, h3⟩ := aslice_run (P := P) hr h1 (hv y) (VRo_map hv lo) (VRo_map hv hi) (VRo_map hv mx)
    exact still (by simp [execOp, h2]) h3
  case fieldAddr s y f =>
    simp only [Option.map_eq_some_iff, Prod.mk.injEq] at h
    obtain ⟨r, h1, rfl, rfl⟩ := h
    obtain ⟨u, h2, h3⟩ := afield_run (P := P) h1 (hv y)
    exact still (by simp [execOp, h2]) h3
  case field t y f =>
    simp only [Option.map_eq_some_iff, Prod.mk.injEq] at h
    obtain ⟨r, h1, rfl, rfl⟩ := h
    obtain ⟨u, h2, h3⟩ := afld_run (P := P) h1 (hv y)
    exact still (by simp [execOp, h2]) h3
  case indexAddr t y i =>
    simp only [Option.map_eq_some_iff, Prod.mk.injEq] at h
    obtain ⟨r, h1, rfl, rfl⟩ := h
    obtain ⟨u, h2, h3⟩ := aindex_run (P := P) h1 (hv y) (hv i)
    exact still (by simp [execOp, h2]) h3
  case index t y i =>
    simp only [Option.map_eq_some_iff, Prod.mk.injEq] at h
    obtain ⟨r, h1, rfl, rfl⟩ := h
    obtain ⟨u, h2, h3⟩ := aidx_run (P := P) h1 (hv y) (hv i)
    exact still (by simp [execOp, h2]) h3
  case extract y i =>
    have hy := hv y
    split at h
    · rename_i vs he
      simp only [Option.map_eq_some_iff, Prod.mk.injEq] at h
      obtain ⟨r, h1, rfl, rfl⟩ := h
      rw [he] at hy
      generalize hc : cv y = c at hy
      cases hy with
      | tup h2 h3 =>
        rename_i cs
        have hlt := (List.getElem?_eq_some_iff.1 h1).1
        rw [h2] at hlt
        have h4 := h3 _ _ h1
        have e1 : cs.getD i Go.undef = cs[i] := by simp [hlt]
        rw [e1] at h4
        exact still (u := cs[i]) (by simp [execOp, hc, Instr.extract, hlt]) h4
    · cases h
  case call c =>
    obtain ⟨callee, args, argTypes⟩ := c
    cases callee <;> simp only at h <;> try (cases h; done)
    rename_i b
    obtain ⟨v, w', ρ', h1, h2, h3, h4⟩ := abuiltin_run (P := P) (consts := args.map fun | .const _ => true | _ => false) hr h (VRs_map hv args)
    exact ⟨v, w', ρ', .inl (by simp only [execOp, resolve, Sem.run_bind, Sem.run_pure, Result.andThen_ok, invoke]; exact h1), h2, h3, h4⟩

end
end Go.Fl
