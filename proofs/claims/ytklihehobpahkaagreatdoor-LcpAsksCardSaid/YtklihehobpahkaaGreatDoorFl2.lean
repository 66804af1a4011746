/- New blocks, writes into blocks, and growing blocks: the relation goes on. -/
import Derived.Test.YtklihehobpahkaaGreatDoorFl1
import Derived.Laws.CopyRow
set_option linter.unusedVariables false
set_option linter.unusedSimpArgs false
noncomputable section
namespace Go.Fl
open Go

theorem Heap.get_alloc (H : Heap) (cs : List AV) (b : Nat) : (H.alloc cs).get b = if b = H.next then some cs else H.get b := Tr.get_put _ _ _ _
theorem Heap.get_set (H : Heap) (b : Nat) (cs : List AV) (x : Nat) : (H.set b cs).get x = if x = b then (H.get x).map (fun _ => cs) else H.get x := by
  show (H.tree.put b _).get x = _
  rw [Tr.get_put]
  split
  · rename_i e; subst e; rfl
  · rfl
theorem Heap.get_del (H : Heap) (b x : Nat) : (H.del b).get x = if x = b then none else H.get x := Tr.get_put _ _ _ _
theorem Heap.get_regrow (H : Heap) (b : Nat) (cs : List AV) (x : Nat) : ((H.del b).alloc cs).get x = if x = H.next then some cs else if x = b then none else H.get x := by
  rw [Heap.get_alloc, Heap.get_del]; rfl
theorem Heap.next_alloc (H : Heap) (cs : List AV) : (H.alloc cs).next = H.next + 1 := rfl
theorem Heap.next_set (H : Heap) (b : Nat) (cs : List AV) : (H.set b cs).next = H.next := rfl
theorem Heap.next_del (H : Heap) (b : Nat) : (H.del b).next = H.next := rfl

def Rho.upd (ρ : Rho) (b : Nat) (p : Option (Nat × Nat)) : Rho := fun x => if x = b then some p else ρ x

theorem Rho.upd_same (ρ : Rho) (b : Nat) (p : Option (Nat × Nat)) : ρ.upd b p b = some p := by simp [Rho.upd]
theorem Rho.upd_other (ρ : Rho) {b x : Nat} (p : Option (Nat × Nat)) (h : x ≠ b) : ρ.upd b p x = ρ x := by simp [Rho.upd, h]

theorem Rel.fresh {ρ : Rho} {I : Nat → Prop} {H : Heap} {hp : Array Obj} (h : Rel ρ I H hp) : ρ H.next = none := by
  cases e : ρ H.next with
  | none => rfl
  | some p => have := h.rng _ _ e; omega

theorem Rel.lt {ρ : Rho} {I : Nat → Prop} {H : Heap} {hp : Array Obj} (h : Rel ρ I H hp) {b cb base : Nat} (hb : ρ b = some (some (cb, base))) : cb < hp.size := by
  obtain ⟨c, e, fz, hc⟩ := h.at_ _ _ _ hb
  exact (Array.getElem?_eq_some_iff.1 hc).1

/-- The heap grew at its end alone. -/
theorem Ext.of_push {ρ : Rho} {I : Nat → Prop} {w w1 : World} {c0 : Array Value} {e0 : TypeId} {b : Nat} {p : Option (Nat × Nat)} (hfresh : ρ b = none) (hI : ∀ cb, I cb → cb < w.heap.size)
    (hp : ∀ cb base, p = some (cb, base) → w.heap.size ≤ cb) {f0 : Nat × Nat} (h1 : w1.heap = w.heap.push (.cells c0 e0 f0)) (hos : w1.os = w.os) (ht : w1.tape = w.tape) (ho : w1.output = w.output) :
    Ext ρ I w (ρ.upd b p) I w1 where
  rho x q hx := by
    by_cases e : x = b
    · subst e; rw [hfresh] at hx; cases hx
    · rw [Rho.upd_other _ _ e]; exact hx
  imm _ h := h
  size := by rw [h1]; simp
  kept cb hcb := by rw [h1, Array.getElem?_push, if_neg (by have := hI cb hcb; omega)]
  blocks cb c e fz hcb := ⟨c, fz, by
    have := (Array.getElem?_eq_some_iff.1 hcb).1
    rw [h1, Array.getElem?_push, if_neg (by omega)]; exact hcb, rfl⟩
  frame cb hlt _ := by rw [h1, Array.getElem?_push, if_neg (by omega)]
  newI _ h := .inl h
  newR x cb base hx := by
    by_cases e : x = b
    · subst e; rw [Rho.upd_same] at hx; cases hx; exact .inr (.inl (hp _ _ rfl))
    · rw [Rho.upd_other _ _ e] at hx; exact .inl hx
  os := hos
  tape := ht
  output := ho

theorem rel_alloc_fz {ρ : Rho} {I : Nat → Prop} {H : Heap} {w w1 : World} (h : Rel ρ I H w.heap) {cs : List AV} {c : Array Value} {e : TypeId} {fz : Nat × Nat} (hf : FzOk c.size fz)
    (h1 : w1.heap = w.heap.push (.cells c e fz)) (hos : w1.os = w.os) (ht : w1.tape = w.tape) (ho : w1.output = w.output)
    (hl : cs.length ≤ c.size) (hv : ∀ i x, cs[i]? = some x → VR ρ I w.heap x (c.getD i Go.undef)) :
    Rel (ρ.upd H.next (some (w.heap.size, 0))) I (H.alloc cs) w1.heap ∧ Ext ρ I w (ρ.upd H.next (some (w.heap.size, 0))) I w1 := by
  have hx : Ext ρ I w (ρ.upd H.next (some (w.heap.size, 0))) I w1 :=
    Ext.of_push h.fresh h.irng (fun cb base e => by cases e; exact Nat.le_refl _) h1 hos ht ho
  have hnew : w1.heap[w.heap.size]? = some (.cells c e fz) := by rw [h1]; simp
  have hold : ∀ cb o, w.heap[cb]? = some o → w1.heap[cb]? = some o := fun cb o hc => by
    have := (Array.getElem?_eq_some_iff.1 hc).1
    rw [h1, Array.getElem?_push, if_neg (by omega)]; exact hc
  refine ⟨⟨?_, ?_, ?_, ?_, ?_, h.glob.ext hx.imm hx.kept⟩, hx⟩
  · intro b cs' hb
    rw [Heap.get_alloc] at hb
    split at hb
    · rename_i e1; subst e1; cases hb
      exact .inr ⟨w.heap.size, 0, c, e, Rho.upd_same _ _ _, fun hI => by have := h.irng _ hI; omega, ⟨fz, hf, hnew⟩, by simpa using hl,
        fun i x hx' => by simpa using (hv i x hx').mono hx⟩
    · rename_i e1
      rcases h.live b cs' hb with ⟨h2, h3⟩ | ⟨cb, base, c', e', h2, h3, ⟨fz4, hf4, h4⟩, h5, h6⟩
      · exact .inl ⟨by rw [Rho.upd_other _ _ e1]; exact h2, h3⟩
      · exact .inr ⟨cb, base, c', e', by rw [Rho.upd_other _ _ e1]; exact h2, h3, ⟨fz4, hf4, hold _ _ h4⟩, h5, fun i x hx' => (h6 i x hx').mono hx⟩
  · intro b b' cs1 cs2 cb base base' hb hb' hr hr'
    rw [Heap.get_alloc] at hb hb'
    by_cases e1 : b = H.next
    · by_cases e2 : b' = H.next
      · rw [e1, e2]
      · rw [e1, Rho.upd_same] at hr
        rw [Rho.upd_other _ _ e2] at hr'
        have := h.lt hr'
        cases hr; omega
    · by_cases e2 : b' = H.next
      · rw [e2, Rho.upd_same] at hr'
        rw [Rho.upd_other _ _ e1] at hr
        have := h.lt hr
        cases hr'; omega
      · rw [Rho.upd_other _ _ e1] at hr
        rw [Rho.upd_other _ _ e2] at hr'
        rw [if_neg e1] at hb
        rw [if_neg e2] at hb'
        exact h.inj _ _ _ _ _ _ _ hb hb' hr hr'
  · intro b p hb
    by_cases e1 : b = H.next
    · subst e1; show H.next < H.next + 1; omega
    · rw [Rho.upd_other _ _ e1] at hb; have := h.rng _ _ hb; show b < H.next + 1; omega
  · intro b cb base hb
    by_cases e1 : b = H.next
    · subst e1; rw [Rho.upd_same] at hb; cases hb; exact ⟨_, _, _, hnew⟩
    · rw [Rho.upd_other _ _ e1] at hb
      obtain ⟨c', e', fz', hc'⟩ := h.at_ _ _ _ hb
      exact ⟨c', e', fz', hold _ _ hc'⟩
  · intro cb hcb; have := h.irng _ hcb; have := hx.size; omega

theorem rel_alloc {ρ : Rho} {I : Nat → Prop} {H : Heap} {w w1 : World} (h : Rel ρ I H w.heap) {cs : List AV} {c : Array Value} {e : TypeId}
    (h1 : w1.heap = w.heap.push (.cells c e)) (hos : w1.os = w.os) (ht : w1.tape = w.tape) (ho : w1.output = w.output)
    (hl : cs.length ≤ c.size) (hv : ∀ i x, cs[i]? = some x → VR ρ I w.heap x (c.getD i Go.undef)) :
    Rel (ρ.upd H.next (some (w.heap.size, 0))) I (H.alloc cs) w1.heap ∧ Ext ρ I w (ρ.upd H.next (some (w.heap.size, 0))) I w1 :=
  rel_alloc_fz h (FzOk.zero _) h1 hos ht ho hl hv

theorem run_storeCells_fz (P : Program) (g o : Nat) (t : TypeId) {n : Nat} {fz : Nat × Nat} (hf : FzOk n fz) : ∀ (vs : List Value) (i : Nat) (cur : Array Value) (w : World), cur.size = n → w.heap[g]? = some (.cells cur t fz) → o + i + vs.length ≤ cur.size → (∀ v ∈ vs, v.oneCell' = true) →
    (storeCells ⟨g, o, none⟩ vs i).run P w = .ok () (w.setRow g (cur.toList.take (o + i) ++ vs ++ cur.toList.drop (o + i + vs.length)).toArray)
  | [], i, cur, w, _, hg, _, _ => by
    simp only [storeCells, List.append_nil, List.length_nil, Nat.add_zero, List.take_append_drop, Array.toArray_toList]
    rw [setRow_self w g cur t fz hg]
    rfl
  | v :: rest, i, cur, w, hn, hg, hl, h1 => by
    have hi : o + i < cur.size := by simp at hl; omega
    have hadd : (⟨g, o, none⟩ : Addr).add i = ⟨g, o + i, none⟩ := by unfold Addr.add; split <;> simp_all
    have hcell : w.cell? ⟨g, o + i, none⟩ = some cur[o + i] := by simp [World.cell?, hg, hi]
    have hfro : w.frozen? ⟨g, o + i, none⟩ = false := by
      have := hf (o + i) (by omega)
      simp only [World.frozen?, hg]
      rw [Bool.eq_false_iff]
      intro h
      simp only [Bool.and_eq_true, decide_eq_true_eq] at h
      exact this h
    have hst : (store ((⟨g, o, none⟩ : Addr).add i) v).run P w = .ok () (w.setRow g (cur.setIfInBounds (o + i) v)) := by
      rw [hadd, run_store P w _ v _ (h1 v (by simp)), hcell]
      simp [hfro, setCell_eq_setRow w g (o + i) cur t fz v hg]
    have ih := run_storeCells_fz P g o t hf rest (i + 1) (cur.setIfInBounds (o + i) v) (w.setRow g (cur.setIfInBounds (o + i) v)) (by simpa using hn) (setRow_heap w g cur _ t _ hg) (by simp at hl ⊢; omega) (fun x hx => h1 x (by simp [hx]))
    simp only [storeCells, Sem.run_bind, hst, Result.andThen_ok, ih, setRow_setRow]
    congr 3
    have e := list_seg_step cur.toList (o + i) v rest (by simp at hl ⊢; omega)
    simpa [Array.toList_setIfInBounds, Nat.add_assoc] using e
/-- One concrete block, that is no kept one, was written. -/
theorem Ext.of_write {ρ : Rho} {I : Nat → Prop} {w w1 : World} {cb : Nat} {c c' : Array Value} {e : TypeId} {fz : Nat × Nat} (hI : ¬ I cb) (hc : w.heap[cb]? = some (.cells c e fz))
    (h1 : w1.heap[cb]? = some (.cells c' e fz)) (hsz : c'.size = c.size) (hs : w1.heap.size = w.heap.size) (hoth : ∀ k, k ≠ cb → w1.heap[k]? = w.heap[k]?)
    {b0 base0 : Nat} (hb0 : ρ b0 = some (some (cb, base0))) (hos : w1.os = w.os) (ht : w1.tape = w.tape) (ho : w1.output = w.output) : Ext ρ I w ρ I w1 where
  rho _ _ h := h
  imm _ h := h
  size := by omega
  kept k hk := hoth k (fun e => hI (e ▸ hk))
  blocks k c2 e2 fz2 hk := by
    by_cases ek : k = cb
    · subst ek; rw [hc] at hk; cases hk; exact ⟨c', _, h1, hsz⟩
    · exact ⟨c2, fz2, by rw [hoth k ek]; exact hk, rfl⟩
  frame k _ hno := hoth k (fun e => hno b0 base0 (e ▸ hb0))
  newI _ h := .inl h
  newR _ _ _ h := .inl h
  os := hos
  tape := ht
  output := ho

theorem rel_write {ρ : Rho} {I : Nat → Prop} {H : Heap} {w w1 : World} (h : Rel ρ I H w.heap) {b : Nat} {cs cs' : List AV} {cb base : Nat} {c c' : Array Value} {e : TypeId} {fz : Nat × Nat}
    (hb : H.get b = some cs) (hr : ρ b = some (some (cb, base))) (hI : ¬ I cb) (hf : FzOk c.size fz) (hc : w.heap[cb]? = some (.cells c e fz))
    (h1 : w1.heap[cb]? = some (.cells c' e fz)) (hsz : c'.size = c.size) (hs : w1.heap.size = w.heap.size) (hoth : ∀ k, k ≠ cb → w1.heap[k]? = w.heap[k]?)
    (hos : w1.os = w.os) (ht : w1.tape = w.tape) (ho : w1.output = w.output)
    (hl : base + cs'.length ≤ c.size) (hv : ∀ i x, cs'[i]? = some x → VR ρ I w.heap x (c'.getD (base + i) Go.undef)) :
    Rel ρ I (H.set b cs') w1.heap ∧ Ext ρ I w ρ I w1 := by
  have hx : Ext ρ I w ρ I w1 := Ext.of_write hI hc h1 hsz hs hoth hr hos ht ho
  refine ⟨⟨?_, ?_, ?_, ?_, ?_, h.glob.ext hx.imm hx.kept⟩, hx⟩
  · intro b' cs2 hb'
    rw [Heap.get_set] at hb'
    by_cases e1 : b' = b
    · subst e1
      rw [if_pos rfl, hb] at hb'
      simp only [Option.map_some, Option.some.injEq] at hb'
      subst hb'
      exact .inr ⟨cb, base, c', e, hr, hI, ⟨fz, by rw [hsz]; exact hf, h1⟩, by omega, fun i x hx' => (hv i x hx').mono hx⟩
    · rw [if_neg e1] at hb'
      rcases h.live b' cs2 hb' with h2 | ⟨cb2, base2, c2, e2, h2, h3, ⟨fz4, hf4, h4⟩, h5, h6⟩
      · exact .inl h2
      · have hne : cb2 ≠ cb := fun e => e1 (h.inj _ _ _ _ _ _ _ hb' hb (e ▸ h2) hr)
        exact .inr ⟨cb2, base2, c2, e2, h2, h3, ⟨fz4, hf4, by rw [hoth _ hne]; exact h4⟩, h5, fun i x hx' => (h6 i x hx').mono hx⟩
  · intro b1 b2 cs1 cs2 cb' base1 base2 hb1 hb2 hr1 hr2
    have live : ∀ x csx, (H.set b cs').get x = some csx → ∃ csy, H.get x = some csy := by
      intro x csx hx'
      rw [Heap.get_set] at hx'
      split at hx'
      · rename_i e1; subst e1; exact ⟨cs, hb⟩
      · exact ⟨_, hx'⟩
    obtain ⟨_, k1⟩ := live _ _ hb1
    obtain ⟨_, k2⟩ := live _ _ hb2
    exact h.inj _ _ _ _ _ _ _ k1 k2 hr1 hr2
  · exact h.rng
  · intro b' cb' base' hb'
    obtain ⟨c2, e2, fz2, h2⟩ := h.at_ _ _ _ hb'
    obtain ⟨c3, fz3, h3, _⟩ := hx.blocks _ _ _ _ h2
    exact ⟨c3, e2, fz3, h3⟩
  · intro k hk; have := h.irng _ hk; omega

/-- Fewer blocks live. -/
theorem Rel.le {ρ : Rho} {I : Nat → Prop} {H H' : Heap} {hp : Array Obj} (h : Rel ρ I H hp) (hle : H'.le H) (hn : H.next ≤ H'.next) : Rel ρ I H' hp where
  live b cs hb := h.live b cs (hle b cs hb)
  inj b b' cs cs' cb base base' hb hb' := h.inj b b' cs cs' cb base base' (hle _ _ hb) (hle _ _ hb')
  rng b p hb := by have := h.rng b p hb; omega
  at_ := h.at_
  irng := h.irng
  glob := h.glob

theorem Heap.del_le (H : Heap) (b : Nat) : (H.del b).le H := fun x cs hx => by
  rw [Heap.get_del] at hx
  split at hx
  · cases hx
  · exact hx

/-- A block gives way to a new one that lies in the same concrete block: an append within the capacity. -/
theorem rel_regrow {ρ : Rho} {I : Nat → Prop} {H : Heap} {w w1 : World} (h : Rel ρ I H w.heap) {b : Nat} {cs cs' : List AV} {cb base base' : Nat} {c c' : Array Value} {e : TypeId} {fz : Nat × Nat}
    (hb : H.get b = some cs) (hr : ρ b = some (some (cb, base))) (hI : ¬ I cb) (hf : FzOk c.size fz) (hc : w.heap[cb]? = some (.cells c e fz))
    (h1 : w1.heap[cb]? = some (.cells c' e fz)) (hsz : c'.size = c.size) (hs : w1.heap.size = w.heap.size) (hoth : ∀ k, k ≠ cb → w1.heap[k]? = w.heap[k]?)
    (hos : w1.os = w.os) (ht : w1.tape = w.tape) (ho : w1.output = w.output)
    (hl : base' + cs'.length ≤ c.size) (hv : ∀ i x, cs'[i]? = some x → VR ρ I w.heap x (c'.getD (base' + i) Go.undef)) :
    Rel (ρ.upd H.next (some (cb, base'))) I ((H.del b).alloc cs') w1.heap ∧ Ext ρ I w (ρ.upd H.next (some (cb, base'))) I w1 := by
  have hx0 : Ext ρ I w ρ I w1 := Ext.of_write hI hc h1 hsz hs hoth hr hos ht ho
  have hx1 : Ext ρ I w1 (ρ.upd H.next (some (cb, base'))) I w1 :=
    { (Ext.refl ρ I w1) with
      rho := fun x q hx => by
        by_cases e : x = H.next
        · subst e; rw [h.fresh] at hx; cases hx
        · rw [Rho.upd_other _ _ e]; exact hx
      newR := fun x cb2 base2 hx => by
        by_cases e : x = H.next
        · subst e; rw [Rho.upd_same] at hx; cases hx; exact .inr (.inr ⟨_, _, hr⟩)
        · rw [Rho.upd_other _ _ e] at hx; exact .inl hx }
  have hx := hx0.trans hx1
  refine ⟨⟨?_, ?_, ?_, ?_, ?_, h.glob.ext hx.imm hx.kept⟩, hx⟩
  · intro b' cs2 hb'
    rw [Heap.get_regrow] at hb'
    by_cases e1 : b' = H.next
    · rw [if_pos e1] at hb'; cases hb'; subst e1
      exact .inr ⟨cb, base', c', e, Rho.upd_same _ _ _, hI, ⟨fz, by rw [hsz]; exact hf, h1⟩, by omega, fun i x hx' => (hv i x hx').mono hx⟩
    · rw [if_neg e1] at hb'
      split at hb'
      · cases hb'
      · rename_i e2
        rcases h.live b' cs2 hb' with h2 | ⟨cb2, base2, c2, e2', h2, h3, ⟨fz4, hf4, h4⟩, h5, h6⟩
        · exact .inl ⟨by rw [Rho.upd_other _ _ e1]; exact h2.1, h2.2⟩
        · have hne : cb2 ≠ cb := fun e => e2 (h.inj _ _ _ _ _ _ _ hb' hb (e ▸ h2) hr)
          exact .inr ⟨cb2, base2, c2, e2', by rw [Rho.upd_other _ _ e1]; exact h2, h3, ⟨fz4, hf4, by rw [hoth _ hne]; exact h4⟩, h5, fun i x hx' => (h6 i x hx').mono hx⟩
  · intro b1 b2 cs1 cs2 cb' base1 base2 hb1 hb2 hr1 hr2
    rw [Heap.get_regrow] at hb1 hb2
    by_cases e1 : b1 = H.next
    · by_cases e2 : b2 = H.next
      · rw [e1, e2]
      · rw [if_neg e2] at hb2
        rw [e1, Rho.upd_same] at hr1
        rw [Rho.upd_other _ _ e2] at hr2
        cases hr1
        split at hb2
        · cases hb2
        · rename_i e3; exact absurd (h.inj _ _ _ _ _ _ _ hb2 hb hr2 hr) e3
    · rw [if_neg e1] at hb1
      rw [Rho.upd_other _ _ e1] at hr1
      split at hb1
      · cases hb1
      · rename_i e4
        by_cases e2 : b2 = H.next
        · rw [e2, Rho.upd_same] at hr2
          cases hr2
          exact absurd (h.inj _ _ _ _ _ _ _ hb1 hb hr1 hr) e4
        · rw [if_neg e2] at hb2
          rw [Rho.upd_other _ _ e2] at hr2
          split at hb2
          · cases hb2
          · exact h.inj _ _ _ _ _ _ _ hb1 hb2 hr1 hr2
  · intro b' p hb'
    by_cases e1 : b' = H.next
    · subst e1; show H.next < H.next + 1; omega
    · rw [Rho.upd_other _ _ e1] at hb'; have := h.rng _ _ hb'; show b' < H.next + 1; omega
  · intro b' cb' base2 hb'
    by_cases e1 : b' = H.next
    · subst e1; rw [Rho.upd_same] at hb'; cases hb'; exact ⟨_, _, _, h1⟩
    · rw [Rho.upd_other _ _ e1] at hb'
      obtain ⟨c2, e2, fz2, h2⟩ := h.at_ _ _ _ hb'
      obtain ⟨c3, fz3, h3, _⟩ := hx.blocks _ _ _ _ h2
      exact ⟨c3, e2, fz3, h3⟩
  · intro k hk; have := h.irng _ hk; omega

/-- A new block with no memory behind it and no cells. -/
theorem rel_hollow {ρ : Rho} {I : Nat → Prop} {H : Heap} {w : World} (h : Rel ρ I H w.heap) :
    Rel (ρ.upd H.next none) I (H.alloc []) w.heap ∧ Ext ρ I w (ρ.upd H.next none) I w := by
  have hx : Ext ρ I w (ρ.upd H.next none) I w :=
    { (Ext.refl ρ I w) with
      rho := fun x q hx => by
        by_cases e : x = H.next
        · subst e; rw [h.fresh] at hx; cases hx
        · rw [Rho.upd_other _ _ e]; exact hx
      newR := fun x cb2 base2 hx => by
        by_cases e : x = H.next
        · subst e; rw [Rho.upd_same] at hx; cases hx
        · rw [Rho.upd_other _ _ e] at hx; exact .inl hx }
  refine ⟨⟨?_, ?_, ?_, ?_, ?_, h.glob.ext hx.imm hx.kept⟩, hx⟩
  · intro b cs hb
    rw [Heap.get_alloc] at hb
    by_cases e1 : b = H.next
    · rw [if_pos e1] at hb; cases hb; subst e1; exact .inl ⟨Rho.upd_same _ _ _, rfl⟩
    · rw [if_neg e1] at hb
      rcases h.live b cs hb with h2 | ⟨cb2, base2, c2, e2', h2, h3, h4, h5, h6⟩
      · exact .inl ⟨by rw [Rho.upd_other _ _ e1]; exact h2.1, h2.2⟩
      · exact .inr ⟨cb2, base2, c2, e2', by rw [Rho.upd_other _ _ e1]; exact h2, h3, h4, h5, fun i x hx' => (h6 i x hx').mono hx⟩
  · intro b1 b2 cs1 cs2 cb base1 base2 hb1 hb2 hr1 hr2
    rw [Heap.get_alloc] at hb1 hb2
    by_cases e1 : b1 = H.next
    · rw [e1, Rho.upd_same] at hr1; cases hr1
    · by_cases e2 : b2 = H.next
      · rw [e2, Rho.upd_same] at hr2; cases hr2
      · rw [if_neg e1] at hb1
        rw [if_neg e2] at hb2
        rw [Rho.upd_other _ _ e1] at hr1
        rw [Rho.upd_other _ _ e2] at hr2
        exact h.inj _ _ _ _ _ _ _ hb1 hb2 hr1 hr2
  · intro b' p hb'
    by_cases e1 : b' = H.next
    · subst e1; show H.next < H.next + 1; omega
    · rw [Rho.upd_other _ _ e1] at hb'; have := h.rng _ _ hb'; show b' < H.next + 1; omega
  · intro b' cb' base2 hb'
    by_cases e1 : b' = H.next
    · subst e1; rw [Rho.upd_same] at hb'; cases hb'
    · rw [Rho.upd_other _ _ e1] at hb'; exact h.at_ _ _ _ hb'
  · exact h.irng

end Go.Fl
