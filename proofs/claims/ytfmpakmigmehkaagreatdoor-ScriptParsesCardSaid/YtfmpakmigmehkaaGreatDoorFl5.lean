/- Building values, slices, growing slices. -/
import Derived.Test.YtfmpakmigmehkaaGreatDoorFl3
set_option linter.unusedVariables false
set_option linter.unusedSimpArgs false
noncomputable section Fl5S
namespace Go.Fl
open Go

theorem fill_fold (off : Nat) : ∀ (xs : List Value) (k : Nat) (arr : Array Value),
    ((xs.zipIdx k).foldl (fun (cs : Array Value) (p : Value × Nat) => cs.setIfInBounds (off + p.2) p.1) arr).size = arr.size ∧
    ∀ i, off + k + xs.length ≤ arr.size → ((xs.zipIdx k).foldl (fun (cs : Array Value) (p : Value × Nat) => cs.setIfInBounds (off + p.2) p.1) arr).getD i Go.undef =
      if i < off + k then arr.getD i Go.undef else if i < off + k + xs.length then xs.toArray.getD (i - (off + k)) Go.undef else arr.getD i Go.undef
  | [], k, arr => by
    refine ⟨by simp, fun i hi => ?_⟩
    simp only [List.zipIdx_nil, List.foldl_nil, List.length_nil, Nat.add_zero]
    split
    · rfl
    · rfl
  | x :: xs, k, arr => by
    obtain ⟨h1, h2⟩ := fill_fold off xs (k + 1) (arr.setIfInBounds (off + k) x)
    simp only [List.zipIdx_cons, List.foldl_cons]
    refine ⟨by simpa using h1, fun i hi => ?_⟩
    simp only [List.length_cons] at hi
    rw [h2 i (by simp; omega)]
    have hset : ∀ j, (arr.setIfInBounds (off + k) x).getD j Go.undef = if j = off + k then x else arr.getD j Go.undef := by
      intro j
      simp only [Array.getD_eq_getD_getElem?]
      rw [Array.getElem?_setIfInBounds]
      by_cases e : off + k = j
      · rw [if_pos e, if_pos e.symm, if_pos (by omega)]; rfl
      · rw [if_neg e, if_neg (by omega)]
    rw [hset]
    simp only [List.length_cons]
    by_cases c1 : i < off + k
    · rw [if_pos (by omega), if_neg (by omega), if_pos c1]
    · by_cases c2 : i = off + k
      · rw [if_pos (by omega), if_pos c2, if_neg c1, if_pos (by omega)]
        have : i - (off + k) = 0 := by omega
        rw [this]; rfl
      · rw [if_neg (by omega), if_neg c1]
        by_cases c3 : i < off + (k + 1) + xs.length
        · rw [if_pos c3, if_pos (by omega)]
          have : i - (off + k) = (i - (off + (k + 1))) + 1 := by omega
          rw [this]
          simp only [Array.getD_eq_getD_getElem?, List.getElem?_toArray, List.getElem?_cons_succ]
        · rw [if_neg c3, if_neg c2, if_neg (by omega)]

def afill (place : Nat → Option (Nat × Nat)) (cells : List AV) : List (Nat × AV) → Option (List AV)
  | [] => some cells
  | (i, v) :: rest =>
    match place i with
    | some (off, size) => (acells v).bind fun cs => if cs.length = size ∧ off + cs.length ≤ cells.length then afill place (splice cells off cs) rest else none
    | none => none

section
variable {P : Program} {ρ : Rho} {I : Nat → Prop} {H : Heap} {w : World}

theorem afill_run (place : Nat → Option (Nat × Nat)) : ∀ (parts : List (Nat × AV)) (cparts : List (Nat × Value)) (cells : List AV) (arr : Array Value) (r : List AV),
    VRs ρ I w.heap cells arr → parts.length = cparts.length → (∀ (j i : Nat) (x : AV), parts[j]? = some (i, x) → ∃ v, cparts[j]? = some (i, v) ∧ VR ρ I w.heap x v) →
    afill place cells parts = some r → ∃ r', Instr.fill place arr cparts = some r' ∧ VRs ρ I w.heap r r'
  | [], cparts, cells, arr, r, hv, hl, hp, h => by
    simp only [afill, Option.some.injEq] at h
    subst h
    match cparts, hl with
    | [], _ => exact ⟨arr, rfl, hv⟩
  | (i, x) :: parts, cparts, cells, arr, r, hv, hl, hp, h => by
    match cparts, hl with
    | (i', v) :: cparts, hl =>
      obtain ⟨v', hv1, hv2⟩ := hp 0 i x rfl
      simp only [List.getElem?_cons_zero, Option.some.injEq, Prod.mk.injEq] at hv1
      obtain ⟨rfl, rfl⟩ := hv1
      simp only [afill] at h
      cases hpl : place i' with
      | none => simp [hpl] at h
      | some q =>
        obtain ⟨off, size⟩ := q
        simp only [hpl] at h
        cases ha : acells x with
        | none => simp [ha] at h
        | some cs =>
          simp only [ha, Option.bind_some] at h
          split at h
          · rename_i hle
            have hcs := acells_VRs ha hv2
            have hsz : v.cells.size = size := by rw [← hcs.1]; exact hle.1
            have harr := hv.1
            obtain ⟨f1, f2⟩ := fill_fold off v.cells.toList 0 arr
            have hnext := afill_run place parts cparts (splice cells off cs) ((v.cells.toList.zipIdx 0).foldl (fun (cs : Array Value) (p : Value × Nat) => cs.setIfInBounds (off + p.2) p.1) arr) r
              ⟨by rw [splice_length hle.2, f1]; exact harr, fun k y hy => by
                rw [splice_get hle.2] at hy
                rw [f2 k (by simp only [Array.length_toList]; omega)]
                simp only [Nat.add_zero, Array.length_toList]
                by_cases c1 : k < off
                · rw [if_pos c1] at hy ⊢; exact hv.2 _ _ hy
                · rw [if_neg c1] at hy ⊢
                  by_cases c2 : k < off + cs.length
                  · rw [if_pos c2] at hy; rw [if_pos (by have := hcs.1; omega)]; simpa using hcs.2 _ _ hy
                  · rw [if_neg c2] at hy; rw [if_neg (by have := hcs.1; omega)]; exact hv.2 _ _ hy⟩
              (by simpa using hl) (fun j i x hx => hp (j + 1) i x hx) h
            obtain ⟨r', h1, h2⟩ := hnext
            refine ⟨r', ?_, h2⟩
            simp only [Instr.fill, hpl]
            rw [if_neg (by simp only [hsz, ne_eq, not_true_eq_false, decide_false, Bool.false_or, decide_eq_true_eq]; have := hle.1; have := hle.2; omega)]
            have e : v.cells.zipIdx.foldl (fun (x : Array Value) (x_1 : Value × Nat) => x.setIfInBounds (off + x_1.2) x_1.1) arr =
                (v.cells.toList.zipIdx 0).foldl (fun (cs : Array Value) (p : Value × Nat) => cs.setIfInBounds (off + p.2) p.1) arr := by
              rw [← Array.foldl_toList, Array.toList_zipIdx]
            rw [← h1]
            exact congrArg (fun a => Instr.fill place a cparts) e
          · cases h

/-- Where a struct's fields lie: from which cell on, how many. -/
def placesOf (P : Program) (t : TypeId) : Option (List (Nat × Nat)) :=
  match P.underlying t with
  | some (.struct fields) => fields.toList.mapM fun (f : Field) => (P.info? f.type).map fun i => (f.offset, i.size)
  | _ => none

/-- A struct or an array of parts. -/
def abuild (P : Program) (t : TypeId) (parts : List (Nat × AV)) : Option AV :=
  match P.underlying t with
  | some (.array _ e) => (csz P e).bind fun n => (zeroC P t).bind fun zs => (afill (fun i => some (i * n, n)) zs parts).map .agg
  | some (.struct _) => (placesOf P t).bind fun places =>
      (zeroC P t).bind fun zs => (afill (fun i => places[i]?) zs parts).map .agg
  | _ => none

theorem zeroC_info {t : TypeId} {zs : List AV} (h : zeroC P t = some zs) : ∃ i z, P.info? t = some i ∧ i.zero = some z ∧ zs = z.cells.toList.map .sc := by
  unfold zeroC at h
  cases hi : P.info? t with
  | none => simp [hi] at h
  | some i =>
    cases hz : i.zero with
    | none => simp [hi, hz] at h
    | some z => simp [hi, hz] at h; exact ⟨i, z, rfl, hz, h.symm⟩

theorem VRs_scs (c : Array Value) : VRs ρ I w.heap (c.toList.map .sc) c := by
  have := VRs_sc (ρ := ρ) (I := I) (hp := w.heap) c.toList
  simpa using this

theorem abuild_run {t : TypeId} {parts : List (Nat × AV)} {cparts : List (Nat × Value)} {x : AV} (hl : parts.length = cparts.length)
    (hp : ∀ (j i : Nat) (x : AV), parts[j]? = some (i, x) → ∃ v, cparts[j]? = some (i, v) ∧ VR ρ I w.heap x v) (h : abuild P t parts = some x) :
    ∃ u, (Instr.build t cparts.toArray).run P w = .ok u w ∧ VR ρ I w.heap x u := by
  have key : ∃ cells, P.built t cparts = some cells ∧ ∃ cs, x = .agg cs ∧ VRs ρ I w.heap cs cells := by
    unfold abuild at h
    unfold Program.built
    cases hu : P.underlying t with
    | none => simp [hu] at h
    | some d =>
      cases d <;> simp only [hu] at h <;> try (cases h; done)
      · rename_i n e
        unfold csz at h
        cases hie : P.info? e with
        | none => simp [hie] at h
        | some ie =>
          cases hz : zeroC P t with
          | none => simp [hie, hz] at h
          | some zs =>
            obtain ⟨i, z, h1, h2, rfl⟩ := zeroC_info hz
            simp only [hie, Option.map_some, Option.bind_some, hz, Option.map_eq_some_iff] at h
            obtain ⟨cs, h3, rfl⟩ := h
            obtain ⟨r', h4, h5⟩ := afill_run _ parts cparts _ z.cells cs (VRs_scs _) hl hp h3
            exact ⟨r', by simp [h1, h2, hie, h4], cs, rfl, h5⟩
      · rename_i fields
        unfold placesOf at h
        simp only [hu] at h
        cases hpl : fields.toList.mapM (fun f => (P.info? f.type).map fun i => (f.offset, i.size)) with
        | none => simp [hpl] at h
        | some places =>
          cases hz : zeroC P t with
          | none => simp [hpl, hz] at h
          | some zs =>
            obtain ⟨i, z, h1, h2, rfl⟩ := zeroC_info hz
            simp only [hpl, Option.bind_some, hz, Option.map_eq_some_iff] at h
            obtain ⟨cs, h3, rfl⟩ := h
            obtain ⟨r', h4, h5⟩ := afill_run _ parts cparts _ z.cells cs (VRs_scs _) hl hp h3
            have h4' : Instr.fill (fun x => places[x]?) z.cells cparts = some r' := h4
            exact ⟨r', by simp [h1, h2, hpl, h4'], cs, rfl, h5⟩
  obtain ⟨cells, h1, cs, rfl, h2⟩ := key
  exact ⟨.agg cells, run_build w t cparts.toArray cells (by simpa using h1), .agg h2.1 h2.2⟩

/-- So many zero cells. -/
def zrep (zs : List AV) (n : Nat) : List AV := (List.range n).map fun i => (zs[i % zs.length]?).getD .top

theorem zrep_run (z : Value) (hz : z.cells.size ≠ 0) (n : Nat) : VRs ρ I w.heap (zrep (z.cells.toList.map .sc) n) ((Array.range n).map fun i => z.cells[i % z.cells.size]!) := by
  refine ⟨by simp [zrep], fun i x hx => ?_⟩
  simp only [zrep, List.getElem?_map, Option.map_eq_some_iff, List.length_map, Array.length_toList] at hx
  obtain ⟨j, hj, rfl⟩ := hx
  have hlt := (List.getElem?_eq_some_iff.1 hj).1
  simp only [List.length_range] at hlt
  have hji : j = i := by
    rw [List.getElem?_range hlt] at hj; simpa using hj.symm
  subst hji
  have hm : j % z.cells.size < z.cells.size := Nat.mod_lt _ (by omega)
  have e1 : ((Array.range n).map fun i => z.cells[i % z.cells.size]!).getD j Go.undef = z.cells[j % z.cells.size] := by
    simp [Array.getD_eq_getD_getElem?, hlt, hm]
  rw [e1]
  have e2 : (z.cells.toList.map AV.sc)[j % z.cells.size]? = some (.sc z.cells[j % z.cells.size]) := by
    simp [hm]
  rw [List.getElem?_map] at e2
  rw [e2]
  exact .sc _

def abuildSlice (P : Program) (H : Heap) (t : TypeId) (len : Nat) (parts : List (Nat × AV)) : Option (AV × Heap) :=
  match P.underlying t with
  | some (.slice e) => (csz P e).bind fun n => (zeroC P e).bind fun zs =>
    if len * n ≤ 2 ^ 24 ∧ zs ≠ [] then (afill (fun i => some (i * n, n)) (zrep zs (len * n)) parts).map fun cells => (.ms H.next 0 len n, H.alloc cells) else none
  | _ => none

theorem abuildSlice_run (hr : Rel ρ I H w.heap) {t : TypeId} {len : Nat} {parts : List (Nat × AV)} {cparts : List (Nat × Value)} {x : AV} {H' : Heap} (hl : parts.length = cparts.length)
    (hp : ∀ (j i : Nat) (x : AV), parts[j]? = some (i, x) → ∃ v, cparts[j]? = some (i, v) ∧ VR ρ I w.heap x v) (h : abuildSlice P H t len parts = some (x, H')) :
    ∃ u w' ρ', (Instr.buildSlice t len cparts.toArray).run P w = .ok u w' ∧ VR ρ' I w'.heap x u ∧ Rel ρ' I H' w'.heap ∧ Ext ρ I w ρ' I w' := by
  unfold abuildSlice at h
  cases hu : P.underlying t with
  | none => simp [hu] at h
  | some d =>
    cases d <;> simp only [hu] at h <;> try (cases h; done)
    rename_i e
    cases hn : csz P e with
    | none => simp [hn] at h
    | some n =>
      cases hz : zeroC P e with
      | none => simp [hn, hz] at h
      | some zs =>
        obtain ⟨i, z, h1, h2, rfl⟩ := zeroC_info hz
        simp only [hn, Option.bind_some, hz] at h
        split at h
        · rename_i hle
          obtain ⟨hle1, hle2⟩ := hle
          have hz0 : z.cells.size ≠ 0 := by
            intro e; apply hle2; have : z.cells = #[] := Array.size_eq_zero_iff.1 e; simp [this]
          simp only [Option.map_eq_some_iff, Prod.mk.injEq] at h
          obtain ⟨cells, h3, rfl, rfl⟩ := h
          obtain ⟨r', h4, h5⟩ := afill_run _ parts cparts _ ((Array.range (len * n)).map fun i => z.cells[i % z.cells.size]!) cells (zrep_run z hz0 _) hl hp h3
          have hsz : r'.size = cells.length := h5.1.symm
          have hcl : ∀ (place : Nat → Option (Nat × Nat)) (parts : List (Nat × AV)) (c r : List AV), afill place c parts = some r → r.length = c.length := by
            intro place parts
            induction parts with
            | nil => intro c r h; simp [afill] at h; rw [h]
            | cons q parts ih =>
              intro c r h
              obtain ⟨i, v⟩ := q
              simp only [afill] at h
              split at h
              · cases ha : acells v with
                | none => simp [ha] at h
                | some cs =>
                  simp only [ha, Option.bind_some] at h
                  split at h
                  · rename_i hh; rw [ih _ _ h, splice_length hh.2]
                  · cases h
              · cases h
          have hcells : cells.length = len * n := by rw [hcl _ _ _ _ h3]; simp [zrep]
          let w1 : World := w.alloc (.cells r' e)
          obtain ⟨k1, k2⟩ := rel_alloc (w1 := w1) hr (cs := cells) (c := r') (e := e) rfl rfl rfl rfl (by omega) h5.2
          have hnew : w1.heap[w.heap.size]? = some (.cells r' e (0, 0)) := by show (w.heap.push _)[w.heap.size]? = _; simp
          refine ⟨.slice (some ⟨w.heap.size, 0, none⟩) len len, w1, _, ?_, ?_, k1, k2⟩
          · have hbig : ¬ (len * n > 2 ^ 24) := by omega
            by_cases h0 : len * n = 0
            · rw [h0] at h4
              have er : Array.range 0 = #[] := by apply Array.ext <;> simp
              have h4' : Instr.fill (fun i => some (i * n, n)) #[] cparts = some r' := by rw [er, Array.map_empty] at h4; exact h4
              have e0 : (Array.range 0).map (fun (_ : Nat) => (default : Value)) = #[] := by rw [er, Array.map_empty]
              simp [Instr.buildSlice, run_underlying hu, csz_run P hn, h0, newRow, e0, h4', w1]
            · have hz' : (zeroValue e).run P w = .ok z w := by simp [zeroValue, typeInfo, h1, h2]
              simp [Instr.buildSlice, run_underlying hu, csz_run P hn, hbig, h0, hz', newRow, h4, w1]
          · have := VR.ms (ρ := ρ.upd H.next (some (w.heap.size, 0))) (I := I) (hp := w1.heap) (b := H.next) (off := 0) (len := len) (sz := n) (cap := len) (Rho.upd_same _ _ _) (Nat.le_refl _) hnew (by omega)
            simpa using this
        · cases h

end
end Go.Fl
end Fl5S

noncomputable section Fl6S
namespace Go.Fl
open Go

section
variable {P : Program} {ρ : Rho} {I : Nat → Prop} {H : Heap} {w : World}

/-- The first m elements of a slice, as the machine reads them. -/
theorem sliceCells_run (hr : Rel ρ I H w.heap) {sz n : Nat} {x : AV} {cs : List AV} {v : Value} (h : sliceCells H sz x = some (n, cs)) (hv : VR ρ I w.heap x v) :
    cs.length = n * sz ∧ (Builtin.lenOf v).run P w = .ok n w ∧ (∃ a cap, v = .slice a n cap) ∧
    ∀ m, m ≤ n → ∃ ys : Array Value, (Builtin.firstCells sz m v).run P w = .ok ys w ∧ VRs ρ I w.heap (cs.take (m * sz)) ys := by
  have none0 : ∀ (a : Option Addr) (cap : Nat), (Builtin.firstCells sz 0 (.slice a 0 cap)).run P w = .ok #[] w := by
    intro a cap
    cases a with
    | none => simp [Builtin.firstCells]
    | some a => exact run_firstCells_some (P := P) w sz 0 a 0 cap [] (by simp) (by simp)
  have row : ∀ (cb off len cap : Nat) (c : Array Value) (e : TypeId) (fz : Nat × Nat) (cells : List AV), w.heap[cb]? = some (.cells c e fz) → cells.length = len * sz → off + cells.length ≤ c.size →
      (∀ i x, cells[i]? = some x → VR ρ I w.heap x (c.getD (off + i) Go.undef)) → ∀ m, m ≤ len →
      ∃ ys : Array Value, (Builtin.firstCells sz m (.slice (some ⟨cb, off, none⟩) len cap)).run P w = .ok ys w ∧ VRs ρ I w.heap (cells.take (m * sz)) ys := by
    intro cb off len cap c e fz cells hb hl ho hc m hm
    have hm' : m * sz ≤ cells.length := by rw [hl]; exact Nat.mul_le_mul_right _ hm
    refine ⟨((c.toList.drop off).take (m * sz)).toArray, ?_, ?_⟩
    · refine run_firstCells_some (P := P) w sz m ⟨cb, off, none⟩ len cap _ (by simp; omega) ?_
      intro j y hy
      rw [add_plain]
      have hj : j < m * sz := by
        have := (List.getElem?_eq_some_iff.1 hy).1
        simp at this; omega
      rw [List.getElem?_take_of_lt hj, List.getElem?_drop] at hy
      simp only [World.cell?, hb]
      simpa using hy
    · refine ⟨by simp; omega, fun i x hx => ?_⟩
      have hi : i < m * sz := by
        have := (List.getElem?_eq_some_iff.1 hx).1
        simp at this; omega
      rw [List.getElem?_take_of_lt hi] at hx
      have := hc _ _ hx
      have e1 : ((c.toList.drop off).take (m * sz)).toArray.getD i Go.undef = c.getD (off + i) Go.undef := by
        rw [Array.getD_eq_getD_getElem?, Array.getD_eq_getD_getElem?, List.getElem?_toArray, List.getElem?_take_of_lt hi, List.getElem?_drop, Array.getElem?_toList]
      rw [e1]; exact this
  cases hv with
  | sc =>
    unfold sliceCells at h
    split at h
    case h_2 => rename_i heq; cases heq
    case h_3 => rename_i heq; cases heq
    case h_4 => cases h
    rename_i heq
    cases heq
    simp only [Option.some.injEq, Prod.mk.injEq] at h
    obtain ⟨rfl, rfl⟩ := h
    refine ⟨by simp, by simp [Builtin.lenOf], ⟨_, _, rfl⟩, fun m hm => ?_⟩
    have : m = 0 := by omega
    subst this
    exact ⟨#[], none0 none 0, by simp [VRs]⟩
  | ms hb h1 h2 h3 =>
    rename_i b off len sz' cb base cap c0 e0 fz0
    simp only [sliceCells] at h
    split at h
    · rename_i hsz; subst hsz
      cases hg : H.get b with
      | none => simp [hg] at h
      | some cs0 =>
        simp only [hg, Option.bind_some] at h
        split at h
        · rename_i hle
          simp only [Option.some.injEq, Prod.mk.injEq] at h
          obtain ⟨rfl, rfl⟩ := h
          rcases hr.live _ _ hg with ⟨h4, _⟩ | ⟨cb', base', c, e, h4, _, ⟨fz6, _, h6⟩, h7, h8⟩
          · rw [hb] at h4; cases h4
          · rw [hb] at h4; cases h4
            refine ⟨by simp; omega, by simp [Builtin.lenOf], ⟨_, _, rfl⟩, ?_⟩
            refine row cb (base + off) len cap c e fz6 _ h6 (by simp; omega) (by simp; omega) (fun i x hx => ?_)
            have hi : i < len * sz' := by
              have := (List.getElem?_eq_some_iff.1 hx).1
              simp at this; omega
            rw [List.getElem?_take_of_lt hi, List.getElem?_drop] at hx
            have := h8 _ _ hx
            rw [Nat.add_assoc]; exact this
        · cases h
    · cases h
  | ms0 hb =>
    rename_i b off sz' p a
    simp only [sliceCells] at h
    split at h
    · rename_i hsz; subst hsz
      cases hg : H.get b with
      | none => simp [hg] at h
      | some cs0 =>
        simp only [hg, Option.bind_some] at h
        split at h
        · simp only [Option.some.injEq, Prod.mk.injEq] at h
          obtain ⟨rfl, rfl⟩ := h
          refine ⟨by simp, by simp [Builtin.lenOf], ⟨_, _, rfl⟩, fun m hm => ?_⟩
          have : m = 0 := by omega
          subst this
          exact ⟨#[], none0 _ _, by simp [VRs]⟩
        · cases h
    · cases h
  | vs0 =>
    simp only [sliceCells] at h
    split at h
    · simp only [Option.some.injEq, Prod.mk.injEq] at h
      obtain ⟨rfl, rfl⟩ := h
      refine ⟨by simp, by simp [Builtin.lenOf], ⟨_, _, rfl⟩, fun m hm => ?_⟩
      have : m = 0 := by omega
      subst this
      exact ⟨#[], none0 _ _, by simp [VRs]⟩
    · cases h
  | vs hI hcp hb h4 h5 h6 =>
    simp only [sliceCells] at h
    split at h
    · rename_i hcond
      simp only [Option.some.injEq, Prod.mk.injEq] at h
      obtain ⟨rfl, rfl⟩ := h
      simp only [Bool.and_eq_true, decide_eq_true_eq, beq_iff_eq] at hcond
      obtain ⟨rfl, hc2⟩ := hcond
      refine ⟨h4, by simp [Builtin.lenOf], ⟨_, _, rfl⟩, ?_⟩
      exact row _ _ _ _ _ _ _ _ hb h4 h5 h6
    · cases h
  | _ => simp [sliceCells] at h

/-- Whatever is no integer: append of values, not of a make. -/
def notInt : Option TypeDesc → Bool
  | some (.int _) | none => false
  | some _ => true

/-- What is appended: how many elements, their cells. -/
def source (P : Program) (H : Heap) (sz : Nat) (u : TypeId) (x : AV) : Option (Nat × List AV) :=
  match P.underlying u, x with
  | some .string, .sc (.string s) => if sz = 1 then some (s.size, s.data.toList.map fun b => .sc (.int .u8 b.toNat)) else none
  | some (.slice _), x => sliceCells H sz x
  | _, _ => none

theorem source_run (hr : Rel ρ I H w.heap) {sz n : Nat} {u : TypeId} {x : AV} {cs : List AV} {v : Value} (h : source P H sz u x = some (n, cs)) (hv : VR ρ I w.heap x v) :
    cs.length = n * sz ∧ (P.underlying u = some .string ∨ ∃ e', P.underlying u = some (.slice e')) ∧ (Builtin.lenOf v).run P w = .ok n w ∧
    ∃ ys : Array Value, (Builtin.firstCells sz n v).run P w = .ok ys w ∧ VRs ρ I w.heap cs ys := by
  unfold source at h
  split at h
  · rename_i s hu
    split at h
    · rename_i hsz; subst hsz
      simp only [Option.some.injEq, Prod.mk.injEq] at h
      obtain ⟨rfl, rfl⟩ := h
      cases hv.eq_sc
      refine ⟨by simp only [List.length_map, Array.length_toList, Nat.mul_one]; rfl, .inl hu, by simp [Builtin.lenOf], (s.data.toList.map fun (b : UInt8) => Value.int .u8 (b.toNat : Int)).toArray, ?_, ?_⟩
      · have e : (s.extract 0 s.size).data = s.data := by
          simp only [ByteArray.data_extract]
          exact Array.extract_size
        have e2 : s.data.map (fun (b : UInt8) => Value.int .u8 (b.toNat : Int)) = (s.data.toList.map fun (b : UInt8) => Value.int .u8 (b.toNat : Int)).toArray := by
          apply Array.ext'; simp
        show Result.ok ((s.extract 0 s.size).data.map fun (b : UInt8) => Value.int .u8 (b.toNat : Int)) w = _
        rw [e, e2]
      · have := VRs_sc (ρ := ρ) (I := I) (hp := w.heap) (s.data.toList.map fun (b : UInt8) => Value.int .u8 (b.toNat : Int))
        rw [List.map_map] at this
        exact this
    · cases h
  · rename_i e hu
    obtain ⟨h1, h2, _, h3⟩ := sliceCells_run (P := P) hr h hv
    obtain ⟨ys, h4, h5⟩ := h3 n (Nat.le_refl _)
    rw [← h1, List.take_length] at h5
    exact ⟨h1, .inr ⟨_, hu⟩, h2, ys, h4, h5⟩
  · cases h

theorem append_grow_run {t u ty e : TypeId} {i : TypeInfo} {z : Value} (ht : P.underlying t = some (.slice e)) (hu : P.underlying u = some .string ∨ ∃ e', P.underlying u = some (.slice e'))
    (hi : P.info? e = some i) (hz : i.zero = some z) {base : Option Addr} {sLen sCap n : Nat} {x : Value} {olds news : Array Value}
    (hlen : (Builtin.lenOf x).run P w = .ok n w) (ho : (Builtin.firstCells i.size sLen (.slice base sLen sCap)).run P w.drew = .ok olds w.drew)
    (hn : (Builtin.firstCells i.size n x).run P w.drew = .ok news w.drew) (hg : sCap < sLen + n) (hb : (sLen + n) * i.bytes ≤ 140737488355328) (h63 : sLen + n ≤ 140737488355328) :
    (Builtin.append_ #[t, u] ty #[.slice base sLen sCap, x]).run P w =
      .ok (.slice (some ⟨w.heap.size, 0, none⟩) (sLen + n) (grownCap w (sLen + n) sCap e))
        (w.drew.alloc (.cells (olds ++ news ++ Builtin.zeroCells z.cells (grownCap w (sLen + n) sCap e - (sLen + n))) e)) := by
  have hn' : ¬ (sLen + n ≤ sCap) := by omega
  have hfit := growslice_fits hg hb
  have h63' : ¬ (9223372036854775807 < ((sLen : Int) + (n : Int))) := by omega
  have h48' : ¬ (281474976710656 < Builtin.nextslicecap (sLen + n) sCap * i.bytes) := by omega
  rcases hu with hu | ⟨e', hu⟩
  · simp [Builtin.append_, run_underlying ht, run_underlying hu, sizeOf, typeInfo, zeroValue, hi, hz, hlen, hn', h63', h48', Question.forced, ho, hn, newRow, grownCap]
  · simp [Builtin.append_, run_underlying ht, run_underlying hu, sizeOf, typeInfo, zeroValue, hi, hz, hlen, hn', h63', h48', Question.forced, ho, hn, newRow, grownCap]

end
end Go.Fl
end Fl6S
