/- Freezing at a call: what lies in the heap is handed over as kept. -/
import Derived.Test.YtfmpakmigmehkaaGreatDoorFl24
import Derived.Carry
import Derived.WideKeyArgs
set_option linter.unusedVariables false
set_option linter.unusedSimpArgs false
noncomputable section Fl29S
namespace Go.Fl
open Go

theorem scalls_freeze {P : Program} {f : FuncId} {args args' : List AV} {H H' H'' : Heap} {r : AV} (hle : H'.le H) (hn : H.next = H'.next) (ha : FrozL H (fun b => H'.get b = none) args args') (h : SCalls P f args' H' r H'') : SCalls P f args H r H'' := by
  refine ⟨h.1, by rw [hn]; exact h.2.1, fun ρ I w cargs hrel hargs => ?_⟩
  have hrel' : Rel ρ (keptBy ρ I H H') H' w.heap := hrel.keep hle (by omega)
  have hargs' : VRs ρ (keptBy ρ I H H') w.heap args' cargs := by
    refine ⟨by rw [← ha.get.1]; exact hargs.1, fun i x hx => ?_⟩
    have hi : i < args.length := by rw [ha.get.1]; exact (List.getElem?_eq_some_iff.1 hx).1
    have hy : args[i]? = some args[i] := List.getElem?_eq_getElem hi
    exact (ha.get.2 i x _ hx hy).vr hrel (hargs.2 i _ hy)
  refine (h.2.2 _ _ w cargs hrel' hargs').mono ?_
  rintro e w' ⟨v, ρ', I', he, hv, hr', hx⟩
  refine ⟨v, ρ', I', he, hv, hr', { hx with imm := fun cb hcb => hx.imm cb (.inl hcb), kept := fun cb hcb => hx.kept cb (.inl hcb), newI := fun cb hcb => ?_ }⟩
  rcases hx.newI cb hcb with h1 | h1 | h1
  · rcases h1 with h1 | ⟨b, cs, base, _, _, h4⟩
    · exact .inl h1
    · exact .inr (.inr ⟨_, _, h4⟩)
  · exact .inr (.inl h1)
  · exact .inr (.inr h1)

/-- A slice in the heap, handed to a function that is pure: the block is given up. -/
theorem scalls_give {P : Program} {f : FuncId} {args' : List AV} {r : AV} (h : SCalls P f args' Heap.empty r Heap.empty) (ha' : ∀ x ∈ args', x.Lt 0) (hr : r.Lt 0) {H : Heap} {args : List AV} {b : Nat} (ha : FrozL H (fun k => (H.del b).get k = none) args args') : SCalls P f args H r (H.del b) :=
  scalls_freeze (H' := H.del b) (fun k cs hk => by rw [Heap.get_del] at hk; split at hk; cases hk; exact hk) rfl ha (scalls_frame h ha' hr _)

end Go.Fl
end Fl29S

noncomputable section Fl30S
namespace Go.Fl
open Go

theorem scode_forget {P : Program} {sz : Nat} {c : Code} {Q : Exit → Env → Heap → Prop} {env env' : Env} {H : Heap} (h : SCode P sz c Q env' H) (hf : ∀ i, i < sz → env' i = .top ∨ env' i = env i) (hu : ∀ i, sz ≤ i → env' i = .undef) : SCode P sz c Q env H :=
  fun ρ I w a Q' hr he hq => h ρ I w a Q' hr ⟨he.size, he.defers, fun i => by
    by_cases hi : i < sz
    · rcases hf i hi with h1 | h1
      · rw [h1]; exact .top _
      · rw [h1]; exact he.val i
    · rw [hu i (by omega)]
      have : a.tmps.getD i Go.undef = Go.undef := by
        rw [Array.getD_eq_getD_getElem?, Array.getElem?_eq_none (by rw [he.size]; omega)]; rfl
      rw [this]; exact .sc _, he.glob⟩ hq

/-- All slots below n unknown. -/
def tops : Nat → ET
  | 0 => .leaf
  | n + 1 => (tops n).put n (some .top)

theorem tops_get : ∀ (n i : Nat), (tops n).get i = if i < n then some .top else none
  | 0, i => by rw [if_neg (by omega)]; rfl
  | n + 1, i => by
    rw [tops, Tr.get_put, tops_get n i]
    by_cases h : i = n
    · rw [if_pos h, if_pos (by omega)]
    · rw [if_neg h]
      by_cases h2 : i < n
      · rw [if_pos h2, if_pos (by omega)]
      · rw [if_neg h2, if_neg (by omega)]

/-- A frame of which these slots are known. -/
def known (sz : Nat) : List (Nat × AV) → ET
  | [] => tops sz
  | (k, x) :: r => (known sz r).put k (some x)

theorem known_fn (sz : Nat) (env : Env) : ∀ (l : List (Nat × AV)), (∀ p ∈ l, p.1 < sz ∧ env p.1 = p.2) → (∀ i, i < sz → (known sz l).fn i = .top ∨ (known sz l).fn i = env i) ∧ ∀ i, sz ≤ i → (known sz l).fn i = .undef
  | [], _ => ⟨fun i hi => .inl (by simp only [known, ET.fn, tops_get, if_pos hi]; rfl), fun i hi => by simp only [known, ET.fn, tops_get, if_neg (by omega : ¬ i < sz)]; rfl⟩
  | (k, x) :: r, h => by
    obtain ⟨h1, h2⟩ := known_fn sz env r fun p hp => h p (List.mem_cons_of_mem _ hp)
    have hk := h (k, x) List.mem_cons_self
    refine ⟨fun i hi => ?_, fun i hi => ?_⟩
    · simp only [known, ET.fn, Tr.get_put]
      by_cases e : i = k
      · subst e; rw [if_pos rfl]; exact .inr hk.2.symm
      · rw [if_neg e]; exact h1 i hi
    · simp only [known, ET.fn, Tr.get_put]
      rw [if_neg (by have := hk.1; omega)]
      exact h2 i hi

/-- CODE RUN BY THE EVALUATOR: the calls by a table that holds. -/
theorem scode_known {P : Program} {sz n : Nat} {c : Code} {Q : Exit → Env → Heap → Prop} {env : Env} {H H' : Heap} {call : ACall} {e : Exit} {T' : ET} (l : List (Nat × AV)) (hm : P.follows .mixedOrders = true)
    (hc : ∀ k a H r H', call k a H = some (r, H') → SCalls P k a H r H') (hl : ∀ p ∈ l, p.1 < sz ∧ env p.1 = p.2) (h : ecode call P sz n c (known sz l) H = some (e, T', H')) (hq : Q e T'.fn H') : SCode P sz c Q env H :=
  scode_forget (ecode_sound hm hc n c Q _ H e T' H' h hq) (known_fn sz env l hl).1 (known_fn sz env l hl).2
end Go.Fl
end Fl30S

noncomputable section Fl31S
namespace Go.Fl
open Go

def tabCall : List (FuncId × List AV × AV) → ACall
  | [], _, _, _ => none
  | t :: r, k, args, H => cond (Nat.beq t.1 k && sameL deep t.2.1 args) (some (t.2.2, H)) (tabCall r k args H)

theorem tabCall_ok {P : Program} : ∀ (tab : List (FuncId × List AV × AV)), (∀ t ∈ tab, ∀ H, SCalls P t.1 t.2.1 H t.2.2 H) → ∀ k a H r H', tabCall tab k a H = some (r, H') → SCalls P k a H r H'
  | [], _, k, a, H, r, H', h => by simp [tabCall] at h
  | t :: rest, ht, k, a, H, r, H', h => by
    simp only [tabCall] at h
    cases hb : (Nat.beq t.1 k && sameL deep t.2.1 a) with
    | false => rw [hb] at h; exact tabCall_ok rest (fun t ht' => ht t (List.mem_cons_of_mem _ ht')) k a H r H' h
    | true =>
      rw [hb, cond_true] at h
      simp only [Bool.and_eq_true] at hb
      have e1 : t.1 = k := Nat.eq_of_beq_eq_true hb.1
      have e2 := (same_eq _).2 _ _ hb.2
      cases h
      rw [← e1, ← e2]
      exact ht t List.mem_cons_self _

def endsB (slot : Nat) (v : Value) : Option (Exit × ET × Heap) → Bool
  | some (.normal, T, _) => same deep (T.fn slot) (.sc v)
  | _ => false

theorem scode_slot {P : Program} {sz n : Nat} {c : Code} {Q : Exit → Env → Heap → Prop} {env : Env} {H : Heap} {call : ACall} (l : List (Nat × AV)) (slot : Nat) (v : Value) (hm : P.follows .mixedOrders = true)
    (hc : ∀ k a H r H', call k a H = some (r, H') → SCalls P k a H r H') (hl : ∀ p ∈ l, p.1 < sz ∧ env p.1 = p.2) (h : endsB slot v (ecode call P sz n c (known sz l) H) = true) (hq : ∀ env' H', env' slot = .sc v → Q .normal env' H') : SCode P sz c Q env H := by
  unfold endsB at h
  split at h
  · rename_i T H' hT
    exact scode_known l hm hc hl hT (hq _ _ ((same_eq _).1 _ _ h))
  · cases h
end Go.Fl
end Fl31S

noncomputable section Fl32S
namespace Go.Fl
open Go

section
variable {P : Program} {t : TypeId} {avs : List AV}

theorem Shp.int_inv {k : IntKind} (hu : P.underlying t = some (.int k)) (h : Shp P t avs) : ∃ n : Int, avs = [.sc (.int k n)] ∧ k.min ≤ n ∧ n ≤ k.max := by
  cases h with
  | int h1 h2 h3 => rw [hu] at h1; cases h1; exact ⟨_, rfl, h2, h3⟩
  | bool h1 => rw [hu] at h1; cases h1
  | str h1 _ => rw [hu] at h1; cases h1
  | sl h1 _ _ _ => rw [hu] at h1; cases h1
  | st h1 _ _ _ => rw [hu] at h1; cases h1

theorem Shp.bool_inv (hu : P.underlying t = some .bool) (h : Shp P t avs) : ∃ b : Bool, avs = [.sc (.bool b)] := by
  cases h with
  | int h1 h2 h3 => rw [hu] at h1; cases h1
  | bool h1 => exact ⟨_, rfl⟩
  | str h1 _ => rw [hu] at h1; cases h1
  | sl h1 _ _ _ => rw [hu] at h1; cases h1
  | st h1 _ _ _ => rw [hu] at h1; cases h1

theorem Shp.str_inv (hu : P.underlying t = some .string) (h : Shp P t avs) : ∃ s : ByteArray, avs = [.sc (.string s)] ∧ s.size ≤ maxLen := by
  cases h with
  | int h1 h2 h3 => rw [hu] at h1; cases h1
  | bool h1 => rw [hu] at h1; cases h1
  | str h1 h2 => exact ⟨_, rfl, h2⟩
  | sl h1 _ _ _ => rw [hu] at h1; cases h1
  | st h1 _ _ _ => rw [hu] at h1; cases h1

theorem Shp.sl_inv {e : TypeId} (hu : P.underlying t = some (.slice e)) (h : Shp P t avs) : ∃ rows : List (List AV), avs = [.vs rows.length (P.cellsOf e) rows.flatten] ∧ rows.length ≤ maxLen ∧ ∀ r ∈ rows, Shp P e r := by
  cases h with
  | int h1 h2 h3 => rw [hu] at h1; cases h1
  | bool h1 => rw [hu] at h1; cases h1
  | str h1 h2 => rw [hu] at h1; cases h1
  | sl h1 h2 h3 _ =>
    rw [hu] at h1; cases h1
    refine ⟨_, rfl, h2, fun r hr => ?_⟩
    obtain ⟨i, hi⟩ := List.getElem?_of_mem hr
    exact h3 i r hi
  | st h1 _ _ _ => rw [hu] at h1; cases h1

theorem Shp.st_inv {fs : Array Field} (hu : P.underlying t = some (.struct fs)) (h : Shp P t avs) : ∃ parts : List (List AV), avs = parts.flatten ∧ parts.length = fs.size ∧ ∀ (i : Nat) (f : Field) (p : List AV), fs[i]? = some f → parts[i]? = some p → Shp P f.type p := by
  cases h with
  | int h1 h2 h3 => rw [hu] at h1; cases h1
  | bool h1 => rw [hu] at h1; cases h1
  | str h1 h2 => rw [hu] at h1; cases h1
  | sl h1 _ _ _ => rw [hu] at h1; cases h1
  | st h1 h2 h3 _ => rw [hu] at h1; cases h1; exact ⟨_, rfl, h2, h3⟩

/-- A structure of given types of fields. -/
theorem Shp.st_parts {fs : Array Field} {ts : List TypeId} (hu : P.underlying t = some (.struct fs)) (hts : fs.toList.map (·.type) = ts) (h : Shp P t avs) : ∃ parts : List (List AV), avs = parts.flatten ∧ parts.length = ts.length ∧ ∀ (i : Nat) (u : TypeId) (p : List AV), ts[i]? = some u → parts[i]? = some p → Shp P u p := by
  obtain ⟨parts, h1, h2, h3⟩ := h.st_inv hu
  subst hts
  refine ⟨parts, h1, by simpa using h2, fun i u p hu hp => ?_⟩
  rw [List.getElem?_map] at hu
  cases hf : fs.toList[i]? with
  | none => rw [hf] at hu; cases hu
  | some f =>
    rw [hf] at hu; cases hu
    exact h3 i f p (by simpa using hf) hp

/-- The types of a structure's fields. -/
def fieldTypes (P : Program) (t : TypeId) : Option (List TypeId) :=
  match P.underlying t with
  | some (.struct fs) => some (fs.toList.map (·.type))
  | _ => none

theorem Shp.st_types {ts : List TypeId} (hu : fieldTypes P t = some ts) (h : Shp P t avs) : ∃ parts : List (List AV), avs = parts.flatten ∧ parts.length = ts.length ∧ ∀ (i : Nat) (u : TypeId) (p : List AV), ts[i]? = some u → parts[i]? = some p → Shp P u p := by
  unfold fieldTypes at hu
  split at hu
  · rename_i fs hf
    cases hu
    exact h.st_parts hf rfl
  · cases hu

theorem rows_map {α : Type} {f : α → List AV} {Q : α → Prop} : ∀ (rows : List (List AV)), (∀ r ∈ rows, ∃ x, r = f x ∧ Q x) → ∃ xs : List α, rows = xs.map f ∧ ∀ x ∈ xs, Q x
  | [], _ => ⟨[], rfl, fun x hx => by cases hx⟩
  | r :: rest, h => by
    obtain ⟨xs, h1, h2⟩ := rows_map rest fun r hr => h r (List.mem_cons_of_mem _ hr)
    obtain ⟨x, h3, h4⟩ := h r List.mem_cons_self
    refine ⟨x :: xs, by rw [List.map_cons, ← h1, ← h3], fun y hy => ?_⟩
    rcases List.mem_cons.1 hy with rfl | hy
    · exact h4
    · exact h2 y hy

theorem flatten_map_single {α : Type} (f : α → AV) (xs : List α) : (xs.map fun x => [f x]).flatten = xs.map f := by
  induction xs with
  | nil => rfl
  | cons x xs ih => rw [List.map_cons, List.flatten_cons, ih]; rfl
theorem flatten_map_flatMap {α : Type} (f : α → List AV) (xs : List α) : (xs.map f).flatten = xs.flatMap f := by
  rw [List.flatMap_def]

/-- A slice whose rows are known. -/
theorem Shp.sl_map {α : Type} {e : TypeId} {f : α → List AV} {Q : α → Prop} (hu : P.underlying t = some (.slice e)) (hr : ∀ r, Shp P e r → ∃ x, r = f x ∧ Q x) (h : Shp P t avs) : ∃ xs : List α, avs = [.vs xs.length (P.cellsOf e) (xs.flatMap f)] ∧ xs.length ≤ maxLen ∧ ∀ x ∈ xs, Q x := by
  obtain ⟨rows, h1, h2, h3⟩ := h.sl_inv hu
  obtain ⟨xs, h4, h5⟩ := rows_map rows fun r hr' => hr r (h3 r hr')
  subst h4
  refine ⟨xs, by rw [h1, List.length_map, flatten_map_flatMap], by simpa using h2, h5⟩

end
end Go.Fl
end Fl32S

noncomputable section Fl33S
namespace Go.Fl
open Go Go.RowKit Go.ChangeShapes

variable {H : Type} {enc : TypeId × Value → H} {P : Program} {t : TypeId} {W W' : World} {v : Value} {d : DataW H} {ps : List MemPlace}

theorem Kept.block {w w' : World} (h : Kept w w') {i : Nat} (hi : i < w.heap.size) : w'.heap[i]? = w.heap[i]? := h.1.block hi fun _ hp => hp.elim

theorem Kept.same {w w' : World} (h : Kept w w') {p : MemPlace} (hp : p.block < w.heap.size) : w.sameAt w' p := by
  cases p with
  | cell b o => exact World.cell?_of_block (w := w) (h.block hp)
  | map b => exact h.block hp

theorem Kept.trod {sp : Nat → Bool} (hk : Kept W W') (hl : laidOutB P = true) (hr : P.readableRec t = true) (hrow : t < P.types.size) (h : DataW.Trod enc P W 0 (fun _ => true) true t v d ps) (hsp : ∀ x ∈ ps, sp x.block = true) : DataW.Trod enc P W' 0 sp true t v d ps := by
  refine WideElems.Trod_stays hl hr hrow h (fun x hx => hk.same ?_) hsp
  obtain ⟨n, hn⟩ := h
  exact DataW.trod_lt n _ _ _ hn x hx

theorem arg_shp {m : Nat} (hp : plainT P m t = true) (h : DataW.Trod enc P W 0 (fun _ => true) true t v d ps) : ∃ avs : List AV, Shp P t avs ∧ avs.length = v.cells.toList.length ∧ ∀ (i : Nat) (a : AV), avs[i]? = some a → VR0 W a (v.cells.toList.getD i Go.undef) := by
  obtain ⟨n, hn⟩ := h
  obtain ⟨avs, h1, h2, _, h3⟩ := trod_shp n m t _ _ hp hn
  exact ⟨avs, h1, h2, h3⟩

theorem arg_slice {e : TypeId} (hu : P.underlying t = some (.slice e)) {rc : Reach} {b0 : Nat} (hv : Value.okWide P W rc b0 t v) : v.cells.toList = [v] := by
  simp only [Value.okWide, hu, Cell.okWide] at hv
  cases v <;> simp_all [Cell.ok, Value.cells]
theorem arg_int {k : IntKind} (hu : P.underlying t = some (.int k)) {rc : Reach} {b0 : Nat} (hv : Value.okWide P W rc b0 t v) : v.cells.toList = [v] := by
  simp only [Value.okWide, hu, Cell.okWide] at hv
  cases v <;> simp_all [Cell.ok, Value.cells]
theorem arg_bool (hu : P.underlying t = some .bool) {rc : Reach} {b0 : Nat} (hv : Value.okWide P W rc b0 t v) : v.cells.toList = [v] := by
  simp only [Value.okWide, hu, Cell.okWide] at hv
  cases v <;> simp_all [Cell.ok, Value.cells]
theorem arg_string (hu : P.underlying t = some .string) {rc : Reach} {b0 : Nat} (hv : Value.okWide P W rc b0 t v) : v.cells.toList = [v] := by
  simp only [Value.okWide, hu, Cell.okWide] at hv
  cases v <;> simp_all [Cell.ok, Value.cells]
theorem arg_struct {fs : Array Field} (hu : P.underlying t = some (.struct fs)) {rc : Reach} {b0 : Nat} (hv : Value.okWide P W rc b0 t v) : ∃ cs, v = .agg cs := by
  simp only [Value.okWide, hu] at hv
  obtain ⟨cs, h, _⟩ := hv
  exact ⟨cs, h⟩

/-- An argument of one cell. -/
theorem arg_cell {m : Nat} (hp : plainT P m t = true) (hc : v.cells.toList = [v]) (h : DataW.Trod enc P W 0 (fun _ => true) true t v d ps) : ∃ a : AV, Shp P t [a] ∧ VR0 W a v := by
  obtain ⟨avs, h1, h2, h3⟩ := arg_shp hp h
  rw [hc] at h2 h3
  match avs, h2 with
  | [a], _ => exact ⟨a, h1, h3 0 a rfl⟩

/-- An argument that is a structure. -/
theorem arg_agg {m : Nat} {cs : Array Value} (hp : plainT P m t = true) (h : DataW.Trod enc P W 0 (fun _ => true) true t (.agg cs) d ps) : ∃ avs : List AV, Shp P t avs ∧ VR0 W (.agg avs) (.agg cs) := by
  obtain ⟨avs, h1, h2, h3⟩ := arg_shp hp h
  refine ⟨avs, h1, .agg (by simpa [Value.cells] using h2) fun i x hx => ?_⟩
  have := h3 i x hx
  simpa [Value.cells, List.getD_eq_getElem?_getD, Array.getD_eq_getD_getElem?] using this

theorem vrs_nil : VRs (fun _ => none) (fun cb => cb < W.heap.size) W.heap [] #[] := ⟨rfl, fun i x hx => by simp at hx⟩
theorem vrs_one {a : AV} (h : VR0 W a v) : VRs (fun _ => none) (fun cb => cb < W.heap.size) W.heap [a] #[v] := by
  refine ⟨rfl, fun i x hx => ?_⟩
  rcases i with _ | i
  · simp at hx; subst hx; exact h
  · simp at hx
theorem vrs_two {a a' : AV} {v' : Value} (h : VR0 W a v) (h' : VR0 W a' v') : VRs (fun _ => none) (fun cb => cb < W.heap.size) W.heap [a, a'] #[v, v'] := by
  refine ⟨rfl, fun i x hx => ?_⟩
  rcases i with _ | _ | i
  · simp at hx; subst hx; exact h
  · simp at hx; subst hx; exact h'
  · simp at hx
theorem vrs_three {a a' a'' : AV} {v' v'' : Value} (h : VR0 W a v) (h' : VR0 W a' v') (h'' : VR0 W a'' v'') : VRs (fun _ => none) (fun cb => cb < W.heap.size) W.heap [a, a', a''] #[v, v', v''] := by
  refine ⟨rfl, fun i x hx => ?_⟩
  rcases i with _ | _ | _ | i
  · simp at hx; subst hx; exact h
  · simp at hx; subst hx; exact h'
  · simp at hx; subst hx; exact h''
  · simp at hx
end Go.Fl
end Fl33S
