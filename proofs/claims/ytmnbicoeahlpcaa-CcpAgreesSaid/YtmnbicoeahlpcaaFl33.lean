/- Arguments that read as they did, and what stands for them. -/
import Derived.Test.YtmnbicoeahlpcaaFl32
import Derived.Carry
import Derived.WideKeyArgs
noncomputable section
namespace Go.Fl
open Go Go.RowKit Go.ChangeShapes

variable {H : Type} {enc : TypeId × Value → H} {P : Program} {t : TypeId} {W W' : World} {v : Value} {d : DataW H} {ps : List MemPlace}

theorem Kept.block {w w' : World} (h : Kept w w') {i : Nat} (hi : i < w.heap.size) : w'.heap[i]? = w.heap[i]? := h.1.block hi fun _ hp => hp.elim

theorem Kept.same {w w' : World} (h : Kept w w') {p : MemPlace} (hp : p.block < w.heap.size) : w.sameAt w' p := by
  cases p with
  | cell b o => exact World.cell?_of_block (w := w) (h.block hp)
  | map b => exact h.block hp

theorem Kept.trod {sp : Nat → Bool} (hk : Kept W W') (hl : laidOutB P = true) (hr : P.readableRec t = true) (hrow : t < P.types.size) (h : DataW.Trod enc P W 0 (fun _ => true) true t v d ps) (hsp : ∀ x ∈ ps, sp x.block = true) : DataW.Trod enc P W' 0 sp true t v d ps := by
  refine WideElems.Trod_stays hl hr hrow h (fun x hx => hk.same ?_) hsp
  obtain ⟨n, hn⟩ := h
  exact DataW.trod_lt n _ _ _ hn x hx

theorem arg_shp {m : Nat} (hp : plainT P m t = true) (h : DataW.Trod enc P W 0 (fun _ => true) true t v d ps) : ∃ avs : List AV, Shp P t avs ∧ avs.length = v.cells.toList.length ∧ ∀ (i : Nat) (a : AV), avs[i]? = some a → VR0 W a (v.cells.toList.getD i Go.undef) := by
  obtain ⟨n, hn⟩ := h
  obtain ⟨avs, h1, h2, _, h3⟩ := trod_shp n m t _ _ hp hn
  exact ⟨avs, h1, h2, h3⟩

theorem arg_slice {e : TypeId} (hu : P.underlying t = some (.slice e)) {rc : Reach} {b0 : Nat} (hv : Value.okWide P W rc b0 t v) : v.cells.toList = [v] := by
  simp only [Value.okWide, hu, Cell.okWide] at hv
  cases v <;> simp_all [Cell.ok, Value.cells]
theorem arg_int {k : IntKind} (hu : P.underlying t = some (.int k)) {rc : Reach} {b0 : Nat} (hv : Value.okWide P W rc b0 t v) : v.cells.toList = [v] := by
  simp only [Value.okWide, hu, Cell.okWide] at hv
  cases v <;> simp_all [Cell.ok, Value.cells]
theorem arg_bool (hu : P.underlying t = some .bool) {rc : Reach} {b0 : Nat} (hv : Value.okWide P W rc b0 t v) : v.cells.toList = [v] := by
  simp only [Value.okWide, hu, Cell.okWide] at hv
  cases v <;> simp_all [Cell.ok, Value.cells]
theorem arg_string (hu : P.underlying t = some .string) {rc : Reach} {b0 : Nat} (hv : Value.okWide P W rc b0 t v) : v.cells.toList = [v] := by
  simp only [Value.okWide, hu, Cell.okWide] at hv
  cases v <;> simp_all [Cell.ok, Value.cells]
theorem arg_struct {fs : Array Field} (hu : P.underlying t = some (.struct fs)) {rc : Reach} {b0 : Nat} (hv : Value.okWide P W rc b0 t v) : ∃ cs, v = .agg cs := by
  simp only [Value.okWide, hu] at hv
  obtain ⟨cs, h, _⟩ := hv
  exact ⟨cs, h⟩

/-- An argument of one cell. -/
theorem arg_cell {m : Nat} (hp : plainT P m t = true) (hc : v.cells.toList = [v]) (h : DataW.Trod enc P W 0 (fun _ => true) true t v d ps) : ∃ a : AV, Shp P t [a] ∧ VR0 W a v := by
  obtain ⟨avs, h1, h2, h3⟩ := arg_shp hp h
  rw [hc] at h2 h3
  match avs, h2 with
  | [a], _ => exact ⟨a, h1, h3 0 a rfl⟩

/-- An argument that is a structure. -/
theorem arg_agg {m : Nat} {cs : Array Value} (hp : plainT P m t = true) (h : DataW.Trod enc P W 0 (fun _ => true) true t (.agg cs) d ps) : ∃ avs : List AV, Shp P t avs ∧ VR0 W (.agg avs) (.agg cs) := by
  obtain ⟨avs, h1, h2, h3⟩ := arg_shp hp h
  refine ⟨avs, h1, .agg (by simpa [Value.cells] using h2) fun i x hx => ?_⟩
  have := h3 i x hx
  simpa [Value.cells, List.getD_eq_getElem?_getD, Array.getD_eq_getD_getElem?] using this

theorem vrs_nil : VRs (fun _ => none) (fun cb => cb < W.heap.size) W.heap [] #[] := ⟨rfl, fun i x hx => by simp at hx⟩
theorem vrs_one {a : AV} (h : VR0 W a v) : VRs (fun _ => none) (fun cb => cb < W.heap.size) W.heap [a] #[v] := by
  refine ⟨rfl, fun i x hx => ?_⟩
  rcases i with _ | i
  · simp at hx; subst hx; exact h
  · simp at hx
theorem vrs_two {a a' : AV} {v' : Value} (h : VR0 W a v) (h' : VR0 W a' v') : VRs (fun _ => none) (fun cb => cb < W.heap.size) W.heap [a, a'] #[v, v'] := by
  refine ⟨rfl, fun i x hx => ?_⟩
  rcases i with _ | _ | i
  · simp at hx; subst hx; exact h
  · simp at hx; subst hx; exact h'
  · simp at hx
theorem vrs_three {a a' a'' : AV} {v' v'' : Value} (h : VR0 W a v) (h' : VR0 W a' v') (h'' : VR0 W a'' v'') : VRs (fun _ => none) (fun cb => cb < W.heap.size) W.heap [a, a', a''] #[v, v', v''] := by
  refine ⟨rfl, fun i x hx => ?_⟩
  rcases i with _ | _ | _ | i
  · simp at hx; subst hx; exact h
  · simp at hx; subst hx; exact h'
  · simp at hx; subst hx; exact h''
  · simp at hx
end Go.Fl
