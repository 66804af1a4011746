/- Reading back what an argument looks like. -/
import Derived.Test.YtmnbicoeahlpcaaFl31
noncomputable section
namespace Go.Fl
open Go

section
variable {P : Program} {t : TypeId} {avs : List AV}

theorem Shp.int_inv {k : IntKind} (hu : P.underlying t = some (.int k)) (h : Shp P t avs) : ∃ n : Int, avs = [.sc (.int k n)] ∧ k.min ≤ n ∧ n ≤ k.max := by
  cases h with
  | int h1 h2 h3 => rw [hu] at h1; cases h1; exact ⟨_, rfl, h2, h3⟩
  | bool h1 => rw [hu] at h1; cases h1
  | str h1 _ => rw [hu] at h1; cases h1
  | sl h1 _ _ _ => rw [hu] at h1; cases h1
  | st h1 _ _ _ => rw [hu] at h1; cases h1

theorem Shp.bool_inv (hu : P.underlying t = some .bool) (h : Shp P t avs) : ∃ b : Bool, avs = [.sc (.bool b)] := by
  cases h with
  | int h1 h2 h3 => rw [hu] at h1; cases h1
  | bool h1 => exact ⟨_, rfl⟩
  | str h1 _ => rw [hu] at h1; cases h1
  | sl h1 _ _ _ => rw [hu] at h1; cases h1
  | st h1 _ _ _ => rw [hu] at h1; cases h1

theorem Shp.str_inv (hu : P.underlying t = some .string) (h : Shp P t avs) : ∃ s : ByteArray, avs = [.sc (.string s)] ∧ s.size ≤ maxLen := by
  cases h with
  | int h1 h2 h3 => rw [hu] at h1; cases h1
  | bool h1 => rw [hu] at h1; cases h1
  | str h1 h2 => exact ⟨_, rfl, h2⟩
  | sl h1 _ _ _ => rw [hu] at h1; cases h1
  | st h1 _ _ _ => rw [hu] at h1; cases h1

theorem Shp.sl_inv {e : TypeId} (hu : P.underlying t = some (.slice e)) (h : Shp P t avs) : ∃ rows : List (List AV), avs = [.vs rows.length (P.cellsOf e) rows.flatten] ∧ rows.length ≤ maxLen ∧ ∀ r ∈ rows, Shp P e r := by
  cases h with
  | int h1 h2 h3 => rw [hu] at h1; cases h1
  | bool h1 => rw [hu] at h1; cases h1
  | str h1 h2 => rw [hu] at h1; cases h1
  | sl h1 h2 h3 _ =>
    rw [hu] at h1; cases h1
    refine ⟨_, rfl, h2, fun r hr => ?_⟩
    obtain ⟨i, hi⟩ := List.getElem?_of_mem hr
    exact h3 i r hi
  | st h1 _ _ _ => rw [hu] at h1; cases h1

theorem Shp.st_inv {fs : Array Field} (hu : P.underlying t = some (.struct fs)) (h : Shp P t avs) : ∃ parts : List (List AV), avs = parts.flatten ∧ parts.length = fs.size ∧ ∀ (i : Nat) (f : Field) (p : List AV), fs[i]? = some f → parts[i]? = some p → Shp P f.type p := by
  cases h with
  | int h1 h2 h3 => rw [hu] at h1; cases h1
  | bool h1 => rw [hu] at h1; cases h1
  | str h1 h2 => rw [hu] at h1; cases h1
  | sl h1 _ _ _ => rw [hu] at h1; cases h1
  | st h1 h2 h3 _ => rw [hu] at h1; cases h1; exact ⟨_, rfl, h2, h3⟩

/-- A structure of given types of fields. -/
theorem Shp.st_parts {fs : Array Field} {ts : List TypeId} (hu : P.underlying t = some (.struct fs)) (hts : fs.toList.map (·.type) = ts) (h : Shp P t avs) : ∃ parts : List (List AV), avs = parts.flatten ∧ parts.length = ts.length ∧ ∀ (i : Nat) (u : TypeId) (p : List AV), ts[i]? = some u → parts[i]? = some p → Shp P u p := by
  obtain ⟨parts, h1, h2, h3⟩ := h.st_inv hu
  subst hts
  refine ⟨parts, h1, by simpa using h2, fun i u p hu hp => ?_⟩
  rw [List.getElem?_map] at hu
  cases hf : fs.toList[i]? with
  | none => rw [hf] at hu; cases hu
  | some f =>
    rw [hf] at hu; cases hu
    exact h3 i f p (by simpa using hf) hp

/-- The types of a structure's fields. -/
def fieldTypes (P : Program) (t : TypeId) : Option (List TypeId) :=
  match P.underlying t with
  | some (.struct fs) => some (fs.toList.map (·.type))
  | _ => none

theorem Shp.st_types {ts : List TypeId} (hu : fieldTypes P t = some ts) (h : Shp P t avs) : ∃ parts : List (List AV), avs = parts.flatten ∧ parts.length = ts.length ∧ ∀ (i : Nat) (u : TypeId) (p : List AV), ts[i]? = some u → parts[i]? = some p → Shp P u p := by
  unfold fieldTypes at hu
  split at hu
  · rename_i fs hf
    cases hu
    exact h.st_parts hf rfl
  · cases hu

theorem rows_map {α : Type} {f : α → List AV} {Q : α → Prop} : ∀ (rows : List (List AV)), (∀ r ∈ rows, ∃ x, r = f x ∧ Q x) → ∃ xs : List α, rows = xs.map f ∧ ∀ x ∈ xs, Q x
  | [], _ => ⟨[], rfl, fun x hx => by cases hx⟩
  | r :: rest, h => by
    obtain ⟨xs, h1, h2⟩ := rows_map rest fun r hr => h r (List.mem_cons_of_mem _ hr)
    obtain ⟨x, h3, h4⟩ := h r List.mem_cons_self
    refine ⟨x :: xs, by rw [List.map_cons, ← h1, ← h3], fun y hy => ?_⟩
    rcases List.mem_cons.1 hy with rfl | hy
    · exact h4
    · exact h2 y hy

theorem flatten_map_single {α : Type} (f : α → AV) (xs : List α) : (xs.map fun x => [f x]).flatten = xs.map f := by
  induction xs with
  | nil => rfl
  | cons x xs ih => rw [List.map_cons, List.flatten_cons, ih]; rfl
theorem flatten_map_flatMap {α : Type} (f : α → List AV) (xs : List α) : (xs.map f).flatten = xs.flatMap f := by
  rw [List.flatMap_def]

/-- A slice whose rows are known. -/
theorem Shp.sl_map {α : Type} {e : TypeId} {f : α → List AV} {Q : α → Prop} (hu : P.underlying t = some (.slice e)) (hr : ∀ r, Shp P e r → ∃ x, r = f x ∧ Q x) (h : Shp P t avs) : ∃ xs : List α, avs = [.vs xs.length (P.cellsOf e) (xs.flatMap f)] ∧ xs.length ≤ maxLen ∧ ∀ x ∈ xs, Q x := by
  obtain ⟨rows, h1, h2, h3⟩ := h.sl_inv hu
  obtain ⟨xs, h4, h5⟩ := rows_map rows fun r hr' => hr r (h3 r hr')
  subst h4
  refine ⟨xs, by rw [h1, List.length_map, flatten_map_flatMap], by simpa using h2, h5⟩

end
end Go.Fl
