/- Slices: reading, growing, cutting, copying. -/
import Derived.Test.YtklihehobpahkaaGreatDoorFl5
set_option linter.unusedVariables false
set_option linter.unusedSimpArgs false
noncomputable section
namespace Go.Fl
open Go

section
variable {P : Program} {ρ : Rho} {I : Nat → Prop} {H : Heap} {w : World}

/-- The first m elements of a slice, as the machine reads them. -/
theorem sliceCells_run (hr : Rel ρ I H w.heap) {sz n : Nat} {x : AV} {cs : List AV} {v : Value} (h : sliceCells H sz x = some (n, cs)) (hv : VR ρ I w.heap x v) :
    cs.length = n * sz ∧ (Builtin.lenOf v).run P w = .ok n w ∧ (∃ a cap, v = .slice a n cap) ∧
    ∀ m, m ≤ n → ∃ ys : Array Value, (Builtin.firstCells sz m v).run P w = .ok ys w ∧ VRs ρ I w.heap (cs.take (m * sz)) ys := by
  have none0 : ∀ (a : Option Addr) (cap : Nat), (Builtin.firstCells sz 0 (.slice a 0 cap)).run P w = .ok #[] w := by
    intro a cap
    cases a with
    | none => simp [Builtin.firstCells]
    | some a => exact run_firstCells_some (P := P) w sz 0 a 0 cap [] (by simp) (by simp)
  have row : ∀ (cb off len cap : Nat) (c : Array Value) (e : TypeId) (fz : Nat × Nat) (cells : List AV), w.heap[cb]? = some (.cells c e fz) → cells.length = len * sz → off + cells.length ≤ c.size →
      (∀ i x, cells[i]? = some x → VR ρ I w.heap x (c.getD (off + i) Go.undef)) → ∀ m, m ≤ len →
      ∃ ys : Array Value, (Builtin.firstCells sz m (.slice (some ⟨cb, off, none⟩) len cap)).run P w = .ok ys w ∧ VRs ρ I w.heap (cells.take (m * sz)) ys := by
    intro cb off len cap c e fz cells hb hl ho hc m hm
    have hm' : m * sz ≤ cells.length := by rw [hl]; exact Nat.mul_le_mul_right _ hm
    refine ⟨((c.toList.drop off).take (m * sz)).toArray, ?_, ?_⟩
    · refine run_firstCells_some (P := P) w sz m ⟨cb, off, none⟩ len cap _ (by simp; omega) ?_
      intro j y hy
      rw [add_plain]
      have hj : j < m * sz := by
        have := (List.getElem?_eq_some_iff.1 hy).1
        simp at this; omega
      rw [List.getElem?_take_of_lt hj, List.getElem?_drop] at hy
      simp only [World.cell?, hb]
      simpa using hy
    · refine ⟨by simp; omega, fun i x hx => ?_⟩
      have hi : i < m * sz := by
        have := (List.getElem?_eq_some_iff.1 hx).1
        simp at this; omega
      rw [List.getElem?_take_of_lt hi] at hx
      have := hc _ _ hx
      have e1 : ((c.toList.drop off).take (m * sz)).toArray.getD i Go.undef = c.getD (off + i) Go.undef := by
        rw [Array.getD_eq_getD_getElem?, Array.getD_eq_getD_getElem?, List.getElem?_toArray, List.getElem?_take_of_lt hi, List.getElem?_drop, Array.getElem?_toList]
      rw [e1]; exact this
  cases hv with
  | sc =>
    unfold sliceCells at h
    split at h
    case h_2 => rename_i heq; cases heq
    case h_3 => rename_i heq; cases heq
    case h_4 => cases h
    rename_i heq
    cases heq
    simp only [Option.some.injEq, Prod.mk.injEq] at h
    obtain ⟨rfl, rfl⟩ := h
    refine ⟨by simp, by simp [Builtin.lenOf], ⟨_, _, rfl⟩, fun m hm => ?_⟩
    have : m = 0 := by omega
    subst this
    exact ⟨#[], none0 none 0, by simp [VRs]⟩
  | ms hb h1 h2 h3 =>
    rename_i b off len sz' cb base cap c0 e0 fz0
    simp only [sliceCells] at h
    split at h
    · rename_i hsz; subst hsz
      cases hg : H.get b with
      | none => simp [hg] at h
      | some cs0 =>
        simp only [hg, Option.bind_some] at h
        split at h
        · rename_i hle
          simp only [Option.some.injEq, Prod.mk.injEq] at h
          obtain ⟨rfl, rfl⟩ := h
          rcases hr.live _ _ hg with ⟨h4, _⟩ | ⟨cb', base', c, e, h4, _, ⟨fz6, _, h6⟩, h7, h8⟩
          · rw [hb] at h4; cases h4
          · rw [hb] at h4; cases h4
            refine ⟨by simp; omega, by simp [Builtin.lenOf], ⟨_, _, rfl⟩, ?_⟩
            refine row cb (base + off) len cap c e fz6 _ h6 (by simp; omega) (by simp; omega) (fun i x hx => ?_)
            have hi : i < len * sz' := by
              have := (List.getElem?_eq_some_iff.1 hx).1
              simp at this; omega
            rw [List.getElem?_take_of_lt hi, List.getElem?_drop] at hx
            have := h8 _ _ hx
            rw [Nat.add_assoc]; exact this
        · cases h
    · cases h
  | ms0 hb =>
    rename_i b off sz' p a
    simp only [sliceCells] at h
    split at h
    · rename_i hsz; subst hsz
      cases hg : H.get b with
      | none => simp [hg] at h
      | some cs0 =>
        simp only [hg, Option.bind_some] at h
        split at h
        · simp only [Option.some.injEq, Prod.mk.injEq] at h
          obtain ⟨rfl, rfl⟩ := h
          refine ⟨by simp, by simp [Builtin.lenOf], ⟨_, _, rfl⟩, fun m hm => ?_⟩
          have : m = 0 := by omega
          subst this
          exact ⟨#[], none0 _ _, by simp [VRs]⟩
        · cases h
    · cases h
  | vs0 =>
    simp only [sliceCells] at h
    split at h
    · simp only [Option.some.injEq, Prod.mk.injEq] at h
      obtain ⟨rfl, rfl⟩ := h
      refine ⟨by simp, by simp [Builtin.lenOf], ⟨_, _, rfl⟩, fun m hm => ?_⟩
      have : m = 0 := by omega
      subst this
      exact ⟨#[], none0 _ _, by simp [VRs]⟩
    · cases h
  | vs hI hcp hb h4 h5 h6 =>
    simp only [sliceCells] at h
    split at h
    · rename_i hcond
      simp only [Option.some.injEq, Prod.mk.injEq] at h
      obtain ⟨rfl, rfl⟩ := h
      simp only [Bool.and_eq_true, decide_eq_true_eq, beq_iff_eq] at hcond
      obtain ⟨rfl, hc2⟩ := hcond
      refine ⟨h4, by simp [Builtin.lenOf], ⟨_, _, rfl⟩, ?_⟩
      exact row _ _ _ _ _ _ _ _ hb h4 h5 h6
    · cases h
  | _ => simp [sliceCells] at h

/-- Whatever is no integer: append of values, not of a make. -/
def notInt : Option TypeDesc → Bool
  | some (.int _) | none => false
  | some _ => true

/-- What is appended: how many elements, their cells. -/
def source (P : Program) (H : Heap) (sz : Nat) (u : TypeId) (x : AV) : Option (Nat × List AV) :=
  match P.underlying u, x with
  | some .string, .sc (.string s) => if sz = 1 then some (s.size, s.data.toList.map fun b => .sc (.int .u8 b.toNat)) else none
  | some (.slice _), x => sliceCells H sz x
  | _, _ => none

theorem source_run (hr : Rel ρ I H w.heap) {sz n : Nat} {u : TypeId} {x : AV} {cs : List AV} {v : Value} (h : source P H sz u x = some (n, cs)) (hv : VR ρ I w.heap x v) :
    cs.length = n * sz ∧ (P.underlying u = some .string ∨ ∃ e', P.underlying u = some (.slice e')) ∧ (Builtin.lenOf v).run P w = .ok n w ∧
    ∃ ys : Array Value, (Builtin.firstCells sz n v).run P w = .ok ys w ∧ VRs ρ I w.heap cs ys := by
  unfold source at h
  split at h
  · rename_i s hu
    split at h
    · rename_i hsz; subst hsz
      simp only [Option.some.injEq, Prod.mk.injEq] at h
      obtain ⟨rfl, rfl⟩ := h
      cases hv.eq_sc
      refine ⟨by simp only [List.length_map, Array.length_toList, Nat.mul_one]; rfl, .inl hu, by simp [Builtin.lenOf], (s.data.toList.map fun (b : UInt8) => Value.int .u8 (b.toNat : Int)).toArray, ?_, ?_⟩
      · have e : (s.extract 0 s.size).data = s.data := by
          simp only [ByteArray.data_extract]
          exact Array.extract_size
        have e2 : s.data.map (fun (b : UInt8) => Value.int .u8 (b.toNat : Int)) = (s.data.toList.map fun (b : UInt8) => Value.int .u8 (b.toNat : Int)).toArray := by
          apply Array.ext'; simp
        show Result.ok ((s.extract 0 s.size).data.map fun (b : UInt8) => Value.int .u8 (b.toNat : Int)) w = _
        rw [e, e2]
      · have := VRs_sc (ρ := ρ) (I := I) (hp := w.heap) (s.data.toList.map fun (b : UInt8) => Value.int .u8 (b.toNat : Int))
        rw [List.map_map] at this
        exact this
    · cases h
  · rename_i e hu
    obtain ⟨h1, h2, _, h3⟩ := sliceCells_run (P := P) hr h hv
    obtain ⟨ys, h4, h5⟩ := h3 n (Nat.le_refl _)
    rw [← h1, List.take_length] at h5
    exact ⟨h1, .inr ⟨_, hu⟩, h2, ys, h4, h5⟩
  · cases h

theorem append_grow_run {t u ty e : TypeId} {i : TypeInfo} {z : Value} (ht : P.underlying t = some (.slice e)) (hu : P.underlying u = some .string ∨ ∃ e', P.underlying u = some (.slice e'))
    (hi : P.info? e = some i) (hz : i.zero = some z) {base : Option Addr} {sLen sCap n : Nat} {x : Value} {olds news : Array Value}
    (hlen : (Builtin.lenOf x).run P w = .ok n w) (ho : (Builtin.firstCells i.size sLen (.slice base sLen sCap)).run P w.drew = .ok olds w.drew)
    (hn : (Builtin.firstCells i.size n x).run P w.drew = .ok news w.drew) (hg : sCap < sLen + n) (hb : (sLen + n) * i.bytes ≤ 140737488355328) (h63 : sLen + n ≤ 140737488355328) :
    (Builtin.append_ #[t, u] ty #[.slice base sLen sCap, x]).run P w =
      .ok (.slice (some ⟨w.heap.size, 0, none⟩) (sLen + n) (grownCap w (sLen + n) sCap e))
        (w.drew.alloc (.cells (olds ++ news ++ Builtin.zeroCells z.cells (grownCap w (sLen + n) sCap e - (sLen + n))) e)) := by
  have hn' : ¬ (sLen + n ≤ sCap) := by omega
  have hfit := growslice_fits hg hb
  have h63' : ¬ (9223372036854775807 < ((sLen : Int) + (n : Int))) := by omega
  have h48' : ¬ (281474976710656 < Builtin.nextslicecap (sLen + n) sCap * i.bytes) := by omega
  rcases hu with hu | ⟨e', hu⟩
  · simp [Builtin.append_, run_underlying ht, run_underlying hu, sizeOf, typeInfo, zeroValue, hi, hz, hlen, hn', h63', h48', Question.forced, ho, hn, newRow, grownCap]
  · simp [Builtin.append_, run_underlying ht, run_underlying hu, sizeOf, typeInfo, zeroValue, hi, hz, hlen, hn', h63', h48', Question.forced, ho, hn, newRow, grownCap]

end
end Go.Fl
