/- Arguments of CcpAgrees. -/
import Derived.Test.YtmnbicoeahlpcaaL27
import Derived.Test.YtmnbicoeahlpcaaFl33
set_option maxRecDepth 20000
noncomputable section
namespace Go.Proofs.Ytmnbicoeahlpcaa
open Go Go.Fl Go.Proofs

theorem shp_byte {r : List AV} (h : Shp Try.prog 5 r) : ∃ n : Int, r = [.sc (.int .u8 n)] ∧ (0 ≤ n ∧ n ≤ 255) := by
  obtain ⟨n, h1, h2, h3⟩ := h.int_inv tU5
  exact ⟨n, h1, h2, h3⟩
theorem flat_bytes (l : List Int) : (l.flatMap fun n => [AV.sc (.int .u8 n)]) = bytesV l := by
  induction l with
  | nil => rfl
  | cons x l ih => rw [List.flatMap_cons, ih]; rfl
theorem cellsOf5 : Try.prog.cellsOf 5 = 1 := by kernel_rfl
theorem cellsOf70 : Try.prog.cellsOf 70 = 2 := by kernel_rfl
theorem shp_bytes {r : List AV} (h : Shp Try.prog 25 r) : ∃ l : List Int, r = [bytesA l] ∧ isBytes l ∧ l.length ≤ maxLen := by
  obtain ⟨xs, h1, h2, h3⟩ := Shp.sl_map (f := fun n : Int => [AV.sc (.int .u8 n)]) tU25 (fun r hr => shp_byte hr) h
  refine ⟨xs, ?_, h3, h2⟩
  rw [h1, flat_bytes, bytesA, cellsOf5]
theorem types70 : fieldTypes Try.prog 70 = some [3, 25] := by kernel_rfl
theorem shp_opt {r : List AV} (h : Shp Try.prog 70 r) : ∃ s : Opt, r = s.cells ∧ (isBytes s.data ∧ s.data.length ≤ maxLen) := by
  obtain ⟨parts, h1, h2, h3⟩ := h.st_types types70
  match parts, h2 with
  | [p, q], _ =>
    obtain ⟨n, rfl, _, _⟩ := (h3 0 _ _ rfl rfl).int_inv tU3
    obtain ⟨l, rfl, l1, l2⟩ := shp_bytes (h3 1 _ _ rfl rfl)
    exact ⟨⟨n, l⟩, by rw [h1]; rfl, l1, l2⟩
theorem shp_opts {r : List AV} (h : Shp Try.prog 46 r) : ∃ l : List Opt, r = [optsA l] ∧ goodO l := by
  obtain ⟨xs, h1, h2, h3⟩ := Shp.sl_map (f := Opt.cells) tU46 (fun r hr => shp_opt hr) h
  refine ⟨xs, ?_, h2, h3⟩
  rw [h1, cellsOf70]; rfl
theorem plain46 : plainT Try.prog 8 46 = true := by kernel_rfl
theorem plain3 : plainT Try.prog 8 3 = true := by kernel_rfl
end Go.Proofs.Ytmnbicoeahlpcaa
