/- Arguments of the ledger's laws. -/
import Derived.Test.YtmnbicoeahlpcaaL10
import Derived.Test.YtmnbicoeahlpcaaFl33
set_option maxRecDepth 20000
noncomputable section
namespace Go.Proofs.Ytmnbicoeahlpcaa
open Go Go.Fl Go.Proofs

theorem shp_byte {r : List AV} (h : Shp Try.prog 5 r) : ∃ n : Int, r = [.sc (.int .u8 n)] ∧ (0 ≤ n ∧ n ≤ 255) := by
  obtain ⟨n, h1, h2, h3⟩ := h.int_inv tU5
  exact ⟨n, h1, h2, h3⟩

theorem flat_bytes (l : List Int) : (l.flatMap fun n => [AV.sc (.int .u8 n)]) = bytesV l := by
  induction l with
  | nil => rfl
  | cons x l ih => rw [List.flatMap_cons, ih]; rfl

theorem cellsOf5 : Try.prog.cellsOf 5 = 1 := by kernel_rfl
theorem cellsOf29 : Try.prog.cellsOf 29 = 3 := by kernel_rfl

theorem shp_bytes {r : List AV} (h : Shp Try.prog 25 r) : ∃ l : List Int, r = [bytesA l] ∧ isBytes l ∧ l.length ≤ maxLen := by
  obtain ⟨xs, h1, h2, h3⟩ := Shp.sl_map (f := fun n : Int => [AV.sc (.int .u8 n)]) tU25 (fun r hr => shp_byte hr) h
  refine ⟨xs, ?_, h3, h2⟩
  rw [h1, flat_bytes, bytesA, cellsOf5]

theorem types29 : fieldTypes Try.prog 29 = some [3, 27] := by kernel_rfl
theorem types27 : fieldTypes Try.prog 27 = some [3, 25] := by kernel_rfl

theorem shp_sent {r : List AV} (h : Shp Try.prog 29 r) : ∃ s : Sn, r = s.cells ∧ (s.ok ∧ s.info.length ≤ maxLen) := by
  obtain ⟨parts, h1, h2, h3⟩ := h.st_types types29
  match parts, h2 with
  | [p, q], _ =>
    obtain ⟨n, rfl, _, _⟩ := (h3 0 _ _ rfl rfl).int_inv tU3
    obtain ⟨parts, rfl, k2, k3⟩ := (h3 1 _ _ rfl rfl).st_types types27
    match parts, k2 with
    | [p, q], _ =>
      obtain ⟨m, rfl, _, _⟩ := (k3 0 _ _ rfl rfl).int_inv tU3
      obtain ⟨l, rfl, l1, l2⟩ := shp_bytes (k3 1 _ _ rfl rfl)
      exact ⟨⟨n, m, l⟩, by rw [h1]; rfl, l1, l2⟩

theorem shp_sents {r : List AV} (h : Shp Try.prog 31 r) : ∃ l : List Sn, r = [sentsA l] ∧ l.length ≤ maxLen ∧ ∀ s ∈ l, s.ok ∧ s.info.length ≤ maxLen := by
  obtain ⟨xs, h1, h2, h3⟩ := Shp.sl_map (f := Sn.cells) tU31 (fun r hr => shp_sent hr) h
  refine ⟨xs, ?_, h2, h3⟩
  rw [h1, cellsOf29]; rfl

theorem plain31 : plainT Try.prog 8 31 = true := by kernel_rfl
theorem plain3 : plainT Try.prog 8 3 = true := by kernel_rfl
theorem plain25 : plainT Try.prog 8 25 = true := by kernel_rfl
end Go.Proofs.Ytmnbicoeahlpcaa
