/- What the arguments are: events, a configuration. -/
import Derived.Test.YtfmpakmigmehkaaGreatDoorG1
import Derived.Test.YtfmpakmigmehkaaGreatDoorS28
set_option linter.unusedVariables false
set_option linter.unusedSimpArgs false
set_option maxRecDepth 20000
noncomputable section
namespace Go.Proofs.YtfmpakmigmehkaaGreatDoor
open Go Go.Fl Go.Proofs

theorem shp_byte {r : List AV} (h : Shp Tryz.prog 5 r) : ∃ c : UInt8, r = [.sc (.int .u8 c.toNat)] ∧ True := by
  obtain ⟨n, e, h1, h2⟩ := h.int_inv tU5
  have k1 : (0 : Int) ≤ n := h1
  have k2 : n ≤ 255 := h2
  refine ⟨UInt8.ofNat n.toNat, ?_, trivial⟩
  rw [e]
  have : (UInt8.ofNat n.toNat).toNat = n.toNat := by simp; omega
  rw [this]
  have : ((n.toNat : Nat) : Int) = n := by omega
  rw [this]
theorem flat_bytes (l : List UInt8) : (l.flatMap fun c => [AV.sc (.int .u8 c.toNat)]) = bV l := by
  induction l with
  | nil => rfl
  | cons x l ih => rw [List.flatMap_cons, ih]; rfl
theorem cellsOf5 : Tryz.prog.cellsOf 5 = 1 := by kernel_rfl
theorem cellsOf44 : Tryz.prog.cellsOf 44 = 5 := by kernel_rfl
theorem shp_bytes {r : List AV} (h : Shp Tryz.prog 42 r) : ∃ l : List UInt8, r = [bA l] := by
  obtain ⟨xs, h1, h2, h3⟩ := Shp.sl_map (f := fun c : UInt8 => [AV.sc (.int .u8 c.toNat)]) tU42 (fun r hr => shp_byte hr) h
  refine ⟨xs, ?_⟩
  rw [h1, flat_bytes, cellsOf5]
  rfl
theorem types44 : fieldTypes Tryz.prog 44 = some [3, 3, 3, 3, 42] := by kernel_rfl
theorem shp_ev {r : List AV} (h : Shp Tryz.prog 44 r) : ∃ e : EvI, r = evI e ∧ e.toS.ints := by
  obtain ⟨parts, h1, h2, h3⟩ := h.st_types types44
  match parts, h2 with
  | [p0, p1, p2, p3, p4], _ =>
    obtain ⟨x0, rfl, a0, b0⟩ := (h3 0 _ _ rfl rfl).int_inv tU3
    obtain ⟨x1, rfl, a1, b1⟩ := (h3 1 _ _ rfl rfl).int_inv tU3
    obtain ⟨x2, rfl, a2, b2⟩ := (h3 2 _ _ rfl rfl).int_inv tU3
    obtain ⟨x3, rfl, a3, b3⟩ := (h3 3 _ _ rfl rfl).int_inv tU3
    obtain ⟨l, rfl⟩ := shp_bytes (h3 4 _ _ rfl rfl)
    exact ⟨⟨x0, x1, x2, x3, l⟩, by rw [h1]; rfl, ⟨a1, b1⟩, ⟨a2, b2⟩, ⟨a3, b3⟩⟩
theorem shp_events {r : List AV} (h : Shp Tryz.prog 30 r) : ∃ l : List EvI, r = [eA l] ∧ ∀ e ∈ l, e.toS.ints := by
  obtain ⟨xs, h1, h2, h3⟩ := Shp.sl_map (f := evI) tU30 (fun r hr => shp_ev hr) h
  refine ⟨xs, ?_, h3⟩
  rw [h1, cellsOf44]; rfl
theorem types25 : fieldTypes Tryz.prog 25 = some [4, 9, 9, 3, 4, 4, 23, 3, 4, 3, 4, 4, 4, 4, 4, 3, 3, 3] := by kernel_rfl
theorem tU4 : Tryz.prog.underlying 4 = some .bool := by kernel_rfl
theorem str_bs (s : ByteArray) : bs s.data.toList = s := rfl
theorem shp_cfg {r : List AV} (h : Shp Tryz.prog 25 r) : ∃ c : CfgS, r = cfgC c ∧ c.ok := by
  obtain ⟨parts, h1, h2, h3⟩ := h.st_types types25
  match parts, h2 with
  | [p0, p1, p2, p3, p4, p5, p6, p7, p8, p9, p10, p11, p12, p13, p14, p15, p16, p17], _ =>
    obtain ⟨x0, rfl⟩ := (h3 0 _ _ rfl rfl).bool_inv tU4
    obtain ⟨x1, rfl, _⟩ := (h3 1 _ _ rfl rfl).str_inv tU9
    obtain ⟨x2, rfl, _⟩ := (h3 2 _ _ rfl rfl).str_inv tU9
    obtain ⟨x3, rfl, a3, b3⟩ := (h3 3 _ _ rfl rfl).int_inv tU3
    obtain ⟨x4, rfl⟩ := (h3 4 _ _ rfl rfl).bool_inv tU4
    obtain ⟨x5, rfl⟩ := (h3 5 _ _ rfl rfl).bool_inv tU4
    obtain ⟨x6, rfl, a6, b6⟩ := (h3 6 _ _ rfl rfl).int_inv tU23
    obtain ⟨x7, rfl, a7, b7⟩ := (h3 7 _ _ rfl rfl).int_inv tU3
    obtain ⟨x8, rfl⟩ := (h3 8 _ _ rfl rfl).bool_inv tU4
    obtain ⟨x9, rfl, a9, b9⟩ := (h3 9 _ _ rfl rfl).int_inv tU3
    obtain ⟨x10, rfl⟩ := (h3 10 _ _ rfl rfl).bool_inv tU4
    obtain ⟨x11, rfl⟩ := (h3 11 _ _ rfl rfl).bool_inv tU4
    obtain ⟨x12, rfl⟩ := (h3 12 _ _ rfl rfl).bool_inv tU4
    obtain ⟨x13, rfl⟩ := (h3 13 _ _ rfl rfl).bool_inv tU4
    obtain ⟨x14, rfl⟩ := (h3 14 _ _ rfl rfl).bool_inv tU4
    obtain ⟨x15, rfl, a15, b15⟩ := (h3 15 _ _ rfl rfl).int_inv tU3
    obtain ⟨x16, rfl, a16, b16⟩ := (h3 16 _ _ rfl rfl).int_inv tU3
    obtain ⟨x17, rfl, a17, b17⟩ := (h3 17 _ _ rfl rfl).int_inv tU3
    exact ⟨⟨x0, x1.data.toList, x2.data.toList, x3, x4, x5, x6, x7, x8, x9, x10, x11, x12, x13, x14, x15, x16, x17⟩, by rw [h1]; rfl, ⟨a3, b3⟩, ⟨a6, b6⟩, ⟨a7, b7⟩, ⟨a9, b9⟩, ⟨a15, b15⟩, ⟨a16, b16⟩, ⟨a17, b17⟩⟩
end Go.Proofs.YtfmpakmigmehkaaGreatDoor
