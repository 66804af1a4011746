/- LcpAsks: what the arguments are; the law. -/
import Derived.Test.YtklihehobpahkaaGreatDoorM22
import Derived.Test.YtklihehobpahkaaGreatDoorM24
import Derived.Test.YtklihehobpahkaaGreatDoorRows
import Derived.Lib.LaidU8
set_option linter.unusedVariables false
set_option linter.unusedSimpArgs false
set_option maxRecDepth 20000
noncomputable section M27S
namespace Go.Proofs.YtklihehobpahkaaGreatDoor
open Go Go.Fl Go.Proofs

theorem shp_byte {r : List AV} (h : Shp Tryz.prog 5 r) : ∃ n : Int, r = [.sc (.int .u8 n)] ∧ (0 ≤ n ∧ n ≤ 255) := by
  obtain ⟨n, e, h1, h2⟩ := h.int_inv tU5
  exact ⟨n, e, h1, h2⟩
theorem flat_bytes (l : List Int) : (l.flatMap fun n => [AV.sc (.int .u8 n)]) = bytesV l := by
  induction l with
  | nil => rfl
  | cons x l ih => rw [List.flatMap_cons, ih]; rfl
theorem cellsOf5 : Tryz.prog.cellsOf 5 = 1 := by kernel_rfl
theorem cellsOf56 : Tryz.prog.cellsOf 56 = 2 := by kernel_rfl
theorem shp_bytes {r : List AV} (h : Shp Tryz.prog 51 r) : ∃ l : List Int, r = [bytesA l] ∧ isBytes l := by
  obtain ⟨xs, h1, h2, h3⟩ := Shp.sl_map (f := fun n : Int => [AV.sc (.int .u8 n)]) tU51 (fun r hr => shp_byte hr) h
  refine ⟨xs, ?_, h3⟩
  rw [h1, flat_bytes, bytesA, cellsOf5]
theorem types56 : fieldTypes Tryz.prog 56 = some [3, 51] := by kernel_rfl
theorem shp_opt {r : List AV} (h : Shp Tryz.prog 56 r) : ∃ s : Opt, r = s.cells ∧ isBytes s.data := by
  obtain ⟨parts, h1, h2, h3⟩ := h.st_types types56
  match parts, h2 with
  | [p, q], _ =>
    obtain ⟨n, rfl, _, _⟩ := (h3 0 _ _ rfl rfl).int_inv tU3
    obtain ⟨l, rfl, l1⟩ := shp_bytes (h3 1 _ _ rfl rfl)
    exact ⟨⟨n, l⟩, by rw [h1]; rfl, l1⟩
theorem shp_opts {r : List AV} (h : Shp Tryz.prog 25 r) : ∃ l : List Opt, r = [optsA l] ∧ ∀ o ∈ l, isBytes o.data := by
  obtain ⟨xs, h1, h2, h3⟩ := Shp.sl_map (f := Opt.cells) tU25 (fun r hr => shp_opt hr) h
  refine ⟨xs, ?_, h3⟩
  rw [h1, cellsOf56]; rfl
theorem tU4 : Tryz.prog.underlying 4 = some .bool := by kernel_rfl
theorem types24 : fieldTypes Tryz.prog 24 = some [4, 9, 9, 3, 4, 4, 22, 3, 4, 3, 4, 4, 4, 4, 4, 3, 3, 3] := by kernel_rfl
theorem shp_cfg {r : List AV} (h : Shp Tryz.prog 24 r) : ∃ c : Cfg, r = c.cells ∧ 0 ≤ c.accm ∧ c.accm ≤ 4294967295 := by
  obtain ⟨parts, h1, h2, h3⟩ := h.st_types types24
  match parts, h2 with
  | [p0, p1, p2, p3, p4, p5, p6, p7, p8, p9, p10, p11, p12, p13, p14, p15, p16, p17], _ =>
    obtain ⟨x0, rfl⟩ := (h3 0 _ _ rfl rfl).bool_inv tU4
    obtain ⟨x1, rfl, _⟩ := (h3 1 _ _ rfl rfl).str_inv tU9
    obtain ⟨x2, rfl, _⟩ := (h3 2 _ _ rfl rfl).str_inv tU9
    obtain ⟨x3, rfl, _⟩ := (h3 3 _ _ rfl rfl).int_inv tU3
    obtain ⟨x4, rfl⟩ := (h3 4 _ _ rfl rfl).bool_inv tU4
    obtain ⟨x5, rfl⟩ := (h3 5 _ _ rfl rfl).bool_inv tU4
    obtain ⟨x6, rfl, a6, b6⟩ := (h3 6 _ _ rfl rfl).int_inv tU22
    obtain ⟨x7, rfl, _⟩ := (h3 7 _ _ rfl rfl).int_inv tU3
    obtain ⟨x8, rfl⟩ := (h3 8 _ _ rfl rfl).bool_inv tU4
    obtain ⟨x9, rfl, _⟩ := (h3 9 _ _ rfl rfl).int_inv tU3
    obtain ⟨x10, rfl⟩ := (h3 10 _ _ rfl rfl).bool_inv tU4
    obtain ⟨x11, rfl⟩ := (h3 11 _ _ rfl rfl).bool_inv tU4
    obtain ⟨x12, rfl⟩ := (h3 12 _ _ rfl rfl).bool_inv tU4
    obtain ⟨x13, rfl⟩ := (h3 13 _ _ rfl rfl).bool_inv tU4
    obtain ⟨x14, rfl⟩ := (h3 14 _ _ rfl rfl).bool_inv tU4
    obtain ⟨x15, rfl, _⟩ := (h3 15 _ _ rfl rfl).int_inv tU3
    obtain ⟨x16, rfl, _⟩ := (h3 16 _ _ rfl rfl).int_inv tU3
    obtain ⟨x17, rfl, _⟩ := (h3 17 _ _ rfl rfl).int_inv tU3
    exact ⟨⟨x0, x1, x2, x3, x4, x5, x6, x7, x8, x9, x10, x11, x12, x13, x14, x15, x16, x17⟩, by rw [h1]; rfl, a6, b6⟩

theorem law_s (c : Cfg) (m : Int) (l : List Opt) (hm : 0 ≤ m ∧ m ≤ 4294967295) (hac : 0 ≤ c.accm ∧ c.accm ≤ 4294967295) (hby : ∀ o ∈ l, isBytes o.data) :
    SCalls Tryz.prog 3 [.agg c.cells, .sc (.int .u32 m), optsA l] Heap.empty (.bool true) Heap.empty := asks_s rules_s c m l hm hac hby
end Go.Proofs.YtklihehobpahkaaGreatDoor
end M27S

set_option maxRecDepth 100000
noncomputable section M28S
namespace Go.Proofs.YtklihehobpahkaaGreatDoor
open Go Go.Fl Go.Proofs Go.Lib

theorem var_heap {P : Program} {w : World} {n : String} {g : Nat} {cs : Array Value} (hg : P.globalNamed n = some g) (h : w.var? P n = some cs) : ∃ e fz, w.heap[g]? = some (.cells cs e fz) := by
  unfold World.var? at h
  rw [hg] at h
  simp only [Option.bind_some] at h
  split at h
  · rename_i c e fz hh
    cases h
    exact ⟨e, fz, hh⟩
  · cases h

theorem nE : Tryz.prog.globalNamed "errors.errorType" = some 0 := by kernel_rfl
theorem nF : Tryz.prog.globalNamed "unicode/utf8.first" = some 1 := by kernel_rfl
theorem nA : Tryz.prog.globalNamed "unicode/utf8.acceptRanges" = some 2 := by kernel_rfl
theorem rtE : (Tryz.prog.cutTypes.find? (·.1 == "internal/reflectlite.rtype")).map (·.2) = some 156 := by kernel_rfl
theorem oneRow : ((List.range 212).filter fun t => Tryz.prog.rowNamed t [101, 114, 114, 111, 114]) = [87] := by kernel_rfl
theorem sizeT : Tryz.prog.types.size = 212 := by kernel_rfl
theorem handle87 : typeHandle Tryz.prog 87 = .pointer (some ⟨3, 87, none⟩) := by kernel_rfl

theorem chunks {α : Type} : ∀ (n : Nat) (l : List α), l.length = n * 2 → l = (List.range n).flatMap fun i => (l.drop (i * 2)).take 2
  | 0, l, h => by
    have : l = [] := List.length_eq_zero_iff.1 (by omega)
    subst this; rfl
  | n + 1, l, h => by
    match l, h with
    | [], h => simp at h
    | [_], h => simp at h; omega
    | a :: b :: r, h =>
      have hr : r.length = n * 2 := by simp only [List.length_cons] at h; omega
      have ih := chunks n r hr
      rw [List.range_succ_eq_map, List.flatMap_cons, List.flatMap_map]
      have e : ∀ i, ((a :: b :: r).drop ((i + 1) * 2)).take 2 = (r.drop (i * 2)).take 2 := by
        intro i
        have : (i + 1) * 2 = i * 2 + 1 + 1 := by omega
        rw [this, List.drop_succ_cons, List.drop_succ_cons]
      simp only [Nat.succ_eq_add_one, e]
      rw [← ih]
      rfl

/-- A pair of acceptRanges. -/
def accP (i : Nat) : List Int := [Int.ofNat (acceptTab.getD (2 * i) 0), Int.ofNat (acceptTab.getD (2 * i + 1) 0)]
theorem acc_all : ((List.range 16).flatMap fun i => (accP i).map fun z => Value.int .u8 z) = u8vals acceptTab := by rfl
theorem first_all : ((firstTab.map Int.ofNat).map fun z => Value.int .u8 z) = u8vals firstTab := by simp [u8vals]
theorem tyF : (Tryz.prog.globals[1]?).map (·.type) = some 172 := by kernel_rfl
theorem tyA : (Tryz.prog.globals[2]?).map (·.type) = some 175 := by kernel_rfl
theorem uF : Tryz.prog.underlying 172 = some (.array 256 5) := by kernel_rfl
theorem uA : Tryz.prog.underlying 175 = some (.array 16 174) := by kernel_rfl
theorem uS : ∃ fs : Array Field, Tryz.prog.underlying 174 = some (.struct fs) ∧ fs.size = 2 ∧ ∀ (i : Nat) (f : Field), fs[i]? = some f → Tryz.prog.underlying f.type = some (.int .u8) ∧ f.offset = i ∧ Tryz.prog.cellsOf f.type = 1 := by
  refine ⟨_, rfl, rfl, fun i f hf => ?_⟩
  match i, hf with
  | 0, hf => cases hf; exact ⟨tU5, rfl, cellsOf5⟩
  | 1, hf => cases hf; exact ⟨tU5, rfl, cellsOf5⟩
  | i + 2, hf => simp at hf
theorem cF : Tryz.prog.cellsOf 172 = 256 := by kernel_rfl
theorem cA : Tryz.prog.cellsOf 175 = 32 := by kernel_rfl
theorem cS : Tryz.prog.cellsOf 174 = 2 := by kernel_rfl

theorem firstD : Rows.laid_unicode_utf8_first = tabData .u8 (firstTab.map Int.ofNat) := by kernel_rfl

def accDs : List (DataW Unit) := (List.range 16).map fun i => .agg ((accP i).map fun z => .lit (.int .u8 z))
theorem acceptD : (Rows.laid_unicode_utf8_acceptRanges : DataW Unit) = .agg accDs := by kernel_rfl

theorem globs_met {W : World} (h : laidMetH Tryz.prog Rows.lcpAsksRow.laid W) : GlobsMet W := by
  have h' : laidMet Tryz.prog [("unicode/utf8.acceptRanges", Rows.laid_unicode_utf8_acceptRanges), ("unicode/utf8.first", Rows.laid_unicode_utf8_first)] W ∧ handlesMet Tryz.prog [("errors.errorType", Rows.laid_errors_errorType)] W := h
  obtain ⟨⟨ps, ⟨gA, tA, csA, fA, pA, qA, nA', yA, vA, rA, ⟨gF, tF, csF, fF, pF, qF, nF', yF, vF, rF, _⟩, _⟩, _⟩, hH⟩ := h'
  obtain rfl := Option.some.inj (nA.symm.trans nA')
  obtain rfl := Option.some.inj (nF.symm.trans nF')
  obtain rfl := Option.some.inj (tyA.symm.trans yA)
  obtain rfl := Option.some.inj (tyF.symm.trans yF)
  have hF : csF.toList = u8vals firstTab := by
    rw [firstD] at rF
    rw [← first_all]
    exact cells_of_tab uF tU5 cellsOf5 cF rF
  have hA : csA.toList = u8vals acceptTab := by
    rw [acceptD] at rA
    have hlen : csA.toList.length = 16 * 2 := by
      cases fA with
      | zero => simp [DataW.trod] at rA
      | succ fA =>
        simp only [DataW.trod, uA, cA] at rA
        split at rA
        · rename_i hl; exact hl
        · cases rA
    rw [chunks 16 _ hlen, ← acc_all]
    rw [List.flatMap_def, List.flatMap_def]
    refine congrArg List.flatten (List.map_congr_left (fun i hi => ?_))
    have hi : i < 16 := List.mem_range.1 hi
    obtain ⟨fuel', d, q, hd, he⟩ := array_elem uA rA i hi
    simp only [accDs, List.getElem?_map, List.getElem?_range hi, Option.map_some, Option.some.injEq] at hd
    subst hd
    rw [cS] at he
    obtain ⟨fs, u1, u2, u3⟩ := uS
    exact ints_of_struct u1 u3 (by rw [cS, u2]) he
  obtain ⟨name, u, ty, e1, e2, e3, e4, e5⟩ := hH _ (List.mem_singleton.2 rfl)
  have en : name = [101, 114, 114, 111, 114] := (Option.some.inj e1).symm
  subst en
  obtain rfl := Option.some.inj (rtE.symm.trans e2)
  have hm : ty ∈ (List.range 212).filter fun t => Tryz.prog.rowNamed t [101, 114, 114, 111, 114] := List.mem_filter.2 ⟨List.mem_range.2 (by rw [← sizeT]; exact e3), e4⟩
  rw [oneRow] at hm
  obtain rfl := List.mem_singleton.1 hm
  rw [handle87] at e5
  intro g vs hg
  match g, hg with
  | 0, hg =>
    cases hg
    exact var_heap nE e5
  | 1, hg =>
    cases hg
    have := var_heap nF vF
    rw [← hF]; simpa using this
  | 2, hg =>
    cases hg
    have := var_heap nA vA
    rw [← hA]; simpa using this
  | g + 3, hg => cases hg
end Go.Proofs.YtklihehobpahkaaGreatDoor
end M28S
