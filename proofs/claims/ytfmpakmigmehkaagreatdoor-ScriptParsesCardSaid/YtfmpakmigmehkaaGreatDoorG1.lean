/- What the rows' condition and the world's shape say of the package variables. -/
import Derived.Test.YtfmpakmigmehkaaGreatDoorS0
import Derived.Test.YtfmpakmigmehkaaGreatDoorFl29
import Derived.Test.YtfmpakmigmehkaaGreatDoorRows
import Derived.Lib.LaidU8
import Derived.LaidLaws
import Derived.Shelf.Vars
import Derived.Handed
set_option linter.unusedVariables false
set_option linter.unusedSimpArgs false
set_option maxRecDepth 100000
noncomputable section G1S
namespace Go.Proofs.YtfmpakmigmehkaaGreatDoor
open Go Go.Fl Go.Proofs Go.Lib

theorem var_heap {P : Program} {w : World} {n : String} {g : Nat} {cs : Array Value} (hg : P.globalNamed n = some g) (h : w.var? P n = some cs) : ∃ e fz, w.heap[g]? = some (.cells cs e fz) := by
  unfold World.var? at h
  rw [hg] at h
  simp only [Option.bind_some] at h
  split at h
  · rename_i c e fz hh
    cases h
    exact ⟨e, fz, hh⟩
  · cases h
theorem oneRow : ((List.range 214).filter fun t => Tryz.prog.rowNamed t [101, 114, 114, 111, 114]) = [57] := by kernel_rfl
theorem sizeT : Tryz.prog.types.size = 214 := by kernel_rfl
theorem handle57 : typeHandle Tryz.prog 57 = .pointer (some ⟨9, 57, none⟩) := by kernel_rfl
theorem uPow : Tryz.prog.underlying 168 = some (.array 20 111) := by kernel_rfl
theorem u111 : Tryz.prog.underlying 111 = some (.int .u64) := by kernel_rfl
theorem c111 : Tryz.prog.cellsOf 111 = 1 := by kernel_rfl
theorem c168 : Tryz.prog.cellsOf 168 = 20 := by kernel_rfl
theorem u57 : ∃ ms, Tryz.prog.underlying 57 = some (.interface ms) := ⟨_, rfl⟩
def powL : List Int := (List.range 20).map fun i => 10 ^ i
theorem powD : (Rows.laid_internal_strconv_uint64pow10 : DataW Unit) = tabData .u64 powL := by kernel_rfl
theorem pow_all : (powL.map fun z => Value.int .u64 z) = (List.range 20).map fun i => .int .u64 (10 ^ i) := by unfold powL; rw [List.map_map]; rfl

theorem globs_met {W : World} (h : laidMetH Tryz.prog Rows.scriptAgainRow.laid W) (hsh : W.ShapedOpen Tryz.prog) : GlobsMet W := by
  obtain ⟨⟨ps, ⟨gA, tA, csA, fA, pA, qA, nA, yA, vA, rA, ⟨gB, tB, csB, fB, pB, qB, nB, yB, vB, rB, ⟨gC, tC, csC, fC, pC, qC, nC, yC, vC, rC, ⟨gD, tD, csD, fD, pD, qD, nD, yD, vD, rD, ⟨gE, tE, csE, fE, pE, qE, nE, yE, vE, rE, ⟨gF, tF, csF, fF, pF, qF, nF, yF, vF, rF, _⟩, _⟩, _⟩, _⟩, _⟩, _⟩, _⟩, hH⟩ := h
  have eC : gC = 2 := Option.some.inj (nC.symm.trans (by kernel_rfl))
  have eE : gE = 6 := Option.some.inj (nE.symm.trans (by kernel_rfl))
  have eF : gF = 5 := Option.some.inj (nF.symm.trans (by kernel_rfl))
  subst eC; subst eE; subst eF
  obtain rfl : tC = 168 := Option.some.inj (yC.symm.trans (by kernel_rfl))
  obtain rfl : tE = 57 := Option.some.inj (yE.symm.trans (by kernel_rfl))
  obtain rfl : tF = 57 := Option.some.inj (yF.symm.trans (by kernel_rfl))
  obtain ⟨ms, hms⟩ := u57
  have hC : csC.toList = (List.range 20).map fun i => .int .u64 (10 ^ i) := by
    rw [← pow_all]
    have h1 : DataW.trod (fun _ => ()) Tryz.prog W 0 (fun _ => true) false fC 168 csC.toList = some (tabData .u64 powL, pC) := by rw [← powD]; exact rC
    exact cells_of_tab uPow u111 c111 c168 h1
  obtain ⟨_, uE, xE, hE, _, _⟩ := iface_of_trod hms rE
  obtain ⟨_, uF, xF, hF, _, _⟩ := iface_of_trod hms rF
  obtain ⟨name, u, ty, e1, e2, e3, e4, e5⟩ := hH _ (List.mem_singleton.2 rfl)
  have en : name = [101, 114, 114, 111, 114] := (Option.some.inj e1).symm
  subst en
  obtain rfl : u = 142 := Option.some.inj (e2.symm.trans (by kernel_rfl))
  have hm : ty ∈ (List.range 214).filter fun t => Tryz.prog.rowNamed t [101, 114, 114, 111, 114] := List.mem_filter.2 ⟨List.mem_range.2 (by rw [← sizeT]; exact e3), e4⟩
  rw [oneRow] at hm
  obtain rfl := List.mem_singleton.1 hm
  rw [handle57] at e5
  have h0 := var_heap (g := 0) (by kernel_rfl) e5
  have h2 := var_heap nC vC
  have h6 := var_heap nE vE
  have h5 := var_heap nF vF
  obtain ⟨m, hm1⟩ := cell_of_shapedOpen_int (P := Tryz.prog) (g := 1) (t := 3) (zero := #[.int .i64 0]) hsh (of_decide_eq_true (by kernel_rfl)) (by kernel_rfl) rfl (by kernel_rfl) (by kernel_rfl) tU3
  refine ⟨fun g vs hg => ?_, fun g Q hg => ?_⟩
  · match g, hg with
    | 0, hg => cases hg; exact h0
    | 1, hg => cases hg
    | 2, hg =>
      cases hg
      rw [← hC]
      simpa using h2
    | g + 3, hg => cases hg
  · match g, hg with
    | 0, hg => cases hg
    | 1, hg =>
      cases hg
      obtain ⟨cs, hh, hs, _⟩ := hsh.1 1 #[.int .i64 0] 3 (of_decide_eq_true (by kernel_rfl)) (by kernel_rfl)
      refine ⟨cs, _, _, hh, m, ?_⟩
      have h1 : cs[0]? = some (.int .i64 m) := by simpa [World.cell?, hh] using hm1
      refine Array.ext_getElem? fun i => ?_
      match i with
      | 0 => rw [h1]; rfl
      | i + 1 =>
        have hs' : cs.size = 1 := hs
        rw [Array.getElem?_eq_none (by omega)]
        rfl
    | 2, hg => cases hg
    | 3, hg => cases hg
    | 4, hg => cases hg
    | 5, hg =>
      cases hg
      obtain ⟨e, fz, k⟩ := h5
      exact ⟨csF, e, fz, k, uF, xF, by rw [← Array.toArray_toList (xs := csF), hF]⟩
    | 6, hg =>
      cases hg
      obtain ⟨e, fz, k⟩ := h6
      exact ⟨csE, e, fz, k, uE, xE, by rw [← Array.toArray_toList (xs := csE), hE]⟩
    | g + 7, hg => cases hg
end Go.Proofs.YtfmpakmigmehkaaGreatDoor
end G1S

set_option maxRecDepth 20000
noncomputable section G2S
namespace Go.Proofs.YtfmpakmigmehkaaGreatDoor
open Go Go.Fl Go.Proofs

theorem handed_of {H : Type} {enc : TypeId × Value → H} {a : Assume} {C : Checked} {os : Os} {f : FuncId} {fn : Func} {s : ChangeSpec} {conds : List PathCond} {apart fresh handsOn again : Bool} {X : World → Array Value → Prop}
    (hX : ∀ (w w' : World) (args : Array Value), w.heap = w'.heap → X w args → X w' args)
    (own : ownKnob C.prog.godebug = none) (started : os.Started) (noInit : C.prog.inits.idxOf? f = none) (hfn : C.prog.funcs[f]? = some fn)
    (witness : ∃ (w : World) (tape : Tape) (i : Input), w.os = os ∧ (w.forCall tape i).Shaped C.prog ∧ i.vars = [] ∧ Input.okWide C.prog (w.forCall tape i) .any w.heap.size f i ∧
      ((s.pre enc C.prog fn conds apart (w.forCall tape i).memory i.args ∧ X (w.forCall tape i).memory i.args) ∧ sizedMet enc C.prog fn (OpenSpec.ofChange s) apart (w.forCall tape i).memory i.args) ∧ a.holds C.prog (lone (Frame.enter C.prog f i.args .normal) [] (w.forCall tape i)))
    (contract : ∀ (W : World) (base : Nat) (args : Array Value) (ds gs : List (DataW H)) (before : List MemPlace),
      (∀ (j : Nat) t v, fn.params[j]? = some t → args[j]? = some v → Value.okWide C.prog W .any base t v) →
      DataW.Whole enc C.prog fn.params.toList s.vars apart W args.toList ds gs before →
      W.ShapedOpen C.prog → X W args →
      Calls C.prog f args W fun e W' => ∃ v, e = .returned v ∧ s.post enc C.prog fn apart fresh handsOn again W args v W') :
    ReturnsInHanded a C os f .any (fun w args => (s.pre enc C.prog fn conds apart w args ∧ X w args) ∧ sizedMet enc C.prog fn (OpenSpec.ofChange s) apart w args) (s.post enc C.prog fn apart fresh handsOn again) := by
  refine returnsInHanded_of_calls own started noInit witness fun w tape i _ hsh _ hok hpre _ => ?_
  obtain ⟨_, _, _, g, hg, _, _, _, _, hval⟩ := hok
  obtain rfl : g = fn := Option.some.inj (hg.symm.trans hfn)
  obtain ⟨⟨⟨ds, gs, before, hw, _⟩, hx⟩, _⟩ := hpre
  have k := contract (w.forCall tape i) w.heap.size i.args ds gs before hval (DataW.Whole.of_heap (w' := w.forCall tape i) (by rfl) hw) hsh (hX _ _ _ (by rfl) hx)
  refine k.mono fun e W' h => ?_
  obtain ⟨v, rfl, hp⟩ := h
  exact ChangeSpec.post_blind hp
end Go.Proofs.YtfmpakmigmehkaaGreatDoor
end G2S
