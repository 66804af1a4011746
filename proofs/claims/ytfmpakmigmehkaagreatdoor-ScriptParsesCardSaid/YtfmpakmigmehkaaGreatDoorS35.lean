/- A configuration compared with itself is equal. -/
import Derived.Test.YtfmpakmigmehkaaGreatDoorS28
set_option linter.unusedVariables false
set_option linter.unusedSimpArgs false
set_option maxRecDepth 100000
noncomputable section
namespace Go.Proofs.YtfmpakmigmehkaaGreatDoor
open Go Go.Fl Go.Proofs
def cfgVals (c : CfgS) : List Value := [.bool c.server, .string (bs c.name), .string (bs c.secret), .int .i64 c.mru, .bool c.pfc, .bool c.acfc, .int .u32 c.accm, .int .i64 c.mrru, .bool c.short, .int .i64 c.bits, .bool c.stl, .bool c.mppc, .bool c.defl, .bool c.must, .bool c.sym, .int .i64 c.tmo, .int .i64 c.tries, .int .i64 c.frag]
theorem scs_cfg (c : CfgS) : scs (cfgC c) = some (cfgVals c) := rfl
theorem guard25 : Tryz.prog.eqGuardType Tryz.prog.depth 25 = false := by kernel_rfl
theorem held25 : Tryz.prog.stoodInHeld 25 = false := by kernel_rfl
theorem fields25 : ∃ fs : Array Field, srun Tryz.prog (underlying 25) = some (.struct fs) ∧ fs.toList.map (fun f => (f.type, f.offset)) = [(4, 0), (9, 1), (9, 2), (3, 3), (4, 4), (4, 5), (23, 6), (3, 7), (4, 8), (3, 9), (4, 10), (4, 11), (4, 12), (4, 13), (4, 14), (3, 15), (3, 16), (3, 17)] := ⟨_, rfl, by kernel_rfl⟩
theorem ba_refl (s : ByteArray) : (s == s) = true := by
  show (s.data == s.data) = true
  simp
theorem eq_str (d : Nat) (s : ByteArray) : srun Tryz.prog (Op.equalIn (d + 1) 9 (.string s) (.string s)) = some true := by
  have h : srun Tryz.prog (Op.equalIn (d + 1) 9 (.string s) (.string s)) = some (s == s) := by kernel_rfl
  rw [h, ba_refl]
theorem eq_bool (d : Nat) (s : Bool) : srun Tryz.prog (Op.equalIn (d + 1) 4 (.bool s) (.bool s)) = some true := by
  have h : srun Tryz.prog (Op.equalIn (d + 1) 4 (.bool s) (.bool s)) = some (s == s) := by kernel_rfl
  rw [h]; simp
theorem eq_int (d : Nat) (s : Int) : srun Tryz.prog (Op.equalIn (d + 1) 3 (.int .i64 s) (.int .i64 s)) = some true := by
  have h : srun Tryz.prog (Op.equalIn (d + 1) 3 (.int .i64 s) (.int .i64 s)) = some (s == s) := by kernel_rfl
  rw [h]; simp
theorem eq_u32 (d : Nat) (s : Int) : srun Tryz.prog (Op.equalIn (d + 1) 23 (.int .u32 s) (.int .u32 s)) = some true := by
  have h : srun Tryz.prog (Op.equalIn (d + 1) 23 (.int .u32 s) (.int .u32 s)) = some (s == s) := by kernel_rfl
  rw [h]; simp
/-- The loop over the fields of a struct that is compared with itself. -/
theorem eq_loop (d : Nat) (xs : Array Value) : ∀ (fs : List Field), (∀ f ∈ fs, ∃ p, srun Tryz.prog (part f.type xs f.offset) = some p ∧ srun Tryz.prog (Op.equalIn d f.type p p) = some true) →
    srun Tryz.prog (forIn fs ((none, ()) : Option Bool × Unit) fun f __s =>
                if f.name ≠ "_" then do
                  let __do_lift ← part f.type xs f.offset
                  let __do_lift_1 ← part f.type xs f.offset
                  let __do_lift ← Op.equalIn d f.type __do_lift __do_lift_1
                  if (!__do_lift) = true then pure (ForInStep.done (some false, ()))
                    else pure (ForInStep.yield (none, ()))
                else pure (ForInStep.yield (none, ()))) = some (none, ())
  | [], _ => rfl
  | f :: fs, h => by
    obtain ⟨p, h1, h2⟩ := h f (by simp)
    have ih := eq_loop d xs fs fun g hg => h g (by simp [hg])
    rw [List.forIn_cons]
    rw [srun_bind _ _ _ (ForInStep.yield (none, ()))]
    · exact ih
    · split
      · rw [srun_bind _ _ _ _ h1, srun_bind _ _ _ _ h1, srun_bind _ _ _ _ h2]
        rfl
      · rfl
theorem eq_cfg (d : Nat) (c : CfgS) : srun Tryz.prog (Op.equalIn (d + 2) 25 (.agg (cfgVals c).toArray) (.agg (cfgVals c).toArray)) = some true := by
  obtain ⟨fs, h2, hf⟩ := fields25
  unfold Op.equalIn
  rw [srun_bind _ _ _ _ h2]
  simp only []
  have hp : srun Tryz.prog program = some Tryz.prog := rfl
  rw [srun_bind _ _ _ _ hp, held25, if_neg (by simp), ← Array.forIn_toList]
  rw [srun_bind _ _ _ _ (eq_loop (d + 1) (cfgVals c).toArray fs.toList fun f hm => ?_)]
  · rfl
  · have hm2 : (f.type, f.offset) ∈ fs.toList.map (fun f => (f.type, f.offset)) := List.mem_map_of_mem hm
    rw [hf] at hm2
    obtain ⟨t, ht⟩ : ∃ t, f.type = t := ⟨_, rfl⟩
    obtain ⟨o, ho⟩ : ∃ o, f.offset = o := ⟨_, rfl⟩
    rw [ht, ho] at hm2 ⊢
    simp only [List.mem_cons, Prod.mk.injEq, List.mem_nil_iff, or_false] at hm2
    rcases hm2 with ⟨rfl, rfl⟩ | ⟨rfl, rfl⟩ | ⟨rfl, rfl⟩ | ⟨rfl, rfl⟩ | ⟨rfl, rfl⟩ | ⟨rfl, rfl⟩ | ⟨rfl, rfl⟩ | ⟨rfl, rfl⟩ | ⟨rfl, rfl⟩ | ⟨rfl, rfl⟩ | ⟨rfl, rfl⟩ | ⟨rfl, rfl⟩ | ⟨rfl, rfl⟩ | ⟨rfl, rfl⟩ | ⟨rfl, rfl⟩ | ⟨rfl, rfl⟩ | ⟨rfl, rfl⟩ | ⟨rfl, rfl⟩
    · exact ⟨.bool c.server, by kernel_rfl, eq_bool _ _⟩
    · exact ⟨.string (bs c.name), by kernel_rfl, eq_str _ _⟩
    · exact ⟨.string (bs c.secret), by kernel_rfl, eq_str _ _⟩
    · exact ⟨.int .i64 c.mru, by kernel_rfl, eq_int _ _⟩
    · exact ⟨.bool c.pfc, by kernel_rfl, eq_bool _ _⟩
    · exact ⟨.bool c.acfc, by kernel_rfl, eq_bool _ _⟩
    · exact ⟨.int .u32 c.accm, by kernel_rfl, eq_u32 _ _⟩
    · exact ⟨.int .i64 c.mrru, by kernel_rfl, eq_int _ _⟩
    · exact ⟨.bool c.short, by kernel_rfl, eq_bool _ _⟩
    · exact ⟨.int .i64 c.bits, by kernel_rfl, eq_int _ _⟩
    · exact ⟨.bool c.stl, by kernel_rfl, eq_bool _ _⟩
    · exact ⟨.bool c.mppc, by kernel_rfl, eq_bool _ _⟩
    · exact ⟨.bool c.defl, by kernel_rfl, eq_bool _ _⟩
    · exact ⟨.bool c.must, by kernel_rfl, eq_bool _ _⟩
    · exact ⟨.bool c.sym, by kernel_rfl, eq_bool _ _⟩
    · exact ⟨.int .i64 c.tmo, by kernel_rfl, eq_int _ _⟩
    · exact ⟨.int .i64 c.tries, by kernel_rfl, eq_int _ _⟩
    · exact ⟨.int .i64 c.frag, by kernel_rfl, eq_int _ _⟩
theorem equal_cfg (c : CfgS) : srun Tryz.prog (Op.equal 25 (.agg (cfgVals c).toArray) (.agg (cfgVals c).toArray)) = some true := eq_cfg 9998 c
theorem guard_cfg (op : BinOp) (h : op = .eql ∨ op = .neq) (x y : Operand) (c : CfgS) : srun Tryz.prog (eqGuard op 25 x y (.agg (cfgVals c).toArray) (.agg (cfgVals c).toArray)) = some () := by
  have hp : srun Tryz.prog program = some Tryz.prog := rfl
  rcases h with rfl | rfl
  · unfold eqGuard
    simp only [Bool.not_true, Bool.false_eq_true, if_false]
    rw [srun_bind _ _ _ _ hp, srun_bind _ _ _ _ hp, guard25]
    rfl
  · unfold eqGuard
    simp only [Bool.not_true, Bool.false_eq_true, if_false]
    rw [srun_bind _ _ _ _ hp, srun_bind _ _ _ _ hp, guard25]
    rfl
theorem neq_cfg (x y : Operand) (c : CfgS) : srun Tryz.prog (do
            eqGuard BinOp.neq 25 x y (.agg (cfgVals c).toArray) (.agg (cfgVals c).toArray)
            binOp BinOp.neq 25 (.agg (cfgVals c).toArray) (.agg (cfgVals c).toArray)) = some (.bool false) := by
  rw [srun_bind _ _ _ _ (guard_cfg .neq (.inr rfl) x y c)]
  unfold binOp
  simp only []
  rw [srun_bind _ _ _ _ (equal_cfg c)]
  rfl
theorem eql_cfg (x y : Operand) (c : CfgS) : srun Tryz.prog (do
            eqGuard BinOp.eql 25 x y (.agg (cfgVals c).toArray) (.agg (cfgVals c).toArray)
            binOp BinOp.eql 25 (.agg (cfgVals c).toArray) (.agg (cfgVals c).toArray)) = some (.bool true) := by
  rw [srun_bind _ _ _ _ (guard_cfg .eql (.inl rfl) x y c)]
  unfold binOp
  simp only []
  rw [srun_bind _ _ _ _ (equal_cfg c)]
  rfl
end Go.Proofs.YtfmpakmigmehkaaGreatDoor
