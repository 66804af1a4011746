/- Contracts: errors.As at a fault, odd, number. -/
import Derived.Test.YtfmpakmigmehkaaGreatDoorProg
import Derived.WalkKit
import Derived.LaidEql
import Derived.Stop.Asserts
import Derived.RowKitTokens
import Derived.Test.YtfmpakmigmehkaaGreatDoorS3
set_option linter.unusedVariables false
set_option linter.unusedSimpArgs false
namespace Go.Proofs.YtfmpakmigmehkaaGreatDoor
open Go.RowKit Go.Extern.Stop Go.Stop Go.Extern

/-- errors.As(nil, target). -/
theorem as_nil (t : Value) (w : World) :
    Calls Tryz.prog 46 #[.nilIface, t] w fun e w' => e = .returned (.bool false) ∧ w' = w := by
  go_enter Tryz.func46, Tryz.ntmps46
  go_wp2
  go_ret
  exact ⟨rfl, rfl⟩

theorem uE : Tryz.prog.underlying 94 = some (.pointer 98) := by kernel_rfl
theorem uPE : Tryz.prog.underlying 96 = some (.pointer 94) := by kernel_rfl
/-! ### CLOSED FACTS ON THE MODEL's ENTRIES FOR internal/reflectlite, at this program's types: 25: *p.E · 27: **p.E · 23: error · 45: reflectlite's rtype · 1: how many package-level variables the dump has -/
theorem Tas_valueOf27 (t : Addr) (w : World) : (ReflectliteValue.unpack (.iface 96 (.pointer (some t)))).run Tryz.prog w
    = .ok (.agg #[.pointer (some ⟨9, 96, none⟩), .pointer (some ⟨w.heap.size, 0, none⟩), .int .u64 150]) (w.alloc (.cells #[.pointer (some t)] 96)) := by kernel_rfl
theorem Tas_type27 (a : Addr) (w : World) : (ReflectliteValue.methodAny (ReflectliteValue.valueError "reflectlite.Value.Type" 0) (fun t _ _ _ => ReflectliteType.toType t) #[.agg #[.pointer (some ⟨9, 96, none⟩), .pointer (some a), .int .u64 150]]).run Tryz.prog w
    = .ok (.iface 142 (.agg #[.pointer (some ⟨9, 96, none⟩)])) w := by kernel_rfl
theorem Tas_methodKind (h : Value) (w : World) : (Go.method 314 142 (.agg #[h]) "Kind").run Tryz.prog w = .ok (130, h) w := by kernel_rfl
theorem Tas_kind27 (w : World) : ((ReflectliteType.abiMethod fun t => (fun a : Nat => Value.int IntKind.u8 (a : Int)) <$> Rtype.kind t) #[.pointer (some ⟨9, 96, none⟩)]).run Tryz.prog w = .ok (.int .u8 22) w := by kernel_rfl
theorem Tas_kind25 (w : World) : ((ReflectliteType.abiMethod fun t => (fun a : Nat => Value.int IntKind.u8 (a : Int)) <$> Rtype.kind t) #[.pointer (some ⟨9, 94, none⟩)]).run Tryz.prog w = .ok (.int .u8 22) w := by kernel_rfl

/-! ### THE ENTRIES THAT READ OR WRITE MEMORY: laws with a premise on the cell (after Derived/Lib/ReflectliteSlice.lean's manner: each unfolding a lemma of its own, by rfl) -/
theorem rlm (z : Sem Value) (f : TypeId → Addr → Nat → Nat → Sem Value) (v : Value) :
    ReflectliteValue.method z f #[v] = (do match ← ReflectliteValue.parts v with | none => z | some (t, a, fl) => f t a fl (fl % 32)) := rfl
theorem Tas_parts27 (a : Addr) (w : World) : (ReflectliteValue.parts (.agg #[.pointer (some ⟨9, 96, none⟩), .pointer (some a), .int .u64 150])).run Tryz.prog w = .ok (some (96, a, 150)) w := by kernel_rfl
/-- (Value).IsNil at the Value of a **p.E that is not nil. -/
theorem Tas_isNil27 (a p : Addr) (W : World) (ha : W.cell? a = some (.pointer (some p))) :
    (ReflectliteValue.method (ReflectliteValue.valueError "reflectlite.Value.IsNil" 0) ReflectliteValue.isNil #[.agg #[.pointer (some ⟨9, 96, none⟩), .pointer (some a), .int .u64 150]]).run Tryz.prog W = .ok (.bool false) W := by
  rw [rlm]
  simp only [Sem.run_bind, Tas_parts27, Result.andThen]
  simp [ReflectliteValue.isNil, loadVar, isAgg, underlying, uPE, ha, Result.andThen]

theorem Tas_methodElem (h : Value) (w : World) : (Go.method 314 142 (.agg #[h]) "Elem").run Tryz.prog w = .ok (143, .agg #[h]) w := by kernel_rfl
theorem Tas_methodImplements (h : Value) (w : World) : (Go.method 314 142 (.agg #[h]) "Implements").run Tryz.prog w = .ok (144, .agg #[h]) w := by kernel_rfl
theorem Tas_methodAssignableTo (h : Value) (w : World) : (Go.method 314 142 (.agg #[h]) "AssignableTo").run Tryz.prog w = .ok (141, .agg #[h]) w := by kernel_rfl
theorem Tas_elem27 (w : World) : (ReflectliteType.method ReflectliteType.elem #[.agg #[.pointer (some ⟨9, 96, none⟩)]]).run Tryz.prog w = .ok (.iface 142 (.agg #[.pointer (some ⟨9, 94, none⟩)])) w := by kernel_rfl
theorem Tas_implements25 (w : World) : (ReflectliteType.relation "Implements" ReflectliteType.implements_ #[.agg #[.pointer (some ⟨9, 94, none⟩)], .iface 142 (.agg #[.pointer (some ⟨9, 57, none⟩)])]).run Tryz.prog w = .ok (.bool true) w := by kernel_rfl
theorem Tas_typeOf25 (v : Value) (w : World) : (ReflectliteType.typeOf #[.iface 94 v]).run Tryz.prog w = .ok (.iface 142 (.agg #[.pointer (some ⟨9, 94, none⟩)])) w := by kernel_rfl
theorem Tas_assignable25 (w : World) : (ReflectliteType.relation "AssignableTo" ReflectliteType.assignableTo #[.agg #[.pointer (some ⟨9, 94, none⟩)], .iface 142 (.agg #[.pointer (some ⟨9, 94, none⟩)])]).run Tryz.prog w = .ok (.bool true) w := by kernel_rfl
theorem Tas_valueOf25 (e : Addr) (w : World) : (ReflectliteValue.unpack (.iface 94 (.pointer (some e)))).run Tryz.prog w
    = .ok (.agg #[.pointer (some ⟨9, 94, none⟩), .pointer (some ⟨w.heap.size, 0, none⟩), .int .u64 150]) (w.alloc (.cells #[.pointer (some e)] 94)) := by kernel_rfl

theorem Tas_elemOf27 (w : World) : (Rtype.elem? 96).run Tryz.prog w = .ok (some 94) w := by kernel_rfl
theorem Tas_mk25 (p : Addr) (w : World) : (ReflectliteValue.mk 94 p ReflectliteValue.flagAddr).run Tryz.prog w = .ok (.agg #[.pointer (some ⟨9, 94, none⟩), .pointer (some p), .int .u64 406]) w := by kernel_rfl
/-- (Value).Elem at the Value of a **p.E that is not nil: the Value of the *p.E variable that it points to, addressable. -/
theorem Tas_elemV27 (a p : Addr) (W : World) (ha : W.cell? a = some (.pointer (some p))) :
    (ReflectliteValue.method (ReflectliteValue.valueError "reflectlite.Value.Elem" 0) ReflectliteValue.elem #[.agg #[.pointer (some ⟨9, 96, none⟩), .pointer (some a), .int .u64 150]]).run Tryz.prog W
      = .ok (.agg #[.pointer (some ⟨9, 94, none⟩), .pointer (some p), .int .u64 406]) W := by
  rw [rlm]
  simp only [Sem.run_bind, Tas_parts27, Result.andThen]
  simp [ReflectliteValue.elem, loadVar, isAgg, underlying, uPE, ha, Result.andThen, Tas_elemOf27, Tas_mk25]
theorem rls (v x : Value) : ReflectliteValue.set #[v, x] = (do
    let (some (dst, a, fl), some (src, b, _)) := (← ReflectliteValue.parts v, ← ReflectliteValue.parts x)
      | unsupported (.noEntry "extern/(internal/reflectlite.Value).Set.zeroValue")
    if fl / ReflectliteValue.flagAddr % 2 == 0 then unsupported (.noEntry "extern/(internal/reflectlite.Value).Set.unaddressable")
    let val ← loadVar src b
    if ← Rtype.directlyAssignable dst src then storeVar dst a val
    else if ← Rtype.implements dst src then
      if (← Rtype.kind src) == 20 then
        match val with
        | .nilIface => unsupported (.noEntry "extern/reflectlite: a nil value of one interface type handed on as a value of another")
        | _ => storeVar dst a val
      else storeVar dst a (.iface src val)
    else panicString ("reflectlite.Set: value of type " ++ (← Rtype.spelt src) ++ " is not assignable to type " ++ (← Rtype.spelt dst))
    pure (.tuple #[])) := rfl
theorem Tas_parts25a (a : Addr) (w : World) : (ReflectliteValue.parts (.agg #[.pointer (some ⟨9, 94, none⟩), .pointer (some a), .int .u64 406])).run Tryz.prog w = .ok (some (94, a, 406)) w := by kernel_rfl
theorem Tas_parts25 (a : Addr) (w : World) : (ReflectliteValue.parts (.agg #[.pointer (some ⟨9, 94, none⟩), .pointer (some a), .int .u64 150])).run Tryz.prog w = .ok (some (94, a, 150)) w := by kernel_rfl
theorem Tas_direct25 (w : World) : (Rtype.directlyAssignable 94 94).run Tryz.prog w = .ok true w := by kernel_rfl
theorem Tas_size25 (w : World) : (sizeOf 94).run Tryz.prog w = .ok 1 w := by kernel_rfl
/-- (Value).Set: the *p.E variable at 'ta' gets what the Value's own variable 'b' holds. -/
theorem Tas_set25 (ta b e : Addr) (old : Value) (W : World) (hb : W.cell? b = some (.pointer (some e))) (ht : W.cell? ta = some old) (hf : W.frozen? ta = false) :
    (ReflectliteValue.set #[.agg #[.pointer (some ⟨9, 94, none⟩), .pointer (some ta), .int .u64 406], .agg #[.pointer (some ⟨9, 94, none⟩), .pointer (some b), .int .u64 150]]).run Tryz.prog W
      = .ok (.tuple #[]) (W.setCell ta (.pointer (some e))) := by
  rw [rls]
  simp only [Sem.run_bind, Tas_parts25a, Tas_parts25, Result.andThen]
  simp [ReflectliteValue.flagAddr, loadVar, isAgg, underlying, uE, hb, Result.andThen, Tas_direct25, storeVar, Value.cells, storeCells, Addr.add]
  rw [run_store Tryz.prog W ta _ _ (by rfl)]
  simp [ht, hf]

set_option maxRecDepth 100000 in
set_option maxHeartbeats 8000000 in
theorem as_hit (e t : Addr) (old : Value) (w : World) (hg : w.cell? ⟨0, 0, none⟩ = some (.iface 142 (.agg #[.pointer (some ⟨9, 57, none⟩)]))) (ht0 : w.cell? t = some old) (hf0 : w.frozen? t = false) :
    Calls Tryz.prog 46 #[.iface 94 (.pointer (some e)), .iface 96 (.pointer (some t))] w fun ev w' => ev = .returned (.bool true) ∧ w' = ((((w.alloc (.cells #[.pointer (some t)] 96)).alloc (.cells #[.pointer (some ⟨9, 96, none⟩), .pointer (some ⟨w.heap.size, 0, none⟩), .int .u64 150] 124)).alloc (.cells #[.pointer (some ⟨9, 96, none⟩), .pointer (some ⟨w.heap.size, 0, none⟩), .int .u64 150] 124)).alloc (.cells #[.pointer (some e)] 94)).setCell t (.pointer (some e)) := by
  have h6 := @run_callFunc_extern Tryz.prog 67 _ (fun args => ReflectliteValue.unpack (args.getD 0 (.tuple #[]))) Tryz.func67 (by kernel_rfl) (by kernel_rfl) (by kernel_rfl) (by kernel_rfl)
  have h7 := @run_callFunc_extern Tryz.prog 68 _ (ReflectliteValue.methodAny (ReflectliteValue.valueError "reflectlite.Value.Type" 0) (fun t _ _ _ => ReflectliteType.toType t)) Tryz.func68 (by kernel_rfl) (by kernel_rfl) (by kernel_rfl) (by kernel_rfl)
  have h8 := @run_callFunc_extern Tryz.prog 69 _ (ReflectliteValue.method (ReflectliteValue.valueError "reflectlite.Value.IsNil" 0) ReflectliteValue.isNil) Tryz.func69 (by kernel_rfl) (by kernel_rfl) (by kernel_rfl) (by kernel_rfl)
  have h27 := @run_callFunc_extern Tryz.prog 130 _ (ReflectliteType.abiMethod fun t => do pure (.int .u8 (← Rtype.kind t))) Tryz.func130 (by kernel_rfl) (by kernel_rfl) (by kernel_rfl) (by kernel_rfl)
  have h37 := @run_callFunc_extern Tryz.prog 143 _ (ReflectliteType.method ReflectliteType.elem) Tryz.func143 (by kernel_rfl) (by kernel_rfl) (by kernel_rfl) (by kernel_rfl)
  have h38 := @run_callFunc_extern Tryz.prog 144 _ (ReflectliteType.relation "Implements" ReflectliteType.implements_) Tryz.func144 (by kernel_rfl) (by kernel_rfl) (by kernel_rfl) (by kernel_rfl)
  have h10 := @run_callFunc_extern Tryz.prog 85 _ ReflectliteType.typeOf Tryz.func85 (by kernel_rfl) (by kernel_rfl) (by kernel_rfl) (by kernel_rfl)
  have h35 := @run_callFunc_extern Tryz.prog 141 _ (ReflectliteType.relation "AssignableTo" ReflectliteType.assignableTo) Tryz.func141 (by kernel_rfl) (by kernel_rfl) (by kernel_rfl) (by kernel_rfl)
  have h11 := @run_callFunc_extern Tryz.prog 86 _ (ReflectliteValue.method (ReflectliteValue.valueError "reflectlite.Value.Elem" 0) ReflectliteValue.elem) Tryz.func86 (by kernel_rfl) (by kernel_rfl) (by kernel_rfl) (by kernel_rfl)
  have h12 := @run_callFunc_extern Tryz.prog 87 _ ReflectliteValue.set Tryz.func87 (by kernel_rfl) (by kernel_rfl) (by kernel_rfl) (by kernel_rfl)
  have tO := Tas_typeOf25
  have mA := Tas_methodAssignableTo
  have a25 := Tas_assignable25
  have v25 := Tas_valueOf25
  have f6 := Tas_valueOf27
  have f7 := Tas_type27
  have mK := Tas_methodKind
  have mE := Tas_methodElem
  have mI := Tas_methodImplements
  have k27 := Tas_kind27
  have k25 := Tas_kind25
  have e27 := Tas_elem27
  have i25 := Tas_implements25
  have n8 := Tas_isNil27 ⟨w.heap.size, 0, none⟩ t ((w.alloc (.cells #[.pointer (some t)] 96)).alloc (.cells #[.pointer (some ⟨9, 96, none⟩), .pointer (some ⟨w.heap.size, 0, none⟩), .int .u64 150] 124)) (by simp)
  have hlt : 0 < w.heap.size := by
    rcases Nat.eq_zero_or_pos w.heap.size with h0 | h
    · simp [World.cell?, h0] at hg
    · exact h
  have hg2 : ((w.alloc (.cells #[.pointer (some t)] 96)).alloc (.cells #[.pointer (some ⟨9, 96, none⟩), .pointer (some ⟨w.heap.size, 0, none⟩), .int .u64 150] 124)).cell? ⟨0, 0, none⟩ = some (.iface 142 (.agg #[.pointer (some ⟨9, 57, none⟩)])) := by
    rw [World.cell?_alloc_lt _ _ ⟨0, 0, none⟩ (by simp), World.cell?_alloc_lt _ _ ⟨0, 0, none⟩ hlt]; exact hg
  have htl : t.block < w.heap.size := by
    rcases Nat.lt_or_ge t.block w.heap.size with h | h
    · exact h
    · simp [World.cell?, Array.getElem?_eq_none h] at ht0
  have el := Tas_elemV27 ⟨w.heap.size, 0, none⟩ t (((w.alloc (.cells #[.pointer (some t)] 96)).alloc (.cells #[.pointer (some ⟨9, 96, none⟩), .pointer (some ⟨w.heap.size, 0, none⟩), .int .u64 150] 124)).alloc (.cells #[.pointer (some ⟨9, 96, none⟩), .pointer (some ⟨w.heap.size, 0, none⟩), .int .u64 150] 124)) (by rw [World.cell?_alloc_lt _ _ ⟨w.heap.size, 0, none⟩ (by simp; omega)]; simp)
  have st := Tas_set25 t ⟨w.heap.size + 1 + 1 + 1, 0, none⟩ e old ((((w.alloc (.cells #[.pointer (some t)] 96)).alloc (.cells #[.pointer (some ⟨9, 96, none⟩), .pointer (some ⟨w.heap.size, 0, none⟩), .int .u64 150] 124)).alloc (.cells #[.pointer (some ⟨9, 96, none⟩), .pointer (some ⟨w.heap.size, 0, none⟩), .int .u64 150] 124)).alloc (.cells #[.pointer (some e)] 94))
    (by rw [World.cell?_alloc_at _ _ _ _ (by simp)]; rfl)
    (by rw [World.cell?_alloc_lt _ _ t (by simp; omega), World.cell?_alloc_lt _ _ t (by simp; omega), World.cell?_alloc_lt _ _ t (by simp; omega), World.cell?_alloc_lt _ _ t htl]; exact ht0)
    (by rw [World.frozen?_alloc_old _ _ t (by simp; omega), World.frozen?_alloc_old _ _ t (by simp; omega), World.frozen?_alloc_old _ _ t (by simp; omega), World.frozen?_alloc_old _ _ t (Nat.ne_of_lt htl)]; exact hf0)
  go_enter Tryz.func46, Tryz.ntmps46
  go_wp2
  refine wp_loop_rounds 1 ?_
  rw [rounds_succ]
  go_wp2
  go_ret
  exact ⟨rfl, rfl⟩
end Go.Proofs.YtfmpakmigmehkaaGreatDoor


set_option maxRecDepth 20000
noncomputable section S7S
namespace Go.Proofs.YtfmpakmigmehkaaGreatDoor
open Go Go.Fl Go.Proofs

theorem as_s {b : Nat} {old : AV} {fc : List AV} (hf : ∀ x ∈ fc, x.Lt 0) (H : Heap) (hb : H.get b = some [old]) :
    SCalls Tryz.prog 46 [.ifc 94 (.ep fc), .ifc 96 (.ptr b 0)] H (.bool true) (H.set b [.ep fc]) := by
  refine ⟨Tryz.call46, Nat.le_refl _, fun ρ I w cargs hrel hargs => ?_⟩
  obtain ⟨u, v, rfl⟩ : ∃ u v, cargs = #[u, v] := by
    have := hargs.1
    match cargs, this with
    | ⟨[u, v]⟩, _ => exact ⟨u, v, rfl⟩
  have hu := hargs.2 0 _ rfl
  have hv := hargs.2 1 _ rfl
  simp at hu hv
  cases hu with
  | ifc hu =>
  cases hv with
  | ifc hv =>
  cases hv with
  | ptr hv =>
  rename_i cb base
  have hu0 := hu
  cases hu with
  | ep k1 k2 k3 k4 =>
  rename_i ecb eoff ec ee efz
  rcases hrel.live b _ hb with ⟨h1, _⟩ | ⟨cb', base', c, e, h1, h2, ⟨fz3, hf3, h3⟩, h4, h5⟩
  · rw [hv] at h1; cases h1
  rw [hv] at h1
  simp only [Option.some.injEq, Prod.mk.injEq] at h1
  obtain ⟨rfl, rfl⟩ := h1
  simp only [List.length_cons, List.length_nil] at h4
  have hlt : cb < w.heap.size := (Array.getElem?_eq_some_iff.1 h3).1
  obtain ⟨i0, e0, fz0, g0⟩ := hrel.glob.cells 0 _ rfl
  have hg : w.cell? ⟨0, 0, none⟩ = some (.iface 142 (.agg #[.pointer (some ⟨9, 57, none⟩)])) := by
    simp [World.cell?, g0]
  have hc : w.cell? ⟨cb, base, none⟩ = some (c.getD base Go.undef) := by
    have : base < c.size := by omega
    simp [World.cell?, h3, this]
  have hfz : w.frozen? ⟨cb, base, none⟩ = false := by
    have := hf3 base (by omega)
    simp only [World.frozen?, h3]
    rw [Bool.eq_false_iff]
    intro h
    simp only [Bool.and_eq_true, decide_eq_true_eq] at h
    exact this h
  have hrun := as_hit ⟨ecb, eoff, none⟩ ⟨cb, base, none⟩ _ w hg hc hfz
  refine hrun.mono ?_
  rintro ev w' ⟨rfl, hw'⟩
  obtain ⟨r1, x1⟩ := rel_junk hrel (w1 := w.alloc (.cells #[.pointer (some ⟨cb, base, none⟩)] 96)) rfl rfl rfl rfl
  obtain ⟨r2, x2⟩ := rel_junk r1 (w1 := (w.alloc (.cells #[.pointer (some ⟨cb, base, none⟩)] 96)).alloc (.cells #[.pointer (some ⟨9, 96, none⟩), .pointer (some ⟨w.heap.size, 0, none⟩), .int .u64 150] 124)) rfl rfl rfl rfl
  obtain ⟨r3, x3⟩ := rel_junk r2 (w1 := ((w.alloc (.cells #[.pointer (some ⟨cb, base, none⟩)] 96)).alloc (.cells #[.pointer (some ⟨9, 96, none⟩), .pointer (some ⟨w.heap.size, 0, none⟩), .int .u64 150] 124)).alloc (.cells #[.pointer (some ⟨9, 96, none⟩), .pointer (some ⟨w.heap.size, 0, none⟩), .int .u64 150] 124)) rfl rfl rfl rfl
  obtain ⟨r4, x4⟩ := rel_junk r3 (w1 := (((w.alloc (.cells #[.pointer (some ⟨cb, base, none⟩)] 96)).alloc (.cells #[.pointer (some ⟨9, 96, none⟩), .pointer (some ⟨w.heap.size, 0, none⟩), .int .u64 150] 124)).alloc (.cells #[.pointer (some ⟨9, 96, none⟩), .pointer (some ⟨w.heap.size, 0, none⟩), .int .u64 150] 124)).alloc (.cells #[.pointer (some ⟨ecb, eoff, none⟩)] 94)) rfl rfl rfl rfl
  obtain ⟨w4, hw4⟩ : ∃ w4, (((w.alloc (.cells #[.pointer (some ⟨cb, base, none⟩)] 96)).alloc (.cells #[.pointer (some ⟨9, 96, none⟩), .pointer (some ⟨w.heap.size, 0, none⟩), .int .u64 150] 124)).alloc (.cells #[.pointer (some ⟨9, 96, none⟩), .pointer (some ⟨w.heap.size, 0, none⟩), .int .u64 150] 124)).alloc (.cells #[.pointer (some ⟨ecb, eoff, none⟩)] 94) = w4 := ⟨_, rfl⟩
  rw [hw4] at r4 x4 hw'
  have hx := ((x1.trans x2).trans x3).trans x4
  have h3' : w4.heap[cb]? = some (.cells c e fz3) := by
    have h34 : ∀ (W : World) (o : Obj), cb < W.heap.size → (W.alloc o).heap[cb]? = W.heap[cb]? := by
      intro W o h
      show (W.heap.push o)[cb]? = _
      rw [Array.getElem?_push, if_neg (by omega)]
    have hs : ∀ (W : World) (o : Obj), (W.alloc o).heap.size = W.heap.size + 1 := by
      intro W o
      show (W.heap.push o).size = _
      simp
    rw [← hw4, h34, h34, h34, h34]
    · exact h3
    · exact hlt
    · rw [hs]; omega
    · rw [hs, hs]; omega
    · rw [hs, hs, hs]; omega
  subst hw'
  have hset : ∀ k, k ≠ cb → (w4.setCell ⟨cb, base, none⟩ (.pointer (some ⟨ecb, eoff, none⟩))).heap[k]? = w4.heap[k]? := by
    intro k hk
    simp only [World.setCell, Array.getElem?_modify]
    rw [if_neg (fun e => hk e.symm)]
  have hset2 : (w4.setCell ⟨cb, base, none⟩ (.pointer (some ⟨ecb, eoff, none⟩))).heap[cb]? = some (.cells (c.setIfInBounds base (.pointer (some ⟨ecb, eoff, none⟩))) e fz3) := by
    simp only [World.setCell, Array.getElem?_modify, if_true, h3', Option.map_some]
    rfl
  have hep : VR ρ I w4.heap (.ep fc) (.pointer (some ⟨ecb, eoff, none⟩)) := hu0.mono hx
  obtain ⟨r5, x5⟩ := rel_write (w1 := w4.setCell ⟨cb, base, none⟩ (.pointer (some ⟨ecb, eoff, none⟩))) r4 (cs' := [.ep fc]) (c' := c.setIfInBounds base (.pointer (some ⟨ecb, eoff, none⟩))) hb (hx.rho _ _ hv) h2 hf3 h3' hset2 (by simp)
    (by simp [World.setCell]) hset rfl rfl rfl (by simpa using h4) (by
      intro i x hx'
      cases i with
      | zero =>
        simp at hx'
        subst hx'
        have : base < c.size := by omega
        simp [this]
        exact hep
      | succ i => simp at hx')
  exact ⟨_, ρ, I, rfl, .sc _, r5, hx.trans x5⟩



/-- What odd makes: a fault of the layer script, its number 11. -/
def scriptS : ByteArray := ⟨#[115, 99, 114, 105, 112, 116]⟩
def oddA : AV := .ifc 94 (.ep [.sc (.string scriptS), .sc (.int .i64 11)])

theorem odd_s  : SCalls Tryz.prog 63 [] Heap.empty oddA Heap.empty := by
  refine scalls_of_k (sz := 4) (Tryz.call63) Tryz.func63 rfl (Nat.zero_le _) (by kernel_rfl) (fun R hR => ?_)
  refine scode_seq_k (fun K1 hK1 => ?_)
  refine scode_region (by kernel_rfl) ?_
  simp [go_sem]
  refine hK1 _ _ ?_
  clear hK1 K1
  refine scode_seq_k (fun K2 hK2 => ?_)
  refine scode_region (by kernel_rfl) ?_
  simp [go_sem]
  refine hK2 _ _ ?_
  clear hK2 K2
  refine scode_ret ?_
  simp only [go_sem]
  refine hR _ _ ?_
  refine ret_pure (v := .ifc 94 (.ptr 0 0)) (by simp [go_sem]) ?_ (empty_le _) (Nat.zero_le _) (by simp [oddA, go_sem])
  refine .ifc (.ep (cs := [.sc (.string scriptS), .sc (.int .i64 11)]) (by simp [go_sem, scriptS]) (Nat.zero_le _) (by simp) (by simp) ?_)
  intro i x y hx hy
  rw [Nat.zero_add, hx] at hy
  cases hy
  exact .same _

theorem number_s (n : Int) (s : ByteArray) : SCalls Tryz.prog 21 [.ifc 94 (.ep [.sc (.string s), .sc (.int .i64 n)])] Heap.empty (.int n) Heap.empty := by
  have ha := fun H b old (hb : H.get b = some [old]) => as_s (fc := [.sc (.string s), .sc (.int .i64 n)]) (by simp [go_sem]) H hb
  refine scalls_of_k (sz := 11) (Tryz.call21) Tryz.func21 rfl (Nat.zero_le _) (by kernel_rfl) (fun R hR => ?_)
  refine scode_seq_k (fun K1 hK1 => ?_)
  refine scode_region (by kernel_rfl) ?_
  simp [go_sem]
  refine hK1 _ _ ?_
  clear hK1 K1
  refine scode_seq_k (fun K2 hK2 => ?_)
  refine scode_region (by kernel_rfl) ?_
  simp [go_sem]
  refine hK2 _ _ ?_
  clear hK2 K2
  refine scode_seq_k (fun K3 hK3 => ?_)
  refine scode_seq_k (fun K4 hK4 => ?_)
  refine scode_region (by kernel_rfl) ?_
  simp [go_sem]
  refine ⟨_, _, ha _ 0 (.sc (.pointer none)) (by simp [go_sem]), ?_⟩
  refine hK4 _ _ ?_
  clear hK4 K4
  refine scode_if (b := true) (by simp [go_sem]) (fun _ => ?_) (fun h => by cases h)
  refine scode_seq_k (fun K6 hK6 => ?_)
  refine scode_region (by kernel_rfl) ?_
  simp [go_sem]
  refine hK6 _ _ ?_
  clear hK6 K6
  refine scode_ret ?_
  simp only [go_sem]
  refine hR _ _ ?_
  exact ret_plain (by simp [go_sem]) (empty_le _) (Nat.zero_le _) (by simp [go_sem])

theorem number0_s : SCalls Tryz.prog 21 [.sc .nilIface] Heap.empty (.int 0) Heap.empty := by
  have hen : ∀ f ∈ [21, 46], Enters Tryz.prog f := by simp; exact ⟨Tryz.call21, Tryz.call46⟩
  obtain ⟨H, h⟩ := ecall_plain (v := .int .i64 0) mixed hen 10 (f := 21) (args := [.sc .nilIface]) (by kernel_rfl)
  exact scalls_forget h

end Go.Proofs.YtfmpakmigmehkaaGreatDoor
end S7S

set_option maxRecDepth 20000
noncomputable section S8S
namespace Go.Proofs.YtfmpakmigmehkaaGreatDoor
open Go Go.Fl Go.Proofs

theorem strOf_one (n : Int) (c : UInt8) (h : n = c.toNat) : strOf [n] = bs [c] := by
  have := strOf_bs [c]
  simp only [List.map_cons, List.map_nil] at this
  rw [h]; exact this
/-- The last digit. -/
def dgC (m : Nat) : UInt8 := UInt8.ofNat (48 + m % 10)
theorem tmod10 (m : Nat) : (m : Int).tmod 10 = ((m % 10 : Nat) : Int) := rfl
theorem tdiv10 (m : Nat) : (m : Int).tdiv 10 = ((m / 10 : Nat) : Int) := rfl
theorem u64in (n : Int) (h0 : 0 ≤ n) (h1 : n < 18446744073709551616) : IntKind.u64.wrap n = n := by
  show n % 18446744073709551616 = n
  omega
theorem dig_str (m : Nat) : strOf [IntKind.u8.wrap (IntKind.u64.wrap (48 + (m : Int).tmod 10))] = bs [dgC m] := by
  refine strOf_one _ _ ?_
  have h1 : m % 10 < 10 := Nat.mod_lt _ (by omega)
  rw [tmod10, u64in _ (by omega) (by omega), u8in _ (by omega) (by omega)]
  have : (dgC m).toNat = 48 + m % 10 := by unfold dgC; simp; omega
  rw [this]; rfl
theorem dec_len64 (u : Nat) (hu : u < 18446744073709551616) : (Lib.decDigits u).length ≤ 40 := by
  have := nDigits_le 19 u (by omega)
  rw [Lib.decDigits_length]; omega
theorem dec_step (m : Nat) : Lib.decDigits m = (if m / 10 = 0 then [] else Lib.decDigits (m / 10)) ++ [dgC m] := by
  unfold dgC
  rw [Lib.decDigits]
  by_cases h : m < 10
  · have h1 : m / 10 = 0 := by omega
    have h2 : m % 10 = m := by omega
    rw [dif_pos h, if_pos h1, h2]; rfl
  · have h1 : ¬ m / 10 = 0 := by omega
    rw [dif_neg h, if_neg h1]

theorem dec_s (u : Nat) (hu : u < 18446744073709551616) : SCalls Tryz.prog 58 [.sc (.int .u64 u)] Heap.empty (sA (Lib.decDigits u)) Heap.empty := by
  refine scalls_of_k (sz := 17) (Tryz.call58) Tryz.func58 rfl (Nat.zero_le _) (by kernel_rfl) (fun R hR => ?_)
  refine scode_seq_k (fun K1 hK1 => ?_)
  refine scode_region (by kernel_rfl) ?_
  simp [go_sem]
  refine hK1 _ _ ?_
  clear hK1 K1
  refine scode_seq_k (fun K2 hK2 => ?_)
  refine scode_region (by kernel_rfl) ?_
  simp [go_sem]
  refine hK2 _ _ ?_
  clear hK2 K2
  refine scode_block ?_
  refine scode_loop (Inv := fun n env H => ∃ (m : Nat) (suf : List UInt8), n = m ∧ m < 18446744073709551616 ∧ env 0 = .sc (.int .u64 m) ∧ env 3 = sA suf ∧ Lib.decDigits u = Lib.decDigits m ++ suf ∧ suf.length + (Lib.decDigits m).length ≤ 40) ?_ (n := u) (⟨u, [], rfl, hu, by simp [go_sem], by simp [go_sem]; rfl, by simp, by simpa using dec_len64 u hu⟩)
  rintro n env H ⟨m, suf, rfl, hm, e0, e3, hr, hl⟩
  have hds := dec_step n
  have hlen : suf.length ≤ 40 := by omega
  have hadd := srun_sadd Tryz.prog [dgC n] suf (by simp; omega)
  obtain ⟨d, hd⟩ : ∃ d, n / 10 = d := ⟨_, rfl⟩
  have hdiv : IntKind.u64.wrap ((n : Int).tdiv 10) = (d : Int) := by rw [tdiv10, hd, u64in _ (by omega) (by omega)]
  have hdiv2 : IntKind.u64.wrap ((n : Int) / 10) = (d : Int) := by rw [← hdiv, tdiv10]; rfl
  rw [hd] at hds
  refine scode_block ?_
  refine scode_seq_k (fun K3 hK3 => ?_)
  refine scode_region (by kernel_rfl) ?_
  simp [go_sem, e0, e3, dig_str, hadd]
  refine hK3 _ _ ?_
  clear hK3 K3
  refine scode_seq_k (fun K4 hK4 => ?_)
  refine scode_region (by kernel_rfl) ?_
  simp [go_sem, e0, hdiv, hdiv2]
  refine hK4 _ _ ?_
  clear hK4 K4
  refine scode_seq_k (fun K5 hK5 => ?_)
  refine scode_region (by kernel_rfl) ?_
  simp [go_sem, hdiv, hdiv2]
  refine hK5 _ _ ?_
  clear hK5 K5
  refine scode_if (b := ((d : Int) == 0)) (by simp [go_sem, hdiv, hdiv2]) (fun hb => ?_) (fun hb => ?_)
  · skip
    have hz : d = 0 := by simpa using hb
    rw [if_pos hz] at hds
    refine scode_seq_k (fun K6 hK6 => ?_)
    refine scode_region (by kernel_rfl) ?_
    simp [go_sem]
    refine hK6 _ _ ?_
    clear hK6 K6
    refine scode_ret ?_
    simp only [go_sem]
    refine hR _ _ ?_
    have hfin : Lib.decDigits u = dgC n :: suf := by rw [hr, hds]; rfl
    exact ret_plain (by simp [go_sem, hfin]) (empty_le _) (Nat.zero_le _) (by simp [go_sem])
  · skip
    have hz : ¬ d = 0 := by simpa using hb
    rw [if_neg hz] at hds
    refine scode_skip ?_
    refine ⟨d, by omega, d, dgC n :: suf, rfl, by omega, by simp [go_sem, hdiv, hdiv2], by simp [go_sem], ?_, ?_⟩
    · rw [hr, hds]; simp
    · rw [hds] at hl; simp at hl ⊢; omega

end Go.Proofs.YtfmpakmigmehkaaGreatDoor
end S8S
