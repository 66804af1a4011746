/- The library's functions as contracts of the abstract machine: IndexByte, FormatInt, Itoa, ParseInt, Split, Join. -/
import Derived.Test.YtfmpakmigmehkaaGreatDoorS2
import Derived.Test.YtfmpakmigmehkaaGreatDoorS1
import Derived.Test.YtfmpakmigmehkaaGreatDoorFl39
import Derived.Shelf.Small.Strs
import Derived.Shelf.Strconv.Itoa4
import Derived.Shelf.Strconv.ParseIntPublic10
import Derived.Shelf.Strings.Split
import Derived.Shelf.Strings.OnBuilder
set_option linter.unusedVariables false
set_option linter.unusedSimpArgs false
set_option maxRecDepth 20000
noncomputable section
namespace Go.Proofs.YtfmpakmigmehkaaGreatDoor
open Go Go.Fl Go.Proofs

theorem rel_below {ρ : Rho} {I : Nat → Prop} {H : Heap} {w w1 : World} (h : Rel ρ I H w.heap) (hb : Go.RowKit.Below w.heap.size w w1) :
    Rel ρ I H w1.heap ∧ Ext ρ I w ρ I w1 := by
  have hold : ∀ (cb : Nat) (o : Obj), w.heap[cb]? = some o → w1.heap[cb]? = some o := fun cb o hc => by
    rw [hb.block cb (Array.getElem?_eq_some_iff.1 hc).1]; exact hc
  have hx : Ext ρ I w ρ I w1 :=
    { rho := fun _ _ h => h
      imm := fun _ h => h
      size := hb.size
      kept := fun cb hcb => hb.block cb (h.irng cb hcb)
      blocks := fun cb c e fz hcb => ⟨c, fz, hold _ _ hcb, rfl⟩
      frame := fun cb hlt _ => hb.block cb hlt
      newI := fun _ h => .inl h
      newR := fun _ _ _ h => .inl h
      os := hb.os
      tape := hb.tape
      output := hb.output }
  refine ⟨⟨?_, h.inj, h.rng, ?_, ?_, h.glob.ext hx.imm hx.kept⟩, hx⟩
  · intro b cs hb'
    rcases h.live b cs hb' with h2 | ⟨cb, base, c', e', h2, h3, ⟨fz4, hf4, h4⟩, h5, h6⟩
    · exact .inl h2
    · exact .inr ⟨cb, base, c', e', h2, h3, ⟨fz4, hf4, hold _ _ h4⟩, h5, fun i x hx' => (h6 i x hx').mono hx⟩
  · intro b cb base hb'
    obtain ⟨c', e', fz', hc'⟩ := h.at_ _ _ _ hb'
    exact ⟨c', e', fz', hold _ _ hc'⟩
  · intro cb hcb; have := h.irng _ hcb; have := hx.size; omega

/-- A contract of the shelf that leaves all that was there as it was. -/
theorem scalls_below {f : FuncId} {args : List AV} {H : Heap} {r : AV} (hen : Enters Tryz.prog f)
    (h : ∀ ρ I w cargs, Rel ρ I H w.heap → VRs ρ I w.heap args cargs → Calls Tryz.prog f cargs w fun e w' => ∃ v, e = .returned v ∧ Go.RowKit.Below w.heap.size w w' ∧ VR ρ I w'.heap r v) : SCalls Tryz.prog f args H r H := by
  refine ⟨hen, Nat.le_refl _, fun ρ I w cargs hrel hargs => (h ρ I w cargs hrel hargs).mono ?_⟩
  rintro e w' ⟨v, rfl, hb, hv⟩
  obtain ⟨r1, x1⟩ := rel_below hrel hb
  exact ⟨v, ρ, I, rfl, hv, r1, x1⟩

theorem tab_ok {I : Nat → Prop} {w : World} (h : GlobOk I w.heap) {name : String} (hn : Tryz.prog.globalNamed name = some 2) : Lib.TabIs Tryz.prog w name .u64 Lib.pow10Tab := by
  obtain ⟨_, e, fz, h1⟩ := h.cells 2 _ rfl
  unfold Lib.TabIs World.var?
  rw [hn]
  simp only [Option.bind_some, h1]
  rfl

theorem args1 {ρ : Rho} {I : Nat → Prop} {hp : Array Obj} {v : Value} {cargs : Array Value} (h : VRs ρ I hp [.sc v] cargs) : cargs = #[v] := by
  obtain ⟨u, rfl⟩ : ∃ u, cargs = #[u] := by
    have := h.1
    match cargs, this with
    | ⟨[u]⟩, _ => exact ⟨u, rfl⟩
  have hu := h.2 0 _ rfl
  cases hu.eq_sc
  rfl
theorem args2 {ρ : Rho} {I : Nat → Prop} {hp : Array Obj} {x : AV} {v : Value} {cargs : Array Value} (h : VRs ρ I hp [x, .sc v] cargs) : ∃ u, cargs = #[u, v] ∧ VR ρ I hp x u := by
  obtain ⟨u, v', rfl⟩ : ∃ u v', cargs = #[u, v'] := by
    have := h.1
    match cargs, this with
    | ⟨[u, v']⟩, _ => exact ⟨u, v', rfl⟩
  have hv := h.2 1 _ rfl
  cases hv.eq_sc
  exact ⟨u, rfl, h.2 0 _ rfl⟩

theorem below_growN (w : World) (k : Nat) (os : Array Obj) : Go.RowKit.Below w.heap.size w (Go.Sort.grow (w.drewN k) os) :=
  ⟨rfl, rfl, rfl, by show w.heap.size ≤ (w.heap ++ os).size; rw [Array.size_append]; omega, fun j hj => by
    show (w.heap ++ os)[j]? = w.heap[j]?
    rw [Array.getElem?_append_left hj]⟩

theorem itoa_s (n : Int) (h : inI n) (H : Heap) : SCalls Tryz.prog 52 [.int n] H (sA (Lib.itoa n)) H := by
  refine scalls_below Tryz.call52 fun ρ I w cargs hrel hargs => ?_
  cases args1 hargs
  refine (Any.strconv_Itoa layM171 n h.1 h.2 w (tab_ok hrel.glob layM171.m17)).mono ?_
  rintro e w' ⟨rfl, k, os, rfl⟩
  exact ⟨_, rfl, below_growN _ _ _, .sc _⟩

theorem formatInt_s (n : Int) (h : inI n) (H : Heap) : SCalls Tryz.prog 66 [.int n, .int 10] H (sA (Lib.itoa n)) H := by
  refine scalls_below Tryz.call66 fun ρ I w cargs hrel hargs => ?_
  obtain ⟨u, rfl, hu⟩ := args2 hargs
  cases hu.eq_sc
  refine (Any.strconv_FormatInt_10 layM173 n h.1 h.2 w (tab_ok hrel.glob layM173.m17)).mono ?_
  rintro e w' ⟨rfl, k, os, rfl⟩
  exact ⟨_, rfl, below_growN _ _ _, .sc _⟩

/-- The digits of base 16. -/
def hexDs : List UInt8 := [48, 49, 50, 51, 52, 53, 54, 55, 56, 57, 97, 98, 99, 100, 101, 102]
def hexI (c : UInt8) : Int := match hexV c with
  | some d => d
  | none => -1
set_option maxRecDepth 100000 in
theorem hexI_ok : ∀ k : Fin 256, Lib.indexByte hexDs (UInt8.ofNat k.val) = hexI (UInt8.ofNat k.val) := by decide
theorem hexI_eq (c : UInt8) : Lib.indexByte hexDs c = hexI c := by
  have := hexI_ok ⟨c.toNat, UInt8.toNat_lt c⟩
  simpa using this

theorem indexByte_s (c : UInt8) (H : Heap) : SCalls Tryz.prog 64 [sA hexDs, .sc (.int .u8 c.toNat)] H (.int (hexI c)) H := by
  refine scalls_below Tryz.call64 fun ρ I w cargs hrel hargs => ?_
  obtain ⟨u, rfl, hu⟩ := args2 hargs
  cases hu.eq_sc
  refine (Any.strings_IndexByte lay137 (bs hexDs) c.toNat w).mono ?_
  rintro e w' ⟨rfl, rfl⟩
  refine ⟨_, rfl, Go.RowKit.Below.refl _ _, ?_⟩
  have : ((c.toNat : Int).toNat).toUInt8 = c := by simp
  rw [this, bs_data, hexI_eq]
  exact .sc _

theorem args3 {ρ : Rho} {I : Nat → Prop} {hp : Array Obj} {a b c : Value} {cargs : Array Value} (h : VRs ρ I hp [.sc a, .sc b, .sc c] cargs) : cargs = #[a, b, c] := by
  obtain ⟨u, v, x, rfl⟩ : ∃ u v x, cargs = #[u, v, x] := by
    have := h.1
    match cargs, this with
    | ⟨[u, v, x]⟩, _ => exact ⟨u, v, x, rfl⟩
  have h0 := h.2 0 _ rfl
  have h1 := h.2 1 _ rfl
  have h2 := h.2 2 _ rfl
  cases h0.eq_sc
  cases h1.eq_sc
  cases h2.eq_sc
  rfl

theorem parseInt_ok (l : List UInt8) (hl : l.length ≤ 1099511627776) (v : Int) (h : Lib.parseIntB 64 l = .ok v) (H : Heap) : SCalls Tryz.prog 65 [sA l, .int 10, .int 64] H (.tup [.int v, .sc .nilIface]) H := by
  refine scalls_below Tryz.call65 fun ρ I w cargs hrel hargs => ?_
  cases args3 hargs
  have hb := bs_size l
  refine (Any.strconv_ParseInt_10_at64_ok layC174 (bs l) (by omega) v (by rw [bs_data]; exact h) w).mono ?_
  rintro e w' ⟨rfl, hw⟩
  refine ⟨_, rfl, ?_, .tup rfl (fun i x hx => ?_)⟩
  · rcases hw with rfl | ⟨t, rfl⟩
    · exact Go.RowKit.Below.refl _ _
    · exact Lib.bytesWorld_below _ _ _
  · match i with
    | 0 => simp at hx; subst hx; exact .sc _
    | 1 => simp at hx; subst hx; exact .sc _
    | i + 2 => simp at hx

theorem parseInt_bad (l : List UInt8) (hl : l.length ≤ 1099511627776) (h : ∀ v, Lib.parseIntB 64 l ≠ .ok v) (H : Heap) : ∃ n, SCalls Tryz.prog 65 [sA l, .int 10, .int 64] H (.tup [.int n, .ifc 163 .top]) H := by
  have hb := bs_size l
  have fin : ∀ {ρ : Rho} {I : Nat → Prop} {hp : Array Obj} (n : Int) (N : Nat), VR ρ I hp (.tup [.int n, .ifc 163 .top]) (.tuple #[.int .i64 n, .iface 163 (.pointer (some ⟨N, 0, none⟩))]) := by
    intro ρ I hp n N
    refine .tup rfl (fun i x hx => ?_)
    match i with
    | 0 => simp at hx; subst hx; exact .sc _
    | 1 => simp at hx; subst hx; exact .ifc (.top _)
    | i + 2 => simp at hx
  cases hp : Lib.parseIntB 64 l with
  | ok v => exact absurd hp (h v)
  | _ =>
    first
      | (refine ⟨0, scalls_below Tryz.call65 fun ρ I w cargs hrel hargs => ?_⟩
         cases args3 hargs
         obtain ⟨_, vs5, e5, f5, g5, t5, p5, rfl⟩ := hrel.glob.like 5 _ rfl
         have c5 : w.cell? ⟨5, 0, none⟩ = some (.iface t5 p5) := by simp [World.cell?, g5]
         refine (Any.strconv_ParseInt_10_at64_syntax layC174 (bs l) (by omega) (by rw [bs_data]; exact hp) _ w c5 (.inr ⟨_, _, rfl⟩)).mono ?_
         rintro e w' ⟨N, rfl, _, _, hb⟩
         exact ⟨_, rfl, hb, fin _ _⟩)
      | (refine ⟨Lib.intSat 64 l, scalls_below Tryz.call65 fun ρ I w cargs hrel hargs => ?_⟩
         cases args3 hargs
         obtain ⟨_, vs6, e6, f6, g6, t6, p6, rfl⟩ := hrel.glob.like 6 _ rfl
         have c6 : w.cell? ⟨6, 0, none⟩ = some (.iface t6 p6) := by simp [World.cell?, g6]
         refine (Any.strconv_ParseInt_10_at64_range layC174 (bs l) (by omega) (by rw [bs_data]; exact hp) _ w c6 (.inr ⟨_, _, rfl⟩)).mono ?_
         rintro e w' ⟨N, rfl, _, _, hb⟩
         rw [bs_data]
         exact ⟨_, rfl, hb, fin _ _⟩)

/-- A row of a new block, handed back for keeps. -/
theorem split_s (c : UInt8) (l : List UInt8) (hl : l.length ≤ 4000000000) : SCalls Tryz.prog 18 [sA l, sA [c]] Heap.empty (wA (pieces c l)) Heap.empty := by
  have hb := bs_size l
  have hb1 : (bs [c]).size = 1 := bs_size [c]
  have hlen := Lib.splitB_all (bs [c]) (by omega) 0 _ (bs l) rfl
  have hdat := Lib.splitB_data (bs [c]) 0 (Lib.countB (bs l) (bs [c])) (bs l)
  obtain ⟨ps, hps⟩ : ∃ ps, Lib.splitB (bs [c]) 0 (Lib.countB (bs l) (bs [c])) (bs l) = ps := ⟨_, rfl⟩
  have hpp : ps.map (·.data.toList) = pieces c l := by
    rw [← split_pieces c l]
    unfold Lib.split
    rw [← hps, hdat, bs_data, bs_data]
    congr 1
  have hps2 : ps.map Value.string = (pieces c l).map fun w => Value.string (bs w) := by
    rw [← hpp, List.map_map]
    exact List.map_congr_left fun s _ => by simp only [Function.comp_apply]; rw [← bs_of]
  have hn : (pieces c l).length = Lib.countB (bs l) (bs [c]) + 1 := by rw [← hpp, List.length_map, ← hps]; exact hlen
  have main : SCalls Tryz.prog 18 [sA l, sA [c]] Heap.empty (.ms 0 0 (pieces c l).length 1) (Heap.empty.alloc (wV (pieces c l))) := by
    refine ⟨Tryz.call18, Nat.zero_le _, fun ρ I w cargs hrel hargs => ?_⟩
    obtain ⟨u, rfl, hu⟩ := args2 hargs
    cases hu.eq_sc
    obtain ⟨_, vs1, e1, f1, g1, m, rfl⟩ := hrel.glob.like 1 _ rfl
    have c1 : w.cell? ⟨1, 0, none⟩ = some (.int .i64 m) := by simp [World.cell?, g1]
    refine (Any.strings_Split lay146 (by kernel_rfl) (bs l) (bs [c]) m w (by omega) c1 (by omega)).mono ?_
    rintro e w' ⟨rfl, rfl⟩
    rw [hps, hps2, ← hn]
    have hV : wV (pieces c l) = (((pieces c l).map fun w => Value.string (bs w)).toArray.toList).map .sc := by simp [wV]
    obtain ⟨k1, k2⟩ := rel_alloc (w1 := w.alloc (.cells ((pieces c l).map fun w => Value.string (bs w)).toArray 9)) hrel (cs := wV (pieces c l)) (c := ((pieces c l).map fun w => Value.string (bs w)).toArray) (e := 9) rfl rfl rfl rfl (by simp [wV])
      (by rw [hV]; exact (VRs_scs _).2)
    refine ⟨_, _, _, rfl, ?_, k1, k2⟩
    have hnew : (w.alloc (.cells ((pieces c l).map fun w => Value.string (bs w)).toArray 9)).heap[w.heap.size]? = some (.cells ((pieces c l).map fun w => Value.string (bs w)).toArray 9 (0, 0)) := by show (w.heap.push _)[w.heap.size]? = _; simp
    exact VR.ms (b := 0) (off := 0) (sz := 1) (Rho.upd_same _ _ _) (Nat.le_refl _) hnew (by simp)
  refine scalls_shed main ?_ (by rw [wA_lt]; trivial)
  refine Froz.row (b := 0) (cs := wV (pieces c l)) (by simp [go_sem]) trivial (by simp [wV]) ?_
  rw [Nat.mul_one, List.drop_zero, List.take_of_length_le (by rw [wV_len]; exact Nat.le_refl _)]

theorem lib_join (ws : List Word) : Lib.join ws [32] = joinW ws := by
  unfold Lib.join
  match ws with
  | [] => rfl
  | [w] => simp [joinW, List.intercalate]
  | w :: x :: r =>
    have ih := lib_join (x :: r)
    unfold Lib.join at ih
    rw [joinW, ← ih]
    simp [List.intercalate]

theorem join_s (ws : List Word) (hn : ws.length ≤ 100) (hl : (joinW ws).length ≤ 140737488355328) (H : Heap) : SCalls Tryz.prog 53 [wA ws, sA [32]] H (sA (joinW ws)) H := by
  refine scalls_below Tryz.call53 fun ρ I w cargs hrel hargs => ?_
  obtain ⟨u, rfl, hu⟩ := args2 hargs
  have hm : (ws.map bs).map (·.data.toList) = ws := by
    rw [List.map_map]
    conv => rhs; rw [← List.map_id ws]
    exact List.map_congr_left fun s _ => by simp [bs]
  unfold wA at hu
  have hN := wV_len ws
  generalize hL : ws.length = N at hu
  generalize hC : wV ws = C at hu
  cases hu with
  | vs0 h0 =>
    rename_i cap a
    obtain rfl : ws = [] := List.length_eq_zero_iff.1 hL
    refine (Any.strings_Join_none lay156 bx a cap (bs [32]) w).mono ?_
    rintro e w' ⟨rfl, rfl⟩
    exact ⟨_, rfl, Go.RowKit.Below.refl _ _, .sc _⟩
  | vs h1 h2 h3 h4 h5 h6 =>
    rename_i cb off cap c e fz
    subst hL hC
    have := Any.strings_Join lay156 bx cb off cap (ws.map bs) (bs [32]) w (by
      intro j x hj
      rw [List.getElem?_map] at hj
      cases hwj : ws[j]? with
      | none => rw [hwj] at hj; cases hj
      | some y =>
        rw [hwj] at hj
        simp only [Option.map_some, Option.some.injEq] at hj
        subst hj
        have hv := h6 j (sA y) (by simp [wV, hwj])
        have hlt : j < (wV ws).length := by rw [wV_len]; exact (List.getElem?_eq_some_iff.1 hwj).1
        have hc : c[off + j]? = some (c.getD (off + j) Go.undef) := by
          have : off + j < c.size := by omega
          simp [this]
        rw [hv.eq_sc] at hc
        simp [World.cell?, h3, hc]) (hrel.irng _ h1) (by simp; omega) (by simpa using h2) (by rw [hm, bs_data, lib_join]; exact hl)
    rw [List.length_map] at this
    refine this.mono ?_
    rintro e w' ⟨rfl, hb⟩
    refine ⟨_, rfl, hb, ?_⟩
    rw [hm, bs_data, lib_join]
    exact .sc _
end Go.Proofs.YtfmpakmigmehkaaGreatDoor
