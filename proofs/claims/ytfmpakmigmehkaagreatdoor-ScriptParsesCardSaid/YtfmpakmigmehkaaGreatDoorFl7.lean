/- append, make, cutting, copy. -/
import Derived.Test.YtfmpakmigmehkaaGreatDoorFl5
import Derived.IntWalk
set_option linter.unusedVariables false
set_option linter.unusedSimpArgs false
noncomputable section Fl7S
namespace Go.Fl
open Go

/-- What is grown: how many elements, their cells, whose block. -/
def grown (H : Heap) (sz : Nat) (s : AV) : Option (Nat × List AV × Option Nat) :=
  match s with
  | .sc (.slice none 0 0) => some (0, [], none)
  | .ms b off len sz' => if sz' = sz then (H.get b).bind fun cs => if off + len * sz = cs.length then some (len, cs.drop off, some b) else none else none
  | _ => none

def Heap.delo (H : Heap) (b : Option Nat) : Heap := match b with | some b => H.del b | none => H

theorem Heap.delo_le (H : Heap) (b : Option Nat) : (H.delo b).le H := by
  cases b with
  | none => exact fun _ _ h => h
  | some b => exact H.del_le b

theorem Heap.delo_next (H : Heap) (b : Option Nat) : (H.delo b).next = H.next := by cases b <;> rfl

def Heap.regrow (H : Heap) (b : Option Nat) (cs : List AV) : Heap := (H.delo b).alloc cs

def byt (P : Program) (t : TypeId) : Option Nat := (P.info? t).map (·.bytes)

theorem info_of {P : Program} {t : TypeId} {n b : Nat} (h1 : csz P t = some n) (h2 : byt P t = some b) : ∃ i, P.info? t = some i ∧ i.size = n ∧ i.bytes = b := by
  unfold csz at h1
  unfold byt at h2
  cases hi : P.info? t with
  | none => simp [hi] at h1
  | some i => simp [hi] at h1 h2; exact ⟨i, rfl, h1, h2⟩

def aappend (P : Program) (H : Heap) (t u : TypeId) (s x : AV) : Option (AV × Heap) :=
  match P.underlying t with
  | some (.slice e) =>
    (csz P e).bind fun sz => (byt P e).bind fun bt => (zeroC P e).bind fun zs => (source P H sz u x).bind fun q => (grown H sz s).bind fun g =>
      if (g.1 + q.1) * bt ≤ 140737488355328 ∧ g.1 + q.1 ≤ 140737488355328 ∧ q.2.all AV.leaf = true ∧ zs.length = sz then some (.ms H.next 0 (g.1 + q.1) sz, H.regrow g.2.2 (g.2.1 ++ q.2)) else none
  | _ => none

section
variable {P : Program} {ρ : Rho} {I : Nat → Prop} {H : Heap} {w : World}

theorem Rel.drewN (hr : Rel ρ I H w.heap) : Rel ρ I H w.drew.heap := hr

theorem leaf_cells {cs : List AV} {ys : Array Value} (hl : cs.all AV.leaf = true) (hv : VRs ρ I w.heap cs ys) : ∀ y ∈ ys.toList, y.oneCell' = true := by
  intro y hy
  obtain ⟨i, hi, rfl⟩ := List.getElem_of_mem hy
  have hi' : i < cs.length := by rw [hv.1]; simpa using hi
  have := hv.2 i cs[i] (List.getElem?_eq_getElem hi')
  have hl' : (cs[i]).leaf = true := List.all_eq_true.1 hl _ (List.getElem_mem hi')
  have e1 : ys.getD i Go.undef = ys.toList[i] := by
    have hi2 : i < ys.size := by simpa using hi
    simp [hi2]
  rw [e1] at this
  exact leaf_oneCell hl' this

theorem VRs.append {xs ys : List AV} {us vs : Array Value} (h1 : VRs ρ I w.heap xs us) (h2 : VRs ρ I w.heap ys vs) : VRs ρ I w.heap (xs ++ ys) (us ++ vs) := by
  refine ⟨by simp [h1.1, h2.1], fun i x hx => ?_⟩
  rw [List.getElem?_append] at hx
  simp only [Array.getD_eq_getD_getElem?, Array.getElem?_append]
  split at hx
  · rw [if_pos (by rw [← h1.1]; assumption)]
    simpa using h1.2 _ _ hx
  · rw [if_neg (by rw [← h1.1]; assumption)]
    have := h2.2 _ _ hx
    rw [h1.1] at this
    simpa using this

theorem VR.ms_inv {hp : Array Obj} {b off len sz : Nat} {v : Value} (h : VR ρ I hp (.ms b off len sz) v) :
    (∃ cb base cap c e fz, v = .slice (some ⟨cb, base + off, none⟩) len cap ∧ ρ b = some (some (cb, base)) ∧ len ≤ cap ∧ hp[cb]? = some (.cells c e fz) ∧ base + off + cap * sz ≤ c.size) ∨
    (len = 0 ∧ ∃ a p, v = .slice a 0 0 ∧ ρ b = some p) := by
  cases h with
  | ms h1 h2 h3 h4 => exact .inl ⟨_, _, _, _, _, _, rfl, h1, h2, h3, h4⟩
  | ms0 h1 => exact .inr ⟨rfl, _, _, rfl, h1⟩

theorem append_room_none {t u ty e : TypeId} {i : TypeInfo} (ht : P.underlying t = some (.slice e)) (hu : P.underlying u = some .string ∨ ∃ e', P.underlying u = some (.slice e'))
    (hi : P.info? e = some i) {sLen sCap n : Nat} {x : Value} {news : Array Value}
    (hlen : (Builtin.lenOf x).run P w = .ok n w) (hn : (Builtin.firstCells i.size n x).run P w = .ok news w) (hg : sLen + n ≤ sCap) :
    (Builtin.append_ #[t, u] ty #[.slice none sLen sCap, x]).run P w = .ok (.slice none (sLen + n) sCap) w := by
  rcases hu with hu | ⟨e', hu⟩
  · simp [Builtin.append_, run_underlying ht, run_underlying hu, sizeOf, typeInfo, hi, hlen, hn, hg]
  · simp [Builtin.append_, run_underlying ht, run_underlying hu, sizeOf, typeInfo, hi, hlen, hn, hg]

theorem append_room_some {t u ty e : TypeId} {i : TypeInfo} (ht : P.underlying t = some (.slice e)) (hu : P.underlying u = some .string ∨ ∃ e', P.underlying u = some (.slice e'))
    (hi : P.info? e = some i) {a : Addr} {sLen sCap n : Nat} {x : Value} {news : Array Value} {w' : World}
    (hlen : (Builtin.lenOf x).run P w = .ok n w) (hn : (Builtin.firstCells i.size n x).run P w = .ok news w) (hg : sLen + n ≤ sCap)
    (hst : (storeCells (a.add (sLen * i.size)) news.toList 0).run P w = .ok () w') :
    (Builtin.append_ #[t, u] ty #[.slice (some a) sLen sCap, x]).run P w = .ok (.slice (some a) (sLen + n) sCap) w' := by
  rcases hu with hu | ⟨e', hu⟩
  · simp [Builtin.append_, run_underlying ht, run_underlying hu, sizeOf, typeInfo, hi, hlen, hn, hg, hst]
  · simp [Builtin.append_, run_underlying ht, run_underlying hu, sizeOf, typeInfo, hi, hlen, hn, hg, hst]

/-- Within the capacity. -/
theorem append_in_place (hr : Rel ρ I H w.heap) {b off len sz cap n cb base : Nat} {cs new : List AV} {c news : Array Value} {e : TypeId} {fz : Nat × Nat} (hg : H.get b = some cs) (hb : ρ b = some (some (cb, base)))
    (hI : ¬ I cb) (hf : FzOk c.size fz) (hc : w.heap[cb]? = some (.cells c e fz)) (h7 : base + cs.length ≤ c.size) (h8 : ∀ i x, cs[i]? = some x → VR ρ I w.heap x (c.getD (base + i) Go.undef))
    (hend : off + len * sz = cs.length) (hnl : new.length = n * sz) (hnv : VRs ρ I w.heap new news) (hleaf : new.all AV.leaf = true) (hcap : len + n ≤ cap) (hroom : base + off + cap * sz ≤ c.size) :
    ∃ w', (storeCells ((⟨cb, base + off, none⟩ : Addr).add (len * sz)) news.toList 0).run P w = .ok () w' ∧
      VR (ρ.upd H.next (some (cb, base + off))) I w'.heap (.ms H.next 0 (len + n) sz) (.slice (some ⟨cb, base + off, none⟩) (len + n) cap) ∧
      Rel (ρ.upd H.next (some (cb, base + off))) I ((H.del b).alloc (cs.drop off ++ new)) w'.heap ∧ Ext ρ I w (ρ.upd H.next (some (cb, base + off))) I w' := by
  have hsz : (len + n) * sz ≤ cap * sz := Nat.mul_le_mul_right _ hcap
  rw [Nat.add_mul] at hsz
  have hnn : news.size = n * sz := by rw [← hnv.1]; exact hnl
  have hst := run_storeCells_fz P cb (base + off + len * sz) e hf news.toList 0 c w rfl hc (by simp; omega) (leaf_cells hleaf hnv)
  let c' := (c.toList.take (base + off + len * sz) ++ news.toList ++ c.toList.drop (base + off + len * sz + news.toList.length)).toArray
  have hst' : (storeCells ⟨cb, base + off + len * sz, none⟩ news.toList 0).run P w = .ok () (w.setRow cb c') := by simpa [c'] using hst
  have hc'sz : c'.size = c.size := by simp [c']; omega
  have hget : ∀ k, c'.getD k Go.undef = if k < base + off + len * sz then c.getD k Go.undef else if k < base + off + len * sz + n * sz then news.getD (k - (base + off + len * sz)) Go.undef else c.getD k Go.undef := by
    intro k
    simp only [c', Array.getD_eq_getD_getElem?, List.getElem?_toArray]
    have hlen : (c.toList.take (base + off + len * sz)).length = base + off + len * sz := by simp; omega
    rw [List.append_assoc, List.getElem?_append, hlen]
    by_cases c1 : k < base + off + len * sz
    · rw [if_pos c1, if_pos c1, List.getElem?_take_of_lt c1]; simp
    · rw [if_neg c1, if_neg c1, List.getElem?_append]
      have : news.toList.length = n * sz := by simpa using hnn
      rw [this]
      by_cases c2 : k < base + off + len * sz + n * sz
      · rw [if_pos (by omega), if_pos c2]; simp
      · rw [if_neg (by omega), if_neg c2, List.getElem?_drop]
        have : base + off + len * sz + n * sz + (k - (base + off + len * sz) - n * sz) = k := by omega
        rw [this]; simp
  have hdl : (cs.drop off).length = len * sz := by simp; omega
  obtain ⟨k1, k2⟩ := rel_regrow (w1 := w.setRow cb c') hr (cs' := cs.drop off ++ new) (c' := c') (base' := base + off) hg hb hI hf hc (setRow_heap w cb c c' e fz hc) hc'sz (by simp [World.setRow])
    (fun k hk => setRow_other w cb k c' hk) rfl rfl rfl (by rw [List.length_append, hdl, hnl]; omega) (by
      intro k y hy
      rw [hget]
      rw [List.getElem?_append, hdl] at hy
      by_cases c1 : k < len * sz
      · rw [if_pos c1, List.getElem?_drop] at hy
        rw [if_pos (by omega), Nat.add_assoc]
        exact h8 _ _ hy
      · rw [if_neg c1] at hy
        have hk : k - len * sz < n * sz := by
          have := (List.getElem?_eq_some_iff.1 hy).1
          omega
        rw [if_neg (by omega), if_pos (by omega)]
        have : base + off + k - (base + off + len * sz) = k - len * sz := by omega
        rw [this]
        exact hnv.2 _ _ hy)
  refine ⟨w.setRow cb c', by rw [add_plain]; exact hst', ?_, k1, k2⟩
  have hfin := VR.ms (ρ := ρ.upd H.next (some (cb, base + off))) (I := I) (hp := (w.setRow cb c').heap) (b := H.next) (off := 0) (len := len + n) (sz := sz) (cap := cap)
    (Rho.upd_same _ _ _) hcap (setRow_heap w cb c c' e fz hc) (by omega)
  exact hfin

theorem aappend_run_ty (hr : Rel ρ I H w.heap) {t u ty : TypeId} {s x r : AV} {sv xv : Value} {H' : Heap} (h : aappend P H t u s x = some (r, H')) (hs : VR ρ I w.heap s sv) (hx : VR ρ I w.heap x xv) :
    ∃ v w' ρ', (Builtin.append_ #[t, u] ty #[sv, xv]).run P w = .ok v w' ∧ VR ρ' I w'.heap r v ∧ Rel ρ' I H' w'.heap ∧ Ext ρ I w ρ' I w' ∧
      (∀ e sz, P.underlying t = some (.slice e) → csz P e = some sz → TyOk w.heap e sz sv → TyOk w'.heap e sz v) := by
  unfold aappend at h
  cases ht : P.underlying t with
  | none => simp [ht] at h
  | some d =>
  cases d <;> simp only [ht] at h <;> try (cases h; done)
  rename_i e
  cases hcs : csz P e with
  | none => simp [hcs] at h
  | some sz =>
  cases hby : byt P e with
  | none => simp [hcs, hby] at h
  | some bt =>
  obtain ⟨i, hi, rfl, rfl⟩ := info_of hcs hby
  cases hz : zeroC P e with
  | none => simp [hcs, hby, hz] at h
  | some zs =>
  obtain ⟨i', z, hi', hz', rfl⟩ := zeroC_info hz
  rw [hi] at hi'; cases hi'
  cases hsrc : source P H i.size u x with
  | none => simp [hcs, hby, hz, hsrc] at h
  | some q =>
  obtain ⟨n, new⟩ := q
  cases hgr : grown H i.size s with
  | none => simp [hcs, hby, hz, hsrc, hgr] at h
  | some q =>
  obtain ⟨len, old, b⟩ := q
  simp only [hcs, hby, hz, hsrc, hgr, Option.bind_some] at h
  split at h
  case isFalse => cases h
  rename_i hbound
  obtain ⟨hb1, hb2, hleaf, hzl⟩ := hbound
  simp only [Option.some.injEq, Prod.mk.injEq] at h
  obtain ⟨rfl, rfl⟩ := h
  obtain ⟨hnl, hu, hlen, news, hnews, hnv⟩ := source_run (P := P) hr hsrc hx
  obtain ⟨_, _, _, news', hnews', hnv'⟩ := source_run (P := P) (w := w.drew) hr hsrc hx
  -- growing into new memory
  have grow : ∀ (base : Option Addr) (sCap : Nat) (olds : Array Value), (Builtin.firstCells i.size len (.slice base len sCap)).run P w.drew = .ok olds w.drew → VRs ρ I w.heap old olds → sCap < len + n →
      old.length = len * i.size →
      ∃ v w' ρ', (Builtin.append_ #[t, u] ty #[.slice base len sCap, xv]).run P w = .ok v w' ∧ VR ρ' I w'.heap (.ms H.next 0 (len + n) i.size) v ∧ Rel ρ' I (H.regrow b (old ++ new)) w'.heap ∧ Ext ρ I w ρ' I w' ∧ TyOk w'.heap e i.size v := by
    intro base sCap olds hold hov hcap hol
    have hrun := append_grow_run (ty := ty) ht hu hi hz' hlen hold hnews' hcap hb1 hb2
    let row := olds ++ news' ++ Builtin.zeroCells z.cells (grownCap w (len + n) sCap e - (len + n))
    have hrowsz : (old ++ new).length ≤ row.size := by
      have h1 := hov.1
      have h2 := hnv'.1
      simp only [row, List.length_append, Array.size_append]
      omega
    have hrowv : ∀ k y, (old ++ new)[k]? = some y → VR ρ I w.heap y (row.getD k Go.undef) := by
      intro k y hy
      have h3 := (hov.append (w := w) hnv')
      have := h3.2 k y hy
      have hk : k < (olds ++ news').size := by
        have := (List.getElem?_eq_some_iff.1 hy).1
        have := h3.1; omega
      have e1 : row.getD k Go.undef = (olds ++ news').getD k Go.undef := by
        simp only [row, Array.getD_eq_getD_getElem?]
        rw [Array.getElem?_append_left hk]
      rw [e1]; exact this
    have hle : Rel ρ I (H.delo b) w.heap := hr.le (H.delo_le b) (Nat.le_of_eq (H.delo_next b).symm)
    obtain ⟨k1, k2⟩ := rel_alloc (w := w) (w1 := w.drew.alloc (.cells row e)) hle (cs := old ++ new) (c := row) (e := e) rfl rfl rfl rfl hrowsz hrowv
    rw [H.delo_next b] at k1 k2
    refine ⟨_, _, _, hrun, ?_, k1, k2, ?_⟩
    rotate_left
    · have hnew : (w.drew.alloc (.cells row e)).heap[w.heap.size]? = some (.cells row e (0, 0)) := by show (w.heap.push _)[w.heap.size]? = _; simp
      have hzs : (Builtin.zeroCells z.cells (grownCap w (len + n) sCap e - (len + n))).size = (grownCap w (len + n) sCap e - (len + n)) * i.size := by
        have hzl' : z.cells.size = i.size := by simpa using hzl
        simp [Builtin.zeroCells, hzl']
      have hge : len + n ≤ grownCap w (len + n) sCap e := by simp [grownCap, Question.cut]
      refine ⟨rfl, row, (0, 0), hnew, ?_⟩
      have h1 := hov.1
      have h2 := hnv'.1
      have e1 : row.size = len * i.size + n * i.size + (grownCap w (len + n) sCap e - (len + n)) * i.size := by
        simp only [row, Array.size_append, hzs]; omega
      rw [e1, ← Nat.add_mul, ← Nat.add_mul]
      have : len + n + (grownCap w (len + n) sCap e - (len + n)) = grownCap w (len + n) sCap e := by omega
      rw [this]; omega
    have hnew : (w.drew.alloc (.cells row e)).heap[w.heap.size]? = some (.cells row e (0, 0)) := by show (w.heap.push _)[w.heap.size]? = _; simp
    have hzs : (Builtin.zeroCells z.cells (grownCap w (len + n) sCap e - (len + n))).size = (grownCap w (len + n) sCap e - (len + n)) * i.size := by
      have hzl' : z.cells.size = i.size := by simpa using hzl
      simp [Builtin.zeroCells, hzl']
    have hge : len + n ≤ grownCap w (len + n) sCap e := by simp [grownCap, Question.cut]
    have := VR.ms (ρ := ρ.upd H.next (some (w.heap.size, 0))) (I := I) (hp := (w.drew.alloc (.cells row e)).heap) (b := H.next) (off := 0) (len := len + n) (sz := i.size) (cap := grownCap w (len + n) sCap e)
      (Rho.upd_same _ _ _) hge hnew (by
        have h1 := hov.1
        have h2 := hnv'.1
        have e1 : row.size = len * i.size + n * i.size + (grownCap w (len + n) sCap e - (len + n)) * i.size := by
          simp only [row, Array.size_append, hzs]; omega
        rw [e1, ← Nat.add_mul, ← Nat.add_mul]
        have : len + n + (grownCap w (len + n) sCap e - (len + n)) = grownCap w (len + n) sCap e := by omega
        rw [this]; omega)
    exact this
  have fin : ∀ {sv : Value}, (∃ v w' ρ', (Builtin.append_ #[t, u] ty #[sv, xv]).run P w = .ok v w' ∧ VR ρ' I w'.heap (.ms H.next 0 (len + n) i.size) v ∧ Rel ρ' I (H.regrow b (old ++ new)) w'.heap ∧ Ext ρ I w ρ' I w' ∧ TyOk w'.heap e i.size v) →
      ∃ v w' ρ', (Builtin.append_ #[t, u] ty #[sv, xv]).run P w = .ok v w' ∧ VR ρ' I w'.heap (.ms H.next 0 (len + n) i.size) v ∧ Rel ρ' I (H.regrow b (old ++ new)) w'.heap ∧ Ext ρ I w ρ' I w' ∧
      (∀ e' sz, some (TypeDesc.slice e) = some (.slice e') → csz P e' = some sz → TyOk w.heap e' sz sv → TyOk w'.heap e' sz v) := by
    rintro sv ⟨v, w', ρ', g1, g2, g3, g4, g5⟩
    refine ⟨v, w', ρ', g1, g2, g3, g4, fun e' sz' h1 h2 _ => ?_⟩
    cases h1
    rw [hcs] at h2; cases h2
    exact g5
  -- what is grown
  unfold grown at hgr
  split at hgr
  · simp only [Option.some.injEq, Prod.mk.injEq] at hgr
    obtain ⟨rfl, rfl, rfl⟩ := hgr
    cases hs.eq_sc
    by_cases h0 : n = 0
    · subst h0
      have hnew : new = [] := List.length_eq_zero_iff.1 (by simpa using hnl)
      subst hnew
      obtain ⟨k1, k2⟩ := rel_hollow hr
      exact ⟨_, w, _, append_room_none ht hu hi hlen hnews (by omega), .ms0 (Rho.upd_same _ _ _), k1, k2, fun _ _ _ _ hh => hh⟩
    · refine fin (grow none 0 #[] ?_ (by simp [VRs]) (by omega) (by simp))
      simp [Builtin.firstCells]
  · rename_i b' off len' sz'
    split at hgr
    case isFalse => cases hgr
    rename_i hsz
    subst hsz
    cases hg : H.get b' with
    | none => simp [hg] at hgr
    | some cs =>
    simp only [hg, Option.bind_some] at hgr
    split at hgr
    case isFalse => cases hgr
    rename_i hend
    simp only [Option.some.injEq, Prod.mk.injEq] at hgr
    obtain ⟨rfl, rfl, rfl⟩ := hgr
    have hsc : sliceCells H i.size (.ms b' off len' i.size) = some (len', (cs.drop off).take (len' * i.size)) := by
      simp [sliceCells, hg, hend]
    have htake : (cs.drop off).take (len' * i.size) = cs.drop off := List.take_of_length_le (by simp; omega)
    have hdl : (cs.drop off).length = len' * i.size := by simp; omega
    rw [htake] at hsc
    obtain ⟨_, _, _, hfirst⟩ := sliceCells_run (P := P) (w := w.drew) hr hsc hs
    obtain ⟨olds, hold, hov⟩ := hfirst len' (Nat.le_refl _)
    have hov' : VRs ρ I w.heap (cs.drop off) olds := by rw [← hdl, List.take_length] at hov; exact hov
    rcases hs.ms_inv with ⟨cb, base, cap, c0, e0, fz0, rfl, hb, h1, h2, h3⟩ | ⟨hl0, a, p, rfl, hb⟩
    · by_cases hcap : cap < len' + n
      · exact fin (grow _ cap olds hold hov' hcap hdl)
      · rcases hr.live _ _ hg with ⟨h4, _⟩ | ⟨cb', base', c, e', h4, h5, ⟨fz6, hf6, h6⟩, h7, h8⟩
        · rw [hb] at h4; cases h4
        · rw [hb] at h4
          simp only [Option.some.injEq, Prod.mk.injEq] at h4
          obtain ⟨rfl, rfl⟩ := h4
          rw [h6] at h2
          simp only [Option.some.injEq, Obj.cells.injEq] at h2
          obtain ⟨rfl, rfl, rfl⟩ := h2
          obtain ⟨w', h9, h10, h11, h12⟩ := append_in_place (P := P) hr hg hb h5 hf6 h6 h7 h8 hend hnl hnv hleaf (by omega) h3
          exact ⟨_, w', _, append_room_some ht hu hi hlen hnews (by omega) h9, h10, h11, h12, fun _ _ _ _ hh => hh.mono' h12.blocks⟩
    · subst hl0
      by_cases h0 : n = 0
      · subst h0
        have hnew : new = [] := List.length_eq_zero_iff.1 (by rw [hnl]; simp)
        have hle : Rel ρ I (H.delo (some b')) w.heap := hr.le (H.delo_le _) (Nat.le_refl _)
        obtain ⟨k1, k2⟩ := rel_hollow hle
        have hd0 : cs.drop off = [] := List.length_eq_zero_iff.1 (by simpa using hdl)
        rw [hd0, hnew]
        cases a with
        | none => exact ⟨_, w, _, append_room_none ht hu hi hlen hnews (by omega), .ms0 (Rho.upd_same _ _ _), k1, k2, fun _ _ _ _ hh => hh⟩
        | some a =>
          have hn0 : news.toList = [] := by
            have := hnv.1; rw [hnew] at this; exact List.length_eq_zero_iff.1 (by simpa using this.symm)
          exact ⟨_, w, _, append_room_some ht hu hi hlen hnews (by omega) (by rw [hn0]; rfl), .ms0 (Rho.upd_same _ _ _), k1, k2, fun _ _ _ _ hh => hh⟩
      · exact fin (grow _ 0 olds hold hov' (by omega) (by omega))
  · cases hgr

theorem aappend_run (hr : Rel ρ I H w.heap) {t u ty : TypeId} {s x r : AV} {sv xv : Value} {H' : Heap} (h : aappend P H t u s x = some (r, H')) (hs : VR ρ I w.heap s sv) (hx : VR ρ I w.heap x xv) :
    ∃ v w' ρ', (Builtin.append_ #[t, u] ty #[sv, xv]).run P w = .ok v w' ∧ VR ρ' I w'.heap r v ∧ Rel ρ' I H' w'.heap ∧ Ext ρ I w ρ' I w' := by
  obtain ⟨v, w', ρ', h1, h2, h3, h4, _⟩ := aappend_run_ty (ty := ty) hr h hs hx
  exact ⟨v, w', ρ', h1, h2, h3, h4⟩

/-- A row whose block's type is known. -/
def tyApp (P : Program) (H : Heap) (t u : TypeId) (s x : AV) : Option (AV × Heap) :=
  match s with
  | .ty e n s' => match P.underlying t with
    | some (.slice e') => if e' = e ∧ csz P e = some n then (aappend P H t u s' x).map fun q => (.ty e n q.1, q.2) else none
    | _ => none
  | _ => none

theorem tyApp_run (hr : Rel ρ I H w.heap) {t u ty : TypeId} {s x r : AV} {sv xv : Value} {H' : Heap} (h : tyApp P H t u s x = some (r, H')) (hs : VR ρ I w.heap s sv) (hx : VR ρ I w.heap x xv) :
    ∃ v w' ρ', (Builtin.append_ #[t, u] ty #[sv, xv]).run P w = .ok v w' ∧ VR ρ' I w'.heap r v ∧ Rel ρ' I H' w'.heap ∧ Ext ρ I w ρ' I w' := by
  unfold tyApp at h
  split at h
  case h_2 => cases h
  split at h
  case h_2 => cases h
  rename_i e' hu
  split at h
  case isFalse => cases h
  rename_i hc
  obtain ⟨rfl, hcs⟩ := hc
  simp only [Option.map_eq_some_iff, Prod.mk.injEq] at h
  obtain ⟨⟨q1, q2⟩, h1, rfl, rfl⟩ := h
  cases hs with
  | ty k1 k2 =>
  obtain ⟨v, w', ρ', h2, h3, h4, h5, h6⟩ := aappend_run_ty (ty := ty) hr h1 k1 hx
  exact ⟨v, w', ρ', h2, .ty h3 (h6 _ _ hu hcs k2), h4, h5⟩

end
end Go.Fl
end Fl7S

noncomputable section Fl8S
namespace Go.Fl
open Go

/-- A bound of a cut: left out, or a number. -/
def abound (d : Nat) : Option AV → Option Nat
  | none => some d
  | some (.sc (.int _ n)) => if 0 ≤ n then some n.toNat else none
  | _ => none

def aslice (P : Program) (H : Heap) (t : TypeId) (x : AV) (lo hi mx : Option AV) : Option AV :=
  match mx, P.underlying t with
  | none, some (.slice e) => (csz P e).bind fun sz =>
    match x with
    | .sc (.slice none 0 0) => (abound 0 lo).bind fun l => (abound 0 hi).bind fun h => if l = 0 ∧ h = 0 then some x else none
    | .ms b off len sz' => (abound 0 lo).bind fun l => (abound len hi).bind fun h => if sz' = sz ∧ l ≤ h ∧ h ≤ len then some (.ms b (off + l * sz) (h - l) sz) else none
    | .vs len sz' cells => (abound 0 lo).bind fun l => (abound len hi).bind fun h =>
        if sz' = sz ∧ l ≤ h ∧ h ≤ len ∧ cells.length = len * sz then some (.vs (h - l) sz ((cells.drop (l * sz)).take ((h - l) * sz))) else none
    | _ => none
  | none, some (.array n e) => (csz P e).bind fun sz =>
    match x with
    | .ptr b o => (H.get b).bind fun cs => (abound 0 lo).bind fun l => (abound n hi).bind fun h => if l ≤ h ∧ h ≤ n ∧ o + n * sz ≤ cs.length then some (.ms b (o + l * sz) (h - l) sz) else none
    | _ => none
  | none, some .string =>
    match x, lo.map conc, hi.map conc with
    | .sc v, none, none => (srun P (Instr.slice t v none none none)).map ofV
    | .sc v, some (some l), none => (srun P (Instr.slice t v (some l) none none)).map ofV
    | .sc v, none, some (some h) => (srun P (Instr.slice t v none (some h) none)).map ofV
    | .sc v, some (some l), some (some h) => (srun P (Instr.slice t v (some l) (some h) none)).map ofV
    | _, _, _ => none
  | _, _ => none

section
variable {P : Program} {ρ : Rho} {I : Nat → Prop} {H : Heap} {w : World}

def VRo (ρ : Rho) (I : Nat → Prop) (hp : Array Obj) : Option AV → Option Value → Prop
  | none, none => True
  | some x, some v => VR ρ I hp x v
  | _, _ => False

theorem abound_run {d n y : Nat} {lo : Option AV} {v : Option Value} {code : BoundsCode} (h : abound d lo = some n) (hv : VRo ρ I w.heap lo v) (hy : n ≤ y) :
    (match v with | some v => Instr.sliceBound v y code | none => pure d : Sem Nat).run P w = .ok n w := by
  cases lo with
  | none =>
    cases v with
    | none => simp only [abound, Option.some.injEq] at h; subst h; rfl
    | some v => exact hv.elim
  | some x =>
    cases v with
    | none => exact hv.elim
    | some v =>
      unfold abound at h
      split at h
      · rename_i heq; cases heq
      · rename_i k m heq
        cases heq
        cases VR.eq_sc hv
        split at h
        · rename_i hm
          simp only [Option.some.injEq] at h
          subst h
          have h2 : m ≤ (y : Int) := by omega
          simp [Instr.sliceBound, asIntOf, hm, h2]
        · cases h
      · cases h

theorem bounds_run {isS : Bool} {len cap l h : Nat} {lo hi : Option AV} {vl vh : Option Value} (h1 : abound 0 lo = some l) (h2 : abound len hi = some h) (hl : VRo ρ I w.heap lo vl) (hh : VRo ρ I w.heap hi vh)
    (hlh : l ≤ h) (hc : h ≤ cap) : (Instr.sliceBounds isS len cap vl vh none).run P w = .ok (l, h, cap) w := by
  have e1 := abound_run (P := P) (y := h) (code := .sliceB) h1 hl hlh
  have e2 := abound_run (P := P) (y := cap) (code := if isS then .sliceAcap else .sliceAlen) h2 hh hc
  unfold Instr.sliceBounds
  cases vl <;> cases vh <;> simp_all

theorem aslice_run (hr : Rel ρ I H w.heap) {t : TypeId} {x r : AV} {lo hi mx : Option AV} {xv : Value} {vl vh vm : Option Value} (h : aslice P H t x lo hi mx = some r) (hx : VR ρ I w.heap x xv)
    (hl : VRo ρ I w.heap lo vl) (hh : VRo ρ I w.heap hi vh) (hm : VRo ρ I w.heap mx vm) : ∃ u, (Instr.sliceAt t xv vl vh vm).run P w = .ok u w ∧ VR ρ I w.heap r u := by
  unfold aslice at h
  split at h
  · rename_i e hu
    cases vm with
    | some v => exact hm.elim
    | none =>
    cases hn : csz P e with
    | none => simp [hn] at h
    | some sz =>
    simp only [hn, Option.bind_some] at h
    have hat : Instr.sliceAt t xv vl vh none = (do match ← underlying t with
      | .array n elem => do
        let a ← Instr.sureAddr xv
        let (l, h, m) ← Instr.sliceBounds false n n vl vh none
        let size ← sizeOf elem
        pure (.slice (some (if m = l then a else a.add (l * size))) (h - l) (m - l))
      | _ => Instr.slice t xv vl vh none) := rfl
    split at h
    · cases hx.eq_sc
      cases h1 : abound 0 lo with
      | none => simp [h1] at h
      | some l =>
      cases h2 : abound 0 hi with
      | none => simp [h1, h2] at h
      | some h' =>
      simp only [h1, h2, Option.bind_some] at h
      split at h
      · rename_i hc
        obtain ⟨rfl, rfl⟩ := hc
        simp only [Option.some.injEq] at h
        subst h
        have hb := bounds_run (P := P) (isS := true) (cap := 0) h1 h2 hl hh (Nat.le_refl _) (Nat.le_refl _)
        exact ⟨_, by simp [Instr.sliceAt, run_underlying hu, Instr.slice, hb, csz_run P hn], .sc _⟩
      · cases h
    · rename_i b off len sz'
      cases h1 : abound 0 lo with
      | none => simp [h1] at h
      | some l =>
      cases h2 : abound len hi with
      | none => simp [h1, h2] at h
      | some h' =>
      simp only [h1, h2, Option.bind_some] at h
      split at h
      · rename_i hc
        obtain ⟨rfl, hc1, hc2⟩ := hc
        simp only [Option.some.injEq] at h
        subst h
        rcases hx.ms_inv with ⟨cb, base, cap, c0, e0, fz0, rfl, hb, k1, k2, k3⟩ | ⟨rfl, a, p, rfl, hb⟩
        · have hbn := bounds_run (P := P) (isS := true) (cap := cap) h1 h2 hl hh hc1 (by omega)
          by_cases hcl : cap = l
          · have h0 : h' - l = 0 := by omega
            subst hcl
            refine ⟨.slice (some ⟨cb, base + off, none⟩) 0 0, by simp [Instr.sliceAt, run_underlying hu, Instr.slice, hbn, csz_run P hn, h0], ?_⟩
            rw [h0]; exact .ms0 hb
          · refine ⟨.slice (some ⟨cb, base + (off + l * sz'), none⟩) (h' - l) (cap - l), by simp [Instr.sliceAt, run_underlying hu, Instr.slice, hbn, csz_run P hn, hcl, add_plain, Nat.add_assoc], ?_⟩
            have hmul : (cap - l) * sz' + l * sz' = cap * sz' := by rw [← Nat.add_mul]; congr 1; omega
            exact .ms hb (by omega) k2 (by omega)
        · have hbn := bounds_run (P := P) (isS := true) (cap := 0) h1 h2 hl hh hc1 (by omega)
          have hl0 : l = 0 := by omega
          have hh0 : h' = 0 := by omega
          subst hl0; subst hh0
          exact ⟨.slice a 0 0, by simp [Instr.sliceAt, run_underlying hu, Instr.slice, hbn, csz_run P hn], .ms0 hb⟩
      · cases h
    · rename_i len sz' cells
      cases h1 : abound 0 lo with
      | none => simp [h1] at h
      | some l =>
      cases h2 : abound len hi with
      | none => simp [h1, h2] at h
      | some h' =>
      simp only [h1, h2, Option.bind_some] at h
      split at h
      · rename_i hc
        obtain ⟨rfl, hc1, hc2, hc3⟩ := hc
        simp only [Option.some.injEq] at h
        subst h
        have hend : (h' - l) * sz' + l * sz' ≤ cells.length := by rw [hc3, ← Nat.add_mul]; exact Nat.mul_le_mul_right _ (by omega)
        cases hx with
        | vs0 h0 =>
          rename_i cap a
          have hbn := bounds_run (P := P) (isS := true) (cap := cap) h1 h2 hl hh hc1 (by omega)
          have hl0 : l = 0 := by omega
          have hh0 : h' = 0 := by omega
          subst hl0; subst hh0
          refine ⟨.slice (if cap = 0 then a else a.map (·.add 0)) 0 cap, by simp [Instr.sliceAt, run_underlying hu, Instr.slice, hbn, csz_run P hn], ?_⟩
          simp only [Nat.zero_mul, List.drop_nil, List.take_nil, Nat.sub_self]
          refine .vs0 (fun hn => ?_)
          split at hn
          · exact h0 hn
          · cases a with
            | none => exact h0 rfl
            | some a => cases hn
        | vs hI hcp hb k4 k5 k6 =>
          rename_i cb off cap c0 e0 fz0
          have hbn := bounds_run (P := P) (isS := true) (cap := cap) h1 h2 hl hh hc1 (by omega)
          by_cases hcl : cap = l
          · have h0 : h' - l = 0 := by omega
            subst hcl
            refine ⟨.slice (some ⟨cb, off, none⟩) 0 0, by simp [Instr.sliceAt, run_underlying hu, Instr.slice, hbn, csz_run P hn, h0], ?_⟩
            rw [h0]; simp only [Nat.zero_mul, List.take_zero]; exact .vs0 (fun h => by cases h)
          · refine ⟨.slice (some ⟨cb, off + l * sz', none⟩) (h' - l) (cap - l), by simp [Instr.sliceAt, run_underlying hu, Instr.slice, hbn, csz_run P hn, hcl, add_plain], ?_⟩
            refine .vs hI (by omega) hb (by simp; omega) (by simp; omega) (fun i y hy => ?_)
            have hi : i < (h' - l) * sz' := by
              have := (List.getElem?_eq_some_iff.1 hy).1
              simp at this; omega
            rw [List.getElem?_take_of_lt hi, List.getElem?_drop] at hy
            rw [Nat.add_assoc]
            exact k6 _ _ hy
      · cases h
    · cases h
  · rename_i n e hu
    cases vm with
    | some v => exact hm.elim
    | none =>
    cases hn : csz P e with
    | none => simp [hn] at h
    | some sz =>
    simp only [hn, Option.bind_some] at h
    split at h
    · rename_i b o
      cases hg : H.get b with
      | none => simp [hg] at h
      | some cs =>
      cases h1 : abound 0 lo with
      | none => simp [hg, h1] at h
      | some l =>
      cases h2 : abound n hi with
      | none => simp [hg, h1, h2] at h
      | some h' =>
      simp only [hg, h1, h2, Option.bind_some] at h
      split at h
      · rename_i hc
        obtain ⟨hc1, hc2, hc3⟩ := hc
        simp only [Option.some.injEq] at h
        subst h
        cases hx with
        | ptr hb =>
          rename_i cb base
          have hbn := bounds_run (P := P) (isS := false) (cap := n) h1 h2 hl hh hc1 hc2
          rcases hr.live _ _ hg with ⟨h4, _⟩ | ⟨cb', base', c, e', h4, h5, ⟨fz6, hf6, h6⟩, h7, h8⟩
          · rw [hb] at h4; cases h4
          · rw [hb] at h4
            simp only [Option.some.injEq, Prod.mk.injEq] at h4
            obtain ⟨rfl, rfl⟩ := h4
            by_cases hcl : n = l
            · have h0 : h' - l = 0 := by omega
              subst hcl
              refine ⟨.slice (some ⟨cb, base + o, none⟩) 0 0, by simp [Instr.sliceAt, run_underlying hu, Instr.sureAddr, hbn, csz_run P hn, h0], ?_⟩
              rw [h0]; exact .ms0 hb
            · refine ⟨.slice (some ⟨cb, base + (o + l * sz), none⟩) (h' - l) (n - l), by simp [Instr.sliceAt, run_underlying hu, Instr.sureAddr, hbn, csz_run P hn, hcl, add_plain, Nat.add_assoc], ?_⟩
              have hmul : (n - l) * sz + l * sz = n * sz := by rw [← Nat.add_mul]; congr 1; omega
              exact .ms hb (by omega) h6 (by omega)
      · cases h
    · cases h
  · rename_i hu
    cases vm with
    | some v => exact hm.elim
    | none =>
    have hat : ∀ a b, Instr.sliceAt t xv a b none = (do match ← underlying t with
      | .array n elem => do
        let a' ← Instr.sureAddr xv
        let (l, h, m) ← Instr.sliceBounds false n n a b none
        let size ← sizeOf elem
        pure (.slice (some (if m = l then a' else a'.add (l * size))) (h - l) (m - l))
      | _ => Instr.slice t xv a b none) := fun _ _ => rfl
    have hrun : ∀ a b, (Instr.sliceAt t xv a b none).run P w = (Instr.slice t xv a b none).run P w := by
      intro a b; rw [hat]; simp only [Sem.run_bind, run_underlying hu, Result.andThen_ok]
    rw [hrun]
    have ho : ∀ {q : Option AV} {u : Option Value} {c : Option Value}, q.map conc = some c → ∀ y, c = some y → VRo ρ I w.heap q u → u = some y := by
      intro q u c h1 y h2 h3
      cases q with
      | none => simp at h1
      | some q =>
        cases u with
        | none => exact h3.elim
        | some u =>
          simp only [Option.map_some, Option.some.injEq] at h1
          rw [h2] at h1
          rw [conc_VR h1 h3]
    have hno : ∀ {q : Option AV} {u : Option Value}, q.map conc = none → VRo ρ I w.heap q u → u = none := by
      intro q u h1 h3
      cases q with
      | none => cases u with | none => rfl | some u => exact h3.elim
      | some q => simp at h1
    split at h
    · rename_i v hq1 hq2
      cases hx.eq_sc
      rw [hno hq1 hl, hno hq2 hh]
      simp only [Option.map_eq_some_iff] at h
      obtain ⟨u, h1, rfl⟩ := h
      exact ⟨u, srun_run h1 w, VR_ofV u⟩
    · rename_i v l hq1 hq2
      cases hx.eq_sc
      rw [ho hq1 l rfl hl, hno hq2 hh]
      simp only [Option.map_eq_some_iff] at h
      obtain ⟨u, h1, rfl⟩ := h
      exact ⟨u, srun_run h1 w, VR_ofV u⟩
    · rename_i v l hq1 hq2
      cases hx.eq_sc
      rw [hno hq1 hl, ho hq2 l rfl hh]
      simp only [Option.map_eq_some_iff] at h
      obtain ⟨u, h1, rfl⟩ := h
      exact ⟨u, srun_run h1 w, VR_ofV u⟩
    · rename_i v l l2 hq1 hq2
      cases hx.eq_sc
      rw [ho hq1 l rfl hl, ho hq2 l2 rfl hh]
      simp only [Option.map_eq_some_iff] at h
      obtain ⟨u, h1, rfl⟩ := h
      exact ⟨u, srun_run h1 w, VR_ofV u⟩
    · cases h
  · cases h

/-- make([]T, n). -/
def amake (P : Program) (H : Heap) (t : TypeId) (l c : AV) : Option (AV × Heap) :=
  match P.underlying t, l, c with
  | some (.slice e), .sc (.int _ n), .sc (.int _ m) => (csz P e).bind fun sz => (byt P e).bind fun bt => (zeroC P e).bind fun zs =>
    if 0 ≤ n ∧ n ≤ m ∧ m * (bt : Nat) ≤ 140737488355328 ∧ m ≤ 140737488355328 ∧ zs.length = sz ∧ zs ≠ [] then
      some (.ms H.next 0 n.toNat sz, H.alloc (zrep zs (n.toNat * sz))) else none
  | _, _, _ => none

theorem amake_run (hr : Rel ρ I H w.heap) {t : TypeId} {l c r : AV} {lv cv : Value} {H' : Heap} (h : amake P H t l c = some (r, H')) (hl : VR ρ I w.heap l lv) (hc : VR ρ I w.heap c cv) :
    ∃ v w' ρ', (Instr.makeSlice t lv cv).run P w = .ok v w' ∧ VR ρ' I w'.heap r v ∧ Rel ρ' I H' w'.heap ∧ Ext ρ I w ρ' I w' := by
  unfold amake at h
  split at h
  case h_2 => cases h
  rename_i e k n k' m hu
  cases hl.eq_sc
  cases hc.eq_sc
  cases hcs : csz P e with
  | none => simp [hcs] at h
  | some sz =>
  cases hby : byt P e with
  | none => simp [hcs, hby] at h
  | some bt =>
  obtain ⟨i, hi, rfl, rfl⟩ := info_of hcs hby
  cases hz : zeroC P e with
  | none => simp [hcs, hby, hz] at h
  | some zs =>
  obtain ⟨i', z, hi', hz', rfl⟩ := zeroC_info hz
  rw [hi] at hi'; cases hi'
  simp only [hcs, hby, hz, Option.bind_some] at h
  split at h
  case isFalse => cases h
  rename_i hcond
  obtain ⟨h1, h2, h3, h4, h5, h6⟩ := hcond
  simp only [Option.some.injEq, Prod.mk.injEq] at h
  obtain ⟨rfl, rfl⟩ := h
  have hzs : z.cells.size = i.size := by simpa using h5
  have hz0 : z.cells.size ≠ 0 := by
    intro e; apply h6; have : z.cells = #[] := Array.size_eq_zero_iff.1 e; simp [this]
  have hwn : IntKind.i64.wrap n = n := IntWalk.i64_in n (by omega)
  have hwm : IntKind.i64.wrap m = m := IntWalk.i64_in m (by omega)
  have h7 : ¬ m < 0 := by omega
  have h8 : ¬ ((281474976710656 : Int) < i.bytes * m) := by rw [Int.mul_comm]; omega
  have h9 : ¬ n < 0 := by omega
  have h10 : ¬ m < n := by omega
  let row : Array Value := (Array.range (m.toNat * i.size)).map fun j => z.cells[j % z.cells.size]!
  have hbig := zrep_run (ρ := ρ) (I := I) (w := w) z hz0 (m.toNat * i.size)
  have hnm : n.toNat * i.size ≤ m.toNat * i.size := Nat.mul_le_mul_right _ (by omega)
  obtain ⟨k1, k2⟩ := rel_alloc (w1 := w.alloc (.cells row e)) hr (cs := zrep (z.cells.toList.map .sc) (n.toNat * i.size)) (c := row) (e := e) rfl rfl rfl rfl (by simp [zrep, row]; exact hnm) (by
    intro j x hx
    have hj : j < n.toNat * i.size := by
      have := (List.getElem?_eq_some_iff.1 hx).1
      simpa [zrep] using this
    refine hbig.2 j x ?_
    simp only [zrep, List.getElem?_map] at hx ⊢
    rw [List.getElem?_range hj] at hx
    rw [List.getElem?_range (by omega)]
    exact hx)
  refine ⟨.slice (some ⟨w.heap.size, 0, none⟩) n.toNat m.toNat, w.alloc (.cells row e), _, ?_, ?_, k1, k2⟩
  · have hrow : (Array.range (m.toNat * i.size)).map (fun j => z.cells[j % z.cells.size]!) = row := rfl
    by_cases h0 : m.toNat * i.size = 0
    · have er : Array.range 0 = #[] := by apply Array.ext <;> simp
      have e0 : row = #[] := by simp only [row, h0, er, Array.map_empty]
      rw [e0]
      have e1 : (Array.range 0).map (fun (_ : Nat) => (default : Value)) = #[] := by rw [er, Array.map_empty]
      simp [Instr.makeSlice, run_underlying hu, asInt, asIntOf, typeInfo, hi, hwn, hwm, h7, h8, h9, h10, sizeOf, h0, newRow, e1]
    · simp [Instr.makeSlice, run_underlying hu, asInt, asIntOf, typeInfo, hi, hwn, hwm, h7, h8, h9, h10, sizeOf, h0, zeroValue, hz', newRow, row]
  · have hnew : (w.alloc (.cells row e)).heap[w.heap.size]? = some (.cells row e (0, 0)) := by show (w.heap.push _)[w.heap.size]? = _; simp
    have := VR.ms (ρ := ρ.upd H.next (some (w.heap.size, 0))) (I := I) (hp := (w.alloc (.cells row e)).heap) (b := H.next) (off := 0) (len := n.toNat) (sz := i.size) (cap := m.toNat) (Rho.upd_same _ _ _) (by omega) hnew (by simp [row])
    exact this

end
end Go.Fl
end Fl8S
