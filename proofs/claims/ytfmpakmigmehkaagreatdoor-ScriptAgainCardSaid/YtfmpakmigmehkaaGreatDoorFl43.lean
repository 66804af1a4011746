/- Knowing less: numbers of which the kind alone is kept, blocks that are forgotten. -/
import Derived.Test.YtfmpakmigmehkaaGreatDoorFl39
import Derived.Test.YtfmpakmigmehkaaGreatDoorFl34
set_option linter.unusedVariables false
set_option linter.unusedSimpArgs false
noncomputable section Fl43S
namespace Go.Fl
open Go

/-- y says no more than x. -/
inductive Wk : AV → AV → Prop
  | same (x : AV) : Wk x x
  | ai (k : IntKind) (n : Int) : Wk (.sc (.int k n)) (.ai k)
  | ty (t : TypeId) (n : Nat) (x : AV) : Wk (.ty t n x) x
  | tyNil (t : TypeId) (n : Nat) : Wk .nil (.ty t n .nil)
  | top (x : AV) : Wk x .top

theorem Wk.vr {ρ : Rho} {I : Nat → Prop} {hp : Array Obj} {x y : AV} (h : Wk x y) {v : Value} (hv : VR ρ I hp x v) : VR ρ I hp y v := by
  cases h with
  | same => exact hv
  | ai k n => cases hv.eq_sc; exact .ai k n
  | ty t n x => cases hv with | ty h1 h2 => exact h1
  | tyNil t n => cases hv.eq_sc; exact .ty (.sc _) trivial
  | top => exact .top _

/-- H' says no more than H. -/
def HW (H' H : Heap) : Prop := H.next ≤ H'.next ∧ ∀ b cs', H'.get b = some cs' → ∃ cs, H.get b = some cs ∧ cs'.length = cs.length ∧ ∀ (i : Nat) (x x' : AV), cs[i]? = some x → cs'[i]? = some x' → Wk x x'

theorem Rel.weak {ρ : Rho} {I : Nat → Prop} {H H' : Heap} {hp : Array Obj} (h : Rel ρ I H hp) (hw : HW H' H) : Rel ρ I H' hp where
  live b cs' hb := by
    obtain ⟨cs, h1, h2, h3⟩ := hw.2 b cs' hb
    rcases h.live b cs h1 with ⟨k1, rfl⟩ | ⟨cb, base, c, e, k1, k2, k3, k4, k5⟩
    · exact .inl ⟨k1, List.length_eq_zero_iff.1 h2⟩
    · refine .inr ⟨cb, base, c, e, k1, k2, k3, by omega, fun i x' hx' => ?_⟩
      have hi := (List.getElem?_eq_some_iff.1 hx').1
      rw [h2] at hi
      exact (h3 i _ x' (List.getElem?_eq_getElem hi) hx').vr (k5 i _ (List.getElem?_eq_getElem hi))
  inj b b' cs cs' cb base base' hb hb' := by
    obtain ⟨c1, h1, _⟩ := hw.2 b cs hb
    obtain ⟨c2, h2, _⟩ := hw.2 b' cs' hb'
    exact h.inj b b' c1 c2 cb base base' h1 h2
  rng b p hb := Nat.lt_of_lt_of_le (h.rng b p hb) hw.1
  at_ := h.at_
  irng := h.irng
  glob := h.glob

theorem scode_weak {P : Program} {sz : Nat} {c : Code} {Q : Exit → Env → Heap → Prop} {env env' : Env} {H H' : Heap} (hw : HW H' H) (he : ∀ i, Wk (env i) (env' i)) (h : SCode P sz c Q env' H') : SCode P sz c Q env H :=
  fun ρ I w a Q' hr hel hq => h ρ I w a Q' (hr.weak hw) ⟨hel.size, hel.defers, fun i => (he i).vr (hel.val i), hel.glob⟩ hq

inductive WkL : List AV → List AV → Prop
  | nil : WkL [] []
  | cons {x y : AV} {xs ys : List AV} : Wk x y → WkL xs ys → WkL (x :: xs) (y :: ys)
theorem WkL.get {xs ys : List AV} (h : WkL xs ys) : ys.length = xs.length ∧ ∀ (i : Nat) (x y : AV), xs[i]? = some x → ys[i]? = some y → Wk x y := by
  induction h with
  | nil => exact ⟨rfl, fun i x y hx => by simp at hx⟩
  | cons h1 _ ih =>
    refine ⟨by simp [ih.1], fun i x y hx hy => ?_⟩
    cases i with
    | zero => simp at hx hy; subst hx; subst hy; exact h1
    | succ i => exact ih.2 i x y (by simpa using hx) (by simpa using hy)

theorem scalls_weak {P : Program} {f : FuncId} {args args' : List AV} {H H' : Heap} {r : AV} {H2 : Heap} (hw : HW H' H) (ha : WkL args args') (h : SCalls P f args' H' r H2) : SCalls P f args H r H2 := by
  refine ⟨h.1, Nat.le_trans hw.1 h.2.1, fun ρ I w cargs hr hv => h.2.2 ρ I w cargs (hr.weak hw) ?_⟩
  obtain ⟨hl, hg⟩ := ha.get
  refine ⟨by rw [hl]; exact hv.1, fun i y hy => ?_⟩
  have hi := (List.getElem?_eq_some_iff.1 hy).1
  rw [hl] at hi
  exact (hg i _ y (List.getElem?_eq_getElem hi) hy).vr (hv.2 i _ (List.getElem?_eq_getElem hi))

theorem HW.refl (H : Heap) : HW H H := ⟨Nat.le_refl _, fun b cs h => ⟨cs, h, rfl, fun i x x' hx hx' => by rw [hx] at hx'; cases hx'; exact .same _⟩⟩
theorem HW.of_le {H H' : Heap} (h : H'.le H) (hn : H.next ≤ H'.next) : HW H' H := ⟨hn, fun b cs hb => ⟨cs, h b cs hb, rfl, fun i x x' hx hx' => by rw [hx] at hx'; cases hx'; exact .same _⟩⟩

/-- So many numbers of a kind. -/
def ais (k : IntKind) (n : Nat) : List AV := List.replicate n (.ai k)
theorem ais_len (k : IntKind) (n : Nat) : (ais k n).length = n := List.length_replicate
theorem ais_get {k : IntKind} {n i : Nat} {x : AV} (h : (ais k n)[i]? = some x) : x = .ai k := by
  unfold ais at h
  rw [List.getElem?_replicate] at h
  split at h
  · cases h; rfl
  · cases h
theorem ais_lt (k : IntKind) (n m : Nat) : ∀ x ∈ ais k n, x.Lt m := fun x hx => by rw [(List.mem_replicate.1 hx).2]; exact .ai k

/-- A cell that is a number of that kind. -/
def isK (k : IntKind) (x : AV) : Prop := (∃ n, x = .sc (.int k n)) ∨ x = .ai k
theorem isK.wk {k : IntKind} {x : AV} (h : isK k x) : Wk x (.ai k) := by
  rcases h with ⟨n, rfl⟩ | rfl
  · exact .ai k n
  · exact .same _
theorem isK.leaf {k : IntKind} {x : AV} (h : isK k x) : x.leaf = true := by
  rcases h with ⟨n, rfl⟩ | rfl <;> rfl
theorem isK.froz {k : IntKind} {x : AV} (h : isK k x) {H : Heap} {d : Nat → Prop} : Froz H d x (.ai k) := by
  rcases h with ⟨n, rfl⟩ | rfl
  · exact .ai k n
  · exact .same _
theorem isK.lt {k : IntKind} {x : AV} (h : isK k x) (n : Nat) : x.Lt n := by
  rcases h with ⟨m, rfl⟩ | rfl
  · exact .sc _
  · exact .ai k
theorem isK.aint {k : IntKind} {x : AV} (h : isK k x) : aint x = some k := by
  rcases h with ⟨m, rfl⟩ | rfl <;> rfl
def allK (k : IntKind) (cs : List AV) : Prop := ∀ x ∈ cs, isK k x
theorem allK.append {k : IntKind} {a b : List AV} (h1 : allK k a) (h2 : allK k b) : allK k (a ++ b) := fun x hx => by
  rcases List.mem_append.1 hx with h | h
  · exact h1 x h
  · exact h2 x h
theorem allK.wk {k : IntKind} {cs : List AV} (h : allK k cs) {n : Nat} (hn : cs.length = n) : (ais k n).length = cs.length ∧ ∀ (i : Nat) (x x' : AV), cs[i]? = some x → (ais k n)[i]? = some x' → Wk x x' :=
  ⟨by rw [ais_len, hn], fun i x x' hx hx' => by rw [ais_get hx']; exact (h x (List.mem_of_getElem? hx)).wk⟩
theorem allK.all_leaf {k : IntKind} {cs : List AV} (h : allK k cs) : cs.all AV.leaf = true := List.all_eq_true.2 fun x hx => (h x hx).leaf

/-- A row of numbers of which the kind alone is known. -/
def aiA (k : IntKind) (n : Nat) : AV := .vs n 1 (ais k n)
theorem aiA_lt (k : IntKind) (n m : Nat) : (aiA k n).Lt m := .vs (ais_lt k n m)

theorem froz_row {k : IntKind} {H : Heap} {d : Nat → Prop} {b n : Nat} {cs : List AV} (h1 : H.get b = some cs) (h2 : d b) (h3 : cs.length = n) (h4 : allK k cs) : Froz H d (.ms b 0 n 1) (aiA k n) := by
  refine .ms h1 h2 (by omega) (by rw [ais_len]; omega) (fun i x y hx hy => ?_)
  rw [ais_get hx]
  rw [Nat.zero_add] at hy
  exact (h4 y (List.mem_of_getElem? hy)).froz

theorem froz_grown {k : IntKind} {H : Heap} {d : Nat → Prop} {s : AV} {n : Nat} {cs : List AV} {bo : Option Nat} (h : grown H 1 s = some (n, cs, bo)) (hd : ∀ b, bo = some b → d b) (h4 : allK k cs) : Froz H d s (aiA k n) := by
  have hl := grown_size h
  rcases grown_cases h with ⟨rfl, rfl, rfl, _⟩ | ⟨b, off, rfl, rfl, c, h1, h2, rfl⟩
  · exact .nil 1
  · refine .ms h1 (hd b rfl) (by omega) (by rw [ais_len]; omega) (fun i x y hx hy => ?_)
    rw [ais_get hx]
    have : (c.drop off)[i]? = some y := by rw [List.getElem?_drop]; exact hy
    exact (h4 y (List.mem_of_getElem? this)).froz

/-- The evaluator over a heap with one block: its outcome is plain, and so is the block. -/
def oneB (cells : List AV) : Option (AV × Heap) → Bool
  | some (.tup [], H) => (match H.get 0 with
    | some cs => sameL deep cs cells
    | none => false)
  | _ => false

theorem ecall_one {P : Program} {fs : List FuncId} (hm : P.follows .mixedOrders = true) (hfs : ∀ f ∈ fs, Enters P f) (n : Nat) {f : FuncId} {args cs0 cells : List AV} (h : oneB cells (ecall P fs n f args (Heap.one cs0)) = true) :
    ∃ H', SCalls P f args (Heap.one cs0) (.tup []) H' ∧ H'.get 0 = some cells := by
  unfold oneB at h
  split at h
  · rename_i H hu
    split at h
    · rename_i cs hg
      rw [(same_eq _).2 _ _ h] at hg
      exact ⟨H, ecall_sound hm hfs n _ _ _ _ _ hu, hg⟩
    · cases h
  · cases h
/-- What is to hold behind code, out of sight. -/
theorem scode_hide {P : Program} {sz : Nat} {c : Code} {Q : Exit → Env → Heap → Prop} {env : Env} {H : Heap} (h : ∀ K : Env → Heap → Prop, (∀ env H, Q .normal env H → K env H) → SCode P sz c (thenA K Q) env H) : SCode P sz c Q env H :=
  (h (Q .normal) fun _ _ h => h).mono fun e env H hq => by cases e <;> exact hq
@[go_sem] theorem srun_shiftr {P : Program} {k k' : IntKind} {a b : Int} (h : 0 ≤ b) : srun P (Op.shift .shr k a k' b) = some (.int k (bshr k a b)) := by
  simp only [Op.shift]; rw [if_neg (by omega)]; rfl
@[go_sem] theorem srun_shiftl {P : Program} {k k' : IntKind} {a b : Int} (h : 0 ≤ b) : srun P (Op.shift .shl k a k' b) = some (.int k (bshl k a b)) := by
  simp only [Op.shift]; rw [if_neg (by omega)]; rfl
@[go_sem] theorem zrep1 (a : AV) : zrep [a] 1 = [a] := by kernel_rfl
@[go_sem] theorem zrep2 (a b : AV) : zrep [a, b] 2 = [a, b] := by kernel_rfl
@[go_sem] theorem zrep1_2 (a : AV) : zrep [a] 2 = [a, a] := by kernel_rfl
@[go_sem] theorem zrep1_4 (a : AV) : zrep [a] 4 = [a, a, a, a] := by kernel_rfl
@[go_sem] theorem zrep7 (a b c d e f g : AV) : zrep [a, b, c, d, e, f, g] 7 = [a, b, c, d, e, f, g] := by kernel_rfl
@[go_sem] theorem zrep7_2 (a b c d e f g : AV) : zrep [a, b, c, d, e, f, g] 14 = [a, b, c, d, e, f, g, a, b, c, d, e, f, g] := by kernel_rfl
end Go.Fl
end Fl43S

noncomputable section Fl44S
namespace Go.Fl
open Go

/-- A heap of these blocks. -/
def Heap.many (cs : List (List AV)) : Heap := cs.foldl Heap.alloc Heap.empty

theorem many_fold : ∀ (cs : List (List AV)) (H : Heap), (cs.foldl Heap.alloc H).next = H.next + cs.length ∧ ∀ i, (cs.foldl Heap.alloc H).get i = if i < H.next then H.get i else cs[i - H.next]?
  | [], H => ⟨rfl, fun i => by
    split
    · rfl
    · rename_i h; simp only [List.foldl_nil, List.getElem?_nil]; exact H.wf i (by omega)⟩
  | c :: r, H => by
    obtain ⟨h1, h2⟩ := many_fold r (H.alloc c)
    refine ⟨by simp only [List.foldl_cons, h1, Heap.next_alloc, List.length_cons]; omega, fun i => ?_⟩
    simp only [List.foldl_cons, h2, Heap.next_alloc, Heap.get_alloc]
    by_cases e1 : i < H.next
    · rw [if_pos (by omega), if_neg (by omega), if_pos e1]
    · rw [if_neg e1]
      by_cases e2 : i = H.next
      · subst e2; rw [if_pos (by omega), if_pos rfl, Nat.sub_self]; rfl
      · rw [if_neg (by omega)]
        have : i - H.next = (i - (H.next + 1)) + 1 := by omega
        rw [this, List.getElem?_cons_succ]

theorem many_get (cs : List (List AV)) (i : Nat) : (Heap.many cs).get i = cs[i]? := by
  have := (many_fold cs Heap.empty).2 i
  rw [if_neg (by exact Nat.not_lt_zero i)] at this
  exact this
theorem many_next (cs : List (List AV)) : (Heap.many cs).next = cs.length := by
  exact (many_fold cs Heap.empty).1.trans (Nat.zero_add _)

/-- y, where the i-th of those blocks is block i, is x (or x says less). -/
inductive Ren (bs : List Nat) : AV → AV → Prop
  | ptr {i b : Nat} (o : Nat) : bs[i]? = some b → Ren bs (.ptr i o) (.ptr b o)
  | ms {i b : Nat} (off len sz : Nat) : bs[i]? = some b → Ren bs (.ms i off len sz) (.ms b off len sz)
  | plain {x y : AV} : y.Lt 0 → Wk y x → Ren bs x y
  | top (y : AV) : Ren bs .top y

/-- x, where block i is the i-th of those blocks, is y (or y says less). -/
inductive Bak (bs : List Nat) : AV → AV → Prop
  | ptr {i b : Nat} (o : Nat) : bs[i]? = some b → Bak bs (.ptr i o) (.ptr b o)
  | ms {i b : Nat} (off len sz : Nat) : bs[i]? = some b → Bak bs (.ms i off len sz) (.ms b off len sz)
  | plain {x y : AV} : x.Lt 0 → Wk x y → Bak bs x y
  | top (x : AV) : Bak bs x .top

def Heap.setAll (H : Heap) : List (Nat × List AV) → Heap
  | [] => H
  | (b, c) :: r => (H.set b c).setAll r

theorem setAll_next : ∀ (l : List (Nat × List AV)) (H : Heap), (H.setAll l).next = H.next
  | [], _ => rfl
  | (b, c) :: r, H => by simp only [Heap.setAll]; rw [setAll_next r]; rfl
theorem setAll_other : ∀ (l : List (Nat × List AV)) (H : Heap) (k : Nat), (∀ p ∈ l, p.1 ≠ k) → (H.setAll l).get k = H.get k
  | [], _, _, _ => rfl
  | (b, c) :: r, H, k, h => by
    simp only [Heap.setAll]
    rw [setAll_other r _ k fun p hp => h p (List.mem_cons_of_mem _ hp), Heap.get_set, if_neg (fun e => h (b, c) List.mem_cons_self e.symm)]
theorem setAll_at : ∀ (l : List (Nat × List AV)) (H : Heap) (i b : Nat) (c : List AV), (l.map Prod.fst).Nodup → l[i]? = some (b, c) → (∃ c0, H.get b = some c0) → (H.setAll l).get b = some c
  | [], _, i, b, c, _, h, _ => by simp at h
  | (b', c') :: r, H, 0, b, c, hn, h, ⟨c0, h0⟩ => by
    simp only [List.getElem?_cons_zero, Option.some.injEq, Prod.mk.injEq] at h
    obtain ⟨rfl, rfl⟩ := h
    simp only [List.map_cons, List.nodup_cons] at hn
    simp only [Heap.setAll]
    rw [setAll_other r _ _ (fun p hp e => hn.1 (by rw [← e]; exact List.mem_map_of_mem hp)), Heap.get_set, if_pos rfl, h0]; rfl
  | (b', c') :: r, H, i + 1, b, c, hn, h, ⟨c0, h0⟩ => by
    simp only [List.map_cons, List.nodup_cons] at hn
    simp only [Heap.setAll]
    refine setAll_at r _ i b c hn.2 h ⟨c0, ?_⟩
    have hm : b ∈ r.map Prod.fst := List.mem_map_of_mem (f := Prod.fst) (List.mem_of_getElem? (i := i) (by simpa using h))
    rw [Heap.get_set, if_neg (fun e => hn.1 (by rw [← e]; exact hm)), h0]

theorem scode_local {P : Program} {sz : Nat} {c : Code} {ex : Exit} {env0 env1 env : Env} {cs0 cs1 : List (List AV)} {bs : List Nat} {H : Heap} {Q : Exit → Env → Heap → Prop}
    (hlen0 : cs0.length = bs.length) (hlen1 : cs1.length = bs.length) (hnd : bs.Nodup)
    (hH : ∀ (i b : Nat) (c0 : List AV), bs[i]? = some b → cs0[i]? = some c0 → ∃ c, H.get b = some c ∧ c0.length = c.length ∧ ∀ (j : Nat) (x x' : AV), c[j]? = some x → c0[j]? = some x' → x.Lt 0 ∧ Wk x x')
    (hp1 : ∀ c ∈ cs1, ∀ x ∈ c, x.Lt 0)
    (he : ∀ s, s < sz → Ren bs (env0 s) (env s)) (hu : ∀ s, sz ≤ s → env0 s = .undef)
    (h : SCode P sz c (fun e env' H' => e = ex ∧ (∀ (i : Nat) (c1 : List AV), cs1[i]? = some c1 → H'.get i = some c1) ∧ ∀ s, Bak bs (env' s) (env1 s)) env0 (Heap.many cs0))
    (hq : Q ex env1 (H.setAll (bs.zip cs1))) : SCode P sz c Q env H := by
  intro ρ I w a Q' hrel hel hQ'
  let ρ0 : Rho := fun i => (bs[i]?).bind ρ
  have hρ0 : ∀ i p, ρ0 i = some p → ∃ b, bs[i]? = some b ∧ ρ b = some p := by
    intro i p hi
    simp only [ρ0, Option.bind_eq_some_iff] at hi
    exact hi
  have hbs : ∀ (i b : Nat), bs[i]? = some b → ∃ c0, cs0[i]? = some c0 := by
    intro i b hb
    have := (List.getElem?_eq_some_iff.1 hb).1
    exact ⟨_, List.getElem?_eq_getElem (by omega)⟩
  have inj : ∀ (i j b : Nat), bs[i]? = some b → bs[j]? = some b → i = j := by
    intro i j b hi hj
    have h1 := (List.getElem?_eq_some_iff.1 hi).1
    exact (List.getElem?_inj h1 hnd).1 (hi.trans hj.symm)
  have hrel0 : Rel ρ0 I (Heap.many cs0) w.heap := by
    refine ⟨?_, ?_, ?_, ?_, hrel.irng, hrel.glob⟩
    · intro i c0 hi
      rw [many_get] at hi
      have hlt := (List.getElem?_eq_some_iff.1 hi).1
      have hb : bs[i]? = some (bs[i]'(by omega)) := List.getElem?_eq_getElem (by omega)
      obtain ⟨cc, h1, h2, h3⟩ := hH i _ c0 hb hi
      have e0 : ρ0 i = ρ (bs[i]'(by omega)) := by simp only [ρ0, hb, Option.bind_some]
      rcases hrel.live _ _ h1 with ⟨k1, rfl⟩ | ⟨cb, base, c', e', k1, k2, k3, k4, k5⟩
      · exact .inl ⟨by rw [e0]; exact k1, List.length_eq_zero_iff.1 h2⟩
      · refine .inr ⟨cb, base, c', e', by rw [e0]; exact k1, k2, k3, by omega, fun j x' hx' => ?_⟩
        have hj := (List.getElem?_eq_some_iff.1 hx').1
        rw [h2] at hj
        obtain ⟨l1, l2⟩ := h3 j _ x' (List.getElem?_eq_getElem hj) hx'
        exact l2.vr ((k5 j _ (List.getElem?_eq_getElem hj)).plain l1)
    · intro i j c1 c2 cb base base' hi hj h1 h2
      obtain ⟨b1, l1, m1⟩ := hρ0 _ _ h1
      obtain ⟨b2, l2, m2⟩ := hρ0 _ _ h2
      obtain ⟨c01, n1⟩ := hbs _ _ l1
      obtain ⟨c02, n2⟩ := hbs _ _ l2
      obtain ⟨_, o1, _⟩ := hH _ _ _ l1 n1
      obtain ⟨_, o2, _⟩ := hH _ _ _ l2 n2
      have := hrel.inj _ _ _ _ _ _ _ o1 o2 m1 m2
      subst this
      exact inj _ _ _ l1 l2
    · intro i p hi
      obtain ⟨b, l1, _⟩ := hρ0 _ _ hi
      have := (List.getElem?_eq_some_iff.1 l1).1
      rw [many_next]; omega
    · intro i cb base hi
      obtain ⟨b, _, m1⟩ := hρ0 _ _ hi
      exact hrel.at_ b cb base m1
  have hel0 : ERel sz ρ0 I w.heap env0 a := ⟨hel.size, hel.defers, fun s => by
    rcases Nat.lt_or_ge s sz with hlt | hge
    case inr =>
      rw [hu s hge]
      have e : a.tmps.getD s Go.undef = Go.undef := by
        rw [Array.getD_eq_getD_getElem?, Array.getElem?_eq_none (by rw [hel.size]; exact hge)]; rfl
      rw [e]; exact .sc _
    have hv := hel.val s
    generalize a.tmps.getD s Go.undef = u at hv
    have hs := he s hlt
    generalize env0 s = x at hs
    generalize env s = y at hs hv
    cases hs with
    | ptr o hb =>
      cases hv with
      | ptr k => exact .ptr (by simp only [ρ0, hb, Option.bind_some]; exact k)
    | ms off len sz' hb =>
      cases hv with
      | ms k1 k2 k3 k4 => exact .ms (by simp only [ρ0, hb, Option.bind_some]; exact k1) k2 k3 k4
      | ms0 k => exact .ms0 (by simp only [ρ0, hb, Option.bind_some]; exact k)
    | plain hl hw => exact hw.vr (hv.plain hl)
    | top => exact .top _, hel.glob⟩
  refine h ρ0 I w a Q' hrel0 hel0 ?_
  rintro e a' w' ⟨env', H0', ρ', I', ⟨rfl, hc1, hbk⟩, hr', he', hx⟩
  refine hQ' _ _ _ ⟨env1, H.setAll (bs.zip cs1), ρ, I', hq, ?_, ?_, ?_⟩
  · have hzip : (bs.zip cs1).map Prod.fst = bs := List.map_fst_zip (by omega)
    have hset : ∀ (k : Nat) (ck : List AV), (H.setAll (bs.zip cs1)).get k = some ck → (∃ i : Nat, bs[i]? = some k ∧ cs1[i]? = some ck) ∨ ((∀ i : Nat, bs[i]? ≠ some k) ∧ H.get k = some ck) := by
      intro k ck hk
      by_cases hmem : k ∈ bs
      · obtain ⟨i, hi, rfl⟩ := List.getElem_of_mem hmem
        have hb : bs[i]? = some bs[i] := List.getElem?_eq_getElem hi
        have hc : cs1[i]? = some (cs1[i]'(by omega)) := List.getElem?_eq_getElem (by omega)
        obtain ⟨c0, n0⟩ := hbs _ _ hb
        obtain ⟨c', o1, _⟩ := hH _ _ _ hb n0
        have hz : (bs.zip cs1)[i]? = some (bs[i], cs1[i]'(by omega)) := by
          rw [List.getElem?_zip_eq_some]; exact ⟨hb, hc⟩
        have := setAll_at _ H i _ _ (by rw [hzip]; exact hnd) hz ⟨_, o1⟩
        rw [this] at hk
        cases hk
        exact .inl ⟨i, hb, hc⟩
      · right
        refine ⟨fun i hi => hmem (List.mem_of_getElem? hi), ?_⟩
        rw [setAll_other _ H k] at hk
        · exact hk
        · intro p hp e
          have : p.1 ∈ (bs.zip cs1).map Prod.fst := List.mem_map_of_mem hp
          rw [hzip, e] at this
          exact hmem this
    have hset' : ∀ k ck, (H.setAll (bs.zip cs1)).get k = some ck → ∃ ck', H.get k = some ck' := by
      intro k ck hk
      rcases hset k ck hk with ⟨i, hi, _⟩ | ⟨_, h1⟩
      · obtain ⟨c0, n0⟩ := hbs _ _ hi
        obtain ⟨c', o1, _⟩ := hH _ _ _ hi n0
        exact ⟨_, o1⟩
      · exact ⟨_, h1⟩
    refine ⟨?_, ?_, ?_, ?_, hr'.irng, hr'.glob⟩
    · intro k ck hk
      rcases hset k ck hk with ⟨i, hi, hci⟩ | ⟨hno, hk'⟩
      · have hplain := hp1 ck (List.mem_of_getElem? hci)
        obtain ⟨c0, n0⟩ := hbs _ _ hi
        obtain ⟨c', o1, _⟩ := hH _ _ _ hi n0
        obtain ⟨p, hp⟩ : ∃ p, ρ k = some p := by
          rcases hrel.live _ _ o1 with k1 | ⟨cb, base, _, _, k1, _⟩
          · exact ⟨_, k1.1⟩
          · exact ⟨_, k1⟩
        have hp0 : ρ0 i = some p := by simp only [ρ0, hi, Option.bind_some]; exact hp
        have hp' := hx.rho _ _ hp0
        rcases hr'.live i _ (hc1 i _ hci) with h1 | ⟨cb, base, c2, e', k1, k2, k3, k4, k5⟩
        · left
          rw [hp'] at h1
          exact ⟨by rw [hp]; exact h1.1, h1.2⟩
        · right
          rw [hp'] at k1
          exact ⟨cb, base, c2, e', by rw [hp]; exact k1, k2, k3, k4, fun j x hx' => (k5 j x hx').plain (hplain x (List.mem_of_getElem? hx'))⟩
      · rcases hrel.live k ck hk' with h1 | ⟨cb, base, c2, e', k1, k2, k3, k4, k5⟩
        · exact .inl h1
        · have hno' : ∀ b0 base0, ρ0 b0 ≠ some (some (cb, base0)) := by
            intro i base0 h2
            obtain ⟨b, l1, m1⟩ := hρ0 _ _ h2
            obtain ⟨c0, n0⟩ := hbs _ _ l1
            obtain ⟨c', o1, _⟩ := hH _ _ _ l1 n0
            have := hrel.inj _ _ _ _ _ _ _ hk' o1 k1 m1
            subst this
            exact hno i l1
          obtain ⟨fz, hf, k3⟩ := k3
          have hlt : cb < w.heap.size := (Array.getElem?_eq_some_iff.1 k3).1
          refine .inr ⟨cb, base, c2, e', k1, fun hI => ?_, ⟨fz, hf, by rw [hx.frame cb hlt hno']; exact k3⟩, k4, fun j x hx' => (k5 j x hx').mono' (fun _ _ h => h) hx.imm hx.kept hx.blocks⟩
          rcases hx.newI cb hI with h1 | h1 | ⟨b0, base0, h1⟩
          · exact k2 h1
          · omega
          · exact hno' b0 base0 h1
    · intro k k' ck ck' cb base base' hk hk' h1 h2
      obtain ⟨_, hk⟩ := hset' k ck hk
      obtain ⟨_, hk'⟩ := hset' k' ck' hk'
      exact hrel.inj _ _ _ _ _ _ _ hk hk' h1 h2
    · intro k p hk
      rw [setAll_next]
      exact hrel.rng k p hk
    · intro k cb base hk
      obtain ⟨c2, e', fz, h1⟩ := hrel.at_ k cb base hk
      obtain ⟨c', fz', h2, _⟩ := hx.blocks cb c2 e' fz h1
      exact ⟨c', e', fz', h2⟩
  · refine ⟨he'.size, he'.defers, fun s => ?_, hr'.glob⟩
    have hv := he'.val s
    generalize a'.tmps.getD s Go.undef = u at hv
    have hs := hbk s
    generalize env' s = x at hs hv
    generalize env1 s = y at hs
    have hsome : ∀ (i b : Nat), bs[i]? = some b → ∃ p, ρ b = some p ∧ ρ' i = some p := by
      intro i b hi
      obtain ⟨c0, n0⟩ := hbs _ _ hi
      obtain ⟨c', o1, _⟩ := hH _ _ _ hi n0
      obtain ⟨p, hp⟩ : ∃ p, ρ b = some p := by
        rcases hrel.live _ _ o1 with k1 | ⟨cb, base, _, _, k1, _⟩
        · exact ⟨_, k1.1⟩
        · exact ⟨_, k1⟩
      exact ⟨p, hp, hx.rho _ _ (by simp only [ρ0, hi, Option.bind_some]; exact hp)⟩
    cases hs with
    | ptr o hb =>
      obtain ⟨p, q1, q2⟩ := hsome _ _ hb
      cases hv with
      | ptr k => rw [q2] at k; exact .ptr (by rw [q1]; exact k)
    | ms off len sz' hb =>
      obtain ⟨p, q1, q2⟩ := hsome _ _ hb
      cases hv with
      | ms k1 k2 k3 k4 => rw [q2] at k1; exact .ms (by rw [q1]; exact k1) k2 k3 k4
      | ms0 k => exact .ms0 q1
    | plain hl hw => exact hw.vr (hv.plain hl)
    | top => exact .top _
  · exact { rho := fun _ _ h => h
            imm := hx.imm
            size := hx.size
            kept := hx.kept
            blocks := hx.blocks
            frame := fun cb hlt hno => hx.frame cb hlt fun i base0 h2 => by
              obtain ⟨b, _, m1⟩ := hρ0 _ _ h2
              exact hno b base0 m1
            newI := fun cb hcb => by
              rcases hx.newI cb hcb with h1 | h1 | ⟨i, base0, h1⟩
              · exact .inl h1
              · exact .inr (.inl h1)
              · obtain ⟨b, _, m1⟩ := hρ0 _ _ h1
                exact .inr (.inr ⟨b, base0, m1⟩)
            newR := fun k cb base hk => .inl hk
            os := hx.os
            tape := hx.tape
            output := hx.output }
/-- What the evaluator's outcome shows. -/
theorem scode_proj {α : Type} {P : Program} {sz f : Nat} {c : Code} {Q : Exit → Env → Heap → Prop} {T0 : ET} {H : Heap} {call : ACall} (proj : Exit → ET → Heap → α) (x : α) (hm : P.follows .mixedOrders = true)
    (hc : ∀ k a H r H', call k a H = some (r, H') → SCalls P k a H r H') (h : (ecode call P sz f c T0 H).map (fun r => proj r.1 r.2.1 r.2.2) = some x) (hq : ∀ e T' H', proj e T' H' = x → Q e (ET.fn T') H') : SCode P sz c Q (ET.fn T0) H := by
  simp only [Option.map_eq_some_iff] at h
  obtain ⟨⟨e, T', H'⟩, h1, h2⟩ := h
  exact ecode_sound hm hc _ _ _ _ _ _ _ _ h1 (hq _ _ _ h2)

theorem scode_proj_env {α : Type} {P : Program} {sz f : Nat} {c : Code} {Q : Exit → Env → Heap → Prop} {env : Env} {H : Heap} {call : ACall} (l : List (Nat × AV)) (proj : Exit → ET → Heap → α) (x : α) (hm : P.follows .mixedOrders = true)
    (hc : ∀ k a H r H', call k a H = some (r, H') → SCalls P k a H r H') (hl : ∀ p ∈ l, p.1 < sz ∧ env p.1 = p.2) (h : (ecode call P sz f c (known sz l) H).map (fun r => proj r.1 r.2.1 r.2.2) = some x) (hq : ∀ e T' H', proj e T' H' = x → Q e (ET.fn T') H') : SCode P sz c Q env H := by
  simp only [Option.map_eq_some_iff] at h
  obtain ⟨⟨e, T', H'⟩, h1, h2⟩ := h
  exact scode_known l hm hc hl h1 (hq _ _ _ h2)

theorem ren_known {bs : List Nat} {sz : Nat} {env : Env} : ∀ (l : List (Nat × AV)), (∀ p ∈ l, Ren bs p.2 (env p.1)) → ∀ s, s < sz → Ren bs (ET.fn (known sz l) s) (env s)
  | [], _, s, hs => by
    have : ET.fn (known sz []) s = .top := by simp only [known, ET.fn, tops_get, if_pos hs]; rfl
    rw [this]; exact .top _
  | (k, x) :: r, h, s, hs => by
    have e : ET.fn (known sz ((k, x) :: r)) s = if s = k then x else ET.fn (known sz r) s := by
      simp only [known, ET.fn, Tr.get_put]
      split <;> rfl
    rw [e]
    split
    · rename_i e1; subst e1; exact h (s, x) List.mem_cons_self
    · exact ren_known r (fun p hp => h p (List.mem_cons_of_mem _ hp)) s hs
theorem known_undef {sz : Nat} : ∀ (l : List (Nat × AV)), (∀ p ∈ l, p.1 < sz) → ∀ s, sz ≤ s → ET.fn (known sz l) s = .undef
  | [], _, s, hs => by simp only [known, ET.fn, tops_get, if_neg (by omega : ¬ s < sz)]; rfl
  | (k, x) :: r, h, s, hs => by
    have e : ET.fn (known sz ((k, x) :: r)) s = if s = k then x else ET.fn (known sz r) s := by
      simp only [known, ET.fn, Tr.get_put]
      split <;> rfl
    rw [e, if_neg (by have := h (k, x) List.mem_cons_self; simp only at this; omega)]
    exact known_undef r (fun p hp => h p (List.mem_cons_of_mem _ hp)) s hs

theorem HW.setK {H : Heap} {b n : Nat} {c : List AV} {k : IntKind} (hb : H.get b = some c) (hc : allK k c) (hn : c.length = n) : HW (H.set b (ais k n)) H := by
  refine ⟨Nat.le_refl _, fun x cs' hx => ?_⟩
  rw [Heap.get_set] at hx
  split at hx
  · rename_i e
    subst e
    rw [hb] at hx
    cases hx
    exact ⟨c, hb, (hc.wk hn).1, (hc.wk hn).2⟩
  · exact ⟨cs', hx, rfl, fun i x x' hx hx' => by rw [hx] at hx'; cases hx'; exact .same _⟩

theorem ais_drop (k : IntKind) {n i : Nat} (h : i < n) : (ais k n).drop i = .ai k :: ais k (n - i - 1) := by
  unfold ais
  rw [List.drop_replicate, ← List.replicate_succ]
  congr 1
  omega

theorem ais_splice (k : IntKind) {n o : Nat} (h : o < n) : splice (ais k n) o [.ai k] = ais k n := by
  apply List.ext_getElem?
  intro i
  rw [splice_get (by rw [ais_len]; simp; omega)]
  simp only [List.length_cons, List.length_nil]
  by_cases h1 : i < o
  · rw [if_pos h1]
  · rw [if_neg h1]
    by_cases h2 : i < o + (0 + 1)
    · rw [if_pos h2]
      have e : i = o := by omega
      subst e
      simp [ais, List.getElem?_replicate, h]
    · rw [if_neg h2]
end Go.Fl
end Fl44S

noncomputable section Fl45S
namespace Go.Fl
open Go
section
variable {P : Program} {ops : Array Oper}
theorem WOps.mono {Q Q' : Exit → Env → Heap → Prop} (hq : ∀ env H, Q .normal env H → Q' .normal env H) : ∀ {l : List Oper} {env : Env} {H : Heap}, WOps P ops Q l env H → WOps P ops Q' l env H
  | [], _, _, h => hq _ _ h
  | _ :: _, _, _, h => WOp.mono (fun _ _ h => WOps.mono hq h) h

theorem w_mid (n : Nat) (F : Env → Heap → Prop) {Q : Exit → Env → Heap → Prop} {l : List Oper} {env : Env} {H : Heap} (h1 : ∀ K : Env → Heap → Prop, (∀ env H, F env H → K env H) → WOps P ops (thenA K Q) (l.take n) env H) (h2 : ∀ env H, F env H → WOps P ops Q (l.drop n) env H) : WOps P ops Q l env H :=
  w_take n fun _ hK => WOps.mono (fun _ _ h => h) (h1 _ fun env H hf => hK env H (h2 env H hf))
end
end Go.Fl
end Fl45S

noncomputable section Fl49S
namespace Go.Fl
open Go

theorem scode_alloc_ty {P : Program} {sz id : Nat} {d : Tmp} {t ty : TypeId} {pos : String} {af : Array Edge} {zs : List AV} {Q : Exit → Env → Heap → Prop} {env : Env} {H : Heap} (hz : zeroC P t = some zs) (hd : d < sz)
    (hQ : Q .normal (env.upd (some d) (.ty t zs.length (.ptr H.next 0))) (H.alloc zs)) : SCode P sz (.region id #[⟨some d, .alloc t, ty, pos, af, none⟩] false) Q env H := by
  intro ρ I w a Q' hr he hQ'
  refine wp_region_list ?_
  obtain ⟨z, h2, rfl⟩ := zeroC_run P hz w
  have hzz := VRs_scs (ρ := ρ) (I := I) (w := w) z.cells
  obtain ⟨k1, k2⟩ := rel_alloc (w1 := w.alloc (.cells z.cells t)) hr (cs := z.cells.toList.map .sc) (c := z.cells) (e := t) rfl rfl rfl rfl (by simp) hzz.2
  have hnew : (w.alloc (.cells z.cells t)).heap[w.heap.size]? = some (.cells z.cells t (0, 0)) := by show (w.heap.push _)[w.heap.size]? = _; simp
  have hv : VR (ρ.upd H.next (some (w.heap.size, 0))) I (w.alloc (.cells z.cells t)).heap (.ty t (z.cells.toList.map AV.sc).length (.ptr H.next 0)) (.pointer (some ⟨w.heap.size, 0, none⟩)) :=
    .ty (.ptr (o := 0) (Rho.upd_same _ _ _)) ⟨rfl, _, _, hnew, by simp⟩
  have hrun : (execOp a.eval ⟨some d, .alloc t, ty, pos, af, none⟩).run P w = .ok (.value (.pointer (some ⟨w.heap.size, 0, none⟩))) (w.alloc (.cells z.cells t)) := by
    simp [execOp, Instr.alloc, h2, newVar, newRow]
  have hfin := hQ' _ (a.put (some d) (.pointer (some ⟨w.heap.size, 0, none⟩))) _ ⟨_, _, _, _, hQ, k1, (he.mono k2).put (fun t ht => by cases ht; exact hd) hv, k2⟩
  have hw : Region.wanted ⟨some d, .alloc t, ty, pos, af, none⟩ (yielded #[⟨some d, .alloc t, ty, pos, af, none⟩] a.tmps) = true := rfl
  simp only [wpList]
  rw [if_pos hw]
  refine .inl ?_
  unfold Oper.wp
  rw [hrun]
  exact hfin

/-- A frame that says less of one slot. -/
theorem scode_less {P : Program} {sz : Nat} {c : Code} {Q : Exit → Env → Heap → Prop} {env : Env} {H : Heap} (i : Nat) {y : AV} (h : Wk (env i) y) (hc : SCode P sz c Q (env.upd (some i) y) H) : SCode P sz c Q env H :=
  scode_weak (HW.refl H) (fun j => by
    by_cases e : i = j
    · subst e; rw [upd_same]; exact h
    · rw [upd_ne _ _ _ _ e]; exact .same _) hc

theorem HW.set {H : Heap} {b : Nat} {cs cs' : List AV} (hb : H.get b = some cs) (hl : WkL cs cs') : HW (H.set b cs') H := by
  refine ⟨Nat.le_refl _, fun k c hk => ?_⟩
  rw [Heap.get_set] at hk
  split at hk
  · rename_i e
    rw [e, hb] at hk
    cases hk
    exact ⟨cs, by rw [e]; exact hb, hl.get.1, hl.get.2⟩
  · exact ⟨c, hk, rfl, fun i x x' hx hx' => by rw [hx] at hx'; cases hx'; exact .same _⟩

theorem scode_less_heap {P : Program} {sz : Nat} {c : Code} {Q : Exit → Env → Heap → Prop} {env : Env} {H : Heap} {b : Nat} {cs cs' : List AV} (hb : H.get b = some cs) (hl : WkL cs cs') (hc : SCode P sz c Q env (H.set b cs')) : SCode P sz c Q env H :=
  scode_weak (HW.set hb hl) (fun j => .same _) hc

/-- A block of which the concrete one is frozen is given up. -/
theorem rel_fz {ρ : Rho} {I : Nat → Prop} {H : Heap} {w w1 : World} (h : Rel ρ I H w.heap) {b g base : Nat} {cs : List AV} {c : Array Value} {e : TypeId} {fz fz' : Nat × Nat} (hb : H.get b = some cs) (hρ : ρ b = some (some (g, base)))
    (hI : ¬ I g) (hc : w.heap[g]? = some (.cells c e fz)) (hc' : w1.heap[g]? = some (.cells c e fz')) (hsz : w1.heap.size = w.heap.size) (ho : ∀ k, k ≠ g → w1.heap[k]? = w.heap[k]?) (hos : w1.os = w.os) (ht : w1.tape = w.tape) (hou : w1.output = w.output) :
    Rel ρ I (H.del b) w1.heap ∧ Ext ρ I w ρ I w1 := by
  have hx : Ext ρ I w ρ I w1 :=
    { rho := fun _ _ h => h
      imm := fun _ h => h
      size := Nat.le_of_eq hsz.symm
      kept := fun cb hcb => ho cb (fun e => hI (e ▸ hcb))
      blocks := fun cb c1 e1 fz1 hcb => by
        by_cases hg : cb = g
        · subst hg
          rw [hc] at hcb; cases hcb
          exact ⟨_, _, hc', rfl⟩
        · exact ⟨_, _, by rw [ho cb hg]; exact hcb, rfl⟩
      frame := fun cb _ hno => ho cb (fun e => hno b base (by rw [e]; exact hρ))
      newI := fun _ h => .inl h
      newR := fun _ _ _ h => .inl h
      os := hos
      tape := ht
      output := hou }
  refine ⟨⟨?_, ?_, h.rng, ?_, ?_, h.glob.ext hx.imm hx.kept⟩, hx⟩
  · intro k ck hk
    rw [Heap.get_del] at hk
    split at hk
    · cases hk
    · rename_i hkb
      rcases h.live k ck hk with h2 | ⟨cb, base', c', e', h2, h3, ⟨fz4, hf4, h4⟩, h5, h6⟩
      · exact .inl h2
      · have hne : cb ≠ g := fun e1 => hkb (h.inj k b ck cs cb base' base hk hb h2 (by rw [e1]; exact hρ))
        exact .inr ⟨cb, base', c', e', h2, h3, ⟨fz4, hf4, by rw [ho cb hne]; exact h4⟩, h5, fun i x hx' => (h6 i x hx').mono hx⟩
  · intro k k' ck ck' cb b1 b2 hk hk'
    rw [Heap.get_del] at hk hk'
    split at hk
    · cases hk
    · split at hk'
      · cases hk'
      · exact h.inj k k' ck ck' cb b1 b2 hk hk'
  · intro k cb base' hk
    obtain ⟨c1, e1, fz1, h1⟩ := h.at_ k cb base' hk
    obtain ⟨c2, fz2, h2, _⟩ := hx.blocks cb c1 e1 fz1 h1
    exact ⟨c2, e1, fz2, h2⟩
  · intro cb hcb
    have := h.irng cb hcb
    omega

/-- A row that is grown no more is kept. -/
theorem scode_freeze_grown {P : Program} {sz : Nat} {c : Code} {Q : Exit → Env → Heap → Prop} {env : Env} {H : Heap} (i : Nat) {x : AV} {n k : Nat} {cs : List AV} {bo : Option Nat} (hi : env i = x) (hg : grown H k x = some (n, cs, bo))
    (h : SCode P sz c Q (env.upd (some i) (.vs n k cs)) (H.delo bo)) : SCode P sz c Q env H := by
  refine scode_freeze (H' := H.delo bo) (H.delo_le bo) (H.delo_next bo).symm (fun j => ?_) h
  by_cases hj : i = j
  · subst hj
    rw [upd_same, hi]
    refine grown_froz hg fun b hb => ?_
    subst hb
    show (H.del b).get b = none
    rw [Heap.get_del, if_pos rfl]
  · rw [upd_ne _ _ _ _ hj]
    exact .same _
end Go.Fl
end Fl49S

noncomputable section Fl50S
namespace Go.Fl
open Go

section
variable {P : Program} {sz : Nat} {ops : Array Oper}

theorem WStep_of {o : Oper} {env : Env} {H : Heap} {x : AV} {H' : Heap} {K : AV → Heap → Prop} (h : StepTo P o env H x H') (hk : K x H') : WStep P o env H K := by
  obtain ⟨dst, op, type, pos, after, guard⟩ := o
  unfold StepTo at h
  unfold WStep
  split at h
  · rename_i f args argTypes hop
    simp only at hop
    subst hop
    obtain ⟨k, first, captured, hf, hc⟩ := h
    simp only [hf]
    exact ⟨x, H', hc, hk⟩
  · rename_i hno
    split
    · rename_i f args argTypes hop
      simp only at hop
      exact absurd hop (hno _ _ _)
    · rw [h]; exact hk

theorem wdraw_tail {bf : List Nat} {Q : Exit → Env → Heap → Prop} : ∀ (rest : List Oper) (i : Nat) (st : List (Nat × Heap)) (ld : List (Nat × Oper × Env × AV)) (env : Env) (H : Heap),
    (∀ o ∈ rest, isL o = false) → (∀ y q e x, (y, q, e, x) ∈ ld → ∀ j, i ≤ j → j < i + rest.length → befL bf y j = true) → WOps P ops Q rest env H → WDraw P ops bf i rest st ld Q env H
  | [], i, st, ld, env, H, _, _, h => h
  | o :: rest, i, st, ld, env, H, hL, hld, h => by
    have hLo := hL o List.mem_cons_self
    have hL' : ∀ o ∈ rest, isL o = false := fun o ho => hL o (List.mem_cons_of_mem _ ho)
    have hld' : ∀ y q e x, (y, q, e, x) ∈ ld → ∀ j, i + 1 ≤ j → j < i + 1 + rest.length → befL bf y j = true := fun y q e x hm j h1 h2 => hld y q e x hm j (by omega) (by simp only [List.length_cons]; omega)
    have hl : ∀ (l : List (Nat × Oper × Env × AV)), (∀ y q e x, (y, q, e, x) ∈ l → befL bf y i = true) → ∀ H', ldOk P bf i H' l := by
      intro l
      induction l with
      | nil => intro _ _; trivial
      | cons a l ih =>
        obtain ⟨y, q, e, x⟩ := a
        intro hl H'
        exact ⟨.inl (hl y q e x List.mem_cons_self), ih (fun y q e x hm => hl y q e x (List.mem_cons_of_mem _ hm)) H'⟩
    have hli := hl ld fun y q e x hm => hld y q e x hm i (Nat.le_refl _) (by simp)
    have h1 := WOp_cases h
    simp only [WDraw]
    rcases h1 with ⟨ha, hk⟩ | ⟨ha, x, H', hst, hk⟩
    · simp only [ha]
      exact wdraw_tail rest _ st ld _ H hL' hld' hk
    · simp only [ha]
      by_cases hp : isP o = true
      · simp only [hp, if_true]
        have hc : isC o = false := by simp [isC, hp]
        have hx := StepTo_aop hc hst
        obtain ⟨rfl, _⟩ := aop_pure hp hx
        simp only [hx]
        exact wdraw_tail rest _ st ld _ _ hL' hld' hk
      · simp only [hp, hLo, Bool.false_eq_true, if_false]
        exact WStep_of hst ⟨hli H', wdraw_tail rest _ _ ld _ _ hL' hld' hk⟩

theorem wdraw_s_tail {bf : List Nat} {Q : Exit → Env → Heap → Prop} {l2 : List Oper} (hL2 : ∀ o ∈ l2, isL o = false) : ∀ (l1 : List Oper) (i : Nat) (st : List (Nat × Heap)) (ld : List (Nat × Oper × Env × AV)) (env : Env) (H : Heap),
    (∀ c Hc, (c, Hc) ∈ st → Hc = H) → (∀ y q e x, (y, q, e, x) ∈ ld → aop P q (aev e) H = some (x, H) ∧ ∀ j, i + l1.length ≤ j → j < i + l1.length + l2.length → befL bf y j = true) →
    (∀ (m : Nat) (o : Oper), l1[m]? = some o → isL o = true → ∀ j, i + l1.length ≤ j → j < i + l1.length + l2.length → befL bf (i + m) j = true) →
    WSOps P ops (thenA (WOps P ops Q l2) Q) l1 env H → WDraw P ops bf i (l1 ++ l2) st ld Q env H
  | [], i, st, ld, env, H, _, hld, _, h => wdraw_tail l2 i st ld env H hL2 (fun y q e x hm j h1 h2 => (hld y q e x hm).2 j (by simpa using h1) (by simpa using h2)) h
  | o :: rest, i, st, ld, env, H, hst, hld, hB, h => by
    have hl : ∀ (l : List (Nat × Oper × Env × AV)), (∀ y q e x, (y, q, e, x) ∈ l → aop P q (aev e) H = some (x, H)) → ldOk P bf i H l := by
      intro l
      induction l with
      | nil => intro _; trivial
      | cons a l ih =>
        obtain ⟨y, q, e, x⟩ := a
        intro hl
        exact ⟨.inr (hl y q e x List.mem_cons_self), ih (fun y q e x hm => hl y q e x (List.mem_cons_of_mem _ hm))⟩
    have hld1 : ∀ y q e x, (y, q, e, x) ∈ ld → aop P q (aev e) H = some (x, H) ∧ ∀ j, i + 1 + rest.length ≤ j → j < i + 1 + rest.length + l2.length → befL bf y j = true := fun y q e x hm =>
      ⟨(hld y q e x hm).1, fun j h1 h2 => (hld y q e x hm).2 j (by simp only [List.length_cons]; omega) (by simp only [List.length_cons]; omega)⟩
    have hB1 : ∀ (m : Nat) (o : Oper), rest[m]? = some o → isL o = true → ∀ j, i + 1 + rest.length ≤ j → j < i + 1 + rest.length + l2.length → befL bf (i + 1 + m) j = true := fun m o hm hLo j h1 h2 => by
      have := hB (m + 1) o (by simpa using hm) hLo j (by simp only [List.length_cons]; omega) (by simp only [List.length_cons]; omega)
      rwa [show i + (m + 1) = i + 1 + m by omega] at this
    simp only [WSOps, WSOp] at h
    simp only [List.cons_append, WDraw]
    cases ha : awanted ops o env with
    | none => simp only [ha] at h
    | some b =>
      cases b with
      | false => simp only [ha] at h ⊢; exact wdraw_s_tail hL2 rest _ st ld _ H hst hld1 hB1 h
      | true =>
        simp only [ha] at h ⊢
        by_cases hp : isP o = true
        · simp only [hp, if_true] at h ⊢
          cases hx : aop P o (aev env) H with
          | none => simp only [hx] at h
          | some y => simp only [hx] at h ⊢; exact wdraw_s_tail hL2 rest _ st ld _ H hst hld1 hB1 h
        · by_cases hL : isL o = true
          · simp only [hp, hL, if_true, Bool.false_eq_true, if_false] at h ⊢
            cases hx : aop P o (aev env) H with
            | none => simp only [hx] at h
            | some y =>
              obtain ⟨x, H'⟩ := y
              simp only [hx] at h ⊢
              obtain ⟨rfl, h⟩ := h
              refine ⟨?_, wdraw_s_tail hL2 rest _ st _ _ _ hst ?_ hB1 h⟩
              · have : ∀ (l : List (Nat × Heap)), (∀ c Hc, (c, Hc) ∈ l → Hc = H') → stOk P bf i o env x l := by
                  intro l
                  induction l with
                  | nil => intro _; trivial
                  | cons a l ih =>
                    intro hl
                    obtain ⟨c, Hc⟩ := a
                    refine ⟨.inr ?_, ih fun c Hc hm => hl c Hc (List.mem_cons_of_mem _ hm)⟩
                    rw [hl c Hc List.mem_cons_self]
                    exact hx
                exact this st hst
              · intro y q e x' hm
                rcases List.mem_cons.1 hm with e1 | hm
                · cases e1
                  exact ⟨hx, fun j h1 h2 => by
                    have := hB 0 o rfl hL j (by simp only [List.length_cons]; omega) (by simp only [List.length_cons]; omega)
                    rwa [Nat.add_zero] at this⟩
                · exact hld1 y q e x' hm
          · simp only [hp, hL, Bool.false_eq_true, if_false] at h ⊢
            refine h.mono fun x H' h' => ?_
            obtain ⟨rfl, h'⟩ := h'
            refine ⟨hl ld fun y q e x hm => (hld y q e x hm).1, wdraw_s_tail hL2 rest _ _ ld _ _ ?_ hld1 hB1 h'⟩
            intro c Hc hm
            rcases List.mem_cons.1 hm with e1 | hm
            · cases e1; rfl
            · exact hst c Hc hm

def tailB (ops : Array Oper) (bf : List Nat) (n : Nat) : Bool :=
  Nat.ble n ops.size && (ops.toList.drop n).all (fun o => !isL o) && (List.range n).all fun y => match ops[y]? with
    | some q => !isL q || (List.range (ops.size - n)).all fun j => befL bf y (n + j)
    | none => true

theorem scode_drawST {id : Nat} {bf : List Nat} {Q : Exit → Env → Heap → Prop} {env : Env} {H : Heap} (n : Nat) (hm : P.follows .mixedOrders = true) (hk : drawOk sz ops = true) (hbf : Region.before ops = bf.toArray) (ht : tailB ops bf n = true)
    (h : ∀ K : Env → Heap → Prop, (∀ env H, WOps P ops Q (ops.toList.drop n) env H → K env H) → WSOps P ops (thenA K Q) (ops.toList.take n) env H) : SCode P sz (.region id ops true) Q env H := by
  unfold tailB at ht
  simp only [Bool.and_eq_true, Nat.ble_eq, List.all_eq_true, List.mem_range] at ht
  obtain ⟨⟨h1, h2⟩, h3⟩ := ht
  have hlen : (ops.toList.take n).length = n := by rw [List.length_take, Array.length_toList]; omega
  have hlen2 : (ops.toList.drop n).length = ops.size - n := by rw [List.length_drop, Array.length_toList]
  refine scode_draw (bf := bf) hm hk hbf ?_
  have := wdraw_s_tail (P := P) (ops := ops) (bf := bf) (Q := Q) (l2 := ops.toList.drop n) (fun o ho => by simpa using h2 o ho) (ops.toList.take n) 0 [] [] env H (fun c Hc hm => by cases hm) (fun y q e x hm => by cases hm)
    (fun m o hm hL j j1 j2 => by
      rw [hlen] at j1
      rw [hlen, hlen2] at j2
      have hmn : m < n := by
        have := (List.getElem?_eq_some_iff.1 hm).1
        rw [hlen] at this; exact this
      rw [List.getElem?_take_of_lt hmn, Array.getElem?_toList] at hm
      have h4 := h3 m hmn
      rw [hm] at h4
      simp only [hL, Bool.not_true, Bool.false_or, List.all_eq_true, List.mem_range] at h4
      have := h4 (j - n) (by omega)
      rw [show n + (j - n) = j by omega] at this
      rw [Nat.zero_add]
      exact this) (h _ fun _ _ h => h)
  rwa [List.take_append_drop] at this
end
end Go.Fl
end Fl50S
