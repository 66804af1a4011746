/- Knowing less: numbers of which the kind alone is kept, blocks that are forgotten. -/
import Derived.Test.YtfmpakmigmehkaaGreatDoorFl39
import Derived.Test.YtfmpakmigmehkaaGreatDoorFl34
set_option linter.unusedVariables false
set_option linter.unusedSimpArgs false
noncomputable section Fl43S
namespace Go.Fl
open Go

/-- y says no more than x. -/
inductive Wk : AV → AV → Prop
  | same (x : AV) : Wk x x
  | ai (k : IntKind) (n : Int) : Wk (.sc (.int k n)) (.ai k)
  | ty (t : TypeId) (n : Nat) (x : AV) : Wk (.ty t n x) x
  | tyNil (t : TypeId) (n : Nat) : Wk .nil (.ty t n .nil)
  | top (x : AV) : Wk x .top

theorem Wk.vr {ρ : Rho} {I : Nat → Prop} {hp : Array Obj} {x y : AV} (h : Wk x y) {v : Value} (hv : VR ρ I hp x v) : VR ρ I hp y v := by
  cases h with
  | same => exact hv
  | ai k n => cases hv.eq_sc; exact .ai k n
  | ty t n x => cases hv with | ty h1 h2 => exact h1
  | tyNil t n => cases hv.eq_sc; exact .ty (.sc _) trivial
  | top => exact .top _

/-- H' says no more than H. -/
def HW (H' H : Heap) : Prop := H.next ≤ H'.next ∧ ∀ b cs', H'.get b = some cs' → ∃ cs, H.get b = some cs ∧ cs'.length = cs.length ∧ ∀ (i : Nat) (x x' : AV), cs[i]? = some x → cs'[i]? = some x' → Wk x x'

theorem Rel.weak {ρ : Rho} {I : Nat → Prop} {H H' : Heap} {hp : Array Obj} (h : Rel ρ I H hp) (hw : HW H' H) : Rel ρ I H' hp where
  live b cs' hb := by
    obtain ⟨cs, h1, h2, h3⟩ := hw.2 b cs' hb
    rcases h.live b cs h1 with ⟨k1, rfl⟩ | ⟨cb, base, c, e, k1, k2, k3, k4, k5⟩
    · exact .inl ⟨k1, List.length_eq_zero_iff.1 h2⟩
    · refine .inr ⟨cb, base, c, e, k1, k2, k3, by omega, fun i x' hx' => ?_⟩
      have hi := (List.getElem?_eq_some_iff.1 hx').1
      rw [h2] at hi
      exact (h3 i _ x' (List.getElem?_eq_getElem hi) hx').vr (k5 i _ (List.getElem?_eq_getElem hi))
  inj b b' cs cs' cb base base' hb hb' := by
    obtain ⟨c1, h1, _⟩ := hw.2 b cs hb
    obtain ⟨c2, h2, _⟩ := hw.2 b' cs' hb'
    exact h.inj b b' c1 c2 cb base base' h1 h2
  rng b p hb := Nat.lt_of_lt_of_le (h.rng b p hb) hw.1
  at_ := h.at_
  irng := h.irng
  glob := h.glob

theorem scode_weak {P : Program} {sz : Nat} {c : Code} {Q : Exit → Env → Heap → Prop} {env env' : Env} {H H' : Heap} (hw : HW H' H) (he : ∀ i, Wk (env i) (env' i)) (h : SCode P sz c Q env' H') : SCode P sz c Q env H :=
  fun ρ I w a Q' hr hel hq => h ρ I w a Q' (hr.weak hw) ⟨hel.size, hel.defers, fun i => (he i).vr (hel.val i), hel.glob⟩ hq

inductive WkL : List AV → List AV → Prop
  | nil : WkL [] []
  | cons {x y : AV} {xs ys : List AV} : Wk x y → WkL xs ys → WkL (x :: xs) (y :: ys)
theorem WkL.get {xs ys : List AV} (h : WkL xs ys) : ys.length = xs.length ∧ ∀ (i : Nat) (x y : AV), xs[i]? = some x → ys[i]? = some y → Wk x y := by
  induction h with
  | nil => exact ⟨rfl, fun i x y hx => by simp at hx⟩
  | cons h1 _ ih =>
    refine ⟨by simp [ih.1], fun i x y hx hy => ?_⟩
    cases i with
    | zero => simp at hx hy; subst hx; subst hy; exact h1
    | succ i => exact ih.2 i x y (by simpa using hx) (by simpa using hy)

theorem scalls_weak {P : Program} {f : FuncId} {args args' : List AV} {H H' : Heap} {r : AV} {H2 : Heap} (hw : HW H' H) (ha : WkL args args') (h : SCalls P f args' H' r H2) : SCalls P f args H r H2 := by
  refine ⟨h.1, Nat.le_trans hw.1 h.2.1, fun ρ I w cargs hr hv => h.2.2 ρ I w cargs (hr.weak hw) ?_⟩
  obtain ⟨hl, hg⟩ := ha.get
  refine ⟨by rw [hl]; exact hv.1, fun i y hy => ?_⟩
  have hi := (List.getElem?_eq_some_iff.1 hy).1
  rw [hl] at hi
  exact (hg i _ y (List.getElem?_eq_getElem hi) hy).vr (hv.2 i _ (List.getElem?_eq_getElem hi))

theorem HW.refl (H : Heap) : HW H H := ⟨Nat.le_refl _, fun b cs h => ⟨cs, h, rfl, fun i x x' hx hx' => by rw [hx] at hx'; cases hx'; exact .same _⟩⟩
theorem HW.of_le {H H' : Heap} (h : H'.le H) (hn : H.next ≤ H'.next) : HW H' H := ⟨hn, fun b cs hb => ⟨cs, h b cs hb, rfl, fun i x x' hx hx' => by rw [hx] at hx'; cases hx'; exact .same _⟩⟩

/-- So many numbers of a kind. -/
def ais (k : IntKind) (n : Nat) : List AV := List.replicate n (.ai k)
theorem ais_len (k : IntKind) (n : Nat) : (ais k n).length = n := List.length_replicate
theorem ais_get {k : IntKind} {n i : Nat} {x : AV} (h : (ais k n)[i]? = some x) : x = .ai k := by
  unfold ais at h
  rw [List.getElem?_replicate] at h
  split at h
  · cases h; rfl
  · cases h
theorem ais_lt (k : IntKind) (n m : Nat) : ∀ x ∈ ais k n, x.Lt m := fun x hx => by rw [(List.mem_replicate.1 hx).2]; exact .ai k

/-- A cell that is a number of that kind. -/
def isK (k : IntKind) (x : AV) : Prop := (∃ n, x = .sc (.int k n)) ∨ x = .ai k
theorem isK.wk {k : IntKind} {x : AV} (h : isK k x) : Wk x (.ai k) := by
  rcases h with ⟨n, rfl⟩ | rfl
  · exact .ai k n
  · exact .same _
theorem isK.leaf {k : IntKind} {x : AV} (h : isK k x) : x.leaf = true := by
  rcases h with ⟨n, rfl⟩ | rfl <;> rfl
theorem isK.froz {k : IntKind} {x : AV} (h : isK k x) {H : Heap} {d : Nat → Prop} : Froz H d x (.ai k) := by
  rcases h with ⟨n, rfl⟩ | rfl
  · exact .ai k n
  · exact .same _
theorem isK.lt {k : IntKind} {x : AV} (h : isK k x) (n : Nat) : x.Lt n := by
  rcases h with ⟨m, rfl⟩ | rfl
  · exact .sc _
  · exact .ai k
theorem isK.aint {k : IntKind} {x : AV} (h : isK k x) : aint x = some k := by
  rcases h with ⟨m, rfl⟩ | rfl <;> rfl
def allK (k : IntKind) (cs : List AV) : Prop := ∀ x ∈ cs, isK k x
theorem allK.append {k : IntKind} {a b : List AV} (h1 : allK k a) (h2 : allK k b) : allK k (a ++ b) := fun x hx => by
  rcases List.mem_append.1 hx with h | h
  · exact h1 x h
  · exact h2 x h
theorem allK.wk {k : IntKind} {cs : List AV} (h : allK k cs) {n : Nat} (hn : cs.length = n) : (ais k n).length = cs.length ∧ ∀ (i : Nat) (x x' : AV), cs[i]? = some x → (ais k n)[i]? = some x' → Wk x x' :=
  ⟨by rw [ais_len, hn], fun i x x' hx hx' => by rw [ais_get hx']; exact (h x (List.mem_of_getElem? hx)).wk⟩
theorem allK.all_leaf {k : IntKind} {cs : List AV} (h : allK k cs) : cs.all AV.leaf = true := List.all_eq_true.2 fun x hx => (h x hx).leaf

/-- A row of numbers of which the kind alone is known. -/
def aiA (k : IntKind) (n : Nat) : AV := .vs n 1 (ais k n)
theorem aiA_lt (k : IntKind) (n m : Nat) : (aiA k n).Lt m := .vs (ais_lt k n m)

theorem froz_row {k : IntKind} {H : Heap} {d : Nat → Prop} {b n : Nat} {cs : List AV} (h1 : H.get b = some cs) (h2 : d b) (h3 : cs.length = n) (h4 : allK k cs) : Froz H d (.ms b 0 n 1) (aiA k n) := by
  refine .ms h1 h2 (by omega) (by rw [ais_len]; omega) (fun i x y hx hy => ?_)
  rw [ais_get hx]
  rw [Nat.zero_add] at hy
  exact (h4 y (List.mem_of_getElem? hy)).froz

theorem froz_grown {k : IntKind} {H : Heap} {d : Nat → Prop} {s : AV} {n : Nat} {cs : List AV} {bo : Option Nat} (h : grown H 1 s = some (n, cs, bo)) (hd : ∀ b, bo = some b → d b) (h4 : allK k cs) : Froz H d s (aiA k n) := by
  have hl := grown_size h
  rcases grown_cases h with ⟨rfl, rfl, rfl, _⟩ | ⟨b, off, rfl, rfl, c, h1, h2, rfl⟩
  · exact .nil 1
  · refine .ms h1 (hd b rfl) (by omega) (by rw [ais_len]; omega) (fun i x y hx hy => ?_)
    rw [ais_get hx]
    have : (c.drop off)[i]? = some y := by rw [List.getElem?_drop]; exact hy
    exact (h4 y (List.mem_of_getElem? this)).froz

/-- The evaluator over a heap with one block: its outcome is plain, and so is the block. -/
def oneB (cells : List AV) : Option (AV × Heap) → Bool
  | some (.tup [], H) => (match H.get 0 with
    | some cs => sameL deep cs cells
    | none => false)
  | _ => false

theorem ecall_one {P : Program} {fs : List FuncId} (hm : P.follows .mixedOrders = true) (hfs : ∀ f ∈ fs, Enters P f) (n : Nat) {f : FuncId} {args cs0 cells : List AV} (h : oneB cells (ecall P fs n f args (Heap.one cs0)) = true) :
    ∃ H', SCalls P f args (Heap.one cs0) (.tup []) H' ∧ H'.get 0 = some cells := by
  unfold oneB at h
  split at h
  · rename_i H hu
    split at h
    · rename_i cs hg
      rw [(same_eq _).2 _ _ h] at hg
      exact ⟨H, ecall_sound hm hfs n _ _ _ _ _ hu, hg⟩
    · cases h
  · cases h
/-- What is to hold behind code, out of sight. -/
theorem scode_hide {P : Program} {sz : Nat} {c : Code} {Q : Exit → Env → Heap → Prop} {env : Env} {H : Heap} (h : ∀ K : Env → Heap → Prop, (∀ env H, Q .normal env H → K env H) → SCode P sz c (thenA K Q) env H) : SCode P sz c Q env H :=
  (h (Q .normal) fun _ _ h => h).mono fun e env H hq => by cases e <;> exact hq
@[go_sem] theorem srun_shiftr {P : Program} {k k' : IntKind} {a b : Int} (h : 0 ≤ b) : srun P (Op.shift .shr k a k' b) = some (.int k (bshr k a b)) := by
  simp only [Op.shift]; rw [if_neg (by omega)]; rfl
@[go_sem] theorem srun_shiftl {P : Program} {k k' : IntKind} {a b : Int} (h : 0 ≤ b) : srun P (Op.shift .shl k a k' b) = some (.int k (bshl k a b)) := by
  simp only [Op.shift]; rw [if_neg (by omega)]; rfl
@[go_sem] theorem zrep1 (a : AV) : zrep [a] 1 = [a] := by kernel_rfl
@[go_sem] theorem zrep2 (a b : AV) : zrep [a, b] 2 = [a, b] := by kernel_rfl
@[go_sem] theorem zrep1_2 (a : AV) : zrep [a] 2 = [a, a] := by kernel_rfl
@[go_sem] theorem zrep1_4 (a : AV) : zrep [a] 4 = [a, a, a, a] := by kernel_rfl
@[go_sem] theorem zrep7 (a b c d e f g : AV) : zrep [a, b, c, d, e, f, g] 7 = [a, b, c, d, e, f, g] := by kernel_rfl
@[go_sem] theorem zrep7_2 (a b c d e f g : AV) : zrep [a, b, c, d, e, f, g] 14 = [a, b, c, d, e, f, g, a, b, c, d, e, f, g] := by kernel_rfl
end Go.Fl
end Fl43S

noncomputable section Fl44S
namespace Go.Fl
open Go

/-- A heap of these blocks. -/
def Heap.many (cs : List (List AV)) : Heap := cs.foldl Heap.alloc Heap.empty

theorem many_fold : ∀ (cs : List (List AV)) (H : Heap), (cs.foldl Heap.alloc H).next = H.next + cs.length ∧ ∀ i, (cs.foldl Heap.alloc H).get i = if i < H.next then H.get i else cs[i - H.next]?
  | [], H => ⟨rfl, fun i => by
    split
    · rfl
    · rename_i h; simp only [List.foldl_nil, List.getElem?_nil]; exact H.wf i (by omega)⟩
  | c :: r, H => by
    obtain ⟨h1, h2⟩ := many_fold r (H.alloc c)
    refine ⟨by simp only [List.foldl_cons, h1, Heap.next_alloc, List.length_cons]; omega, fun i => ?_⟩
    simp only [List.foldl_cons, h2, Heap.next_alloc, Heap.get_alloc]
    by_cases e1 : i < H.next
    · rw [if_pos (by omega), if_neg (by omega), if_pos e1]
    · rw [if_neg e1]
      by_cases e2 : i = H.next
      · subst e2; rw [if_pos (by omega), if_pos rfl, Nat.sub_self]; rfl
      · rw [if_neg (by omega)]
        have : i - H.next = (i - (H.next + 1)) + 1 := by omega
        rw [this, List.getElem?_cons_succ]

theorem many_get (cs : List (List AV)) (i : Nat) : (Heap.many cs).get i = cs[i]? := by
  have := (many_fold cs Heap.empty).2 i
  rw [if_neg (by exact Nat.not_lt_zero i)] at this
  exact this
theorem many_next (cs : List (List AV)) : (Heap.many cs).next = cs.length := by
  exact (many_fold cs Heap.empty).1.trans (Nat.zero_add _)

/-- y, where the i-th of those blocks is block i, is x (or x says less). -/
inductive Ren (bs : List Nat) : AV → AV → Prop
  | ptr {i b : Nat} (o : Nat) : bs[i]? = some b → Ren bs (.ptr i o) (.ptr b o)
  | ms {i b : Nat} (off len sz : Nat) : bs[i]? = some b → Ren bs (.ms i off len sz) (.ms b off len sz)
  | plain {x y : AV} : y.Lt 0 → Wk y x → Ren bs x y
  | top (y : AV) : Ren bs .top y

/-- x, where block i is the i-th of those blocks, is y (or y says less). -/
inductive Bak (bs : List Nat) : AV → AV → Prop
  | ptr {i b : Nat} (o : Nat) : bs[i]? = some b → Bak bs (.ptr i o) (.ptr b o)
  | ms {i b : Nat} (off len sz : Nat) : bs[i]? = some b → Bak bs (.ms i off len sz) (.ms b off len sz)
  | plain {x y : AV} : x.Lt 0 → Wk x y → Bak bs x y
  | top (x : AV) : Bak bs x .top

def Heap.setAll (H : Heap) : List (Nat × List AV) → Heap
  | [] => H
  | (b, c) :: r => (H.set b c).setAll r

theorem setAll_next : ∀ (l : List (Nat × List AV)) (H : Heap), (H.setAll l).next = H.next
  | [], _ => rfl
  | (b, c) :: r, H => by simp only [Heap.setAll]; rw [setAll_next r]; rfl
theorem setAll_other : ∀ (l : List (Nat × List AV)) (H : Heap) (k : Nat), (∀ p ∈ l, p.1 ≠ k) → (H.setAll l).get k = H.get k
  | [], _, _, _ => rfl
  | (b, c) :: r, H, k, h => by
    simp only [Heap.setAll]
    rw [setAll_other r _ k fun p hp => h p (List.mem_cons_of_mem _ hp), Heap.get_set, if_neg (fun e => h (b, c) List.mem_cons_self e.symm)]
theorem setAll_at : ∀ (l : List (Nat × List AV)) (H : Heap) (i b : Nat) (c : List AV), (l.map Prod.fst).Nodup → l[i]? = some (b, c) → (∃ c0, H.get b = some c0) → (H.setAll l).get b = some c
  | [], _, i, b, c, _, h, _ => by simp at h
  | (b', c') :: r, H, 0, b, c, hn, h, ⟨c0, h0⟩ => by
    simp only [List.getElem?_cons_zero, Option.some.injEq, Prod.mk.injEq] at h
    obtain ⟨rfl, rfl⟩ := h
    simp only [List.map_cons, List.nodup_cons] at hn
    simp only [Heap.setAll]
    rw [setAll_other r _ _ (fun p hp e => hn.1 (by rw [← e]; exact List.mem_map_of_mem hp)), Heap.get_set, if_pos rfl, h0]; rfl
  | (b', c') :: r, H, i + 1, b, c, hn, h, ⟨c0, h0⟩ => by
    simp only [List.map_cons, List.nodup_cons] at hn
    simp only [Heap.setAll]
    refine setAll_at r _ i b c hn.2 h ⟨c0, ?_⟩
    have hm : b ∈ r.map Prod.fst := List.mem_map_of_mem (f := Prod.fst) (List.mem_of_getElem? (i := i) (by simpa using h))
    rw [Heap.get_set, if_neg (fun e => hn.1 (by rw [← e]; exact hm)), h0]

theorem scode_local {P : Program} {sz : Nat} {c : Code} {ex : Exit} {env0 env1 env : Env} {cs0 cs1 : List (List AV)} {bs : List Nat} {H : Heap} {Q : Exit → Env → Heap → Prop}
    (hlen0 : cs0.length = bs.length) (hlen1 : cs1.length = bs.length) (hnd : bs.Nodup)
    (hH : ∀ (i b : Nat) (c0 : List AV), bs[i]? = some b → cs0[i]? = some c0 → ∃ c, H.get b = some c ∧ c0.length = c.length ∧ ∀ (j : Nat) (x x' : AV), c[j]? = some x → c0[j]? = some x' → x.Lt 0 ∧ Wk x x')
    (hp1 : ∀ c ∈ cs1, ∀ x ∈ c, x.Lt 0)
    (he : ∀ s, s < sz → Ren bs (env0 s) (env s)) (hu : ∀ s, sz ≤ s → env0 s = .undef)
    (h : SCode P sz c (fun e env' H' => e = ex ∧ (∀ (i : Nat) (c1 : List AV), cs1[i]? = some c1 → H'.get i = some c1) ∧ ∀ s, Bak bs (env' s) (env1 s)) env0 (Heap.many cs0))
    (hq : Q ex env1 (H.setAll (bs.zip cs1))) : SCode P sz c Q env H := by
  intro ρ I w a Q' hrel hel hQ'
  let ρ0 : Rho := fun i => (bs[i]?).bind ρ
  have hρ0 : ∀ i p, ρ0 i = some p → ∃ b, bs[i]? = some b ∧ ρ b = some p := by
    intro i p hi
    simp only [ρ0, Option.bind_eq_some_iff] at hi
    exact hi
  have hbs : ∀ (i b : Nat), bs[i]? = some b → ∃ c0, cs0[i]? = some c0 := by
    intro i b hb
    have := (List.getElem?_eq_some_iff.1 hb).1
    exact ⟨_, List.getElem?_eq_getElem (by omega)⟩
  have inj : ∀ (i j b : Nat), bs[i]? = some b → bs[j]? = some b → i = j := by
    intro i j b hi hj
    have h1 := (List.getElem?_eq_some_iff.1 hi).1
    exact (List.getElem?_inj h1 hnd).1 (hi.trans hj.symm)
  have hrel0 : Rel ρ0 I (Heap.many cs0) w.heap := by
    refine ⟨?_, ?_, ?_, ?_, hrel.irng, hrel.glob⟩
    · intro i c0 hi
      rw [many_get] at hi
      have hlt := (List.getElem?_eq_some_iff.1 hi).1
      have hb : bs[i]? = some (bs[i]'(by omega)) := List.getElem?_eq_getElem (by omega)
      obtain ⟨cc, h1, h2, h3⟩ := hH i _ c0 hb hi
      have e0 : ρ0 i = ρ (bs[i]'(by omega)) := by simp only [ρ0, hb, Option.bind_some]
      rcases hrel.live _ _ h1 with ⟨k1, rfl⟩ | ⟨cb, base, c', e', k1, k2, k3, k4, k5⟩
      · exact .inl ⟨by rw [e0]; exact k1, List.length_eq_zero_iff.1 h2⟩
      · refine .inr ⟨cb, base, c', e', by rw [e0]; exact k1, k2, k3, by omega, fun j x' hx' => ?_⟩
        have hj := (List.getElem?_eq_some_iff.1 hx').1
        rw [h2] at hj
        obtain ⟨l1, l2⟩ := h3 j _ x' (List.getElem?_eq_getElem hj) hx'
        exact l2.vr ((k5 j _ (List.getElem?_eq_getElem hj)).plain l1)
    · intro i j c1 c2 cb base base' hi hj h1 h2
      obtain ⟨b1, l1, m1⟩ := hρ0 _ _ h1
      obtain ⟨b2, l2, m2⟩ := hρ0 _ _ h2
      obtain ⟨c01, n1⟩ := hbs _ _ l1
      obtain ⟨c02, n2⟩ := hbs _ _ l2
      obtain ⟨_, o1, _⟩ := hH _ _ _ l1 n1
      obtain ⟨_, o2, _⟩ := hH _ _ _ l2 n2
      have := hrel.inj _ _ _ _ _ _ _ o1 o2 m1 m2
      subst this
      exact inj _ _ _ l1 l2
    · intro i p hi
      obtain ⟨b, l1, _⟩ := hρ0 _ _ hi
      have := (List.getElem?_eq_some_iff.1 l1).1
      rw [many_next]; omega
    · intro i cb base hi
      obtain ⟨b, _, m1⟩ := hρ0 _ _ hi
      exact hrel.at_ b cb base m1
  have hel0 : ERel sz ρ0 I w.heap env0 a := ⟨hel.size, hel.defers, fun s => by
    rcases Nat.lt_or_ge s sz with hlt | hge
    case inr =>
      rw [hu s hge]
      have e : a.tmps.getD s Go.undef = Go.undef := by
        rw [Array.getD_eq_getD_getElem?, Array.getElem?_eq_none (by rw [hel.size]; exact hge)]; rfl
      rw [e]; exact .sc _
    have hv := hel.val s
    generalize a.tmps.getD s Go.undef = u at hv
    have hs := he s hlt
    generalize env0 s = x at hs
    generalize env s = y at hs hv
    cases hs with
    | ptr o hb =>
      cases hv with
      | ptr k => exact .ptr (by simp only [ρ0, hb, Option.bind_some]; exact k)
    | ms off len sz' hb =>
      cases hv with
      | ms k1 k2 k3 k4 => exact .ms (by simp only [ρ0, hb, Option.bind_some]; exact k1) k2 k3 k4
      | ms0 k => exact .ms0 (by simp only [ρ0, hb, Option.bind_some]; exact k)
    | plain hl hw => exact hw.vr (hv.plain hl)
    | top => exact .top _, hel.glob⟩
  refine h ρ0 I w a Q' hrel0 hel0 ?_
  rintro e a' w' ⟨env', H0', ρ', I', ⟨rfl, hc1, hbk⟩, hr', he', hx⟩
  refine hQ' _ _ _ ⟨env1, H.setAll (bs.zip cs1), ρ, I', hq, ?_, ?_, ?_⟩
  · have hzip : (bs.zip cs1).map Prod.fst = bs := List.map_fst_zip (by omega)
    have hset : ∀ (k : Nat) (ck : List AV), (H.setAll (bs.zip cs1)).get k = some ck → (∃ i : Nat, bs[i]? = some k ∧ cs1[i]? = some ck) ∨ ((∀ i : Nat, bs[i]? ≠ some k) ∧ H.get k = some ck) := by
      intro k ck hk
      by_cases hmem : k ∈ bs
      · obtain ⟨i, hi, rfl⟩ := List.getElem_of_mem hmem
        have hb : bs[i]? = some bs[i] := List.getElem?_eq_getElem hi
        have hc : cs1[i]? = some (cs1[i]'(by omega)) := List.getElem?_eq_getElem (by omega)
        obtain ⟨c0, n0⟩ := hbs _ _ hb
        obtain ⟨c', o1, _⟩ := hH _ _ _ hb n0
        have hz : (bs.zip cs1)[i]? = some (bs[i], cs1[i]'(by omega)) := by
          rw [List.getElem?_zip_eq_some]; exact ⟨hb, hc⟩
        have := setAll_at _ H i _ _ (by rw [hzip]; exact hnd) hz ⟨_, o1⟩
        rw [this] at hk
        cases hk
        exact .inl ⟨i, hb, hc⟩
      · right
        refine ⟨fun i hi => hmem (List.mem_of_getElem? hi), ?_⟩
        rw [setAll_other _ H k] at hk
        · exact hk
        · intro p hp e
          have : p.1 ∈ (bs.zip cs1).map Prod.fst := List.mem_map_of_mem hp
          rw [hzip, e] at this
          exact hmem this
    have hset' : ∀ k ck, (H.setAll (bs.zip cs1)).get k = some ck → ∃ ck', H.get k = some ck' := by
      intro k ck hk
      rcases hset k ck hk with ⟨i, hi, _⟩ | ⟨_, h1⟩
      · obtain ⟨c0, n0⟩ := hbs _ _ hi
        obtain ⟨c', o1, _⟩ := hH _ _ _ hi n0
        exact ⟨_, o1⟩
      · exact ⟨_, h1⟩
    refine ⟨?_, ?_, ?_, ?_, hr'.irng, hr'.glob⟩
    · intro k ck hk
      rcases hset k ck hk with ⟨i, hi, hci⟩ | ⟨hno, hk'⟩
      · have hplain := hp1 ck (List.mem_of_getElem? hci)
        obtain ⟨c0, n0⟩ := hbs _ _ hi
        obtain ⟨c', o1, _⟩ := hH _ _ _ hi n0
        obtain ⟨p, hp⟩ : ∃ p, ρ k = some p := by
          rcases hrel.live _ _ o1 with k1 | ⟨cb, base, _, _, k1, _⟩
          · exact ⟨_, k1.1⟩
          · exact ⟨_, k1⟩
        have hp0 : ρ0 i = some p := by simp only [ρ0, hi, Option.bind_some]; exact hp
        have hp' := hx.rho _ _ hp0
        rcases hr'.live i _ (hc1 i _ hci) with h1 | ⟨cb, base, c2, e', k1, k2, k3, k4, k5⟩
        · left
          rw [hp'] at h1
          exact ⟨by rw [hp]; exact h1.1, h1.2⟩
        · right
          rw [hp'] at k1
          exact ⟨cb, base, c2, e', by rw [hp]; exact k1, k2, k3, k4, fun j x hx' => (k5 j x hx').plain (hplain x (List.mem_of_getElem? hx'))⟩
      · rcases hrel.live k ck hk' with h1 | ⟨cb, base, c2, e', k1, k2, k3, k4, k5⟩
        · exact .inl h1
        · have hno' : ∀ b0 base0, ρ0 b0 ≠ some (some (cb, base0)) := by
            intro i base0 h2
            obtain ⟨b, l1, m1⟩ := hρ0 _ _ h2
            obtain ⟨c0, n0⟩ := hbs _ _ l1
            obtain ⟨c', o1, _⟩ := hH _ _ _ l1 n0
            have := hrel.inj _ _ _ _ _ _ _ hk' o1 k1 m1
            subst this
            exact hno i l1
          obtain ⟨fz, hf, k3⟩ := k3
          have hlt : cb < w.heap.size := (Array.getElem?_eq_some_iff.1 k3).1
          refine .inr ⟨cb, base, c2, e', k1, fun hI => ?_, ⟨fz, hf, by rw [hx.frame cb hlt hno']; exact k3⟩, k4, fun j x hx' => (k5 j x hx').mono' (fun _ _ h => h) hx.imm hx.kept hx.blocks⟩
          rcases hx.newI cb hI with h1 | h1 | ⟨b0, base0, h1⟩
          · exact k2 h1
          · omega
          · exact hno' b0 base0 h1
    · intro k k' ck ck' cb base base' hk hk' h1 h2
      obtain ⟨_, hk⟩ := hset' k ck hk
      obtain ⟨_, hk'⟩ := hset' k' ck' hk'
      exact hrel.inj _ _ _ _ _ _ _ hk hk' h1 h2
    · intro k p hk
      rw [setAll_next]
      exact hrel.rng k p hk
    · intro k cb base hk
      obtain ⟨c2, e', fz, h1⟩ := hrel.at_ k cb base hk
      obtain ⟨c', fz', h2, _⟩ := hx.blocks cb c2 e' fz h1
      exact ⟨c', e', fz', h2⟩
  · refine ⟨he'.size, he'.defers, fun s => ?_, hr'.glob⟩
    have hv := he'.val s
    generalize a'.tmps.getD s Go.undef = u at hv
    have hs := hbk s
    generalize env' s = x at hs hv
    generalize env1 s = y at hs
    have hsome : ∀ (i b : Nat), bs[i]? = some b → ∃ p, ρ b = some p ∧ ρ' i = some p := by
      intro i b hi
      obtain ⟨c0, n0⟩ := hbs _ _ hi
      obtain ⟨c', o1, _⟩ := hH _ _ _ hi n0
      obtain ⟨p, hp⟩ : ∃ p, ρ b = some p := by
        rcases hrel.live _ _ o1 with k1 | ⟨cb, base, _, _, k1, _⟩
        · exact ⟨_, k1.1⟩
        · exact ⟨_, k1⟩
      exact ⟨p, hp, hx.rho _ _ (by simp only [ρ0, hi, Option.bind_some]; exact hp)⟩
    cases hs with
    | ptr o hb =>
      obtain ⟨p, q1, q2⟩ := hsome _ _ hb
      cases hv with
      | ptr k => rw [q2] at k; exact .ptr (by rw [q1]; exact k)
    | ms off len sz' hb =>
      obtain ⟨p, q1, q2⟩ := hsome _ _ hb
      cases hv with
      | ms k1 k2 k3 k4 => rw [q2] at k1; exact .ms (by rw [q1]; exact k1) k2 k3 k4
      | ms0 k => exact .ms0 q1
    | plain hl hw => exact hw.vr (hv.plain hl)
    | top => exact .top _
  · exact { rho := fun _ _ h => h
            imm := hx.imm
            size := hx.size
            kept := hx.kept
            blocks := hx.blocks
            frame := fun cb hlt hno => hx.frame cb hlt fun i base0 h2 => by
              obtain ⟨b, _, m1⟩ := hρ0 _ _ h2
              exact hno b base0 m1
            newI := fun cb hcb => by
              rcases hx.newI cb hcb with h1 | h1 | ⟨i, base0, h1⟩
              · exact .inl h1
              · exact .inr (.inl h1)
              · obtain ⟨b, _, m1⟩ := hρ0 _ _ h1
                exact .inr (.inr ⟨b, base0, m1⟩)
            newR := fun k cb base hk => .inl hk
            os := hx.os
            tape := hx.tape
            output := hx.output }
/-- What the evaluator's outcome shows. -/
theorem scode_proj {α : Type} {P : Program} {sz f : Nat} {c : Code} {Q : Exit → Env → Heap → Prop} {T0 : ET} {H : Heap} {call : ACall} (proj : Exit → ET → Heap → α) (x : α) (hm : P.follows .mixedOrders = true)
    (hc : ∀ k a H r H', call k a H = some (r, H') → SCalls P k a H r H') (h : (ecode call P sz f c T0 H).map (fun r => proj r.1 r.2.1 r.2.2) = some x) (hq : ∀ e T' H', proj e T' H' = x → Q e (ET.fn T') H') : SCode P sz c Q (ET.fn T0) H := by
  simp only [Option.map_eq_some_iff] at h
  obtain ⟨⟨e, T', H'⟩, h1, h2⟩ := h
  exact ecode_sound hm hc _ _ _ _ _ _ _ _ h1 (hq _ _ _ h2)

theorem scode_proj_env {α : Type} {P : Program} {sz f : Nat} {c : Code} {Q : Exit → Env → Heap → Prop} {env : Env} {H : Heap} {call : ACall} (l : List (Nat × AV)) (proj : Exit → ET → Heap → α) (x : α) (hm : P.follows .mixedOrders = true)
    (hc : ∀ k a H r H', call k a H = some (r, H') → SCalls P k a H r H') (hl : ∀ p ∈ l, p.1 < sz ∧ env p.1 = p.2) (h : (ecode call P sz f c (known sz l) H).map (fun r => proj r.1 r.2.1 r.2.2) = some x) (hq : ∀ e T' H', proj e T' H' = x → Q e (ET.fn T') H') : SCode P sz c Q env H := by
  simp only [Option.map_eq_some_iff] at h
  obtain ⟨⟨e, T', H'⟩, h1, h2⟩ := h
  exact scode_known l hm hc hl h1 (hq _ _ _ h2)

theorem ren_known {bs : List Nat} {sz : Nat} {env : Env} : ∀ (l : List (Nat × AV)), (∀ p ∈ l, Ren bs p.2 (env p.1)) → ∀ s, s < sz → Ren bs (ET.fn (known sz l) s) (env s)
  | [], _, s, hs => by
    have : ET.fn (known sz []) s = .top := by simp only [known, ET.fn, tops_get, if_pos hs]; rfl
    rw [this]; exact .top _
  | (k, x) :: r, h, s, hs => by
    have e : ET.fn (known sz ((k, x) :: r)) s = if s = k then x else ET.fn (known sz r) s := by
      simp only [known, ET.fn, Tr.get_put]
      split <;> rfl
    rw [e]
    split
    · rename_i e1; subst e1; exact h (s, x) List.mem_cons_self
    · exact ren_known r (fun p hp => h p (List.mem_cons_of_mem _ hp)) s hs
theorem known_undef {sz : Nat} : ∀ (l : List (Nat × AV)), (∀ p ∈ l, p.1 < sz) → ∀ s, sz ≤ s → ET.fn (known sz l) s = .undef
  | [], _, s, hs => by simp only [known, ET.fn, tops_get, if_neg (by omega : ¬ s < sz)]; rfl
  | (k, x) :: r, h, s, hs => by
    have e : ET.fn (known sz ((k, x) :: r)) s = if s = k then x else ET.fn (known sz r) s := by
      simp only [known, ET.fn, Tr.get_put]
      split <;> rfl
    rw [e, if_neg (by have := h (k, x) List.mem_cons_self; simp only at this; omega)]
    exact known_undef r (fun p hp => h p (List.mem_cons_of_mem _ hp)) s hs

theorem HW.setK {H : Heap} {b n : Nat} {c : List AV} {k : IntKind} (hb : H.get b = some c) (hc : allK k c) (hn : c.length = n) : HW (H.set b (ais k n)) H := by
  refine ⟨Nat.le_refl _, fun x cs' hx => ?_⟩
  rw [Heap.get_set] at hx
  split at hx
  · rename_i e
    subst e
    rw [hb] at hx
    cases hx
    exact ⟨c, hb, (hc.wk hn).1, (hc.wk hn).2⟩
  · exact ⟨cs', hx, rfl, fun i x x' hx hx' => by rw [hx] at hx'; cases hx'; exact .same _⟩

theorem ais_drop (k : IntKind) {n i : Nat} (h : i < n) : (ais k n).drop i = .ai k :: ais k (n - i - 1) := by
  unfold ais
  rw [List.drop_replicate, ← List.replicate_succ]
  congr 1
  omega

theorem ais_splice (k : IntKind) {n o : Nat} (h : o < n) : splice (ais k n) o [.ai k] = ais k n := by
  apply List.ext_getElem?
  intro i
  rw [splice_get (by rw [ais_len]; simp; omega)]
  simp only [List.length_cons, List.length_nil]
  by_cases h1 : i < o
  · rw [if_pos h1]
  · rw [if_neg h1]
    by_cases h2 : i < o + (0 + 1)
    · rw [if_pos h2]
      have e : i = o := by omega
      subst e
      simp [ais, List.getElem?_replicate, h]
    · rw [if_neg h2]
end Go.Fl
end Fl44S

noncomputable section Fl45S
namespace Go.Fl
open Go
section
variable {P : Program} {ops : Array Oper}
theorem WOps.mono {Q Q' : Exit → Env → Heap → Prop} (hq : ∀ env H, Q .normal env H → Q' .normal env H) : ∀ {l : List Oper} {env : Env} {H : Heap}, WOps P ops Q l env H → WOps P ops Q' l env H
  | [], _, _, h => hq _ _ h
  | _ :: _, _, _, h => WOp.mono (fun _ _ h => WOps.mono hq h) h

theorem w_mid (n : Nat) (F : Env → Heap → Prop) {Q : Exit → Env → Heap → Prop} {l : List Oper} {env : Env} {H : Heap} (h1 : ∀ K : Env → Heap → Prop, (∀ env H, F env H → K env H) → WOps P ops (thenA K Q) (l.take n) env H) (h2 : ∀ env H, F env H → WOps P ops Q (l.drop n) env H) : WOps P ops Q l env H :=
  w_take n fun _ hK => WOps.mono (fun _ _ h => h) (h1 _ fun env H hf => hK env H (h2 env H hf))
end
end Go.Fl
end Fl45S

noncomputable section Fl46S
namespace Go.Fl
open Go

structure DOk0 (sz : Nat) (ops : Array Oper) : Prop where
  dsts : dstsOk sz ops
  acyc : ∀ (j : Nat) (q : Oper), ops[j]? = some q → ∀ e ∈ q.after, Region.binds .any e = true → e.on < j
  apart : ∀ (i j : Nat) (p q : Oper), i < j → ops[i]? = some p → ops[j]? = some q → ∀ t, p.dst = some t → q.dst ≠ some t
  down : ∀ (i j : Nat) (p q : Oper), i < j → ops[i]? = some p → ops[j]? = some q → ∀ t, p.dst = some t → t ∈ q.looksAt ops → bef ops i j = true
  up : ∀ (i j : Nat) (p q : Oper), i < j → ops[i]? = some p → ops[j]? = some q → ∀ t, q.dst = some t → t ∈ p.looksAt ops → bef ops i j = true

/-- The two allocations are p and the one behind it; all ahead of them leaves the heap, all behind them comes behind both. -/
def drawOk2 (sz : Nat) (ops : Array Oper) (n : Nat) : Bool :=
  dstsB sz ops && (List.range ops.size).all fun j => match ops[j]? with
    | none => true
    | some q => (q.after.all fun e => !Region.binds .any e || decide (e.on < j)) && ((Nat.ble j (n + 1) || (bef ops n j && bef ops (n + 1) j)) && (Nat.ble n j || !isC q)) && (List.range j).all fun i => match ops[i]? with
      | none => true
      | some p => (p.dst.isNone || p.dst != q.dst) && (((q.looksAt ops).all fun t => p.dst != some t) || bef ops i j) && (((p.looksAt ops).all fun t => q.dst != some t) || bef ops i j) && (!isC p || !isC q || (Nat.ble j (n + 1) || bef ops i j))

structure DOk2 (sz : Nat) (ops : Array Oper) (n : Nat) : Prop extends DOk0 sz ops where
  late : ∀ (j : Nat) (q : Oper), ops[j]? = some q → n + 1 < j → bef ops n j = true ∧ bef ops (n + 1) j = true
  fl : ∀ (j : Nat) (q : Oper), ops[j]? = some q → j < n → isC q = false
  chain : ∀ (i j : Nat) (p q : Oper), i < j → ops[i]? = some p → ops[j]? = some q → isC p = true → isC q = true → n + 1 < j → bef ops i j = true


theorem drawOk2_spec {sz : Nat} {ops : Array Oper} {n : Nat} (h : drawOk2 sz ops n = true) : DOk2 sz ops n := by
  unfold drawOk2 at h
  simp only [Bool.and_eq_true] at h
  obtain ⟨h1, h2⟩ := h
  have key : ∀ (i j : Nat) (p q : Oper), i < j → ops[i]? = some p → ops[j]? = some q →
      ((p.dst.isNone || p.dst != q.dst) && (((q.looksAt ops).all fun t => p.dst != some t) || bef ops i j) && (((p.looksAt ops).all fun t => q.dst != some t) || bef ops i j) && (!isC p || !isC q || (Nat.ble j (n + 1) || bef ops i j))) = true := by
    intro i j p q hij hp hq
    have hj := (Array.getElem?_eq_some_iff.1 hq).1
    have h3 := List.all_eq_true.1 h2 j (by simp [hj])
    rw [hq] at h3
    simp only [Bool.and_eq_true] at h3
    have h4 := List.all_eq_true.1 h3.2 i (by simp [hij])
    rw [hp] at h4
    simpa only [Bool.and_eq_true] using h4
  have key2 : ∀ (j : Nat) (q : Oper), ops[j]? = some q → ((q.after.all fun e => !Region.binds .any e || decide (e.on < j)) = true) ∧ (Nat.ble j (n + 1) || (bef ops n j && bef ops (n + 1) j)) = true ∧ (Nat.ble n j || !isC q) = true := by
    intro j q hq
    have hj := (Array.getElem?_eq_some_iff.1 hq).1
    have h3 := List.all_eq_true.1 h2 j (by simp [hj])
    rw [hq] at h3
    simp only [Bool.and_eq_true] at h3
    obtain ⟨⟨h4, h5, h6⟩, _⟩ := h3
    exact ⟨h4, by simpa only [Bool.and_eq_true] using h5, h6⟩
  refine ⟨⟨dstsB_ok h1, ?_, ?_, ?_, ?_⟩, ?_, ?_, ?_⟩
  · intro j q hq e he hb
    have h4 := Array.all_eq_true'.1 (key2 j q hq).1 e he
    simpa [hb] using h4
  · intro i j p q hij hp hq t h3 h4
    have := key i j p q hij hp hq
    simp [h3, h4] at this
  · intro i j p q hij hp hq t h3 h4
    have := key i j p q hij hp hq
    simp only [Bool.and_eq_true, Bool.or_eq_true] at this
    rcases this.1.1.2 with h5 | h5
    · have := List.all_eq_true.1 h5 t h4
      simp [h3] at this
    · exact h5
  · intro i j p q hij hp hq t h3 h4
    have := key i j p q hij hp hq
    simp only [Bool.and_eq_true, Bool.or_eq_true] at this
    rcases this.1.2 with h5 | h5
    · have := List.all_eq_true.1 h5 t h4
      simp [h3] at this
    · exact h5
  · intro j q hq hlt
    have := (key2 j q hq).2.1
    simp only [Bool.or_eq_true, Nat.ble_eq, Bool.and_eq_true] at this
    rcases this with h | h
    · omega
    · exact h
  · intro j q hq hlt
    have := (key2 j q hq).2.2
    simp only [Bool.or_eq_true, Nat.ble_eq, Bool.not_eq_true'] at this
    rcases this with h | h
    · omega
    · exact h
  · intro i j p q hij hp hq h3 h4 hlt
    have := key i j p q hij hp hq
    simp only [Bool.and_eq_true, Bool.or_eq_true, h3, h4, Nat.ble_eq] at this
    rcases this.2 with h | h | h
    · simp at h
    · omega
    · exact h


section
variable {P : Program} {sz : Nat} {ops : Array Oper} {env0 : Env} {val : Nat → AV} {hp : Nat → Heap}


/-- The slots that an operation names hold what the text's order has there. -/
theorem Inv.named0 (K : DOk0 sz ops) {ρ0 : Rho} {I0 : Nat → Prop} {w0 : World} {D : Nat → Prop} {ρ : Rho} {I : Nat → Prop} {c : Nat} {a : Act} {w : World} (hD : Closed ops D)
    (V : Inv P sz ops env0 val hp ρ0 I0 w0 D ρ I c a w) {i : Nat} {o : Oper} (ho : ops[i]? = some o) (hi : ¬ D i) (hr : ∀ e ∈ o.after, Region.binds .any e = true → D e.on) {t : Tmp} (ht : t ∈ o.looksAt ops) :
    VR ρ I w.heap (envAt ops env0 val i t) (a.tmps.getD t Go.undef) := by
  have uniq : ∀ k m, dstAt ops k = some t → dstAt ops m = some t → k = m := by
    intro k m hk hm
    obtain ⟨p, hp1, hp2⟩ := dstAt_some hk
    obtain ⟨q, hq1, hq2⟩ := dstAt_some hm
    rcases Nat.lt_trichotomy k m with h | h | h
    · exact absurd hq2 (K.apart k m p q h hp1 hq1 t hp2)
    · exact h
    · exact absurd hp2 (K.apart m k q p h hq1 hp1 t hq2)
  rcases V.slots t with ⟨k, hk1, hk2, hk3⟩ | ⟨hno, hv⟩
  · -- written by k in D
    obtain ⟨p, hp1, hp2⟩ := dstAt_some hk2
    have hne : k ≠ i := fun e => hi (e ▸ hk1)
    rcases Nat.lt_or_ge k i with h | h
    · rw [envAt_some hk2 i h (fun m h1 _ hm => by have := uniq k m hk2 hm; omega)]
      exact hk3
    · have hlt : i < k := by omega
      have hb := K.up i k o p hlt ho hp1 t hp2 ht
      have hDi : D i := hD.bef k i p hp1 (fun e h1 h2 => hD k p hk1 hp1 e h1 h2) hb
      exact absurd hDi hi
  · -- nobody in D wrote it
    have : ∀ k, k < i → dstAt ops k ≠ some t := by
      intro k hk hd
      obtain ⟨p, hp1, hp2⟩ := dstAt_some hd
      have hb := K.down k i p o hk hp1 ho t hp2 ht
      exact hno k (hD.bef i k o ho hr hb) hd
    rw [envAt_none i this]
    exact hv


theorem Inv.slots_put0 (K : DOk0 sz ops) {ρ0 : Rho} {I0 : Nat → Prop} {w0 : World} {D : Nat → Prop} {ρ ρ' : Rho} {I I' : Nat → Prop} {c : Nat} {a : Act} {w w' : World}
    (V : Inv P sz ops env0 val hp ρ0 I0 w0 D ρ I c a w) {i : Nat} {o : Oper} (ho : ops[i]? = some o) {v : Value} (hv : VR ρ' I' w'.heap (val i) v) (hx : Ext ρ I w ρ' I' w') :
    (a.put o.dst v).tmps.size = sz ∧ (a.put o.dst v).defers = [] ∧
    ∀ t, (∃ k, (D k ∨ k = i) ∧ dstAt ops k = some t ∧ VR ρ' I' w'.heap (val k) ((a.put o.dst v).tmps.getD t Go.undef)) ∨
      ((∀ k, (D k ∨ k = i) → dstAt ops k ≠ some t) ∧ VR ρ' I' w'.heap (env0 t) ((a.put o.dst v).tmps.getD t Go.undef)) := by
  have hdst : dstAt ops i = o.dst := by simp [dstAt, ho]
  cases hd : o.dst with
  | none =>
    refine ⟨V.size, V.defers, fun t => ?_⟩
    simp only [Act.put]
    rcases V.slots t with ⟨k, h1, h2, h3⟩ | ⟨h1, h2⟩
    · exact .inl ⟨k, .inl h1, h2, h3.mono hx⟩
    · refine .inr ⟨?_, h2.mono hx⟩
      rintro k (h3 | h3)
      · exact h1 k h3
      · subst h3; rw [hdst, hd]; simp
  | some d =>
    have hlt : d < a.tmps.size := by rw [V.size]; exact K.dsts i o d ho hd
    refine ⟨by simp [Act.put, V.size], V.defers, fun t => ?_⟩
    simp only [Act.put]
    by_cases e : d = t
    · subst e
      refine .inl ⟨i, .inr rfl, by rw [hdst, hd], ?_⟩
      have e1 : (a.tmps.setIfInBounds d v).getD d Go.undef = v := by simp [hlt]
      rw [e1]; exact hv
    · have e1 : (a.tmps.setIfInBounds d v).getD t Go.undef = a.tmps.getD t Go.undef := by
        simp only [Array.getD_eq_getD_getElem?]
        rw [Array.getElem?_setIfInBounds_ne e]
      rw [e1]
      rcases V.slots t with ⟨k, h1, h2, h3⟩ | ⟨h1, h2⟩
      · exact .inl ⟨k, .inl h1, h2, h3.mono hx⟩
      · refine .inr ⟨?_, h2.mono hx⟩
        rintro k (h3 | h3)
        · exact h1 k h3
        · subst h3; rw [hdst, hd]; simpa using e



theorem put_other {a : Act} {d : Option Tmp} {v : Value} {t : Tmp} (h : d ≠ some t) : (a.put d v).tmps.getD t Go.undef = a.tmps.getD t Go.undef := by
  cases d with
  | none => rfl
  | some d =>
    simp only [Act.put]
    simp only [Array.getD_eq_getD_getElem?]
    rw [Array.getElem?_setIfInBounds_ne (fun e => h (by rw [e]))]


/-- ONE STEP, in whatever order. -/
theorem Inv.step0 (K : DOk0 sz ops) (T : Trace P ops env0 val hp) {ρ0 : Rho} {I0 : Nat → Prop} {w0 : World} {D : Nat → Prop} {ρ : Rho} {I : Nat → Prop} {c : Nat} {a : Act} {w : World} (hD : Closed ops D)
    (V : Inv P sz ops env0 val hp ρ0 I0 w0 D ρ I c a w) {i : Nat} {o : Oper} (ho : ops[i]? = some o) (hi : ¬ D i) (hr : ∀ e ∈ o.after, Region.binds .any e = true → D e.on) (hchain : ∀ (k : Nat) (q : Oper), isC o = true → k < i → ops[k]? = some q → isC q = true → D k) {Kt : Act → World → Prop} {Q : Exit → Act → World → Prop}
    (hK : ∀ ρ' I' c' a' w', Inv P sz ops env0 val hp ρ0 I0 w0 (fun k => D k ∨ k = i) ρ' I' c' a' w' → Ext ρ I w ρ' I' w' → (∀ t, o.dst ≠ some t → a'.tmps.getD t Go.undef = a.tmps.getD t Go.undef) → Kt a' w') : wpOp P ops Q i Kt a w := by
  have hilt := (Array.getElem?_eq_some_iff.1 ho).1
  have hnamed := fun t ht => V.named0 K hD ho hi hr (t := t) ht
  let env' : Env := fun t => if t ∈ o.looksAt ops then envAt ops env0 val i t else .top
  have hcongr : ∀ t ∈ o.looksAt ops, envAt ops env0 val i t = env' t := fun t ht => by simp only [env', if_pos ht]
  have he : ERel sz ρ I w.heap env' a := ⟨V.size, V.defers, fun t => by
    simp only [env']
    split
    · exact hnamed t (by assumption)
    · exact .top _, V.rel.glob⟩
  have hw := awanted_congr (o := o) hcongr
  have hbefD : ∀ k, bef ops k i = true → D k := fun k hb => hD.bef i k o ho hr hb
  unfold wpOp
  rw [ho]
  simp only
  rcases T.step i o ho with ⟨h1, h2, h3⟩ | ⟨h1, h2⟩
  · rw [hw] at h1
    rw [if_neg (by rw [awanted_run h1 he K.dsts]; simp)]
    obtain ⟨s1, s2, s3⟩ := V.slots_put0 K ho (v := Go.undef) (ρ' := ρ) (I' := I) (w' := w) (by rw [h2]; exact .sc _) (Ext.refl _ _ _)
    refine hK ρ I c _ w ⟨V.rel, V.ext, s1, s2, V.le, fun k h4 h5 => .inl (V.done k h4 h5), ?_, s3⟩ (Ext.refl _ _ _) (fun t ht => put_other ht)
    rintro k h4 (h5 | h5)
    · exact V.todo k h4 h5
    · subst h5
      obtain ⟨o', h6, _, h7⟩ := h4
      rw [ho] at h6; cases h6
      rw [← hw] at h1
      rw [h1] at h7; cases h7
  · have h1' := h1
    rw [hw] at h1
    rw [if_pos (awanted_run h1 he K.dsts)]
    refine .inl ?_
    cases hc : isC o with
    | true =>
      have hch : ChainAt ops env0 val i := ⟨o, ho, hc, h1'⟩
      have hci : c ≤ i := by
        rcases Nat.lt_or_ge i c with h | h
        · exact absurd (V.done i hch h) hi
        · exact h
      have hno : ∀ k, c ≤ k → k < i → ¬ ChainAt ops env0 val k := by
        rintro k h4 h5 hk
        obtain ⟨p, hp1, hp2, hp3⟩ := hk
        have := V.todo k ⟨p, hp1, hp2, hp3⟩ (hchain k p hc h5 hp1 hp2)
        omega
      have heq : hp i = hp c := T.const' hci (by omega) hno
      have hst := StepTo_congr hcongr h2
      rw [heq] at hst
      refine StepTo_run hst V.rel he.eval ?_
      intro v w' ρ' I' h4 h5 h6
      obtain ⟨s1, s2, s3⟩ := V.slots_put0 K ho h4 h6
      refine hK ρ' I' (i + 1) _ w' ⟨h5, V.ext.trans h6, s1, s2, by omega, ?_, ?_, s3⟩ h6 (fun t ht => put_other ht)
      · intro k h7 h8
        by_cases e : k = i
        · exact .inr e
        · rcases Nat.lt_or_ge k c with h9 | h9
          · exact .inl (V.done k h7 h9)
          · exact absurd h7 (hno k h9 (by omega))
      · rintro k h7 (h8 | h8)
        · have := V.todo k h7 h8; omega
        · omega
    | false =>
      have haop := StepTo_aop hc h2
      have hat : aop P o (aev (envAt ops env0 val i)) (hp c) = some (val i, hp c) := by
        cases hP : isP o with
        | true => exact (aop_pure hP haop).2 _
        | false =>
          have hL : isL o = true := by
            cases hL : isL o with
            | true => rfl
            | false => simp [isC, hP, hL] at hc
          have hsame := aop_reads hL haop
          rw [hsame] at haop
          have hnoti : ¬ ChainAt ops env0 val i := by
            rintro ⟨o', h6, h7, _⟩
            rw [ho] at h6; cases h6
            rw [hc] at h7; cases h7
          rcases Nat.lt_or_ge i c with hic | hic
          · -- carried out late
            by_cases hex : ∃ k, i ≤ k ∧ k < c ∧ ChainAt ops env0 val k
            · -- the greatest
              have hgr : ∃ k, i ≤ k ∧ k < c ∧ ChainAt ops env0 val k ∧ ∀ m, k < m → m < c → ¬ ChainAt ops env0 val m := by
                obtain ⟨k, h4, h5, h6⟩ := hex
                have : ∀ (d k : Nat), c - k ≤ d → i ≤ k → k < c → ChainAt ops env0 val k → ∃ k, i ≤ k ∧ k < c ∧ ChainAt ops env0 val k ∧ ∀ m, k < m → m < c → ¬ ChainAt ops env0 val m := by
                  intro d
                  induction d with
                  | zero => intro k h7 h8 h9; omega
                  | succ d ih =>
                    intro k h7 h8 h9 h10
                    by_cases h11 : ∃ m, k < m ∧ m < c ∧ ChainAt ops env0 val m
                    · obtain ⟨m, h12, h13, h14⟩ := h11
                      exact ih m (by omega) (by omega) h13 h14
                    · exact ⟨k, h8, h9, h10, fun m h12 h13 h14 => h11 ⟨m, h12, h13, h14⟩⟩
                exact this _ k (Nat.le_refl _) h4 h5 h6
              obtain ⟨k, h4, h5, h6, h7⟩ := hgr
              have hki : i ≠ k := fun e => hnoti (e ▸ h6)
              obtain ⟨p, hp1, hp2, hp3⟩ := h6
              have hDk := V.done k ⟨p, hp1, hp2, hp3⟩ h5
              have hnb : bef ops i k = false := by
                cases hb : bef ops i k with
                | false => rfl
                | true => exact absurd (hD.bef k i p hp1 (fun e h8 h9 => hD k p hDk hp1 e h8 h9) hb) hi
              have := T.late i k o p ho hp1 hL hp2 h1' hp3 (by omega) hnb
              have heq : hp c = hp (k + 1) := T.const' (by omega) V.le (fun m h8 h9 => h7 m (by omega) h9)
              rw [heq]; exact this
            · have heq : hp c = hp i := T.const' (by omega) V.le (fun k h4 h5 h6 => hex ⟨k, h4, h5, h6⟩)
              rw [heq]; exact haop
          · by_cases hex : ∃ k, c ≤ k ∧ k < i ∧ ChainAt ops env0 val k
            · have hls : ∃ k, c ≤ k ∧ k < i ∧ ChainAt ops env0 val k ∧ ∀ m, c ≤ m → m < k → ¬ ChainAt ops env0 val m := by
                obtain ⟨k, h4, h5, h6⟩ := hex
                have : ∀ (k : Nat), c ≤ k → k < i → ChainAt ops env0 val k → ∃ k, c ≤ k ∧ k < i ∧ ChainAt ops env0 val k ∧ ∀ m, c ≤ m → m < k → ¬ ChainAt ops env0 val m := by
                  intro k
                  induction k using Nat.strongRecOn with
                  | _ k ih =>
                    intro h8 h9 h10
                    by_cases h11 : ∃ m, c ≤ m ∧ m < k ∧ ChainAt ops env0 val m
                    · obtain ⟨m, h12, h13, h14⟩ := h11
                      exact ih m h13 h12 (by omega) h14
                    · exact ⟨k, h8, h9, h10, fun m h12 h13 h14 => h11 ⟨m, h12, h13, h14⟩⟩
                exact this k h4 h5 h6
              obtain ⟨k, h4, h5, h6, h7⟩ := hls
              obtain ⟨p, hp1, hp2, hp3⟩ := h6
              have hnb : bef ops k i = false := by
                cases hb : bef ops k i with
                | false => rfl
                | true =>
                  have := V.todo k ⟨p, hp1, hp2, hp3⟩ (hbefD k hb)
                  omega
              have := T.early i k o p ho hp1 hL hp2 h1' hp3 h5 hnb
              have heq : hp k = hp c := T.const' h4 (by omega) h7
              rw [heq] at this
              exact this
            · have heq : hp i = hp c := T.const' hic (by omega) (fun k h4 h5 h6 => hex ⟨k, h4, h5, h6⟩)
              rw [← heq]; exact haop
      have hst := StepTo_congr hcongr (aop_StepTo hc hat)
      refine StepTo_run hst V.rel he.eval ?_
      intro v w' ρ' I' h4 h5 h6
      obtain ⟨s1, s2, s3⟩ := V.slots_put0 K ho h4 h6
      refine hK ρ' I' c _ w' ⟨h5, V.ext.trans h6, s1, s2, V.le, fun k h7 h8 => .inl (V.done k h7 h8), ?_, s3⟩ h6 (fun t ht => put_other ht)
      rintro k h7 (h8 | h8)
      · exact V.todo k h7 h8
      · subst h8
        obtain ⟨o', h9, h10, _⟩ := h7
        rw [ho] at h9; cases h9
        rw [hc] at h10; cases h10


theorem any_run (K : DOk0 sz ops) {Q : Exit → Act → World → Prop} {S : (Nat → Prop) → Act → World → Prop}
    (fin : ∀ D a w, (∀ i, i < ops.size → D i) → S D a w → Q .normal a w)
    (step : ∀ D a w i o, Closed ops D → S D a w → ops[i]? = some o → ¬ D i → (∀ e ∈ o.after, Region.binds .any e = true → D e.on) → ∀ Kt : Act → World → Prop, (∀ a' w', S (fun k => D k ∨ k = i) a' w' → Kt a' w') → wpOp P ops Q i Kt a w) :
    ∀ (fuel : Nat) (listed : Array Bool) (a : Act) (w : World), listed.size = ops.size → listed.toList.count false = fuel → Closed ops (fun k => listed.getD k false = true) →
      S (fun k => listed.getD k false = true) a w → wpAny P .any ops Q fuel listed a w := by
  have memready : ∀ (listed : Array Bool) (i : Nat), listed.size = ops.size → (i ∈ Region.ready .any ops listed ↔ ∃ o, ops[i]? = some o ∧ listed.getD i false = false ∧ ∀ e ∈ o.after, Region.binds .any e = true → listed.getD e.on false = true) := by
    intro listed i hs
    unfold Region.ready
    simp only [List.mem_filter, List.mem_range, Bool.and_eq_true]
    constructor
    · rintro ⟨h1, h2, h3⟩
      have ho := Array.getElem?_eq_getElem h1
      refine ⟨_, ho, ?_, ?_⟩
      · have hlt : i < listed.size := by omega
        simp [Array.getD_eq_getD_getElem?, hlt] at h2 ⊢
        exact h2
      · rw [ho] at h3
        simp only [Option.map_some, Option.getD_some, Array.all_eq_true'] at h3
        intro e he hb
        have := h3 e he
        simpa [hb] using this
    · rintro ⟨o, h1, h2, h3⟩
      have hlt := (Array.getElem?_eq_some_iff.1 h1).1
      refine ⟨hlt, ?_, ?_⟩
      · have hlt' : i < listed.size := by omega
        simp [Array.getD_eq_getD_getElem?, hlt'] at h2 ⊢
        exact h2
      · rw [h1]
        simp only [Option.map_some, Option.getD_some, Array.all_eq_true']
        intro e he
        cases hb : Region.binds .any e with
        | false => rfl
        | true => simp [h3 e he hb]
  have done : ∀ (listed : Array Bool), listed.size = ops.size → Region.ready .any ops listed = [] → ∀ i, i < ops.size → listed.getD i false = true := by
    intro listed hs hre i
    induction i using Nat.strongRecOn with
    | _ i ih =>
      intro hi
      cases hl : listed.getD i false with
      | true => rfl
      | false =>
        have ho := Array.getElem?_eq_getElem hi
        have : i ∈ Region.ready .any ops listed := (memready listed i hs).2 ⟨_, ho, hl, fun e he hb => ih e.on (K.acyc i _ ho e he hb) (by have := K.acyc i _ ho e he hb; omega)⟩
        rw [hre] at this
        cases this
  intro fuel
  induction fuel with
  | zero =>
    intro listed a w hs hc hD V
    have hre : Region.ready .any ops listed = [] := by
      cases hr : Region.ready .any ops listed with
      | nil => rfl
      | cons i l =>
        obtain ⟨o, h1, h2, _⟩ := (memready listed i hs).1 (by rw [hr]; simp)
        have hlt := (Array.getElem?_eq_some_iff.1 h1).1
        have hmem : false ∈ listed.toList := by
          have hlt' : i < listed.size := by omega
          have : listed.toList[i]? = some false := by
            simp [Array.getD_eq_getD_getElem?, hlt'] at h2
            simp [hlt', h2]
          exact List.mem_of_getElem? this
        have := List.count_pos_iff.2 hmem
        omega
    exact ⟨hre, fin _ a w (done listed hs hre) V⟩
  | succ fuel ih =>
    intro listed a w hs hc hD V
    refine ⟨fun hre => fin _ a w (done listed hs hre) V, fun i hi => ?_⟩
    obtain ⟨o, h1, h2, h3⟩ := (memready listed i hs).1 hi
    have hlt := (Array.getElem?_eq_some_iff.1 h1).1
    have hlt' : i < listed.size := by omega
    have hset : ∀ k, (listed.setIfInBounds i true).getD k false = true ↔ (listed.getD k false = true ∨ k = i) := by
      intro k
      simp only [Array.getD_eq_getD_getElem?, Array.getElem?_setIfInBounds]
      by_cases e : i = k
      · subst e; simp [hlt']
      · rw [if_neg e]
        constructor
        · exact .inl
        · rintro (h | h)
          · exact h
          · exact absurd h.symm e
    refine step _ a w i o hD V h1 (by simp [h2]) h3 _ ?_
    intro a' w' V'
    have hDeq : (fun k => (listed.setIfInBounds i true).getD k false = true) = (fun k => listed.getD k false = true ∨ k = i) := by
      funext k; exact propext (hset k)
    refine ih (listed.setIfInBounds i true) a' w' (by simp [hs]) ?_ ?_ (by rw [hDeq]; exact V')
    · have hget : listed.toList[i]? = some false := by
        simp [Array.getD_eq_getD_getElem?, hlt'] at h2
        simp [hlt', h2]
      have := count_set listed.toList i hget
      rw [Array.toList_setIfInBounds]
      omega
    · rw [hDeq]
      rintro k q (hk | hk) hq e he hb
      · exact .inl (hD k q hk hq e he hb)
      · subst hk; rw [h1] at hq; cases hq; exact .inl (h3 e he hb)


end
end Go.Fl
end Fl46S

noncomputable section Fl47S
namespace Go.Fl
open Go

/-- A block that nobody of ours names, held by a value. -/
def Junk (zs : List AV) (t : TypeId) (ρ : Rho) (I : Nat → Prop) (w0 w : World) (v : Value) (cb : Nat) : Prop :=
  v = .pointer (some ⟨cb, 0, none⟩) ∧ (∃ c : Array Value, w.heap[cb]? = some (.cells c t) ∧ zs = c.toList.map .sc) ∧ w0.heap.size ≤ cb ∧ ¬ I cb ∧ ∀ b base, ρ b ≠ some (some (cb, base))

theorem Junk.lt {zs : List AV} {t : TypeId} {ρ : Rho} {I : Nat → Prop} {w0 w : World} {v : Value} {cb : Nat} (h : Junk zs t ρ I w0 w v cb) : cb < w.heap.size := by
  obtain ⟨_, ⟨c, h2, _⟩, _⟩ := h
  exact (Array.getElem?_eq_some_iff.1 h2).1

theorem Junk.ext {zs : List AV} {t : TypeId} {ρ ρ' : Rho} {I I' : Nat → Prop} {w0 w w' : World} {v : Value} {cb : Nat} (h : Junk zs t ρ I w0 w v cb) (hx : Ext ρ I w ρ' I' w') : Junk zs t ρ' I' w0 w' v cb := by
  have hlt := h.lt
  obtain ⟨h1, ⟨c, h2, h3⟩, h4, h5, h6⟩ := h
  refine ⟨h1, ⟨c, by rw [hx.frame cb hlt h6]; exact h2, h3⟩, h4, fun hI => ?_, fun b base hb => ?_⟩
  · rcases hx.newI cb hI with h | h | ⟨b0, base0, h⟩
    · exact h5 h
    · omega
    · exact h6 _ _ h
  · rcases hx.newR b cb base hb with h | h | ⟨b0, base0, h⟩
    · exact h6 _ _ h
    · omega
    · exact h6 _ _ h

theorem rel_adopt {ρ : Rho} {I : Nat → Prop} {H : Heap} {hp : Array Obj} (h : Rel ρ I H hp) {cs : List AV} {c : Array Value} {e : TypeId} {cb : Nat} (hc : hp[cb]? = some (.cells c e)) (hI : ¬ I cb)
    (hno : ∀ b base, ρ b ≠ some (some (cb, base))) (hl : cs.length ≤ c.size) (hv : ∀ i x, cs[i]? = some x → VR ρ I hp x (c.getD i Go.undef)) :
    Rel (ρ.upd H.next (some (cb, 0))) I (H.alloc cs) hp ∧ ∀ b p, ρ b = some p → (ρ.upd H.next (some (cb, 0))) b = some p := by
  have hrho : ∀ b p, ρ b = some p → (ρ.upd H.next (some (cb, 0))) b = some p := by
    intro b p hb
    have := h.rng b p hb
    rw [Rho.upd_other _ _ (by omega)]; exact hb
  have mono : ∀ x v, VR ρ I hp x v → VR (ρ.upd H.next (some (cb, 0))) I hp x v := fun x v hx => hx.mono' hrho (fun _ h => h) (fun _ _ => rfl) (fun _ c _ fz h => ⟨c, fz, h, rfl⟩)
  refine ⟨⟨?_, ?_, ?_, ?_, h.irng, h.glob⟩, hrho⟩
  · intro b cs' hb
    rw [Heap.get_alloc] at hb
    split at hb
    · rename_i e1; subst e1; cases hb
      exact .inr ⟨cb, 0, c, e, Rho.upd_same _ _ _, hI, ⟨(0, 0), FzOk.zero _, hc⟩, by simpa using hl, fun i x hx' => by simpa using mono _ _ (hv i x hx')⟩
    · rename_i e1
      rcases h.live b cs' hb with ⟨h2, h3⟩ | ⟨cb', base, c', e', h2, h3, h4, h5, h6⟩
      · exact .inl ⟨by rw [Rho.upd_other _ _ e1]; exact h2, h3⟩
      · exact .inr ⟨cb', base, c', e', by rw [Rho.upd_other _ _ e1]; exact h2, h3, h4, h5, fun i x hx' => mono _ _ (h6 i x hx')⟩
  · intro b b' cs1 cs2 cb1 base base' hb hb' hr hr'
    rw [Heap.get_alloc] at hb hb'
    by_cases e1 : b = H.next
    · by_cases e2 : b' = H.next
      · rw [e1, e2]
      · rw [e1, Rho.upd_same] at hr
        rw [Rho.upd_other _ _ e2] at hr'
        cases hr
        exact absurd hr' (hno _ _)
    · by_cases e2 : b' = H.next
      · rw [e2, Rho.upd_same] at hr'
        rw [Rho.upd_other _ _ e1] at hr
        cases hr'
        exact absurd hr (hno _ _)
      · rw [Rho.upd_other _ _ e1] at hr
        rw [Rho.upd_other _ _ e2] at hr'
        rw [if_neg e1] at hb
        rw [if_neg e2] at hb'
        exact h.inj _ _ _ _ _ _ _ hb hb' hr hr'
  · intro b p hb
    by_cases e1 : b = H.next
    · subst e1; show H.next < H.next + 1; omega
    · rw [Rho.upd_other _ _ e1] at hb; have := h.rng _ _ hb; show b < H.next + 1; omega
  · intro b cb1 base hb
    by_cases e1 : b = H.next
    · subst e1; rw [Rho.upd_same] at hb; cases hb; exact ⟨_, _, _, hc⟩
    · rw [Rho.upd_other _ _ e1] at hb
      exact h.at_ _ _ _ hb

theorem alloc_wp {P : Program} {d : Tmp} {t ty : TypeId} {pos : String} {af : Array Edge} {zs : List AV} (hz : zeroC P t = some zs) {a : Act} {w : World} {K : Act → World → Prop} {Q : Exit → Act → World → Prop}
    (hk : ∀ c : Array Value, zs = c.toList.map .sc → K (a.put (some d) (.pointer (some ⟨w.heap.size, 0, none⟩))) (w.alloc (.cells c t))) : (⟨some d, .alloc t, ty, pos, af, none⟩ : Oper).wp P a w K Q := by
  obtain ⟨z, h2, h3⟩ := zeroC_run P hz w
  unfold Oper.wp
  have : (execOp a.eval (⟨some d, .alloc t, ty, pos, af, none⟩ : Oper)).run P w = .ok (.value (.pointer (some ⟨w.heap.size, 0, none⟩))) (w.alloc (.cells z.cells t)) := by
    simp [execOp, Instr.alloc, h2, newVar, newRow]
  rw [this]
  exact hk z.cells h3

section
variable {P : Program} {sz : Nat} {ops : Array Oper} {env0 : Env} {val : Nat → AV} {hp : Nat → Heap} {n : Nat} {d0 d1 : Tmp} {zs : List AV} {t : TypeId}

theorem adopt2 (K : DOk2 sz ops n) (h0 : dstAt ops n = some d0) (h1 : dstAt ops (n + 1) = some d1) (hv0 : val n = .ptr (hp 0).next 0) (hv1 : val (n + 1) = .ptr ((hp 0).next + 1) 0) (hh : hp (n + 2) = ((hp 0).alloc zs).alloc zs)
    {ρ0 : Rho} {I0 : Nat → Prop} {w0 : World} {D : Nat → Prop} {ρ : Rho} {I : Nat → Prop} {c : Nat} {a : Act} {w : World} (hDn : D n) (hDn1 : D (n + 1)) (nl : ∀ j, n + 1 < j → j < ops.size → ¬ D j)
    (hrel : Rel ρ I (hp 0) w.heap) (V : Inv P sz ops env0 val hp ρ0 I0 w0 (fun k => D k ∧ k < n) ρ I c a w) {cb0 cb1 : Nat} (j0 : Junk zs t ρ I w0 w (a.tmps.getD d0 Go.undef) cb0) (j1 : Junk zs t ρ I w0 w (a.tmps.getD d1 Go.undef) cb1) (hne : cb0 ≠ cb1) :
    ∃ ρ2, Inv P sz ops env0 val hp ρ0 I0 w0 D ρ2 I (n + 2) a w := by
  obtain ⟨e0, ⟨c0, m0, z0⟩, l0, i0, u0⟩ := j0
  obtain ⟨e1, ⟨c1, m1, z1⟩, l1, i1, u1⟩ := j1
  have hz : ∀ (ρ : Rho) (c : Array Value), zs = c.toList.map .sc → zs.length ≤ c.size ∧ ∀ i x, zs[i]? = some x → VR ρ I w.heap x (c.getD i Go.undef) := by
    intro ρ c hc
    have := VRs_scs (ρ := ρ) (I := I) (w := w) c
    rw [← hc] at this
    exact ⟨Nat.le_of_eq (by rw [hc]; simp), this.2⟩
  obtain ⟨r1, q1⟩ := rel_adopt hrel m0 i0 u0 (hz ρ c0 z0).1 (hz ρ c0 z0).2
  have u1' : ∀ b base, (ρ.upd (hp 0).next (some (cb0, 0))) b ≠ some (some (cb1, base)) := by
    intro b base hb
    by_cases e : b = (hp 0).next
    · rw [e, Rho.upd_same] at hb; cases hb; exact hne rfl
    · rw [Rho.upd_other _ _ e] at hb; exact u1 _ _ hb
  obtain ⟨r2, q2⟩ := rel_adopt r1 m1 i1 u1' (hz ρ c1 z1).1 (hz _ c1 z1).2
  have hnx : ((hp 0).alloc zs).next = (hp 0).next + 1 := rfl
  rw [hnx] at r2 q2
  have q12 : ∀ b p, ρ b = some p → ((ρ.upd (hp 0).next (some (cb0, 0))).upd ((hp 0).next + 1) (some (cb1, 0))) b = some p := fun b p hb => q2 b p (q1 b p hb)
  have mono : ∀ x v, VR ρ I w.heap x v → VR ((ρ.upd (hp 0).next (some (cb0, 0))).upd ((hp 0).next + 1) (some (cb1, 0))) I w.heap x v := fun x v hx => hx.mono' q12 (fun _ h => h) (fun _ _ => rfl) (fun _ c _ fz h => ⟨c, fz, h, rfl⟩)
  obtain ⟨p1, hp1, hp1d⟩ := dstAt_some h1
  have hsz := (Array.getElem?_eq_some_iff.1 hp1).1
  refine ⟨_, ⟨by rw [hh]; exact r2, ?_, V.size, V.defers, by omega, ?_, ?_, ?_⟩⟩
  · exact { rho := fun b p hb => q12 b p (V.ext.rho b p hb)
            imm := V.ext.imm
            size := V.ext.size
            kept := V.ext.kept
            blocks := V.ext.blocks
            frame := V.ext.frame
            newI := V.ext.newI
            newR := fun b cb base hb => by
              by_cases e : b = (hp 0).next + 1
              · rw [e, Rho.upd_same] at hb; cases hb; exact .inr (.inl l1)
              · rw [Rho.upd_other _ _ e] at hb
                by_cases e' : b = (hp 0).next
                · rw [e', Rho.upd_same] at hb; cases hb; exact .inr (.inl l0)
                · rw [Rho.upd_other _ _ e'] at hb; exact V.ext.newR b cb base hb
            os := V.ext.os
            tape := V.ext.tape
            output := V.ext.output }
  · rintro i ⟨o, ho, hc, _⟩ hi
    by_cases e : i < n
    · rw [K.fl i o ho e] at hc; cases hc
    · by_cases e' : i = n
      · rw [e']; exact hDn
      · have : i = n + 1 := by omega
        rw [this]; exact hDn1
  · rintro i ⟨o, ho, _⟩ hi
    by_cases e : n + 1 < i
    · exact absurd hi (nl i e (Array.getElem?_eq_some_iff.1 ho).1)
    · omega
  · intro t'
    by_cases e : t' = d0
    · subst e
      refine .inl ⟨n, hDn, h0, ?_⟩
      rw [hv0, e0]
      exact .ptr (o := 0) (by rw [Rho.upd_other _ _ (by omega)]; exact Rho.upd_same _ _ _)
    · by_cases e' : t' = d1
      · subst e'
        refine .inl ⟨n + 1, hDn1, h1, ?_⟩
        rw [hv1, e1]
        exact .ptr (o := 0) (Rho.upd_same _ _ _)
      · rcases V.slots t' with ⟨k, hk1, hk2, hk3⟩ | ⟨hk1, hk2⟩
        · exact .inl ⟨k, hk1.1, hk2, mono _ _ hk3⟩
        · refine .inr ⟨fun k hk hd => ?_, mono _ _ hk2⟩
          by_cases x1 : k < n
          · exact hk1 k ⟨hk, x1⟩ hd
          · by_cases x2 : k = n
            · rw [x2, h0] at hd; cases hd; exact e rfl
            · by_cases x3 : k = n + 1
              · rw [x3, h1] at hd; cases hd; exact e' rfl
              · obtain ⟨q, hq, _⟩ := dstAt_some hd
                exact nl k (by omega) (Array.getElem?_eq_some_iff.1 hq).1 hk

/-- What holds when the operations in D have been carried out, two of them allocations that float. -/
def State2 (P : Program) (sz : Nat) (ops : Array Oper) (env0 : Env) (val : Nat → AV) (hp : Nat → Heap) (n : Nat) (d0 d1 : Tmp) (zs : List AV) (t : TypeId) (ρ0 : Rho) (I0 : Nat → Prop) (w0 : World) (D : Nat → Prop) (a : Act) (w : World) : Prop :=
  ∃ ρ I c, (¬ (D n ∧ D (n + 1)) ∧ Inv P sz ops env0 val hp ρ0 I0 w0 (fun k => D k ∧ k < n) ρ I c a w ∧ (D n → ∃ cb, Junk zs t ρ I w0 w (a.tmps.getD d0 Go.undef) cb) ∧ (D (n + 1) → ∃ cb, Junk zs t ρ I w0 w (a.tmps.getD d1 Go.undef) cb)) ∨
    (D n ∧ D (n + 1) ∧ Inv P sz ops env0 val hp ρ0 I0 w0 D ρ I c a w)

theorem state2_step (K : DOk2 sz ops n) (T : Trace P ops env0 val hp) {ty0 ty1 : TypeId} {pos0 pos1 : String} {af0 af1 : Array Edge} (o0 : ops[n]? = some ⟨some d0, .alloc t, ty0, pos0, af0, none⟩) (o1 : ops[n + 1]? = some ⟨some d1, .alloc t, ty1, pos1, af1, none⟩) (hz : zeroC P t = some zs)
    (t0 : env0 d0 = .top) (t1 : env0 d1 = .top)
    {ρ0 : Rho} {I0 : Nat → Prop} {w0 : World} {D : Nat → Prop} {a : Act} {w : World} {i : Nat} {o : Oper} (hD : Closed ops D) (S : State2 P sz ops env0 val hp n d0 d1 zs t ρ0 I0 w0 D a w) (ho : ops[i]? = some o) (hi : ¬ D i) (hr : ∀ e ∈ o.after, Region.binds .any e = true → D e.on)
    {Kt : Act → World → Prop} {Q : Exit → Act → World → Prop} (hK : ∀ a' w', State2 P sz ops env0 val hp n d0 d1 zs t ρ0 I0 w0 (fun k => D k ∨ k = i) a' w' → Kt a' w') : wpOp P ops Q i Kt a w := by
  have h0 : dstAt ops n = some d0 := by simp [dstAt, o0]
  have h1 : dstAt ops (n + 1) = some d1 := by simp [dstAt, o1]
  have hne : d0 ≠ d1 := fun e => K.apart n (n + 1) _ _ (by omega) o0 o1 d0 rfl (by rw [e])
  have hd0 : ∀ k, k ≠ n → dstAt ops k ≠ some d0 := by
    intro k hk hd
    obtain ⟨p, hp1, hp2⟩ := dstAt_some hd
    rcases Nat.lt_or_gt_of_ne hk with h | h
    · exact K.apart k n p _ h hp1 o0 d0 hp2 rfl
    · exact K.apart n k _ p h o0 hp1 d0 rfl hp2
  have hd1 : ∀ k, k ≠ n + 1 → dstAt ops k ≠ some d1 := by
    intro k hk hd
    obtain ⟨p, hp1, hp2⟩ := dstAt_some hd
    rcases Nat.lt_or_gt_of_ne hk with h | h
    · exact K.apart k (n + 1) p _ h hp1 o1 d1 hp2 rfl
    · exact K.apart (n + 1) k _ p h o1 hp1 d1 rfl hp2
  have hconst : ∀ c, c ≤ n → hp c = hp 0 := fun c hc => T.const' (Nat.zero_le _) (by have := (Array.getElem?_eq_some_iff.1 o0).1; omega) (fun k _ hk ⟨q, hq, hqc, _⟩ => by rw [K.fl k q hq (by omega)] at hqc; cases hqc)
  have tr0 : val n = .ptr (hp 0).next 0 ∧ hp (n + 1) = (hp 0).alloc zs := by
    rcases T.step n _ o0 with ⟨h, _⟩ | ⟨_, h⟩
    · simp [awanted] at h
    · unfold StepTo at h
      simp only [aop, hz, Option.map_some, Option.some.injEq, Prod.mk.injEq] at h
      rw [hconst n (Nat.le_refl _)] at h
      exact ⟨h.1.symm, h.2.symm⟩
  have tr1 : val (n + 1) = .ptr ((hp 0).next + 1) 0 ∧ hp (n + 2) = ((hp 0).alloc zs).alloc zs := by
    rcases T.step (n + 1) _ o1 with ⟨h, _⟩ | ⟨_, h⟩
    · simp [awanted] at h
    · unfold StepTo at h
      simp only [aop, hz, Option.map_some, Option.some.injEq, Prod.mk.injEq] at h
      rw [tr0.2] at h
      exact ⟨h.1.symm, h.2.symm⟩
  obtain ⟨ρ, I, c, ⟨hnb, V, j0, j1⟩ | ⟨hDn, hDn1, V⟩⟩ := S
  · have nl : ∀ j, n + 1 < j → j < ops.size → ¬ D j := by
      intro j hj hjs hDj
      have hq := Array.getElem?_eq_getElem hjs
      have hl := K.late j _ hq hj
      exact hnb ⟨hD.bef j n _ hq (fun e he hb => hD j _ hDj hq e he hb) hl.1, hD.bef j (n + 1) _ hq (fun e he hb => hD j _ hDj hq e he hb) hl.2⟩
    have hc : c ≤ n := by
      rcases Nat.lt_or_ge n c with h | h
      · have hch : ChainAt ops env0 val n := ⟨_, o0, rfl, by simp [awanted]⟩
        have := (V.done n hch h).2
        omega
      · exact h
    have hrel : Rel ρ I (hp 0) w.heap := by have := V.rel; rwa [hconst c hc] at this
    have hilt : i ≤ n + 1 := by
      rcases Nat.lt_or_ge (n + 1) i with h | h
      · have hl := K.late i o ho h
        exact absurd ⟨hD.bef i n o ho hr hl.1, hD.bef i (n + 1) o ho hr hl.2⟩ hnb
      · exact h
    by_cases hin : i < n
    · -- an operation ahead of both
      have hD' : Closed ops (fun k => D k ∧ k < n) := fun k q hk hq e he hb => ⟨hD k q hk.1 hq e he hb, by have := K.acyc k q hq e he hb; have := hk.2; omega⟩
      refine V.step0 K.toDOk0 T hD' ho (fun h => hi h.1) (fun e he hb => ⟨hr e he hb, by have := K.acyc i o ho e he hb; omega⟩) (fun k q hco _ _ _ => by rw [K.fl i o ho hin] at hco; cases hco) ?_
      intro ρ' I' c' a' w' V' hx hput
      have hdo : o.dst = dstAt ops i := by simp [dstAt, ho]
      refine hK a' w' ⟨ρ', I', c', .inl ⟨?_, ?_, ?_, ?_⟩⟩
      · rintro ⟨h | h, h' | h'⟩
        · exact hnb ⟨h, h'⟩
        · omega
        · omega
        · omega
      · have e : (fun k => (D k ∨ k = i) ∧ k < n) = (fun k => (D k ∧ k < n) ∨ k = i) := by
          funext k
          apply propext
          constructor
          · rintro ⟨h | h, h'⟩
            · exact .inl ⟨h, h'⟩
            · exact .inr h
          · rintro (⟨h, h'⟩ | h)
            · exact ⟨.inl h, h'⟩
            · exact ⟨.inr h, by omega⟩
        rw [e]; exact V'
      · rintro (h | h)
        · obtain ⟨cb, hj⟩ := j0 h
          exact ⟨cb, by rw [hput d0 (by rw [hdo]; exact hd0 i (by omega))]; exact hj.ext hx⟩
        · omega
      · rintro (h | h)
        · obtain ⟨cb, hj⟩ := j1 h
          exact ⟨cb, by rw [hput d1 (by rw [hdo]; exact hd1 i (by omega))]; exact hj.ext hx⟩
        · omega
    · -- one of the two
      have key : ∀ (d dx : Tmp) (m mx : Nat) (ty : TypeId) (pos : String) (af : Array Edge), i = m → o = ⟨some d, .alloc t, ty, pos, af, none⟩ → (∀ k, k ≠ m → dstAt ops k ≠ some d) → d ≠ dx → env0 d = .top → (D mx → ∃ cb, Junk zs t ρ I w0 w (a.tmps.getD dx Go.undef) cb) → n ≤ m →
          (∀ (a' : Act) (w' : World) (cb : Nat), Ext ρ I w ρ I w' → Rel ρ I (hp 0) w'.heap → Inv P sz ops env0 val hp ρ0 I0 w0 (fun k => (D k ∨ k = i) ∧ k < n) ρ I c a' w' → Junk zs t ρ I w0 w' (a'.tmps.getD d Go.undef) cb → (D mx → ∃ cb', cb' ≠ cb ∧ Junk zs t ρ I w0 w' (a'.tmps.getD dx Go.undef) cb') → Kt a' w') → wpOp P ops Q i Kt a w := by
        intro d dx m mx ty pos af him hoe hdd hdx hdt jx hnm hkk
        subst him
        unfold wpOp
        rw [ho]
        simp only
        rw [hoe]
        rw [if_pos (by simp [Region.wanted])]
        refine .inl (alloc_wp hz (fun cz hcz => ?_))
        obtain ⟨r1, x1⟩ := rel_junk hrel (w1 := w.alloc (.cells cz t)) rfl rfl rfl rfl
        have hlt : d < a.tmps.size := by rw [V.size]; exact K.dsts i o d ho (by rw [hoe])
        have hnew : ((a.put (some d) (.pointer (some ⟨w.heap.size, 0, none⟩))).tmps.getD d Go.undef) = .pointer (some ⟨w.heap.size, 0, none⟩) := by simp [Act.put, hlt]
        refine hkk _ _ w.heap.size x1 r1 ?_ ?_ ?_
        · have e : (fun k => (D k ∨ k = i) ∧ k < n) = (fun k => D k ∧ k < n) := by
            funext k
            apply propext
            constructor
            · rintro ⟨h | h, h'⟩
              · exact ⟨h, h'⟩
              · omega
            · rintro ⟨h, h'⟩
              exact ⟨.inl h, h'⟩
          rw [e]
          refine ⟨by rw [hconst c hc]; exact r1, V.ext.trans x1, by simp [Act.put, V.size], V.defers, V.le, V.done, V.todo, fun t' => ?_⟩
          by_cases e' : t' = d
          · subst e'
            refine .inr ⟨fun k hk => hdd k (by have := hk.2; omega), by rw [hdt]; exact .top _⟩
          · rw [put_other (by intro h; cases h; exact e' rfl)]
            rcases V.slots t' with ⟨k, k1, k2, k3⟩ | ⟨k1, k2⟩
            · exact .inl ⟨k, k1, k2, k3.mono x1⟩
            · exact .inr ⟨k1, k2.mono x1⟩
        · refine ⟨hnew, ⟨cz, ?_, hcz⟩, V.ext.size, fun hI => by have := hrel.irng _ hI; omega, fun b base hb => ?_⟩
          · show (w.heap.push _)[w.heap.size]? = _
            simp
          · exact absurd (hrel.lt hb) (Nat.lt_irrefl _)
        · intro hDm
          obtain ⟨cb, hj⟩ := jx hDm
          refine ⟨cb, by have := hj.lt; omega, ?_⟩
          rw [put_other (by intro h; cases h; exact hdx rfl)]
          exact hj.ext x1
      have hnb' : ∀ j, n + 1 < j → j < ops.size → ¬ (D j ∨ j = i) := by
        rintro j hj hjs (h | h)
        · exact nl j hj hjs h
        · omega
      rcases (show i = n ∨ i = n + 1 by omega) with he | he
      · subst he
        rw [o0] at ho
        cases ho
        refine key d0 d1 i (i + 1) _ _ _ rfl rfl hd0 hne t0 j1 (Nat.le_refl _) ?_
        intro a' w' cb hx hr' V' hj hjx
        refine hK a' w' ?_
        by_cases hm : D (i + 1)
        · obtain ⟨cb', hcb, hj'⟩ := hjx hm
          obtain ⟨ρ2, W⟩ := adopt2 K h0 h1 tr0.1 tr1.1 tr1.2 (D := fun k => D k ∨ k = i) (.inr rfl) (.inl hm) hnb' hr' V' hj hj' (fun e => hcb e.symm)
          exact ⟨ρ2, I, i + 2, .inr ⟨.inr rfl, .inl hm, W⟩⟩
        · refine ⟨ρ, I, c, .inl ⟨?_, V', fun _ => ⟨cb, hj⟩, ?_⟩⟩
          · rintro ⟨_, h | h⟩
            · exact hm h
            · omega
          · rintro (h | h)
            · exact absurd h hm
            · omega
      · subst he
        rw [o1] at ho
        cases ho
        refine key d1 d0 (n + 1) n _ _ _ rfl rfl hd1 (fun e => hne e.symm) t1 j0 (by omega) ?_
        intro a' w' cb hx hr' V' hj hjx
        refine hK a' w' ?_
        by_cases hm : D n
        · obtain ⟨cb', hcb, hj'⟩ := hjx hm
          obtain ⟨ρ2, W⟩ := adopt2 K h0 h1 tr0.1 tr1.1 tr1.2 (D := fun k => D k ∨ k = n + 1) (.inl hm) (.inr rfl) hnb' hr' V' hj' hj hcb
          exact ⟨ρ2, I, n + 2, .inr ⟨.inl hm, .inr rfl, W⟩⟩
        · refine ⟨ρ, I, c, .inl ⟨?_, V', ?_, fun _ => ⟨cb, hj⟩⟩⟩
          · rintro ⟨h | h, _⟩
            · exact hm h
            · omega
          · rintro (h | h)
            · exact absurd h hm
            · omega
  · refine V.step0 K.toDOk0 T hD ho hi hr (fun k q hco hk hq hqc => ?_) ?_
    · have hin : n + 1 < i := by
        rcases Nat.lt_or_ge i n with h | h
        · rw [K.fl i o ho h] at hco; cases hco
        · rcases Nat.lt_or_ge (n + 1) i with h' | h'
          · exact h'
          · rcases (show i = n ∨ i = n + 1 by omega) with h'' | h''
            · exact absurd (h'' ▸ hDn) hi
            · exact absurd (h'' ▸ hDn1) hi
      exact hD.bef i k o ho hr (K.chain k i q o hk hq ho hqc hco hin)
    · intro ρ' I' c' a' w' V' _ _
      exact hK a' w' ⟨ρ', I', c', .inr ⟨.inl hDn, .inl hDn1, V'⟩⟩

/-- THE RULE: a trace of the text's order, two allocations in which float. -/
theorem scode_trace2 {id : Nat} {ty0 ty1 : TypeId} {pos0 pos1 : String} {af0 af1 : Array Edge} (hm : P.follows .mixedOrders = true) (hk : drawOk2 sz ops n = true) (o0 : ops[n]? = some ⟨some d0, .alloc t, ty0, pos0, af0, none⟩) (o1 : ops[n + 1]? = some ⟨some d1, .alloc t, ty1, pos1, af1, none⟩) (hz : zeroC P t = some zs)
    (t0 : env0 d0 = .top) (t1 : env0 d1 = .top) (T : Trace P ops env0 val hp) {Q : Exit → Env → Heap → Prop} (hQ : Q .normal (envAt ops env0 val ops.size) (hp ops.size)) :
    SCode P sz (.region id ops true) Q env0 (hp 0) := by
  intro ρ I w a Q' hr he hQ'
  have K := drawOk2_spec hk
  refine wp_region_any hm ?_
  have hw : Rel ρ I (hp 0) ({ w with drawn := w.drawn + 1 } : World).heap := hr
  have hno : ∀ k, ¬ ((Array.replicate ops.size false).getD k false = true) := by
    intro k
    simp only [Array.getD_eq_getD_getElem?, Array.getElem?_replicate]
    split <;> simp
  refine any_run (S := State2 P sz ops env0 val hp n d0 d1 zs t ρ I w) K.toDOk0 ?_ (fun D a w i o hD S ho hi hr Kt hK => state2_step K T o0 o1 hz t0 t1 hD S ho hi hr hK) ops.size _ a _ (by simp) (by simp) ?_ ?_
  · rintro D a w hall ⟨ρ1, I1, c, ⟨hnb, _⟩ | ⟨_, _, V⟩⟩
    · have h1 := (Array.getElem?_eq_some_iff.1 o0).1
      have h2 := (Array.getElem?_eq_some_iff.1 o1).1
      exact absurd ⟨hall n h1, hall (n + 1) h2⟩ hnb
    · have heq : hp ops.size = hp c := T.const' V.le (Nat.le_refl _) (fun k h1 h2 hk => by
        have := V.todo k hk (hall k h2); omega)
      refine hQ' _ _ _ ⟨_, _, ρ1, I1, hQ, by rw [heq]; exact V.rel, ⟨V.size, V.defers, fun t => ?_, V.rel.glob⟩, V.ext⟩
      rcases V.slots t with ⟨k, h1, h2, h3⟩ | ⟨h1, h2⟩
      · obtain ⟨p, hp1, hp2⟩ := dstAt_some h2
        have hk := (Array.getElem?_eq_some_iff.1 hp1).1
        rw [envAt_some h2 ops.size hk (fun m h4 h5 hm => by
          obtain ⟨q, hq1, hq2⟩ := dstAt_some hm
          exact K.apart k m p q h4 hp1 hq1 t hp2 hq2)]
        exact h3
      · rw [envAt_none ops.size (fun k hk => h1 k (hall k hk))]
        exact h2
  · intro i o hi
    exact absurd hi (hno i)
  · refine ⟨ρ, I, 0, .inl ⟨fun h => hno _ h.1, ⟨hw, { (Ext.refl ρ I w) with }, he.size, he.defers, Nat.zero_le _, fun i _ h => by omega, fun i _ h => absurd h.1 (hno i), fun t => .inr ⟨fun k hk => absurd hk.1 (hno k), he.val t⟩⟩, fun h => absurd h (hno _), fun h => absurd h (hno _)⟩⟩

theorem scode_draw2 {id : Nat} {bf : List Nat} {ty0 ty1 : TypeId} {pos0 pos1 : String} {af0 af1 : Array Edge} {Q : Exit → Env → Heap → Prop} {env : Env} {H : Heap} (n : Nat) (hm : P.follows .mixedOrders = true) (hk : drawOk2 sz ops n = true) (o0 : ops[n]? = some ⟨some d0, .alloc t, ty0, pos0, af0, none⟩) (o1 : ops[n + 1]? = some ⟨some d1, .alloc t, ty1, pos1, af1, none⟩) (hz : zeroC P t = some zs)
    (hbf : Region.before ops = bf.toArray) (h : WDraw P ops bf 0 ops.toList [] [] Q (fun k => if k = d0 ∨ k = d1 then .top else env k) H) : SCode P sz (.region id ops true) Q env H := by
  refine scode_weak (env' := fun k => if k = d0 ∨ k = d1 then .top else env k) (HW.refl H) (fun i => ?_) ?_
  · split
    · exact .top _
    · exact .same _
  obtain ⟨val, hp, h1, h2, h3⟩ := WDraw_trace (env0 := fun k => if k = d0 ∨ k = d1 then .top else env k) hbf ops.toList 0 [] [] (fun _ => .top) (fun _ => H) rfl (by simp)
    ⟨fun k o hk => by omega, fun y c q p hy => by omega, fun y c q p hc => by omega, fun c p hc => by omega, fun y q hy => by omega⟩ h
  have := scode_trace2 (id := id) hm hk o0 o1 hz (by simp) (by simp) h2 h3
  rw [h1 0 (Nat.le_refl _)] at this
  exact this
end
end Go.Fl
end Fl47S

noncomputable section Fl48S
namespace Go.Fl
open Go

/-- The two allocations are p and the one behind it; all ahead of them leaves the heap, all behind them comes behind both. -/
def drawOk3 (sz : Nat) (ops : Array Oper) (n : Nat) : Bool :=
  Nat.ble (n + 3) ops.size && dstsB sz ops && (List.range ops.size).all fun j => match ops[j]? with
    | none => true
    | some q => (q.after.all fun e => !Region.binds .any e || decide (e.on < j)) && (Nat.ble j (n + 1) || (bef ops n j && bef ops (n + 1) j && (List.range n).all fun k => match ops[k]? with | none => true | some p => !isC p || bef ops k j)) && (List.range j).all fun i => match ops[i]? with
      | none => true
      | some p => (p.dst.isNone || p.dst != q.dst) && (((q.looksAt ops).all fun t => p.dst != some t) || bef ops i j) && (((p.looksAt ops).all fun t => q.dst != some t) || bef ops i j) && (!isC p || !isC q || ((Nat.ble j (n + 1) && Nat.ble n j) || bef ops i j))


structure DOk3 (sz : Nat) (ops : Array Oper) (n : Nat) : Prop extends DOk0 sz ops where
  late : ∀ (j : Nat) (q : Oper), ops[j]? = some q → n + 1 < j → bef ops n j = true ∧ bef ops (n + 1) j = true
  late2 : ∀ (j k : Nat) (q p : Oper), ops[j]? = some q → n + 1 < j → k < n → ops[k]? = some p → isC p = true → bef ops k j = true
  chain : ∀ (i j : Nat) (p q : Oper), i < j → ops[i]? = some p → ops[j]? = some q → isC p = true → isC q = true → (j < n ∨ n + 1 < j) → bef ops i j = true
  more : n + 2 < ops.size

theorem drawOk3_spec {sz : Nat} {ops : Array Oper} {n : Nat} (h : drawOk3 sz ops n = true) : DOk3 sz ops n := by
  unfold drawOk3 at h
  simp only [Bool.and_eq_true] at h
  obtain ⟨⟨h0, h1⟩, h2⟩ := h
  have key : ∀ (i j : Nat) (p q : Oper), i < j → ops[i]? = some p → ops[j]? = some q →
      ((p.dst.isNone || p.dst != q.dst) && (((q.looksAt ops).all fun t => p.dst != some t) || bef ops i j) && (((p.looksAt ops).all fun t => q.dst != some t) || bef ops i j) && (!isC p || !isC q || ((Nat.ble j (n + 1) && Nat.ble n j) || bef ops i j))) = true := by
    intro i j p q hij hp hq
    have hj := (Array.getElem?_eq_some_iff.1 hq).1
    have h3 := List.all_eq_true.1 h2 j (by simp [hj])
    rw [hq] at h3
    simp only [Bool.and_eq_true] at h3
    have h4 := List.all_eq_true.1 h3.2 i (by simp [hij])
    rw [hp] at h4
    simpa only [Bool.and_eq_true] using h4
  have key2 : ∀ (j : Nat) (q : Oper), ops[j]? = some q → ((q.after.all fun e => !Region.binds .any e || decide (e.on < j)) = true) ∧ (Nat.ble j (n + 1) || (bef ops n j && bef ops (n + 1) j && (List.range n).all fun k => match ops[k]? with | none => true | some p => !isC p || bef ops k j)) = true := by
    intro j q hq
    have hj := (Array.getElem?_eq_some_iff.1 hq).1
    have h3 := List.all_eq_true.1 h2 j (by simp [hj])
    rw [hq] at h3
    simp only [Bool.and_eq_true] at h3
    obtain ⟨⟨h4, h5⟩, _⟩ := h3
    exact ⟨h4, by simpa only [Bool.and_eq_true] using h5⟩
  refine ⟨⟨dstsB_ok h1, ?_, ?_, ?_, ?_⟩, ?_, ?_, ?_, ?_⟩
  · intro j q hq e he hb
    have h4 := Array.all_eq_true'.1 (key2 j q hq).1 e he
    simpa [hb] using h4
  · intro i j p q hij hp hq t h3 h4
    have := key i j p q hij hp hq
    simp [h3, h4] at this
  · intro i j p q hij hp hq t h3 h4
    have := key i j p q hij hp hq
    simp only [Bool.and_eq_true, Bool.or_eq_true] at this
    rcases this.1.1.2 with h5 | h5
    · have := List.all_eq_true.1 h5 t h4
      simp [h3] at this
    · exact h5
  · intro i j p q hij hp hq t h3 h4
    have := key i j p q hij hp hq
    simp only [Bool.and_eq_true, Bool.or_eq_true] at this
    rcases this.1.2 with h5 | h5
    · have := List.all_eq_true.1 h5 t h4
      simp [h3] at this
    · exact h5
  · intro j q hq hlt
    have := (key2 j q hq).2
    simp only [Bool.or_eq_true, Nat.ble_eq, Bool.and_eq_true] at this
    rcases this with h | h
    · omega
    · exact h.1
  · intro j k q p hq hlt hk hp hpc
    have := (key2 j q hq).2
    simp only [Bool.or_eq_true, Nat.ble_eq, Bool.and_eq_true] at this
    rcases this with h | h
    · omega
    · have h2 := List.all_eq_true.1 h.2 k (List.mem_range.2 hk)
      rw [hp] at h2
      simpa [hpc] using h2
  · intro i j p q hij hp hq h3 h4 hlt
    have := key i j p q hij hp hq
    simp only [Bool.and_eq_true, Bool.or_eq_true, h3, h4, Nat.ble_eq] at this
    rcases this.2 with h | ⟨h, h'⟩ | h
    · simp at h
    · omega
    · exact h
  · have := Nat.ble_eq.mp h0; omega

section
variable {P : Program} {sz : Nat} {ops : Array Oper} {env0 : Env} {val : Nat → AV} {hp : Nat → Heap} {n : Nat} {d0 d1 : Tmp} {zs : List AV} {t : TypeId}

theorem adopt3 {D : Nat → Prop} (hch : ∀ (k : Nat) (q : Oper), k < n → ops[k]? = some q → isC q = true → D k) (h0 : dstAt ops n = some d0) (h1 : dstAt ops (n + 1) = some d1) (hv0 : val n = .ptr (hp n).next 0) (hv1 : val (n + 1) = .ptr ((hp n).next + 1) 0) (hh : hp (n + 2) = ((hp n).alloc zs).alloc zs)
    {ρ0 : Rho} {I0 : Nat → Prop} {w0 : World} {ρ : Rho} {I : Nat → Prop} {c : Nat} {a : Act} {w : World} (hDn : D n) (hDn1 : D (n + 1)) (nl : ∀ j, n + 1 < j → j < ops.size → ¬ D j)
    (hrel : Rel ρ I (hp n) w.heap) (V : Inv P sz ops env0 val hp ρ0 I0 w0 (fun k => D k ∧ k < n) ρ I c a w) {cb0 cb1 : Nat} (j0 : Junk zs t ρ I w0 w (a.tmps.getD d0 Go.undef) cb0) (j1 : Junk zs t ρ I w0 w (a.tmps.getD d1 Go.undef) cb1) (hne : cb0 ≠ cb1) :
    ∃ ρ2, Inv P sz ops env0 val hp ρ0 I0 w0 D ρ2 I (n + 2) a w := by
  obtain ⟨e0, ⟨c0, m0, z0⟩, l0, i0, u0⟩ := j0
  obtain ⟨e1, ⟨c1, m1, z1⟩, l1, i1, u1⟩ := j1
  have hz : ∀ (ρ : Rho) (c : Array Value), zs = c.toList.map .sc → zs.length ≤ c.size ∧ ∀ i x, zs[i]? = some x → VR ρ I w.heap x (c.getD i Go.undef) := by
    intro ρ c hc
    have := VRs_scs (ρ := ρ) (I := I) (w := w) c
    rw [← hc] at this
    exact ⟨Nat.le_of_eq (by rw [hc]; simp), this.2⟩
  obtain ⟨r1, q1⟩ := rel_adopt hrel m0 i0 u0 (hz ρ c0 z0).1 (hz ρ c0 z0).2
  have u1' : ∀ b base, (ρ.upd (hp n).next (some (cb0, 0))) b ≠ some (some (cb1, base)) := by
    intro b base hb
    by_cases e : b = (hp n).next
    · rw [e, Rho.upd_same] at hb; cases hb; exact hne rfl
    · rw [Rho.upd_other _ _ e] at hb; exact u1 _ _ hb
  obtain ⟨r2, q2⟩ := rel_adopt r1 m1 i1 u1' (hz ρ c1 z1).1 (hz _ c1 z1).2
  have hnx : ((hp n).alloc zs).next = (hp n).next + 1 := rfl
  rw [hnx] at r2 q2
  have q12 : ∀ b p, ρ b = some p → ((ρ.upd (hp n).next (some (cb0, 0))).upd ((hp n).next + 1) (some (cb1, 0))) b = some p := fun b p hb => q2 b p (q1 b p hb)
  have mono : ∀ x v, VR ρ I w.heap x v → VR ((ρ.upd (hp n).next (some (cb0, 0))).upd ((hp n).next + 1) (some (cb1, 0))) I w.heap x v := fun x v hx => hx.mono' q12 (fun _ h => h) (fun _ _ => rfl) (fun _ c _ fz h => ⟨c, fz, h, rfl⟩)
  obtain ⟨p1, hp1, hp1d⟩ := dstAt_some h1
  have hsz := (Array.getElem?_eq_some_iff.1 hp1).1
  refine ⟨_, ⟨by rw [hh]; exact r2, ?_, V.size, V.defers, by omega, ?_, ?_, ?_⟩⟩
  · exact { rho := fun b p hb => q12 b p (V.ext.rho b p hb)
            imm := V.ext.imm
            size := V.ext.size
            kept := V.ext.kept
            blocks := V.ext.blocks
            frame := V.ext.frame
            newI := V.ext.newI
            newR := fun b cb base hb => by
              by_cases e : b = (hp n).next + 1
              · rw [e, Rho.upd_same] at hb; cases hb; exact .inr (.inl l1)
              · rw [Rho.upd_other _ _ e] at hb
                by_cases e' : b = (hp n).next
                · rw [e', Rho.upd_same] at hb; cases hb; exact .inr (.inl l0)
                · rw [Rho.upd_other _ _ e'] at hb; exact V.ext.newR b cb base hb
            os := V.ext.os
            tape := V.ext.tape
            output := V.ext.output }
  · rintro i ⟨o, ho, hc, _⟩ hi
    by_cases e : i < n
    · exact hch i o e ho hc
    · by_cases e' : i = n
      · rw [e']; exact hDn
      · have : i = n + 1 := by omega
        rw [this]; exact hDn1
  · rintro i ⟨o, ho, _⟩ hi
    by_cases e : n + 1 < i
    · exact absurd hi (nl i e (Array.getElem?_eq_some_iff.1 ho).1)
    · omega
  · intro t'
    by_cases e : t' = d0
    · subst e
      refine .inl ⟨n, hDn, h0, ?_⟩
      rw [hv0, e0]
      exact .ptr (o := 0) (by rw [Rho.upd_other _ _ (by omega)]; exact Rho.upd_same _ _ _)
    · by_cases e' : t' = d1
      · subst e'
        refine .inl ⟨n + 1, hDn1, h1, ?_⟩
        rw [hv1, e1]
        exact .ptr (o := 0) (Rho.upd_same _ _ _)
      · rcases V.slots t' with ⟨k, hk1, hk2, hk3⟩ | ⟨hk1, hk2⟩
        · exact .inl ⟨k, hk1.1, hk2, mono _ _ hk3⟩
        · refine .inr ⟨fun k hk hd => ?_, mono _ _ hk2⟩
          by_cases x1 : k < n
          · exact hk1 k ⟨hk, x1⟩ hd
          · by_cases x2 : k = n
            · rw [x2, h0] at hd; cases hd; exact e rfl
            · by_cases x3 : k = n + 1
              · rw [x3, h1] at hd; cases hd; exact e' rfl
              · obtain ⟨q, hq, _⟩ := dstAt_some hd
                exact nl k (by omega) (Array.getElem?_eq_some_iff.1 hq).1 hk


/-- What holds when the operations in D have been carried out, two of them allocations that float. -/
def State3 (P : Program) (sz : Nat) (ops : Array Oper) (env0 : Env) (val : Nat → AV) (hp : Nat → Heap) (n : Nat) (d0 d1 : Tmp) (zs : List AV) (t : TypeId) (ρ0 : Rho) (I0 : Nat → Prop) (w0 : World) (D : Nat → Prop) (a : Act) (w : World) : Prop :=
  ∃ ρ I c, ((∀ j, n + 1 < j → j < ops.size → ¬ D j) ∧ Inv P sz ops env0 val hp ρ0 I0 w0 (fun k => D k ∧ k < n) ρ I c a w ∧ (D n → ∃ cb, Junk zs t ρ I w0 w (a.tmps.getD d0 Go.undef) cb) ∧ (D (n + 1) → ∃ cb, Junk zs t ρ I w0 w (a.tmps.getD d1 Go.undef) cb) ∧ (D n → D (n + 1) → ∀ cb, a.tmps.getD d0 Go.undef = .pointer (some ⟨cb, 0, none⟩) → a.tmps.getD d1 Go.undef ≠ .pointer (some ⟨cb, 0, none⟩))) ∨
    (D n ∧ D (n + 1) ∧ Inv P sz ops env0 val hp ρ0 I0 w0 D ρ I c a w)

theorem state3_step (K : DOk3 sz ops n) (T : Trace P ops env0 val hp) {ty0 ty1 : TypeId} {pos0 pos1 : String} {af0 af1 : Array Edge} (o0 : ops[n]? = some ⟨some d0, .alloc t, ty0, pos0, af0, none⟩) (o1 : ops[n + 1]? = some ⟨some d1, .alloc t, ty1, pos1, af1, none⟩) (hz : zeroC P t = some zs)
    (t0 : env0 d0 = .top) (t1 : env0 d1 = .top)
    {ρ0 : Rho} {I0 : Nat → Prop} {w0 : World} {D : Nat → Prop} {a : Act} {w : World} {i : Nat} {o : Oper} (hD : Closed ops D) (S : State3 P sz ops env0 val hp n d0 d1 zs t ρ0 I0 w0 D a w) (ho : ops[i]? = some o) (hi : ¬ D i) (hr : ∀ e ∈ o.after, Region.binds .any e = true → D e.on)
    {Kt : Act → World → Prop} {Q : Exit → Act → World → Prop} (hK : ∀ a' w', State3 P sz ops env0 val hp n d0 d1 zs t ρ0 I0 w0 (fun k => D k ∨ k = i) a' w' → Kt a' w') : wpOp P ops Q i Kt a w := by
  have h0 : dstAt ops n = some d0 := by simp [dstAt, o0]
  have h1 : dstAt ops (n + 1) = some d1 := by simp [dstAt, o1]
  have hne : d0 ≠ d1 := fun e => K.apart n (n + 1) _ _ (by omega) o0 o1 d0 rfl (by rw [e])
  have hd0 : ∀ k, k ≠ n → dstAt ops k ≠ some d0 := by
    intro k hk hd
    obtain ⟨p, hp1, hp2⟩ := dstAt_some hd
    rcases Nat.lt_or_gt_of_ne hk with h | h
    · exact K.apart k n p _ h hp1 o0 d0 hp2 rfl
    · exact K.apart n k _ p h o0 hp1 d0 rfl hp2
  have hd1 : ∀ k, k ≠ n + 1 → dstAt ops k ≠ some d1 := by
    intro k hk hd
    obtain ⟨p, hp1, hp2⟩ := dstAt_some hd
    rcases Nat.lt_or_gt_of_ne hk with h | h
    · exact K.apart k (n + 1) p _ h hp1 o1 d1 hp2 rfl
    · exact K.apart (n + 1) k _ p h o1 hp1 d1 rfl hp2
  have tr0 : val n = .ptr (hp n).next 0 ∧ hp (n + 1) = (hp n).alloc zs := by
    rcases T.step n _ o0 with ⟨h, _⟩ | ⟨_, h⟩
    · simp [awanted] at h
    · unfold StepTo at h
      simp only [aop, hz, Option.map_some, Option.some.injEq, Prod.mk.injEq] at h
      exact ⟨h.1.symm, h.2.symm⟩
  have tr1 : val (n + 1) = .ptr ((hp n).next + 1) 0 ∧ hp (n + 2) = ((hp n).alloc zs).alloc zs := by
    rcases T.step (n + 1) _ o1 with ⟨h, _⟩ | ⟨_, h⟩
    · simp [awanted] at h
    · unfold StepTo at h
      simp only [aop, hz, Option.map_some, Option.some.injEq, Prod.mk.injEq] at h
      rw [tr0.2] at h
      exact ⟨h.1.symm, h.2.symm⟩
  have one : ∀ (ρ : Rho) (I : Nat → Prop) (c : Nat), D n → D (n + 1) → Inv P sz ops env0 val hp ρ0 I0 w0 D ρ I c a w → wpOp P ops Q i Kt a w := by
    intro ρ I c hDn hDn1 V
    have hin : i < n ∨ n + 1 < i := by
      rcases Nat.lt_or_ge i n with h | h
      · exact .inl h
      · rcases Nat.lt_or_ge (n + 1) i with h' | h'
        · exact .inr h'
        · rcases (show i = n ∨ i = n + 1 by omega) with h'' | h''
          · exact absurd (h'' ▸ hDn) hi
          · exact absurd (h'' ▸ hDn1) hi
    refine V.step0 K.toDOk0 T hD ho hi hr (fun k q hco hk hq hqc => hD.bef i k o ho hr (K.chain k i q o hk hq ho hqc hco hin)) ?_
    intro ρ' I' c' a' w' V' _ _
    exact hK a' w' ⟨ρ', I', c', .inr ⟨.inl hDn, .inl hDn1, V'⟩⟩
  obtain ⟨ρ, I, c, ⟨nl, V, j0, j1, j2⟩ | ⟨hDn, hDn1, V⟩⟩ := S
  · have hc : c ≤ n := by
      rcases Nat.lt_or_ge n c with h | h
      · have hch : ChainAt ops env0 val n := ⟨_, o0, rfl, by simp [awanted]⟩
        have := (V.done n hch h).2
        omega
      · exact h
    by_cases hin : i < n
    · -- an operation ahead of both
      have hD' : Closed ops (fun k => D k ∧ k < n) := fun k q hk hq e he hb => ⟨hD k q hk.1 hq e he hb, by have := K.acyc k q hq e he hb; have := hk.2; omega⟩
      have hr' : ∀ e ∈ o.after, Region.binds .any e = true → D e.on ∧ e.on < n := fun e he hb => ⟨hr e he hb, by have := K.acyc i o ho e he hb; omega⟩
      refine V.step0 K.toDOk0 T hD' ho (fun h => hi h.1) hr' (fun k q hco hk hq hqc => hD'.bef i k o ho hr' (K.chain k i q o hk hq ho hqc hco (.inl hin))) ?_
      intro ρ' I' c' a' w' V' hx hput
      have hdo : o.dst = dstAt ops i := by simp [dstAt, ho]
      have p0 := hput d0 (by rw [hdo]; exact hd0 i (by omega))
      have p1 := hput d1 (by rw [hdo]; exact hd1 i (by omega))
      refine hK a' w' ⟨ρ', I', c', .inl ⟨?_, ?_, ?_, ?_, ?_⟩⟩
      · rintro j hj hjs (h | h)
        · exact nl j hj hjs h
        · omega
      · have e : (fun k => (D k ∨ k = i) ∧ k < n) = (fun k => (D k ∧ k < n) ∨ k = i) := by
          funext k
          apply propext
          constructor
          · rintro ⟨h | h, h'⟩
            · exact .inl ⟨h, h'⟩
            · exact .inr h
          · rintro (⟨h, h'⟩ | h)
            · exact ⟨.inl h, h'⟩
            · exact ⟨.inr h, by omega⟩
        rw [e]; exact V'
      · rintro (h | h)
        · obtain ⟨cb, hj⟩ := j0 h
          exact ⟨cb, by rw [p0]; exact hj.ext hx⟩
        · omega
      · rintro (h | h)
        · obtain ⟨cb, hj⟩ := j1 h
          exact ⟨cb, by rw [p1]; exact hj.ext hx⟩
        · omega
      · rintro (h | h) (h' | h')
        · rw [p0, p1]; exact j2 h h'
        · omega
        · omega
        · omega
    · by_cases hbig : n + 1 < i
      · -- one behind both: now they are adopted
        have hl := K.late i o ho hbig
        have hDn := hD.bef i n o ho hr hl.1
        have hDn1 := hD.bef i (n + 1) o ho hr hl.2
        have HCH : ∀ (k : Nat) (q : Oper), k < n → ops[k]? = some q → isC q = true → D k := by
          intro k q hk hq hqc
          exact hD.bef i k o ho hr (K.late2 i k o q ho hbig hk hq hqc)
        have hns : n ≤ ops.size := by have := K.more; omega
        have hcn : hp n = hp c := T.const' hc hns (fun k hk1 hk2 hx => by
          obtain ⟨q, hq, hqc, hw⟩ := hx
          have := V.todo k ⟨q, hq, hqc, hw⟩ ⟨HCH k q hk2 hq hqc, hk2⟩
          omega)
        obtain ⟨cb0, J0⟩ := j0 hDn
        obtain ⟨cb1, J1⟩ := j1 hDn1
        obtain ⟨ρ2, W⟩ := adopt3 HCH h0 h1 tr0.1 tr1.1 tr1.2 hDn hDn1 nl (by rw [hcn]; exact V.rel) V J0 J1 (fun e => j2 hDn hDn1 cb0 J0.1 (by rw [e]; exact J1.1))
        exact one ρ2 I (n + 2) hDn hDn1 W
      · -- one of the two
        have key : ∀ (d dx : Tmp) (m mx : Nat) (ty : TypeId) (pos : String) (af : Array Edge), i = m → o = ⟨some d, .alloc t, ty, pos, af, none⟩ → (∀ k, k ≠ m → dstAt ops k ≠ some d) → d ≠ dx → env0 d = .top → (D mx → ∃ cb, Junk zs t ρ I w0 w (a.tmps.getD dx Go.undef) cb) → n ≤ m →
            (∀ (a' : Act) (w' : World) (cb : Nat), Inv P sz ops env0 val hp ρ0 I0 w0 (fun k => (D k ∨ k = i) ∧ k < n) ρ I c a' w' → Junk zs t ρ I w0 w' (a'.tmps.getD d Go.undef) cb → (D mx → ∃ cb', cb' ≠ cb ∧ Junk zs t ρ I w0 w' (a'.tmps.getD dx Go.undef) cb') → Kt a' w') → wpOp P ops Q i Kt a w := by
          intro d dx m mx ty pos af him hoe hdd hdx hdt jx hnm hkk
          subst him
          unfold wpOp
          rw [ho]
          simp only
          rw [hoe]
          rw [if_pos (by simp [Region.wanted])]
          refine .inl (alloc_wp hz (fun cz hcz => ?_))
          obtain ⟨r1, x1⟩ := rel_junk V.rel (w1 := w.alloc (.cells cz t)) rfl rfl rfl rfl
          have hlt : d < a.tmps.size := by rw [V.size]; exact K.dsts i o d ho (by rw [hoe])
          have hnew : ((a.put (some d) (.pointer (some ⟨w.heap.size, 0, none⟩))).tmps.getD d Go.undef) = .pointer (some ⟨w.heap.size, 0, none⟩) := by simp [Act.put, hlt]
          refine hkk _ _ w.heap.size ?_ ?_ ?_
          · have e : (fun k => (D k ∨ k = i) ∧ k < n) = (fun k => D k ∧ k < n) := by
              funext k
              apply propext
              constructor
              · rintro ⟨h | h, h'⟩
                · exact ⟨h, h'⟩
                · omega
              · rintro ⟨h, h'⟩
                exact ⟨.inl h, h'⟩
            rw [e]
            refine ⟨r1, V.ext.trans x1, by simp [Act.put, V.size], V.defers, V.le, V.done, V.todo, fun t' => ?_⟩
            by_cases e' : t' = d
            · subst e'
              refine .inr ⟨fun k hk => hdd k (by have := hk.2; omega), by rw [hdt]; exact .top _⟩
            · rw [put_other (by intro h; cases h; exact e' rfl)]
              rcases V.slots t' with ⟨k, k1, k2, k3⟩ | ⟨k1, k2⟩
              · exact .inl ⟨k, k1, k2, k3.mono x1⟩
              · exact .inr ⟨k1, k2.mono x1⟩
          · refine ⟨hnew, ⟨cz, ?_, hcz⟩, V.ext.size, fun hI => by have := V.rel.irng _ hI; omega, fun b base hb => ?_⟩
            · show (w.heap.push _)[w.heap.size]? = _
              simp
            · exact absurd (V.rel.lt hb) (Nat.lt_irrefl _)
          · intro hDm
            obtain ⟨cb, hj⟩ := jx hDm
            refine ⟨cb, by have := hj.lt; omega, ?_⟩
            rw [put_other (by intro h; cases h; exact hdx rfl)]
            exact hj.ext x1
        rcases (show i = n ∨ i = n + 1 by omega) with he | he
        · subst he
          rw [o0] at ho
          cases ho
          refine key d0 d1 i (i + 1) _ _ _ rfl rfl hd0 hne t0 j1 (Nat.le_refl _) ?_
          intro a' w' cb V' hj hjx
          refine hK a' w' ⟨ρ, I, c, .inl ⟨?_, V', fun _ => ⟨cb, hj⟩, ?_, ?_⟩⟩
          · rintro j hj' hjs (h | h)
            · exact nl j hj' hjs h
            · omega
          · rintro (h | h)
            · obtain ⟨cb', _, hj'⟩ := hjx h
              exact ⟨cb', hj'⟩
            · omega
          · rintro _ (h | h) cx e0 e1
            · obtain ⟨cb', hcb, hj'⟩ := hjx h
              rw [hj.1] at e0
              rw [hj'.1] at e1
              cases e0; cases e1
              exact hcb rfl
            · omega
        · subst he
          rw [o1] at ho
          cases ho
          refine key d1 d0 (n + 1) n _ _ _ rfl rfl hd1 (fun e => hne e.symm) t1 j0 (by omega) ?_
          intro a' w' cb V' hj hjx
          refine hK a' w' ⟨ρ, I, c, .inl ⟨?_, V', ?_, fun _ => ⟨cb, hj⟩, ?_⟩⟩
          · rintro j hj' hjs (h | h)
            · exact nl j hj' hjs h
            · omega
          · rintro (h | h)
            · obtain ⟨cb', _, hj'⟩ := hjx h
              exact ⟨cb', hj'⟩
            · omega
          · rintro (h | h) _ cx e0 e1
            · obtain ⟨cb', hcb, hj'⟩ := hjx h
              rw [hj.1] at e1
              rw [hj'.1] at e0
              cases e0; cases e1
              exact hcb rfl
            · omega
  · exact one ρ I c hDn hDn1 V


/-- THE RULE: a trace of the text's order, two allocations in which float. -/
theorem scode_trace3 {id : Nat} {ty0 ty1 : TypeId} {pos0 pos1 : String} {af0 af1 : Array Edge} (hm : P.follows .mixedOrders = true) (hk : drawOk3 sz ops n = true) (o0 : ops[n]? = some ⟨some d0, .alloc t, ty0, pos0, af0, none⟩) (o1 : ops[n + 1]? = some ⟨some d1, .alloc t, ty1, pos1, af1, none⟩) (hz : zeroC P t = some zs)
    (t0 : env0 d0 = .top) (t1 : env0 d1 = .top) (T : Trace P ops env0 val hp) {Q : Exit → Env → Heap → Prop} (hQ : Q .normal (envAt ops env0 val ops.size) (hp ops.size)) :
    SCode P sz (.region id ops true) Q env0 (hp 0) := by
  intro ρ I w a Q' hr he hQ'
  have K := drawOk3_spec hk
  refine wp_region_any hm ?_
  have hw : Rel ρ I (hp 0) ({ w with drawn := w.drawn + 1 } : World).heap := hr
  have hno : ∀ k, ¬ ((Array.replicate ops.size false).getD k false = true) := by
    intro k
    simp only [Array.getD_eq_getD_getElem?, Array.getElem?_replicate]
    split <;> simp
  refine any_run (S := State3 P sz ops env0 val hp n d0 d1 zs t ρ I w) K.toDOk0 ?_ (fun D a w i o hD S ho hi hr Kt hK => state3_step K T o0 o1 hz t0 t1 hD S ho hi hr hK) ops.size _ a _ (by simp) (by simp) ?_ ?_
  · rintro D a w hall ⟨ρ1, I1, c, ⟨nl, _⟩ | ⟨_, _, V⟩⟩
    · exact absurd (hall (n + 2) K.more) (nl (n + 2) (by omega) K.more)
    · have heq : hp ops.size = hp c := T.const' V.le (Nat.le_refl _) (fun k h1 h2 hk => by
        have := V.todo k hk (hall k h2); omega)
      refine hQ' _ _ _ ⟨_, _, ρ1, I1, hQ, by rw [heq]; exact V.rel, ⟨V.size, V.defers, fun t => ?_, V.rel.glob⟩, V.ext⟩
      rcases V.slots t with ⟨k, h1, h2, h3⟩ | ⟨h1, h2⟩
      · obtain ⟨p, hp1, hp2⟩ := dstAt_some h2
        have hk := (Array.getElem?_eq_some_iff.1 hp1).1
        rw [envAt_some h2 ops.size hk (fun m h4 h5 hm => by
          obtain ⟨q, hq1, hq2⟩ := dstAt_some hm
          exact K.apart k m p q h4 hp1 hq1 t hp2 hq2)]
        exact h3
      · rw [envAt_none ops.size (fun k hk => h1 k (hall k hk))]
        exact h2
  · intro i o hi
    exact absurd hi (hno i)
  · refine ⟨ρ, I, 0, .inl ⟨fun j _ _ h => hno _ h, ⟨hw, { (Ext.refl ρ I w) with }, he.size, he.defers, Nat.zero_le _, fun i _ h => by omega, fun i _ h => absurd h.1 (hno i), fun t => .inr ⟨fun k hk => absurd hk.1 (hno k), he.val t⟩⟩, fun h => absurd h (hno _), fun h => absurd h (hno _), fun h => absurd h (hno _)⟩⟩

theorem scode_draw3 {id : Nat} {bf : List Nat} {ty0 ty1 : TypeId} {pos0 pos1 : String} {af0 af1 : Array Edge} {Q : Exit → Env → Heap → Prop} {env : Env} {H : Heap} (n : Nat) (hm : P.follows .mixedOrders = true) (hk : drawOk3 sz ops n = true) (o0 : ops[n]? = some ⟨some d0, .alloc t, ty0, pos0, af0, none⟩) (o1 : ops[n + 1]? = some ⟨some d1, .alloc t, ty1, pos1, af1, none⟩) (hz : zeroC P t = some zs)
    (hbf : Region.before ops = bf.toArray) (h : WDraw P ops bf 0 ops.toList [] [] Q (fun k => if k = d0 ∨ k = d1 then .top else env k) H) : SCode P sz (.region id ops true) Q env H := by
  refine scode_weak (env' := fun k => if k = d0 ∨ k = d1 then .top else env k) (HW.refl H) (fun i => ?_) ?_
  · split
    · exact .top _
    · exact .same _
  obtain ⟨val, hp, h1, h2, h3⟩ := WDraw_trace (env0 := fun k => if k = d0 ∨ k = d1 then .top else env k) hbf ops.toList 0 [] [] (fun _ => .top) (fun _ => H) rfl (by simp)
    ⟨fun k o hk => by omega, fun y c q p hy => by omega, fun y c q p hc => by omega, fun c p hc => by omega, fun y q hy => by omega⟩ h
  have := scode_trace3 (id := id) hm hk o0 o1 hz (by simp) (by simp) h2 h3
  rw [h1 0 (Nat.le_refl _)] at this
  exact this

end
end Go.Fl
end Fl48S

noncomputable section Fl49S
namespace Go.Fl
open Go

theorem scode_alloc_ty {P : Program} {sz id : Nat} {d : Tmp} {t ty : TypeId} {pos : String} {af : Array Edge} {zs : List AV} {Q : Exit → Env → Heap → Prop} {env : Env} {H : Heap} (hz : zeroC P t = some zs) (hd : d < sz)
    (hQ : Q .normal (env.upd (some d) (.ty t zs.length (.ptr H.next 0))) (H.alloc zs)) : SCode P sz (.region id #[⟨some d, .alloc t, ty, pos, af, none⟩] false) Q env H := by
  intro ρ I w a Q' hr he hQ'
  refine wp_region_list ?_
  obtain ⟨z, h2, rfl⟩ := zeroC_run P hz w
  have hzz := VRs_scs (ρ := ρ) (I := I) (w := w) z.cells
  obtain ⟨k1, k2⟩ := rel_alloc (w1 := w.alloc (.cells z.cells t)) hr (cs := z.cells.toList.map .sc) (c := z.cells) (e := t) rfl rfl rfl rfl (by simp) hzz.2
  have hnew : (w.alloc (.cells z.cells t)).heap[w.heap.size]? = some (.cells z.cells t (0, 0)) := by show (w.heap.push _)[w.heap.size]? = _; simp
  have hv : VR (ρ.upd H.next (some (w.heap.size, 0))) I (w.alloc (.cells z.cells t)).heap (.ty t (z.cells.toList.map AV.sc).length (.ptr H.next 0)) (.pointer (some ⟨w.heap.size, 0, none⟩)) :=
    .ty (.ptr (o := 0) (Rho.upd_same _ _ _)) ⟨rfl, _, _, hnew, by simp⟩
  have hrun : (execOp a.eval ⟨some d, .alloc t, ty, pos, af, none⟩).run P w = .ok (.value (.pointer (some ⟨w.heap.size, 0, none⟩))) (w.alloc (.cells z.cells t)) := by
    simp [execOp, Instr.alloc, h2, newVar, newRow]
  have hfin := hQ' _ (a.put (some d) (.pointer (some ⟨w.heap.size, 0, none⟩))) _ ⟨_, _, _, _, hQ, k1, (he.mono k2).put (fun t ht => by cases ht; exact hd) hv, k2⟩
  have hw : Region.wanted ⟨some d, .alloc t, ty, pos, af, none⟩ (yielded #[⟨some d, .alloc t, ty, pos, af, none⟩] a.tmps) = true := rfl
  simp only [wpList]
  rw [if_pos hw]
  refine .inl ?_
  unfold Oper.wp
  rw [hrun]
  exact hfin

/-- A frame that says less of one slot. -/
theorem scode_less {P : Program} {sz : Nat} {c : Code} {Q : Exit → Env → Heap → Prop} {env : Env} {H : Heap} (i : Nat) {y : AV} (h : Wk (env i) y) (hc : SCode P sz c Q (env.upd (some i) y) H) : SCode P sz c Q env H :=
  scode_weak (HW.refl H) (fun j => by
    by_cases e : i = j
    · subst e; rw [upd_same]; exact h
    · rw [upd_ne _ _ _ _ e]; exact .same _) hc

theorem HW.set {H : Heap} {b : Nat} {cs cs' : List AV} (hb : H.get b = some cs) (hl : WkL cs cs') : HW (H.set b cs') H := by
  refine ⟨Nat.le_refl _, fun k c hk => ?_⟩
  rw [Heap.get_set] at hk
  split at hk
  · rename_i e
    rw [e, hb] at hk
    cases hk
    exact ⟨cs, by rw [e]; exact hb, hl.get.1, hl.get.2⟩
  · exact ⟨c, hk, rfl, fun i x x' hx hx' => by rw [hx] at hx'; cases hx'; exact .same _⟩

theorem scode_less_heap {P : Program} {sz : Nat} {c : Code} {Q : Exit → Env → Heap → Prop} {env : Env} {H : Heap} {b : Nat} {cs cs' : List AV} (hb : H.get b = some cs) (hl : WkL cs cs') (hc : SCode P sz c Q env (H.set b cs')) : SCode P sz c Q env H :=
  scode_weak (HW.set hb hl) (fun j => .same _) hc

/-- A block of which the concrete one is frozen is given up. -/
theorem rel_fz {ρ : Rho} {I : Nat → Prop} {H : Heap} {w w1 : World} (h : Rel ρ I H w.heap) {b g base : Nat} {cs : List AV} {c : Array Value} {e : TypeId} {fz fz' : Nat × Nat} (hb : H.get b = some cs) (hρ : ρ b = some (some (g, base)))
    (hI : ¬ I g) (hc : w.heap[g]? = some (.cells c e fz)) (hc' : w1.heap[g]? = some (.cells c e fz')) (hsz : w1.heap.size = w.heap.size) (ho : ∀ k, k ≠ g → w1.heap[k]? = w.heap[k]?) (hos : w1.os = w.os) (ht : w1.tape = w.tape) (hou : w1.output = w.output) :
    Rel ρ I (H.del b) w1.heap ∧ Ext ρ I w ρ I w1 := by
  have hx : Ext ρ I w ρ I w1 :=
    { rho := fun _ _ h => h
      imm := fun _ h => h
      size := Nat.le_of_eq hsz.symm
      kept := fun cb hcb => ho cb (fun e => hI (e ▸ hcb))
      blocks := fun cb c1 e1 fz1 hcb => by
        by_cases hg : cb = g
        · subst hg
          rw [hc] at hcb; cases hcb
          exact ⟨_, _, hc', rfl⟩
        · exact ⟨_, _, by rw [ho cb hg]; exact hcb, rfl⟩
      frame := fun cb _ hno => ho cb (fun e => hno b base (by rw [e]; exact hρ))
      newI := fun _ h => .inl h
      newR := fun _ _ _ h => .inl h
      os := hos
      tape := ht
      output := hou }
  refine ⟨⟨?_, ?_, h.rng, ?_, ?_, h.glob.ext hx.imm hx.kept⟩, hx⟩
  · intro k ck hk
    rw [Heap.get_del] at hk
    split at hk
    · cases hk
    · rename_i hkb
      rcases h.live k ck hk with h2 | ⟨cb, base', c', e', h2, h3, ⟨fz4, hf4, h4⟩, h5, h6⟩
      · exact .inl h2
      · have hne : cb ≠ g := fun e1 => hkb (h.inj k b ck cs cb base' base hk hb h2 (by rw [e1]; exact hρ))
        exact .inr ⟨cb, base', c', e', h2, h3, ⟨fz4, hf4, by rw [ho cb hne]; exact h4⟩, h5, fun i x hx' => (h6 i x hx').mono hx⟩
  · intro k k' ck ck' cb b1 b2 hk hk'
    rw [Heap.get_del] at hk hk'
    split at hk
    · cases hk
    · split at hk'
      · cases hk'
      · exact h.inj k k' ck ck' cb b1 b2 hk hk'
  · intro k cb base' hk
    obtain ⟨c1, e1, fz1, h1⟩ := h.at_ k cb base' hk
    obtain ⟨c2, fz2, h2, _⟩ := hx.blocks cb c1 e1 fz1 h1
    exact ⟨c2, e1, fz2, h2⟩
  · intro cb hcb
    have := h.irng cb hcb
    omega

/-- A row that is grown no more is kept. -/
theorem scode_freeze_grown {P : Program} {sz : Nat} {c : Code} {Q : Exit → Env → Heap → Prop} {env : Env} {H : Heap} (i : Nat) {x : AV} {n k : Nat} {cs : List AV} {bo : Option Nat} (hi : env i = x) (hg : grown H k x = some (n, cs, bo))
    (h : SCode P sz c Q (env.upd (some i) (.vs n k cs)) (H.delo bo)) : SCode P sz c Q env H := by
  refine scode_freeze (H' := H.delo bo) (H.delo_le bo) (H.delo_next bo).symm (fun j => ?_) h
  by_cases hj : i = j
  · subst hj
    rw [upd_same, hi]
    refine grown_froz hg fun b hb => ?_
    subst hb
    show (H.del b).get b = none
    rw [Heap.get_del, if_pos rfl]
  · rw [upd_ne _ _ _ _ hj]
    exact .same _
end Go.Fl
end Fl49S

noncomputable section Fl50S
namespace Go.Fl
open Go

section
variable {P : Program} {sz : Nat} {ops : Array Oper}

theorem WStep_of {o : Oper} {env : Env} {H : Heap} {x : AV} {H' : Heap} {K : AV → Heap → Prop} (h : StepTo P o env H x H') (hk : K x H') : WStep P o env H K := by
  obtain ⟨dst, op, type, pos, after, guard⟩ := o
  unfold StepTo at h
  unfold WStep
  split at h
  · rename_i f args argTypes hop
    simp only at hop
    subst hop
    obtain ⟨k, first, captured, hf, hc⟩ := h
    simp only [hf]
    exact ⟨x, H', hc, hk⟩
  · rename_i hno
    split
    · rename_i f args argTypes hop
      simp only at hop
      exact absurd hop (hno _ _ _)
    · rw [h]; exact hk

theorem wdraw_tail {bf : List Nat} {Q : Exit → Env → Heap → Prop} : ∀ (rest : List Oper) (i : Nat) (st : List (Nat × Heap)) (ld : List (Nat × Oper × Env × AV)) (env : Env) (H : Heap),
    (∀ o ∈ rest, isL o = false) → (∀ y q e x, (y, q, e, x) ∈ ld → ∀ j, i ≤ j → j < i + rest.length → befL bf y j = true) → WOps P ops Q rest env H → WDraw P ops bf i rest st ld Q env H
  | [], i, st, ld, env, H, _, _, h => h
  | o :: rest, i, st, ld, env, H, hL, hld, h => by
    have hLo := hL o List.mem_cons_self
    have hL' : ∀ o ∈ rest, isL o = false := fun o ho => hL o (List.mem_cons_of_mem _ ho)
    have hld' : ∀ y q e x, (y, q, e, x) ∈ ld → ∀ j, i + 1 ≤ j → j < i + 1 + rest.length → befL bf y j = true := fun y q e x hm j h1 h2 => hld y q e x hm j (by omega) (by simp only [List.length_cons]; omega)
    have hl : ∀ (l : List (Nat × Oper × Env × AV)), (∀ y q e x, (y, q, e, x) ∈ l → befL bf y i = true) → ∀ H', ldOk P bf i H' l := by
      intro l
      induction l with
      | nil => intro _ _; trivial
      | cons a l ih =>
        obtain ⟨y, q, e, x⟩ := a
        intro hl H'
        exact ⟨.inl (hl y q e x List.mem_cons_self), ih (fun y q e x hm => hl y q e x (List.mem_cons_of_mem _ hm)) H'⟩
    have hli := hl ld fun y q e x hm => hld y q e x hm i (Nat.le_refl _) (by simp)
    have h1 := WOp_cases h
    simp only [WDraw]
    rcases h1 with ⟨ha, hk⟩ | ⟨ha, x, H', hst, hk⟩
    · simp only [ha]
      exact wdraw_tail rest _ st ld _ H hL' hld' hk
    · simp only [ha]
      by_cases hp : isP o = true
      · simp only [hp, if_true]
        have hc : isC o = false := by simp [isC, hp]
        have hx := StepTo_aop hc hst
        obtain ⟨rfl, _⟩ := aop_pure hp hx
        simp only [hx]
        exact wdraw_tail rest _ st ld _ _ hL' hld' hk
      · simp only [hp, hLo, Bool.false_eq_true, if_false]
        exact WStep_of hst ⟨hli H', wdraw_tail rest _ _ ld _ _ hL' hld' hk⟩

theorem wdraw_s_tail {bf : List Nat} {Q : Exit → Env → Heap → Prop} {l2 : List Oper} (hL2 : ∀ o ∈ l2, isL o = false) : ∀ (l1 : List Oper) (i : Nat) (st : List (Nat × Heap)) (ld : List (Nat × Oper × Env × AV)) (env : Env) (H : Heap),
    (∀ c Hc, (c, Hc) ∈ st → Hc = H) → (∀ y q e x, (y, q, e, x) ∈ ld → aop P q (aev e) H = some (x, H) ∧ ∀ j, i + l1.length ≤ j → j < i + l1.length + l2.length → befL bf y j = true) →
    (∀ (m : Nat) (o : Oper), l1[m]? = some o → isL o = true → ∀ j, i + l1.length ≤ j → j < i + l1.length + l2.length → befL bf (i + m) j = true) →
    WSOps P ops (thenA (WOps P ops Q l2) Q) l1 env H → WDraw P ops bf i (l1 ++ l2) st ld Q env H
  | [], i, st, ld, env, H, _, hld, _, h => wdraw_tail l2 i st ld env H hL2 (fun y q e x hm j h1 h2 => (hld y q e x hm).2 j (by simpa using h1) (by simpa using h2)) h
  | o :: rest, i, st, ld, env, H, hst, hld, hB, h => by
    have hl : ∀ (l : List (Nat × Oper × Env × AV)), (∀ y q e x, (y, q, e, x) ∈ l → aop P q (aev e) H = some (x, H)) → ldOk P bf i H l := by
      intro l
      induction l with
      | nil => intro _; trivial
      | cons a l ih =>
        obtain ⟨y, q, e, x⟩ := a
        intro hl
        exact ⟨.inr (hl y q e x List.mem_cons_self), ih (fun y q e x hm => hl y q e x (List.mem_cons_of_mem _ hm))⟩
    have hld1 : ∀ y q e x, (y, q, e, x) ∈ ld → aop P q (aev e) H = some (x, H) ∧ ∀ j, i + 1 + rest.length ≤ j → j < i + 1 + rest.length + l2.length → befL bf y j = true := fun y q e x hm =>
      ⟨(hld y q e x hm).1, fun j h1 h2 => (hld y q e x hm).2 j (by simp only [List.length_cons]; omega) (by simp only [List.length_cons]; omega)⟩
    have hB1 : ∀ (m : Nat) (o : Oper), rest[m]? = some o → isL o = true → ∀ j, i + 1 + rest.length ≤ j → j < i + 1 + rest.length + l2.length → befL bf (i + 1 + m) j = true := fun m o hm hLo j h1 h2 => by
      have := hB (m + 1) o (by simpa using hm) hLo j (by simp only [List.length_cons]; omega) (by simp only [List.length_cons]; omega)
      rwa [show i + (m + 1) = i + 1 + m by omega] at this
    simp only [WSOps, WSOp] at h
    simp only [List.cons_append, WDraw]
    cases ha : awanted ops o env with
    | none => simp only [ha] at h
    | some b =>
      cases b with
      | false => simp only [ha] at h ⊢; exact wdraw_s_tail hL2 rest _ st ld _ H hst hld1 hB1 h
      | true =>
        simp only [ha] at h ⊢
        by_cases hp : isP o = true
        · simp only [hp, if_true] at h ⊢
          cases hx : aop P o (aev env) H with
          | none => simp only [hx] at h
          | some y => simp only [hx] at h ⊢; exact wdraw_s_tail hL2 rest _ st ld _ H hst hld1 hB1 h
        · by_cases hL : isL o = true
          · simp only [hp, hL, if_true, Bool.false_eq_true, if_false] at h ⊢
            cases hx : aop P o (aev env) H with
            | none => simp only [hx] at h
            | some y =>
              obtain ⟨x, H'⟩ := y
              simp only [hx] at h ⊢
              obtain ⟨rfl, h⟩ := h
              refine ⟨?_, wdraw_s_tail hL2 rest _ st _ _ _ hst ?_ hB1 h⟩
              · have : ∀ (l : List (Nat × Heap)), (∀ c Hc, (c, Hc) ∈ l → Hc = H') → stOk P bf i o env x l := by
                  intro l
                  induction l with
                  | nil => intro _; trivial
                  | cons a l ih =>
                    intro hl
                    obtain ⟨c, Hc⟩ := a
                    refine ⟨.inr ?_, ih fun c Hc hm => hl c Hc (List.mem_cons_of_mem _ hm)⟩
                    rw [hl c Hc List.mem_cons_self]
                    exact hx
                exact this st hst
              · intro y q e x' hm
                rcases List.mem_cons.1 hm with e1 | hm
                · cases e1
                  exact ⟨hx, fun j h1 h2 => by
                    have := hB 0 o rfl hL j (by simp only [List.length_cons]; omega) (by simp only [List.length_cons]; omega)
                    rwa [Nat.add_zero] at this⟩
                · exact hld1 y q e x' hm
          · simp only [hp, hL, Bool.false_eq_true, if_false] at h ⊢
            refine h.mono fun x H' h' => ?_
            obtain ⟨rfl, h'⟩ := h'
            refine ⟨hl ld fun y q e x hm => (hld y q e x hm).1, wdraw_s_tail hL2 rest _ _ ld _ _ ?_ hld1 hB1 h'⟩
            intro c Hc hm
            rcases List.mem_cons.1 hm with e1 | hm
            · cases e1; rfl
            · exact hst c Hc hm

def tailB (ops : Array Oper) (bf : List Nat) (n : Nat) : Bool :=
  Nat.ble n ops.size && (ops.toList.drop n).all (fun o => !isL o) && (List.range n).all fun y => match ops[y]? with
    | some q => !isL q || (List.range (ops.size - n)).all fun j => befL bf y (n + j)
    | none => true

theorem scode_drawST {id : Nat} {bf : List Nat} {Q : Exit → Env → Heap → Prop} {env : Env} {H : Heap} (n : Nat) (hm : P.follows .mixedOrders = true) (hk : drawOk sz ops = true) (hbf : Region.before ops = bf.toArray) (ht : tailB ops bf n = true)
    (h : ∀ K : Env → Heap → Prop, (∀ env H, WOps P ops Q (ops.toList.drop n) env H → K env H) → WSOps P ops (thenA K Q) (ops.toList.take n) env H) : SCode P sz (.region id ops true) Q env H := by
  unfold tailB at ht
  simp only [Bool.and_eq_true, Nat.ble_eq, List.all_eq_true, List.mem_range] at ht
  obtain ⟨⟨h1, h2⟩, h3⟩ := ht
  have hlen : (ops.toList.take n).length = n := by rw [List.length_take, Array.length_toList]; omega
  have hlen2 : (ops.toList.drop n).length = ops.size - n := by rw [List.length_drop, Array.length_toList]
  refine scode_draw (bf := bf) hm hk hbf ?_
  have := wdraw_s_tail (P := P) (ops := ops) (bf := bf) (Q := Q) (l2 := ops.toList.drop n) (fun o ho => by simpa using h2 o ho) (ops.toList.take n) 0 [] [] env H (fun c Hc hm => by cases hm) (fun y q e x hm => by cases hm)
    (fun m o hm hL j j1 j2 => by
      rw [hlen] at j1
      rw [hlen, hlen2] at j2
      have hmn : m < n := by
        have := (List.getElem?_eq_some_iff.1 hm).1
        rw [hlen] at this; exact this
      rw [List.getElem?_take_of_lt hmn, Array.getElem?_toList] at hm
      have h4 := h3 m hmn
      rw [hm] at h4
      simp only [hL, Bool.not_true, Bool.false_or, List.all_eq_true, List.mem_range] at h4
      have := h4 (j - n) (by omega)
      rw [show n + (j - n) = j by omega] at this
      rw [Nat.zero_add]
      exact this) (h _ fun _ _ h => h)
  rwa [List.take_append_drop] at this
end
end Go.Fl
end Fl50S
