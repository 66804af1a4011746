/- A region that draws its order, walked in the text's order. -/
import Derived.Test.YtinbldahpifinaaGreatDoorFl17
noncomputable section
namespace Go.Fl
open Go

theorem count_set : ∀ (l : List Bool) (i : Nat), l[i]? = some false → (l.set i true).count false + 1 = l.count false
  | [], i, h => by simp at h
  | b :: l, 0, h => by
    simp at h; subst h; simp
  | b :: l, i + 1, h => by
    simp only [List.getElem?_cons_succ] at h
    have := count_set l i h
    simp only [List.set_cons_succ, List.count_cons]
    omega

section
variable {P : Program} {sz : Nat} {ops : Array Oper} {env0 : Env} {val : Nat → AV} {hp : Nat → Heap}

theorem Inv.run (K : DOk sz ops) (T : Trace P ops env0 val hp) {ρ0 : Rho} {I0 : Nat → Prop} {w0 : World} {Q : Exit → Act → World → Prop}
    (hQ : ∀ ρ I a w, Rel ρ I (hp ops.size) w.heap → ERel sz ρ I w.heap (envAt ops env0 val ops.size) a → Ext ρ0 I0 w0 ρ I w → Q .normal a w) :
    ∀ (fuel : Nat) (listed : Array Bool) (ρ : Rho) (I : Nat → Prop) (c : Nat) (a : Act) (w : World), listed.size = ops.size → listed.toList.count false = fuel → Closed ops (fun k => listed.getD k false = true) →
      Inv P sz ops env0 val hp ρ0 I0 w0 (fun k => listed.getD k false = true) ρ I c a w → wpAny P .any ops Q fuel listed a w := by
  have memready : ∀ (listed : Array Bool) (i : Nat), listed.size = ops.size → (i ∈ Region.ready .any ops listed ↔ ∃ o, ops[i]? = some o ∧ listed.getD i false = false ∧ ∀ e ∈ o.after, Region.binds .any e = true → listed.getD e.on false = true) := by
    intro listed i hs
    unfold Region.ready
    simp only [List.mem_filter, List.mem_range, Bool.and_eq_true]
    constructor
    · rintro ⟨h1, h2, h3⟩
      have ho := Array.getElem?_eq_getElem h1
      refine ⟨_, ho, ?_, ?_⟩
      · have hlt : i < listed.size := by omega
        simp [Array.getD_eq_getD_getElem?, hlt] at h2 ⊢
        exact h2
      · rw [ho] at h3
        simp only [Option.map_some, Option.getD_some, Array.all_eq_true'] at h3
        intro e he hb
        have := h3 e he
        simpa [hb] using this
    · rintro ⟨o, h1, h2, h3⟩
      have hlt := (Array.getElem?_eq_some_iff.1 h1).1
      refine ⟨hlt, ?_, ?_⟩
      · have hlt' : i < listed.size := by omega
        simp [Array.getD_eq_getD_getElem?, hlt'] at h2 ⊢
        exact h2
      · rw [h1]
        simp only [Option.map_some, Option.getD_some, Array.all_eq_true']
        intro e he
        cases hb : Region.binds .any e with
        | false => rfl
        | true => simp [h3 e he hb]
  have done : ∀ (listed : Array Bool), listed.size = ops.size → Region.ready .any ops listed = [] → ∀ i, i < ops.size → listed.getD i false = true := by
    intro listed hs hre i
    induction i using Nat.strongRecOn with
    | _ i ih =>
      intro hi
      cases hl : listed.getD i false with
      | true => rfl
      | false =>
        have ho := Array.getElem?_eq_getElem hi
        have : i ∈ Region.ready .any ops listed := (memready listed i hs).2 ⟨_, ho, hl, fun e he hb => ih e.on (K.acyc i _ ho e he hb) (by have := K.acyc i _ ho e he hb; omega)⟩
        rw [hre] at this
        cases this
  have fin : ∀ (listed : Array Bool) (ρ : Rho) (I : Nat → Prop) (c : Nat) (a : Act) (w : World), listed.size = ops.size → Region.ready .any ops listed = [] →
      Inv P sz ops env0 val hp ρ0 I0 w0 (fun k => listed.getD k false = true) ρ I c a w → Q .normal a w := by
    intro listed ρ I c a w hs hre V
    have hall := done listed hs hre
    have heq : hp ops.size = hp c := T.const' V.le (Nat.le_refl _) (fun k h1 h2 hk => by
      have := V.todo k hk (hall k h2); omega)
    refine hQ ρ I a w (by rw [heq]; exact V.rel) ⟨V.size, V.defers, fun t => ?_⟩ V.ext
    rcases V.slots t with ⟨k, h1, h2, h3⟩ | ⟨h1, h2⟩
    · obtain ⟨p, hp1, hp2⟩ := dstAt_some h2
      have hk := (Array.getElem?_eq_some_iff.1 hp1).1
      rw [envAt_some h2 ops.size hk (fun m h4 h5 hm => by
        obtain ⟨q, hq1, hq2⟩ := dstAt_some hm
        exact K.apart k m p q h4 hp1 hq1 t hp2 hq2)]
      exact h3
    · rw [envAt_none ops.size (fun k hk => h1 k (hall k hk))]
      exact h2
  intro fuel
  induction fuel with
  | zero =>
    intro listed ρ I c a w hs hc hD V
    have hre : Region.ready .any ops listed = [] := by
      cases hr : Region.ready .any ops listed with
      | nil => rfl
      | cons i l =>
        obtain ⟨o, h1, h2, _⟩ := (memready listed i hs).1 (by rw [hr]; simp)
        have hlt := (Array.getElem?_eq_some_iff.1 h1).1
        have hmem : false ∈ listed.toList := by
          have hlt' : i < listed.size := by omega
          have : listed.toList[i]? = some false := by
            simp [Array.getD_eq_getD_getElem?, hlt'] at h2
            simp [hlt', h2]
          exact List.mem_of_getElem? this
        have := List.count_pos_iff.2 hmem
        omega
    exact ⟨hre, fin listed ρ I c a w hs hre V⟩
  | succ fuel ih =>
    intro listed ρ I c a w hs hc hD V
    refine ⟨fun hre => fin listed ρ I c a w hs hre V, fun i hi => ?_⟩
    obtain ⟨o, h1, h2, h3⟩ := (memready listed i hs).1 hi
    have hlt := (Array.getElem?_eq_some_iff.1 h1).1
    have hlt' : i < listed.size := by omega
    have hset : ∀ k, (listed.setIfInBounds i true).getD k false = true ↔ (listed.getD k false = true ∨ k = i) := by
      intro k
      simp only [Array.getD_eq_getD_getElem?, Array.getElem?_setIfInBounds]
      by_cases e : i = k
      · subst e; simp [hlt']
      · rw [if_neg e]
        constructor
        · exact .inl
        · rintro (h | h)
          · exact h
          · exact absurd h.symm e
    refine V.step K T hD h1 (by simp [h2]) h3 ?_
    intro ρ' I' c' a' w' V'
    have hDeq : (fun k => (listed.setIfInBounds i true).getD k false = true) = (fun k => listed.getD k false = true ∨ k = i) := by
      funext k; exact propext (hset k)
    refine ih (listed.setIfInBounds i true) ρ' I' c' a' w' (by simp [hs]) ?_ ?_ (by rw [hDeq]; exact V')
    · have hget : listed.toList[i]? = some false := by
        simp [Array.getD_eq_getD_getElem?, hlt'] at h2
        simp [hlt', h2]
      have := count_set listed.toList i hget
      rw [Array.toList_setIfInBounds]
      omega
    · rw [hDeq]
      rintro k q (hk | hk) hq e he hb
      · exact .inl (hD k q hk hq e he hb)
      · subst hk; rw [h1] at hq; cases hq; exact .inl (h3 e he hb)

/-- THE RULE: a trace of the text's order. -/
theorem scode_trace {id : Nat} (hm : P.follows .mixedOrders = true) (hk : drawOk sz ops = true) (T : Trace P ops env0 val hp) {Q : Exit → Env → Heap → Prop} (hQ : Q .normal (envAt ops env0 val ops.size) (hp ops.size)) :
    SCode P sz (.region id ops true) Q env0 (hp 0) := by
  intro ρ I w a Q' hr he hQ'
  have K := drawOk_spec hk
  refine wp_region_any hm ?_
  have hw : Rel ρ I (hp 0) ({ w with drawn := w.drawn + 1 } : World).heap := hr
  refine Inv.run K T (ρ0 := ρ) (I0 := I) (w0 := w) (fun ρ1 I1 a1 w1 h1 h2 h3 => hQ' _ _ _ ⟨_, _, ρ1, I1, hQ, h1, h2, h3⟩) ops.size _ ρ I 0 a _ (by simp) (by simp) ?_ ?_
  · intro i o hi
    simp only [Array.getD_eq_getD_getElem?, Array.getElem?_replicate] at hi
    split at hi <;> simp at hi
  · have hno : ∀ k, ¬ ((Array.replicate ops.size false).getD k false = true) := by
      intro k
      simp only [Array.getD_eq_getD_getElem?, Array.getElem?_replicate]
      split <;> simp
    exact ⟨hw, { (Ext.refl ρ I w) with }, he.size, he.defers, Nat.zero_le _, fun i _ h => by omega, fun i _ h => absurd h (hno i), fun t => .inr ⟨fun k hk => absurd hk (hno k), he.val t⟩⟩

end
end Go.Fl
