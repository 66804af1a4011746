/- What is asked of a region that draws, walked in the text's order; and of code as a whole. -/
import Derived.Test.YtinbldahpifinaaGreatDoorFl18
noncomputable section
namespace Go.Fl
open Go

/-- i comes before j, by a list of masks. -/
def befL (bf : List Nat) (i j : Nat) : Bool := (bf.getD j 0 / 2 ^ i) % 2 == 1

theorem befL_eq {ops : Array Oper} {bf : List Nat} (h : Region.before ops = bf.toArray) (i j : Nat) : befL bf i j = bef ops i j := by
  unfold befL bef
  rw [h]
  have e : bf.toArray.getD j 0 = bf.getD j 0 := by simp [Array.getD_eq_getD_getElem?, List.getD_eq_getElem?_getD]
  rw [e, Nat.testBit_eq_decide_div_mod_eq]
  rfl

def stOk (P : Program) (bf : List Nat) (i : Nat) (o : Oper) (env : Env) (x : AV) : List (Nat × Heap) → Prop
  | [] => True
  | (c, Hc) :: r => (befL bf c i = true ∨ aop P o (aev env) Hc = some (x, Hc)) ∧ stOk P bf i o env x r

def ldOk (P : Program) (bf : List Nat) (i : Nat) (H' : Heap) : List (Nat × Oper × Env × AV) → Prop
  | [] => True
  | (y, q, env, x) :: r => (befL bf y i = true ∨ aop P q (aev env) H' = some (x, H')) ∧ ldOk P bf i H' r

/-- What one carried-out operation does, and K behind it. -/
def WStep (P : Program) (o : Oper) (env : Env) (H : Heap) (K : AV → Heap → Prop) : Prop :=
  match o.op with
  | .call { callee := .value f, args, argTypes := _ } => match aev env f with
    | .fn (.func k) first captured => ∃ r H', SCalls P k (first ++ args.toList.map (aev env) ++ captured) H r H' ∧ K r H'
    | _ => False
  | _ => match aop P o (aev env) H with
    | some (x, H') => K x H'
    | none => False

theorem WStep_cases {P : Program} {o : Oper} {env : Env} {H : Heap} {K : AV → Heap → Prop} (h : WStep P o env H K) : ∃ x H', StepTo P o env H x H' ∧ K x H' := by
  obtain ⟨dst, op, type, pos, after, guard⟩ := o
  unfold WStep at h
  unfold StepTo
  split at h
  · rename_i f args argTypes hop
    simp only at hop
    subst hop
    split at h
    · rename_i k first captured hf
      obtain ⟨r, H', h1, h2⟩ := h
      exact ⟨r, H', ⟨k, first, captured, hf, h1⟩, h2⟩
    · exact h.elim
  · rename_i hno
    split at h
    · rename_i x H' hx
      refine ⟨x, H', ?_, h⟩
      split
      · rename_i f args argTypes hop
        exact (hno f args argTypes hop).elim
      · exact hx
    · exact h.elim

def WDraw (P : Program) (ops : Array Oper) (bf : List Nat) : Nat → List Oper → List (Nat × Heap) → List (Nat × Oper × Env × AV) → (Exit → Env → Heap → Prop) → Env → Heap → Prop
  | _, [], _, _, Q, env, H => Q .normal env H
  | i, o :: rest, st, ld, Q, env, H => match awanted ops o env with
    | none => False
    | some false => WDraw P ops bf (i + 1) rest st ld Q (env.upd o.dst .undef) H
    | some true =>
      if isP o = true then match aop P o (aev env) H with
        | some (x, _) => WDraw P ops bf (i + 1) rest st ld Q (env.upd o.dst x) H
        | none => False
      else if isL o = true then match aop P o (aev env) H with
        | some (x, _) => stOk P bf i o env x st ∧ WDraw P ops bf (i + 1) rest st ((i, o, env, x) :: ld) Q (env.upd o.dst x) H
        | none => False
      else WStep P o env H fun x H' => ldOk P bf i H' ld ∧ WDraw P ops bf (i + 1) rest ((i, H) :: st) ld Q (env.upd o.dst x) H'

theorem envAt_congr {ops : Array Oper} {env0 : Env} {val val' : Nat → AV} : ∀ (k : Nat), (∀ j, j < k → val j = val' j) → envAt ops env0 val k = envAt ops env0 val' k
  | 0, _ => rfl
  | k + 1, h => by
    simp only [envAt]
    rw [envAt_congr k (fun j hj => h j (by omega)), h k (by omega)]

section
variable {P : Program} {sz : Nat} {ops : Array Oper} {bf : List Nat} {env0 : Env}

/-- The first i operations, carried out. -/
structure Part (P : Program) (ops : Array Oper) (env0 : Env) (val : Nat → AV) (hp : Nat → Heap) (i : Nat) (st : List (Nat × Heap)) (ld : List (Nat × Oper × Env × AV)) : Prop where
  step : ∀ (k : Nat) (o : Oper), k < i → ops[k]? = some o → (awanted ops o (envAt ops env0 val k) = some false ∧ val k = .undef ∧ hp (k + 1) = hp k) ∨
    (awanted ops o (envAt ops env0 val k) = some true ∧ StepTo P o (envAt ops env0 val k) (hp k) (val k) (hp (k + 1)))
  early : ∀ (y c : Nat) (q p : Oper), y < i → ops[y]? = some q → ops[c]? = some p → isL q = true → isC p = true → awanted ops q (envAt ops env0 val y) = some true → awanted ops p (envAt ops env0 val c) = some true →
    c < y → bef ops c y = false → aop P q (aev (envAt ops env0 val y)) (hp c) = some (val y, hp c)
  late : ∀ (y c : Nat) (q p : Oper), c < i → ops[y]? = some q → ops[c]? = some p → isL q = true → isC p = true → awanted ops q (envAt ops env0 val y) = some true → awanted ops p (envAt ops env0 val c) = some true →
    y < c → bef ops y c = false → aop P q (aev (envAt ops env0 val y)) (hp (c + 1)) = some (val y, hp (c + 1))
  st : ∀ (c : Nat) (p : Oper), c < i → ops[c]? = some p → isC p = true → awanted ops p (envAt ops env0 val c) = some true → (c, hp c) ∈ st
  ld : ∀ (y : Nat) (q : Oper), y < i → ops[y]? = some q → isL q = true → awanted ops q (envAt ops env0 val y) = some true → (y, q, envAt ops env0 val y, val y) ∈ ld

theorem stOk_mem {i : Nat} {o : Oper} {env : Env} {x : AV} : ∀ {st : List (Nat × Heap)}, stOk P bf i o env x st → ∀ c Hc, (c, Hc) ∈ st → befL bf c i = true ∨ aop P o (aev env) Hc = some (x, Hc)
  | [], _, c, Hc, h => by simp at h
  | (c', H') :: r, hs, c, Hc, h => by
    simp only [List.mem_cons, Prod.mk.injEq] at h
    rcases h with ⟨rfl, rfl⟩ | h
    · exact hs.1
    · exact stOk_mem hs.2 c Hc h

theorem ldOk_mem {i : Nat} {H' : Heap} : ∀ {ld : List (Nat × Oper × Env × AV)}, ldOk P bf i H' ld → ∀ y q env x, (y, q, env, x) ∈ ld → befL bf y i = true ∨ aop P q (aev env) H' = some (x, H')
  | [], _, y, q, env, x, h => by simp at h
  | (y', q', env', x') :: r, hs, y, q, env, x, h => by
    simp only [List.mem_cons, Prod.mk.injEq] at h
    rcases h with ⟨rfl, rfl, rfl, rfl⟩ | h
    · exact hs.1
    · exact ldOk_mem hs.2 y q env x h

/-- One operation more. -/
theorem Part.next {val : Nat → AV} {hp : Nat → Heap} {i : Nat} {st st' : List (Nat × Heap)} {ld ld' : List (Nat × Oper × Env × AV)} (hbf : Region.before ops = bf.toArray) (V : Part P ops env0 val hp i st ld) {o : Oper} (ho : ops[i]? = some o) {x : AV} {H' : Heap}
    (hstep : (awanted ops o (envAt ops env0 val i) = some false ∧ x = .undef ∧ H' = hp i) ∨ (awanted ops o (envAt ops env0 val i) = some true ∧ StepTo P o (envAt ops env0 val i) (hp i) x H'))
    (hL : isL o = true → awanted ops o (envAt ops env0 val i) = some true → stOk P bf i o (envAt ops env0 val i) x st ∧ (i, o, envAt ops env0 val i, x) ∈ ld')
    (hC : isC o = true → awanted ops o (envAt ops env0 val i) = some true → ldOk P bf i H' ld ∧ (i, hp i) ∈ st') (hst : ∀ p ∈ st, p ∈ st') (hld : ∀ p ∈ ld, p ∈ ld') :
    Part P ops env0 (fun k => if k = i then x else val k) (fun k => if k = i + 1 then H' else hp k) (i + 1) st' ld' := by
  have hv : ∀ k, k ≤ i → envAt ops env0 (fun k => if k = i then x else val k) k = envAt ops env0 val k := fun k hk =>
    envAt_congr k (fun j hj => if_neg (by omega))
  have hval : ∀ k, k < i → (if k = i then x else val k) = val k := fun k hk => if_neg (by omega)
  have hhp : ∀ k, k ≤ i → (if k = i + 1 then H' else hp k) = hp k := fun k hk => if_neg (by omega)
  refine ⟨?_, ?_, ?_, ?_, ?_⟩
  · intro k q hk hq
    rcases Nat.lt_or_ge k i with h | h
    · rw [hv k (by omega)]
      simp only [hval k h, hhp k (by omega), hhp (k + 1) (by omega)]
      exact V.step k q h hq
    · have : k = i := by omega
      subst this
      rw [ho] at hq; cases hq
      rw [hv k (by omega)]
      simp only [if_true, hhp k (by omega)]
      exact hstep
  · intro y c q p hy hq hp' h1 h2 h3 h4 h5 h6
    rw [hv y (by omega)] at h3 ⊢
    rw [hv c (by omega)] at h4
    simp only [hhp c (by omega)]
    rcases Nat.lt_or_ge y i with h | h
    · simp only [hval y h]
      exact V.early y c q p h hq hp' h1 h2 h3 h4 h5 h6
    · have : y = i := by omega
      subst this
      rw [ho] at hq; cases hq
      simp only [if_true]
      rcases stOk_mem (hL h1 h3).1 c (hp c) (V.st c p h5 hp' h2 h4) with h7 | h7
      · rw [befL_eq hbf, h6] at h7; cases h7
      · exact h7
  · intro y c q p hc hq hp' h1 h2 h3 h4 h5 h6
    rw [hv y (by omega)] at h3 ⊢
    rw [hv c (by omega)] at h4
    simp only [hval y (by omega)]
    rcases Nat.lt_or_ge c i with h | h
    · simp only [hhp (c + 1) (by omega)]
      exact V.late y c q p h hq hp' h1 h2 h3 h4 h5 h6
    · have : c = i := by omega
      subst this
      rw [ho] at hp'; cases hp'
      simp only [if_true]
      rcases ldOk_mem (hC h2 h4).1 y q _ _ (V.ld y q h5 hq h1 h3) with h7 | h7
      · rw [befL_eq hbf, h6] at h7; cases h7
      · exact h7
  · intro c p hc hp' h1 h2
    rw [hv c (by omega)] at h2
    simp only [hhp c (by omega)]
    rcases Nat.lt_or_ge c i with h | h
    · exact hst _ (V.st c p h hp' h1 h2)
    · have : c = i := by omega
      subst this
      rw [ho] at hp'; cases hp'
      exact (hC h1 h2).2
  · intro y q hy hq h1 h2
    rw [hv y (by omega)] at h2 ⊢
    rcases Nat.lt_or_ge y i with h | h
    · simp only [hval y h]
      exact hld _ (V.ld y q h hq h1 h2)
    · have : y = i := by omega
      subst this
      rw [ho] at hq; cases hq
      simp only [if_true]
      exact (hL h1 h2).2

theorem WDraw_trace (hbf : Region.before ops = bf.toArray) {Q : Exit → Env → Heap → Prop} : ∀ (rest : List Oper) (i : Nat) (st : List (Nat × Heap)) (ld : List (Nat × Oper × Env × AV)) (val : Nat → AV) (hp : Nat → Heap),
    ops.toList.drop i = rest → i + rest.length = ops.size → Part P ops env0 val hp i st ld → WDraw P ops bf i rest st ld Q (envAt ops env0 val i) (hp i) →
    ∃ val' hp', (∀ k, k ≤ i → hp' k = hp k) ∧ Trace P ops env0 val' hp' ∧ Q .normal (envAt ops env0 val' ops.size) (hp' ops.size)
  | [], i, st, ld, val, hp, hd, hlen, V, h => by
    simp only [List.length_nil, Nat.add_zero] at hlen
    subst hlen
    refine ⟨val, hp, fun _ _ => rfl, ⟨?_, ?_, ?_⟩, h⟩
    · intro k o ho; exact V.step k o (Array.getElem?_eq_some_iff.1 ho).1 ho
    · intro y c q p hq hp' h1 h2 h3 h4 h5 h6; exact V.early y c q p (Array.getElem?_eq_some_iff.1 hq).1 hq hp' h1 h2 h3 h4 h5 h6
    · intro y c q p hq hp' h1 h2 h3 h4 h5 h6; exact V.late y c q p (Array.getElem?_eq_some_iff.1 hp').1 hq hp' h1 h2 h3 h4 h5 h6
  | o :: rest, i, st, ld, val, hp, hd, hlen, V, h => by
    have hi : i < ops.size := by simp only [List.length_cons] at hlen; omega
    have ho : ops[i]? = some o := by
      have : (ops.toList.drop i)[0]? = some o := by rw [hd]; rfl
      rw [List.getElem?_drop, Nat.add_zero] at this
      simpa using this
    have hd' : ops.toList.drop (i + 1) = rest := by
      have : (ops.toList.drop i).drop 1 = rest := by rw [hd]; rfl
      rw [List.drop_drop] at this
      exact this
    have hlen' : i + 1 + rest.length = ops.size := by simp only [List.length_cons] at hlen; omega
    have hdst : dstAt ops i = o.dst := by simp [dstAt, ho]
    have go : ∀ (x : AV) (H' : Heap) (st' : List (Nat × Heap)) (ld' : List (Nat × Oper × Env × AV)),
        Part P ops env0 (fun k => if k = i then x else val k) (fun k => if k = i + 1 then H' else hp k) (i + 1) st' ld' →
        WDraw P ops bf (i + 1) rest st' ld' Q ((envAt ops env0 val i).upd o.dst x) H' →
        ∃ val' hp', (∀ k, k ≤ i → hp' k = hp k) ∧ Trace P ops env0 val' hp' ∧ Q .normal (envAt ops env0 val' ops.size) (hp' ops.size) := by
      intro x H' st' ld' V' h'
      have e1 : envAt ops env0 (fun k => if k = i then x else val k) (i + 1) = (envAt ops env0 val i).upd o.dst x := by
        simp only [envAt, if_pos, hdst]
        rw [envAt_congr i (val' := val) (fun j hj => if_neg (by omega))]
      obtain ⟨val', hp', h1, h2, h3⟩ := WDraw_trace hbf rest (i + 1) st' ld' _ _ hd' hlen' V' (by rw [e1]; simpa using h')
      exact ⟨val', hp', fun k hk => by rw [h1 k (by omega)]; exact if_neg (by omega), h2, h3⟩
    simp only [WDraw] at h
    cases ha : awanted ops o (envAt ops env0 val i) with
    | none => rw [ha] at h; exact h.elim
    | some b =>
      rw [ha] at h
      cases b with
      | false =>
        exact go .undef (hp i) st ld (V.next hbf ho (.inl ⟨ha, rfl, rfl⟩) (fun _ h2 => by rw [ha] at h2; cases h2) (fun _ h2 => by rw [ha] at h2; cases h2) (fun _ h => h) (fun _ h => h)) h
      | true =>
        simp only at h
        cases hP : isP o with
        | true =>
          rw [if_pos hP] at h
          split at h
          · rename_i x H1 hx
            have hsame := (aop_pure hP hx).1
            subst hsame
            have hcf : isC o = false := by simp [isC, hP]
            have hlf : isL o = false := by
              obtain ⟨dst, op, type, pos, after, guard⟩ := o
              cases op <;> simp [isP] at hP <;> rfl
            exact go x (hp i) st ld (V.next hbf ho (.inr ⟨ha, aop_StepTo hcf hx⟩) (fun h1 _ => by rw [hlf] at h1; cases h1) (fun h1 _ => by rw [hcf] at h1; cases h1) (fun _ h => h) (fun _ h => h)) h
          · exact h.elim
        | false =>
          rw [if_neg (by rw [hP]; simp)] at h
          cases hLo : isL o with
          | true =>
            rw [if_pos hLo] at h
            split at h
            · rename_i x H1 hx
              have hsame := aop_reads hLo hx
              subst hsame
              have hcf : isC o = false := by simp [isC, hLo]
              exact go x (hp i) st _ (V.next hbf ho (.inr ⟨ha, aop_StepTo hcf hx⟩) (fun _ _ => ⟨h.1, by simp⟩) (fun h1 _ => by rw [hcf] at h1; cases h1) (fun _ h => h) (fun _ h => by simp [h])) h.2
            · exact h.elim
          | false =>
            rw [if_neg (by rw [hLo]; simp)] at h
            obtain ⟨x, H1, h1, h2, h3⟩ := WStep_cases h
            exact go x H1 _ ld (V.next hbf ho (.inr ⟨ha, h1⟩) (fun h4 _ => by rw [hLo] at h4; cases h4) (fun _ _ => ⟨h2, by simp⟩) (fun _ h => by simp [h]) (fun _ h => h)) h3

/-- A region that draws: two closed facts, and the walk. -/
theorem scode_draw {id : Nat} {Q : Exit → Env → Heap → Prop} {H : Heap} (hm : P.follows .mixedOrders = true) (hk : drawOk sz ops = true) (hbf : Region.before ops = bf.toArray)
    (h : WDraw P ops bf 0 ops.toList [] [] Q env0 H) : SCode P sz (.region id ops true) Q env0 H := by
  obtain ⟨val, hp, h1, h2, h3⟩ := WDraw_trace (env0 := env0) hbf ops.toList 0 [] [] (fun _ => .top) (fun _ => H) rfl (by simp)
    ⟨fun k o hk => by omega, fun y c q p hy => by omega, fun y c q p hc => by omega, fun c p hc => by omega, fun y q hy => by omega⟩ h
  have := scode_trace (id := id) hm hk h2 h3
  rw [h1 0 (Nat.le_refl _)] at this
  exact this

end
end Go.Fl
