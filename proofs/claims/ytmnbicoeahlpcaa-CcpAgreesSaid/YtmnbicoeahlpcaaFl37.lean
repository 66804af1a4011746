/- Regions that draw, a piece at a time, with the table of operations put out of sight. -/
import Derived.Test.YtmnbicoeahlpcaaFl36
noncomputable section
namespace Go.Fl
open Go

section
variable {P : Program} {sz : Nat} {ops : Array Oper} {bf : List Nat}

def WDrawC (P : Program) (ops : Array Oper) (bf : List Nat) : Nat → List Oper → List (Nat × Heap) → List (Nat × Oper × Env × AV) → (List (Nat × Heap) → List (Nat × Oper × Env × AV) → Env → Heap → Prop) → Env → Heap → Prop
  | _, [], st, ld, K, env, H => K st ld env H
  | i, o :: rest, st, ld, K, env, H => match awanted ops o env with
    | none => False
    | some false => WDrawC P ops bf (i + 1) rest st ld K (env.upd o.dst .undef) H
    | some true =>
      if isP o = true then match aop P o (aev env) H with
        | some (x, _) => WDrawC P ops bf (i + 1) rest st ld K (env.upd o.dst x) H
        | none => False
      else if isL o = true then match aop P o (aev env) H with
        | some (x, _) => stOk P bf i o env x st ∧ WDrawC P ops bf (i + 1) rest st ((i, o, env, x) :: ld) K (env.upd o.dst x) H
        | none => False
      else WStep P o env H fun x H' => ldOk P bf i H' ld ∧ WDrawC P ops bf (i + 1) rest ((i, H) :: st) ld K (env.upd o.dst x) H'

theorem WDrawC.append {Q : Exit → Env → Heap → Prop} {l2 : List Oper} : ∀ {l1 : List Oper} {i : Nat} {st : List (Nat × Heap)} {ld : List (Nat × Oper × Env × AV)} {env : Env} {H : Heap},
    WDrawC P ops bf i l1 st ld (fun st ld env H => WDraw P ops bf (i + l1.length) l2 st ld Q env H) env H → WDraw P ops bf i (l1 ++ l2) st ld Q env H
  | [], i, st, ld, env, H, h => h
  | o :: l1, i, st, ld, env, H, h => by
    have e : i + (o :: l1).length = i + 1 + l1.length := by simp; omega
    rw [e] at h
    simp only [WDrawC] at h
    simp only [List.cons_append, WDraw]
    cases ha : awanted ops o env with
    | none => simp only [ha] at h
    | some b =>
      cases b with
      | false => simp only [ha] at h ⊢; exact WDrawC.append h
      | true =>
        simp only [ha] at h ⊢
        by_cases hp : isP o = true
        · simp only [hp, if_true] at h ⊢
          cases hx : aop P o (aev env) H with
          | none => simp only [hx] at h
          | some y => simp only [hx] at h ⊢; exact WDrawC.append h
        · by_cases hL : isL o = true
          · simp only [hp, hL, if_true, Bool.false_eq_true, if_false] at h ⊢
            cases hx : aop P o (aev env) H with
            | none => simp only [hx] at h
            | some y =>
              simp only [hx] at h ⊢
              exact ⟨h.1, WDrawC.append h.2⟩
          · simp only [hp, hL, Bool.false_eq_true, if_false] at h ⊢
            exact h.mono fun x H' h' => ⟨h'.1, WDrawC.append h'.2⟩

/-- The next n operations. -/
theorem wd_take (n : Nat) {Q : Exit → Env → Heap → Prop} {i : Nat} {l : List Oper} {st : List (Nat × Heap)} {ld : List (Nat × Oper × Env × AV)} {env : Env} {H : Heap} (hn : n ≤ l.length)
    (h : ∀ K : List (Nat × Heap) → List (Nat × Oper × Env × AV) → Env → Heap → Prop, (∀ st ld env H, WDraw P ops bf (i + n) (l.drop n) st ld Q env H → K st ld env H) → WDrawC P ops bf i (l.take n) st ld K env H) : WDraw P ops bf i l st ld Q env H := by
  have e : (l.take n).length = n := by rw [List.length_take, Nat.min_eq_left hn]
  have := WDrawC.append (Q := Q) (l2 := l.drop n) (l1 := l.take n) (i := i) (st := st) (ld := ld) (env := env) (H := H) (by rw [e]; exact h _ fun _ _ _ _ h => h)
  rwa [List.take_append_drop] at this

/-- The table of operations out of sight. -/
theorem scode_draw_o {id : Nat} {Q : Exit → Env → Heap → Prop} {env : Env} {H : Heap} (hm : P.follows .mixedOrders = true) (hk : drawOk sz ops = true) (bf : List Nat) (hbf : Region.before ops = bf.toArray)
    (h : ∀ ops', ops' = ops → WDraw P ops' bf 0 ops.toList [] [] Q env H) : SCode P sz (.region id ops true) Q env H := scode_draw hm hk hbf (h _ rfl)
theorem scode_drawS_o {id : Nat} {Q : Exit → Env → Heap → Prop} {env : Env} {H : Heap} (hm : P.follows .mixedOrders = true) (hk : drawOk sz ops = true)
    (h : ∀ ops', ops' = ops → WSOps P ops' Q ops.toList env H) : SCode P sz (.region id ops true) Q env H := scode_drawS hm hk (h _ rfl)
theorem scode_drawK_o {id : Nat} {Q : Exit → Env → Heap → Prop} {env : Env} {H : Heap} (hm : P.follows .mixedOrders = true) (hk : drawOk sz ops = true)
    (h : ∀ ops', ops' = ops → WKOps P ops' Q ops.toList env H) : SCode P sz (.region id ops true) Q env H := scode_drawK hm hk (h _ rfl)
theorem scode_region_o {id : Nat} {Q : Exit → Env → Heap → Prop} {env : Env} {H : Heap} (hd : dstsB sz ops = true)
    (h : ∀ ops', ops' = ops → WOps P ops' Q ops.toList env H) : SCode P sz (.region id ops false) Q env H := scode_region hd (h _ rfl)
end

attribute [go_sem] WDrawC
end Go.Fl
