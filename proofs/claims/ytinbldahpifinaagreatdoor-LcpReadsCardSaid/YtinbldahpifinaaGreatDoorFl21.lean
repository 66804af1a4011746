/- Words for the end of a function. -/
import Derived.Test.YtinbldahpifinaaGreatDoorFl20
noncomputable section
namespace Go.Fl
open Go

theorem Heap.le_refl (H : Heap) : H.le H := fun _ _ h => h

theorem Heap.le_alloc {H H1 : Heap} {cs : List AV} (h : H.le H1) : H.le (H1.alloc cs) := fun b c hb => by
  rw [Heap.get_alloc, if_neg (by have := Heap.lt_of_get (h b c hb); omega)]
  exact h b c hb

theorem Heap.le_set {H H1 : Heap} {x : Nat} {cs : List AV} (h : H.le H1) (hx : H.next ≤ x) : H.le (H1.set x cs) := fun b c hb => by
  rw [Heap.get_set, if_neg (by have := Heap.lt_of_get hb; omega)]
  exact h b c hb

theorem Heap.le_del {H H1 : Heap} {x : Nat} (h : H.le H1) (hx : H.next ≤ x) : H.le (H1.del x) := fun b c hb => by
  rw [Heap.get_del, if_neg (by have := Heap.lt_of_get hb; omega)]
  exact h b c hb

theorem Heap.le_trans {H H1 H2 : Heap} (h : H.le H1) (k : H1.le H2) : H.le H2 := fun b c hb => k b c (h b c hb)

theorem Heap.le_regrow {H H1 : Heap} {x : Option Nat} {cs : List AV} (h : H.le H1) (hx : ∀ b, x = some b → H.next ≤ b) : H.le (H1.regrow x cs) := by
  unfold Heap.regrow
  refine Heap.le_alloc ?_
  cases x with
  | none => exact h
  | some b => exact Heap.le_del h (hx b rfl)

theorem Heap.next_regrow (H : Heap) (x : Option Nat) (cs : List AV) : (H.regrow x cs).next = H.next + 1 := by
  unfold Heap.regrow; rw [Heap.next_alloc, Heap.delo_next]

theorem Heap.get_ge {H : Heap} {b : Nat} (h : H.next ≤ b) : H.get b = none := H.wf b h

theorem Froz.mono {H : Heap} {d d' : Nat → Prop} (h : ∀ b, d b → d' b) {x y : AV} (hf : Froz H d x y) : Froz H d' x y := by
  induction hf with
  | same x => exact .same x
  | nil sz => exact .nil sz
  | ms h1 h2 h3 h4 _ ih => exact .ms h1 (h _ h2) h3 h4 ih
  | vs h1 _ ih => exact .vs h1 ih
  | agg h1 _ ih => exact .agg h1 ih
  | tup h1 _ ih => exact .tup h1 ih
  | ifc _ ih => exact .ifc ih

/-- A slice of plain cells. -/
theorem Froz.row {H : Heap} {d : Nat → Prop} {b off len sz : Nat} {cs cells : List AV} (h1 : H.get b = some cs) (h2 : d b) (h3 : off + len * sz ≤ cs.length) (h4 : cells = (cs.drop off).take (len * sz)) : Froz H d (.ms b off len sz) (.vs len sz cells) := by
  subst h4
  refine .ms h1 h2 h3 (by simp; omega) (fun i x y hx hy => ?_)
  have hi : i < len * sz := by
    have := (List.getElem?_eq_some_iff.1 hx).1
    simp at this; omega
  rw [List.getElem?_take_of_lt hi, List.getElem?_drop] at hx
  rw [hx] at hy; cases hy
  exact .same _

/-- Lists of values, place by place. -/
inductive FrozL (H : Heap) (d : Nat → Prop) : List AV → List AV → Prop
  | nil : FrozL H d [] []
  | cons {x y : AV} {xs ys : List AV} : Froz H d x y → FrozL H d xs ys → FrozL H d (x :: xs) (y :: ys)

theorem FrozL.get {H : Heap} {d : Nat → Prop} {xs ys : List AV} (h : FrozL H d xs ys) : xs.length = ys.length ∧ ∀ (i : Nat) (x y : AV), ys[i]? = some x → xs[i]? = some y → Froz H d y x := by
  induction h with
  | nil => exact ⟨rfl, fun i x y hx => by simp at hx⟩
  | cons h1 _ ih =>
    refine ⟨by simp [ih.1], fun i x y hx hy => ?_⟩
    cases i with
    | zero => simp at hx hy; subst hx; subst hy; exact h1
    | succ i => simp only [List.getElem?_cons_succ] at hx hy; exact ih.2 i x y hx hy

theorem Froz.aggL {H : Heap} {d : Nat → Prop} {xs ys : List AV} (h : FrozL H d xs ys) : Froz H d (.agg xs) (.agg ys) := .agg h.get.1 h.get.2
theorem Froz.tupL {H : Heap} {d : Nat → Prop} {xs ys : List AV} (h : FrozL H d xs ys) : Froz H d (.tup xs) (.tup ys) := .tup h.get.1 h.get.2
/-- A slice whose cells are frozen in their turn. -/
theorem Froz.rowL {H : Heap} {d : Nat → Prop} {b off len sz : Nat} {cs cells : List AV} (h1 : H.get b = some cs) (h2 : d b) (h3 : off + len * sz ≤ cs.length) (h4 : FrozL H d ((cs.drop off).take (len * sz)) cells) : Froz H d (.ms b off len sz) (.vs len sz cells) := by
  have hl : ((cs.drop off).take (len * sz)).length = len * sz := by simp; omega
  refine .ms h1 h2 h3 (by rw [← h4.get.1]; exact hl) (fun i x y hx hy => h4.get.2 i x y hx ?_)
  have hi : i < len * sz := by
    have := (List.getElem?_eq_some_iff.1 hx).1
    rw [← h4.get.1, hl] at this; exact this
  rw [List.getElem?_take_of_lt hi, List.getElem?_drop]; exact hy

theorem Lt_sc (n : Nat) (v : Value) : (AV.sc v).Lt n = True := eq_true (.sc v)
theorem Lt_ab (n : Nat) : AV.ab.Lt n = True := eq_true .ab
theorem Lt_agg (n : Nat) (l : List AV) : (AV.agg l).Lt n = ∀ x ∈ l, x.Lt n := propext ⟨fun h => by cases h; assumption, .agg⟩
theorem Lt_tup (n : Nat) (l : List AV) : (AV.tup l).Lt n = ∀ x ∈ l, x.Lt n := propext ⟨fun h => by cases h; assumption, .tup⟩
theorem Lt_vs (n a b : Nat) (l : List AV) : (AV.vs a b l).Lt n = ∀ x ∈ l, x.Lt n := propext ⟨fun h => by cases h; assumption, .vs⟩
theorem Lt_ep (n : Nat) (l : List AV) : (AV.ep l).Lt n = ∀ x ∈ l, x.Lt n := propext ⟨fun h => by cases h; assumption, .ep⟩
theorem Lt_ptr (n b o : Nat) : (AV.ptr b o).Lt n = (b < n) := propext ⟨fun h => by cases h; assumption, .ptr⟩
theorem Lt_ms (n b o l s : Nat) : (AV.ms b o l s).Lt n = (b < n) := propext ⟨fun h => by cases h; assumption, .ms⟩
theorem Lt_ifc (n : Nat) (t : TypeId) (x : AV) : (AV.ifc t x).Lt n = x.Lt n := propext ⟨fun h => by cases h; assumption, .ifc⟩
theorem Lt_fn (n : Nat) (f : Fn) (a b : List AV) : (AV.fn f a b).Lt n = ((∀ x ∈ a, x.Lt n) ∧ ∀ x ∈ b, x.Lt n) := propext ⟨fun h => by cases h; exact ⟨by assumption, by assumption⟩, fun h => .fn h.1 h.2⟩
attribute [go_sem] Lt_sc Lt_ab Lt_agg Lt_tup Lt_vs Lt_ep Lt_ptr Lt_ms Lt_ifc Lt_fn aresults aresultL aresult tupOf Heap.next_regrow

/-- A function that keeps nothing: the heap as it was. -/
theorem ret_pure {P : Program} {fn : Func} {H : Heap} {env : Env} {H1 : Heap} {v r : AV} (h1 : aresults P fn env H1 = some v) (h2 : Froz H1 (fun b => H.next ≤ b) v r) (h3 : H.le H1) (h4 : H.next ≤ H1.next) (h5 : r.Lt H.next) : Ret P fn H env H1 r H where
  res := ⟨v, h1, h2.mono fun b hb => H.wf b hb⟩
  sub := h3
  lo := Nat.le_refl _
  hi := h4
  lt := h5
  cont := fun _ _ h => .inl h

/-- The same for a value that is none of the heap's. -/
theorem ret_plain {P : Program} {fn : Func} {H : Heap} {env : Env} {H1 : Heap} {r : AV} (h1 : aresults P fn env H1 = some r) (h3 : H.le H1) (h4 : H.next ≤ H1.next) (h5 : r.Lt H.next) : Ret P fn H env H1 r H :=
  ret_pure h1 (.same r) h3 h4 h5

end Go.Fl
