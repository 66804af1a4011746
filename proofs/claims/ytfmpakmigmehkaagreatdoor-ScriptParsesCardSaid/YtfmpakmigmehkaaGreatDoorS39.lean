/- Contract: the document's Parse. -/
import Derived.Test.YtfmpakmigmehkaaGreatDoorFl43
import Derived.Test.YtfmpakmigmehkaaGreatDoorS38
set_option linter.unusedVariables false
set_option linter.unusedSimpArgs false
set_option maxRecDepth 20000
noncomputable section
namespace Go.Proofs.YtfmpakmigmehkaaGreatDoor
open Go Go.Fl Go.Proofs

/-- The configurations, the events that have been read, once i lines are. -/
def csAt (ls : List Word) (i : Nat) : List CfgS := ((ls.take i).take 2).map fun l => (rC2 l).1
def reAt (ls : List Word) (i : Nat) : List EvS := ((ls.take i).drop 2).map fun l => (rE l).1
def cV (l : List CfgS) : List AV := l.flatMap cfgC
theorem cV_app (a b : List CfgS) : cV (a ++ b) = cV a ++ cV b := by simp [cV]
theorem csAt_succ (ls : List Word) (i : Nat) (w : Word) (h : ls[i]? = some w) (h2 : i < 2) : csAt ls (i + 1) = csAt ls i ++ [(rC2 w).1] := by
  have hi := (List.getElem?_eq_some_iff.1 h).1
  unfold csAt
  have e : ls.take (i + 1) = ls.take i ++ [w] := by rw [List.take_add_one, h]; rfl
  rw [e, List.take_of_length_le (l := ls.take i ++ [w]) (by simp; omega), List.take_of_length_le (l := ls.take i) (by simp; omega), List.map_append]
  rfl
theorem csAt_keep (ls : List Word) (i : Nat) (h2 : 2 ≤ i) : csAt ls (i + 1) = csAt ls i := by
  unfold csAt
  rw [List.take_take, List.take_take, Nat.min_eq_left (by omega), Nat.min_eq_left (by omega)]
theorem csAt_len (ls : List Word) (i : Nat) : (csAt ls i).length ≤ 2 := by unfold csAt; simp; omega
theorem reAt_small (ls : List Word) (i : Nat) (h : i ≤ 2) : reAt ls i = [] := by
  unfold reAt
  rw [List.drop_eq_nil_of_le (by simp; omega)]
  rfl
theorem reAt_succ (ls : List Word) (i : Nat) (w : Word) (h : ls[i]? = some w) (h2 : 2 ≤ i) : reAt ls (i + 1) = reAt ls i ++ [(rE w).1] := by
  have hi := (List.getElem?_eq_some_iff.1 h).1
  unfold reAt
  rw [List.take_add_one, h]
  show (((ls.take i) ++ [w]).drop 2).map _ = _
  rw [List.drop_append_of_le_length (by simp; omega), List.map_append]
  rfl
theorem reAt_len (ls : List Word) (i : Nat) : (reAt ls i).length ≤ ls.length := by unfold reAt; simp; omega
theorem reAt_cells (ls : List Word) (i : Nat) (w : Word) (h : ls[i]? = some w) (h2 : 2 ≤ i) : (reAt ls (i + 1)).length = (reAt ls i).length + 1 ∧ eV ((reAt ls (i + 1)).map toI) = eV ((reAt ls i).map toI) ++ evC (rE w).1 := by
  rw [reAt_succ ls i w h h2]
  refine ⟨by simp, ?_⟩
  rw [List.map_append, eV_app]
  congr 1
theorem csAt_cells (ls : List Word) (i : Nat) (w : Word) (h : ls[i]? = some w) (h2 : i < 2) : (csAt ls (i + 1)).length = (csAt ls i).length + 1 ∧ cV (csAt ls (i + 1)) = cV (csAt ls i) ++ cfgC (rC2 w).1 := by
  rw [csAt_succ ls i w h h2]
  refine ⟨by simp, ?_⟩
  rw [cV_app]
  simp [cV]
theorem lineOk_rc (i : Nat) (w : Word) (h : i < 2) : (rC2 w).2 = lineOk i w := by
  unfold lineOk rC2
  rw [if_pos h]
  cases cfgV w <;> rfl
theorem lineOk_re (i : Nat) (w : Word) (h : ¬ i < 2) : (rE w).2 = lineOk i w := by
  unfold lineOk rE
  rw [if_neg h]
  cases evV w <;> rfl
theorem badR_next (e : Bool) (n : Nat) (ls : List Word) (i : Nat) (w : Word) (h : ls[i]? = some w) : badR e n i (ls.drop i) = if ((e || decide (i + 1 < n)) && lineOk i w) = true then badR e n (i + 1) (ls.drop (i + 1)) else some i := by
  have hi := (List.getElem?_eq_some_iff.1 h)
  rw [List.drop_eq_getElem_cons hi.1, hi.2]
  rfl
theorem badR_none (e : Bool) (n : Nat) (ls : List Word) : ∀ i, badR e n i ls = none → badAt i ls = none := by
  induction ls with
  | nil => intro i _; rfl
  | cons l r ih =>
    intro i h
    unfold badR at h
    split at h
    · rename_i hl
      unfold badAt
      rw [if_pos (Bool.and_eq_true_iff.1 hl).2]
      exact ih (i + 1) h
    · cases h
theorem evsV_rE (r : List Word) : ∀ i, 2 ≤ i → badAt i r = none → evsV r = some (r.map fun l => (rE l).1) := by
  induction r with
  | nil => intro i _ _; rfl
  | cons l r ih =>
    intro i hi h
    unfold badAt at h
    split at h
    · rename_i hl
      unfold lineOk at hl
      rw [if_neg (by omega)] at hl
      obtain ⟨e, he⟩ := Option.isSome_iff_exists.1 hl
      unfold evsV
      rw [he, ih (i + 1) (by omega) h]
      simp [rE, he]
    · cases h
theorem refParse_lns (t : Word) : refParse t = if 65536 < t.length then .bad 0 3 else if 2048 < (lnsV t).length then .bad 0 3 else match badR (lnsE t) (lnsV t).length 0 (lnsV t) with
    | some i => .bad (i + 1) 11
    | none => if (lnsV t).length < 2 then .bad ((lnsV t).length + 1) 11 else
      match lnsV t with
      | x :: y :: r => match cfgV x, cfgV y, evsV r with
        | some a, some b, some es => .good a b es
        | _, _, _ => .bad 0 0
      | _ => .bad 0 0 := by
  have hne : pieces 10 t ≠ [] := by obtain ⟨w, ws, e⟩ := pieces_ne 10 t; rw [e]; simp
  have hps := List.dropLast_concat_getLast hne
  have hl : (if (pieces 10 t).getLast?.getD [] = [] then (pieces 10 t).dropLast else (pieces 10 t).dropLast ++ [(pieces 10 t).getLast?.getD []]) = lnsV t := by
    unfold lnsV
    split
    · rfl
    · rw [List.getLast?_eq_some_getLast hne]
      exact hps
  unfold refParse
  simp only [hl]
  rfl
theorem refParse_good (t : Word) (h1 : t.length ≤ 65536) (h2 : (lnsV t).length ≤ 2048) (hb : badR (lnsE t) (lnsV t).length 0 (lnsV t) = none) (x y : Word) (r : List Word) (hl : lnsV t = x :: y :: r) : refParse t = .good (rC2 x).1 (rC2 y).1 (reAt (lnsV t) (lnsV t).length) := by
  rw [refParse_lns, if_neg (by omega), if_neg (by omega), hb]
  have hbn := badR_none _ _ _ _ hb
  rw [hl] at hbn ⊢
  simp only [List.length_cons]
  rw [if_neg (by omega)]
  unfold badAt at hbn
  split at hbn
  · rename_i hx
    unfold badAt at hbn
    split at hbn
    · rename_i hy
      unfold lineOk at hx hy
      rw [if_pos (by omega)] at hx hy
      obtain ⟨a, ha⟩ := Option.isSome_iff_exists.1 hx
      obtain ⟨b, hb'⟩ := Option.isSome_iff_exists.1 hy
      have hr := evsV_rE r (0 + 1 + 1) (by omega) hbn
      simp only [ha, hb', hr]
      have e1 : (rC2 x).1 = a := by unfold rC2; rw [ha]
      have e2 : (rC2 y).1 = b := by unfold rC2; rw [hb']
      rw [e1, e2]
      congr 1
      unfold reAt
      simp
    · cases hbn
  · cases hbn
theorem grown_delo {H : Heap} {x : AV} {n sz : Nat} {cs : List AV} {bo bo' : Option Nat} (h : grown H sz x = some (n, cs, bo)) (hb : ∀ b, bo = some b → bo' ≠ some b) : grown (H.delo bo') sz x = some (n, cs, bo) := by
  cases bo' with
  | none => exact h
  | some b' =>
    rcases grown_cases h with ⟨rfl, h5, h6, h7⟩ | ⟨b, off, rfl, h7, c, h5, h6, h8⟩
    · rw [h5, h6, h7]; rfl
    · have hne : b ≠ b' := fun e => hb b h7 (by rw [e])
      subst h7
      rw [h8]
      show grown (H.del b') sz _ = _
      simp [grown, Heap.get_del, hne, h5]
      omega
theorem grown_regrow {H : Heap} {x : AV} {n sz : Nat} {cs new : List AV} {bo bo' : Option Nat} (h : grown H sz x = some (n, cs, bo)) (hb : ∀ b, bo = some b → bo' ≠ some b) : grown (H.regrow bo' new) sz x = some (n, cs, bo) := by
  unfold Heap.regrow
  exact grown_alloc (grown_delo h hb)
theorem appC {H : Heap} {x : AV} {n : Nat} {cs : List AV} {bo : Option Nat} (c : CfgS) (hg : grown H 18 x = some (n, cs, bo)) (hn : n ≤ 1000000000) : aappend Tryz.prog (H.alloc (cfgC c)) 65 65 x (.ms H.next 0 1 18) = some (.ms (H.next + 1) 0 (n + 1) 18, (H.alloc (cfgC c)).regrow bo (cs ++ cfgC c)) ∧
    grown ((H.alloc (cfgC c)).regrow bo (cs ++ cfgC c)) 18 (.ms (H.next + 1) 0 (n + 1) 18) = some (n + 1, cs ++ cfgC c, some (H.next + 1)) :=
  app_one (P := Tryz.prog) (new := cfgC c) tU65 tS25 tB25 tZ25 rfl rfl rfl hg (by omega) (by omega)
theorem zrepC : List.drop 18 (zrep [.bool false, .sc (.string ByteArray.empty), .sc (.string ByteArray.empty), .int 0, .bool false, .bool false, .sc (.int .u32 0), .int 0, .bool false, .int 0, .bool false, .bool false, .bool false, .bool false, .bool false, .int 0, .int 0, .int 0] 18) = [] := rfl
theorem zrep_len (zs : List AV) (n : Nat) : (zrep zs n).length = n := by simp [zrep]
theorem appR {H : Heap} {x : AV} {n : Nat} {cs : List AV} {bo : Option Nat} (e : EvS) (hg : grown H 5 x = some (n, cs, bo)) (hn : n ≤ 1000000000) : aappend Tryz.prog (H.alloc (evC e)) 30 30 x (.ms H.next 0 1 5) = some (.ms (H.next + 1) 0 (n + 1) 5, (H.alloc (evC e)).regrow bo (cs ++ evC e)) ∧
    grown ((H.alloc (evC e)).regrow bo (cs ++ evC e)) 5 (.ms (H.next + 1) 0 (n + 1) 5) = some (n + 1, cs ++ evC e, some (H.next + 1)) :=
  app_one (P := Tryz.prog) (new := evC e) tU30 tS44 tB44 tZ44 rfl rfl rfl hg (by omega) (by omega)
theorem rconfig_H (l : Word) (hl : l.length ≤ 1000000) (H : Heap) : SCalls Tryz.prog 23 [sA l] H (.tup [.agg (cfgC (rC2 l).1), .bool (rC2 l).2]) H := scalls_frame (rconfig_s l hl) (by simp [go_sem]) (by simp [go_sem, cfgC]) H
theorem revent_H (l : Word) (hl : l.length ≤ 1000000) (H : Heap) : SCalls Tryz.prog 24 [sA l] H (.tup [.agg (evC (rE l).1), .bool (rE l).2]) H := scalls_frame (revent_s l hl) (by simp [go_sem]) (by simp [go_sem, evC, bA_lt]) H
/-- Not one of the three first blocks. -/
def far (bo : Option Nat) : Prop := bo ≠ some 0 ∧ bo ≠ some 1 ∧ bo ≠ some 2
def RSt (ls : List Word) (ended : Bool) (env : Env) (H : Heap) : Prop := env 2 = .ptr 0 0 ∧ env 3 = .ptr 1 0 ∧ env 7 = .ptr 2 0 ∧ env 8 = .vs ls.length 1 (wV ls) ∧ env 9 = .bool ended ∧ H.get 0 = some (cfgC noCfg) ∧ H.get 1 = some (cfgC noCfg) ∧ H.get 2 = some (cfgC noCfg)
def RLs (ls : List Word) (i : Nat) (env : Env) (H : Heap) : Prop := ∃ x bo y by_, env 10 = x ∧ grown H 18 x = some ((csAt ls i).length, cV (csAt ls i), bo) ∧ far bo ∧ env 11 = y ∧ grown H 5 y = some ((reAt ls i).length, eV ((reAt ls i).map toI), by_) ∧ far by_ ∧ (∀ b, bo = some b → by_ ≠ some b) ∧ (i ≤ 2 → y = .nil)
theorem RSt.alloc {ls : List Word} {ended : Bool} {env env' : Env} {H : Heap} {v : List AV} (h : RSt ls ended env H) (he : env' 2 = env 2 ∧ env' 3 = env 3 ∧ env' 7 = env 7 ∧ env' 8 = env 8 ∧ env' 9 = env 9) : RSt ls ended env' (H.alloc v) := by
  obtain ⟨h1, h2, h3, h4, h5, g0, g1, g2⟩ := h
  obtain ⟨q1, q2, q3, q4, q5⟩ := he
  have l0 := Heap.lt_of_get g0
  have l1 := Heap.lt_of_get g1
  have l2 := Heap.lt_of_get g2
  exact ⟨q1.trans h1, q2.trans h2, q3.trans h3, q4.trans h4, q5.trans h5, by rw [Heap.get_alloc, if_neg (by omega)]; exact g0, by rw [Heap.get_alloc, if_neg (by omega)]; exact g1, by rw [Heap.get_alloc, if_neg (by omega)]; exact g2⟩
theorem RSt.fresh {ls : List Word} {ended : Bool} {env env' : Env} {H : Heap} {v v' : List AV} (h : RSt ls ended env H) (he : env' 2 = env 2 ∧ env' 3 = env 3 ∧ env' 7 = env 7 ∧ env' 8 = env 8 ∧ env' 9 = env 9) : RSt ls ended env' ((H.alloc v).set H.next v') := by
  obtain ⟨q1, q2, q3, q4, q5, g0, g1, g2⟩ := h.alloc (v := v) he
  obtain ⟨_, _, _, _, _, k0, k1, k2⟩ := h
  have l0 := Heap.lt_of_get k0
  have l1 := Heap.lt_of_get k1
  have l2 := Heap.lt_of_get k2
  exact ⟨q1, q2, q3, q4, q5, by rw [Heap.get_set, if_neg (by omega)]; exact g0, by rw [Heap.get_set, if_neg (by omega)]; exact g1, by rw [Heap.get_set, if_neg (by omega)]; exact g2⟩
theorem RSt.regrow {ls : List Word} {ended : Bool} {env env' : Env} {H : Heap} {v : List AV} {bo : Option Nat} (h : RSt ls ended env H) (hf : far bo) (he : env' 2 = env 2 ∧ env' 3 = env 3 ∧ env' 7 = env 7 ∧ env' 8 = env 8 ∧ env' 9 = env 9) : RSt ls ended env' (H.regrow bo v) := by
  obtain ⟨h1, h2, h3, h4, h5, g0, g1, g2⟩ := h
  obtain ⟨q1, q2, q3, q4, q5⟩ := he
  exact ⟨q1.trans h1, q2.trans h2, q3.trans h3, q4.trans h4, q5.trans h5, get_regrow_other g0 hf.1, get_regrow_other g1 hf.2.1, get_regrow_other g2 hf.2.2⟩
theorem RSt.next {ls : List Word} {ended : Bool} {env : Env} {H : Heap} (h : RSt ls ended env H) : 3 ≤ H.next := by
  have := Heap.lt_of_get h.2.2.2.2.2.2.2
  omega
theorem far_of {n : Nat} (h : 3 ≤ n) : far (some n) := ⟨by simp; omega, by simp; omega, by simp; omega⟩
theorem addC {ls : List Word} {ended : Bool} {env env' : Env} {H : Heap} {i : Nat} {w : Word} (hw : ls[i]? = some w) (hi : i < 2) (hs : RSt ls ended env H) {x : AV} {bo : Option Nat} (hg : grown H 18 x = some ((csAt ls i).length, cV (csAt ls i), bo)) (hf : far bo) (e11 : env 11 = .nil)
    (he : env' 2 = env 2 ∧ env' 3 = env 3 ∧ env' 7 = env 7 ∧ env' 8 = env 8 ∧ env' 9 = env 9 ∧ env' 11 = env 11) (h10 : env' 10 = .ms (H.next + 1) 0 ((csAt ls i).length + 1) 18) :
    RSt ls ended env' ((H.alloc (cfgC (rC2 w).1)).regrow bo (cV (csAt ls i) ++ cfgC (rC2 w).1)) ∧ RLs ls (i + 1) env' ((H.alloc (cfgC (rC2 w).1)).regrow bo (cV (csAt ls i) ++ cfgC (rC2 w).1)) := by
  have hn := hs.next
  have hb := csAt_cells ls i w hw hi
  refine ⟨(hs.alloc (env' := env) ⟨rfl, rfl, rfl, rfl, rfl⟩).regrow hf ⟨he.1, he.2.1, he.2.2.1, he.2.2.2.1, he.2.2.2.2.1⟩, _, some (H.next + 1), .nil, none, h10, ?_, far_of (by omega), he.2.2.2.2.2.trans e11, ?_, ⟨by simp, by simp, by simp⟩, fun b _ => by simp, fun _ => rfl⟩
  · rw [hb.1, hb.2]
    exact (appC _ hg (Nat.le_trans (csAt_len ls i) (by omega))).2
  · rw [reAt_small ls (i + 1) (by omega)]
    rfl
theorem addE {ls : List Word} {ended : Bool} {env env' : Env} {H : Heap} {i : Nat} {w : Word} (hw : ls[i]? = some w) (hi : 2 ≤ i) (hs : RSt ls ended env H) (hln : ls.length ≤ 1000000) {x y : AV} {bo by_ : Option Nat} (e10 : env 10 = x) (hg : grown H 18 x = some ((csAt ls i).length, cV (csAt ls i), bo)) (hf : far bo)
    (hgy : grown H 5 y = some ((reAt ls i).length, eV ((reAt ls i).map toI), by_)) (hfy : far by_) (hd : ∀ b, bo = some b → by_ ≠ some b)
    (he : env' 2 = env 2 ∧ env' 3 = env 3 ∧ env' 7 = env 7 ∧ env' 8 = env 8 ∧ env' 9 = env 9 ∧ env' 10 = env 10) (h11 : env' 11 = .ms (H.next + 1) 0 ((reAt ls i).length + 1) 5) :
    RSt ls ended env' ((H.alloc (evC (rE w).1)).regrow by_ (eV ((reAt ls i).map toI) ++ evC (rE w).1)) ∧ RLs ls (i + 1) env' ((H.alloc (evC (rE w).1)).regrow by_ (eV ((reAt ls i).map toI) ++ evC (rE w).1)) := by
  have hn := hs.next
  have hb := reAt_cells ls i w hw hi
  refine ⟨(hs.alloc (env' := env) ⟨rfl, rfl, rfl, rfl, rfl⟩).regrow hfy ⟨he.1, he.2.1, he.2.2.1, he.2.2.2.1, he.2.2.2.2.1⟩, x, bo, _, some (H.next + 1), he.2.2.2.2.2.trans e10, ?_, hf, h11, ?_, far_of (by omega), fun b hb' => ?_, fun h => absurd h (by omega)⟩
  · rw [csAt_keep ls i hi]
    exact grown_regrow (grown_alloc hg) hd
  · rw [hb.1, hb.2]
    exact (appR _ hgy (Nat.le_trans (reAt_len ls i) (by omega))).2
  · subst hb'
    have := grown_lt hg
    simp
    omega

set_option maxHeartbeats 8000000 in
theorem rparse_s (t : Word) (ht : t.length ≤ 1000000) : SCalls Tryz.prog 9 [sA t] Heap.empty (resA (refParse t)) Heap.empty := by
  have hls := refParse_lns t
  obtain ⟨ls, hq⟩ : ∃ ls, lnsV t = ls := ⟨_, rfl⟩
  obtain ⟨ended, hqe⟩ : ∃ e, lnsE t = e := ⟨_, rfl⟩
  have c22 := fun H => scalls_frame (lines_s t ht) (by simp [go_sem]) (by simp [go_sem, wA_lt]) H
  rw [hq, hqe] at c22
  unfold wA at c22
  have hgood := refParse_good t
  rw [hq, hqe] at hls hgood
  have hpl : ∀ w ∈ ls, w.length ≤ 1000000 := fun w hw => Nat.le_trans (pieces_len 10 t w (by
    rw [← hq] at hw
    unfold lnsV at hw
    split at hw
    · exact List.dropLast_subset _ hw
    · exact hw)) ht
  have hlt1 : ls.length ≤ 1000001 := by
    have h1 := pieces_count 10 t
    rw [← hq]
    unfold lnsV
    split
    · rw [List.length_dropLast]; omega
    · omega
  refine scalls_of_k (sz := 103) (Tryz.call9) Tryz.func9 rfl (Nat.zero_le _) (by kernel_rfl) (fun R hR => ?_)
  refine scode_seq_k (fun K1 hK1 => ?_)
  refine scode_region (by kernel_rfl) ?_
  simp [go_sem]
  refine hK1 _ _ ?_
  try clear hK1 K1
  refine scode_seq_mid (fun env H => env 0 = sA t ∧ env 2 = .ptr 0 0 ∧ env 3 = .ptr 1 0 ∧ env 7 = .ptr 2 0 ∧ H.get 0 = some (cfgC noCfg) ∧ H.get 1 = some (cfgC noCfg) ∧ H.get 2 = some (cfgC noCfg)) ?_ ?_
  · skip
    refine scode_region (by kernel_rfl) ?_
    simp [go_sem]
    first
      | done
      | exact ⟨rfl, rfl, rfl⟩
      | exact ⟨rfl, rfl⟩
      | rfl
  rintro env H ⟨e0, e2, e3, e7, g0, g1, g2⟩
  refine scode_seq_k (fun K3 hK3 => ?_)
  refine scode_seq_k (fun K4 hK4 => ?_)
  refine scode_region (by kernel_rfl) ?_
  simp [go_sem, e0]
  refine hK4 _ _ ?_
  try clear hK4 K4
  refine scode_if (b := decide (65536 < (t.length : Int))) (by simp [go_sem]) (fun hb => ?_) (fun hb => ?_)
  · skip
    simp only [decide_eq_true_eq] at hb
    have hres : refParse t = .bad 0 3 := by rw [hls, if_pos (by omega)]
    refine scode_seq_k (fun K5 hK5 => ?_)
    have hl1 := cfl noCfg
    simp only [AV.leaf] at hl1
    refine scode_draw mixed (by kernel_rfl) (bf := [0, 0, 1, 7, 15, 31, 63]) (by kernel_rfl) ?_
    simp [go_sem, e2, e3, e7, g0, g1, g2, befL, cl, hl1, c_t18', c_d18']
    refine hK5 _ _ ?_
    try clear hK5 K5
    refine scode_ret ?_
    simp only [go_sem]
    refine hR _ _ ?_
    rw [hres]
    refine ret_pure (v := .tup [.agg (cfgC noCfg), .agg (cfgC noCfg), .nil, .int 0, .int 3]) (by first | (simp [go_sem, e2, e3, g0, g1, c_d18', c_t18', cl]; done) | (simp [go_sem, e2, e3, g0, g1, c_d18', c_t18', cl]; rfl)) ?_ (empty_le _) (Nat.zero_le _) (by simp [resA, eA, eV, go_sem, cfgC])
    exact .tupL (.cons (.same _) (.cons (.same _) (.cons (.nil 5) (.cons (.same _) (.cons (.same _) .nil)))))
  · skip
    simp only [decide_eq_false_iff_not] at hb
    have hle : t.length ≤ 65536 := by omega
    rw [if_neg (by omega)] at hls
    refine scode_skip ?_
    refine hK3 _ _ ?_
    try clear hK3 K3
    refine scode_seq_mid (fun env H => RSt ls ended env H) ?_ ?_
    · skip
      refine scode_hide (fun K7 hK7 => ?_)
      refine scode_region (by kernel_rfl) ?_
      refine w_take 2 (fun K8 hK8 => ?_)
      simp [go_sem, e0]
      refine ⟨_, _, c22 _, ?_⟩
      refine hK8 _ _ ?_
      clear hK8 K8
      simp [go_sem, e0]
      refine hK7 _ _ ?_
      exact ⟨by simp [go_sem, e2], by simp [go_sem, e3], by simp [go_sem, e7], by simp [go_sem], by simp [go_sem], g0, g1, g2⟩
    clear e0 e2 e3 e7 g0 g1 g2
    rintro env H ⟨e2, e3, e7, e8, e9, g0, g1, g2⟩
    refine scode_seq_k (fun K9 hK9 => ?_)
    refine scode_seq_k (fun K10 hK10 => ?_)
    refine scode_region (by kernel_rfl) ?_
    simp [go_sem, e8]
    refine hK10 _ _ ?_
    try clear hK10 K10
    refine scode_if (b := decide (2048 < (ls.length : Int))) (by simp [go_sem]) (fun hb => ?_) (fun hb => ?_)
    · skip
      simp only [decide_eq_true_eq] at hb
      rw [if_pos (by omega)] at hls
      have hres := hls
      refine scode_seq_k (fun K11 hK11 => ?_)
      have hl1 := cfl noCfg
      simp only [AV.leaf] at hl1
      refine scode_draw mixed (by kernel_rfl) (bf := [0, 0, 1, 7, 15, 31, 63]) (by kernel_rfl) ?_
      simp [go_sem, e2, e3, e7, g0, g1, g2, befL, cl, hl1, c_t18', c_d18']
      refine hK11 _ _ ?_
      try clear hK11 K11
      refine scode_ret ?_
      simp only [go_sem]
      refine hR _ _ ?_
      rw [hres]
      refine ret_pure (v := .tup [.agg (cfgC noCfg), .agg (cfgC noCfg), .nil, .int 0, .int 3]) (by first | (simp [go_sem, e2, e3, g0, g1, c_d18', c_t18', cl]; done) | (simp [go_sem, e2, e3, g0, g1, c_d18', c_t18', cl]; rfl)) ?_ (empty_le _) (Nat.zero_le _) (by simp [resA, eA, eV, go_sem, cfgC])
      exact .tupL (.cons (.same _) (.cons (.same _) (.cons (.nil 5) (.cons (.same _) (.cons (.same _) .nil)))))
    · skip
      simp only [decide_eq_false_iff_not] at hb
      have hle2 : ls.length ≤ 2048 := by omega
      rw [if_neg (by omega)] at hls
      refine scode_skip ?_
      refine hK9 _ _ ?_
      try clear hK9 K9
      refine scode_seq_k (fun K12 hK12 => ?_)
      refine scode_region (by kernel_rfl) ?_
      simp [go_sem]
      refine hK12 _ _ ?_
      try clear hK12 K12
      refine scode_seq_k (fun K13 hK13 => ?_)
      refine scode_region (by kernel_rfl) ?_
      simp [go_sem]
      refine hK13 _ _ ?_
      try clear hK13 K13
      refine scode_seq_k (fun K14 hK14 => ?_)
      refine scode_seq_k (fun K15 hK15 => ?_)
      refine scode_region (by kernel_rfl) ?_
      simp [go_sem]
      refine hK15 _ _ ?_
      try clear hK15 K15
      refine scode_block ?_
      refine scode_loop (Inv := fun n env H => ∃ i : Nat, n = ls.length - i ∧ i ≤ ls.length ∧ RSt ls ended env H ∧ env 12 = .int i ∧ badR ended ls.length 0 ls = badR ended ls.length i (ls.drop i) ∧ RLs ls i env H) ?_ (n := ls.length) (⟨0, rfl, by omega, ⟨by simp [go_sem, e2], by simp [go_sem, e3], by simp [go_sem, e7], by simp [go_sem, e8], by simp [go_sem, e9], g0, g1, g2⟩, by simp [go_sem], rfl, .nil, none, .nil, none, by simp [go_sem], rfl, ⟨by simp, by simp, by simp⟩, by simp [go_sem], by rw [reAt_small ls 0 (by omega)]; rfl, ⟨by simp, by simp, by simp⟩, fun b _ => by simp, fun _ => rfl⟩)
      clear e2 e3 e7 e8 e9 g0 g1 g2
      rintro n env H ⟨i, rfl, hi, hS, e12, hbad, hL⟩
      have hS0 := hS
      obtain ⟨e2, e3, e7, e8, e9, g0, g1, g2⟩ := hS
      refine scode_seq_k (fun K16 hK16 => ?_)
      refine scode_seq_k (fun K17 hK17 => ?_)
      refine scode_region (by kernel_rfl) ?_
      simp [go_sem, e8, e12]
      refine hK17 _ _ ?_
      try clear hK17 K17
      refine scode_if (b := decide (i < ls.length)) (by simp [go_sem]) (fun hb => ?_) (fun hb => ?_)
      · skip
        simp only [decide_eq_true_eq] at hb
        obtain ⟨w, hw⟩ := get_of_lt ls i hb
        obtain ⟨r, hdr⟩ := wV_at hw
        have hwlen : w.length ≤ 1000000 := hpl w (List.mem_of_getElem? hw)
        have hnext := badR_next ended ls.length ls i w hw
        have hLs : (wV ls).length = ls.length := wV_len ls
        have hwi : IntKind.i64.wrap ((ls.length : Int) - 1) = ls.length - 1 := i64in _ (by omega) (by omega)
        refine scode_skip ?_
        refine hK16 _ _ ?_
        try clear hK16 K16
        refine scode_seq_k (fun K18 hK18 => ?_)
        refine scode_block ?_
        refine scode_seq_mid (fun env H => RSt ls ended env H ∧ env 12 = .int i ∧ RLs ls i env H ∧ env 13 = .bool (ended || decide (i + 1 < ls.length))) ?_ ?_
        · skip
          rcases ended with _ | _
          · skip
            refine scode_hide (fun K20 hK20 => ?_)
            refine scode_region (by kernel_rfl) ?_
            simp [go_sem, e8, e9, e12, hwi]
            refine hK20 _ _ ?_
            obtain ⟨x, bo, y, by_, e10, hL⟩ := hL
            exact ⟨⟨by simp [go_sem, e2], by simp [go_sem, e3], by simp [go_sem, e7], by simp [go_sem, e8], by simp [go_sem, e9], g0, g1, g2⟩, by simp [go_sem, e12], ⟨x, bo, y, by_, by simp [go_sem, e10], hL.1, hL.2.1, by simp [go_sem, hL.2.2.1], hL.2.2.2⟩, by simp [go_sem]; try omega⟩
          · skip
            refine scode_hide (fun K21 hK21 => ?_)
            refine scode_region (by kernel_rfl) ?_
            simp [go_sem, e8, e9, e12, hwi]
            refine hK21 _ _ ?_
            obtain ⟨x, bo, y, by_, e10, hL⟩ := hL
            exact ⟨⟨by simp [go_sem, e2], by simp [go_sem, e3], by simp [go_sem, e7], by simp [go_sem, e8], by simp [go_sem, e9], g0, g1, g2⟩, by simp [go_sem, e12], ⟨x, bo, y, by_, by simp [go_sem, e10], hL.1, hL.2.1, by simp [go_sem, hL.2.2.1], hL.2.2.2⟩, by simp [go_sem]; try omega⟩
        clear e2 e3 e7 e8 e9 g0 g1 g2 e12 hL hS0
        rintro env H ⟨hS, e12, hL, e13⟩
        have hS0 := hS
        obtain ⟨e2, e3, e7, e8, e9, g0, g1, g2⟩ := hS
        obtain ⟨ok0, hok0⟩ : ∃ z, (ended || decide (i + 1 < ls.length)) = z := ⟨_, rfl⟩
        rw [hok0] at e13 hnext
        refine scode_seq_mid (fun env H => RSt ls ended env H ∧ env 12 = .int i ∧ RLs ls (i + 1) env H ∧ env 13 = .bool (ok0 && lineOk i w)) ?_ ?_
        · skip
          refine scode_seq_k (fun K23 hK23 => ?_)
          refine scode_hide (fun K24 hK24 => ?_)
          refine scode_region (by kernel_rfl) ?_
          simp [go_sem, e12]
          refine hK24 _ _ ?_
          refine hK23 _ _ ?_
          try clear hK23 K23
          refine scode_if (b := decide ((i : Int) < 2)) (by simp [go_sem]) (fun hb => ?_) (fun hb => ?_)
          · skip
            simp only [decide_eq_true_eq] at hb
            have hlk := lineOk_rc i w (by omega)
            have hb1 : (i : Int) < ls.length := by omega
            refine scode_seq_mid (fun env H => RSt ls ended env H ∧ env 12 = .int i ∧ RLs ls i env H ∧ env 13 = .bool ok0 ∧ env 15 = .bool (lineOk i w) ∧ ∃ k, env 14 = .ptr k 0 ∧ H.get k = some (cfgC (rC2 w).1)) ?_ ?_
            · skip
              have cc := rconfig_H w hwlen H
              rw [hlk] at cc
              obtain ⟨c, hc⟩ : ∃ c, (rC2 w).1 = c := ⟨_, rfl⟩
              rw [hc] at cc
              have hl1 := cfl c
              simp only [AV.leaf] at hl1
              obtain ⟨lk, hlkq⟩ : ∃ z, lineOk i w = z := ⟨_, rfl⟩
              rw [hlkq] at cc
              refine scode_hide (fun K26 hK26 => ?_)
              refine scode_region (by kernel_rfl) ?_
              refine w_take 5 (fun K27 hK27 => ?_)
              simp [go_sem, e8, e12, hdr, hb1, hLs, cl, hl1, c_t18', c_d18']
              refine ⟨_, _, cc, ?_⟩
              refine hK27 _ _ ?_
              clear hK27 K27
              simp [go_sem, e8, e12, hdr, hb1, hLs, cl, hl1, c_t18', c_d18']
              refine hK26 _ _ ?_
              obtain ⟨x, bo, y, by_, e10, hg, hf, e11, hgy, hfy, hd, hyn⟩ := hL
              exact ⟨hS0.fresh ⟨by simp [go_sem], by simp [go_sem], by simp [go_sem], by simp [go_sem], by simp [go_sem]⟩, by simp [go_sem, e12], ⟨x, bo, y, by_, by simp [go_sem, e10], grown_set (grown_alloc hg) (grown_ne hg), hf, by simp [go_sem, e11], grown_set (grown_alloc hgy) (grown_ne hgy), hfy, hd, hyn⟩, by simp [go_sem, e13], by simp [go_sem, hlkq], H.next, by simp [go_sem], by simp [go_sem, hc]⟩
            clear e2 e3 e7 e8 e9 g0 g1 g2 e12 hL e13 hS0
            rintro env H ⟨hS, e12, hL, e13, e15, k, e14, gk⟩
            have hS0 := hS
            obtain ⟨e2, e3, e7, e8, e9, g0, g1, g2⟩ := hS
            refine scode_seq_mid (fun env H => RSt ls ended env H ∧ env 12 = .int i ∧ RLs ls i env H ∧ env 13 = .bool (ok0 && lineOk i w) ∧ ∃ k, env 14 = .ptr k 0 ∧ H.get k = some (cfgC (rC2 w).1)) ?_ ?_
            · skip
              rcases ok0 with _ | _
              · skip
                refine scode_hide (fun K29 hK29 => ?_)
                refine scode_region (by kernel_rfl) ?_
                simp [go_sem, e13, e15]
                refine hK29 _ _ ?_
                obtain ⟨x, bo, y, by_, e10, hg, hf, e11, hgy, hfy, hd, hyn⟩ := hL
                exact ⟨⟨by simp [go_sem, e2], by simp [go_sem, e3], by simp [go_sem, e7], by simp [go_sem, e8], by simp [go_sem, e9], g0, g1, g2⟩, by simp [go_sem, e12], ⟨x, bo, y, by_, by simp [go_sem, e10], hg, hf, by simp [go_sem, e11], hgy, hfy, hd, hyn⟩, by simp [go_sem], k, by simp [go_sem, e14], gk⟩
              · skip
                refine scode_hide (fun K30 hK30 => ?_)
                refine scode_region (by kernel_rfl) ?_
                simp [go_sem, e13, e15]
                refine hK30 _ _ ?_
                obtain ⟨x, bo, y, by_, e10, hg, hf, e11, hgy, hfy, hd, hyn⟩ := hL
                exact ⟨⟨by simp [go_sem, e2], by simp [go_sem, e3], by simp [go_sem, e7], by simp [go_sem, e8], by simp [go_sem, e9], g0, g1, g2⟩, by simp [go_sem, e12], ⟨x, bo, y, by_, by simp [go_sem, e10], hg, hf, by simp [go_sem, e11], hgy, hfy, hd, hyn⟩, by simp [go_sem], k, by simp [go_sem, e14], gk⟩
            clear e2 e3 e7 e8 e9 g0 g1 g2 e12 hL e13 hS0 e15 e14 gk
            rintro env H ⟨hS, e12, hL, e13, k, e14, gk⟩
            have hS0 := hS
            obtain ⟨e2, e3, e7, e8, e9, g0, g1, g2⟩ := hS
            obtain ⟨x, bo, y, by_, e10, hg, hf, e11, hgy, hfy, hd, hyn⟩ := hL
            have hy : env 11 = .nil := by rw [e11]; exact hyn (by omega)
            have ha := (appC (rC2 w).1 hg (Nat.le_trans (csAt_len ls i) (by omega))).1
            have hadd := fun env' => addC (env' := env') hw (by omega) hS0 hg hf hy
            obtain ⟨c, hc⟩ : ∃ c, (rC2 w).1 = c := ⟨_, rfl⟩
            rw [hc] at ha gk hadd
            refine scode_region (by kernel_rfl) ?_
            simp [go_sem, e10, e14, gk, cl, c_t18', c_d18', zrepC, zrep_len]
            rw [ha]
            simp only []
            first
              | exact ⟨(hadd _ ⟨by simp [go_sem], by simp [go_sem], by simp [go_sem], by simp [go_sem], by simp [go_sem], by simp [go_sem]⟩ (by simp [go_sem])).1, by simp [go_sem, e12], (hadd _ ⟨by simp [go_sem], by simp [go_sem], by simp [go_sem], by simp [go_sem], by simp [go_sem], by simp [go_sem]⟩ (by simp [go_sem])).2, by simp [go_sem, e13]⟩
          · skip
            simp only [decide_eq_false_iff_not] at hb
            have hlk := lineOk_re i w (by omega)
            have hb1 : (i : Int) < ls.length := by omega
            refine scode_seq_mid (fun env H => RSt ls ended env H ∧ env 12 = .int i ∧ RLs ls i env H ∧ env 13 = .bool ok0 ∧ env 17 = .bool (lineOk i w) ∧ ∃ k, env 16 = .ptr k 0 ∧ H.get k = some (evC (rE w).1)) ?_ ?_
            · skip
              have cc := revent_H w hwlen H
              rw [hlk] at cc
              obtain ⟨e, he⟩ : ∃ e, (rE w).1 = e := ⟨_, rfl⟩
              rw [he] at cc
              obtain ⟨lk, hlkq⟩ : ∃ z, lineOk i w = z := ⟨_, rfl⟩
              rw [hlkq] at cc
              refine scode_hide (fun K32 hK32 => ?_)
              refine scode_region (by kernel_rfl) ?_
              refine w_take 5 (fun K33 hK33 => ?_)
              simp [go_sem, e8, e12, hdr, hb1, hLs, evC]
              refine ⟨_, _, cc, ?_⟩
              refine hK33 _ _ ?_
              clear hK33 K33
              simp [go_sem, e8, e12, hdr, hb1, hLs, evC]
              refine hK32 _ _ ?_
              obtain ⟨x, bo, y, by_, e10, hg, hf, e11, hgy, hfy, hd, hyn⟩ := hL
              exact ⟨hS0.fresh ⟨by simp [go_sem], by simp [go_sem], by simp [go_sem], by simp [go_sem], by simp [go_sem]⟩, by simp [go_sem, e12], ⟨x, bo, y, by_, by simp [go_sem, e10], grown_set (grown_alloc hg) (grown_ne hg), hf, by simp [go_sem, e11], grown_set (grown_alloc hgy) (grown_ne hgy), hfy, hd, hyn⟩, by simp [go_sem, e13], by simp [go_sem, hlkq], H.next, by simp [go_sem], by simp [go_sem, he, evC]⟩
            clear e2 e3 e7 e8 e9 g0 g1 g2 e12 hL e13 hS0
            rintro env H ⟨hS, e12, hL, e13, e17, k, e16, gk⟩
            have hS0 := hS
            obtain ⟨e2, e3, e7, e8, e9, g0, g1, g2⟩ := hS
            refine scode_seq_mid (fun env H => RSt ls ended env H ∧ env 12 = .int i ∧ RLs ls i env H ∧ env 13 = .bool (ok0 && lineOk i w) ∧ ∃ k, env 16 = .ptr k 0 ∧ H.get k = some (evC (rE w).1)) ?_ ?_
            · skip
              rcases ok0 with _ | _
              · skip
                refine scode_hide (fun K35 hK35 => ?_)
                refine scode_region (by kernel_rfl) ?_
                simp [go_sem, e13, e17]
                refine hK35 _ _ ?_
                obtain ⟨x, bo, y, by_, e10, hg, hf, e11, hgy, hfy, hd, hyn⟩ := hL
                exact ⟨⟨by simp [go_sem, e2], by simp [go_sem, e3], by simp [go_sem, e7], by simp [go_sem, e8], by simp [go_sem, e9], g0, g1, g2⟩, by simp [go_sem, e12], ⟨x, bo, y, by_, by simp [go_sem, e10], hg, hf, by simp [go_sem, e11], hgy, hfy, hd, hyn⟩, by simp [go_sem], k, by simp [go_sem, e16], gk⟩
              · skip
                refine scode_hide (fun K36 hK36 => ?_)
                refine scode_region (by kernel_rfl) ?_
                simp [go_sem, e13, e17]
                refine hK36 _ _ ?_
                obtain ⟨x, bo, y, by_, e10, hg, hf, e11, hgy, hfy, hd, hyn⟩ := hL
                exact ⟨⟨by simp [go_sem, e2], by simp [go_sem, e3], by simp [go_sem, e7], by simp [go_sem, e8], by simp [go_sem, e9], g0, g1, g2⟩, by simp [go_sem, e12], ⟨x, bo, y, by_, by simp [go_sem, e10], hg, hf, by simp [go_sem, e11], hgy, hfy, hd, hyn⟩, by simp [go_sem], k, by simp [go_sem, e16], gk⟩
            clear e2 e3 e7 e8 e9 g0 g1 g2 e12 hL e13 hS0 e17 e16 gk
            rintro env H ⟨hS, e12, hL, e13, k, e16, gk⟩
            have hS0 := hS
            obtain ⟨e2, e3, e7, e8, e9, g0, g1, g2⟩ := hS
            obtain ⟨x, bo, y, by_, e10, hg, hf, e11, hgy, hfy, hd, hyn⟩ := hL
            have ha := (appR (rE w).1 hgy (Nat.le_trans (reAt_len ls i) (by omega))).1
            have hadd := fun env' => addE (env' := env') hw (by omega) hS0 (by omega) e10 hg hf hgy hfy hd
            obtain ⟨ev, hev⟩ : ∃ e, (rE w).1 = e := ⟨_, rfl⟩
            rw [hev] at ha gk hadd
            unfold evC at ha gk hadd
            refine scode_region (by kernel_rfl) ?_
            simp [go_sem, e11, e16, gk, ha, zrep5]
            first
              | exact ⟨(hadd _ ⟨by simp [go_sem], by simp [go_sem], by simp [go_sem], by simp [go_sem], by simp [go_sem], by simp [go_sem]⟩ (by simp [go_sem])).1, by simp [go_sem, e12], (hadd _ ⟨by simp [go_sem], by simp [go_sem], by simp [go_sem], by simp [go_sem], by simp [go_sem], by simp [go_sem]⟩ (by simp [go_sem])).2, by simp [go_sem, e13]⟩
        clear e2 e3 e7 e8 e9 g0 g1 g2 e12 hL e13 hS0
        rintro env H ⟨hS, e12, hL, e13⟩
        have hS0 := hS
        obtain ⟨e2, e3, e7, e8, e9, g0, g1, g2⟩ := hS
        refine scode_seq_k (fun K37 hK37 => ?_)
        rcases hz : (ok0 && lineOk i w) with _ | _
        · skip
          rw [hz] at e13 hnext
          have hres : refParse t = .bad (i + 1) 11 := by rw [hls, hbad, hnext]; rfl
          refine scode_region (by kernel_rfl) ?_
          simp [go_sem, e13]
          refine hK37 _ _ ?_
          try clear hK37 K37
          refine scode_if (b := true) (by simp [go_sem]) (fun _ => ?_) (fun h => by cases h)
          refine scode_seq_k (fun K38 hK38 => ?_)
          have hw1 := i64_succ i (by omega)
          have hl1 := cfl noCfg
          simp only [AV.leaf] at hl1
          refine scode_draw mixed (by kernel_rfl) (bf := [0, 0, 0, 4, 1, 19, 51, 127, 255]) (by kernel_rfl) ?_
          simp [go_sem, e2, e3, e7, g0, g1, g2, befL, cl, hl1, c_t18', c_d18', e12, hw1]
          refine hK38 _ _ ?_
          try clear hK38 K38
          refine scode_ret ?_
          simp only [go_sem]
          refine hR _ _ ?_
          rw [hres]
          refine ret_pure (v := .tup [.agg (cfgC noCfg), .agg (cfgC noCfg), .nil, .int ((i : Int) + 1), .int 11]) (by first | (simp [go_sem, e2, e3, g0, g1, c_d18', c_t18', cl]; done) | (simp [go_sem, e2, e3, g0, g1, c_d18', c_t18', cl]; rfl)) ?_ (empty_le _) (Nat.zero_le _) (by simp [resA, eA, eV, go_sem, cfgC])
          exact .tupL (.cons (.same _) (.cons (.same _) (.cons (.nil 5) (.cons (.same _) (.cons (.same _) .nil)))))
        · skip
          rw [hz] at e13 hnext
          have hbad2 : badR ended ls.length 0 ls = badR ended ls.length (i + 1) (ls.drop (i + 1)) := by rw [hbad, hnext]; rfl
          refine scode_region (by kernel_rfl) ?_
          simp [go_sem, e13]
          refine hK37 _ _ ?_
          try clear hK37 K37
          refine scode_if (b := false) (by simp [go_sem]) (fun h => by cases h) (fun _ => ?_)
          refine scode_skip ?_
          refine hK18 _ _ ?_
          try clear hK18 K18
          refine scode_region (by kernel_rfl) ?_
          simp [go_sem, e12]
          have hw1 := i64_succ i (by omega)
          obtain ⟨x, bo, y, by_, e10, hL⟩ := hL
          exact ⟨ls.length - (i + 1), by omega, i + 1, rfl, by omega, ⟨by simp [go_sem, e2], by simp [go_sem, e3], by simp [go_sem, e7], by simp [go_sem, e8], by simp [go_sem, e9], g0, g1, g2⟩, by simp [go_sem, hw1], hbad2, x, bo, y, by_, by simp [go_sem, e10], hL.1, hL.2.1, by simp [go_sem, hL.2.2.1], hL.2.2.2⟩
      · skip
        simp only [decide_eq_false_iff_not] at hb
        obtain rfl : i = ls.length := by omega
        have hbn : badR ended ls.length 0 ls = none := by rw [hbad, List.drop_eq_nil_of_le (Nat.le_refl _)]; rfl
        refine scode_exit ?_
        refine hK14 _ _ ?_
        try clear hK14 K14
        refine scode_seq_k (fun K39 hK39 => ?_)
        refine scode_seq_k (fun K40 hK40 => ?_)
        refine scode_region (by kernel_rfl) ?_
        simp [go_sem, e8]
        refine hK40 _ _ ?_
        try clear hK40 K40
        refine scode_if (b := decide ((ls.length : Int) < 2)) (by simp [go_sem]) (fun hb => ?_) (fun hb => ?_)
        · skip
          simp only [decide_eq_true_eq] at hb
          have hres : refParse t = .bad (ls.length + 1) 11 := by rw [hls, hbn]; simp only; rw [if_pos (by omega)]
          refine scode_seq_k (fun K41 hK41 => ?_)
          have hw1 := i64_succ ls.length (by omega)
          have hl1 := cfl noCfg
          simp only [AV.leaf] at hl1
          refine scode_draw mixed (by kernel_rfl) (bf := [0, 0, 0, 4, 12, 1, 35, 99, 255, 511]) (by kernel_rfl) ?_
          simp [go_sem, e2, e3, e7, g0, g1, g2, befL, cl, hl1, c_t18', c_d18', e8, hw1]
          refine hK41 _ _ ?_
          try clear hK41 K41
          refine scode_ret ?_
          simp only [go_sem]
          refine hR _ _ ?_
          rw [hres]
          refine ret_pure (v := .tup [.agg (cfgC noCfg), .agg (cfgC noCfg), .nil, .int ((ls.length : Int) + 1), .int 11]) (by first | (simp [go_sem, e2, e3, g0, g1, c_d18', c_t18', cl]; done) | (simp [go_sem, e2, e3, g0, g1, c_d18', c_t18', cl]; rfl)) ?_ (empty_le _) (Nat.zero_le _) (by simp [resA, eA, eV, go_sem, cfgC])
          exact .tupL (.cons (.same _) (.cons (.same _) (.cons (.nil 5) (.cons (.same _) (.cons (.same _) .nil)))))
        · skip
          simp only [decide_eq_false_iff_not] at hb
          refine scode_skip ?_
          refine hK39 _ _ ?_
          try clear hK39 K39
          refine scode_seq_k (fun K42 hK42 => ?_)
          obtain ⟨w0, w1, r, hlq⟩ : ∃ x y r, ls = x :: y :: r := by
            match ls, hb with
            | x :: y :: r, _ => exact ⟨x, y, r, rfl⟩
            | [], h => exact absurd (by simp) h
            | [_], h => exact absurd (by simp) h
          have hres := hgood hle hle2 hbn w0 w1 r hlq
          obtain ⟨x, bo, y, by_, e10, hg, hf, e11, hgy, hfy, hd, hyn⟩ := hL
          have hcs : csAt ls ls.length = [(rC2 w0).1, (rC2 w1).1] := by rw [hlq]; simp [csAt]
          rw [hcs] at hg
          obtain ⟨a, hqa⟩ : ∃ c, (rC2 w0).1 = c := ⟨_, rfl⟩
          obtain ⟨b, hqb⟩ : ∃ c, (rC2 w1).1 = c := ⟨_, rfl⟩
          rw [hqa, hqb] at hg hres
          have hcv : cV [a, b] = cfgC a ++ cfgC b := by simp [cV]
          rw [hcv] at hg
          obtain ⟨es, hes⟩ : ∃ es, reAt ls ls.length = es := ⟨_, rfl⟩
          rw [hes] at hgy hres
          have g0d : (H.delo by_).get 0 = some (cfgC noCfg) := by cases by_ with | none => exact g0 | some q => rw [show H.delo (some q) = H.del q from rfl, Heap.get_del, if_neg (fun h => hfy.1 (by rw [h]))]; exact g0
          have g1d : (H.delo by_).get 1 = some (cfgC noCfg) := by cases by_ with | none => exact g1 | some q => rw [show H.delo (some q) = H.del q from rfl, Heap.get_del, if_neg (fun h => hfy.2.1 (by rw [h]))]; exact g1
          have hgd := grown_delo hg hd
          refine scode_freeze_grown 11 e11 hgy ?_
          refine scode_freeze_grown 10 (x := x) (by simp [go_sem, e10]) hgd ?_
          have g0e : ((H.delo by_).delo bo).get 0 = some (cfgC noCfg) := by cases bo with | none => exact g0d | some q => rw [show (H.delo by_).delo (some q) = (H.delo by_).del q from rfl, Heap.get_del, if_neg (fun h => hf.1 (by rw [h]))]; exact g0d
          have g1e : ((H.delo by_).delo bo).get 1 = some (cfgC noCfg) := by cases bo with | none => exact g1d | some q => rw [show (H.delo by_).delo (some q) = (H.delo by_).del q from rfl, Heap.get_del, if_neg (fun h => hf.2.1 (by rw [h]))]; exact g1d
          have hl1 := cfl a
          have hl2 := cfl b
          simp only [AV.leaf] at hl1 hl2
          refine scode_draw mixed (by kernel_rfl) (bf := [0, 1, 3, 0, 8, 24, 0, 7, 191, 511, 1023, 2047]) (by kernel_rfl) ?_
          simp [go_sem, e2, e3, g0e, g1e, befL, cl, hl1, hl2, c_t18', c_d18', c_t18, c_d18]
          refine hK42 _ _ ?_
          try clear hK42 K42
          refine scode_ret ?_
          simp only [go_sem]
          refine hR _ _ ?_
          rw [hres]
          exact ret_plain (by simp [go_sem, resA, eA, e2, e3, g0e, g1e, cl, c_t18', c_d18']) (empty_le _) (Nat.zero_le _) (by simp [resA, eA, go_sem, cfgC]; exact eV_lt _ _)

end Go.Proofs.YtfmpakmigmehkaaGreatDoor
