/- What is asked, read, ruled, judged: by the evaluator. -/
import Derived.Test.YtinbldahpifinaaGreatDoorL48
set_option maxRecDepth 20000
noncomputable section
namespace Go.Proofs.YtinbldahpifinaaGreatDoor
open Go Go.Fl Go.Proofs

def fsR : List FuncId := [6, 7, 8, 9, 14, 15, 16, 17, 18, 19, 20, 21, 22, 23, 24, 25, 34, 35, 36, 37, 38]

theorem enR : ∀ f ∈ fsR, Enters Tryz.prog f := by
  simp [fsR]
  exact ⟨Tryz.call6, Tryz.call7, Tryz.call8, Tryz.call9, Tryz.call14, Tryz.call15, Tryz.call16, Tryz.call17, Tryz.call18, Tryz.call19, Tryz.call20, Tryz.call21, Tryz.call22, Tryz.call23, Tryz.call24, Tryz.call25, Tryz.call34, Tryz.call35, Tryz.call36, Tryz.call37, Tryz.call38⟩

def nR4 (a b c d : Int) : Int := nR (nR (nR (nR 0 a) b) c) d

def allSc : List AV → Bool
  | [] => true
  | .sc _ :: r => allSc r
  | _ => false
theorem allSc_ok : ∀ {l : List AV}, allSc l = true → ∀ x ∈ l, x.Lt 0
  | [], _, x, hx => by cases hx
  | y :: r, h, x, hx => by
    cases y <;> try (simp [allSc] at h)
    rcases List.mem_cons.1 hx with rfl | hx
    · exact .sc _
    · exact allSc_ok h x hx
def plainD : AV → Bool
  | .vs _ _ cs => allSc cs
  | _ => false
theorem plainD_ok {x : AV} (h : plainD x = true) : x.Lt 0 := by
  unfold plainD at h
  split at h
  · exact .vs (allSc_ok h)
  · cases h

def toK2 : List AV → Option (List Krow)
  | [] => some []
  | .sc (.int .i64 k) :: d :: r => cond (plainD d) (match toK2 r with
    | some l => some ((k, [d]) :: l)
    | none => none) none
  | _ => none

theorem toK2_ok (n : Nat) : ∀ (cs : List AV) (rows : List Krow), cs.length ≤ n → toK2 cs = some rows → cs = keyV rows ∧ (∀ p ∈ rows, p.2.length = 1) ∧ (∀ p ∈ rows, ∀ x ∈ p.2, x.Lt 0) := by
  induction n with
  | zero =>
    intro cs rows hn h
    cases cs with
    | nil => simp only [toK2, Option.some.injEq] at h; subst h; exact ⟨rfl, fun p hp => (by cases hp), fun p hp => by cases hp⟩
    | cons x r => simp at hn
  | succ n ih =>
    intro cs rows hn h
    unfold toK2 at h
    split at h
    · cases h; exact ⟨rfl, fun p hp => (by cases hp), fun p hp => by cases hp⟩
    · rename_i k d r
      cases hc : plainD d with
      | false => rw [hc, cond_false] at h; cases h
      | true =>
        rw [hc, cond_true] at h
        split at h
        · rename_i l hl
          cases h
          obtain ⟨h1, h2, h3⟩ := ih r l (by simp only [List.length_cons] at hn; omega) hl
          refine ⟨by rw [h1]; rfl, fun p hp => ?_, fun p hp => ?_⟩
          · rcases List.mem_cons.1 hp with rfl | hp
            · rfl
            · exact h2 p hp
          · rcases List.mem_cons.1 hp with rfl | hp
            · intro x hx
              simp only [List.mem_cons, List.mem_nil_iff, or_false] at hx
              subst hx
              exact plainD_ok hc
            · exact h3 p hp
        · cases h
    · cases h

def plainC : AV → Bool
  | .sc (.int _ _) => true
  | .sc (.bool _) => true
  | .vs _ _ [] => true
  | .vs _ _ [.sc _, .sc _, .sc _] => true
  | _ => false
theorem plainC_ok {x : AV} (h : plainC x = true) : x.leaf = true ∧ x.Lt 0 := by
  unfold plainC at h
  split at h
  · exact ⟨rfl, .sc _⟩
  · exact ⟨rfl, .sc _⟩
  · exact ⟨rfl, .vs fun x hx => by cases hx⟩
  · refine ⟨rfl, .vs fun x hx => ?_⟩
    simp only [List.mem_cons, List.mem_nil_iff, or_false] at hx
    rcases hx with rfl | rfl | rfl <;> exact .sc _
  · cases h

def toK7 : List AV → Option (List Krow)
  | [] => some []
  | .sc (.int .i64 k) :: a :: b :: c :: d :: e :: f :: r => cond (plainC a && (plainC b && (plainC c && (plainC d && (plainC e && plainC f))))) (match toK7 r with
    | some l => some ((k, [a, b, c, d, e, f]) :: l)
    | none => none) none
  | _ => none

theorem toK7_ok (n : Nat) : ∀ (cs : List AV) (rows : List Krow), cs.length ≤ n → toK7 cs = some rows → cs = keyV rows ∧ (∀ p ∈ rows, p.2.length = 6) ∧ (∀ p ∈ rows, ∀ x ∈ p.2, x.leaf = true) ∧ (∀ p ∈ rows, ∀ x ∈ p.2, x.Lt 0) := by
  induction n with
  | zero =>
    intro cs rows hn h
    cases cs with
    | nil => simp only [toK7, Option.some.injEq] at h; subst h; exact ⟨rfl, fun p hp => (by cases hp), fun p hp => (by cases hp), fun p hp => by cases hp⟩
    | cons x r => simp at hn
  | succ n ih =>
    intro cs rows hn h
    unfold toK7 at h
    split at h
    · cases h; exact ⟨rfl, fun p hp => (by cases hp), fun p hp => (by cases hp), fun p hp => by cases hp⟩
    · rename_i k a b c d e f r
      cases hc : (plainC a && (plainC b && (plainC c && (plainC d && (plainC e && plainC f))))) with
      | false => rw [hc, cond_false] at h; cases h
      | true =>
        rw [hc, cond_true] at h
        simp only [Bool.and_eq_true] at hc
        obtain ⟨ca, cb, cc, cd, ce, cf⟩ := hc
        split at h
        · rename_i l hl
          cases h
          obtain ⟨h1, h2, h3, h4⟩ := ih r l (by simp only [List.length_cons] at hn; omega) hl
          have hall : ∀ x ∈ [a, b, c, d, e, f], x.leaf = true ∧ x.Lt 0 := by
            intro x hx
            simp only [List.mem_cons, List.mem_nil_iff, or_false] at hx
            rcases hx with rfl | rfl | rfl | rfl | rfl | rfl
            · exact plainC_ok ca
            · exact plainC_ok cb
            · exact plainC_ok cc
            · exact plainC_ok cd
            · exact plainC_ok ce
            · exact plainC_ok cf
          refine ⟨by rw [h1]; rfl, fun p hp => ?_, fun p hp => ?_, fun p hp => ?_⟩
          · rcases List.mem_cons.1 hp with rfl | hp
            · rfl
            · exact h2 p hp
          · rcases List.mem_cons.1 hp with rfl | hp
            · exact fun x hx => (hall x hx).1
            · exact h3 p hp
          · rcases List.mem_cons.1 hp with rfl | hp
            · exact fun x hx => (hall x hx).2
            · exact h4 p hp
        · cases h
    · cases h

/-- Calls that are known. -/
def baseR : ACall := fun f args H => match args with
  | [.sc (.int .u32 m)] => cond (Nat.beq f 16) (some (bytesA (wd m), H)) none
  | [.vs 4 1 [.sc (.int .u8 a), .sc (.int .u8 b), .sc (.int .u8 c), .sc (.int .u8 d)]] => cond (Nat.beq f 19) (some (.int (nR4 a b c d), H)) none
  | [.vs n 2 cs, .sc (.int .i64 (.ofNat j)), .sc (.int .i64 t)] => cond (Nat.beq f 22) (match toK2 cs with
    | some rows => cond (Nat.beq n rows.length && (Nat.ble j rows.length && Nat.ble rows.length 1048576)) (some (.bool (anyK (rows.take j) t), H)) none
    | none => none) none
  | [.vs n 7 cs, .sc (.int .i64 t)] => cond (Nat.beq f 21) (match toK7 cs with
    | some rows => cond (Nat.beq n rows.length && Nat.ble rows.length 1048576) (some (.tup [.agg (findK rows t).1, .sc (.bool (findK rows t).2)], H)) none
    | none => none) none
  | _ => none

theorem findK_lt {rows : List Krow} (h : ∀ p ∈ rows, ∀ x ∈ p.2, x.Lt 0) (t : Int) : ∀ x ∈ (findK rows t).1, x.Lt 0 := by
  induction rows with
  | nil => simp [findK, zero7, go_sem]
  | cons p r ih =>
    rw [findK]
    split
    · intro x hx
      simp only [Krow.cells, List.mem_cons] at hx
      rcases hx with rfl | hx
      · exact .sc _
      · exact h p List.mem_cons_self x hx
    · exact ih fun q hq => h q (List.mem_cons_of_mem _ hq)

theorem keyV_lt {rows : List Krow} (h : ∀ p ∈ rows, ∀ x ∈ p.2, x.Lt 0) : ∀ x ∈ keyV rows, x.Lt 0 := by
  intro x hx
  simp only [keyV, List.mem_flatMap, Krow.cells, List.mem_cons] at hx
  obtain ⟨p, hp, rfl | hx⟩ := hx
  · exact .sc _
  · exact h p hp x hx

theorem args_lt {rows : List Krow} (h : ∀ p ∈ rows, ∀ x ∈ p.2, x.Lt 0) (w : Nat) (a b : Value) : ∀ x ∈ [AV.vs rows.length w (keyV rows), .sc a, .sc b], x.Lt 0 := by
  intro x hx
  simp only [List.mem_cons, List.mem_nil_iff, or_false] at hx
  rcases hx with rfl | rfl | rfl
  · exact .vs (keyV_lt h)
  · exact .sc _
  · exact .sc _
theorem args_lt2 {rows : List Krow} (h : ∀ p ∈ rows, ∀ x ∈ p.2, x.Lt 0) (w : Nat) (a : Value) : ∀ x ∈ [AV.vs rows.length w (keyV rows), .sc a], x.Lt 0 := by
  intro x hx
  simp only [List.mem_cons, List.mem_nil_iff, or_false] at hx
  rcases hx with rfl | rfl
  · exact .vs (keyV_lt h)
  · exact .sc _

theorem baseR_ok : ∀ k a H r H', baseR k a H = some (r, H') → SCalls Tryz.prog k a H r H' := by
  intro k a H r H' h
  unfold baseR at h
  split at h
  · rename_i m
    cases hk : Nat.beq k 16 with
    | false => rw [hk] at h; cases h
    | true =>
      rw [hk] at h
      cases h
      rw [Nat.eq_of_beq_eq_true hk]
      exact scalls_frame (word_s m) (by simp [go_sem]) (by rw [bytesA_lt]; trivial) H
  · rename_i a b c d
    cases hk : Nat.beq k 19 with
    | false => rw [hk] at h; cases h
    | true =>
      rw [hk] at h
      cases h
      rw [Nat.eq_of_beq_eq_true hk]
      exact scalls_frame (number_s a b c d) (by simp [bytesA_lt]) (by simp [go_sem]) H
  · rename_i n cs j t
    cases hk : Nat.beq k 22 with
    | false => rw [hk] at h; cases h
    | true =>
      rw [hk, cond_true] at h
      rw [Nat.eq_of_beq_eq_true hk]
      split at h
      · rename_i rows hrows
        obtain ⟨rfl, h2, h4⟩ := toK2_ok _ _ _ (Nat.le_refl _) hrows
        cases hc : (Nat.beq n rows.length && (Nat.ble j rows.length && Nat.ble rows.length 1048576)) with
        | false => rw [hc, cond_false] at h; cases h
        | true =>
          rw [hc, cond_true] at h
          cases h
          simp only [Bool.and_eq_true] at hc
          obtain ⟨c1, c2, c3⟩ := hc
          obtain rfl := Nat.eq_of_beq_eq_true c1
          exact scalls_frame (has_s rows j t h2 (Nat.le_of_ble_eq_true c2) (Nat.le_of_ble_eq_true c3)) (args_lt h4 _ _ _) (by simp [go_sem]) H
      · cases h
  · rename_i n cs t
    cases hk : Nat.beq k 21 with
    | false => rw [hk] at h; cases h
    | true =>
      rw [hk, cond_true] at h
      rw [Nat.eq_of_beq_eq_true hk]
      split at h
      · rename_i rows hrows
        obtain ⟨rfl, h2, h3, h4⟩ := toK7_ok _ _ _ (Nat.le_refl _) hrows
        cases hc : (Nat.beq n rows.length && Nat.ble rows.length 1048576) with
        | false => rw [hc, cond_false] at h; cases h
        | true =>
          rw [hc, cond_true] at h
          cases h
          simp only [Bool.and_eq_true] at hc
          obtain rfl := Nat.eq_of_beq_eq_true hc.1
          exact scalls_frame (find_s rows t h2 h3 h4 (Nat.le_of_ble_eq_true hc.2)) (args_lt2 h4 _ _) (by simp [go_sem]; exact findK_lt h4 t) H
      · cases h
  · cases h

def pc (sz : Nat) (f : FuncId) (args : List AV) : Option AV := pcallX Tryz.prog baseR fsR 40 sz f args
theorem pc_sound {sz : Nat} {f : FuncId} {args : List AV} {r : AV} (h : pc sz f args = some r) : SCalls Tryz.prog f args Heap.empty r Heap.empty ∧ r.Lt 0 := pcallX_sound mixed baseR_ok enR 40 sz h

def onlyIf (q : Bool) (o : Opt) : List Opt := if q = true then [o] else []

/-- What is asked: by a configuration's parts. -/
def askL (mru500 accm0 server mg pfc acfc mrru short : Bool) (m : Int) : List Opt :=
  onlyIf mru500 ⟨1, [1, 244]⟩ ++ onlyIf accm0 ⟨2, wd 0⟩ ++ onlyIf server ⟨3, [194, 35, 129]⟩ ++ onlyIf mg ⟨5, wd m⟩ ++ onlyIf pfc ⟨7, []⟩ ++ onlyIf acfc ⟨8, []⟩ ++ onlyIf mrru ⟨17, [5, 220]⟩ ++ onlyIf short ⟨18, []⟩

theorem test1 (k : Nat) (bits tries frag : Int) (stl mppc defl must : Bool) : pc 2 6 [.agg (Cf.cells ⟨true, 500, true, true, 0, 1500, true, bits, stl, mppc, defl, must, tries, frag⟩), .sc (.int .u32 (Int.ofNat (k + 1)))] = some (optsA (askL true true true true true true true true (Int.ofNat (k + 1)))) := by kernel_rfl
def mR (m : Int) : Int := wrapK .u32 (nR4 (IntKind.u8.wrap (m / 16777216)) (IntKind.u8.wrap (m / 65536)) (IntKind.u8.wrap (m / 256)) (IntKind.u8.wrap m))

abbrev gp (sz : Nat) (f : FuncId) (args : List AV) := gpc Tryz.prog baseR fsR 40 sz f args
theorem g_sound {sz : Nat} {f : FuncId} {args : List AV} {r : AV} (h : lhsE (gp sz f args) = rhsE r (gp sz f args)) : SCalls Tryz.prog f args Heap.empty r Heap.empty ∧ r.Lt 0 := gpc_rfl mixed baseR_ok enR 40 sz h

def ruleV (t len how lo hi : Int) (want : List Int) (need : Bool) : List AV := [.int t, .int len, .int how, .int lo, .int hi, bytesA want, .sc (.bool need)]
def rulesV (pfc acfc mrru : Bool) : List AV :=
  ruleV 1 2 2 64 1500 [] false ++ ruleV 2 4 1 0 0 [] false ++ ruleV 3 3 3 0 0 [194, 35, 129] true ++ ruleV 5 4 1 0 0 [] false ++
  (if pfc = true then ruleV 7 0 1 0 0 [] false else []) ++ (if acfc = true then ruleV 8 0 1 0 0 [] false else []) ++ (if mrru = true then ruleV 17 2 2 64 1500 [] false ++ ruleV 18 0 1 0 0 [] false else [])
def cnt3 (pfc acfc mrru : Bool) : Nat := 4 + (if pfc = true then 1 else 0) + (if acfc = true then 1 else 0) + (if mrru = true then 2 else 0)
def rulesA (pfc acfc mrru : Bool) : AV := .vs (cnt3 pfc acfc mrru) 7 (rulesV pfc acfc mrru)


def mgI : Bool → Nat → Int
  | true, k => Int.ofNat (k + 1)
  | false, _ => Int.ofNat 0

def cfL (server mru500 pfc acfc accm0 mrru short : Bool) (bits : Int) (stl mppc defl must : Bool) (tries frag : Int) : List AV :=
  Cf.cells ⟨server, cond mru500 500 1500, pfc, acfc, cond accm0 0 4294967295, cond mrru 1500 0, short, bits, stl, mppc, defl, must, tries, frag⟩

theorem rules_g (mru500 pfc acfc accm0 mrru short : Bool) (bits : Int) (stl mppc defl must : Bool) (tries frag : Int) :
    lhsE (gp 7 8 [.agg (cfL false mru500 pfc acfc accm0 mrru short bits stl mppc defl must tries frag)]) = rhsE (rulesA pfc acfc mrru) (gp 7 8 [.agg (cfL false mru500 pfc acfc accm0 mrru short bits stl mppc defl must tries frag)]) := by
  cases pfc <;> cases acfc <;> cases mrru <;> kernel_rfl

def readV (server mru500 pfc acfc accm0 mrru short mg : Bool) (k : Nat) : AV :=
  .agg [.int (cond mru500 500 1500), .int (cond mrru 1500 0), .sc (.int .u32 (cond accm0 0 4294967295)), .sc (.bool server), .sc (.bool pfc), .sc (.bool acfc), .sc (.bool short), .sc (.int .u32 (cond mg (mR (mgI mg k)) 0))]

def judgeV (server : Bool) (L : List Opt) : AV := cond server (.tup [.int 2, optsA L]) (.tup [.int 3, optsA [⟨3, [194, 35, 129]⟩]])

/-- What is asked, what it says, how it is judged: of one kind of configuration. -/
def AskOk (server mg mru500 pfc acfc accm0 mrru short : Bool) : Prop := ∀ (k : Nat) (bits : Int) (stl mppc defl must : Bool) (tries frag : Int),
  lhsE (gp 2 6 [.agg (cfL server mru500 pfc acfc accm0 mrru short bits stl mppc defl must tries frag), .sc (.int .u32 (mgI mg k))]) = rhsE (optsA (askL mru500 accm0 server mg pfc acfc mrru short (mgI mg k))) (gp 2 6 [.agg (cfL server mru500 pfc acfc accm0 mrru short bits stl mppc defl must tries frag), .sc (.int .u32 (mgI mg k))])
def ReadOk (server mg mru500 pfc acfc accm0 mrru short : Bool) : Prop := ∀ (k : Nat),
  lhsE (gp 2 7 [optsA (askL mru500 accm0 server mg pfc acfc mrru short (mgI mg k))]) = rhsE (readV server mru500 pfc acfc accm0 mrru short mg k) (gp 2 7 [optsA (askL mru500 accm0 server mg pfc acfc mrru short (mgI mg k))])
def JudgeOk (server mg mru500 pfc acfc accm0 mrru short : Bool) : Prop := ∀ (k : Nat),
  lhsE (gp 2 9 [rulesA pfc acfc mrru, optsA (askL mru500 accm0 server mg pfc acfc mrru short (mgI mg k)), .sc (.bool false)]) = rhsE (judgeV server (askL mru500 accm0 server mg pfc acfc mrru short (mgI mg k))) (gp 2 9 [rulesA pfc acfc mrru, optsA (askL mru500 accm0 server mg pfc acfc mrru short (mgI mg k)), .sc (.bool false)])
end Go.Proofs.YtinbldahpifinaaGreatDoor
