/- Parse of the program. -/
import Derived.Test.YtbleionbmdpmeaaT41
set_option linter.unusedVariables false
set_option linter.unusedSimpArgs false
namespace Go.Proofs.Ytbleionbmdpmeaa
open Go.Abs

/-- cells of rules -/
def rlv (l : List Rule) : List AVal := l.flatMap fun r => [.imm (.int .i64 r.wr), .imm (.int .i64 r.mv), .imm (.int .i64 r.nx)]
theorem rlv_cons (r : Rule) (l : List Rule) : rlv (r :: l) = .imm (.int .i64 r.wr) :: .imm (.int .i64 r.mv) :: .imm (.int .i64 r.nx) :: rlv l := rfl
theorem rlv_length : ∀ l : List Rule, (rlv l).length = l.length * 3
  | [] => rfl
  | r :: l => by rw [rlv_cons]; simp only [List.length_cons, rlv_length l]; omega
theorem rlv_app (a b : List Rule) : rlv a ++ rlv b = rlv (a ++ b) := by simp [rlv]
theorem rlv_rens (σ : Nat → Option Nat) : ∀ l : List Rule, rens σ (rlv l) = rlv l
  | [] => rfl
  | r :: l => by rw [rlv_cons]; simp only [rens, ren, rlv_rens σ l]
theorem rlv_solid (L : List Slot) : ∀ l : List Rule, (rlv l).all (solid L) = true
  | [] => rfl
  | r :: l => by rw [rlv_cons]; simp only [List.all_cons, solid, Bool.true_and, rlv_solid L l]
theorem rlv_imms : ∀ l : List Rule, immsOf (rlv l) = some (l.flatMap Rule.cells)
  | [] => rfl
  | r :: l => by rw [rlv_cons]; simp only [immsOf, immOf, rlv_imms l]; rfl
theorem rlv_take1 (r : Rule) : List.take (1 * 3) (rlv [r]) = rlv [r] := rfl
theorem rlv_trip (r : Rule) : [.imm (.int .i64 r.wr), .imm (.int .i64 r.mv), .imm (.int .i64 r.nx)] = rlv [r] := rfl
theorem rlv_view (l : List Rule) (h : l ≠ []) : viewC 3 (rlv l) 0 l.length = some (.imm (rowIV ⟨.full, l⟩)) := by
  cases l with
  | nil => exact (h rfl).elim
  | cons x l =>
    rw [rlv_cons]; simp only [viewC]; rw [← rlv_cons, List.drop, List.take_of_length_le (by rw [rlv_length]; exact Nat.le_refl _), rlv_imms]
    rfl

/-- cells of rows -/
def rvv (l : List (Lst Rule)) : List AVal := l.map fun r => .imm (rowIV r)
theorem rvv_length (l : List (Lst Rule)) : (rvv l).length = l.length := by simp [rvv]
theorem rvv_get (l : List (Lst Rule)) (n : Nat) (h : n < l.length) : getT (rvv l) n = .imm (rowIV (l.getD n ⟨.nil, []⟩)) := by
  rw [getT_eq]; simp [rvv, List.getD_eq_getElem?_getD, h]
theorem rvv_app (a b : List (Lst Rule)) : rvv a ++ rvv b = rvv (a ++ b) := by simp [rvv]
theorem rvv_one (r : Lst Rule) : [.imm (rowIV r)] = rvv [r] := rfl
theorem rvv_rens (σ : Nat → Option Nat) : ∀ l : List (Lst Rule), rens σ (rvv l) = rvv l
  | [] => rfl
  | r :: l => by simp only [rvv, List.map_cons, rens, ren]; rw [show List.map _ l = rvv l from rfl, rvv_rens σ l]
theorem rvv_solid (L : List Slot) : ∀ l : List (Lst Rule), (rvv l).all (solid L) = true
  | [] => rfl
  | r :: l => by simp only [rvv, List.map_cons, List.all_cons, solid, Bool.true_and]; exact rvv_solid L l
theorem rvv_frz {s e : Nat} {c : List AVal} : ∀ l : List (Lst Rule), frzAs s e c (rvv l) = rvv l
  | [] => by simp [rvv, frzAs_nil']
  | r :: l => by simp only [rvv, List.map_cons, frzAs_cons', frzA_imm]; rw [show List.map _ l = rvv l from rfl, rvv_frz l]
theorem frzAs_app {s e : Nat} {c b : List AVal} : ∀ a : List AVal, frzAs s e c (a ++ b) = frzAs s e c a ++ frzAs s e c b
  | [] => by simp [frzAs_nil']
  | x :: a => by simp only [List.cons_append, frzAs_cons', frzAs_app a]
theorem rens_app' {σ : Nat → Option Nat} {b : List AVal} : ∀ a : List AVal, rens σ (a ++ b) = rens σ a ++ rens σ b
  | [] => by simp [rens]
  | x :: a => by simp only [List.cons_append, rens, rens_app' a]
theorem rvv_imms : ∀ l : List (Lst Rule), immsOf (rvv l) = some (l.map rowIV)
  | [] => rfl
  | r :: l => by simp only [rvv, List.map_cons, immsOf, immOf]; rw [show List.map _ l = rvv l from rfl, rvv_imms l]
theorem rvv_view (l : List (Lst Rule)) (h : l ≠ []) : viewC 1 (rvv l) 0 l.length = some (.imm (rowsIV ⟨.full, l⟩)) := by
  cases l with
  | nil => exact (h rfl).elim
  | cons x l =>
    have e : rvv (x :: l) = .imm (rowIV x) :: rvv l := rfl
    rw [e]; simp only [viewC]; rw [← e, List.drop, List.take_of_length_le (by rw [rvv_length]; omega), rvv_imms]
    simp only [rowsIV, Lst.iv]
    congr 3
    induction (x :: l) with
    | nil => rfl
    | cons y r ih => simp only [List.map_cons, List.flatMap_cons, ih]; rfl
attribute [go_sem] rlv_rens rlv_solid rvv_rens rvv_solid rvv_frz

theorem rvv_snoc (l : List (Lst Rule)) (r : Lst Rule) : rvv (l ++ [r]) = rvv l ++ [.imm (rowIV r)] := by simp [rvv]
theorem rvv_sing (r : Lst Rule) : rvv [r] = [.imm (rowIV r)] := rfl

/-- where the line that begins at a place ends -/
def scanE (s : List UInt8) : Nat → Nat → Nat
  | 0, i => i
  | f + 1, i => if (i : Int) < s.length ∧ bat s i ≠ 95 then scanE s f (i + 1) else i
def endAt (s : List UInt8) (i : Nat) : Nat := scanE s (s.length - i) i
theorem scanE_stop {s : List UInt8} {f i : Nat} (h : ¬ ((i : Int) < s.length ∧ bat s i ≠ 95)) : scanE s f i = i := by
  cases f with
  | zero => rfl
  | succ f => rw [scanE, if_neg h]
theorem scanE_go {s : List UInt8} {i : Nat} (h : (i : Int) < s.length) (h' : bat s i ≠ 95) : scanE s (s.length - i) i = scanE s (s.length - (i + 1)) (i + 1) := by
  rw [show s.length - i = (s.length - (i + 1)) + 1 from by omega, scanE, if_pos ⟨h, h'⟩]
theorem scanE_le (s : List UInt8) : ∀ f i, i + f ≤ s.length → i ≤ scanE s f i ∧ scanE s f i ≤ i + f
  | 0, i, _ => by simp [scanE]
  | f + 1, i, h => by
    unfold scanE; split
    · have := scanE_le s f (i + 1) (by omega); omega
    · omega
theorem endAt_le (s : List UInt8) (i : Nat) (h : i ≤ s.length) : i ≤ endAt s i ∧ endAt s i ≤ s.length := by
  have := scanE_le s (s.length - i) i (by omega); unfold endAt; omega
/-- the rules of a line -/
def rulesE (s : List UInt8) (e : Nat) : Nat → Nat → List Rule
  | 0, _ => []
  | f + 1, i => if i + 3 ≤ e then ruleOf ((s.take (i + 3)).drop i) :: rulesE s e f (i + 3) else []
def rowL (l : List Rule) : Lst Rule := ⟨if l = [] then .nil else .full, l⟩
theorem rowL_nil : rowIV (rowL []) = .lst .nil 0 [] := rfl
theorem rowL_pos {l : List Rule} (h : l ≠ []) : rowIV (rowL l) = rowIV ⟨.full, l⟩ := by unfold rowL; rw [if_neg h]
def rowsE (s : List UInt8) : Nat → Nat → List (Lst Rule)
  | 0, _ => []
  | f + 1, i => if i ≤ s.length then rowL (rulesE s (endAt s i) 100 i) :: rowsE s f (endAt s i + 1) else []
def rowsP (s : List UInt8) : List (Lst Rule) := rowsE s 100 0
def parseM (s : List UInt8) : Mach := ⟨(rowsP s).length, ((rowsP s).getD 0 ⟨.nil, []⟩).l.length, ⟨.full, rowsP s⟩⟩
def mach0 : Mach := ⟨0, 0, ⟨.nil, []⟩⟩

theorem ruleOf_ok (t : List UInt8) : (ruleOf t).ok := by
  have b0 := bat_range t 0; have b2 := bat_range t 2
  unfold ruleOf; refine ⟨by simp only [i64ok]; omega, by simp only [i64ok]; split <;> omega, by simp only [i64ok]; split <;> omega⟩
theorem rulesE_ok (s : List UInt8) (e : Nat) : ∀ f i, (rulesE s e f i).length ≤ f ∧ ∀ r ∈ rulesE s e f i, r.ok
  | 0, i => by simp [rulesE]
  | f + 1, i => by
    unfold rulesE; split
    · have := rulesE_ok s e f (i + 3)
      refine ⟨by simp only [List.length_cons]; omega, fun r hr => ?_⟩
      rcases List.mem_cons.mp hr with h | h
      · rw [h]; exact ruleOf_ok _
      · exact this.2 r h
    · simp
theorem rowsE_ok (s : List UInt8) : ∀ f i, (rowsE s f i).length ≤ f ∧ ∀ r ∈ rowsE s f i, r.l.length ≤ 100 ∧ ∀ x ∈ r.l, x.ok
  | 0, i => by simp [rowsE]
  | f + 1, i => by
    unfold rowsE; split
    · have := rowsE_ok s f (endAt s i + 1)
      refine ⟨by simp only [List.length_cons]; omega, fun r hr => ?_⟩
      rcases List.mem_cons.mp hr with h | h
      · rw [h]; exact rulesE_ok s (endAt s i) 100 i
      · exact this.2 r h
    · simp
theorem parseM_ok (s : List UInt8) : (parseM s).ok := by
  obtain ⟨h1, h2⟩ := rowsE_ok s 100 0
  have h1 : (rowsP s).length ≤ 100 := h1
  have h3 : ((rowsP s).getD 0 ⟨.nil, []⟩).l.length ≤ 100 := by
    rw [List.getD_eq_getElem?_getD]
    cases e : (rowsP s)[0]? with
    | none => simp
    | some r => exact (h2 r (List.mem_of_getElem? e)).1
  unfold parseM
  refine ⟨by simp only [i64ok]; omega, by simp only [i64ok]; omega, by simp only [lenok]; omega, fun r hr => ?_⟩
  have := h2 r hr
  exact ⟨by unfold lenok; omega, this.2⟩
open Classical in
noncomputable def parseF (s : List UInt8) : Mach × Int := if s.length ≤ 78 ∧ (parseM s).Valid ∧ strOf (textI (parseM s)) = s then (parseM s, 0) else (mach0, 3)

set_option maxHeartbeats 2000000 in
set_option maxRecDepth 10000 in
theorem parse_ret (d : Nat) (s : List UInt8) (hs : lenok s.length) : Ret Try.prog (d + 3) 28 [.imm (.str s)] [] (.tup [(parseF s).1.av, .imm (.int .i64 (parseF s).2)]) [] := by
  unfold lenok at hs
  refine Ret.mkE Try.func28 rfl (of_decide_eq_true (by kernel_rfl)) Try.ntmps28 rfl ?_
  intro Q hQ1 hQ2
  refine Eq.mpr (congrFun (congrArg _ rfl) _) (?_ : awpW _ _ _ _ _ (un _))
  simp (maxSteps := 2000000) (disch := omega) only [go_sem, Nat.reduceSub, Nat.reduceAdd, Nat.reduceLT, Nat.reduceEqDiff, Nat.reduceBEq]
  refine Br.sp (fun h0 e0 => ?_) (fun h0 e0 => ?_)
  · simp (maxSteps := 2000000) (disch := omega) only [go_sem, Nat.reduceSub, Nat.reduceAdd, Nat.reduceLT, Nat.reduceEqDiff, Nat.reduceBEq, e0]
    have hP : parseF s = (mach0, 3) := by unfold parseF; rw [if_neg (by omega)]
    rw [hP] at hQ2
    refine hQ2 _ _ (Fin.sim [] [.re []] [.cell 2 24, .tmp 3] rfl gh_nil ?_)
    simp (maxSteps := 2000000) (disch := omega) only [go_sem, Nat.reduceSub, Nat.reduceAdd, Nat.reduceLT, Nat.reduceEqDiff, Nat.reduceBEq]
    rw [gh_re rfl]; simp only [go_sem, Nat.reduceSub, Nat.reduceAdd, Nat.reduceEqDiff, Nat.reduceBEq, Mach.av, mach0]; try rfl
  simp (maxSteps := 2000000) (disch := omega) only [go_sem, Nat.reduceSub, Nat.reduceAdd, Nat.reduceLT, Nat.reduceEqDiff, Nat.reduceBEq, e0]
  generalize hT : rowsP s = T
  have hT0 : T ≠ [] := by rw [← hT]; simp [rowsP, rowsE]
  refine awp_loopX (fun q : Nat × List (Lst Rule) × Nat => tmP 79 .any [(0, .imm (.str s)), (2, .ptr 0 0), (4, .ptr 1 0), (5, .imm (.int .i64 q.1))] [])
    (fun q => [.obj 0 [.imm (.int .i64 0), .imm (.int .i64 0), .imm (.lst .nil 0 [])], .obj 0 [.imm (.int .i64 0), .imm (.int .i64 0), if q.2.1 = [] then .imm (.lst .nil 0 []) else .ref 2 0 (q.2.1).length], if q.2.1 = [] then .dead else .obj 1 (rvv q.2.1)])
    (fun q => q.1 ≤ s.length + 1 ∧ q.2.1.length ≤ q.1 ∧ (0 < q.1 → q.2.1 ≠ []) ∧ s.length + 1 - q.1 ≤ q.2.2 ∧ q.2.1 ++ rowsE s q.2.2 q.1 = T) (fun q => s.length + 1 - q.1) [.mask [0, 2, 4, 5], .re [some 0, some 1, none]] (0, [], 100) ?_ ⟨by simp, by simp, fun h => by simp at h, by simp only; omega, by simp [← hT, rowsP]⟩ ?_
  · rw [gh_maskP rfl, gh_re rfl]; simp only [go_sem, Nat.reduceSub, Nat.reduceAdd, Nat.reduceEqDiff, Nat.reduceBEq]; rfl
  rintro ⟨a, rows, f⟩ ⟨ha, hrl, hr0, hf, hrT⟩ Q1 hN1 hE1
  simp only at ha hrl hr0 hf hrT
  have hmost : most = 1099511627776 := by decide
  by_cases hrn : rows = []
  · subst hrn
    have ha0 : a = 0 := by refine Classical.byContradiction (fun h => hr0 (by omega) rfl)
    simp only [if_true]
    simp (maxSteps := 2000000) (disch := omega) only [go_sem, Nat.reduceSub, Nat.reduceAdd, Nat.reduceLT, Nat.reduceEqDiff, Nat.reduceBEq]
    refine Br.sp (fun h1 e1 => ?_) (fun h1 e1 => ?_) <;> simp (maxSteps := 2000000) (disch := omega) only [go_sem, Nat.reduceSub, Nat.reduceAdd, Nat.reduceLT, Nat.reduceEqDiff, Nat.reduceBEq, e1]
    · refine awp_loopX (fun i : Nat => tmP 79 .any [(0, .imm (.str s)), (2, .ptr 0 0), (4, .ptr 1 0), (5, .imm (.int .i64 a)), (6, .imm (.int .i64 i))] [])
        (fun _ => [.obj 0 [.imm (.int .i64 0), .imm (.int .i64 0), .imm (.lst .nil 0 [])], .obj 0 [.imm (.int .i64 0), .imm (.int .i64 0), .imm (.lst .nil 0 [])], .dead]) (fun i => a ≤ i ∧ i ≤ s.length ∧ scanE s (s.length - i) i = endAt s a) (fun i => s.length - i) [.mask [0, 2, 4, 5, 6], .re [some 0, some 1, none]] a ?_ ⟨Nat.le_refl _, by omega, rfl⟩ ?_
      · rw [gh_maskP rfl, gh_re rfl]; simp only [go_sem, Nat.reduceSub, Nat.reduceAdd, Nat.reduceEqDiff, Nat.reduceBEq]; try rfl
      rintro i ⟨hi0, hi1, hsc⟩ Q2 hN2 hE2
      simp (maxSteps := 2000000) (disch := omega) only [go_sem, Nat.reduceSub, Nat.reduceAdd, Nat.reduceLT, Nat.reduceEqDiff, Nat.reduceBEq]
      have out : ¬ ((i : Int) < s.length ∧ bat s i ≠ 95) → i = endAt s a := fun h => by rw [← hsc, scanE_stop h]
      refine Br.sp (fun h2 e2 => ?_) (fun h2 e2 => ?_) <;> simp (maxSteps := 2000000) (disch := omega) only [go_sem, Nat.reduceSub, Nat.reduceAdd, Nat.reduceLT, Nat.reduceEqDiff, Nat.reduceBEq, e2]
      · refine Br.sp (fun h3 e3 => ?_) (fun h3 e3 => ?_) <;> simp (maxSteps := 2000000) (disch := omega) only [go_sem, Nat.reduceSub, Nat.reduceAdd, Nat.reduceLT, Nat.reduceEqDiff, Nat.reduceBEq, e3]
        · have hie := out (fun h => h.2 h3)
          refine hE2 _ _ _ (fun h => by cases h) ?_
          simp (maxSteps := 2000000) (disch := omega) only [go_sem, Nat.reduceSub, Nat.reduceAdd, Nat.reduceLT, Nat.reduceEqDiff, Nat.reduceBEq]
          refine awp_loopX (fun p : Nat × List Rule × Nat => tmP 79 .any [(0, .imm (.str s)), (2, .ptr 0 0), (4, .ptr 1 0), (5, .imm (.int .i64 p.1)), (6, .imm (.int .i64 i)), (7, if p.2.1 = [] then .imm (.lst .nil 0 []) else .ref 3 0 p.2.1.length)] [])
            (fun p => [.obj 0 [.imm (.int .i64 0), .imm (.int .i64 0), .imm (.lst .nil 0 [])], .obj 0 [.imm (.int .i64 0), .imm (.int .i64 0), .imm (.lst .nil 0 [])], .dead, if p.2.1 = [] then .dead else .obj 3 (rlv p.2.1)])
            (fun p => p.1 ≤ i ∧ p.2.1.length ≤ p.1 ∧ i - p.1 ≤ p.2.2 ∧ p.2.1 ++ rulesE s i p.2.2 p.1 = rulesE s i 100 a) (fun p => i - p.1) [.mask [0, 2, 4, 5, 6, 7], .re [some 0, some 1, none, none]] (a, [], 100) ?_ ⟨hi0, by simp, by simp only; omega, rfl⟩ ?_
          · rw [gh_maskP rfl, gh_re rfl]; simp only [go_sem, Nat.reduceSub, Nat.reduceAdd, Nat.reduceEqDiff, Nat.reduceBEq]; try rfl
          rintro ⟨x, l, g⟩ ⟨hx, hll, hg, hlT⟩ Q3 hN3 hE3
          simp only at hx hll hg hlT
          by_cases hl : l = []
          · subst hl
            simp only [if_true]
            simp (maxSteps := 2000000) (disch := omega) only [go_sem, Nat.reduceSub, Nat.reduceAdd, Nat.reduceLT, Nat.reduceEqDiff, Nat.reduceBEq]
            refine Br.sp (fun h4 e4 => ?_) (fun h4 e4 => ?_) <;> simp (maxSteps := 2000000) (disch := omega) only [go_sem, Nat.reduceSub, Nat.reduceAdd, Nat.reduceLT, Nat.reduceEqDiff, Nat.reduceBEq, e4]
            · rw [show ((x : Int) + 3).toNat = x + 3 from by omega]
              refine call_imm (rule_ret _ _ (by simp; omega)) rfl rfl ?_
              simp (maxSteps := 2000000) (disch := omega) only [go_sem, Nat.reduceSub, Nat.reduceAdd, Nat.reduceLT, Nat.reduceEqDiff, Nat.reduceBEq, Rule.av]
              change bsF 3 1 (some (rlv [ruleOf (List.drop x (List.take (x + 3) s))])) _ _ _
              simp (maxSteps := 2000000) (disch := omega) only [go_sem, Nat.reduceSub, Nat.reduceAdd, Nat.reduceLT, Nat.reduceEqDiff, Nat.reduceBEq, rlv_take1, rlv_trip, rlv_app, rlv_length, rvv_length, List.length_append, List.length_singleton]
              obtain ⟨g, rfl⟩ : ∃ g', g = g' + 1 := ⟨g - 1, by omega⟩
              rw [rulesE, if_pos (by omega)] at hlT
              refine ⟨by omega, hN3 _ _ ⟨[.mask [0, 2, 4, 5, 6, 7], .re [some 0, some 1, none, some 5]], (x + 3, [ruleOf ((s.take (x + 3)).drop x)], g), ?_, ⟨by simp only; omega, by simp <;> omega, by simp only; omega, by rw [← hlT]; simp⟩, by simp only; omega⟩⟩
              rw [gh_maskP rfl, gh_re rfl, if_neg (show ¬ ([ruleOf ((s.take (x + 3)).drop x)]) = [] from by simp), if_neg (show ¬ ([ruleOf ((s.take (x + 3)).drop x)]) = [] from by simp)]; simp only [go_sem, Nat.reduceSub, Nat.reduceAdd, Nat.reduceEqDiff, Nat.reduceBEq, rlv_take1]; rfl
            · have hlf : [] = rulesE s (endAt s a) 100 a := by
                rw [← hie, ← hlT]; cases g with
                | zero => simp [rulesE]
                | succ g => rw [rulesE, if_neg (by omega)]; simp
              refine hE3 _ _ _ (fun h => by cases h) ?_
              simp (maxSteps := 2000000) (disch := omega) only [go_sem, Nat.reduceSub, Nat.reduceAdd, Nat.reduceLT, Nat.reduceEqDiff, Nat.reduceBEq, List.replicate_succ, List.replicate_zero, List.flatten_cons, List.flatten_nil, rvv_length]
              obtain ⟨f, rfl⟩ : ∃ f', f = f' + 1 := ⟨f - 1, by omega⟩
              rw [rowsE, if_pos (by omega), ← hlf, ← hie] at hrT
              refine ⟨by omega, hN1 _ _ ⟨[.mask [0, 2, 4, 5], .re [some 0, some 1, some 5]], (i + 1, [rowL []], f), ?_, ⟨by simp only; omega, by simp <;> omega, fun _ => by simp, by simp only; omega, ?_⟩, by simp only; omega⟩⟩
              · rw [if_neg (show ¬ ([rowL []] : List (Lst Rule)) = [] from by simp), if_neg (show ¬ ([rowL []] : List (Lst Rule)) = [] from by simp)]
                rw [gh_maskP rfl, gh_re rfl]; simp only [go_sem, Nat.reduceSub, Nat.reduceAdd, Nat.reduceEqDiff, Nat.reduceBEq, rens_app', rvv_snoc, rvv_sing, rowL_nil]; try simp
              · rw [← hrT]; simp
          · simp only [if_neg hl]
            simp (maxSteps := 2000000) (disch := omega) only [go_sem, Nat.reduceSub, Nat.reduceAdd, Nat.reduceLT, Nat.reduceEqDiff, Nat.reduceBEq]
            refine Br.sp (fun h4 e4 => ?_) (fun h4 e4 => ?_) <;> simp (maxSteps := 2000000) (disch := omega) only [go_sem, Nat.reduceSub, Nat.reduceAdd, Nat.reduceLT, Nat.reduceEqDiff, Nat.reduceBEq, e4]
            · rw [show ((x : Int) + 3).toNat = x + 3 from by omega]
              refine call_imm (rule_ret _ _ (by simp; omega)) rfl rfl ?_
              simp (maxSteps := 2000000) (disch := omega) only [go_sem, Nat.reduceSub, Nat.reduceAdd, Nat.reduceLT, Nat.reduceEqDiff, Nat.reduceBEq, Rule.av]
              change bsF 3 1 (some (rlv [ruleOf (List.drop x (List.take (x + 3) s))])) _ _ _
              simp (maxSteps := 2000000) (disch := omega) only [go_sem, Nat.reduceSub, Nat.reduceAdd, Nat.reduceLT, Nat.reduceEqDiff, Nat.reduceBEq, rlv_take1, rlv_trip, rlv_app, rlv_length, rvv_length, List.length_append, List.length_singleton]
              obtain ⟨g, rfl⟩ : ∃ g', g = g' + 1 := ⟨g - 1, by omega⟩
              rw [rulesE, if_pos (by omega)] at hlT
              refine ⟨by omega, hN3 _ _ ⟨[.mask [0, 2, 4, 5, 6, 7], .re [some 0, some 1, none, some 5]], (x + 3, l ++ [ruleOf ((s.take (x + 3)).drop x)], g), ?_, ⟨by simp only; omega, by simp <;> omega, by simp only; omega, by rw [← hlT]; simp⟩, by simp only; omega⟩⟩
              rw [gh_maskP rfl, gh_re rfl, if_neg (show ¬ (l ++ [ruleOf ((s.take (x + 3)).drop x)]) = [] from by simp), if_neg (show ¬ (l ++ [ruleOf ((s.take (x + 3)).drop x)]) = [] from by simp)]; simp only [go_sem, Nat.reduceSub, Nat.reduceAdd, Nat.reduceEqDiff, Nat.reduceBEq, rlv_take1]; rfl
            · have hlf : l = rulesE s (endAt s a) 100 a := by
                rw [← hie, ← hlT]; cases g with
                | zero => simp [rulesE]
                | succ g => rw [rulesE, if_neg (by omega)]; simp
              refine hE3 _ _ _ (fun h => by cases h) ?_
              simp (maxSteps := 2000000) (disch := omega) only [go_sem, Nat.reduceSub, Nat.reduceAdd, Nat.reduceLT, Nat.reduceEqDiff, Nat.reduceBEq, List.replicate_succ, List.replicate_zero, List.flatten_cons, List.flatten_nil, rvv_length]
              obtain ⟨f, rfl⟩ : ∃ f', f = f' + 1 := ⟨f - 1, by omega⟩
              rw [rowsE, if_pos (by omega), ← hlf, ← hie] at hrT
              refine ⟨by omega, hN1 _ _ ⟨[.mask [0, 2, 4, 5], .frz 3, .re [some 0, some 1, some 5]], (i + 1, [rowL l], f), ?_, ⟨by simp only; omega, by simp <;> omega, fun _ => by simp, by simp only; omega, ?_⟩, by simp only; omega⟩⟩
              · rw [if_neg (show ¬ ([rowL l] : List (Lst Rule)) = [] from by simp), if_neg (show ¬ ([rowL l] : List (Lst Rule)) = [] from by simp)]
                rw [gh_maskP rfl, gh_frz]
                simp only [go_sem, Nat.reduceSub, Nat.reduceAdd, Nat.reduceEqDiff, Nat.reduceBEq, rlv_view l hl, frzAs_app]
                rw [gh_re rfl]; simp only [go_sem, Nat.reduceSub, Nat.reduceAdd, Nat.reduceEqDiff, Nat.reduceBEq, rens_app', rvv_snoc, rvv_sing, rowL_pos hl]; try simp
              · rw [← hrT]; simp
        · refine hN2 _ _ ⟨[.mask [0, 2, 4, 5, 6], .re [some 0, some 1, none]], i + 1, ?_, ⟨by omega, by omega, by rw [← hsc, scanE_go h2 h3]⟩, by omega⟩
          rw [gh_maskP rfl, gh_re rfl]; simp only [go_sem, Nat.reduceSub, Nat.reduceAdd, Nat.reduceEqDiff, Nat.reduceBEq]; try rfl
      · have hie := out (fun h => h2 h.1)
        refine hE2 _ _ _ (fun h => by cases h) ?_
        simp (maxSteps := 2000000) (disch := omega) only [go_sem, Nat.reduceSub, Nat.reduceAdd, Nat.reduceLT, Nat.reduceEqDiff, Nat.reduceBEq]
        refine awp_loopX (fun p : Nat × List Rule × Nat => tmP 79 .any [(0, .imm (.str s)), (2, .ptr 0 0), (4, .ptr 1 0), (5, .imm (.int .i64 p.1)), (6, .imm (.int .i64 i)), (7, if p.2.1 = [] then .imm (.lst .nil 0 []) else .ref 3 0 p.2.1.length)] [])
          (fun p => [.obj 0 [.imm (.int .i64 0), .imm (.int .i64 0), .imm (.lst .nil 0 [])], .obj 0 [.imm (.int .i64 0), .imm (.int .i64 0), .imm (.lst .nil 0 [])], .dead, if p.2.1 = [] then .dead else .obj 3 (rlv p.2.1)])
          (fun p => p.1 ≤ i ∧ p.2.1.length ≤ p.1 ∧ i - p.1 ≤ p.2.2 ∧ p.2.1 ++ rulesE s i p.2.2 p.1 = rulesE s i 100 a) (fun p => i - p.1) [.mask [0, 2, 4, 5, 6, 7], .re [some 0, some 1, none, none]] (a, [], 100) ?_ ⟨hi0, by simp, by simp only; omega, rfl⟩ ?_
        · rw [gh_maskP rfl, gh_re rfl]; simp only [go_sem, Nat.reduceSub, Nat.reduceAdd, Nat.reduceEqDiff, Nat.reduceBEq]; try rfl
        rintro ⟨x, l, g⟩ ⟨hx, hll, hg, hlT⟩ Q3 hN3 hE3
        simp only at hx hll hg hlT
        by_cases hl : l = []
        · subst hl
          simp only [if_true]
          simp (maxSteps := 2000000) (disch := omega) only [go_sem, Nat.reduceSub, Nat.reduceAdd, Nat.reduceLT, Nat.reduceEqDiff, Nat.reduceBEq]
          refine Br.sp (fun h4 e4 => ?_) (fun h4 e4 => ?_) <;> simp (maxSteps := 2000000) (disch := omega) only [go_sem, Nat.reduceSub, Nat.reduceAdd, Nat.reduceLT, Nat.reduceEqDiff, Nat.reduceBEq, e4]
          · rw [show ((x : Int) + 3).toNat = x + 3 from by omega]
            refine call_imm (rule_ret _ _ (by simp; omega)) rfl rfl ?_
            simp (maxSteps := 2000000) (disch := omega) only [go_sem, Nat.reduceSub, Nat.reduceAdd, Nat.reduceLT, Nat.reduceEqDiff, Nat.reduceBEq, Rule.av]
            change bsF 3 1 (some (rlv [ruleOf (List.drop x (List.take (x + 3) s))])) _ _ _
            simp (maxSteps := 2000000) (disch := omega) only [go_sem, Nat.reduceSub, Nat.reduceAdd, Nat.reduceLT, Nat.reduceEqDiff, Nat.reduceBEq, rlv_take1, rlv_trip, rlv_app, rlv_length, rvv_length, List.length_append, List.length_singleton]
            obtain ⟨g, rfl⟩ : ∃ g', g = g' + 1 := ⟨g - 1, by omega⟩
            rw [rulesE, if_pos (by omega)] at hlT
            refine ⟨by omega, hN3 _ _ ⟨[.mask [0, 2, 4, 5, 6, 7], .re [some 0, some 1, none, some 5]], (x + 3, [ruleOf ((s.take (x + 3)).drop x)], g), ?_, ⟨by simp only; omega, by simp <;> omega, by simp only; omega, by rw [← hlT]; simp⟩, by simp only; omega⟩⟩
            rw [gh_maskP rfl, gh_re rfl, if_neg (show ¬ ([ruleOf ((s.take (x + 3)).drop x)]) = [] from by simp), if_neg (show ¬ ([ruleOf ((s.take (x + 3)).drop x)]) = [] from by simp)]; simp only [go_sem, Nat.reduceSub, Nat.reduceAdd, Nat.reduceEqDiff, Nat.reduceBEq, rlv_take1]; rfl
          · have hlf : [] = rulesE s (endAt s a) 100 a := by
              rw [← hie, ← hlT]; cases g with
              | zero => simp [rulesE]
              | succ g => rw [rulesE, if_neg (by omega)]; simp
            refine hE3 _ _ _ (fun h => by cases h) ?_
            simp (maxSteps := 2000000) (disch := omega) only [go_sem, Nat.reduceSub, Nat.reduceAdd, Nat.reduceLT, Nat.reduceEqDiff, Nat.reduceBEq, List.replicate_succ, List.replicate_zero, List.flatten_cons, List.flatten_nil, rvv_length]
            obtain ⟨f, rfl⟩ : ∃ f', f = f' + 1 := ⟨f - 1, by omega⟩
            rw [rowsE, if_pos (by omega), ← hlf, ← hie] at hrT
            refine ⟨by omega, hN1 _ _ ⟨[.mask [0, 2, 4, 5], .re [some 0, some 1, some 5]], (i + 1, [rowL []], f), ?_, ⟨by simp only; omega, by simp <;> omega, fun _ => by simp, by simp only; omega, ?_⟩, by simp only; omega⟩⟩
            · rw [if_neg (show ¬ ([rowL []] : List (Lst Rule)) = [] from by simp), if_neg (show ¬ ([rowL []] : List (Lst Rule)) = [] from by simp)]
              rw [gh_maskP rfl, gh_re rfl]; simp only [go_sem, Nat.reduceSub, Nat.reduceAdd, Nat.reduceEqDiff, Nat.reduceBEq, rens_app', rvv_snoc, rvv_sing, rowL_nil]; try simp
            · rw [← hrT]; simp
        · simp only [if_neg hl]
          simp (maxSteps := 2000000) (disch := omega) only [go_sem, Nat.reduceSub, Nat.reduceAdd, Nat.reduceLT, Nat.reduceEqDiff, Nat.reduceBEq]
          refine Br.sp (fun h4 e4 => ?_) (fun h4 e4 => ?_) <;> simp (maxSteps := 2000000) (disch := omega) only [go_sem, Nat.reduceSub, Nat.reduceAdd, Nat.reduceLT, Nat.reduceEqDiff, Nat.reduceBEq, e4]
          · rw [show ((x : Int) + 3).toNat = x + 3 from by omega]
            refine call_imm (rule_ret _ _ (by simp; omega)) rfl rfl ?_
            simp (maxSteps := 2000000) (disch := omega) only [go_sem, Nat.reduceSub, Nat.reduceAdd, Nat.reduceLT, Nat.reduceEqDiff, Nat.reduceBEq, Rule.av]
            change bsF 3 1 (some (rlv [ruleOf (List.drop x (List.take (x + 3) s))])) _ _ _
            simp (maxSteps := 2000000) (disch := omega) only [go_sem, Nat.reduceSub, Nat.reduceAdd, Nat.reduceLT, Nat.reduceEqDiff, Nat.reduceBEq, rlv_take1, rlv_trip, rlv_app, rlv_length, rvv_length, List.length_append, List.length_singleton]
            obtain ⟨g, rfl⟩ : ∃ g', g = g' + 1 := ⟨g - 1, by omega⟩
            rw [rulesE, if_pos (by omega)] at hlT
            refine ⟨by omega, hN3 _ _ ⟨[.mask [0, 2, 4, 5, 6, 7], .re [some 0, some 1, none, some 5]], (x + 3, l ++ [ruleOf ((s.take (x + 3)).drop x)], g), ?_, ⟨by simp only; omega, by simp <;> omega, by simp only; omega, by rw [← hlT]; simp⟩, by simp only; omega⟩⟩
            rw [gh_maskP rfl, gh_re rfl, if_neg (show ¬ (l ++ [ruleOf ((s.take (x + 3)).drop x)]) = [] from by simp), if_neg (show ¬ (l ++ [ruleOf ((s.take (x + 3)).drop x)]) = [] from by simp)]; simp only [go_sem, Nat.reduceSub, Nat.reduceAdd, Nat.reduceEqDiff, Nat.reduceBEq, rlv_take1]; rfl
          · have hlf : l = rulesE s (endAt s a) 100 a := by
              rw [← hie, ← hlT]; cases g with
              | zero => simp [rulesE]
              | succ g => rw [rulesE, if_neg (by omega)]; simp
            refine hE3 _ _ _ (fun h => by cases h) ?_
            simp (maxSteps := 2000000) (disch := omega) only [go_sem, Nat.reduceSub, Nat.reduceAdd, Nat.reduceLT, Nat.reduceEqDiff, Nat.reduceBEq, List.replicate_succ, List.replicate_zero, List.flatten_cons, List.flatten_nil, rvv_length]
            obtain ⟨f, rfl⟩ : ∃ f', f = f' + 1 := ⟨f - 1, by omega⟩
            rw [rowsE, if_pos (by omega), ← hlf, ← hie] at hrT
            refine ⟨by omega, hN1 _ _ ⟨[.mask [0, 2, 4, 5], .frz 3, .re [some 0, some 1, some 5]], (i + 1, [rowL l], f), ?_, ⟨by simp only; omega, by simp <;> omega, fun _ => by simp, by simp only; omega, ?_⟩, by simp only; omega⟩⟩
            · rw [if_neg (show ¬ ([rowL l] : List (Lst Rule)) = [] from by simp), if_neg (show ¬ ([rowL l] : List (Lst Rule)) = [] from by simp)]
              rw [gh_maskP rfl, gh_frz]
              simp only [go_sem, Nat.reduceSub, Nat.reduceAdd, Nat.reduceEqDiff, Nat.reduceBEq, rlv_view l hl, frzAs_app]
              rw [gh_re rfl]; simp only [go_sem, Nat.reduceSub, Nat.reduceAdd, Nat.reduceEqDiff, Nat.reduceBEq, rens_app', rvv_snoc, rvv_sing, rowL_pos hl]; try simp
            · rw [← hrT]; simp
    · exfalso; omega
  · simp only [if_neg hrn]
    simp (maxSteps := 2000000) (disch := omega) only [go_sem, Nat.reduceSub, Nat.reduceAdd, Nat.reduceLT, Nat.reduceEqDiff, Nat.reduceBEq]
    refine Br.sp (fun h1 e1 => ?_) (fun h1 e1 => ?_) <;> simp (maxSteps := 2000000) (disch := omega) only [go_sem, Nat.reduceSub, Nat.reduceAdd, Nat.reduceLT, Nat.reduceEqDiff, Nat.reduceBEq, e1]
    · refine awp_loopX (fun i : Nat => tmP 79 .any [(0, .imm (.str s)), (2, .ptr 0 0), (4, .ptr 1 0), (5, .imm (.int .i64 a)), (6, .imm (.int .i64 i))] [])
        (fun _ => [.obj 0 [.imm (.int .i64 0), .imm (.int .i64 0), .imm (.lst .nil 0 [])], .obj 0 [.imm (.int .i64 0), .imm (.int .i64 0), .ref 2 0 rows.length], .obj 1 (rvv rows)]) (fun i => a ≤ i ∧ i ≤ s.length ∧ scanE s (s.length - i) i = endAt s a) (fun i => s.length - i) [.mask [0, 2, 4, 5, 6], .re [some 0, some 1, some 2]] a ?_ ⟨Nat.le_refl _, by omega, rfl⟩ ?_
      · rw [gh_maskP rfl, gh_re rfl]; simp only [go_sem, Nat.reduceSub, Nat.reduceAdd, Nat.reduceEqDiff, Nat.reduceBEq]; try rfl
      rintro i ⟨hi0, hi1, hsc⟩ Q2 hN2 hE2
      simp (maxSteps := 2000000) (disch := omega) only [go_sem, Nat.reduceSub, Nat.reduceAdd, Nat.reduceLT, Nat.reduceEqDiff, Nat.reduceBEq]
      have out : ¬ ((i : Int) < s.length ∧ bat s i ≠ 95) → i = endAt s a := fun h => by rw [← hsc, scanE_stop h]
      refine Br.sp (fun h2 e2 => ?_) (fun h2 e2 => ?_) <;> simp (maxSteps := 2000000) (disch := omega) only [go_sem, Nat.reduceSub, Nat.reduceAdd, Nat.reduceLT, Nat.reduceEqDiff, Nat.reduceBEq, e2]
      · refine Br.sp (fun h3 e3 => ?_) (fun h3 e3 => ?_) <;> simp (maxSteps := 2000000) (disch := omega) only [go_sem, Nat.reduceSub, Nat.reduceAdd, Nat.reduceLT, Nat.reduceEqDiff, Nat.reduceBEq, e3]
        · have hie := out (fun h => h.2 h3)
          refine hE2 _ _ _ (fun h => by cases h) ?_
          simp (maxSteps := 2000000) (disch := omega) only [go_sem, Nat.reduceSub, Nat.reduceAdd, Nat.reduceLT, Nat.reduceEqDiff, Nat.reduceBEq]
          refine awp_loopX (fun p : Nat × List Rule × Nat => tmP 79 .any [(0, .imm (.str s)), (2, .ptr 0 0), (4, .ptr 1 0), (5, .imm (.int .i64 p.1)), (6, .imm (.int .i64 i)), (7, if p.2.1 = [] then .imm (.lst .nil 0 []) else .ref 3 0 p.2.1.length)] [])
            (fun p => [.obj 0 [.imm (.int .i64 0), .imm (.int .i64 0), .imm (.lst .nil 0 [])], .obj 0 [.imm (.int .i64 0), .imm (.int .i64 0), .ref 2 0 rows.length], .obj 1 (rvv rows), if p.2.1 = [] then .dead else .obj 3 (rlv p.2.1)])
            (fun p => p.1 ≤ i ∧ p.2.1.length ≤ p.1 ∧ i - p.1 ≤ p.2.2 ∧ p.2.1 ++ rulesE s i p.2.2 p.1 = rulesE s i 100 a) (fun p => i - p.1) [.mask [0, 2, 4, 5, 6, 7], .re [some 0, some 1, some 2, none]] (a, [], 100) ?_ ⟨hi0, by simp, by simp only; omega, rfl⟩ ?_
          · rw [gh_maskP rfl, gh_re rfl]; simp only [go_sem, Nat.reduceSub, Nat.reduceAdd, Nat.reduceEqDiff, Nat.reduceBEq]; try rfl
          rintro ⟨x, l, g⟩ ⟨hx, hll, hg, hlT⟩ Q3 hN3 hE3
          simp only at hx hll hg hlT
          by_cases hl : l = []
          · subst hl
            simp only [if_true]
            simp (maxSteps := 2000000) (disch := omega) only [go_sem, Nat.reduceSub, Nat.reduceAdd, Nat.reduceLT, Nat.reduceEqDiff, Nat.reduceBEq]
            refine Br.sp (fun h4 e4 => ?_) (fun h4 e4 => ?_) <;> simp (maxSteps := 2000000) (disch := omega) only [go_sem, Nat.reduceSub, Nat.reduceAdd, Nat.reduceLT, Nat.reduceEqDiff, Nat.reduceBEq, e4]
            · rw [show ((x : Int) + 3).toNat = x + 3 from by omega]
              refine call_imm (rule_ret _ _ (by simp; omega)) rfl rfl ?_
              simp (maxSteps := 2000000) (disch := omega) only [go_sem, Nat.reduceSub, Nat.reduceAdd, Nat.reduceLT, Nat.reduceEqDiff, Nat.reduceBEq, Rule.av]
              change bsF 3 1 (some (rlv [ruleOf (List.drop x (List.take (x + 3) s))])) _ _ _
              simp (maxSteps := 2000000) (disch := omega) only [go_sem, Nat.reduceSub, Nat.reduceAdd, Nat.reduceLT, Nat.reduceEqDiff, Nat.reduceBEq, rlv_take1, rlv_trip, rlv_app, rlv_length, rvv_length, List.length_append, List.length_singleton]
              obtain ⟨g, rfl⟩ : ∃ g', g = g' + 1 := ⟨g - 1, by omega⟩
              rw [rulesE, if_pos (by omega)] at hlT
              refine ⟨by omega, hN3 _ _ ⟨[.mask [0, 2, 4, 5, 6, 7], .re [some 0, some 1, some 2, some 5]], (x + 3, [ruleOf ((s.take (x + 3)).drop x)], g), ?_, ⟨by simp only; omega, by simp <;> omega, by simp only; omega, by rw [← hlT]; simp⟩, by simp only; omega⟩⟩
              rw [gh_maskP rfl, gh_re rfl, if_neg (show ¬ ([ruleOf ((s.take (x + 3)).drop x)]) = [] from by simp), if_neg (show ¬ ([ruleOf ((s.take (x + 3)).drop x)]) = [] from by simp)]; simp only [go_sem, Nat.reduceSub, Nat.reduceAdd, Nat.reduceEqDiff, Nat.reduceBEq, rlv_take1]; rfl
            · have hlf : [] = rulesE s (endAt s a) 100 a := by
                rw [← hie, ← hlT]; cases g with
                | zero => simp [rulesE]
                | succ g => rw [rulesE, if_neg (by omega)]; simp
              refine hE3 _ _ _ (fun h => by cases h) ?_
              simp (maxSteps := 2000000) (disch := omega) only [go_sem, Nat.reduceSub, Nat.reduceAdd, Nat.reduceLT, Nat.reduceEqDiff, Nat.reduceBEq, List.replicate_succ, List.replicate_zero, List.flatten_cons, List.flatten_nil, rvv_length]
              obtain ⟨f, rfl⟩ : ∃ f', f = f' + 1 := ⟨f - 1, by omega⟩
              rw [rowsE, if_pos (by omega), ← hlf, ← hie] at hrT
              refine ⟨by omega, hN1 _ _ ⟨[.mask [0, 2, 4, 5], .re [some 0, some 1, some 5]], (i + 1, rows ++ [rowL []], f), ?_, ⟨by simp only; omega, by simp <;> omega, fun _ => by simp, by simp only; omega, ?_⟩, by simp only; omega⟩⟩
              · rw [if_neg (show ¬ (rows ++ [rowL []] : List (Lst Rule)) = [] from by simp), if_neg (show ¬ (rows ++ [rowL []] : List (Lst Rule)) = [] from by simp)]
                rw [gh_maskP rfl, gh_re rfl]; simp only [go_sem, Nat.reduceSub, Nat.reduceAdd, Nat.reduceEqDiff, Nat.reduceBEq, rens_app', rvv_snoc, rvv_sing, rowL_nil]; try simp
              · rw [← hrT]; simp
          · simp only [if_neg hl]
            simp (maxSteps := 2000000) (disch := omega) only [go_sem, Nat.reduceSub, Nat.reduceAdd, Nat.reduceLT, Nat.reduceEqDiff, Nat.reduceBEq]
            refine Br.sp (fun h4 e4 => ?_) (fun h4 e4 => ?_) <;> simp (maxSteps := 2000000) (disch := omega) only [go_sem, Nat.reduceSub, Nat.reduceAdd, Nat.reduceLT, Nat.reduceEqDiff, Nat.reduceBEq, e4]
            · rw [show ((x : Int) + 3).toNat = x + 3 from by omega]
              refine call_imm (rule_ret _ _ (by simp; omega)) rfl rfl ?_
              simp (maxSteps := 2000000) (disch := omega) only [go_sem, Nat.reduceSub, Nat.reduceAdd, Nat.reduceLT, Nat.reduceEqDiff, Nat.reduceBEq, Rule.av]
              change bsF 3 1 (some (rlv [ruleOf (List.drop x (List.take (x + 3) s))])) _ _ _
              simp (maxSteps := 2000000) (disch := omega) only [go_sem, Nat.reduceSub, Nat.reduceAdd, Nat.reduceLT, Nat.reduceEqDiff, Nat.reduceBEq, rlv_take1, rlv_trip, rlv_app, rlv_length, rvv_length, List.length_append, List.length_singleton]
              obtain ⟨g, rfl⟩ : ∃ g', g = g' + 1 := ⟨g - 1, by omega⟩
              rw [rulesE, if_pos (by omega)] at hlT
              refine ⟨by omega, hN3 _ _ ⟨[.mask [0, 2, 4, 5, 6, 7], .re [some 0, some 1, some 2, some 5]], (x + 3, l ++ [ruleOf ((s.take (x + 3)).drop x)], g), ?_, ⟨by simp only; omega, by simp <;> omega, by simp only; omega, by rw [← hlT]; simp⟩, by simp only; omega⟩⟩
              rw [gh_maskP rfl, gh_re rfl, if_neg (show ¬ (l ++ [ruleOf ((s.take (x + 3)).drop x)]) = [] from by simp), if_neg (show ¬ (l ++ [ruleOf ((s.take (x + 3)).drop x)]) = [] from by simp)]; simp only [go_sem, Nat.reduceSub, Nat.reduceAdd, Nat.reduceEqDiff, Nat.reduceBEq, rlv_take1]; rfl
            · have hlf : l = rulesE s (endAt s a) 100 a := by
                rw [← hie, ← hlT]; cases g with
                | zero => simp [rulesE]
                | succ g => rw [rulesE, if_neg (by omega)]; simp
              refine hE3 _ _ _ (fun h => by cases h) ?_
              simp (maxSteps := 2000000) (disch := omega) only [go_sem, Nat.reduceSub, Nat.reduceAdd, Nat.reduceLT, Nat.reduceEqDiff, Nat.reduceBEq, List.replicate_succ, List.replicate_zero, List.flatten_cons, List.flatten_nil, rvv_length]
              obtain ⟨f, rfl⟩ : ∃ f', f = f' + 1 := ⟨f - 1, by omega⟩
              rw [rowsE, if_pos (by omega), ← hlf, ← hie] at hrT
              refine ⟨by omega, hN1 _ _ ⟨[.mask [0, 2, 4, 5], .frz 3, .re [some 0, some 1, some 5]], (i + 1, rows ++ [rowL l], f), ?_, ⟨by simp only; omega, by simp <;> omega, fun _ => by simp, by simp only; omega, ?_⟩, by simp only; omega⟩⟩
              · rw [if_neg (show ¬ (rows ++ [rowL l] : List (Lst Rule)) = [] from by simp), if_neg (show ¬ (rows ++ [rowL l] : List (Lst Rule)) = [] from by simp)]
                rw [gh_maskP rfl, gh_frz]
                simp only [go_sem, Nat.reduceSub, Nat.reduceAdd, Nat.reduceEqDiff, Nat.reduceBEq, rlv_view l hl, frzAs_app]
                rw [gh_re rfl]; simp only [go_sem, Nat.reduceSub, Nat.reduceAdd, Nat.reduceEqDiff, Nat.reduceBEq, rens_app', rvv_snoc, rvv_sing, rowL_pos hl]; try simp
              · rw [← hrT]; simp
        · refine hN2 _ _ ⟨[.mask [0, 2, 4, 5, 6], .re [some 0, some 1, some 2]], i + 1, ?_, ⟨by omega, by omega, by rw [← hsc, scanE_go h2 h3]⟩, by omega⟩
          rw [gh_maskP rfl, gh_re rfl]; simp only [go_sem, Nat.reduceSub, Nat.reduceAdd, Nat.reduceEqDiff, Nat.reduceBEq]; try rfl
      · have hie := out (fun h => h2 h.1)
        refine hE2 _ _ _ (fun h => by cases h) ?_
        simp (maxSteps := 2000000) (disch := omega) only [go_sem, Nat.reduceSub, Nat.reduceAdd, Nat.reduceLT, Nat.reduceEqDiff, Nat.reduceBEq]
        refine awp_loopX (fun p : Nat × List Rule × Nat => tmP 79 .any [(0, .imm (.str s)), (2, .ptr 0 0), (4, .ptr 1 0), (5, .imm (.int .i64 p.1)), (6, .imm (.int .i64 i)), (7, if p.2.1 = [] then .imm (.lst .nil 0 []) else .ref 3 0 p.2.1.length)] [])
          (fun p => [.obj 0 [.imm (.int .i64 0), .imm (.int .i64 0), .imm (.lst .nil 0 [])], .obj 0 [.imm (.int .i64 0), .imm (.int .i64 0), .ref 2 0 rows.length], .obj 1 (rvv rows), if p.2.1 = [] then .dead else .obj 3 (rlv p.2.1)])
          (fun p => p.1 ≤ i ∧ p.2.1.length ≤ p.1 ∧ i - p.1 ≤ p.2.2 ∧ p.2.1 ++ rulesE s i p.2.2 p.1 = rulesE s i 100 a) (fun p => i - p.1) [.mask [0, 2, 4, 5, 6, 7], .re [some 0, some 1, some 2, none]] (a, [], 100) ?_ ⟨hi0, by simp, by simp only; omega, rfl⟩ ?_
        · rw [gh_maskP rfl, gh_re rfl]; simp only [go_sem, Nat.reduceSub, Nat.reduceAdd, Nat.reduceEqDiff, Nat.reduceBEq]; try rfl
        rintro ⟨x, l, g⟩ ⟨hx, hll, hg, hlT⟩ Q3 hN3 hE3
        simp only at hx hll hg hlT
        by_cases hl : l = []
        · subst hl
          simp only [if_true]
          simp (maxSteps := 2000000) (disch := omega) only [go_sem, Nat.reduceSub, Nat.reduceAdd, Nat.reduceLT, Nat.reduceEqDiff, Nat.reduceBEq]
          refine Br.sp (fun h4 e4 => ?_) (fun h4 e4 => ?_) <;> simp (maxSteps := 2000000) (disch := omega) only [go_sem, Nat.reduceSub, Nat.reduceAdd, Nat.reduceLT, Nat.reduceEqDiff, Nat.reduceBEq, e4]
          · rw [show ((x : Int) + 3).toNat = x + 3 from by omega]
            refine call_imm (rule_ret _ _ (by simp; omega)) rfl rfl ?_
            simp (maxSteps := 2000000) (disch := omega) only [go_sem, Nat.reduceSub, Nat.reduceAdd, Nat.reduceLT, Nat.reduceEqDiff, Nat.reduceBEq, Rule.av]
            change bsF 3 1 (some (rlv [ruleOf (List.drop x (List.take (x + 3) s))])) _ _ _
            simp (maxSteps := 2000000) (disch := omega) only [go_sem, Nat.reduceSub, Nat.reduceAdd, Nat.reduceLT, Nat.reduceEqDiff, Nat.reduceBEq, rlv_take1, rlv_trip, rlv_app, rlv_length, rvv_length, List.length_append, List.length_singleton]
            obtain ⟨g, rfl⟩ : ∃ g', g = g' + 1 := ⟨g - 1, by omega⟩
            rw [rulesE, if_pos (by omega)] at hlT
            refine ⟨by omega, hN3 _ _ ⟨[.mask [0, 2, 4, 5, 6, 7], .re [some 0, some 1, some 2, some 5]], (x + 3, [ruleOf ((s.take (x + 3)).drop x)], g), ?_, ⟨by simp only; omega, by simp <;> omega, by simp only; omega, by rw [← hlT]; simp⟩, by simp only; omega⟩⟩
            rw [gh_maskP rfl, gh_re rfl, if_neg (show ¬ ([ruleOf ((s.take (x + 3)).drop x)]) = [] from by simp), if_neg (show ¬ ([ruleOf ((s.take (x + 3)).drop x)]) = [] from by simp)]; simp only [go_sem, Nat.reduceSub, Nat.reduceAdd, Nat.reduceEqDiff, Nat.reduceBEq, rlv_take1]; rfl
          · have hlf : [] = rulesE s (endAt s a) 100 a := by
              rw [← hie, ← hlT]; cases g with
              | zero => simp [rulesE]
              | succ g => rw [rulesE, if_neg (by omega)]; simp
            refine hE3 _ _ _ (fun h => by cases h) ?_
            simp (maxSteps := 2000000) (disch := omega) only [go_sem, Nat.reduceSub, Nat.reduceAdd, Nat.reduceLT, Nat.reduceEqDiff, Nat.reduceBEq, List.replicate_succ, List.replicate_zero, List.flatten_cons, List.flatten_nil, rvv_length]
            obtain ⟨f, rfl⟩ : ∃ f', f = f' + 1 := ⟨f - 1, by omega⟩
            rw [rowsE, if_pos (by omega), ← hlf, ← hie] at hrT
            refine ⟨by omega, hN1 _ _ ⟨[.mask [0, 2, 4, 5], .re [some 0, some 1, some 5]], (i + 1, rows ++ [rowL []], f), ?_, ⟨by simp only; omega, by simp <;> omega, fun _ => by simp, by simp only; omega, ?_⟩, by simp only; omega⟩⟩
            · rw [if_neg (show ¬ (rows ++ [rowL []] : List (Lst Rule)) = [] from by simp), if_neg (show ¬ (rows ++ [rowL []] : List (Lst Rule)) = [] from by simp)]
              rw [gh_maskP rfl, gh_re rfl]; simp only [go_sem, Nat.reduceSub, Nat.reduceAdd, Nat.reduceEqDiff, Nat.reduceBEq, rens_app', rvv_snoc, rvv_sing, rowL_nil]; try simp
            · rw [← hrT]; simp
        · simp only [if_neg hl]
          simp (maxSteps := 2000000) (disch := omega) only [go_sem, Nat.reduceSub, Nat.reduceAdd, Nat.reduceLT, Nat.reduceEqDiff, Nat.reduceBEq]
          refine Br.sp (fun h4 e4 => ?_) (fun h4 e4 => ?_) <;> simp (maxSteps := 2000000) (disch := omega) only [go_sem, Nat.reduceSub, Nat.reduceAdd, Nat.reduceLT, Nat.reduceEqDiff, Nat.reduceBEq, e4]
          · rw [show ((x : Int) + 3).toNat = x + 3 from by omega]
            refine call_imm (rule_ret _ _ (by simp; omega)) rfl rfl ?_
            simp (maxSteps := 2000000) (disch := omega) only [go_sem, Nat.reduceSub, Nat.reduceAdd, Nat.reduceLT, Nat.reduceEqDiff, Nat.reduceBEq, Rule.av]
            change bsF 3 1 (some (rlv [ruleOf (List.drop x (List.take (x + 3) s))])) _ _ _
            simp (maxSteps := 2000000) (disch := omega) only [go_sem, Nat.reduceSub, Nat.reduceAdd, Nat.reduceLT, Nat.reduceEqDiff, Nat.reduceBEq, rlv_take1, rlv_trip, rlv_app, rlv_length, rvv_length, List.length_append, List.length_singleton]
            obtain ⟨g, rfl⟩ : ∃ g', g = g' + 1 := ⟨g - 1, by omega⟩
            rw [rulesE, if_pos (by omega)] at hlT
            refine ⟨by omega, hN3 _ _ ⟨[.mask [0, 2, 4, 5, 6, 7], .re [some 0, some 1, some 2, some 5]], (x + 3, l ++ [ruleOf ((s.take (x + 3)).drop x)], g), ?_, ⟨by simp only; omega, by simp <;> omega, by simp only; omega, by rw [← hlT]; simp⟩, by simp only; omega⟩⟩
            rw [gh_maskP rfl, gh_re rfl, if_neg (show ¬ (l ++ [ruleOf ((s.take (x + 3)).drop x)]) = [] from by simp), if_neg (show ¬ (l ++ [ruleOf ((s.take (x + 3)).drop x)]) = [] from by simp)]; simp only [go_sem, Nat.reduceSub, Nat.reduceAdd, Nat.reduceEqDiff, Nat.reduceBEq, rlv_take1]; rfl
          · have hlf : l = rulesE s (endAt s a) 100 a := by
              rw [← hie, ← hlT]; cases g with
              | zero => simp [rulesE]
              | succ g => rw [rulesE, if_neg (by omega)]; simp
            refine hE3 _ _ _ (fun h => by cases h) ?_
            simp (maxSteps := 2000000) (disch := omega) only [go_sem, Nat.reduceSub, Nat.reduceAdd, Nat.reduceLT, Nat.reduceEqDiff, Nat.reduceBEq, List.replicate_succ, List.replicate_zero, List.flatten_cons, List.flatten_nil, rvv_length]
            obtain ⟨f, rfl⟩ : ∃ f', f = f' + 1 := ⟨f - 1, by omega⟩
            rw [rowsE, if_pos (by omega), ← hlf, ← hie] at hrT
            refine ⟨by omega, hN1 _ _ ⟨[.mask [0, 2, 4, 5], .frz 3, .re [some 0, some 1, some 5]], (i + 1, rows ++ [rowL l], f), ?_, ⟨by simp only; omega, by simp <;> omega, fun _ => by simp, by simp only; omega, ?_⟩, by simp only; omega⟩⟩
            · rw [if_neg (show ¬ (rows ++ [rowL l] : List (Lst Rule)) = [] from by simp), if_neg (show ¬ (rows ++ [rowL l] : List (Lst Rule)) = [] from by simp)]
              rw [gh_maskP rfl, gh_frz]
              simp only [go_sem, Nat.reduceSub, Nat.reduceAdd, Nat.reduceEqDiff, Nat.reduceBEq, rlv_view l hl, frzAs_app]
              rw [gh_re rfl]; simp only [go_sem, Nat.reduceSub, Nat.reduceAdd, Nat.reduceEqDiff, Nat.reduceBEq, rens_app', rvv_snoc, rvv_sing, rowL_pos hl]; try simp
            · rw [← hrT]; simp
    · have hrf : rows = T := by
        rw [← hrT]; cases f with
        | zero => simp [rowsE]
        | succ f => rw [rowsE, if_neg (by omega)]; simp
      have hpos : 0 < rows.length := List.length_pos_iff.mpr hrn
      refine hE1 _ _ _ (fun h => by cases h) ?_
      simp (maxSteps := 2000000) (disch := omega) only [go_sem, Nat.reduceSub, Nat.reduceAdd, Nat.reduceLT, Nat.reduceEqDiff, Nat.reduceBEq]
      refine awp_drawQ ⟨[9, 11], [5, 6], [2]⟩ (by kernel_rfl) (by kernel_rfl) (by simp) ?_
      simp (maxSteps := 2000000) (disch := omega) only [go_sem, Nat.reduceSub, Nat.reduceAdd, Nat.reduceLT, Nat.reduceEqDiff, Nat.reduceBEq, rvv_length, rvv_get]
      subst hrf
      have hpm : parseM s = ⟨rows.length, (rows.getD 0 ⟨.nil, []⟩).l.length, ⟨.full, rows⟩⟩ := by unfold parseM; rw [hT]
      have hok : (parseM s).ok := parseM_ok s
      have hvw : viewC 1 (rvv rows) 0 rows.length = some (.imm (rowsIV ⟨.full, rows⟩)) := rvv_view rows hrn
      refine ⟨by simpa using hpos, ?_⟩
      rw [show Int.toNat 0 = 0 from rfl]
      by_cases hv : (parseM s).Valid
      · refine call_soft (as1 := [(parseM s).av]) [] (text_ret d (parseM s) hok hv) (by decide) (by intro p hp; cases hp) ?_ rfl rfl (by simp) rfl rfl rfl rfl ?_
        · simp (maxSteps := 2000000) (disch := omega) only [go_sem, Nat.reduceSub, Nat.reduceAdd, Nat.reduceLT, Nat.reduceEqDiff, Nat.reduceBEq, Bool.false_eq_true, hvw, Mach.av, hpm]
        simp (maxSteps := 2000000) (disch := omega) only [go_sem, Nat.reduceSub, Nat.reduceAdd, Nat.reduceLT, Nat.reduceEqDiff, Nat.reduceBEq]
        refine Br.sp (fun h5 e5 => ?_) (fun h5 e5 => ?_) <;> simp (maxSteps := 2000000) (disch := omega) only [go_sem, Nat.reduceSub, Nat.reduceAdd, Nat.reduceLT, Nat.reduceEqDiff, Nat.reduceBEq, e5]
        · have hP : parseF s = (parseM s, 0) := by unfold parseF; rw [if_pos ⟨by omega, hv, h5⟩]
          rw [hP] at hQ2
          refine hQ2 _ _ (Fin.sim [.frz 2] [.re []] [.cell 2 24, .tmp 3] rfl rfl ?_)
          simp (maxSteps := 2000000) (disch := omega) only [go_sem, Nat.reduceSub, Nat.reduceAdd, Nat.reduceLT, Nat.reduceEqDiff, Nat.reduceBEq, hvw]
          rw [gh_re rfl]; simp only [go_sem, Nat.reduceSub, Nat.reduceAdd, Nat.reduceEqDiff, Nat.reduceBEq, Mach.av, hpm]; try rfl
        · have hP : parseF s = (mach0, 3) := by unfold parseF; rw [if_neg (fun q => h5 q.2.2)]
          rw [hP] at hQ2
          refine hQ2 _ _ (Fin.sim [] [.re []] [.cell 2 24, .tmp 3] rfl gh_nil ?_)
          simp (maxSteps := 2000000) (disch := omega) only [go_sem, Nat.reduceSub, Nat.reduceAdd, Nat.reduceLT, Nat.reduceEqDiff, Nat.reduceBEq]
          rw [gh_re rfl]; simp only [go_sem, Nat.reduceSub, Nat.reduceAdd, Nat.reduceEqDiff, Nat.reduceBEq, Mach.av, mach0]; try rfl
      · refine call_soft (as1 := [(parseM s).av]) [] (text_form_ret d (parseM s) hok hv) (by decide) (by intro p hp; cases hp) ?_ rfl rfl (by simp) rfl rfl rfl rfl ?_
        · simp (maxSteps := 2000000) (disch := omega) only [go_sem, Nat.reduceSub, Nat.reduceAdd, Nat.reduceLT, Nat.reduceEqDiff, Nat.reduceBEq, Bool.false_eq_true, hvw, Mach.av, hpm]
        simp (maxSteps := 2000000) (disch := omega) only [go_sem, Nat.reduceSub, Nat.reduceAdd, Nat.reduceLT, Nat.reduceEqDiff, Nat.reduceBEq]
        have hP : parseF s = (mach0, 3) := by unfold parseF; rw [if_neg (fun q => hv q.2.1)]
        rw [hP] at hQ2
        refine Br.sp (fun h5 e5 => ?_) (fun h5 e5 => ?_) <;> simp (maxSteps := 2000000) (disch := omega) only [go_sem, Nat.reduceSub, Nat.reduceAdd, Nat.reduceLT, Nat.reduceEqDiff, Nat.reduceBEq, e5]
        · exact absurd h5 (by decide)
        refine hQ2 _ _ (Fin.sim [] [.re []] [.cell 2 24, .tmp 3] rfl gh_nil ?_)
        simp (maxSteps := 2000000) (disch := omega) only [go_sem, Nat.reduceSub, Nat.reduceAdd, Nat.reduceLT, Nat.reduceEqDiff, Nat.reduceBEq]
        rw [gh_re rfl]; simp only [go_sem, Nat.reduceSub, Nat.reduceAdd, Nat.reduceEqDiff, Nat.reduceBEq, Mach.av, mach0]; try rfl
end Go.Proofs.Ytbleionbmdpmeaa
