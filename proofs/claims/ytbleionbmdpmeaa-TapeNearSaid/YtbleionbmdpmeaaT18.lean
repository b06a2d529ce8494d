/- Run of the program. -/
import Derived.Test.YtbleionbmdpmeaaT17
set_option linter.unusedVariables false
set_option linter.unusedSimpArgs false
namespace Go.Proofs.Ytbleionbmdpmeaa
open Go.Abs

structure WInv (m : Mach) (A B k : Int) (w : Wk) : Prop where
  ok : WOk A B k w
  cells : ∀ p, 0 ≤ bget w.l w.z p ∧ bget w.l w.z p < m.ny
  st0 : -1 ≤ w.st
  st1 : w.st < m.ns
  ends : w.lo ≤ w.hi → bget w.l w.z w.lo ≠ 0 ∧ bget w.l w.z w.hi ≠ 0
  span : w.hi - w.lo < 100000
  lor : w.lo ≤ w.hi → -1099511627776 ≤ w.lo ∧ w.lo ≤ 1099511627776

def startW (c : Conf) : Wk := ⟨c.st, c.pos, c.fr, c.fr + c.cs.l.length - 1, 0 - c.fr, c.cs.l⟩
def runF (m : Mach) : Nat → Wk → Option (Wk × Nat)
  | 0, w => some (w, 0)
  | n + 1, w => if w.st = -1 then some (w, 0) else match stepF m w with
    | none => none
    | some w' => match runF m n w' with
      | none => none
      | some r => some (r.1, r.2 + 1)
def conf0 : Conf := ⟨0, 0, 0, ⟨.nil, []⟩⟩
def runOut (r : Option (Wk × Nat)) : AVal := match r with
  | none => .tup [conf0.av, .imm (.int .i64 0), .imm (.int .i64 4)]
  | some (w, k) => .tup [(confOf w.st w.pos w.l w.z).av, .imm (.int .i64 k), .imm (.int .i64 0)]
def addK (k : Nat) (r : Option (Wk × Nat)) : Option (Wk × Nat) := match r with
  | none => none
  | some (w, j) => some (w, k + j)

set_option maxHeartbeats 1000000 in
set_option maxRecDepth 10000 in
theorem run_ret (d : Nat) (m : Mach) (c : Conf) (n : Int) (hm : m.ok) (hc : c.ok) (hv : m.Valid) (hf : fits m c = true) (hf' : c.Within m.ns m.ny) (h0 : 0 ≤ n) (h1 : n ≤ 1000000) (A B : Int) (hi : WInv m A B n (startW c))
    (hs : ∀ k w w', WInv m A B (k + 1) w → 0 ≤ k → w.st ≠ -1 → stepF m w = some w' → WInv m A B k w') :
    Ret Try.prog (d + 4) 22 [m.av, c.av, .imm (.int .i64 n)] [] (runOut (runF m n.toNat (startW c))) [] := by
  have hclen := hf'.len; have hfr0 := hf'.fr0; have hfr1 := hf'.fr1
  refine Ret.mkE Try.func22 rfl (of_decide_eq_true (by kernel_rfl)) Try.ntmps22 rfl ?_
  intro Q hQ1 hQ2
  refine Eq.mpr (congrFun (congrArg _ rfl) _) (?_ : awpW _ _ _ _ _ (un _))
  simp (maxSteps := 2000000) (disch := omega) only [go_sem, Nat.reduceSub, Nat.reduceAdd, Nat.reduceLT, Nat.reduceEqDiff, Nat.reduceBEq, Mach.av, Conf.av]
  refine call_imm (fits_ret _ m c hm hc) rfl rfl ?_
  simp (maxSteps := 2000000) (disch := omega) only [go_sem, Nat.reduceSub, Nat.reduceAdd, Nat.reduceLT, Nat.reduceEqDiff, Nat.reduceBEq, hf]
  refine Br.sp (fun h e => ?_) (fun h e => ?_) <;> simp (maxSteps := 2000000) (disch := omega) only [go_sem, Nat.reduceSub, Nat.reduceAdd, Nat.reduceLT, Nat.reduceEqDiff, Nat.reduceBEq, e]
  · exfalso; omega
  refine Br.sp (fun h e => ?_) (fun h e => ?_) <;> simp (maxSteps := 2000000) (disch := omega) only [go_sem, Nat.reduceSub, Nat.reduceAdd, Nat.reduceLT, Nat.reduceEqDiff, Nat.reduceBEq, e]
  · exfalso; omega
  refine awp_draw [9] (by kernel_rfl) (by kernel_rfl) ?_
  simp (maxSteps := 2000000) (disch := omega) only [go_sem, Nat.reduceSub, Nat.reduceAdd, Nat.reduceLT, Nat.reduceEqDiff, Nat.reduceBEq]
  refine call_lend [] (spread_ret _ c (by omega) (by omega) (by omega)) (by decide) (by intro p hp; cases hp) ?_ rfl (by simp) rfl rfl ?_
  · simp only [go_sem, Nat.reduceSub, Nat.reduceAdd, Nat.reduceEqDiff, Nat.reduceBEq, Conf.av]
  simp (maxSteps := 2000000) (disch := omega) only [go_sem, Nat.reduceSub, Nat.reduceAdd, Nat.reduceLT, Nat.reduceEqDiff, Nat.reduceBEq, List.map_cons, List.map_nil]
  refine awp_drawQ ⟨[10, 12], [3, 5], [1]⟩ (by kernel_rfl) (by kernel_rfl) (by simp) ?_
  simp (maxSteps := 2000000) (disch := omega) only [go_sem, Nat.reduceSub, Nat.reduceAdd, Nat.reduceLT, Nat.reduceEqDiff, Nat.reduceBEq]
  generalize hr0 : runF m n.toNat (startW c) = r0
  refine awp_loopX (fun q : Wk × Nat × Nat => tmP 63 .any [(2, .imm (.int .i64 n)), (6, .ptr 0 0), (9, .ptr 1 0), (10, .imm (.int .i64 q.2.1))] [])
    (fun q => [.obj 0 [.imm (.int .i64 0), .imm (.int .i64 0), .imm (.int .i64 0), .imm (.lst .nil 0 [])], .obj 0 (walkC m 2 q.1.st q.1.pos q.1.lo q.1.hi), .obj 0 [.ref 3 0 q.1.l.length, .imm (.int .i64 q.1.z)], .obj 1 (iv q.1.l)])
    (fun q => WInv m A B q.2.2 q.1 ∧ (q.2.1 + q.2.2 : Int) = n ∧ addK q.2.1 (runF m q.2.2 q.1) = r0) (fun q => q.2.2) [.mask [2, 6, 9, 10], .re [some 2, some 5, some 3, some 4]] (startW c, 0, n.toNat) ?_
    ⟨by simp only; rw [Int.toNat_of_nonneg h0]; exact hi, by simp only; omega, by simp only [hr0, addK]; cases r0 <;> simp⟩ ?_
  · rw [gh_maskP rfl, gh_re rfl]; simp only [go_sem, Nat.reduceSub, Nat.reduceAdd, Nat.reduceEqDiff, Nat.reduceBEq, walkC, startW]; rfl
  rintro ⟨w, k, f⟩ ⟨hw, hk, hr⟩ Q1 hN1 hE1
  simp only at hw hk hr
  have hst0 := hw.st0; have hst1 := hw.st1; have hz0 := hw.ok.z0; have hz1 := hw.ok.z1; have hwl := hw.ok.len
  simp (maxSteps := 2000000) (disch := omega) only [go_sem, Nat.reduceSub, Nat.reduceAdd, Nat.reduceLT, Nat.reduceEqDiff, Nat.reduceBEq, walkC]
  have kont : r0 = some (w, k) → ∀ (t : List AVal), getT t 9 = .ptr 1 0 → getT t 6 = .ptr 0 0 → True := fun _ _ _ _ => trivial
  refine Br.sp (fun h e => ?_) (fun h e => ?_) <;> simp (maxSteps := 2000000) (disch := omega) only [go_sem, Nat.reduceSub, Nat.reduceAdd, Nat.reduceLT, Nat.reduceEqDiff, Nat.reduceBEq, e]
  · refine Br.sp (fun h' e' => ?_) (fun h' e' => ?_) <;> simp (maxSteps := 2000000) (disch := omega) only [go_sem, Nat.reduceSub, Nat.reduceAdd, Nat.reduceLT, Nat.reduceEqDiff, Nat.reduceBEq, e']
    · have hsome : r0 = some (w, k) := by
        rw [← hr]; cases f with
        | zero => simp [runF, addK]
        | succ f => simp [runF, h', addK]
      refine hE1 _ _ _ (fun h => by cases h) ?_
      simp (maxSteps := 2000000) (disch := omega) only [go_sem, Nat.reduceSub, Nat.reduceAdd, Nat.reduceLT, Nat.reduceEqDiff, Nat.reduceBEq]
      refine call_lend [2, 3] (config_ret _ w.st w.pos w.z w.l (by omega) (by omega) (by omega)) (by decide) (by intro p hp; simp at hp; rcases hp with rfl | rfl <;> simp [getS]) ?_ ?_ (by simp) rfl rfl ?_
      · simp only [go_sem, Nat.reduceSub, Nat.reduceAdd, Nat.reduceEqDiff, Nat.reduceBEq]
      · simp only [go_sem, Nat.reduceSub, Nat.reduceAdd, Nat.reduceEqDiff, Nat.reduceBEq]
      simp (maxSteps := 2000000) (disch := omega) only [go_sem, Nat.reduceSub, Nat.reduceAdd, Nat.reduceLT, Nat.reduceEqDiff, Nat.reduceBEq, Conf.av]
      refine hQ2 _ _ (Fin.sim [] [.re []] [.cell 6 27, .tmp 7, .tmp 8] rfl gh_nil ?_)
      simp (maxSteps := 2000000) (disch := omega) only [go_sem, Nat.reduceSub, Nat.reduceAdd, Nat.reduceLT, Nat.reduceEqDiff, Nat.reduceBEq]
      rw [gh_re rfl, hr0, hsome]; simp only [go_sem, Nat.reduceSub, Nat.reduceAdd, Nat.reduceEqDiff, Nat.reduceBEq, runOut, Conf.av]
    · obtain ⟨f, rfl⟩ : ∃ g, f = g + 1 := ⟨f - 1, by omega⟩
      have hs0 : 0 ≤ symF w ∧ symF w < m.ny := by rw [symF_eq hw.ok]; exact hw.cells _
      have hstep := step_ret d m hw.ok hv (by omega) hst1 hs0.1 hs0.2
      rw [runF, if_neg h'] at hr
      cases hsw : stepF m w with
      | none =>
        rw [hsw] at hstep hr
        simp only at hstep hr
        refine call_lend [1, 2, 3] hstep (by decide) (by intro p hp; simp at hp; rcases hp with rfl | rfl | rfl <;> simp [getS]) ?_ ?_ (by simp) rfl rfl ?_
        · simp only [go_sem, Nat.reduceSub, Nat.reduceAdd, Nat.reduceEqDiff, Nat.reduceBEq]
        · simp only [go_sem, Nat.reduceSub, Nat.reduceAdd, Nat.reduceEqDiff, Nat.reduceBEq, walkS, walkC]
        simp (maxSteps := 2000000) (disch := omega) only [go_sem, Nat.reduceSub, Nat.reduceAdd, Nat.reduceLT, Nat.reduceEqDiff, Nat.reduceBEq, Option.isSome_none]
        refine hE1 _ _ _ (fun h => by cases h) ?_
        refine hQ2 _ _ (Fin.sim [] [.re []] [.cell 6 27, .tmp 7, .tmp 8] rfl gh_nil ?_)
        simp (maxSteps := 2000000) (disch := omega) only [go_sem, Nat.reduceSub, Nat.reduceAdd, Nat.reduceLT, Nat.reduceEqDiff, Nat.reduceBEq]
        rw [gh_re rfl, hr0, ← hr]; simp only [go_sem, Nat.reduceSub, Nat.reduceAdd, Nat.reduceEqDiff, Nat.reduceBEq, runOut, addK, conf0, Conf.av]; rfl
      | some w' =>
        rw [hsw] at hstep hr
        simp only at hstep hr
        have hw' := hs f w w' (by simpa using hw) (by omega) h' hsw
        refine call_lend [1, 2, 3] hstep (by decide) (by intro p hp; simp at hp; rcases hp with rfl | rfl | rfl <;> simp [getS]) ?_ ?_ (by simp [walkO]) rfl rfl ?_
        · simp only [go_sem, Nat.reduceSub, Nat.reduceAdd, Nat.reduceEqDiff, Nat.reduceBEq]
        · simp only [go_sem, Nat.reduceSub, Nat.reduceAdd, Nat.reduceEqDiff, Nat.reduceBEq, walkS, walkC]
        simp (maxSteps := 2000000) (disch := omega) only [go_sem, Nat.reduceSub, Nat.reduceAdd, Nat.reduceLT, Nat.reduceEqDiff, Nat.reduceBEq, walkO, walkC, Option.isSome_some, List.map_cons, List.map_nil]
        refine hN1 _ _ ⟨[.mask [2, 6, 9, 10], .re [some 0, some 1, some 4, some 5]], (w', k + 1, f), ?_, ⟨hw', by simp only; omega, ?_⟩, Nat.lt_succ_self _⟩
        · rw [gh_maskP rfl, gh_re rfl]; simp only [go_sem, Nat.reduceSub, Nat.reduceAdd, Nat.reduceEqDiff, Nat.reduceBEq, walkC]; rfl
        · rw [← hr]
          cases runF m f w' with
          | none => rfl
          | some r => simp only [addK]; congr 2; omega
  · have hsome : r0 = some (w, k) := by
      rw [← hr, show f = 0 from by omega]; simp [runF, addK]
    refine hE1 _ _ _ (fun h => by cases h) ?_
    simp (maxSteps := 2000000) (disch := omega) only [go_sem, Nat.reduceSub, Nat.reduceAdd, Nat.reduceLT, Nat.reduceEqDiff, Nat.reduceBEq]
    refine call_lend [2, 3] (config_ret _ w.st w.pos w.z w.l (by omega) (by omega) (by omega)) (by decide) (by intro p hp; simp at hp; rcases hp with rfl | rfl <;> simp [getS]) ?_ ?_ (by simp) rfl rfl ?_
    · simp only [go_sem, Nat.reduceSub, Nat.reduceAdd, Nat.reduceEqDiff, Nat.reduceBEq]
    · simp only [go_sem, Nat.reduceSub, Nat.reduceAdd, Nat.reduceEqDiff, Nat.reduceBEq]
    simp (maxSteps := 2000000) (disch := omega) only [go_sem, Nat.reduceSub, Nat.reduceAdd, Nat.reduceLT, Nat.reduceEqDiff, Nat.reduceBEq, Conf.av]
    refine hQ2 _ _ (Fin.sim [] [.re []] [.cell 6 27, .tmp 7, .tmp 8] rfl gh_nil ?_)
    simp (maxSteps := 2000000) (disch := omega) only [go_sem, Nat.reduceSub, Nat.reduceAdd, Nat.reduceLT, Nat.reduceEqDiff, Nat.reduceBEq]
    rw [gh_re rfl, hr0, hsome]; simp only [go_sem, Nat.reduceSub, Nat.reduceAdd, Nat.reduceEqDiff, Nat.reduceBEq, runOut, Conf.av]
end Go.Proofs.Ytbleionbmdpmeaa
