/- Run and Step of the program, all their results. -/
import Derived.Test.YtbleionbmdpmeaaT33
set_option linter.unusedVariables false
set_option linter.unusedSimpArgs false
namespace Go.Proofs.Ytbleionbmdpmeaa
open Go.Abs

set_option maxHeartbeats 1000000 in
set_option maxRecDepth 10000 in
theorem run_form_ret (d : Nat) (m : Mach) (c : Conf) (n : Int) (hm : m.ok) (hc : c.ok) (hf : fits m c = false) :
    Ret Try.prog (d + 3) 22 [m.av, c.av, .imm (.int .i64 n)] [] (.tup [conf0.av, .imm (.int .i64 0), .imm (.int .i64 1)]) [] := by
  refine Ret.mkE Try.func22 rfl (of_decide_eq_true (by kernel_rfl)) Try.ntmps22 rfl ?_
  intro Q hQ1 hQ2
  refine Eq.mpr (congrFun (congrArg _ rfl) _) (?_ : awpW _ _ _ _ _ (un _))
  simp (maxSteps := 2000000) (disch := omega) only [go_sem, Nat.reduceSub, Nat.reduceAdd, Nat.reduceLT, Nat.reduceEqDiff, Nat.reduceBEq, Mach.av, Conf.av]
  refine call_imm (fits_ret _ m c hm hc) rfl rfl ?_
  simp (maxSteps := 2000000) (disch := omega) only [go_sem, Nat.reduceSub, Nat.reduceAdd, Nat.reduceLT, Nat.reduceEqDiff, Nat.reduceBEq, hf]
  refine hQ2 _ _ (Fin.sim [] [.re []] [.cell 6 27, .tmp 7, .tmp 8] rfl gh_nil ?_)
  simp (maxSteps := 2000000) (disch := omega) only [go_sem, Nat.reduceSub, Nat.reduceAdd, Nat.reduceLT, Nat.reduceEqDiff, Nat.reduceBEq]
  rw [gh_re rfl]; simp only [go_sem, Nat.reduceSub, Nat.reduceAdd, Nat.reduceEqDiff, Nat.reduceBEq, conf0, Conf.av]; rfl

set_option maxHeartbeats 1000000 in
set_option maxRecDepth 10000 in
theorem run_arg_ret (d : Nat) (m : Mach) (c : Conf) (n : Int) (hm : m.ok) (hc : c.ok) (hf : fits m c = true) (hn : n < 0 ∨ 1000000 < n) :
    Ret Try.prog (d + 3) 22 [m.av, c.av, .imm (.int .i64 n)] [] (.tup [conf0.av, .imm (.int .i64 0), .imm (.int .i64 2)]) [] := by
  refine Ret.mkE Try.func22 rfl (of_decide_eq_true (by kernel_rfl)) Try.ntmps22 rfl ?_
  intro Q hQ1 hQ2
  refine Eq.mpr (congrFun (congrArg _ rfl) _) (?_ : awpW _ _ _ _ _ (un _))
  simp (maxSteps := 2000000) (disch := omega) only [go_sem, Nat.reduceSub, Nat.reduceAdd, Nat.reduceLT, Nat.reduceEqDiff, Nat.reduceBEq, Mach.av, Conf.av]
  refine call_imm (fits_ret _ m c hm hc) rfl rfl ?_
  simp (maxSteps := 2000000) (disch := omega) only [go_sem, Nat.reduceSub, Nat.reduceAdd, Nat.reduceLT, Nat.reduceEqDiff, Nat.reduceBEq, hf]
  repeat' (refine Br.sp (fun h e => ?_) (fun h e => ?_) <;> simp (maxSteps := 2000000) (disch := omega) only [go_sem, Nat.reduceSub, Nat.reduceAdd, Nat.reduceLT, Nat.reduceEqDiff, Nat.reduceBEq, e])
  all_goals try (exfalso; omega)
  all_goals
    refine hQ2 _ _ (Fin.sim [] [.re []] [.cell 6 27, .tmp 7, .tmp 8] rfl gh_nil ?_)
    simp (maxSteps := 2000000) (disch := omega) only [go_sem, Nat.reduceSub, Nat.reduceAdd, Nat.reduceLT, Nat.reduceEqDiff, Nat.reduceBEq]
    rw [gh_re rfl]; simp only [go_sem, Nat.reduceSub, Nat.reduceAdd, Nat.reduceEqDiff, Nat.reduceBEq, conf0, Conf.av]; rfl

set_option maxHeartbeats 1000000 in
set_option maxRecDepth 10000 in
theorem step_form_ret (d : Nat) (m : Mach) (c : Conf) (hm : m.ok) (hc : c.ok) (hf : fits m c = false) :
    Ret Try.prog (d + 3) 21 [m.av, c.av] [] (.tup [conf0.av, .imm (.int .i64 1)]) [] := by
  refine Ret.mkE Try.func21 rfl (of_decide_eq_true (by kernel_rfl)) Try.ntmps21 rfl ?_
  intro Q hQ1 hQ2
  refine Eq.mpr (congrFun (congrArg _ rfl) _) (?_ : awpW _ _ _ _ _ (un _))
  simp (maxSteps := 2000000) (disch := omega) only [go_sem, Nat.reduceSub, Nat.reduceAdd, Nat.reduceLT, Nat.reduceEqDiff, Nat.reduceBEq, Mach.av, Conf.av]
  refine call_imm (fits_ret _ m c hm hc) rfl rfl ?_
  simp (maxSteps := 2000000) (disch := omega) only [go_sem, Nat.reduceSub, Nat.reduceAdd, Nat.reduceLT, Nat.reduceEqDiff, Nat.reduceBEq, hf]
  refine hQ2 _ _ (Fin.sim [] [.re []] [.cell 4 27, .tmp 5] rfl gh_nil ?_)
  simp (maxSteps := 2000000) (disch := omega) only [go_sem, Nat.reduceSub, Nat.reduceAdd, Nat.reduceLT, Nat.reduceEqDiff, Nat.reduceBEq]
  rw [gh_re rfl]; simp only [go_sem, Nat.reduceSub, Nat.reduceAdd, Nat.reduceEqDiff, Nat.reduceBEq, conf0, Conf.av]; rfl

set_option maxHeartbeats 1000000 in
set_option maxRecDepth 10000 in
theorem step_stop_ret (d : Nat) (m : Mach) (c : Conf) (hm : m.ok) (hc : c.ok) (hf : fits m c = true) (hs : c.st = -1) :
    Ret Try.prog (d + 3) 21 [m.av, c.av] [] (.tup [conf0.av, .imm (.int .i64 5)]) [] := by
  refine Ret.mkE Try.func21 rfl (of_decide_eq_true (by kernel_rfl)) Try.ntmps21 rfl ?_
  intro Q hQ1 hQ2
  refine Eq.mpr (congrFun (congrArg _ rfl) _) (?_ : awpW _ _ _ _ _ (un _))
  simp (maxSteps := 2000000) (disch := omega) only [go_sem, Nat.reduceSub, Nat.reduceAdd, Nat.reduceLT, Nat.reduceEqDiff, Nat.reduceBEq, Mach.av, Conf.av]
  refine call_imm (fits_ret _ m c hm hc) rfl rfl ?_
  simp (maxSteps := 2000000) (disch := omega) only [go_sem, Nat.reduceSub, Nat.reduceAdd, Nat.reduceLT, Nat.reduceEqDiff, Nat.reduceBEq, hf]
  refine Br.sp (fun h e => ?_) (fun h e => ?_) <;> simp (maxSteps := 2000000) (disch := omega) only [go_sem, Nat.reduceSub, Nat.reduceAdd, Nat.reduceLT, Nat.reduceEqDiff, Nat.reduceBEq, e]
  rotate_left
  · exfalso; omega
  refine hQ2 _ _ (Fin.sim [] [.re []] [.cell 4 27, .tmp 5] rfl gh_nil ?_)
  simp (maxSteps := 2000000) (disch := omega) only [go_sem, Nat.reduceSub, Nat.reduceAdd, Nat.reduceLT, Nat.reduceEqDiff, Nat.reduceBEq]
  rw [gh_re rfl]; simp only [go_sem, Nat.reduceSub, Nat.reduceAdd, Nat.reduceEqDiff, Nat.reduceBEq, conf0, Conf.av]; rfl

set_option maxHeartbeats 1000000 in
set_option maxRecDepth 10000 in
theorem tstep_ret (d : Nat) (m : Mach) (c : Conf) (hm : m.ok) (hc : c.ok) (hf : fits m c = true) (hs : c.st ≠ -1) (r : Conf) (k e : Int) (hr : runOut (runF m 1 (startW c)) = .tup [r.av, .imm (.int .i64 k), .imm (.int .i64 e)]) :
    Ret Try.prog (d + 5) 21 [m.av, c.av] [] (.tup [r.av, .imm (.int .i64 e)]) [] := by
  refine Ret.mkE Try.func21 rfl (of_decide_eq_true (by kernel_rfl)) Try.ntmps21 rfl ?_
  intro Q hQ1 hQ2
  refine Eq.mpr (congrFun (congrArg _ rfl) _) (?_ : awpW _ _ _ _ _ (un _))
  simp (maxSteps := 2000000) (disch := omega) only [go_sem, Nat.reduceSub, Nat.reduceAdd, Nat.reduceLT, Nat.reduceEqDiff, Nat.reduceBEq, Mach.av, Conf.av]
  refine call_imm (fits_ret _ m c hm hc) rfl rfl ?_
  simp (maxSteps := 2000000) (disch := omega) only [go_sem, Nat.reduceSub, Nat.reduceAdd, Nat.reduceLT, Nat.reduceEqDiff, Nat.reduceBEq, hf]
  refine Br.sp (fun h e => ?_) (fun h e => ?_) <;> simp (maxSteps := 2000000) (disch := omega) only [go_sem, Nat.reduceSub, Nat.reduceAdd, Nat.reduceLT, Nat.reduceEqDiff, Nat.reduceBEq, e]
  · exfalso; omega
  have R := (run_ok d m c 1 hm hc hf (by omega) (by omega)).1
  rw [show (1 : Int).toNat = 1 from rfl, hr] at R
  refine call_imm R rfl rfl ?_
  simp (maxSteps := 2000000) (disch := omega) only [go_sem, Nat.reduceSub, Nat.reduceAdd, Nat.reduceLT, Nat.reduceEqDiff, Nat.reduceBEq, Conf.av]
  refine hQ2 _ _ (Fin.sim [] [.re []] [.cell 4 27, .tmp 5] rfl gh_nil ?_)
  simp (maxSteps := 2000000) (disch := omega) only [go_sem, Nat.reduceSub, Nat.reduceAdd, Nat.reduceLT, Nat.reduceEqDiff, Nat.reduceBEq]
  rw [gh_re rfl]; simp only [go_sem, Nat.reduceSub, Nat.reduceAdd, Nat.reduceEqDiff, Nat.reduceBEq, Conf.av]
end Go.Proofs.Ytbleionbmdpmeaa
