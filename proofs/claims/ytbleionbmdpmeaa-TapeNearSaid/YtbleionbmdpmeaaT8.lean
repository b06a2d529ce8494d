/- Fits, of the program and of the specification. -/
import Derived.Test.YtbleionbmdpmeaaT7
set_option linter.unusedVariables false
set_option linter.unusedSimpArgs false
namespace Go.Proofs.Ytbleionbmdpmeaa
open Go.Abs

set_option maxHeartbeats 4000000 in
set_option maxRecDepth 10000 in
theorem fits_ret (d : Nat) (m : Mach) (c : Conf) (hm : m.ok) (hc : c.ok) : Ret Try.prog (d + 2) 19 [m.av, c.av] [] (.imm (.bool (fits m c))) [] := by
  refine Ret.mk Try.func19 rfl (of_decide_eq_true (by kernel_rfl)) (by rw [Try.ntmps19]; exact Nat.le_of_ble_eq_true rfl) ?_
  intro Q hQ1 hQ2
  rw [Try.ntmps19]
  refine Eq.mpr (congrFun (congrArg _ rfl) _) (?_ : awpW _ _ _ _ _ (un _))
  simp (disch := omega) only [go_sem, Mach.av, Conf.av, Nat.reduceSub, Nat.reduceAdd, Nat.reduceLT]
  refine call_imm (valid_ret _ m hm) rfl rfl ?_
  simp (disch := omega) only [go_sem, Nat.reduceSub, Nat.reduceAdd, Nat.reduceLT]
  refine Br.sp (fun h e => ?_) (fun h e => ?_) <;> simp (disch := omega) only [go_sem, Nat.reduceSub, Nat.reduceAdd, Nat.reduceLT, e]
  · refine call_imm (tfits_ret _ m.ns m.ny c hc) rfl rfl ?_
    simp (disch := omega) only [go_sem, Nat.reduceSub, Nat.reduceAdd, Nat.reduceLT, e]
    try (refine Br.sp (fun h' e' => ?_) (fun h' e' => ?_) <;> simp (disch := omega) only [go_sem, Nat.reduceSub, Nat.reduceAdd, Nat.reduceLT, e, e'])
    all_goals (refine hQ2 _ _ (Fin.imm1 rfl (i := 4) ?_); simp only [go_sem, fits]; simp [*])
  · try (refine Br.sp (fun h' e' => ?_) (fun h' e' => ?_) <;> simp (disch := omega) only [go_sem, Nat.reduceSub, Nat.reduceAdd, Nat.reduceLT, e, e'])
    all_goals (refine hQ2 _ _ (Fin.imm1 rfl (i := 4) ?_); simp only [go_sem, fits]; simp [*])

set_option maxHeartbeats 4000000 in
set_option maxRecDepth 10000 in
theorem rfits_ret (d : Nat) (m : Mach) (c : Conf) (hm : m.ok) (hc : c.ok) : Ret Try.prog (d + 3) 20 [m.av, c.av] [] (.imm (.bool (fits m c))) [] := by
  refine Ret.mk Try.func20 rfl (of_decide_eq_true (by kernel_rfl)) (by rw [Try.ntmps20]; exact Nat.le_of_ble_eq_true rfl) ?_
  intro Q hQ1 hQ2
  rw [Try.ntmps20]
  refine Eq.mpr (congrFun (congrArg _ rfl) _) (?_ : awpW _ _ _ _ _ (un _))
  simp (disch := omega) only [go_sem, Mach.av, Conf.av, Nat.reduceSub, Nat.reduceAdd, Nat.reduceLT]
  refine call_imm (rvalid_ret _ m hm) rfl rfl ?_
  simp (disch := omega) only [go_sem, Nat.reduceSub, Nat.reduceAdd, Nat.reduceLT]
  refine Br.sp (fun h e => ?_) (fun h e => ?_) <;> simp (disch := omega) only [go_sem, Nat.reduceSub, Nat.reduceAdd, Nat.reduceLT, e]
  · refine call_imm (rwithin_ret _ m.ns m.ny c hc) rfl rfl ?_
    simp (disch := omega) only [go_sem, Nat.reduceSub, Nat.reduceAdd, Nat.reduceLT, e]
    try (refine Br.sp (fun h' e' => ?_) (fun h' e' => ?_) <;> simp (disch := omega) only [go_sem, Nat.reduceSub, Nat.reduceAdd, Nat.reduceLT, e, e'])
    all_goals (refine hQ2 _ _ (Fin.imm1 rfl (i := 4) ?_); simp only [go_sem, fits]; simp [*])
  · try (refine Br.sp (fun h' e' => ?_) (fun h' e' => ?_) <;> simp (disch := omega) only [go_sem, Nat.reduceSub, Nat.reduceAdd, Nat.reduceLT, e, e'])
    all_goals (refine hQ2 _ _ (Fin.imm1 rfl (i := 4) ?_); simp only [go_sem, fits]; simp [*])
end Go.Proofs.Ytbleionbmdpmeaa
