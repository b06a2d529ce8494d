/- TapeParts comes to true. -/
import Derived.Test.YtbleionbmdpmeaaT43
import Derived.Test.YtbleionbmdpmeaaT61
import Derived.Test.YtbleionbmdpmeaaT60
set_option linter.unusedVariables false
set_option linter.unusedSimpArgs false
namespace Go.Proofs.Ytbleionbmdpmeaa
open Go.Abs

@[go_sem] theorem cv52_3 {k : IntKind} {n : Int} {L : List Slot} : convA Try.prog 52 3 (.imm (.int k n)) L = some (True, .imm (.int .i64 (IntKind.i64.wrap n))) := by
  simp [convA, ti3, ti52]

set_option maxHeartbeats 2000000 in
set_option maxRecDepth 10000 in
theorem tapeParts_ret (d : Nat) (m : Mach) (c : Conf) (n k : Int) (hm : m.ok) (hc : c.ok) (hn : u16ok n) (hk : u16ok k) :
    Ret Try.prog (d + 7) 5 [m.av, c.av, .imm (.int .u16 n), .imm (.int .u16 k)] [] (.imm (.bool true)) [] := by
  obtain ⟨n0, n1⟩ := hn
  obtain ⟨k0, k1⟩ := hk
  refine Ret.mkE Try.func5 rfl (of_decide_eq_true (by kernel_rfl)) Try.ntmps5 rfl ?_
  intro Q hQ1 hQ2
  refine Eq.mpr (congrFun (congrArg _ rfl) _) (?_ : awpW _ _ _ _ _ (un _))
  simp (maxSteps := 2000000) (disch := omega) only [go_sem, Nat.reduceSub, Nat.reduceAdd, Nat.reduceLT, Nat.reduceEqDiff, Nat.reduceBEq, Mach.av, Conf.av]
  refine call_imm (wide_ret _ m c hm hc) rfl rfl ?_
  cases hw : wide m c with
  | true =>
    simp (maxSteps := 2000000) (disch := omega) only [go_sem, Nat.reduceSub, Nat.reduceAdd, Nat.reduceLT, Nat.reduceEqDiff, Nat.reduceBEq]
    refine call_imm (awake_ret _) rfl rfl ?_
    simp (maxSteps := 2000000) (disch := omega) only [go_sem, Nat.reduceSub, Nat.reduceAdd, Nat.reduceLT, Nat.reduceEqDiff, Nat.reduceBEq]
    refine hQ2 _ _ (Fin.imm1 rfl (i := 8) ?_)
    simp (maxSteps := 2000000) (disch := omega) only [go_sem, Nat.reduceSub, Nat.reduceAdd, Nat.reduceLT, Nat.reduceEqDiff, Nat.reduceBEq]
  | false =>
  simp (maxSteps := 2000000) (disch := omega) only [go_sem, Nat.reduceSub, Nat.reduceAdd, Nat.reduceLT, Nat.reduceEqDiff, Nat.reduceBEq]
  refine Br.sp (fun h e => ?_) (fun h e => ?_) <;> simp (maxSteps := 2000000) (disch := omega) only [go_sem, Nat.reduceSub, Nat.reduceAdd, Nat.reduceLT, Nat.reduceEqDiff, Nat.reduceBEq, e]
  · refine call_imm (awake_ret _) rfl rfl ?_
    simp (maxSteps := 2000000) (disch := omega) only [go_sem, Nat.reduceSub, Nat.reduceAdd, Nat.reduceLT, Nat.reduceEqDiff, Nat.reduceBEq]
    refine hQ2 _ _ (Fin.imm1 rfl (i := 8) ?_)
    simp (maxSteps := 2000000) (disch := omega) only [go_sem, Nat.reduceSub, Nat.reduceAdd, Nat.reduceLT, Nat.reduceEqDiff, Nat.reduceBEq]
  obtain ⟨L1, L2⟩ := parts hm hc n0 k0 (by omega)
  have oA := runX_ok hm hc (n + k)
  have oB := runX_ok hm hc n
  have oD := runX_ok hm oB k
  have iB := runX_le hm hc n0 (by omega : n ≤ 1000000)
  have iD := runX_le hm oB k0 (by omega : k ≤ 1000000)
  have rA := run_all (d + 2) m c (n + k) hm hc
  have rB := run_all (d + 2) m c n hm hc
  have rD := run_all (d + 2) m (runX m c n).1 k hm oB
  generalize hA : runX m c (n + k) = A at *
  generalize hB : runX m c n = B at *
  generalize hD : runX m B.1 k = D at *
  obtain ⟨ac, ai, ae⟩ := A
  obtain ⟨bc, bi, be⟩ := B
  obtain ⟨dc, di, de⟩ := D
  simp only at L1 L2 oA oB oD rA rB rD iB iD
  refine call_imm rA rfl rfl ?_
  simp (maxSteps := 2000000) (disch := omega) only [go_sem, Nat.reduceSub, Nat.reduceAdd, Nat.reduceLT, Nat.reduceEqDiff, Nat.reduceBEq, Conf.av]
  refine call_imm rB rfl rfl ?_
  simp (maxSteps := 2000000) (disch := omega) only [go_sem, Nat.reduceSub, Nat.reduceAdd, Nat.reduceLT, Nat.reduceEqDiff, Nat.reduceBEq, Conf.av]
  refine Br.sp (fun h1 e1 => ?_) (fun h1 e1 => ?_)
  · obtain ⟨L3, L4, L5⟩ := L2 h1
    subst L3
    simp (maxSteps := 2000000) (disch := omega) only [go_sem, Nat.reduceSub, Nat.reduceAdd, Nat.reduceLT, Nat.reduceEqDiff, Nat.reduceBEq, e1]
    refine call_imm rD rfl rfl ?_
    simp (maxSteps := 2000000) (disch := omega) only [go_sem, Nat.reduceSub, Nat.reduceAdd, Nat.reduceLT, Nat.reduceEqDiff, Nat.reduceBEq, Conf.av]
    refine call_imm (sameConf_ret _ ac dc oA oD) rfl rfl ?_
    simp (maxSteps := 2000000) (disch := omega) only [go_sem, Nat.reduceSub, Nat.reduceAdd, Nat.reduceLT, Nat.reduceEqDiff, Nat.reduceBEq, L4]
    refine Br.sp (fun h2 e2 => ?_) (fun h2 e2 => ?_)
    · have L6 := L5 h2
      simp (maxSteps := 2000000) (disch := omega) only [go_sem, Nat.reduceSub, Nat.reduceAdd, Nat.reduceLT, Nat.reduceEqDiff, Nat.reduceBEq, e2]
      refine Br.sp (fun h3 e3 => ?_) (fun h3 e3 => ?_)
      · simp (maxSteps := 2000000) (disch := omega) only [go_sem, Nat.reduceSub, Nat.reduceAdd, Nat.reduceLT, Nat.reduceEqDiff, Nat.reduceBEq, e3]
        refine call_imm (awake_ret _) rfl rfl ?_
        simp (maxSteps := 2000000) (disch := omega) only [go_sem, Nat.reduceSub, Nat.reduceAdd, Nat.reduceLT, Nat.reduceEqDiff, Nat.reduceBEq, e3]
        refine hQ2 _ _ (Fin.imm1 rfl (i := 8) ?_)
        simp (maxSteps := 2000000) (disch := omega) only [go_sem, Nat.reduceSub, Nat.reduceAdd, Nat.reduceLT, Nat.reduceEqDiff, Nat.reduceBEq]
      · exact absurd L6 h3
    · simp (maxSteps := 2000000) (disch := omega) only [go_sem, Nat.reduceSub, Nat.reduceAdd, Nat.reduceLT, Nat.reduceEqDiff, Nat.reduceBEq, e2]
      refine call_imm (awake_ret _) rfl rfl ?_
      simp (maxSteps := 2000000) (disch := omega) only [go_sem, Nat.reduceSub, Nat.reduceAdd, Nat.reduceLT, Nat.reduceEqDiff, Nat.reduceBEq]
      refine hQ2 _ _ (Fin.imm1 rfl (i := 8) ?_)
      simp (maxSteps := 2000000) (disch := omega) only [go_sem, Nat.reduceSub, Nat.reduceAdd, Nat.reduceLT, Nat.reduceEqDiff, Nat.reduceBEq]
  · have L3 := L1 h1
    subst L3
    simp (maxSteps := 2000000) (disch := omega) only [go_sem, Nat.reduceSub, Nat.reduceAdd, Nat.reduceLT, Nat.reduceEqDiff, Nat.reduceBEq, e1]
    refine call_imm (awake_ret _) rfl rfl ?_
    simp (maxSteps := 2000000) (disch := omega) only [go_sem, Nat.reduceSub, Nat.reduceAdd, Nat.reduceLT, Nat.reduceEqDiff, Nat.reduceBEq]
    refine hQ2 _ _ (Fin.imm1 rfl (i := 8) ?_)
    simp (maxSteps := 2000000) (disch := omega) only [go_sem, Nat.reduceSub, Nat.reduceAdd, Nat.reduceLT, Nat.reduceEqDiff, Nat.reduceBEq]
end Go.Proofs.Ytbleionbmdpmeaa
