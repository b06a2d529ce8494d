/- TapeRuns comes to true, as soon as the first example does. -/
import Derived.Test.YtbleionbmdpmeaaT49
set_option linter.unusedVariables false
set_option linter.unusedSimpArgs false
namespace Go.Proofs.Ytbleionbmdpmeaa
open Go.Abs

theorem conf0_av : conf0.av = .agg [.imm (.int .i64 0), .imm (.int .i64 0), .imm (.int .i64 0), .imm (.lst .nil 0 [])] := rfl
theorem sameConf_ret' (d : Nat) (a b : Conf) (ha : a.ok) (hb : b.ok) : Ret Try.prog (d + 2) 23 [.agg [.imm (.int .i64 a.st), .imm (.int .i64 a.pos), .imm (.int .i64 a.fr), .imm (intsIV a.cs)], .agg [.imm (.int .i64 b.st), .imm (.int .i64 b.pos), .imm (.int .i64 b.fr), .imm (intsIV b.cs)]] [] (.imm (.bool (sameConf a b))) [] := sameConf_ret d a b ha hb

set_option maxHeartbeats 2000000 in
set_option maxRecDepth 10000 in
theorem tapeRuns_ret (e' : Nat) (haw : Ret Try.prog (e' + 9) 16 [] [] (.imm (.bool true)) []) (m : Mach) (c : Conf) (n : Int) (hm : m.ok) (hc : c.ok) (hn : i64ok n) :
    Ret Try.prog (e' + 10) 3 [m.av, c.av, .imm (.int .i64 n)] [] (.imm (.bool true)) [] := by
  refine Ret.mkE Try.func3 rfl (of_decide_eq_true (by kernel_rfl)) Try.ntmps3 rfl ?_
  intro Q hQ1 hQ2
  refine Eq.mpr (congrFun (congrArg _ rfl) _) (?_ : awpW _ _ _ _ _ (un _))
  simp (maxSteps := 2000000) (disch := omega) only [go_sem, Nat.reduceSub, Nat.reduceAdd, Nat.reduceLT, Nat.reduceEqDiff, Nat.reduceBEq, Mach.av, Conf.av]
  refine call_imm (wide_ret _ m c hm hc) rfl rfl ?_
  cases hw : wide m c with
  | true =>
    simp (maxSteps := 2000000) (disch := omega) only [go_sem, Nat.reduceSub, Nat.reduceAdd, Nat.reduceLT, Nat.reduceEqDiff, Nat.reduceBEq]
    refine call_imm haw rfl rfl ?_
    simp (maxSteps := 2000000) (disch := omega) only [go_sem, Nat.reduceSub, Nat.reduceAdd, Nat.reduceLT, Nat.reduceEqDiff, Nat.reduceBEq]
    refine hQ2 _ _ (Fin.imm1 rfl (i := 6) ?_)
    simp (maxSteps := 2000000) (disch := omega) only [go_sem, Nat.reduceSub, Nat.reduceAdd, Nat.reduceLT, Nat.reduceEqDiff, Nat.reduceBEq]
  | false =>
  simp (maxSteps := 2000000) (disch := omega) only [go_sem, Nat.reduceSub, Nat.reduceAdd, Nat.reduceLT, Nat.reduceEqDiff, Nat.reduceBEq]
  repeat' (refine Br.sp (fun h e => ?_) (fun h e => ?_) <;> simp (maxSteps := 2000000) (disch := omega) only [go_sem, Nat.reduceSub, Nat.reduceAdd, Nat.reduceLT, Nat.reduceEqDiff, Nat.reduceBEq, e])
  · refine call_imm haw rfl rfl ?_
    simp (maxSteps := 2000000) (disch := omega) only [go_sem, Nat.reduceSub, Nat.reduceAdd, Nat.reduceLT, Nat.reduceEqDiff, Nat.reduceBEq]
    refine hQ2 _ _ (Fin.imm1 rfl (i := 6) ?_)
    simp (maxSteps := 2000000) (disch := omega) only [go_sem, Nat.reduceSub, Nat.reduceAdd, Nat.reduceLT, Nat.reduceEqDiff, Nat.reduceBEq]
  all_goals
    refine awp_draw [] (by kernel_rfl) (by kernel_rfl) ?_
    simp (maxSteps := 2000000) (disch := omega) only [go_sem, Nat.reduceSub, Nat.reduceAdd, Nat.reduceLT, Nat.reduceEqDiff, Nat.reduceBEq]
    refine call_imm (valid_ret _ m hm) rfl rfl ?_
    simp (maxSteps := 2000000) (disch := omega) only [go_sem, Nat.reduceSub, Nat.reduceAdd, Nat.reduceLT, Nat.reduceEqDiff, Nat.reduceBEq]
    refine call_imm (rvalid_ret _ m hm) rfl rfl ?_
    simp (maxSteps := 2000000) (disch := omega) only [go_sem, Nat.reduceSub, Nat.reduceAdd, Nat.reduceLT, Nat.reduceEqDiff, Nat.reduceBEq, beq_self_eq_true, Bool.not_true]
    refine call_imm (fits_ret _ m c hm hc) rfl rfl ?_
    simp (maxSteps := 2000000) (disch := omega) only [go_sem, Nat.reduceSub, Nat.reduceAdd, Nat.reduceLT, Nat.reduceEqDiff, Nat.reduceBEq]
    refine call_imm (rfits_ret _ m c hm hc) rfl rfl ?_
    simp (maxSteps := 2000000) (disch := omega) only [go_sem, Nat.reduceSub, Nat.reduceAdd, Nat.reduceLT, Nat.reduceEqDiff, Nat.reduceBEq, beq_self_eq_true, Bool.not_true]
    cases hf : fits m c with
    | false =>
      refine call_imm (step_form_ret _ m c hm hc hf) rfl rfl ?_
      simp (maxSteps := 2000000) (disch := omega) only [go_sem, Nat.reduceSub, Nat.reduceAdd, Nat.reduceLT, Nat.reduceEqDiff, Nat.reduceBEq, conf0_av]
      refine call_imm (run_form_ret _ m c n hm hc hf) rfl rfl ?_
      simp (maxSteps := 2000000) (disch := omega) only [go_sem, Nat.reduceSub, Nat.reduceAdd, Nat.reduceLT, Nat.reduceEqDiff, Nat.reduceBEq, conf0_av]
      refine call_imm (rfits_ret _ m c hm hc) rfl rfl ?_
      simp (maxSteps := 2000000) (disch := omega) only [go_sem, Nat.reduceSub, Nat.reduceAdd, Nat.reduceLT, Nat.reduceEqDiff, Nat.reduceBEq, hf]
      refine call_imm (sameConf_ret _ conf0 conf0 conf0_ok conf0_ok) rfl rfl ?_
      simp (maxSteps := 2000000) (disch := omega) only [go_sem, Nat.reduceSub, Nat.reduceAdd, Nat.reduceLT, Nat.reduceEqDiff, Nat.reduceBEq, same_self]
      refine call_imm (sameConf_ret _ conf0 conf0 conf0_ok conf0_ok) rfl rfl ?_
      simp (maxSteps := 2000000) (disch := omega) only [go_sem, Nat.reduceSub, Nat.reduceAdd, Nat.reduceLT, Nat.reduceEqDiff, Nat.reduceBEq, same_self]
      refine call_imm haw rfl rfl ?_
      simp (maxSteps := 2000000) (disch := omega) only [go_sem, Nat.reduceSub, Nat.reduceAdd, Nat.reduceLT, Nat.reduceEqDiff, Nat.reduceBEq]
      refine hQ2 _ _ (Fin.imm1 rfl (i := 6) ?_)
      simp (maxSteps := 2000000) (disch := omega) only [go_sem, Nat.reduceSub, Nat.reduceAdd, Nat.reduceLT, Nat.reduceEqDiff, Nat.reduceBEq]
    | true =>
      have hv := (fits_within hf).1; have hw2 := (fits_within hf).2
      obtain ⟨r1, s1, S1, o1, i1, j1⟩ : ∃ (r1 : Conf) (s1 : Int), Ret Try.prog (e' + 9) 21 [m.av, c.av] [] (.tup [r1.av, .imm (.int .i64 s1)]) [] ∧ r1.ok ∧ (c.st = -1 → r1 = conf0 ∧ s1 = 5) ∧ (c.st ≠ -1 → s1 = (if (rstepF m c).2 = true then 0 else 4) ∧ sameConf r1 (rstepF m c).1 = true) := by
        by_cases hst : c.st = -1
        · exact ⟨conf0, 5, step_stop_ret (e' + 6) m c hm hc hf hst, conf0_ok, fun _ => ⟨rfl, rfl⟩, fun q => absurd hst q⟩
        · obtain ⟨r, R, o, hsame⟩ := step_key hm hc hf hst (e' + 4)
          exact ⟨r, _, R, o, fun q => absurd q hst, fun _ => ⟨rfl, hsame⟩⟩
      obtain ⟨r2, k2, s2, S2, o2, i2, j2⟩ : ∃ (r2 : Conf) (k2 s2 : Int), Ret Try.prog (e' + 9) 22 [m.av, c.av, .imm (.int .i64 n)] [] (.tup [r2.av, .imm (.int .i64 k2), .imm (.int .i64 s2)]) [] ∧ r2.ok ∧ (n < 0 ∨ 1000000 < n → r2 = conf0 ∧ k2 = 0 ∧ s2 = 2) ∧
          (0 ≤ n → n ≤ 1000000 → ∃ (r' : Conf) (b : Bool), rrunOut (rrunF m n.toNat c) = .tup [r'.av, .imm (.int .i64 k2), .imm (.bool b)] ∧ r'.ok ∧ sameConf r2 r' = true ∧ s2 = if b = true then 0 else 4) := by
        by_cases hn2 : n < 0 ∨ 1000000 < n
        · exact ⟨conf0, 0, 2, run_arg_ret (e' + 6) m c n hm hc hf hn2, conf0_ok, fun _ => ⟨rfl, rfl, rfl⟩, fun q1 q2 => by omega⟩
        · obtain ⟨r, r', k, b, e1, e2, q1, q2, hsame⟩ := run_key hm hc hf (n := n) (by omega) (by omega)
          have R := (run_ok (e' + 5) m c n hm hc hf (by omega) (by omega)).1
          rw [e1] at R
          exact ⟨r, (k : Int), _, R, q1, fun q => absurd q hn2, fun _ _ => ⟨r', b, e2, q2, hsame, rfl⟩⟩
      refine call_imm S1 rfl rfl ?_
      simp (maxSteps := 2000000) (disch := omega) only [go_sem, Nat.reduceSub, Nat.reduceAdd, Nat.reduceLT, Nat.reduceEqDiff, Nat.reduceBEq, Conf.av]
      refine call_imm S2 rfl rfl ?_
      simp (maxSteps := 2000000) (disch := omega) only [go_sem, Nat.reduceSub, Nat.reduceAdd, Nat.reduceLT, Nat.reduceEqDiff, Nat.reduceBEq, Conf.av]
      refine call_imm (rfits_ret _ m c hm hc) rfl rfl ?_
      simp (maxSteps := 2000000) (disch := omega) only [go_sem, Nat.reduceSub, Nat.reduceAdd, Nat.reduceLT, Nat.reduceEqDiff, Nat.reduceBEq, hf]
      refine Br.sp (fun h1 e1 => ?_) (fun h1 e1 => ?_)
      · obtain ⟨u1, u2⟩ := i1 h1
        subst u1 u2
        simp (maxSteps := 2000000) (disch := omega) only [go_sem, Nat.reduceSub, Nat.reduceAdd, Nat.reduceLT, Nat.reduceEqDiff, Nat.reduceBEq, e1]
        refine call_imm (sameConf_ret _ conf0 conf0 conf0_ok conf0_ok) rfl rfl ?_
        simp (maxSteps := 2000000) (disch := omega) only [go_sem, Nat.reduceSub, Nat.reduceAdd, Nat.reduceLT, Nat.reduceEqDiff, Nat.reduceBEq, same_self]
        refine Br.sp (fun h2 e2 => ?_) (fun h2 e2 => ?_)
        · obtain ⟨u3, u4, u5⟩ := i2 (by omega)
          subst u3 u4 u5
          simp (maxSteps := 2000000) (disch := omega) only [go_sem, Nat.reduceSub, Nat.reduceAdd, Nat.reduceLT, Nat.reduceEqDiff, Nat.reduceBEq, e2]
          refine call_imm (sameConf_ret _ conf0 conf0 conf0_ok conf0_ok) rfl rfl ?_
          simp (maxSteps := 2000000) (disch := omega) only [go_sem, Nat.reduceSub, Nat.reduceAdd, Nat.reduceLT, Nat.reduceEqDiff, Nat.reduceBEq, same_self]
          refine call_imm haw rfl rfl ?_
          simp (maxSteps := 2000000) (disch := omega) only [go_sem, Nat.reduceSub, Nat.reduceAdd, Nat.reduceLT, Nat.reduceEqDiff, Nat.reduceBEq]
          refine hQ2 _ _ (Fin.imm1 rfl (i := 6) ?_)
          simp (maxSteps := 2000000) (disch := omega) only [go_sem, Nat.reduceSub, Nat.reduceAdd, Nat.reduceLT, Nat.reduceEqDiff, Nat.reduceBEq]
        simp (maxSteps := 2000000) (disch := omega) only [go_sem, Nat.reduceSub, Nat.reduceAdd, Nat.reduceLT, Nat.reduceEqDiff, Nat.reduceBEq, e2]
        refine Br.sp (fun h3 e3 => ?_) (fun h3 e3 => ?_)
        · obtain ⟨u3, u4, u5⟩ := i2 (by omega)
          subst u3 u4 u5
          simp (maxSteps := 2000000) (disch := omega) only [go_sem, Nat.reduceSub, Nat.reduceAdd, Nat.reduceLT, Nat.reduceEqDiff, Nat.reduceBEq, e3]
          refine call_imm (sameConf_ret _ conf0 conf0 conf0_ok conf0_ok) rfl rfl ?_
          simp (maxSteps := 2000000) (disch := omega) only [go_sem, Nat.reduceSub, Nat.reduceAdd, Nat.reduceLT, Nat.reduceEqDiff, Nat.reduceBEq, same_self]
          refine call_imm haw rfl rfl ?_
          simp (maxSteps := 2000000) (disch := omega) only [go_sem, Nat.reduceSub, Nat.reduceAdd, Nat.reduceLT, Nat.reduceEqDiff, Nat.reduceBEq]
          refine hQ2 _ _ (Fin.imm1 rfl (i := 6) ?_)
          simp (maxSteps := 2000000) (disch := omega) only [go_sem, Nat.reduceSub, Nat.reduceAdd, Nat.reduceLT, Nat.reduceEqDiff, Nat.reduceBEq]
        simp (maxSteps := 2000000) (disch := omega) only [go_sem, Nat.reduceSub, Nat.reduceAdd, Nat.reduceLT, Nat.reduceEqDiff, Nat.reduceBEq, e3]
        obtain ⟨r', b, g1, g2, g3, g4⟩ := j2 (by omega) (by omega)
        subst g4
        have RR := rrun_ret (e' + 4) m c n hm hc hf (by omega) (by omega)
        rw [g1] at RR
        refine call_imm RR rfl rfl ?_
        simp (maxSteps := 2000000) (disch := omega) only [go_sem, Nat.reduceSub, Nat.reduceAdd, Nat.reduceLT, Nat.reduceEqDiff, Nat.reduceBEq, Conf.av]
        refine call_imm (errno_ret _ _) rfl rfl ?_
        cases b with
        | false =>
          simp (maxSteps := 2000000) (disch := omega) only [go_sem, Nat.reduceSub, Nat.reduceAdd, Nat.reduceLT, Nat.reduceEqDiff, Nat.reduceBEq, Bool.false_eq_true, if_false]
          refine call_imm (sameConf_ret _ r2 r' o2 g2) rfl rfl ?_
          simp (maxSteps := 2000000) (disch := omega) only [go_sem, Nat.reduceSub, Nat.reduceAdd, Nat.reduceLT, Nat.reduceEqDiff, Nat.reduceBEq, g3]
          refine call_imm haw rfl rfl ?_
          simp (maxSteps := 2000000) (disch := omega) only [go_sem, Nat.reduceSub, Nat.reduceAdd, Nat.reduceLT, Nat.reduceEqDiff, Nat.reduceBEq]
          refine hQ2 _ _ (Fin.imm1 rfl (i := 6) ?_)
          simp (maxSteps := 2000000) (disch := omega) only [go_sem, Nat.reduceSub, Nat.reduceAdd, Nat.reduceLT, Nat.reduceEqDiff, Nat.reduceBEq]
        | true =>
          simp (maxSteps := 2000000) (disch := omega) only [go_sem, Nat.reduceSub, Nat.reduceAdd, Nat.reduceLT, Nat.reduceEqDiff, Nat.reduceBEq, if_true]
          refine call_imm (sameConf_ret _ r2 r' o2 g2) rfl rfl ?_
          simp (maxSteps := 2000000) (disch := omega) only [go_sem, Nat.reduceSub, Nat.reduceAdd, Nat.reduceLT, Nat.reduceEqDiff, Nat.reduceBEq, g3]
          refine call_imm haw rfl rfl ?_
          simp (maxSteps := 2000000) (disch := omega) only [go_sem, Nat.reduceSub, Nat.reduceAdd, Nat.reduceLT, Nat.reduceEqDiff, Nat.reduceBEq]
          refine hQ2 _ _ (Fin.imm1 rfl (i := 6) ?_)
          simp (maxSteps := 2000000) (disch := omega) only [go_sem, Nat.reduceSub, Nat.reduceAdd, Nat.reduceLT, Nat.reduceEqDiff, Nat.reduceBEq]
      · obtain ⟨u1, u2⟩ := j1 h1
        have hst0 : 0 ≤ c.st := by have := hw2.st0; omega
        have hrd := read_range hv hw2 c.pos
        have hro := rstepF_ok hv hc hw2 hst0
        have RS := rstep_ret (e' + 5) m c hm hc hv hw2 hst0 hrd.1 hrd.2
        subst u1
        generalize hP : rstepF m c = P at *
        obtain ⟨rc, b⟩ := P
        simp only at hro RS u2
        cases b with
        | false =>
          simp (maxSteps := 2000000) (disch := omega) only [go_sem, Nat.reduceSub, Nat.reduceAdd, Nat.reduceLT, Nat.reduceEqDiff, Nat.reduceBEq, e1, Bool.false_eq_true, if_false]
          refine call_imm RS rfl rfl ?_
          simp (maxSteps := 2000000) (disch := omega) only [go_sem, Nat.reduceSub, Nat.reduceAdd, Nat.reduceLT, Nat.reduceEqDiff, Nat.reduceBEq, Conf.av]
          refine call_imm (errno_ret _ _) rfl rfl ?_
          simp (maxSteps := 2000000) (disch := omega) only [go_sem, Nat.reduceSub, Nat.reduceAdd, Nat.reduceLT, Nat.reduceEqDiff, Nat.reduceBEq, Bool.false_eq_true, if_false]
          refine call_imm (sameConf_ret _ r1 rc o1 hro) rfl rfl ?_
          simp (maxSteps := 2000000) (disch := omega) only [go_sem, Nat.reduceSub, Nat.reduceAdd, Nat.reduceLT, Nat.reduceEqDiff, Nat.reduceBEq, u2]
          refine Br.sp (fun h2 e2 => ?_) (fun h2 e2 => ?_)
          · obtain ⟨u3, u4, u5⟩ := i2 (by omega)
            subst u3 u4 u5
            simp (maxSteps := 2000000) (disch := omega) only [go_sem, Nat.reduceSub, Nat.reduceAdd, Nat.reduceLT, Nat.reduceEqDiff, Nat.reduceBEq, e2]
            refine call_imm (sameConf_ret _ conf0 conf0 conf0_ok conf0_ok) rfl rfl ?_
            simp (maxSteps := 2000000) (disch := omega) only [go_sem, Nat.reduceSub, Nat.reduceAdd, Nat.reduceLT, Nat.reduceEqDiff, Nat.reduceBEq, same_self]
            refine call_imm haw rfl rfl ?_
            simp (maxSteps := 2000000) (disch := omega) only [go_sem, Nat.reduceSub, Nat.reduceAdd, Nat.reduceLT, Nat.reduceEqDiff, Nat.reduceBEq]
            refine hQ2 _ _ (Fin.imm1 rfl (i := 6) ?_)
            simp (maxSteps := 2000000) (disch := omega) only [go_sem, Nat.reduceSub, Nat.reduceAdd, Nat.reduceLT, Nat.reduceEqDiff, Nat.reduceBEq]
          simp (maxSteps := 2000000) (disch := omega) only [go_sem, Nat.reduceSub, Nat.reduceAdd, Nat.reduceLT, Nat.reduceEqDiff, Nat.reduceBEq, e2]
          refine Br.sp (fun h3 e3 => ?_) (fun h3 e3 => ?_)
          · obtain ⟨u3, u4, u5⟩ := i2 (by omega)
            subst u3 u4 u5
            simp (maxSteps := 2000000) (disch := omega) only [go_sem, Nat.reduceSub, Nat.reduceAdd, Nat.reduceLT, Nat.reduceEqDiff, Nat.reduceBEq, e3]
            refine call_imm (sameConf_ret _ conf0 conf0 conf0_ok conf0_ok) rfl rfl ?_
            simp (maxSteps := 2000000) (disch := omega) only [go_sem, Nat.reduceSub, Nat.reduceAdd, Nat.reduceLT, Nat.reduceEqDiff, Nat.reduceBEq, same_self]
            refine call_imm haw rfl rfl ?_
            simp (maxSteps := 2000000) (disch := omega) only [go_sem, Nat.reduceSub, Nat.reduceAdd, Nat.reduceLT, Nat.reduceEqDiff, Nat.reduceBEq]
            refine hQ2 _ _ (Fin.imm1 rfl (i := 6) ?_)
            simp (maxSteps := 2000000) (disch := omega) only [go_sem, Nat.reduceSub, Nat.reduceAdd, Nat.reduceLT, Nat.reduceEqDiff, Nat.reduceBEq]
          simp (maxSteps := 2000000) (disch := omega) only [go_sem, Nat.reduceSub, Nat.reduceAdd, Nat.reduceLT, Nat.reduceEqDiff, Nat.reduceBEq, e3]
          obtain ⟨r', b, g1, g2, g3, g4⟩ := j2 (by omega) (by omega)
          subst g4
          have RR := rrun_ret (e' + 4) m c n hm hc hf (by omega) (by omega)
          rw [g1] at RR
          refine call_imm RR rfl rfl ?_
          simp (maxSteps := 2000000) (disch := omega) only [go_sem, Nat.reduceSub, Nat.reduceAdd, Nat.reduceLT, Nat.reduceEqDiff, Nat.reduceBEq, Conf.av]
          refine call_imm (errno_ret _ _) rfl rfl ?_
          cases b with
          | false =>
            simp (maxSteps := 2000000) (disch := omega) only [go_sem, Nat.reduceSub, Nat.reduceAdd, Nat.reduceLT, Nat.reduceEqDiff, Nat.reduceBEq, Bool.false_eq_true, if_false]
            refine call_imm (sameConf_ret _ r2 r' o2 g2) rfl rfl ?_
            simp (maxSteps := 2000000) (disch := omega) only [go_sem, Nat.reduceSub, Nat.reduceAdd, Nat.reduceLT, Nat.reduceEqDiff, Nat.reduceBEq, g3]
            refine call_imm haw rfl rfl ?_
            simp (maxSteps := 2000000) (disch := omega) only [go_sem, Nat.reduceSub, Nat.reduceAdd, Nat.reduceLT, Nat.reduceEqDiff, Nat.reduceBEq]
            refine hQ2 _ _ (Fin.imm1 rfl (i := 6) ?_)
            simp (maxSteps := 2000000) (disch := omega) only [go_sem, Nat.reduceSub, Nat.reduceAdd, Nat.reduceLT, Nat.reduceEqDiff, Nat.reduceBEq]
          | true =>
            simp (maxSteps := 2000000) (disch := omega) only [go_sem, Nat.reduceSub, Nat.reduceAdd, Nat.reduceLT, Nat.reduceEqDiff, Nat.reduceBEq, if_true]
            refine call_imm (sameConf_ret _ r2 r' o2 g2) rfl rfl ?_
            simp (maxSteps := 2000000) (disch := omega) only [go_sem, Nat.reduceSub, Nat.reduceAdd, Nat.reduceLT, Nat.reduceEqDiff, Nat.reduceBEq, g3]
            refine call_imm haw rfl rfl ?_
            simp (maxSteps := 2000000) (disch := omega) only [go_sem, Nat.reduceSub, Nat.reduceAdd, Nat.reduceLT, Nat.reduceEqDiff, Nat.reduceBEq]
            refine hQ2 _ _ (Fin.imm1 rfl (i := 6) ?_)
            simp (maxSteps := 2000000) (disch := omega) only [go_sem, Nat.reduceSub, Nat.reduceAdd, Nat.reduceLT, Nat.reduceEqDiff, Nat.reduceBEq]
        | true =>
          simp (maxSteps := 2000000) (disch := omega) only [go_sem, Nat.reduceSub, Nat.reduceAdd, Nat.reduceLT, Nat.reduceEqDiff, Nat.reduceBEq, e1, if_true]
          refine call_imm RS rfl rfl ?_
          simp (maxSteps := 2000000) (disch := omega) only [go_sem, Nat.reduceSub, Nat.reduceAdd, Nat.reduceLT, Nat.reduceEqDiff, Nat.reduceBEq, Conf.av]
          refine call_imm (errno_ret _ _) rfl rfl ?_
          simp (maxSteps := 2000000) (disch := omega) only [go_sem, Nat.reduceSub, Nat.reduceAdd, Nat.reduceLT, Nat.reduceEqDiff, Nat.reduceBEq, if_true]
          refine call_imm (sameConf_ret _ r1 rc o1 hro) rfl rfl ?_
          simp (maxSteps := 2000000) (disch := omega) only [go_sem, Nat.reduceSub, Nat.reduceAdd, Nat.reduceLT, Nat.reduceEqDiff, Nat.reduceBEq, u2]
          refine Br.sp (fun h2 e2 => ?_) (fun h2 e2 => ?_)
          · obtain ⟨u3, u4, u5⟩ := i2 (by omega)
            subst u3 u4 u5
            simp (maxSteps := 2000000) (disch := omega) only [go_sem, Nat.reduceSub, Nat.reduceAdd, Nat.reduceLT, Nat.reduceEqDiff, Nat.reduceBEq, e2]
            refine call_imm (sameConf_ret _ conf0 conf0 conf0_ok conf0_ok) rfl rfl ?_
            simp (maxSteps := 2000000) (disch := omega) only [go_sem, Nat.reduceSub, Nat.reduceAdd, Nat.reduceLT, Nat.reduceEqDiff, Nat.reduceBEq, same_self]
            refine call_imm haw rfl rfl ?_
            simp (maxSteps := 2000000) (disch := omega) only [go_sem, Nat.reduceSub, Nat.reduceAdd, Nat.reduceLT, Nat.reduceEqDiff, Nat.reduceBEq]
            refine hQ2 _ _ (Fin.imm1 rfl (i := 6) ?_)
            simp (maxSteps := 2000000) (disch := omega) only [go_sem, Nat.reduceSub, Nat.reduceAdd, Nat.reduceLT, Nat.reduceEqDiff, Nat.reduceBEq]
          simp (maxSteps := 2000000) (disch := omega) only [go_sem, Nat.reduceSub, Nat.reduceAdd, Nat.reduceLT, Nat.reduceEqDiff, Nat.reduceBEq, e2]
          refine Br.sp (fun h3 e3 => ?_) (fun h3 e3 => ?_)
          · obtain ⟨u3, u4, u5⟩ := i2 (by omega)
            subst u3 u4 u5
            simp (maxSteps := 2000000) (disch := omega) only [go_sem, Nat.reduceSub, Nat.reduceAdd, Nat.reduceLT, Nat.reduceEqDiff, Nat.reduceBEq, e3]
            refine call_imm (sameConf_ret _ conf0 conf0 conf0_ok conf0_ok) rfl rfl ?_
            simp (maxSteps := 2000000) (disch := omega) only [go_sem, Nat.reduceSub, Nat.reduceAdd, Nat.reduceLT, Nat.reduceEqDiff, Nat.reduceBEq, same_self]
            refine call_imm haw rfl rfl ?_
            simp (maxSteps := 2000000) (disch := omega) only [go_sem, Nat.reduceSub, Nat.reduceAdd, Nat.reduceLT, Nat.reduceEqDiff, Nat.reduceBEq]
            refine hQ2 _ _ (Fin.imm1 rfl (i := 6) ?_)
            simp (maxSteps := 2000000) (disch := omega) only [go_sem, Nat.reduceSub, Nat.reduceAdd, Nat.reduceLT, Nat.reduceEqDiff, Nat.reduceBEq]
          simp (maxSteps := 2000000) (disch := omega) only [go_sem, Nat.reduceSub, Nat.reduceAdd, Nat.reduceLT, Nat.reduceEqDiff, Nat.reduceBEq, e3]
          obtain ⟨r', b, g1, g2, g3, g4⟩ := j2 (by omega) (by omega)
          subst g4
          have RR := rrun_ret (e' + 4) m c n hm hc hf (by omega) (by omega)
          rw [g1] at RR
          refine call_imm RR rfl rfl ?_
          simp (maxSteps := 2000000) (disch := omega) only [go_sem, Nat.reduceSub, Nat.reduceAdd, Nat.reduceLT, Nat.reduceEqDiff, Nat.reduceBEq, Conf.av]
          refine call_imm (errno_ret _ _) rfl rfl ?_
          cases b with
          | false =>
            simp (maxSteps := 2000000) (disch := omega) only [go_sem, Nat.reduceSub, Nat.reduceAdd, Nat.reduceLT, Nat.reduceEqDiff, Nat.reduceBEq, Bool.false_eq_true, if_false]
            refine call_imm (sameConf_ret _ r2 r' o2 g2) rfl rfl ?_
            simp (maxSteps := 2000000) (disch := omega) only [go_sem, Nat.reduceSub, Nat.reduceAdd, Nat.reduceLT, Nat.reduceEqDiff, Nat.reduceBEq, g3]
            refine call_imm haw rfl rfl ?_
            simp (maxSteps := 2000000) (disch := omega) only [go_sem, Nat.reduceSub, Nat.reduceAdd, Nat.reduceLT, Nat.reduceEqDiff, Nat.reduceBEq]
            refine hQ2 _ _ (Fin.imm1 rfl (i := 6) ?_)
            simp (maxSteps := 2000000) (disch := omega) only [go_sem, Nat.reduceSub, Nat.reduceAdd, Nat.reduceLT, Nat.reduceEqDiff, Nat.reduceBEq]
          | true =>
            simp (maxSteps := 2000000) (disch := omega) only [go_sem, Nat.reduceSub, Nat.reduceAdd, Nat.reduceLT, Nat.reduceEqDiff, Nat.reduceBEq, if_true]
            refine call_imm (sameConf_ret _ r2 r' o2 g2) rfl rfl ?_
            simp (maxSteps := 2000000) (disch := omega) only [go_sem, Nat.reduceSub, Nat.reduceAdd, Nat.reduceLT, Nat.reduceEqDiff, Nat.reduceBEq, g3]
            refine call_imm haw rfl rfl ?_
            simp (maxSteps := 2000000) (disch := omega) only [go_sem, Nat.reduceSub, Nat.reduceAdd, Nat.reduceLT, Nat.reduceEqDiff, Nat.reduceBEq]
            refine hQ2 _ _ (Fin.imm1 rfl (i := 6) ?_)
            simp (maxSteps := 2000000) (disch := omega) only [go_sem, Nat.reduceSub, Nat.reduceAdd, Nat.reduceLT, Nat.reduceEqDiff, Nat.reduceBEq]
end Go.Proofs.Ytbleionbmdpmeaa
