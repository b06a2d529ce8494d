/- The first example. -/
import Derived.Test.YtbleionbmdpmeaaT42
import Derived.Test.YtbleionbmdpmeaaT49
set_option linter.unusedVariables false
set_option linter.unusedSimpArgs false
namespace Go.Proofs.Ytbleionbmdpmeaa
open Go.Abs

def s2 : List UInt8 := [49, 82, 66, 49, 76, 66, 95, 49, 76, 65, 49, 82, 90]
def m2 : Mach := ⟨2, 2, ⟨.full, [⟨.full, [⟨1, 1, 1⟩, ⟨1, -1, 1⟩]⟩, ⟨.full, [⟨1, -1, 0⟩, ⟨1, 1, -1⟩]⟩]⟩⟩
theorem parse_s2 : parseM s2 = m2 := by rfl
theorem text_m2 : strOf (textI m2) = s2 := by rfl
theorem m2_valid : m2.Valid := by
  refine ⟨by decide, by decide, by decide, by decide, by decide, fun i h0 h1 => ?_⟩
  have hi : i = 0 ∨ i = 1 := by have : i < 2 := h1; omega
  rcases hi with rfl | rfl
  all_goals
    refine ⟨rfl, fun x g0 g1 => ?_⟩
    have hx : x = 0 ∨ x = 1 := by have : x < 2 := g1; omega
    rcases hx with rfl | rfl <;> (unfold ruleOk; decide)
theorem parseF_s2 : parseF s2 = (m2, 0) := by
  unfold parseF; rw [parse_s2, if_pos ⟨by decide, m2_valid, text_m2⟩]
theorem m2_ok : m2.ok := by rw [← parse_s2]; exact parseM_ok s2
theorem conf0_within : conf0.Within m2.ns m2.ny := by
  refine ⟨by decide, by decide, by decide, by decide, by decide, by decide, by decide, fun _ => rfl, fun h => ?_, fun h => ?_, fun i h0 h1 => ?_⟩
  · simp [conf0] at h
  · simp [conf0] at h
  · have : i < 0 := h1
    omega
theorem fits0 : fits m2 conf0 = true := by
  unfold fits valid within; simp [m2_valid, conf0_within]
theorem run_m2 : runF m2 100 (startW conf0) = some (⟨-1, 0, -2, 1, 8, [0, 0, 0, 0, 0, 0, 1, 1, 1, 1, 0, 0, 0, 0, 0, 0]⟩, 6) := by rfl

def c6 : Conf := ⟨-1, 0, -2, ⟨.full, [1, 1, 1, 1]⟩⟩
def c1 : Conf := ⟨1, 1, 0, ⟨.full, [1]⟩⟩
theorem run_m2' : runOut (runF m2 (100 : Int).toNat (startW conf0)) = .tup [c6.av, .imm (.int .i64 6), .imm (.int .i64 0)] := by
  rw [show (100 : Int).toNat = 100 from rfl, run_m2]; rfl
theorem run_m1 : runOut (runF m2 1 (startW conf0)) = .tup [c1.av, .imm (.int .i64 1), .imm (.int .i64 0)] := by rfl
theorem m2_av : m2.av = .agg [.imm (.int .i64 2), .imm (.int .i64 2), .imm (rowsIV m2.rs)] := rfl
theorem c6_av : c6.av = .agg [.imm (.int .i64 (-1)), .imm (.int .i64 0), .imm (.int .i64 (-2)), .imm (intsIV c6.cs)] := rfl
theorem c1_av : c1.av = .agg [.imm (.int .i64 1), .imm (.int .i64 1), .imm (.int .i64 0), .imm (intsIV c1.cs)] := rfl
theorem c6_ones : (c6.ones : Int) = 4 := rfl
theorem one_view : viewC 1 [.imm (.int .i64 1)] 0 1 = some (.imm (intsIV c1.cs)) := rfl
theorem c6_ok : c6.ok := ⟨by simp [c6, i64ok], by simp [c6, i64ok], by simp [c6, i64ok], by simp [c6, lenok], by intro n hn; simp [c6] at hn; subst hn; simp [i64ok]⟩
theorem c1_ok : c1.ok := ⟨by simp [c1, i64ok], by simp [c1, i64ok], by simp [c1, i64ok], by simp [c1, lenok], by intro n hn; simp [c1] at hn; subst hn; simp [i64ok]⟩

set_option maxHeartbeats 2000000 in
set_option maxRecDepth 10000 in
theorem awake_ret (d : Nat) : Ret Try.prog (d + 6) 16 [] [] (.imm (.bool true)) [] := by
  refine Ret.mkE Try.func16 rfl (of_decide_eq_true (by kernel_rfl)) Try.ntmps16 rfl ?_
  intro Q hQ1 hQ2
  refine Eq.mpr (congrFun (congrArg _ rfl) _) (?_ : awpW _ _ _ _ _ (un _))
  simp (maxSteps := 2000000) (disch := omega) only [go_sem, Nat.reduceSub, Nat.reduceAdd, Nat.reduceLT, Nat.reduceEqDiff, Nat.reduceBEq]
  have P := parse_ret (d + 2) s2 (by unfold lenok; decide)
  rw [parseF_s2] at P
  refine call_imm P rfl rfl ?_
  simp (maxSteps := 2000000) (disch := omega) only [go_sem, Nat.reduceSub, Nat.reduceAdd, Nat.reduceLT, Nat.reduceEqDiff, Nat.reduceBEq, m2_av]
  have R := (run_ok (d + 1) m2 conf0 100 m2_ok conf0_ok fits0 (by omega) (by omega)).1
  rw [run_m2'] at R
  refine call_imm R rfl rfl ?_
  simp (maxSteps := 2000000) (disch := omega) only [go_sem, Nat.reduceSub, Nat.reduceAdd, Nat.reduceLT, Nat.reduceEqDiff, Nat.reduceBEq, c6_av]
  have X := text_ret (d + 3) m2 m2_ok m2_valid
  rw [text_m2] at X
  refine call_imm X rfl rfl ?_
  simp (maxSteps := 2000000) (disch := omega) only [go_sem, Nat.reduceSub, Nat.reduceAdd, Nat.reduceLT, Nat.reduceEqDiff, Nat.reduceBEq]
  have T := tstep_ret d m2 conf0 m2_ok conf0_ok fits0 (by decide) c1 1 0 run_m1
  refine call_imm T rfl rfl ?_
  simp (maxSteps := 2000000) (disch := omega) only [go_sem, Nat.reduceSub, Nat.reduceAdd, Nat.reduceLT, Nat.reduceEqDiff, Nat.reduceBEq, c1_av]
  refine call_imm (ones_ret _ c6 c6_ok) rfl rfl ?_
  simp (maxSteps := 2000000) (disch := omega) only [go_sem, Nat.reduceSub, Nat.reduceAdd, Nat.reduceLT, Nat.reduceEqDiff, Nat.reduceBEq, c6_ones]
  refine Br.sp (fun h1 e1 => ?_) (fun h1 e1 => ?_)
  · simp (maxSteps := 2000000) (disch := omega) only [go_sem, Nat.reduceSub, Nat.reduceAdd, Nat.reduceLT, Nat.reduceEqDiff, Nat.reduceBEq, e1, List.replicate_succ, List.replicate_zero, List.flatten_cons, List.flatten_nil]
    refine call_soft (as1 := [c1.av, c1.av]) [] (sameConf_ret (d + 3) c1 c1 c1_ok c1_ok) (by decide) (by intro p hp; cases hp) ?_ rfl rfl (by simp) rfl rfl rfl rfl ?_
    · simp (maxSteps := 2000000) (disch := omega) only [go_sem, Nat.reduceSub, Nat.reduceAdd, Nat.reduceLT, Nat.reduceEqDiff, Nat.reduceBEq, Bool.false_eq_true, c1_av, one_view]
    simp (maxSteps := 2000000) (disch := omega) only [go_sem, Nat.reduceSub, Nat.reduceAdd, Nat.reduceLT, Nat.reduceEqDiff, Nat.reduceBEq, same_self]
    refine hQ2 _ _ (Fin.imm1 rfl (i := 0) ?_)
    simp (maxSteps := 2000000) (disch := omega) only [go_sem, Nat.reduceSub, Nat.reduceAdd, Nat.reduceLT, Nat.reduceEqDiff, Nat.reduceBEq]
  · exact absurd (show s2 = _ from rfl) h1

end Go.Proofs.Ytbleionbmdpmeaa
