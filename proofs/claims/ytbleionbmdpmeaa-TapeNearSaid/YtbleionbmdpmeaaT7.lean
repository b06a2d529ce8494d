/- SameConfig, Within, Fits twice. -/
import Derived.Test.YtbleionbmdpmeaaT6
set_option linter.unusedVariables false
set_option linter.unusedSimpArgs false
namespace Go.Proofs.Ytbleionbmdpmeaa
open Go.Abs

def sameConf (a b : Conf) : Bool := decide (a.st = b.st ∧ a.pos = b.pos ∧ a.fr = b.fr ∧ a.cs.l = b.cs.l)

set_option maxHeartbeats 4000000 in
set_option maxRecDepth 10000 in
theorem sameConf_ret (d : Nat) (a b : Conf) (ha : a.ok) (hb : b.ok) : Ret Try.prog (d + 2) 23 [a.av, b.av] [] (.imm (.bool (sameConf a b))) [] := by
  have h1 := ha.len
  have h2 := hb.len
  unfold lenok at h1 h2
  refine Ret.mk Try.func23 rfl (of_decide_eq_true (by kernel_rfl)) (by rw [Try.ntmps23]; exact Nat.le_of_ble_eq_true rfl) ?_
  intro Q hQ1 hQ2
  rw [Try.ntmps23]
  refine Eq.mpr (congrFun (congrArg _ rfl) _) (?_ : awpW _ _ _ _ _ (un _))
  simp (disch := omega) only [go_sem, Conf.av, Nat.reduceSub, Nat.reduceAdd, Nat.reduceLT]
  repeat' (refine Br.sp (fun h e => ?_) (fun h e => ?_) <;> simp (disch := omega) only [go_sem, Nat.reduceSub, Nat.reduceAdd, Nat.reduceLT, e])
  all_goals try (refine hQ2 _ _ (Fin.imm1 rfl (i := 4) ?_); simp only [go_sem, sameConf]; rw [decide_eq_false (fun hl => by omega)]; done)
  refine call_imm (sameInts_ret _ _ _ h1 h2) rfl rfl ?_
  simp (disch := omega) only [go_sem, Nat.reduceSub, Nat.reduceAdd, Nat.reduceLT]
  refine hQ2 _ _ (Fin.imm1 rfl (i := 4) ?_); simp only [go_sem, sameConf, sameInts, *, true_and]

set_option maxHeartbeats 4000000 in
set_option maxRecDepth 10000 in
theorem rwithin_ret (d : Nat) (ns ny : Int) (c : Conf) (hc : c.ok) : Ret Try.prog (d + 2) 77 [c.av, .imm (.int .i64 ns), .imm (.int .i64 ny)] [] (.imm (.bool (within c ns ny))) [] := by
  have hlen0 := hc.len
  unfold lenok at hlen0
  refine Ret.mk Try.func77 rfl (of_decide_eq_true (by kernel_rfl)) (by rw [Try.ntmps77]; exact Nat.le_of_ble_eq_true rfl) ?_
  intro Q hQ1 hQ2
  rw [Try.ntmps77]
  refine Eq.mpr (congrFun (congrArg _ rfl) _) (?_ : awpW _ _ _ _ _ (un _))
  simp (disch := omega) only [go_sem, Conf.av, Nat.reduceSub, Nat.reduceAdd, Nat.reduceLT]
  repeat' first
    | (refine Br.sp (fun h e => ?_) (fun h e => ?_) <;> simp (disch := omega) only [go_sem, Nat.reduceSub, Nat.reduceAdd, Nat.reduceLT, e])
    | (refine call_imm (place_ret _ _) rfl rfl ?_; simp (disch := omega) only [go_sem, isPlace, Nat.reduceSub, Nat.reduceAdd, Nat.reduceLT])
  all_goals try (exfalso; omega)
  all_goals try (refine hQ2 _ _ (Fin.imm1 rfl (i := 6) ?_); rw [within_false (fun hv => by have := hv.st0; have := hv.st1; have := hv.pos0; have := hv.pos1; have := hv.fr0; have := hv.fr1; have := hv.len; have := hv.nil; have := hv.first; have := hv.last; omega)]; simp only [go_sem]; done)
  all_goals
    refine awp_loopX (fun i : Int => tm 84 0 [(2, .imm (.int .i64 ny)), (3, .ptr 0 0), (7, .imm (.int .i64 c.cs.l.length)), (8, .imm (.int .i64 i))])
      (fun _ => [.obj 0 [.imm (.int .i64 c.st), .imm (.int .i64 c.pos), .imm (.int .i64 c.fr), .imm (intsIV c.cs)]])
      (fun i => 0 ≤ i ∧ i ≤ c.cs.l.length ∧ ∀ j : Int, 0 ≤ j → j < i → 0 ≤ c.at j ∧ c.at j < ny)
      (fun i => c.cs.l.length - i.toNat) [.mask [2, 3, 7, 8]] 0 rfl ⟨by omega, by omega, fun j _ _ => by omega⟩ ?_
    rintro i ⟨hi0, hi1, hcells⟩ Q' hN hE
    simp only [tm_cons, tm_nil, tm_zero, reduceIte, Nat.reduceAdd, Nat.reduceEqDiff]
    simp (disch := omega) only [go_sem, Nat.reduceSub, Nat.reduceAdd, Nat.reduceLT]
    repeat' (refine Br.sp (fun h e => ?_) (fun h e => ?_) <;> simp (disch := omega) only [go_sem, Nat.reduceSub, Nat.reduceAdd, Nat.reduceLT, e])
    all_goals try (refine hE _ _ _ (fun h => by cases h) ?_; refine hQ2 _ _ (Fin.imm1 rfl (i := 6) ?_); rw [within_false (fun hv => by have hc1 := hv.cells i hi0 (by assumption); omega)]; simp only [go_sem]; done)
    all_goals try
      refine hN _ _ ⟨[.mask [2, 3, 7, 8]], i + 1, rfl, ⟨by omega, by omega, fun j h0 h1 => ?_⟩, by omega⟩
      by_cases e : j = i
      · subst e; omega
      · exact hcells j h0 (by omega)
    · refine hE _ _ _ (fun h => by cases h) ?_
      simp (disch := omega) only [go_sem, Nat.reduceSub, Nat.reduceAdd, Nat.reduceLT]
      repeat' (refine Br.sp (fun h e => ?_) (fun h e => ?_) <;> simp (disch := omega) only [go_sem, Nat.reduceSub, Nat.reduceAdd, Nat.reduceLT, e])
      all_goals
        refine hQ2 _ _ (Fin.imm1 rfl (i := 6) ?_)
        by_cases hz : c.at (c.cs.l.length - 1) = 0
        all_goals first
          | (rw [within_false (fun hv => by have := hv.first; have := hv.last; omega)]; simp only [go_sem, hz]; done)
          | (rw [within_true ⟨by omega, by omega, by omega, by omega, by omega, by omega, by omega, by omega, by omega, by omega, fun j g0 g1 => hcells j (by omega) (by omega)⟩]; simp only [go_sem, hz]; done)
end Go.Proofs.Ytbleionbmdpmeaa
