/- Read of the specification. -/
import Derived.Test.YtbleionbmdpmeaaT8
set_option linter.unusedVariables false
set_option linter.unusedSimpArgs false
namespace Go.Proofs.Ytbleionbmdpmeaa
open Go.Abs

theorem u64_wrap (n : Int) : IntKind.u64.wrap n = n % 18446744073709551616 := by
  have e1 : (2 : Int) ^ 64 = 18446744073709551616 := by decide
  simp [IntKind.wrap, IntKind.signed, IntKind.bits, e1]
@[go_sem] theorem u64_sub {a b : Int} : IntKind.u64.wrap (IntKind.u64.wrap a - IntKind.u64.wrap b) = IntKind.u64.wrap (a - b) := by
  simp only [u64_wrap]; omega
@[go_sem] theorem wrap_u64 {n : Int} (h : 0 ≤ n) (h' : n ≤ 18446744073709551615) : IntKind.u64.wrap n = n := by
  rw [u64_wrap]; omega
@[go_sem] theorem cv3_147 {k : IntKind} {n : Int} {L : List Slot} : convA Try.prog 3 147 (.imm (.int k n)) L = some (True, .imm (.int .u64 (IntKind.u64.wrap n))) := by
  simp [convA, ti3, ti147]

/-- the symbol at a position -/
def Conf.read (c : Conf) (pos : Int) : Int := if c.fr ≤ pos ∧ pos - c.fr < c.cs.l.length then c.at (pos - c.fr) else 0

set_option maxHeartbeats 4000000 in
set_option maxRecDepth 10000 in
theorem read_ret (d : Nat) (c : Conf) (pos : Int) (hc : c.ok) (hp : i64ok pos) : Ret Try.prog (d + 1) 71 [c.av, .imm (.int .i64 pos)] [] (.imm (.int .i64 (c.read pos))) [] := by
  have h1 := hc.len
  have h2 := hc.fr
  unfold lenok at h1
  unfold i64ok at h2 hp
  obtain ⟨h2, h3⟩ := h2
  obtain ⟨hp1, hp2⟩ := hp
  refine Ret.mk Try.func71 rfl (of_decide_eq_true (by kernel_rfl)) (by rw [Try.ntmps71]; exact Nat.le_of_ble_eq_true rfl) ?_
  intro Q hQ1 hQ2
  rw [Try.ntmps71]
  refine Eq.mpr (congrFun (congrArg _ rfl) _) (?_ : awpW _ _ _ _ _ (un _))
  simp (disch := omega) only [go_sem, Conf.av, Nat.reduceSub, Nat.reduceAdd, Nat.reduceLT]
  repeat' (refine Br.sp (fun h e => ?_) (fun h e => ?_) <;> simp (disch := omega) only [go_sem, Nat.reduceSub, Nat.reduceAdd, Nat.reduceLT, e])
  all_goals
    refine hQ2 _ _ (Fin.imm1 rfl (i := 4) ?_); simp only [go_sem, Conf.read]
    first
      | (rw [if_neg (by omega)]; done)
      | (rw [if_pos (by omega)]; done)
end Go.Proofs.Ytbleionbmdpmeaa
