/- Configurations that fit, of the program and of the specification. -/
import Derived.Test.YtbleionbmdpmeaaT4
set_option linter.unusedVariables false
set_option linter.unusedSimpArgs false
namespace Go.Proofs.Ytbleionbmdpmeaa
open Go.Abs

def Conf.at (c : Conf) (i : Int) : Int := c.cs.at 0 i
@[go_sem] theorem at_cell {c : Conf} {i : Int} : c.cs.at 0 i = c.at i := nr rfl
def Conf.len (c : Conf) : Int := c.cs.l.length
structure Conf.Within (c : Conf) (ns ny : Int) : Prop where
  st0 : -1 ≤ c.st
  st1 : c.st < ns
  pos0 : -1099511627776 ≤ c.pos
  pos1 : c.pos ≤ 1099511627776
  fr0 : -1099511627776 ≤ c.fr
  fr1 : c.fr ≤ 1099511627776
  len : (c.cs.l.length : Int) ≤ 100000
  nil : (c.cs.l.length : Int) = 0 → c.fr = 0
  first : 0 < (c.cs.l.length : Int) → c.at 0 ≠ 0
  last : 0 < (c.cs.l.length : Int) → c.at (c.cs.l.length - 1) ≠ 0
  cells : ∀ i : Int, 0 ≤ i → i < c.cs.l.length → 0 ≤ c.at i ∧ c.at i < ny
open Classical in
noncomputable def within (c : Conf) (ns ny : Int) : Bool := decide (c.Within ns ny)
theorem within_true {c : Conf} {ns ny : Int} (h : c.Within ns ny) : within c ns ny = true := by simp [within, h]
theorem within_false {c : Conf} {ns ny : Int} (h : ¬ c.Within ns ny) : within c ns ny = false := by simp [within, h]
noncomputable def fits (m : Mach) (c : Conf) : Bool := valid m && within c m.ns m.ny

set_option maxHeartbeats 4000000 in
set_option maxRecDepth 10000 in
theorem tfits_ret (d : Nat) (ns ny : Int) (c : Conf) (hc : c.ok) : Ret Try.prog (d + 1) 76 [.imm (.int .i64 ns), .imm (.int .i64 ny), c.av] [] (.imm (.bool (within c ns ny))) [] := by
  have hlen0 := hc.len
  unfold lenok at hlen0
  refine Ret.mk Try.func76 rfl (of_decide_eq_true (by kernel_rfl)) (by rw [Try.ntmps76]; exact Nat.le_of_ble_eq_true rfl) ?_
  intro Q hQ1 hQ2
  rw [Try.ntmps76]
  refine Eq.mpr (congrFun (congrArg _ rfl) _) (?_ : awpW _ _ _ _ _ (un _))
  simp (disch := omega) only [go_sem, Conf.av, Nat.reduceSub, Nat.reduceAdd, Nat.reduceLT]
  repeat' (refine Br.sp (fun h e => ?_) (fun h e => ?_) <;> simp (disch := omega) only [go_sem, Nat.reduceSub, Nat.reduceAdd, Nat.reduceLT, e])
  all_goals try (exfalso; omega)
  all_goals try (refine hQ2 _ _ (Fin.imm1 rfl (i := 6) ?_); rw [within_false (fun hv => by have := hv.st0; have := hv.st1; have := hv.pos0; have := hv.pos1; have := hv.fr0; have := hv.fr1; have := hv.len; have := hv.nil; have := hv.first; have := hv.last; omega)]; simp only [go_sem]; done)
  all_goals
    refine awp_loopX (fun i : Int => tm 88 0 [(1, .imm (.int .i64 ny)), (74, .imm (intsIV c.cs)), (75, .imm (.int .i64 c.cs.l.length)), (76, .imm (.int .i64 i))])
      (fun _ => [.obj 0 [.imm (.int .i64 c.st), .imm (.int .i64 c.pos), .imm (.int .i64 c.fr), .imm (intsIV c.cs)]])
      (fun i => 0 ≤ i ∧ i ≤ c.cs.l.length ∧ ∀ j, 0 ≤ j → j < i → 0 ≤ c.at j ∧ c.at j < ny)
      (fun i => c.cs.l.length - i.toNat) [.mask [1, 74, 75, 76]] 0 rfl ⟨by omega, by omega, fun j _ _ => by omega⟩ ?_
    rintro i ⟨hi0, hi1, hcells⟩ Q' hN hE
    simp only [tm_cons, tm_nil, tm_zero, reduceIte, Nat.reduceAdd, Nat.reduceEqDiff]
    simp (disch := omega) only [go_sem, Nat.reduceSub, Nat.reduceAdd, Nat.reduceLT]
    repeat' (refine Br.sp (fun h e => ?_) (fun h e => ?_) <;> simp (disch := omega) only [go_sem, Nat.reduceSub, Nat.reduceAdd, Nat.reduceLT, e])
    all_goals try (refine hE _ _ _ (fun h => by cases h) ?_; refine hQ2 _ _ (Fin.imm1 rfl (i := 6) ?_); rw [within_false (fun hv => by have hc1 := hv.cells i hi0 (by assumption); omega)]; simp only [go_sem]; done)
    all_goals try
      refine hN _ _ ⟨[.mask [1, 74, 75, 76]], i + 1, rfl, ⟨by omega, by omega, fun j h0 h1 => ?_⟩, by omega⟩
      by_cases e : j = i
      · subst e; omega
      · exact hcells j h0 (by omega)
    · refine hE _ _ _ (fun h => by cases h) ?_
      simp (disch := omega) only [go_sem, Nat.reduceSub, Nat.reduceAdd, Nat.reduceLT]
      refine hQ2 _ _ (Fin.imm1 rfl (i := 6) ?_)
      rw [within_true ⟨by omega, by omega, by omega, by omega, by omega, by omega, by omega, by omega, by omega, by omega, fun j g0 g1 => hcells j (by omega) (by omega)⟩]; simp only [go_sem]
end Go.Proofs.Ytbleionbmdpmeaa
