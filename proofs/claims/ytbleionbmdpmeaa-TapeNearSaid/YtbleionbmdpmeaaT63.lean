/- Read of the program; far, gap and others. -/
import Derived.Test.YtbleionbmdpmeaaT43
import Derived.Test.YtbleionbmdpmeaaT60
import Derived.Test.YtbleionbmdpmeaaT61
set_option linter.unusedVariables false
set_option linter.unusedSimpArgs false
namespace Go.Proofs.Ytbleionbmdpmeaa
open Go.Abs

theorem i64_wrap (n : Int) : IntKind.i64.wrap n = (n + 9223372036854775808) % 18446744073709551616 - 9223372036854775808 := by
  have e1 : (2 : Int) ^ 64 = 18446744073709551616 := by decide
  have e2 : (2 : Int) ^ 63 = 9223372036854775808 := by decide
  simp [IntKind.wrap, IntKind.signed, IntKind.bits, e1, e2]; try omega

section
variable {n0 : Nat} {nd : Bool} {t : List AVal} {L : List Slot} {K : AVal → List Slot → Prop} {R : Rets}
def m3K (a b c : AVal) (L : List Slot) (K : AVal → List Slot → Prop) (_ : Un K) : Prop := match a, b, c with
  | .imm (.int k a), .imm (.int k' b), .imm (.int k'' c) => (k = k' ∧ k = k'') ∧ K (.imm (.int k (max (max a b) c))) L
  | _, _, _ => False
@[go_sem] theorem aop_max3 {x y z : Operand} {ts : Array TypeId} : aopW Try.prog R n0 nd (.call ⟨.builtin .max, #[x, y, z], ts⟩) t L K (un _) = m3K (ev t x) (ev t y) (ev t z) L K (un _) := by
  rw [aop_builtin]
  simp only [wv, mapO, m3K]
  cases ev t x with
  | imm i =>
    cases i with
    | int k a =>
      cases ev t y with
      | imm j =>
        cases j with
        | int k' b =>
          cases ev t z with
          | imm l =>
            cases l with
            | int k'' c =>
              by_cases h : k = k'
              · subst h
                by_cases h2 : k = k''
                · subst h2; simp [optL, foldI]
                · simp [optL, foldI, h2]
              · simp [optL, foldI, h]
            | _ => by_cases h : k = k' <;> simp [optL, foldI, h]
          | _ => by_cases h : k = k' <;> simp [optL, foldI, h]
        | _ => rfl
      | _ => rfl
    | _ => rfl
  | _ => rfl
@[go_sem] theorem m3K_int {k : IntKind} {a b c : Int} : m3K (.imm (.int k a)) (.imm (.int k b)) (.imm (.int k c)) L K (un _) = K (.imm (.int k (max (max a b) c))) L := by simp [m3K]
end

set_option maxHeartbeats 2000000 in
set_option maxRecDepth 10000 in
theorem tread_ret (d : Nat) (c : Conf) (pos : Int) (hc : c.ok) (hp : i64ok pos) : Ret Try.prog (d + 1) 33 [c.av, .imm (.int .i64 pos)] [] (.imm (.int .i64 (c.read pos))) [] := by
  have h1 := hc.len
  have h2 := hc.fr
  unfold lenok at h1
  unfold i64ok at h2 hp
  obtain ⟨h2, h3⟩ := h2
  obtain ⟨hp1, hp2⟩ := hp
  have hW := i64_wrap (pos - c.fr)
  refine Ret.mkE Try.func33 rfl (of_decide_eq_true (by kernel_rfl)) Try.ntmps33 rfl ?_
  intro Q hQ1 hQ2
  refine Eq.mpr (congrFun (congrArg _ rfl) _) (?_ : awpW _ _ _ _ _ (un _))
  simp (maxSteps := 2000000) (disch := omega) only [go_sem, Nat.reduceSub, Nat.reduceAdd, Nat.reduceLT, Nat.reduceEqDiff, Nat.reduceBEq, Conf.av]
  generalize hA : IntKind.i64.wrap (pos - c.fr) = A at *
  repeat' (refine Br.sp (fun h e => ?_) (fun h e => ?_) <;> simp (maxSteps := 2000000) (disch := omega) only [go_sem, Nat.reduceSub, Nat.reduceAdd, Nat.reduceLT, Nat.reduceEqDiff, Nat.reduceBEq, e])
  all_goals
    refine hQ2 _ _ (Fin.imm1 rfl (i := 4) ?_)
    simp (maxSteps := 2000000) (disch := omega) only [go_sem, Nat.reduceSub, Nat.reduceAdd, Nat.reduceLT, Nat.reduceEqDiff, Nat.reduceBEq]
    simp only [Conf.read]
    first
      | (rw [if_neg (by omega)]; done)
      | (rw [if_pos (by omega), show pos - c.fr = A from by omega]; done)

def gapF (c : Conf) : Int := if (c.cs.l.length : Int) = 0 then 0 else max (max (c.fr - c.pos) (c.pos - c.fr - c.cs.l.length + 1)) 0
set_option maxHeartbeats 2000000 in
set_option maxRecDepth 10000 in
theorem gap_ret (d : Nat) (c : Conf) (hc : c.ok) (b1 : -1099511627776 ≤ c.pos) (b2 : c.pos ≤ 1099511627776) (b3 : -1099511627776 ≤ c.fr) (b4 : c.fr ≤ 1099511627776) : Ret Try.prog (d + 1) 83 [c.av] [] (.imm (.int .i64 (gapF c))) [] := by
  have h1 := hc.len
  unfold lenok at h1
  refine Ret.mkE Try.func83 rfl (of_decide_eq_true (by kernel_rfl)) Try.ntmps83 rfl ?_
  intro Q hQ1 hQ2
  refine Eq.mpr (congrFun (congrArg _ rfl) _) (?_ : awpW _ _ _ _ _ (un _))
  simp (maxSteps := 2000000) (disch := omega) only [go_sem, Nat.reduceSub, Nat.reduceAdd, Nat.reduceLT, Nat.reduceEqDiff, Nat.reduceBEq, Conf.av]
  unfold gapF at hQ2
  refine Br.sp (fun h e => ?_) (fun h e => ?_) <;> simp (maxSteps := 2000000) (disch := omega) only [go_sem, Nat.reduceSub, Nat.reduceAdd, Nat.reduceLT, Nat.reduceEqDiff, Nat.reduceBEq, e]
  · rw [if_pos h] at hQ2
    refine hQ2 _ _ (Fin.imm1 rfl (i := 2) ?_)
    simp (maxSteps := 2000000) (disch := omega) only [go_sem, Nat.reduceSub, Nat.reduceAdd, Nat.reduceLT, Nat.reduceEqDiff, Nat.reduceBEq]
  · rw [if_neg h] at hQ2
    refine hQ2 _ _ (Fin.imm1 rfl (i := 2) ?_)
    simp (maxSteps := 2000000) (disch := omega) only [go_sem, Nat.reduceSub, Nat.reduceAdd, Nat.reduceLT, Nat.reduceEqDiff, Nat.reduceBEq]

structure Conf.Far (c : Conf) : Prop where
  p0 : -1099511427776 ≤ c.pos
  p1 : c.pos ≤ 1099511427776
  f0 : -1099511427776 ≤ c.fr
  f1 : c.fr ≤ 1099511427776
  len : (c.cs.l.length : Int) ≤ 1000
  gap : gapF c ≤ 50000
open Classical in
noncomputable def far (c : Conf) : Bool := decide c.Far
theorem far_true {c : Conf} (h : c.Far) : far c = true := by simp [far, h]
theorem far_false {c : Conf} (h : ¬ c.Far) : far c = false := by simp [far, h]
set_option maxHeartbeats 2000000 in
set_option maxRecDepth 10000 in
theorem far_ret (d : Nat) (c : Conf) (hc : c.ok) : Ret Try.prog (d + 2) 32 [c.av] [] (.imm (.bool (far c))) [] := by
  have h1 := hc.len
  unfold lenok at h1
  refine Ret.mkE Try.func32 rfl (of_decide_eq_true (by kernel_rfl)) Try.ntmps32 rfl ?_
  intro Q hQ1 hQ2
  refine Eq.mpr (congrFun (congrArg _ rfl) _) (?_ : awpW _ _ _ _ _ (un _))
  simp (maxSteps := 2000000) (disch := omega) only [go_sem, Nat.reduceSub, Nat.reduceAdd, Nat.reduceLT, Nat.reduceEqDiff, Nat.reduceBEq, Conf.av]
  repeat' first
    | (refine Br.sp (fun h e => ?_) (fun h e => ?_) <;> simp (maxSteps := 2000000) (disch := omega) only [go_sem, Nat.reduceSub, Nat.reduceAdd, Nat.reduceLT, Nat.reduceEqDiff, Nat.reduceBEq, e])
    | (refine call_imm (gap_ret d c hc (by omega) (by omega) (by omega) (by omega)) rfl rfl ?_; simp (maxSteps := 2000000) (disch := omega) only [go_sem, Nat.reduceSub, Nat.reduceAdd, Nat.reduceLT, Nat.reduceEqDiff, Nat.reduceBEq])
  all_goals
    refine hQ2 _ _ (Fin.imm1 rfl (i := 2) ?_)
    first
      | (rw [far_false (fun hv => by have := hv.p0; have := hv.p1; have := hv.f0; have := hv.f1; have := hv.len; have := hv.gap; omega)]; simp (maxSteps := 2000000) (disch := omega) only [go_sem, Nat.reduceSub, Nat.reduceAdd, Nat.reduceLT, Nat.reduceEqDiff, Nat.reduceBEq]; done)
      | (by_cases hg : gapF c ≤ 50000
         · rw [far_true ⟨by omega, by omega, by omega, by omega, by omega, hg⟩]; simp (maxSteps := 2000000) (disch := omega) only [go_sem, Nat.reduceSub, Nat.reduceAdd, Nat.reduceLT, Nat.reduceEqDiff, Nat.reduceBEq]; simp [hg]
         · rw [far_false (fun hv => hg hv.gap)]; simp (maxSteps := 2000000) (disch := omega) only [go_sem, Nat.reduceSub, Nat.reduceAdd, Nat.reduceLT, Nat.reduceEqDiff, Nat.reduceBEq]; simp [hg])
/-- what lies behind the steps -/
def otherPos (a c : Conf) (i : Int) : Int := if i < a.cs.l.length then a.fr + i else c.fr + i - a.cs.l.length
def Others (a c : Conf) (k : Int) : Prop := ∀ i : Int, 0 ≤ i → i < (a.cs.l.length : Int) + c.cs.l.length → (otherPos a c i < c.pos - k ∨ c.pos + k < otherPos a c i) → a.read (otherPos a c i) = c.read (otherPos a c i)

set_option maxHeartbeats 2000000 in
set_option maxRecDepth 10000 in
theorem others_ret (d : Nat) (a c : Conf) (k : Int) (ha : a.ok) (hc : c.ok) (la : (a.cs.l.length : Int) ≤ 100000) (lc : (c.cs.l.length : Int) ≤ 100000) (k0 : 0 ≤ k) (k1 : k ≤ 1000)
    (p0 : -1099511627776 ≤ c.pos) (p1 : c.pos ≤ 1099511627776) (f0 : -1099511627776 ≤ c.fr) (f1 : c.fr ≤ 1099511627776) (g0 : -1099511627776 ≤ a.fr) (g1 : a.fr ≤ 1099511627776) (hO : Others a c k) :
    Ret Try.prog (d + 2) 34 [a.av, c.av, .imm (.int .i64 k)] [] (.imm (.bool true)) [] := by
  refine Ret.mkE Try.func34 rfl (of_decide_eq_true (by kernel_rfl)) Try.ntmps34 rfl ?_
  intro Q hQ1 hQ2
  refine Eq.mpr (congrFun (congrArg _ rfl) _) (?_ : awpW _ _ _ _ _ (un _))
  simp (maxSteps := 2000000) (disch := omega) only [go_sem, Nat.reduceSub, Nat.reduceAdd, Nat.reduceLT, Nat.reduceEqDiff, Nat.reduceBEq, Conf.av]
  refine awp_loopX (fun i : Nat => tmP 60 .any [(2, .imm (.int .i64 k)), (3, .ptr 0 0), (4, .ptr 1 0), (7, .imm (.int .i64 i))] [])
    (fun _ => [.obj 0 [.imm (.int .i64 a.st), .imm (.int .i64 a.pos), .imm (.int .i64 a.fr), .imm (intsIV a.cs)], .obj 0 [.imm (.int .i64 c.st), .imm (.int .i64 c.pos), .imm (.int .i64 c.fr), .imm (intsIV c.cs)]])
    (fun i => i ≤ a.cs.l.length + c.cs.l.length) (fun i => a.cs.l.length + c.cs.l.length - i) [.mask [2, 3, 4, 7]] 0 ?_ (Nat.zero_le _) ?_
  · rw [gh_maskP rfl]; simp only [go_sem, Nat.reduceSub, Nat.reduceAdd, Nat.reduceEqDiff, Nat.reduceBEq]; rfl
  rintro i hi Q1 hN1 hE1
  simp (maxSteps := 2000000) (disch := omega) only [go_sem, Nat.reduceSub, Nat.reduceAdd, Nat.reduceLT, Nat.reduceEqDiff, Nat.reduceBEq]
  refine Br.sp (fun h1 e1 => ?_) (fun h1 e1 => ?_) <;> simp (maxSteps := 2000000) (disch := omega) only [go_sem, Nat.reduceSub, Nat.reduceAdd, Nat.reduceLT, Nat.reduceEqDiff, Nat.reduceBEq, e1]
  · refine Br.sp (fun h2 e2 => ?_) (fun h2 e2 => ?_) <;> simp (maxSteps := 2000000) (disch := omega) only [go_sem, Nat.reduceSub, Nat.reduceAdd, Nat.reduceLT, Nat.reduceEqDiff, Nat.reduceBEq, e2]
    · have hread : ((a.fr + (i : Int)) < c.pos - k ∨ c.pos + k < (a.fr + (i : Int))) → a.read (a.fr + (i : Int)) = c.read (a.fr + (i : Int)) := by
        have := hO i (by omega) (by omega); unfold otherPos at this; rw [if_pos h2] at this; exact this
      refine awp_draw [] (by kernel_rfl) (by kernel_rfl) ?_
      simp (maxSteps := 2000000) (disch := omega) only [go_sem, Nat.reduceSub, Nat.reduceAdd, Nat.reduceLT, Nat.reduceEqDiff, Nat.reduceBEq]
      refine Br.sp (fun h3 e3 => ?_) (fun h3 e3 => ?_) <;> simp (maxSteps := 2000000) (disch := omega) only [go_sem, Nat.reduceSub, Nat.reduceAdd, Nat.reduceLT, Nat.reduceEqDiff, Nat.reduceBEq, e3]
      · refine call_imm (read_ret _ a _ ha (by unfold i64ok; omega)) rfl rfl ?_
        simp (maxSteps := 2000000) (disch := omega) only [go_sem, Nat.reduceSub, Nat.reduceAdd, Nat.reduceLT, Nat.reduceEqDiff, Nat.reduceBEq]
        refine call_imm (read_ret _ c _ hc (by unfold i64ok; omega)) rfl rfl ?_
        simp (maxSteps := 2000000) (disch := omega) only [go_sem, Nat.reduceSub, Nat.reduceAdd, Nat.reduceLT, Nat.reduceEqDiff, Nat.reduceBEq]
        refine Br.sp (fun h5 e5 => ?_) (fun h5 e5 => ?_) <;> simp (maxSteps := 2000000) (disch := omega) only [go_sem, Nat.reduceSub, Nat.reduceAdd, Nat.reduceLT, Nat.reduceEqDiff, Nat.reduceBEq, e5]
        · refine hN1 _ _ ⟨[.mask [2, 3, 4, 7]], i + 1, ?_, by omega, by omega⟩
          rw [gh_maskP rfl]; simp only [go_sem, Nat.reduceSub, Nat.reduceAdd, Nat.reduceEqDiff, Nat.reduceBEq]; rfl
        · exact absurd (hread (by omega)) h5
      · refine Br.sp (fun h4 e4 => ?_) (fun h4 e4 => ?_) <;> simp (maxSteps := 2000000) (disch := omega) only [go_sem, Nat.reduceSub, Nat.reduceAdd, Nat.reduceLT, Nat.reduceEqDiff, Nat.reduceBEq, e4]
        · refine call_imm (read_ret _ a _ ha (by unfold i64ok; omega)) rfl rfl ?_
          simp (maxSteps := 2000000) (disch := omega) only [go_sem, Nat.reduceSub, Nat.reduceAdd, Nat.reduceLT, Nat.reduceEqDiff, Nat.reduceBEq]
          refine call_imm (read_ret _ c _ hc (by unfold i64ok; omega)) rfl rfl ?_
          simp (maxSteps := 2000000) (disch := omega) only [go_sem, Nat.reduceSub, Nat.reduceAdd, Nat.reduceLT, Nat.reduceEqDiff, Nat.reduceBEq]
          refine Br.sp (fun h5 e5 => ?_) (fun h5 e5 => ?_) <;> simp (maxSteps := 2000000) (disch := omega) only [go_sem, Nat.reduceSub, Nat.reduceAdd, Nat.reduceLT, Nat.reduceEqDiff, Nat.reduceBEq, e5]
          · refine hN1 _ _ ⟨[.mask [2, 3, 4, 7]], i + 1, ?_, by omega, by omega⟩
            rw [gh_maskP rfl]; simp only [go_sem, Nat.reduceSub, Nat.reduceAdd, Nat.reduceEqDiff, Nat.reduceBEq]; rfl
          · exact absurd (hread (by omega)) h5
        · refine hN1 _ _ ⟨[.mask [2, 3, 4, 7]], i + 1, ?_, by omega, by omega⟩
          rw [gh_maskP rfl]; simp only [go_sem, Nat.reduceSub, Nat.reduceAdd, Nat.reduceEqDiff, Nat.reduceBEq]; rfl
    · have hread : ((c.fr + (i : Int) - a.cs.l.length) < c.pos - k ∨ c.pos + k < (c.fr + (i : Int) - a.cs.l.length)) → a.read (c.fr + (i : Int) - a.cs.l.length) = c.read (c.fr + (i : Int) - a.cs.l.length) := by
        have := hO i (by omega) (by omega); unfold otherPos at this; rw [if_neg h2] at this; exact this
      refine awp_draw [] (by kernel_rfl) (by kernel_rfl) ?_
      simp (maxSteps := 2000000) (disch := omega) only [go_sem, Nat.reduceSub, Nat.reduceAdd, Nat.reduceLT, Nat.reduceEqDiff, Nat.reduceBEq]
      refine Br.sp (fun h3 e3 => ?_) (fun h3 e3 => ?_) <;> simp (maxSteps := 2000000) (disch := omega) only [go_sem, Nat.reduceSub, Nat.reduceAdd, Nat.reduceLT, Nat.reduceEqDiff, Nat.reduceBEq, e3]
      · refine call_imm (read_ret _ a _ ha (by unfold i64ok; omega)) rfl rfl ?_
        simp (maxSteps := 2000000) (disch := omega) only [go_sem, Nat.reduceSub, Nat.reduceAdd, Nat.reduceLT, Nat.reduceEqDiff, Nat.reduceBEq]
        refine call_imm (read_ret _ c _ hc (by unfold i64ok; omega)) rfl rfl ?_
        simp (maxSteps := 2000000) (disch := omega) only [go_sem, Nat.reduceSub, Nat.reduceAdd, Nat.reduceLT, Nat.reduceEqDiff, Nat.reduceBEq]
        refine Br.sp (fun h5 e5 => ?_) (fun h5 e5 => ?_) <;> simp (maxSteps := 2000000) (disch := omega) only [go_sem, Nat.reduceSub, Nat.reduceAdd, Nat.reduceLT, Nat.reduceEqDiff, Nat.reduceBEq, e5]
        · refine hN1 _ _ ⟨[.mask [2, 3, 4, 7]], i + 1, ?_, by omega, by omega⟩
          rw [gh_maskP rfl]; simp only [go_sem, Nat.reduceSub, Nat.reduceAdd, Nat.reduceEqDiff, Nat.reduceBEq]; rfl
        · exact absurd (hread (by omega)) h5
      · refine Br.sp (fun h4 e4 => ?_) (fun h4 e4 => ?_) <;> simp (maxSteps := 2000000) (disch := omega) only [go_sem, Nat.reduceSub, Nat.reduceAdd, Nat.reduceLT, Nat.reduceEqDiff, Nat.reduceBEq, e4]
        · refine call_imm (read_ret _ a _ ha (by unfold i64ok; omega)) rfl rfl ?_
          simp (maxSteps := 2000000) (disch := omega) only [go_sem, Nat.reduceSub, Nat.reduceAdd, Nat.reduceLT, Nat.reduceEqDiff, Nat.reduceBEq]
          refine call_imm (read_ret _ c _ hc (by unfold i64ok; omega)) rfl rfl ?_
          simp (maxSteps := 2000000) (disch := omega) only [go_sem, Nat.reduceSub, Nat.reduceAdd, Nat.reduceLT, Nat.reduceEqDiff, Nat.reduceBEq]
          refine Br.sp (fun h5 e5 => ?_) (fun h5 e5 => ?_) <;> simp (maxSteps := 2000000) (disch := omega) only [go_sem, Nat.reduceSub, Nat.reduceAdd, Nat.reduceLT, Nat.reduceEqDiff, Nat.reduceBEq, e5]
          · refine hN1 _ _ ⟨[.mask [2, 3, 4, 7]], i + 1, ?_, by omega, by omega⟩
            rw [gh_maskP rfl]; simp only [go_sem, Nat.reduceSub, Nat.reduceAdd, Nat.reduceEqDiff, Nat.reduceBEq]; rfl
          · exact absurd (hread (by omega)) h5
        · refine hN1 _ _ ⟨[.mask [2, 3, 4, 7]], i + 1, ?_, by omega, by omega⟩
          rw [gh_maskP rfl]; simp only [go_sem, Nat.reduceSub, Nat.reduceAdd, Nat.reduceEqDiff, Nat.reduceBEq]; rfl
  · refine hE1 _ _ _ (fun h => by cases h) ?_
    simp (maxSteps := 2000000) (disch := omega) only [go_sem, Nat.reduceSub, Nat.reduceAdd, Nat.reduceLT, Nat.reduceEqDiff, Nat.reduceBEq]
    refine hQ2 _ _ (Fin.imm1 rfl (i := 6) ?_)
    simp (maxSteps := 2000000) (disch := omega) only [go_sem, Nat.reduceSub, Nat.reduceAdd, Nat.reduceLT, Nat.reduceEqDiff, Nat.reduceBEq]
end Go.Proofs.Ytbleionbmdpmeaa
