/- A rule read; Text of what is no machine; Ones. -/
import Derived.Test.YtbleionbmdpmeaaT40
set_option linter.unusedVariables false
set_option linter.unusedSimpArgs false
namespace Go.Proofs.Ytbleionbmdpmeaa
open Go.Abs

section
variable {n0 : Nat} {nd : Bool} {t : List AVal} {L : List Slot} {K : AVal → List Slot → Prop} {R : Rets}
def idxS (a i : AVal) (L : List Slot) (K : AVal → List Slot → Prop) (_ : Un K) : Prop := match a, i with
  | .imm (.str s), .imm (.int _ j) => (0 ≤ j ∧ j < s.length) ∧ K (.imm (.int .u8 ((s.getD j.toNat 0).toNat))) L
  | _, _ => False
@[go_sem] theorem ixs9 {x i : Operand} : aopW Try.prog R n0 nd (.index 9 x i) t L K (un _) = idxS (ev t x) (ev t i) L K (un _) := by
  simp only [aop, aopW, rv, idxS, ti9]
  cases ev t x with
  | imm y =>
    cases y with
    | str s =>
      cases ev t i with
      | imm z => cases z <;> simp [wv]
      | _ => simp [wv]
    | _ => simp [wv]
  | _ => simp [wv]
/-- a byte of a string -/
def bat (s : List UInt8) (j : Int) : Int := ((s.getD j.toNat 0).toNat : Int)
@[go_sem] theorem idxS_str {s : List UInt8} {k : IntKind} {j : Int} (h0 : 0 ≤ j) (h1 : j < s.length) : idxS (.imm (.str s)) (.imm (.int k j)) L K (un _) = K (.imm (.int .u8 (bat s j))) L := by simp [idxS, h0, h1, bat]
theorem bat_range (s : List UInt8) (j : Int) : 0 ≤ bat s j ∧ bat s j ≤ 255 := by
  unfold bat; have := (s.getD j.toNat 0).toNat_lt; omega
@[go_sem] theorem cv5_3 {k : IntKind} {n : Int} : convA Try.prog 5 3 (.imm (.int k n)) L = some (True, .imm (.int .i64 (IntKind.i64.wrap n))) := by
  simp [convA, ti3, ti5]
end

section
variable {n0 : Nat} {nd : Bool} {t : List AVal} {L : List Slot} {K : AVal → List Slot → Prop} {R : Rets}
def strCut (a lo hi : AVal) (L : List Slot) (K : AVal → List Slot → Prop) (_ : Un K) : Prop := match a, lo, hi with
  | .imm (.str s), .imm (.int _ l), .imm (.int _ h) => (0 ≤ l ∧ l ≤ h ∧ h ≤ s.length) ∧ K (.imm (.str ((s.take h.toNat).drop l.toNat))) L
  | _, _, _ => False
@[go_sem] theorem ct9 {x lo hi : Operand} : aopW Try.prog R n0 nd (.slice 9 x (some lo) (some hi) none) t L K (un _) = strCut (ev t x) (ev t lo) (ev t hi) L K (un _) := by
  rw [aop_slice]
  simp only [sliceA, ti9, Option.map_some, Option.map_none, strCut]
  cases ev t x with
  | imm y =>
    cases y with
    | str s =>
      cases ev t lo with
      | imm l =>
        cases l with
        | int k j =>
          cases ev t hi with
          | imm h =>
            cases h with
            | int k' j' =>
              simp only [bnd, optK]
              refine propext ⟨fun h => ⟨by omega, h.2⟩, fun h => ⟨by omega, h.2⟩⟩
            | _ => rfl
          | _ => rfl
        | _ => rfl
      | _ => rfl
    | _ => rfl
  | _ => rfl
@[go_sem] theorem strCut_int {s : List UInt8} {k k' : IntKind} {l h : Int} (h0 : 0 ≤ l) (h1 : l ≤ h) (h2 : h ≤ s.length) : strCut (.imm (.str s)) (.imm (.int k l)) (.imm (.int k' h)) L K (un _) = K (.imm (.str ((s.take h.toNat).drop l.toNat))) L := by simp [strCut, h0, h1, h2]
end

def ruleOf (s : List UInt8) : Rule := ⟨bat s 0 - 48, if bat s 1 = 82 then 1 else -1, if bat s 2 = 90 then -1 else bat s 2 - 65⟩
def Rule.av (r : Rule) : AVal := .agg [.imm (.int .i64 r.wr), .imm (.int .i64 r.mv), .imm (.int .i64 r.nx)]

set_option maxHeartbeats 1000000 in
set_option maxRecDepth 10000 in
theorem rule_ret (d : Nat) (s : List UInt8) (hs : s.length = 3) : Ret Try.prog (d + 1) 82 [.imm (.str s)] [] (ruleOf s).av [] := by
  have b0 := bat_range s 0; have b2 := bat_range s 2
  refine Ret.mkE Try.func82 rfl (of_decide_eq_true (by kernel_rfl)) Try.ntmps82 rfl ?_
  intro Q hQ1 hQ2
  refine Eq.mpr (congrFun (congrArg _ rfl) _) (?_ : awpW _ _ _ _ _ (un _))
  simp (maxSteps := 2000000) (disch := omega) only [go_sem, Nat.reduceSub, Nat.reduceAdd, Nat.reduceLT, Nat.reduceEqDiff, Nat.reduceBEq]
  refine awp_draw [10] (by kernel_rfl) (by kernel_rfl) ?_
  simp (maxSteps := 2000000) (disch := omega) only [go_sem, Nat.reduceSub, Nat.reduceAdd, Nat.reduceLT, Nat.reduceEqDiff, Nat.reduceBEq]
  refine Br.sp (fun h1 e1 => ?_) (fun h1 e1 => ?_) <;> simp (maxSteps := 2000000) (disch := omega) only [go_sem, Nat.reduceSub, Nat.reduceAdd, Nat.reduceLT, Nat.reduceEqDiff, Nat.reduceBEq, e1]
  all_goals (refine Br.sp (fun h2 e2 => ?_) (fun h2 e2 => ?_) <;> simp (maxSteps := 2000000) (disch := omega) only [go_sem, Nat.reduceSub, Nat.reduceAdd, Nat.reduceLT, Nat.reduceEqDiff, Nat.reduceBEq, e2])
  all_goals
    refine hQ2 _ _ (Fin.sim [] [.re []] [.cell 2 94] rfl gh_nil ?_)
    simp (maxSteps := 2000000) (disch := omega) only [go_sem, Nat.reduceSub, Nat.reduceAdd, Nat.reduceLT, Nat.reduceEqDiff, Nat.reduceBEq]
    rw [gh_re rfl]; simp only [go_sem, Nat.reduceSub, Nat.reduceAdd, Nat.reduceEqDiff, Nat.reduceBEq, Rule.av, ruleOf]; simp [h1, h2]

set_option maxHeartbeats 1000000 in
set_option maxRecDepth 10000 in
theorem text_form_ret (d : Nat) (m : Mach) (hm : m.ok) (hv : ¬ m.Valid) : Ret Try.prog (d + 2) 27 [m.av] [] (.tup [.imm (.str []), .imm (.int .i64 1)]) [] := by
  refine Ret.mkE Try.func27 rfl (of_decide_eq_true (by kernel_rfl)) Try.ntmps27 rfl ?_
  intro Q hQ1 hQ2
  refine Eq.mpr (congrFun (congrArg _ rfl) _) (?_ : awpW _ _ _ _ _ (un _))
  simp (maxSteps := 2000000) (disch := omega) only [go_sem, Nat.reduceSub, Nat.reduceAdd, Nat.reduceLT, Nat.reduceEqDiff, Nat.reduceBEq, Mach.av]
  refine call_imm (valid_ret _ m hm) rfl rfl ?_
  simp (maxSteps := 2000000) (disch := omega) only [go_sem, Nat.reduceSub, Nat.reduceAdd, Nat.reduceLT, Nat.reduceEqDiff, Nat.reduceBEq, valid_false hv]
  refine hQ2 _ _ (Fin.sim [] [.re []] [.tmp 2, .tmp 3] rfl gh_nil ?_)
  simp (maxSteps := 2000000) (disch := omega) only [go_sem, Nat.reduceSub, Nat.reduceAdd, Nat.reduceLT, Nat.reduceEqDiff, Nat.reduceBEq]
  rw [gh_re rfl]; simp only [go_sem, Nat.reduceSub, Nat.reduceAdd, Nat.reduceEqDiff, Nat.reduceBEq]

/-- how many are not 0 -/
def onesL : List Int → Nat
  | [] => 0
  | n :: l => (if n = 0 then 0 else 1) + onesL l
def Conf.ones (c : Conf) : Nat := onesL c.cs.l
theorem onesL_le : ∀ l : List Int, onesL l ≤ l.length
  | [] => Nat.le_refl _
  | n :: l => by simp only [onesL, List.length_cons]; have := onesL_le l; split <;> omega

set_option maxHeartbeats 1000000 in
set_option maxRecDepth 10000 in
theorem ones_ret (d : Nat) (c : Conf) (hc : c.ok) : Ret Try.prog (d + 1) 69 [c.av] [] (.imm (.int .i64 c.ones)) [] := by
  have hlen := hc.len
  unfold lenok at hlen
  refine Ret.mkE Try.func69 rfl (of_decide_eq_true (by kernel_rfl)) Try.ntmps69 rfl ?_
  intro Q hQ1 hQ2
  refine Eq.mpr (congrFun (congrArg _ rfl) _) (?_ : awpW _ _ _ _ _ (un _))
  simp (maxSteps := 2000000) (disch := omega) only [go_sem, Nat.reduceSub, Nat.reduceAdd, Nat.reduceLT, Nat.reduceEqDiff, Nat.reduceBEq, Conf.av]
  refine awp_loopX (fun q : Nat × Nat => tmP 19 .any [(3, .imm (.int .i64 q.2)), (7, .imm (intsIV c.cs)), (8, .imm (.int .i64 c.cs.l.length)), (9, .imm (.int .i64 q.1))] [])
    (fun q => []) (fun q => q.1 ≤ c.cs.l.length ∧ q.2 ≤ q.1 ∧ q.2 + onesL (c.cs.l.drop q.1) = c.ones) (fun q => c.cs.l.length - q.1) [.mask [3, 7, 8, 9], .re []] (0, 0) ?_ ⟨Nat.zero_le _, Nat.le_refl _, by simp [Conf.ones]⟩ ?_
  · rw [gh_maskP rfl, gh_re rfl]; simp only [go_sem, Nat.reduceSub, Nat.reduceAdd, Nat.reduceEqDiff, Nat.reduceBEq]; rfl
  rintro ⟨i, n⟩ ⟨hi, hn, ho⟩ Q1 hN1 hE1
  simp only at hi hn ho
  simp (maxSteps := 2000000) (disch := omega) only [go_sem, Nat.reduceSub, Nat.reduceAdd, Nat.reduceLT, Nat.reduceEqDiff, Nat.reduceBEq]
  refine Br.sp (fun h e => ?_) (fun h e => ?_) <;> simp (maxSteps := 2000000) (disch := omega) only [go_sem, Nat.reduceSub, Nat.reduceAdd, Nat.reduceLT, Nat.reduceEqDiff, Nat.reduceBEq, e]
  · have hlt : i < c.cs.l.length := by omega
    have hat : c.at i = c.cs.l[i] := by unfold Conf.at Lst.at; simp [List.getD_eq_getElem?_getD, hlt]
    rw [List.drop_eq_getElem_cons hlt, onesL, ← hat] at ho
    refine Br.sp (fun h2 e2 => ?_) (fun h2 e2 => ?_) <;> simp (maxSteps := 2000000) (disch := omega) only [go_sem, Nat.reduceSub, Nat.reduceAdd, Nat.reduceLT, Nat.reduceEqDiff, Nat.reduceBEq, e2]
    · rw [if_pos h2] at ho
      refine hN1 _ _ ⟨[.mask [3, 7, 8, 9]], (i + 1, n), ?_, ⟨by simp only; omega, by simp only; omega, by simp only; omega⟩, by simp only; omega⟩
      rw [gh_maskP rfl]; simp only [go_sem, Nat.reduceSub, Nat.reduceAdd, Nat.reduceEqDiff, Nat.reduceBEq]; rfl
    · rw [if_neg h2] at ho
      refine hN1 _ _ ⟨[.mask [3, 7, 8, 9]], (i + 1, n + 1), ?_, ⟨by simp only; omega, by simp only; omega, by simp only; omega⟩, by simp only; omega⟩
      rw [gh_maskP rfl]; simp only [go_sem, Nat.reduceSub, Nat.reduceAdd, Nat.reduceEqDiff, Nat.reduceBEq]; rfl
  · refine hE1 _ _ _ (fun h => by cases h) ?_
    simp (maxSteps := 2000000) (disch := omega) only [go_sem, Nat.reduceSub, Nat.reduceAdd, Nat.reduceLT, Nat.reduceEqDiff, Nat.reduceBEq]
    have hie : i = c.cs.l.length := by omega
    have : n = c.ones := by rw [← ho, hie]; simp [onesL]
    refine hQ2 _ _ (Fin.imm1 rfl (i := 2) ?_); simp (maxSteps := 2000000) (disch := omega) only [go_sem, Nat.reduceSub, Nat.reduceAdd, Nat.reduceLT, Nat.reduceEqDiff, Nat.reduceBEq, this]
end Go.Proofs.Ytbleionbmdpmeaa
