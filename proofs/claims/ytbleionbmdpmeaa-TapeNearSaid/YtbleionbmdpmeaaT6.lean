/- place, errno, SameInts. -/
import Derived.Test.YtbleionbmdpmeaaT5
set_option linter.unusedVariables false
set_option linter.unusedSimpArgs false
namespace Go.Proofs.Ytbleionbmdpmeaa
open Go.Abs

def isPlace (n : Int) : Bool := decide (-1099511627776 ≤ n ∧ n ≤ 1099511627776)

set_option maxRecDepth 10000 in
theorem place_ret (d : Nat) (n : Int) : Ret Try.prog (d + 1) 102 [.imm (.int .i64 n)] [] (.imm (.bool (isPlace n))) [] := by
  refine Ret.mk Try.func102 rfl (of_decide_eq_true (by kernel_rfl)) (by rw [Try.ntmps102]; exact Nat.le_of_ble_eq_true rfl) ?_
  intro Q hQ1 hQ2
  rw [Try.ntmps102]
  refine Eq.mpr (congrFun (congrArg _ rfl) _) (?_ : awpW _ _ _ _ _ (un _))
  simp (disch := omega) only [go_sem, Nat.reduceSub, Nat.reduceAdd, Nat.reduceLT]
  repeat' (refine Br.sp (fun h e => ?_) (fun h e => ?_) <;> simp (disch := omega) only [go_sem, Nat.reduceSub, Nat.reduceAdd, Nat.reduceLT, e])
  all_goals
    refine hQ2 _ _ (Fin.imm1 rfl (i := 2) ?_)
    simp only [go_sem, isPlace]
    simp [h]
    try omega

set_option maxRecDepth 10000 in
theorem errno_ret (d : Nat) (b : Bool) : Ret Try.prog (d + 1) 25 [.imm (.bool b)] [] (.imm (.int .i64 (if b = true then 0 else 4))) [] := by
  refine Ret.mk Try.func25 rfl (of_decide_eq_true (by kernel_rfl)) (by rw [Try.ntmps25]; exact Nat.le_of_ble_eq_true rfl) ?_
  intro Q hQ1 hQ2
  rw [Try.ntmps25]
  refine Eq.mpr (congrFun (congrArg _ rfl) _) (?_ : awpW _ _ _ _ _ (un _))
  simp (disch := omega) only [go_sem, Nat.reduceSub, Nat.reduceAdd, Nat.reduceLT]
  refine Br.sp (fun h e => ?_) (fun h e => ?_) <;> simp (disch := omega) only [go_sem, Nat.reduceSub, Nat.reduceAdd, Nat.reduceLT, e]
  · refine hQ2 _ _ (Fin.imm1 rfl (i := 2) ?_); simp only [go_sem, h, if_true]
  · refine hQ2 _ _ (Fin.imm1 rfl (i := 2) ?_); simp only [go_sem, h, if_false]

/-- the same numbers -/
def sameInts (a b : Lst Int) : Bool := decide (a.l = b.l)
theorem same_of {a b : Lst Int} (h : (a.l.length : Int) = b.l.length) (h' : ∀ i : Int, 0 ≤ i → i < a.l.length → a.at 0 i = b.at 0 i) : a.l = b.l := by
  refine List.ext_getElem (by omega) (fun i h1 h2 => ?_)
  have := h' i (by omega) (by omega)
  unfold Lst.at at this
  simpa [List.getD_eq_getElem?_getD, h1, h2] using this

set_option maxHeartbeats 4000000 in
set_option maxRecDepth 10000 in
theorem sameInts_ret (d : Nat) (a b : Lst Int) (ha : a.l.length ≤ 140737488351232) (hb : b.l.length ≤ 140737488351232) : Ret Try.prog (d + 1) 44 [.imm (intsIV a), .imm (intsIV b)] [] (.imm (.bool (sameInts a b))) [] := by
  refine Ret.mk Try.func44 rfl (of_decide_eq_true (by kernel_rfl)) (by rw [Try.ntmps44]; exact Nat.le_of_ble_eq_true rfl) ?_
  intro Q hQ1 hQ2
  rw [Try.ntmps44]
  refine Eq.mpr (congrFun (congrArg _ rfl) _) (?_ : awpW _ _ _ _ _ (un _))
  simp (disch := omega) only [go_sem, Nat.reduceSub, Nat.reduceAdd, Nat.reduceLT]
  repeat' (refine Br.sp (fun h e => ?_) (fun h e => ?_) <;> simp (disch := omega) only [go_sem, Nat.reduceSub, Nat.reduceAdd, Nat.reduceLT, e])
  all_goals try (refine hQ2 _ _ (Fin.imm1 rfl (i := 4) ?_); simp only [go_sem, sameInts]; rw [decide_eq_false (fun hl => h (by rw [hl]))]; done)
  have hlen := h
  refine awp_loopX (fun i : Int => tm 26 0 [(0, .imm (intsIV a)), (1, .imm (intsIV b)), (5, .imm (.int .i64 i))]) (fun _ => [])
    (fun i => 0 ≤ i ∧ i ≤ a.l.length ∧ ∀ j : Int, 0 ≤ j → j < i → a.at 0 j = b.at 0 j) (fun i => a.l.length - i.toNat) [.mask [0, 1, 5]] 0 rfl ⟨by omega, by omega, fun j _ _ => by omega⟩ ?_
  rintro i ⟨hi0, hi1, hsame⟩ Q' hN hE
  simp only [tm_cons, tm_nil, tm_zero, reduceIte, Nat.reduceAdd, Nat.reduceEqDiff]
  simp (disch := omega) only [go_sem, Nat.reduceSub, Nat.reduceAdd, Nat.reduceLT]
  refine Br.sp (fun h e => ?_) (fun h e => ?_) <;> simp (disch := omega) only [go_sem, Nat.reduceSub, Nat.reduceAdd, Nat.reduceLT, e]
  · refine awp_draw [] (by kernel_rfl) (by kernel_rfl) ?_
    simp (disch := omega) only [go_sem, Nat.reduceSub, Nat.reduceAdd, Nat.reduceLT]
    refine Br.sp (fun h' e => ?_) (fun h' e => ?_) <;> simp (disch := omega) only [go_sem, Nat.reduceSub, Nat.reduceAdd, Nat.reduceLT, e]
    · refine hN _ _ ⟨[.mask [0, 1, 5]], i + 1, rfl, ⟨by omega, by omega, fun j h0 h1 => ?_⟩, by omega⟩
      by_cases e : j = i
      · subst e; exact h'
      · exact hsame j h0 (by omega)
    · refine hE _ _ _ (fun h => by cases h) ?_
      refine hQ2 _ _ (Fin.imm1 rfl (i := 4) ?_); simp only [go_sem, sameInts]
      rw [decide_eq_false (fun hl => h' (by unfold Lst.at; rw [hl]))]
  · refine hE _ _ _ (fun h => by cases h) ?_
    simp (disch := omega) only [go_sem, Nat.reduceSub, Nat.reduceAdd, Nat.reduceLT]
    refine hQ2 _ _ (Fin.imm1 rfl (i := 4) ?_); simp only [go_sem, sameInts]
    rw [decide_eq_true (same_of hlen (fun j h0 h1 => hsame j h0 (by omega)))]
end Go.Proofs.Ytbleionbmdpmeaa
