/- Valid of the specification says the same. -/
import Derived.Test.YtbleionbmdpmeaaT3
set_option linter.unusedVariables false
set_option linter.unusedSimpArgs false
namespace Go.Proofs.Ytbleionbmdpmeaa
open Go.Abs

set_option maxRecDepth 10000 in
theorem rvalid_ret (d : Nat) (m : Mach) (hm : m.ok) : Ret Try.prog (d + 1) 18 [m.av] [] (.imm (.bool (valid m))) [] := by
  have hlen0 := hm.len
  unfold lenok at hlen0
  refine Ret.mk Try.func18 rfl (of_decide_eq_true (by kernel_rfl)) (by rw [Try.ntmps18]; exact Nat.le_of_ble_eq_true rfl) ?_
  intro Q hQ1 hQ2
  rw [Try.ntmps18]
  refine Eq.mpr (congrFun (congrArg _ rfl) _) (?_ : awpW _ _ _ _ _ (un _))
  simp (disch := omega) only [go_sem, Mach.av, Nat.reduceSub, Nat.reduceAdd, Nat.reduceLT]
  repeat' (refine Br.intro (fun h => ?_) (fun h => ?_) <;> simp (disch := omega) only [go_sem, Nat.reduceSub, Nat.reduceAdd, Nat.reduceLT, h])
  all_goals try (refine hQ2 _ _ (Fin.imm1 rfl (i := 2) ?_); rw [valid_false (fun hv => by have := hv.ns1; have := hv.ns6; have := hv.ny2; have := hv.ny4; have := hv.len; omega)]; simp only [go_sem])
  have hml := h
  refine awp_loopX (fun i : Int => tm 93 0 [(1, .ptr 0 0), (3, .imm (.int .i64 i))])
    (fun _ => [.obj 0 [.imm (.int .i64 m.ns), .imm (.int .i64 m.ny), .imm (rowsIV m.rs)]])
    (fun i => 0 ≤ i ∧ i ≤ m.ns ∧ ∀ j, 0 ≤ j → j < i → rowValid m j)
    (fun i => m.ns.toNat - i.toNat) [.mask [1, 3]] 0 rfl ⟨by omega, by omega, fun j _ _ => by omega⟩ ?_
  rintro i ⟨hi0, hi1, hrows⟩ Q' hN hE
  simp only [tm_cons, tm_nil, tm_zero, reduceIte, Nat.reduceAdd, Nat.reduceEqDiff]
  simp (disch := omega) only [go_sem, Nat.reduceSub, Nat.reduceAdd, Nat.reduceLT]
  have hl := row_len hm i
  refine Br.intro (fun h => ?_) (fun h => ?_) <;> simp (disch := omega) only [go_sem, Nat.reduceSub, Nat.reduceAdd, Nat.reduceLT, h]
  · refine awp_draw [] ?_ ?_ ?_
    · kernel_rfl
    · kernel_rfl
    simp (disch := omega) only [go_sem, Nat.reduceSub, Nat.reduceAdd, Nat.reduceLT]
    refine Br.intro (fun h => ?_) (fun h => ?_) <;> simp (disch := omega) only [go_sem, Nat.reduceSub, Nat.reduceAdd, Nat.reduceLT, h]
    · have hlen := h
      refine awp_loopX (fun x : Int => tm 93 0 [(1, .ptr 0 0), (3, .imm (.int .i64 i)), (4, .imm (.int .i64 x))])
        (fun _ => [.obj 0 [.imm (.int .i64 m.ns), .imm (.int .i64 m.ny), .imm (rowsIV m.rs)]])
        (fun x => 0 ≤ x ∧ x ≤ m.ny ∧ ∀ j, 0 ≤ j → j < x → ruleOk m (m.rule i j))
        (fun x => m.ny.toNat - x.toNat) [.mask [1, 3, 4]] 0 rfl ⟨by omega, by omega, fun j _ _ => by omega⟩ ?_
      rintro x ⟨hx0, hx1, hrules⟩ Q2 hN2 hE2
      simp only [tm_cons, tm_nil, tm_zero, reduceIte, Nat.reduceAdd, Nat.reduceEqDiff]
      simp (disch := omega) only [go_sem, Nat.reduceSub, Nat.reduceAdd, Nat.reduceLT]
      repeat' (refine Br.intro (fun h => ?_) (fun h => ?_) <;> simp (disch := omega) only [go_sem, Nat.reduceSub, Nat.reduceAdd, Nat.reduceLT, h])
      all_goals try (refine hE2 _ _ _ (fun h => by cases h) ?_; refine hE _ _ _ (fun h => by cases h) ?_; refine hQ2 _ _ (Fin.imm1 rfl (i := 2) ?_); rw [valid_false (fun hv => by have := (hv.rows i hi0 (by omega)).2 x (by omega) (by omega); unfold ruleOk at this; omega)]; simp only [go_sem]; done)
      all_goals try
        refine hN2 _ _ ⟨[.mask [1, 3, 4], .re [some 0]], x + 1, rfl, ⟨by omega, by omega, fun j h0 h1 => ?_⟩, by omega⟩
        by_cases e : j = x
        · subst e; unfold ruleOk; omega
        · exact hrules j h0 (by omega)
      · refine hE2 _ _ _ (fun h => by cases h) ?_
        simp (disch := omega) only [go_sem, Nat.reduceSub, Nat.reduceAdd, Nat.reduceLT]
        refine hN _ _ ⟨[.mask [1, 3]], i + 1, rfl, ⟨by omega, by omega, fun j h0 h1 => ?_⟩, by omega⟩
        by_cases e : j = i
        · subst e; exact ⟨hlen, fun y g0 g1 => hrules y g0 (by omega)⟩
        · exact hrows j h0 (by omega)
    · refine hE _ _ _ (fun h => by cases h) ?_
      refine hQ2 _ _ (Fin.imm1 rfl (i := 2) ?_)
      rw [valid_false (fun hv => by have := (hv.rows i hi0 (by omega)).1; omega)]; simp only [go_sem]
  · refine hE _ _ _ (fun h => by cases h) ?_
    simp (disch := omega) only [go_sem, Nat.reduceSub, Nat.reduceAdd, Nat.reduceLT]
    refine hQ2 _ _ (Fin.imm1 rfl (i := 2) ?_)
    rw [valid_true ⟨by omega, by omega, by omega, by omega, by omega, fun j h0 h1 => hrows j h0 (by omega)⟩]; simp only [go_sem]
end Go.Proofs.Ytbleionbmdpmeaa
