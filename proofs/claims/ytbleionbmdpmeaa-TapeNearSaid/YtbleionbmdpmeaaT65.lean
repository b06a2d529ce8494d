/- TapeNear comes to true. -/
import Derived.Test.YtbleionbmdpmeaaT64
set_option linter.unusedVariables false
set_option linter.unusedSimpArgs false
namespace Go.Proofs.Ytbleionbmdpmeaa
open Go.Abs

@[go_sem] theorem cv52_3' {k : IntKind} {n : Int} {L : List Slot} : convA Try.prog 52 3 (.imm (.int k n)) L = some (True, .imm (.int .i64 (IntKind.i64.wrap n))) := by
  simp [convA, ti3, ti52]

set_option maxHeartbeats 2000000 in
set_option maxRecDepth 10000 in
theorem tapeNear_ret (e' : Nat) (m : Mach) (c d : Conf) (n : Int) (hm : m.ok) (hc : c.ok) (hd : d.ok) (hn : u16ok n) :
    Ret Try.prog (e' + 7) 6 [m.av, c.av, d.av, .imm (.int .u16 n)] [] (.imm (.bool true)) [] := by
  obtain ⟨n0, n1⟩ := hn
  refine Ret.mkE Try.func6 rfl (of_decide_eq_true (by kernel_rfl)) Try.ntmps6 rfl ?_
  intro Q hQ1 hQ2
  refine Eq.mpr (congrFun (congrArg _ rfl) _) (?_ : awpW _ _ _ _ _ (un _))
  simp (maxSteps := 2000000) (disch := omega) only [go_sem, Nat.reduceSub, Nat.reduceAdd, Nat.reduceLT, Nat.reduceEqDiff, Nat.reduceBEq, Mach.av, Conf.av]
  refine call_imm (wide_ret _ m c hm hc) rfl rfl ?_
  cases hw1 : wide m c with
  | true =>
    simp (maxSteps := 2000000) (disch := omega) only [go_sem, Nat.reduceSub, Nat.reduceAdd, Nat.reduceLT, Nat.reduceEqDiff, Nat.reduceBEq]
    refine call_imm (awake_ret _) rfl rfl ?_
    simp (maxSteps := 2000000) (disch := omega) only [go_sem, Nat.reduceSub, Nat.reduceAdd, Nat.reduceLT, Nat.reduceEqDiff, Nat.reduceBEq]
    refine hQ2 _ _ (Fin.imm1 rfl (i := 8) ?_)
    simp (maxSteps := 2000000) (disch := omega) only [go_sem, Nat.reduceSub, Nat.reduceAdd, Nat.reduceLT, Nat.reduceEqDiff, Nat.reduceBEq]
  | false =>
  simp (maxSteps := 2000000) (disch := omega) only [go_sem, Nat.reduceSub, Nat.reduceAdd, Nat.reduceLT, Nat.reduceEqDiff, Nat.reduceBEq]
  refine call_imm (wide_ret _ m d hm hd) rfl rfl ?_
  cases hw2 : wide m d with
  | true =>
    simp (maxSteps := 2000000) (disch := omega) only [go_sem, Nat.reduceSub, Nat.reduceAdd, Nat.reduceLT, Nat.reduceEqDiff, Nat.reduceBEq]
    refine call_imm (awake_ret _) rfl rfl ?_
    simp (maxSteps := 2000000) (disch := omega) only [go_sem, Nat.reduceSub, Nat.reduceAdd, Nat.reduceLT, Nat.reduceEqDiff, Nat.reduceBEq]
    refine hQ2 _ _ (Fin.imm1 rfl (i := 8) ?_)
    simp (maxSteps := 2000000) (disch := omega) only [go_sem, Nat.reduceSub, Nat.reduceAdd, Nat.reduceLT, Nat.reduceEqDiff, Nat.reduceBEq]
  | false =>
  simp (maxSteps := 2000000) (disch := omega) only [go_sem, Nat.reduceSub, Nat.reduceAdd, Nat.reduceLT, Nat.reduceEqDiff, Nat.reduceBEq]
  refine call_imm (rfits_ret _ m c hm hc) rfl rfl ?_
  cases hf1 : fits m c with
  | false =>
    simp (maxSteps := 2000000) (disch := omega) only [go_sem, Nat.reduceSub, Nat.reduceAdd, Nat.reduceLT, Nat.reduceEqDiff, Nat.reduceBEq]
    refine call_imm (awake_ret _) rfl rfl ?_
    simp (maxSteps := 2000000) (disch := omega) only [go_sem, Nat.reduceSub, Nat.reduceAdd, Nat.reduceLT, Nat.reduceEqDiff, Nat.reduceBEq]
    refine hQ2 _ _ (Fin.imm1 rfl (i := 8) ?_)
    simp (maxSteps := 2000000) (disch := omega) only [go_sem, Nat.reduceSub, Nat.reduceAdd, Nat.reduceLT, Nat.reduceEqDiff, Nat.reduceBEq]
  | true =>
  simp (maxSteps := 2000000) (disch := omega) only [go_sem, Nat.reduceSub, Nat.reduceAdd, Nat.reduceLT, Nat.reduceEqDiff, Nat.reduceBEq]
  refine call_imm (rfits_ret _ m d hm hd) rfl rfl ?_
  cases hf2 : fits m d with
  | false =>
    simp (maxSteps := 2000000) (disch := omega) only [go_sem, Nat.reduceSub, Nat.reduceAdd, Nat.reduceLT, Nat.reduceEqDiff, Nat.reduceBEq]
    refine call_imm (awake_ret _) rfl rfl ?_
    simp (maxSteps := 2000000) (disch := omega) only [go_sem, Nat.reduceSub, Nat.reduceAdd, Nat.reduceLT, Nat.reduceEqDiff, Nat.reduceBEq]
    refine hQ2 _ _ (Fin.imm1 rfl (i := 8) ?_)
    simp (maxSteps := 2000000) (disch := omega) only [go_sem, Nat.reduceSub, Nat.reduceAdd, Nat.reduceLT, Nat.reduceEqDiff, Nat.reduceBEq]
  | true =>
  simp (maxSteps := 2000000) (disch := omega) only [go_sem, Nat.reduceSub, Nat.reduceAdd, Nat.reduceLT, Nat.reduceEqDiff, Nat.reduceBEq]
  refine call_imm (far_ret _ c hc) rfl rfl ?_
  cases hx1 : far c with
  | false =>
    simp (maxSteps := 2000000) (disch := omega) only [go_sem, Nat.reduceSub, Nat.reduceAdd, Nat.reduceLT, Nat.reduceEqDiff, Nat.reduceBEq]
    refine call_imm (awake_ret _) rfl rfl ?_
    simp (maxSteps := 2000000) (disch := omega) only [go_sem, Nat.reduceSub, Nat.reduceAdd, Nat.reduceLT, Nat.reduceEqDiff, Nat.reduceBEq]
    refine hQ2 _ _ (Fin.imm1 rfl (i := 8) ?_)
    simp (maxSteps := 2000000) (disch := omega) only [go_sem, Nat.reduceSub, Nat.reduceAdd, Nat.reduceLT, Nat.reduceEqDiff, Nat.reduceBEq]
  | true =>
  simp (maxSteps := 2000000) (disch := omega) only [go_sem, Nat.reduceSub, Nat.reduceAdd, Nat.reduceLT, Nat.reduceEqDiff, Nat.reduceBEq]
  refine call_imm (far_ret _ d hd) rfl rfl ?_
  cases hx2 : far d with
  | false =>
    simp (maxSteps := 2000000) (disch := omega) only [go_sem, Nat.reduceSub, Nat.reduceAdd, Nat.reduceLT, Nat.reduceEqDiff, Nat.reduceBEq]
    refine call_imm (awake_ret _) rfl rfl ?_
    simp (maxSteps := 2000000) (disch := omega) only [go_sem, Nat.reduceSub, Nat.reduceAdd, Nat.reduceLT, Nat.reduceEqDiff, Nat.reduceBEq]
    refine hQ2 _ _ (Fin.imm1 rfl (i := 8) ?_)
    simp (maxSteps := 2000000) (disch := omega) only [go_sem, Nat.reduceSub, Nat.reduceAdd, Nat.reduceLT, Nat.reduceEqDiff, Nat.reduceBEq]
  | true =>
  simp (maxSteps := 2000000) (disch := omega) only [go_sem, Nat.reduceSub, Nat.reduceAdd, Nat.reduceLT, Nat.reduceEqDiff, Nat.reduceBEq]
  refine Br.sp (fun hp e => ?_) (fun hp e => ?_) <;> simp (maxSteps := 2000000) (disch := omega) only [go_sem, Nat.reduceSub, Nat.reduceAdd, Nat.reduceLT, Nat.reduceEqDiff, Nat.reduceBEq, e]
  rotate_left
  · refine call_imm (awake_ret _) rfl rfl ?_
    simp (maxSteps := 2000000) (disch := omega) only [go_sem, Nat.reduceSub, Nat.reduceAdd, Nat.reduceLT, Nat.reduceEqDiff, Nat.reduceBEq]
    refine hQ2 _ _ (Fin.imm1 rfl (i := 8) ?_)
    simp (maxSteps := 2000000) (disch := omega) only [go_sem, Nat.reduceSub, Nat.reduceAdd, Nat.reduceLT, Nat.reduceEqDiff, Nat.reduceBEq]
  refine Br.sp (fun hs e2 => ?_) (fun hs e2 => ?_) <;> simp (maxSteps := 2000000) (disch := omega) only [go_sem, Nat.reduceSub, Nat.reduceAdd, Nat.reduceLT, Nat.reduceEqDiff, Nat.reduceBEq, e2]
  rotate_left
  · refine call_imm (awake_ret _) rfl rfl ?_
    simp (maxSteps := 2000000) (disch := omega) only [go_sem, Nat.reduceSub, Nat.reduceAdd, Nat.reduceLT, Nat.reduceEqDiff, Nat.reduceBEq]
    refine hQ2 _ _ (Fin.imm1 rfl (i := 8) ?_)
    simp (maxSteps := 2000000) (disch := omega) only [go_sem, Nat.reduceSub, Nat.reduceAdd, Nat.reduceLT, Nat.reduceEqDiff, Nat.reduceBEq]
  have hk : n.tmod 1001 = n % 1001 := Int.tmod_eq_emod_of_nonneg n0
  have k0 : 0 ≤ n.tmod 1001 := by omega
  have k1 : n.tmod 1001 ≤ 1000 := by omega
  refine ⟨by decide, ?_⟩
  clear hk
  generalize n.tmod 1001 = k at *
  rw [show IntKind.i64.wrap (0 - k) = -k from by rw [wrap_i64 (by omega) (by omega)]; omega]
  have xc : c.Far := by simpa [far] using hx1
  have xd : d.Far := by simpa [far] using hx2
  have p0 := xc.p0; have p1 := xc.p1
  refine awp_loopX (fun i : Int => tmP 158 .any [(4, .ptr 0 0), (5, .ptr 1 0), (6, .ptr 2 0), (9, .imm (.int .i64 k)), (10, .imm (.int .i64 i))] [])
    (fun _ => [.obj 0 [.imm (.int .i64 m.ns), .imm (.int .i64 m.ny), .imm (rowsIV m.rs)], .obj 0 [.imm (.int .i64 c.st), .imm (.int .i64 c.pos), .imm (.int .i64 c.fr), .imm (intsIV c.cs)], .obj 0 [.imm (.int .i64 d.st), .imm (.int .i64 d.pos), .imm (.int .i64 d.fr), .imm (intsIV d.cs)]])
    (fun i => -k ≤ i ∧ i ≤ k + 1 ∧ ∀ j, -k ≤ j → j < i → c.read (c.pos + j) = d.read (c.pos + j)) (fun i => (k + 1 - i).toNat) [.mask [4, 5, 6, 9, 10]] (-k) ?_ ⟨Int.le_refl _, by omega, fun j _ _ => by omega⟩ ?_
  · rw [gh_maskP rfl]; simp only [go_sem, Nat.reduceSub, Nat.reduceAdd, Nat.reduceEqDiff, Nat.reduceBEq]; try rfl
  rintro i ⟨i0, i1, hall⟩ Q1 hN1 hE1
  simp (maxSteps := 2000000) (disch := omega) only [go_sem, Nat.reduceSub, Nat.reduceAdd, Nat.reduceLT, Nat.reduceEqDiff, Nat.reduceBEq]
  refine Br.sp (fun h1 e1 => ?_) (fun h1 e1 => ?_) <;> simp (maxSteps := 2000000) (disch := omega) only [go_sem, Nat.reduceSub, Nat.reduceAdd, Nat.reduceLT, Nat.reduceEqDiff, Nat.reduceBEq, e1]
  · refine awp_draw [] (by kernel_rfl) (by kernel_rfl) ?_
    simp (maxSteps := 2000000) (disch := omega) only [go_sem, Nat.reduceSub, Nat.reduceAdd, Nat.reduceLT, Nat.reduceEqDiff, Nat.reduceBEq]
    refine call_imm (tread_ret _ c _ hc (by unfold i64ok; omega)) rfl rfl ?_
    simp (maxSteps := 2000000) (disch := omega) only [go_sem, Nat.reduceSub, Nat.reduceAdd, Nat.reduceLT, Nat.reduceEqDiff, Nat.reduceBEq]
    refine call_imm (tread_ret _ d _ hd (by unfold i64ok; omega)) rfl rfl ?_
    simp (maxSteps := 2000000) (disch := omega) only [go_sem, Nat.reduceSub, Nat.reduceAdd, Nat.reduceLT, Nat.reduceEqDiff, Nat.reduceBEq]
    refine Br.sp (fun h2 e3 => ?_) (fun h2 e3 => ?_) <;> simp (maxSteps := 2000000) (disch := omega) only [go_sem, Nat.reduceSub, Nat.reduceAdd, Nat.reduceLT, Nat.reduceEqDiff, Nat.reduceBEq, e3]
    · refine hN1 _ _ ⟨[.mask [4, 5, 6, 9, 10]], i + 1, ?_, ⟨by omega, by omega, fun j j0 j1 => ?_⟩, by omega⟩
      · rw [gh_maskP rfl]; simp only [go_sem, Nat.reduceSub, Nat.reduceAdd, Nat.reduceEqDiff, Nat.reduceBEq]; try rfl
      · by_cases q : j = i
        · rw [q, h2]
        · exact hall j j0 (by omega)
    · refine call_imm (awake_ret _) rfl rfl ?_
      simp (maxSteps := 2000000) (disch := omega) only [go_sem, Nat.reduceSub, Nat.reduceAdd, Nat.reduceLT, Nat.reduceEqDiff, Nat.reduceBEq]
      refine hE1 _ _ _ (fun h => by cases h) ?_
      simp (maxSteps := 2000000) (disch := omega) only [go_sem, Nat.reduceSub, Nat.reduceAdd, Nat.reduceLT, Nat.reduceEqDiff, Nat.reduceBEq]
      refine hQ2 _ _ (Fin.imm1 rfl (i := 8) ?_)
      simp (maxSteps := 2000000) (disch := omega) only [go_sem, Nat.reduceSub, Nat.reduceAdd, Nat.reduceLT, Nat.reduceEqDiff, Nat.reduceBEq]
  refine hE1 _ _ _ (fun h => by cases h) ?_
  simp (maxSteps := 2000000) (disch := omega) only [go_sem, Nat.reduceSub, Nat.reduceAdd, Nat.reduceLT, Nat.reduceEqDiff, Nat.reduceBEq]
  obtain ⟨z1, z2, N⟩ := near_law hm hc hd hf1 hf2 xc xd hs hp k0 k1 (fun j j0 j1 => hall j j0 (by omega))
  have wA := (far_runX hm hc hf1 xc k0 k1).2.1
  have wB := (far_runX hm hd hf2 xd k0 k1).2.1
  have oA := runX_ok hm hc k
  have oB := runX_ok hm hd k
  have rA := run_all (e' + 2) m c k hm hc
  have rB := run_all (e' + 2) m d k hm hd
  have lA := runX_le hm hc k0 (by omega : k ≤ 1000000)
  have lB := runX_le hm hd k0 (by omega : k ≤ 1000000)
  generalize runX m c k = A at *
  generalize runX m d k = B at *
  obtain ⟨ac, ai, ae⟩ := A
  obtain ⟨bc, bi, be⟩ := B
  simp only at z1 z2 N wA wB oA oB rA rB lA lB
  subst z1 z2
  have y1 := N.cnt; have y2 := N.st; have y3 := N.pos; have y4 := N.lo; have y5 := N.hi
  have v1 := wA.len; have v2 := wB.len; have v3 := wA.fr0; have v4 := wA.fr1; have v5 := wB.fr0; have v6 := wB.fr1; have v7 := wA.pos0; have v8 := wA.pos1
  have f0 := xc.f0; have f1 := xc.f1; have g0 := xd.f0; have g1 := xd.f1; have cl := xc.len; have dl := xd.len
  have O1 := others_ret (e' + 4) ac c k oA hc (by omega) (by omega) k0 k1 (by omega) (by omega) (by omega) (by omega) (by omega) (by omega) N.oa
  have O2 := others_ret (e' + 4) bc d k oB hd (by omega) (by omega) k0 k1 (by omega) (by omega) (by omega) (by omega) (by omega) (by omega) N.ob
  refine call_imm rA rfl rfl ?_
  simp (maxSteps := 2000000) (disch := omega) only [go_sem, Nat.reduceSub, Nat.reduceAdd, Nat.reduceLT, Nat.reduceEqDiff, Nat.reduceBEq, Conf.av]
  refine call_imm rB rfl rfl ?_
  simp (maxSteps := 2000000) (disch := omega) only [go_sem, Nat.reduceSub, Nat.reduceAdd, Nat.reduceLT, Nat.reduceEqDiff, Nat.reduceBEq, Conf.av]
  repeat' (refine Br.sp (fun h e => ?_) (fun h e => ?_) <;> simp (maxSteps := 2000000) (disch := omega) only [go_sem, Nat.reduceSub, Nat.reduceAdd, Nat.reduceLT, Nat.reduceEqDiff, Nat.reduceBEq, e])
  all_goals try (exfalso; omega)
  refine call_imm O1 rfl rfl ?_
  simp (maxSteps := 2000000) (disch := omega) only [go_sem, Nat.reduceSub, Nat.reduceAdd, Nat.reduceLT, Nat.reduceEqDiff, Nat.reduceBEq]
  refine call_imm O2 rfl rfl ?_
  simp (maxSteps := 2000000) (disch := omega) only [go_sem, Nat.reduceSub, Nat.reduceAdd, Nat.reduceLT, Nat.reduceEqDiff, Nat.reduceBEq]
  refine call_imm (awake_ret _) rfl rfl ?_
  simp (maxSteps := 2000000) (disch := omega) only [go_sem, Nat.reduceSub, Nat.reduceAdd, Nat.reduceLT, Nat.reduceEqDiff, Nat.reduceBEq]
  refine hQ2 _ _ (Fin.imm1 rfl (i := 8) ?_)
  simp (maxSteps := 2000000) (disch := omega) only [go_sem, Nat.reduceSub, Nat.reduceAdd, Nat.reduceLT, Nat.reduceEqDiff, Nat.reduceBEq]
end Go.Proofs.Ytbleionbmdpmeaa
