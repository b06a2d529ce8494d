/- The symbol at the head; a symbol written. -/
import Derived.Test.YtbleionbmdpmeaaT13
set_option linter.unusedVariables false
set_option linter.unusedSimpArgs false
namespace Go.Proofs.Ytbleionbmdpmeaa
open Go.Abs

/-- the cells of a walk, the band in slot b -/
def walkC (m : Mach) (b : Nat) (st pos lo hi : Int) : List AVal :=
  [.imm (.int .i64 m.ns), .imm (.int .i64 m.ny), .imm (rowsIV m.rs), .ptr b 0, .imm (.int .i64 st), .imm (.int .i64 pos), .imm (.int .i64 lo), .imm (.int .i64 hi)]

set_option maxHeartbeats 400000 in
set_option maxRecDepth 10000 in
/-- the head outside -/
theorem symbol_out_ret (d : Nat) (m : Mach) (st pos lo hi z : Int) (l : List Int) (h : pos < lo ∨ hi < pos) :
    Ret Try.prog (d + 1) 103 [.ptr 0 0] [.obj 0 (walkC m 1 st pos lo hi), .obj 0 [.ref 2 0 l.length, .imm (.int .i64 z)], .obj 1 (iv l)] (.imm (.int .i64 0))
      [.obj 0 (walkC m 1 st pos lo hi), .obj 0 [.ref 3 0 l.length, .imm (.int .i64 z)], .dead, .obj 1 (iv l)] := by
  refine Ret.mk Try.func103 rfl (of_decide_eq_true (by kernel_rfl)) (by rw [Try.ntmps103]; exact Nat.le_of_ble_eq_true rfl) ?_
  intro Q hQ1 hQ2
  rw [Try.ntmps103]
  refine Eq.mpr (congrFun (congrArg _ rfl) _) (?_ : awpW _ _ _ _ _ (un _))
  simp (disch := omega) only [go_sem, walkC, Nat.reduceSub, Nat.reduceAdd, Nat.reduceLT]
  refine awp_draw [] (by kernel_rfl) (by kernel_rfl) ?_
  simp (disch := omega) only [go_sem, Nat.reduceSub, Nat.reduceAdd, Nat.reduceLT]
  refine Br.sp (fun h1 e1 => ?_) (fun h1 e1 => ?_) <;> simp (disch := omega) only [go_sem, Nat.reduceSub, Nat.reduceAdd, Nat.reduceLT, Nat.reduceEqDiff, e1]
  rotate_left
  refine Br.sp (fun h2 e2 => ?_) (fun h2 e2 => ?_) <;> simp (disch := omega) only [go_sem, Nat.reduceSub, Nat.reduceAdd, Nat.reduceLT, Nat.reduceEqDiff, e2]
  rotate_left
  · exfalso; omega
  all_goals
    refine hQ2 _ _ (Fin.sim [] [.re [some 0, some 1, none, some 2]] [.tmp 2] rfl gh_nil ?_)
    simp (disch := omega) only [go_sem, Nat.reduceSub, Nat.reduceAdd, Nat.reduceLT, Nat.reduceEqDiff]
    rw [gh_re rfl]; simp only [go_sem, walkC, Nat.reduceAdd, Nat.reduceEqDiff]

set_option maxHeartbeats 400000 in
set_option maxRecDepth 10000 in
/-- the head inside -/
theorem symbol_in_ret (d : Nat) (A B : Int) (m : Mach) (st pos lo hi z : Int) (l : List Int) (hA0 : -4398046511104 ≤ A) (hB0 : B ≤ 4398046511104) (hAB : B - A ≤ 4294967296) (hA : A ≤ pos) (hB : pos ≤ B) (hg : Good A B l.length z)
    (h1 : lo ≤ pos) (h2 : pos ≤ hi) :
    Ret Try.prog (d + 2) 103 [.ptr 0 0] [.obj 0 (walkC m 1 st pos lo hi), .obj 0 [.ref 2 0 l.length, .imm (.int .i64 z)], .obj 1 (iv l)] (.imm (.int .i64 (bget l z pos)))
      [.obj 0 (walkC m 1 st pos lo hi), .obj 0 [.ref 3 0 (bandAt l z pos).1.length, .imm (.int .i64 (bandAt l z pos).2)], .dead, .obj 1 (iv (bandAt l z pos).1)] := by
  refine Ret.mk Try.func103 rfl (of_decide_eq_true (by kernel_rfl)) (by rw [Try.ntmps103]; exact Nat.le_of_ble_eq_true rfl) ?_
  intro Q hQ1 hQ2
  rw [Try.ntmps103]
  refine Eq.mpr (congrFun (congrArg _ rfl) _) (?_ : awpW _ _ _ _ _ (un _))
  simp (disch := omega) only [go_sem, walkC, Nat.reduceSub, Nat.reduceAdd, Nat.reduceLT]
  refine awp_draw [] (by kernel_rfl) (by kernel_rfl) ?_
  simp (disch := omega) only [go_sem, Nat.reduceSub, Nat.reduceAdd, Nat.reduceLT]
  have e1 : (pos < lo) = False := eq_false (by omega)
  have e2 : (hi < pos) = False := eq_false (by omega)
  simp (disch := omega) only [go_sem, Nat.reduceSub, Nat.reduceAdd, Nat.reduceLT, Nat.reduceEqDiff, e1, e2]
  refine awp_draw [8] (by kernel_rfl) (by kernel_rfl) ?_
  simp (disch := omega) only [go_sem, Nat.reduceSub, Nat.reduceAdd, Nat.reduceLT, Nat.reduceEqDiff]
  have S := bandAt_spec hA hB hg
  have hgood := S.good
  have hlo := S.lo
  have hhi := S.hi
  have hsame := S.same pos
  refine call_lend [1, 2] (at_ret d A B l z pos hA0 hB0 hAB hA hB hg) (by decide) (by intro p hp; simp at hp; rcases hp with rfl | rfl <;> simp [getS]) ?_ ?_ (by simp) rfl rfl ?_
  · simp only [go_sem, Nat.reduceSub, Nat.reduceAdd, Nat.reduceEqDiff]
  · simp only [go_sem, Nat.reduceSub, Nat.reduceAdd, Nat.reduceEqDiff]
  simp (disch := omega) only [go_sem, Nat.reduceSub, Nat.reduceAdd, Nat.reduceLT, Nat.reduceEqDiff]
  refine ⟨.inl rfl, hQ2 _ _ (Fin.sim [] [.re [some 0, some 1, none, some 3]] [.tmp 2] rfl gh_nil ?_)⟩
  simp (disch := omega) only [go_sem, Nat.reduceSub, Nat.reduceAdd, Nat.reduceLT, Nat.reduceEqDiff]
  have hb : (bandAt l z pos).1.getD (pos + (bandAt l z pos).2).toNat 0 = bget l z pos := by
    rw [← hsame, bget, if_pos ⟨hlo, hhi⟩]
  rw [gh_re rfl, hb]; simp only [go_sem, walkC, Nat.reduceAdd, Nat.reduceEqDiff]
end Go.Proofs.Ytbleionbmdpmeaa
