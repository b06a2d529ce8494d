/- A symbol written on a blank tape, where nothing changes, or too far from the others. -/
import Derived.Test.YtbleionbmdpmeaaT15
set_option linter.unusedVariables false
set_option linter.unusedSimpArgs false
namespace Go.Proofs.Ytbleionbmdpmeaa
open Go.Abs
theorem iv_put (l : List Int) (o : Nat) (v : Int) : putT (iv l) o (.imm (.int .i64 v)) = iv (l.set o v) := by
  simp only [putT_eq, iv, List.map_set]

set_option maxHeartbeats 1000000 in
set_option maxRecDepth 10000 in
theorem write_skip_ret (d : Nat) (m : Mach) (st pos lo hi z x : Int) (l : List Int) (hx : x = 0) (ho : pos < lo ∨ hi < pos) :
    Ret Try.prog (d + 1) 104 [.ptr 0 0, .imm (.int .i64 x)] [.obj 0 (walkC m 1 st pos lo hi), .obj 0 [.ref 2 0 l.length, .imm (.int .i64 z)], .obj 1 (iv l)] (.imm (.bool true))
      [.obj 0 (walkC m 3 st pos lo hi), .dead, .dead, .obj 0 [.ref 4 0 l.length, .imm (.int .i64 z)], .obj 1 (iv l)] := by
  refine Ret.mkE Try.func104 rfl (of_decide_eq_true (by kernel_rfl)) Try.ntmps104 rfl ?_
  intro Q hQ1 hQ2
  refine Eq.mpr (congrFun (congrArg _ rfl) _) (?_ : awpW _ _ _ _ _ (un _))
  simp (maxSteps := 2000000) (disch := omega) only [go_sem, Nat.reduceSub, Nat.reduceAdd, Nat.reduceLT, Nat.reduceEqDiff, Nat.reduceBEq, walkC]
  refine awp_draw [] (by kernel_rfl) (by kernel_rfl) ?_
  simp (maxSteps := 2000000) (disch := omega) only [go_sem, Nat.reduceSub, Nat.reduceAdd, Nat.reduceLT, Nat.reduceEqDiff, Nat.reduceBEq]
  repeat' (refine Br.sp (fun h e => ?_) (fun h e => ?_) <;> simp (maxSteps := 2000000) (disch := omega) only [go_sem, Nat.reduceSub, Nat.reduceAdd, Nat.reduceLT, Nat.reduceEqDiff, Nat.reduceBEq, e])
  all_goals try (exfalso; omega)
  all_goals
    refine hQ2 _ _ (Fin.sim [] [.re [some 0, none, none, some 1, some 2]] [.tmp 4] rfl gh_nil ?_)
    simp (maxSteps := 2000000) (disch := omega) only [go_sem, Nat.reduceSub, Nat.reduceAdd, Nat.reduceLT, Nat.reduceEqDiff, Nat.reduceBEq]
    rw [gh_re rfl]; simp only [go_sem, walkC, Nat.reduceAdd, Nat.reduceEqDiff, Nat.reduceBEq]

set_option maxHeartbeats 1000000 in
set_option maxRecDepth 10000 in
theorem write_far_ret (d : Nat) (m : Mach) (st pos lo hi z x : Int) (l : List Int) (hlh : lo ≤ hi) (hx : x = 0 → lo ≤ pos ∧ pos ≤ hi) (hsp : 100000 ≤ max hi pos - min lo pos) (hb0 : -4398046511104 ≤ lo) (hb1 : hi ≤ 4398046511104) (hb2 : -4398046511104 ≤ pos) (hb3 : pos ≤ 4398046511104) :
    Ret Try.prog (d + 1) 104 [.ptr 0 0, .imm (.int .i64 x)] [.obj 0 (walkC m 1 st pos lo hi), .obj 0 [.ref 2 0 l.length, .imm (.int .i64 z)], .obj 1 (iv l)] (.imm (.bool false))
      [.obj 0 (walkC m 3 st pos lo hi), .dead, .dead, .obj 0 [.ref 4 0 l.length, .imm (.int .i64 z)], .obj 1 (iv l)] := by
  refine Ret.mkE Try.func104 rfl (of_decide_eq_true (by kernel_rfl)) Try.ntmps104 rfl ?_
  intro Q hQ1 hQ2
  refine Eq.mpr (congrFun (congrArg _ rfl) _) (?_ : awpW _ _ _ _ _ (un _))
  simp (maxSteps := 2000000) (disch := omega) only [go_sem, Nat.reduceSub, Nat.reduceAdd, Nat.reduceLT, Nat.reduceEqDiff, Nat.reduceBEq, walkC]
  refine awp_draw [] (by kernel_rfl) (by kernel_rfl) ?_
  simp (maxSteps := 2000000) (disch := omega) only [go_sem, Nat.reduceSub, Nat.reduceAdd, Nat.reduceLT, Nat.reduceEqDiff, Nat.reduceBEq]
  repeat' (refine Br.sp (fun h e => ?_) (fun h e => ?_) <;> simp (maxSteps := 2000000) (disch := omega) only [go_sem, Nat.reduceSub, Nat.reduceAdd, Nat.reduceLT, Nat.reduceEqDiff, Nat.reduceBEq, e])
  all_goals try (exfalso; omega)
  all_goals
    refine awp_draw [] (by kernel_rfl) (by kernel_rfl) ?_
    simp (maxSteps := 2000000) (disch := omega) only [go_sem, Nat.reduceSub, Nat.reduceAdd, Nat.reduceLT, Nat.reduceEqDiff, Nat.reduceBEq]
    refine Br.sp (fun h3 e3 => ?_) (fun h3 e3 => ?_) <;> simp (maxSteps := 2000000) (disch := omega) only [go_sem, Nat.reduceSub, Nat.reduceAdd, Nat.reduceLT, Nat.reduceEqDiff, Nat.reduceBEq, e3]
    · exfalso; omega
    refine awp_draw [] (by kernel_rfl) (by kernel_rfl) ?_
    simp (maxSteps := 2000000) (disch := omega) only [go_sem, Nat.reduceSub, Nat.reduceAdd, Nat.reduceLT, Nat.reduceEqDiff, Nat.reduceBEq]
    refine Br.sp (fun h4 e4 => ?_) (fun h4 e4 => ?_) <;> simp (maxSteps := 2000000) (disch := omega) only [go_sem, Nat.reduceSub, Nat.reduceAdd, Nat.reduceLT, Nat.reduceEqDiff, Nat.reduceBEq, e4]
    rotate_left
    · exfalso; omega
    refine hQ2 _ _ (Fin.sim [] [.re [some 0, none, none, some 1, some 2]] [.tmp 4] rfl gh_nil ?_)
    simp (maxSteps := 2000000) (disch := omega) only [go_sem, Nat.reduceSub, Nat.reduceAdd, Nat.reduceLT, Nat.reduceEqDiff, Nat.reduceBEq]
    rw [gh_re rfl]; simp only [go_sem, walkC, Nat.reduceAdd, Nat.reduceEqDiff, Nat.reduceBEq]

set_option maxHeartbeats 1000000 in
set_option maxRecDepth 10000 in
theorem write_new_ret (d : Nat) (m : Mach) (st pos lo hi z x : Int) (l : List Int) (hlh : hi < lo) (hx : x ≠ 0) (hb2 : -2199023255552 ≤ pos) (hb3 : pos ≤ 2199023255552) :
    Ret Try.prog (d + 2) 104 [.ptr 0 0, .imm (.int .i64 x)] [.obj 0 (walkC m 1 st pos lo hi), .obj 0 [.ref 2 0 l.length, .imm (.int .i64 z)], .obj 1 (iv l)] (.imm (.bool (decide (hiOf ((List.replicate 16 0).set 8 x) (8 - pos) pos pos < loOf ((List.replicate 16 0).set 8 x) (8 - pos) pos pos ∨ -1099511627776 ≤ loOf ((List.replicate 16 0).set 8 x) (8 - pos) pos pos ∧ loOf ((List.replicate 16 0).set 8 x) (8 - pos) pos pos ≤ 1099511627776))))
      [.obj 0 (walkC m 3 st pos (loOf ((List.replicate 16 0).set 8 x) (8 - pos) pos pos) (hiOf ((List.replicate 16 0).set 8 x) (8 - pos) pos pos)), .dead, .dead, .obj 0 [.ref 4 0 (((List.replicate 16 0).set 8 x)).length, .imm (.int .i64 ((8 - pos)))], .obj 1 (iv ((List.replicate 16 0).set 8 x))] := by
  refine Ret.mkE Try.func104 rfl (of_decide_eq_true (by kernel_rfl)) Try.ntmps104 rfl ?_
  intro Q hQ1 hQ2
  refine Eq.mpr (congrFun (congrArg _ rfl) _) (?_ : awpW _ _ _ _ _ (un _))
  simp (maxSteps := 2000000) (disch := omega) only [go_sem, Nat.reduceSub, Nat.reduceAdd, Nat.reduceLT, Nat.reduceEqDiff, Nat.reduceBEq, walkC]
  refine awp_draw [] (by kernel_rfl) (by kernel_rfl) ?_
  simp (maxSteps := 2000000) (disch := omega) only [go_sem, Nat.reduceSub, Nat.reduceAdd, Nat.reduceLT, Nat.reduceEqDiff, Nat.reduceBEq]
  repeat' (refine Br.sp (fun h e => ?_) (fun h e => ?_) <;> simp (maxSteps := 2000000) (disch := omega) only [go_sem, Nat.reduceSub, Nat.reduceAdd, Nat.reduceLT, Nat.reduceEqDiff, Nat.reduceBEq, e])
  all_goals try (exfalso; omega)
  all_goals
    refine awp_draw [] (by kernel_rfl) (by kernel_rfl) ?_
    simp (maxSteps := 2000000) (disch := omega) only [go_sem, Nat.reduceSub, Nat.reduceAdd, Nat.reduceLT, Nat.reduceEqDiff, Nat.reduceBEq]
    refine Br.sp (fun h3 e3 => ?_) (fun h3 e3 => ?_) <;> simp (maxSteps := 2000000) (disch := omega) only [go_sem, Nat.reduceSub, Nat.reduceAdd, Nat.reduceLT, Nat.reduceEqDiff, Nat.reduceBEq, e3]
    rotate_left
    · exfalso; omega
    refine awp_draw [12, 15] (by kernel_rfl) (by kernel_rfl) ?_
    simp (maxSteps := 2000000) (disch := omega) only [go_sem, Nat.reduceSub, Nat.reduceAdd, Nat.reduceLT, Nat.reduceEqDiff, Nat.reduceBEq]
    refine awp_draw [8] (by kernel_rfl) (by kernel_rfl) ?_
    simp (maxSteps := 2000000) (disch := omega) only [go_sem, Nat.reduceSub, Nat.reduceAdd, Nat.reduceLT, Nat.reduceEqDiff, Nat.reduceBEq]
    refine call_lend [3] (at_new_ret d 0 pos (by omega) (by omega)) (by decide) (by intro p hp; simp at hp; subst hp; simp [getS]) ?_ ?_ (by simp) rfl rfl ?_
    · simp only [go_sem, Nat.reduceSub, Nat.reduceAdd, Nat.reduceEqDiff, Nat.reduceBEq]
    · simp only [go_sem, Nat.reduceSub, Nat.reduceAdd, Nat.reduceEqDiff, Nat.reduceBEq]
    simp (maxSteps := 2000000) (disch := omega) only [go_sem, Nat.reduceSub, Nat.reduceAdd, Nat.reduceLT, Nat.reduceEqDiff, Nat.reduceBEq, Int.reduceToNat]
    have hLl : ((List.replicate 16 0).set 8 x).length = 16 := by simp
    simp only [iv_put]
    have F1 : -3298534883328 ≤ pos := by omega
    have F2 : pos ≤ 3298534883328 := by omega
    have F3 : 0 ≤ pos + (8 - pos) := by omega
    have F4 : pos + (8 - pos) < ((List.replicate 16 0).set 8 x).length := by rw [hLl]; omega
    have F5 : ((List.replicate 16 0).set 8 x).length ≤ 1073741824 := by rw [hLl]; omega
    generalize ((List.replicate 16 0).set 8 x) = l2 at *
    generalize (8 - pos) = z2 at *
    rw [← hLl]

    refine awp_loopX (fun q : Nat × Int => tmP 224 .any [(0, .ptr 0 0)] [])
      (fun q => [.obj 0 (walkC m 3 st pos q.2 pos), .dead, .dead, .obj 0 [.ref 4 0 l2.length, .imm (.int .i64 z2)], .obj 1 (iv l2)])
      (fun q => pos ≤ q.2 ∧ q.2 ≤ pos + 1 ∧ pos - q.2 + 1 ≤ q.1 ∧ upTo l2 z2 pos q.1 q.2 = loOf l2 z2 pos pos) (fun q => q.1) [.mask [0], .re [some 0, none, none, some 3, some 4]] ((pos - pos + 1).toNat, pos) ?_ ⟨by simp only; omega, by simp only; omega, by simp only; omega, by simp only [loOf]⟩ ?_
    · rw [gh_maskP rfl, gh_re rfl]; simp only [go_sem, walkC, Nat.reduceAdd, Nat.reduceEqDiff, Nat.reduceBEq, List.length_set]
    rintro ⟨f, lo2⟩ ⟨hf0, hf1, hf2, hf3⟩ Q1 hN1 hE1
    simp only at hf0 hf1 hf2 hf3
    simp (maxSteps := 2000000) (disch := omega) only [go_sem, Nat.reduceSub, Nat.reduceAdd, Nat.reduceLT, Nat.reduceEqDiff, Nat.reduceBEq, walkC]
    have kont : lo2 = loOf l2 z2 pos pos → ∀ (gs : List Gh) (t : List AVal) (Ls : List Slot), ghosts 3 gs t Ls = some (tmP 224 .any [(0, .ptr 0 0)] [], [.obj 0 (walkC m 3 st pos lo2 pos), .dead, .dead, .obj 0 [.ref 4 0 l2.length, .imm (.int .i64 z2)], .obj 1 (iv l2)]) → Q1 (.exit 1) t Ls := by
      intro hlo2 gs t Ls ht
      refine hE1 _ _ _ (fun h => by cases h) ?_
      simp (maxSteps := 2000000) (disch := omega) only [go_sem, Nat.reduceSub, Nat.reduceAdd, Nat.reduceLT, Nat.reduceEqDiff, Nat.reduceBEq]
      refine awp_loopX (fun q : Nat × Int => tmP 224 .any [(0, .ptr 0 0)] [])
        (fun q => [.obj 0 (walkC m 3 st pos lo2 q.2), .dead, .dead, .obj 0 [.ref 4 0 l2.length, .imm (.int .i64 z2)], .obj 1 (iv l2)])
        (fun q => lo2 ≤ q.2 + 1 ∧ q.2 ≤ pos ∧ q.2 - lo2 + 1 ≤ q.1 ∧ dnTo l2 z2 lo2 q.1 q.2 = hiOf l2 z2 pos pos) (fun q => q.1) gs ((pos - lo2 + 1).toNat, pos) ?_ ⟨by simp only; omega, by simp only; omega, by simp only; omega, by simp only [hiOf, hlo2]⟩ ?_
      · rw [ht]
      rintro ⟨g, hi2⟩ ⟨hg0, hg1, hg2, hg3⟩ Q2 hN2 hE2
      simp only at hg0 hg1 hg2 hg3
      simp (maxSteps := 2000000) (disch := omega) only [go_sem, Nat.reduceSub, Nat.reduceAdd, Nat.reduceLT, Nat.reduceEqDiff, Nat.reduceBEq, walkC]
      refine awp_draw [] (by kernel_rfl) (by kernel_rfl) ?_
      simp (maxSteps := 2000000) (disch := omega) only [go_sem, Nat.reduceSub, Nat.reduceAdd, Nat.reduceLT, Nat.reduceEqDiff, Nat.reduceBEq]
      refine Br.sp (fun h e => ?_) (fun h e => ?_) <;> simp (maxSteps := 2000000) (disch := omega) only [go_sem, Nat.reduceSub, Nat.reduceAdd, Nat.reduceLT, Nat.reduceEqDiff, Nat.reduceBEq, e]
      · refine awp_draw [8] (by kernel_rfl) (by kernel_rfl) ?_
        simp (maxSteps := 2000000) (disch := omega) only [go_sem, Nat.reduceSub, Nat.reduceAdd, Nat.reduceLT, Nat.reduceEqDiff, Nat.reduceBEq]
        refine call_lend [3, 4] (at_id_ret d l2 z2 hi2 (by omega) (by omega) (by omega) (by omega) (by omega)) (by decide) (by intro p hp; simp at hp; rcases hp with rfl | rfl <;> simp [getS]) ?_ ?_ (by simp) rfl rfl ?_
        · simp only [go_sem, Nat.reduceSub, Nat.reduceAdd, Nat.reduceEqDiff, Nat.reduceBEq]
        · simp only [go_sem, Nat.reduceSub, Nat.reduceAdd, Nat.reduceEqDiff, Nat.reduceBEq]
        simp (maxSteps := 2000000) (disch := omega) only [go_sem, Nat.reduceSub, Nat.reduceAdd, Nat.reduceLT, Nat.reduceEqDiff, Nat.reduceBEq]
        refine Br.sp (fun h' e' => ?_) (fun h' e' => ?_) <;> simp (maxSteps := 2000000) (disch := omega) only [go_sem, Nat.reduceSub, Nat.reduceAdd, Nat.reduceLT, Nat.reduceEqDiff, Nat.reduceBEq, e']
        · obtain ⟨g, rfl⟩ : ∃ g', g = g' + 1 := ⟨g - 1, by omega⟩
          have hbz : bget l2 z2 hi2 = 0 := by rw [bget, if_pos (by omega)]; exact h'
          rw [dnTo, if_pos ⟨h, hbz⟩] at hg3
          refine hN2 _ _ ⟨[.mask [0], .re [some 0, none, none, some 3, some 5]], (g, hi2 - 1), ?_, ⟨by simp only; omega, by simp only; omega, by simp only; omega, hg3⟩, Nat.lt_succ_self _⟩
          rw [gh_maskP rfl, gh_re rfl]; simp only [go_sem, walkC, Nat.reduceAdd, Nat.reduceEqDiff, Nat.reduceBEq]
        · have hbz : bget l2 z2 hi2 ≠ 0 := by rw [bget, if_pos (by omega)]; exact h'
          have hfin : hi2 = hiOf l2 z2 pos pos := by
            rw [← hg3]; cases g with
            | zero => rfl
            | succ g => rw [dnTo, if_neg (fun q => hbz q.2)]
          refine hE2 _ _ _ (fun h => by cases h) ?_
          simp (maxSteps := 2000000) (disch := omega) only [go_sem, Nat.reduceSub, Nat.reduceAdd, Nat.reduceLT, Nat.reduceEqDiff, Nat.reduceBEq]
          refine awp_draw [] (by kernel_rfl) (by kernel_rfl) ?_
          simp (maxSteps := 2000000) (disch := omega) only [go_sem, Nat.reduceSub, Nat.reduceAdd, Nat.reduceLT, Nat.reduceEqDiff, Nat.reduceBEq]
          refine Br.sp (fun h6 e6 => ?_) (fun h6 e6 => ?_) <;> simp (maxSteps := 2000000) (disch := omega) only [go_sem, Nat.reduceSub, Nat.reduceAdd, Nat.reduceLT, Nat.reduceEqDiff, Nat.reduceBEq, e6]
          · refine hQ2 _ _ (Fin.sim [] [.re [some 0, none, none, some 3, some 5]] [.tmp 4] rfl gh_nil ?_)
            simp (maxSteps := 2000000) (disch := omega) only [go_sem, Nat.reduceSub, Nat.reduceAdd, Nat.reduceLT, Nat.reduceEqDiff, Nat.reduceBEq]
            rw [gh_re rfl, ← hfin, ← hlo2, decide_eq_true (by omega)]; simp only [go_sem, walkC, Nat.reduceAdd, Nat.reduceEqDiff, Nat.reduceBEq]
          · refine Br.sp (fun h7 e7 => ?_) (fun h7 e7 => ?_) <;> simp (maxSteps := 2000000) (disch := omega) only [go_sem, Nat.reduceSub, Nat.reduceAdd, Nat.reduceLT, Nat.reduceEqDiff, Nat.reduceBEq, e7]
            · refine hQ2 _ _ (Fin.sim [] [.re [some 0, none, none, some 3, some 5]] [.tmp 4] rfl gh_nil ?_)
              simp (maxSteps := 2000000) (disch := omega) only [go_sem, Nat.reduceSub, Nat.reduceAdd, Nat.reduceLT, Nat.reduceEqDiff, Nat.reduceBEq]
              have hd : decide (lo2 ≤ 1099511627776) = decide (hi2 < lo2 ∨ -1099511627776 ≤ lo2 ∧ lo2 ≤ 1099511627776) := decide_eq_decide.2 (by omega)
              rw [gh_re rfl, ← hfin, ← hlo2, hd]; simp only [go_sem, walkC, Nat.reduceAdd, Nat.reduceEqDiff, Nat.reduceBEq]
            · refine hQ2 _ _ (Fin.sim [] [.re [some 0, none, none, some 3, some 5]] [.tmp 4] rfl gh_nil ?_)
              simp (maxSteps := 2000000) (disch := omega) only [go_sem, Nat.reduceSub, Nat.reduceAdd, Nat.reduceLT, Nat.reduceEqDiff, Nat.reduceBEq]
              rw [gh_re rfl, ← hfin, ← hlo2, decide_eq_false (by omega)]; simp only [go_sem, walkC, Nat.reduceAdd, Nat.reduceEqDiff, Nat.reduceBEq]
      · have hfin : hi2 = hiOf l2 z2 pos pos := by
          rw [← hg3]; cases g with
          | zero => rfl
          | succ g => rw [dnTo, if_neg (fun q => h q.1)]
        refine hE2 _ _ _ (fun h => by cases h) ?_
        simp (maxSteps := 2000000) (disch := omega) only [go_sem, Nat.reduceSub, Nat.reduceAdd, Nat.reduceLT, Nat.reduceEqDiff, Nat.reduceBEq]
        refine awp_draw [] (by kernel_rfl) (by kernel_rfl) ?_
        simp (maxSteps := 2000000) (disch := omega) only [go_sem, Nat.reduceSub, Nat.reduceAdd, Nat.reduceLT, Nat.reduceEqDiff, Nat.reduceBEq]
        refine Br.sp (fun h6 e6 => ?_) (fun h6 e6 => ?_) <;> simp (maxSteps := 2000000) (disch := omega) only [go_sem, Nat.reduceSub, Nat.reduceAdd, Nat.reduceLT, Nat.reduceEqDiff, Nat.reduceBEq, e6]
        · refine hQ2 _ _ (Fin.sim [] [.re [some 0, none, none, some 3, some 4]] [.tmp 4] rfl gh_nil ?_)
          simp (maxSteps := 2000000) (disch := omega) only [go_sem, Nat.reduceSub, Nat.reduceAdd, Nat.reduceLT, Nat.reduceEqDiff, Nat.reduceBEq]
          rw [gh_re rfl, ← hfin, ← hlo2, decide_eq_true (by omega)]; simp only [go_sem, walkC, Nat.reduceAdd, Nat.reduceEqDiff, Nat.reduceBEq]
        · refine Br.sp (fun h7 e7 => ?_) (fun h7 e7 => ?_) <;> simp (maxSteps := 2000000) (disch := omega) only [go_sem, Nat.reduceSub, Nat.reduceAdd, Nat.reduceLT, Nat.reduceEqDiff, Nat.reduceBEq, e7]
          · refine hQ2 _ _ (Fin.sim [] [.re [some 0, none, none, some 3, some 4]] [.tmp 4] rfl gh_nil ?_)
            simp (maxSteps := 2000000) (disch := omega) only [go_sem, Nat.reduceSub, Nat.reduceAdd, Nat.reduceLT, Nat.reduceEqDiff, Nat.reduceBEq]
            have hd : decide (lo2 ≤ 1099511627776) = decide (hi2 < lo2 ∨ -1099511627776 ≤ lo2 ∧ lo2 ≤ 1099511627776) := decide_eq_decide.2 (by omega)
            rw [gh_re rfl, ← hfin, ← hlo2, hd]; simp only [go_sem, walkC, Nat.reduceAdd, Nat.reduceEqDiff, Nat.reduceBEq]
          · refine hQ2 _ _ (Fin.sim [] [.re [some 0, none, none, some 3, some 4]] [.tmp 4] rfl gh_nil ?_)
            simp (maxSteps := 2000000) (disch := omega) only [go_sem, Nat.reduceSub, Nat.reduceAdd, Nat.reduceLT, Nat.reduceEqDiff, Nat.reduceBEq]
            rw [gh_re rfl, ← hfin, ← hlo2, decide_eq_false (by omega)]; simp only [go_sem, walkC, Nat.reduceAdd, Nat.reduceEqDiff, Nat.reduceBEq]
    refine awp_draw [] (by kernel_rfl) (by kernel_rfl) ?_
    simp (maxSteps := 2000000) (disch := omega) only [go_sem, Nat.reduceSub, Nat.reduceAdd, Nat.reduceLT, Nat.reduceEqDiff, Nat.reduceBEq]
    refine Br.sp (fun h e => ?_) (fun h e => ?_) <;> simp (maxSteps := 2000000) (disch := omega) only [go_sem, Nat.reduceSub, Nat.reduceAdd, Nat.reduceLT, Nat.reduceEqDiff, Nat.reduceBEq, e]
    · refine awp_draw [8] (by kernel_rfl) (by kernel_rfl) ?_
      simp (maxSteps := 2000000) (disch := omega) only [go_sem, Nat.reduceSub, Nat.reduceAdd, Nat.reduceLT, Nat.reduceEqDiff, Nat.reduceBEq]
      refine call_lend [3, 4] (at_id_ret d l2 z2 lo2 (by omega) (by omega) (by omega) (by omega) (by omega)) (by decide) (by intro p hp; simp at hp; rcases hp with rfl | rfl <;> simp [getS]) ?_ ?_ (by simp) rfl rfl ?_
      · simp only [go_sem, Nat.reduceSub, Nat.reduceAdd, Nat.reduceEqDiff, Nat.reduceBEq]
      · simp only [go_sem, Nat.reduceSub, Nat.reduceAdd, Nat.reduceEqDiff, Nat.reduceBEq]
      simp (maxSteps := 2000000) (disch := omega) only [go_sem, Nat.reduceSub, Nat.reduceAdd, Nat.reduceLT, Nat.reduceEqDiff, Nat.reduceBEq]
      refine Br.sp (fun h' e' => ?_) (fun h' e' => ?_) <;> simp (maxSteps := 2000000) (disch := omega) only [go_sem, Nat.reduceSub, Nat.reduceAdd, Nat.reduceLT, Nat.reduceEqDiff, Nat.reduceBEq, e']
      · obtain ⟨f, rfl⟩ : ∃ g', f = g' + 1 := ⟨f - 1, by omega⟩
        have hbz : bget l2 z2 lo2 = 0 := by rw [bget, if_pos (by omega)]; exact h'
        rw [upTo, if_pos ⟨h, hbz⟩] at hf3
        refine hN1 _ _ ⟨[.mask [0], .re [some 0, none, none, some 3, some 5]], (f, lo2 + 1), ?_, ⟨by simp only; omega, by simp only; omega, by simp only; omega, hf3⟩, Nat.lt_succ_self _⟩
        rw [gh_maskP rfl, gh_re rfl]; simp only [go_sem, walkC, Nat.reduceAdd, Nat.reduceEqDiff, Nat.reduceBEq]
      · have hbz : bget l2 z2 lo2 ≠ 0 := by rw [bget, if_pos (by omega)]; exact h'
        refine kont (by
          rw [← hf3]; cases f with
          | zero => rfl
          | succ f => rw [upTo, if_neg (fun q => hbz q.2)]) [.mask [0], .re [some 0, none, none, some 3, some 5]] _ _ ?_
        rw [gh_maskP rfl, gh_re rfl]; simp only [go_sem, walkC, Nat.reduceAdd, Nat.reduceEqDiff, Nat.reduceBEq]
    · refine kont (by
        rw [← hf3]; cases f with
        | zero => rfl
        | succ f => rw [upTo, if_neg (fun q => h q.1)]) [.mask [0]] _ _ ?_
      rw [gh_maskP rfl]; simp only [go_sem, walkC, Nat.reduceAdd, Nat.reduceEqDiff, Nat.reduceBEq]
end Go.Proofs.Ytbleionbmdpmeaa
