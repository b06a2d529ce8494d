/- A symbol written at the head: the window of what is not 0 shrinks or grows. -/
import Derived.Test.YtbleionbmdpmeaaT14
import Derived.Test.YtbleionbmdpmeaaAbsQ
set_option linter.unusedVariables false
set_option linter.unusedSimpArgs false
namespace Go.Proofs.Ytbleionbmdpmeaa
open Go.Abs

def upTo (l : List Int) (z hi : Int) : Nat → Int → Int
  | 0, lo => lo
  | f + 1, lo => if lo ≤ hi ∧ bget l z lo = 0 then upTo l z hi f (lo + 1) else lo
def dnTo (l : List Int) (z lo : Int) : Nat → Int → Int
  | 0, hi => hi
  | f + 1, hi => if lo ≤ hi ∧ bget l z hi = 0 then dnTo l z lo f (hi - 1) else hi
def loOf (l : List Int) (z lo hi : Int) : Int := upTo l z hi (hi - lo + 1).toNat lo
def hiOf (l : List Int) (z lo hi : Int) : Int := dnTo l z (loOf l z lo hi) (hi - loOf l z lo hi + 1).toNat hi

theorem upTo_ge (l : List Int) (z hi : Int) : ∀ f lo, lo ≤ upTo l z hi f lo
  | 0, lo => Int.le_refl _
  | f + 1, lo => by unfold upTo; split
                    · have := upTo_ge l z hi f (lo + 1); omega
                    · omega
theorem upTo_le (l : List Int) (z hi : Int) : ∀ f lo, lo ≤ hi + 1 → upTo l z hi f lo ≤ hi + 1
  | 0, lo, h => h
  | f + 1, lo, h => by unfold upTo; split
                       · exact upTo_le l z hi f (lo + 1) (by omega)
                       · exact h
theorem dnTo_le (l : List Int) (z lo : Int) : ∀ f hi, dnTo l z lo f hi ≤ hi
  | 0, hi => Int.le_refl _
  | f + 1, hi => by unfold dnTo; split
                    · have := dnTo_le l z lo f (hi - 1); omega
                    · omega

theorem at_id_ret (d : Nat) (l : List Int) (z pos : Int) (h0 : 0 ≤ pos + z) (h1 : pos + z < l.length) (hp0 : -3298534883328 ≤ pos) (hp1 : pos ≤ 3298534883328) (hl : l.length ≤ 1073741824) :
    Ret Try.prog (d + 1) 109 [.ptr 0 0, .imm (.int .i64 pos)] [.obj 0 [.ref 1 0 l.length, .imm (.int .i64 z)], .obj 1 (iv l)] (.imm (.int .i64 (pos + z))) [.obj 0 [.ref 2 0 l.length, .imm (.int .i64 z)], .dead, .obj 1 (iv l)] := by
  have := at_ret d (-z) (l.length - z) l z pos (by omega) (by omega) (by omega) (by omega) (by omega) ⟨by omega, .inl ⟨by omega, by omega⟩⟩
  rwa [bandAt_in h0 h1] at this

set_option maxHeartbeats 1000000 in
set_option maxRecDepth 10000 in
theorem write_in_ret (d : Nat) (A B : Int) (m : Mach) (st pos lo hi z x : Int) (l : List Int) (hA0 : -2199023255552 ≤ A) (hB0 : B ≤ 2199023255552) (hAB : B - A ≤ 16777216) (hA : A ≤ pos) (hB : pos ≤ B) (hg : Good A B l.length z)
    (hlh : lo ≤ hi) (hw0 : 0 ≤ lo + z) (hw1 : hi + z < l.length) (hx : x = 0 → lo ≤ pos ∧ pos ≤ hi) (hsp : max hi pos - min lo pos < 100000) :
    Ret Try.prog (d + 2) 104 [.ptr 0 0, .imm (.int .i64 x)] [.obj 0 (walkC m 1 st pos lo hi), .obj 0 [.ref 2 0 l.length, .imm (.int .i64 z)], .obj 1 (iv l)] (.imm (.bool (decide (hiOf ((bandAt l z pos).1.set (pos + (bandAt l z pos).2).toNat x) (bandAt l z pos).2 (min lo pos) (max hi pos) < loOf ((bandAt l z pos).1.set (pos + (bandAt l z pos).2).toNat x) (bandAt l z pos).2 (min lo pos) (max hi pos) ∨ -1099511627776 ≤ loOf ((bandAt l z pos).1.set (pos + (bandAt l z pos).2).toNat x) (bandAt l z pos).2 (min lo pos) (max hi pos) ∧ loOf ((bandAt l z pos).1.set (pos + (bandAt l z pos).2).toNat x) (bandAt l z pos).2 (min lo pos) (max hi pos) ≤ 1099511627776)))) [.obj 0 (walkC m 3 st pos (loOf ((bandAt l z pos).1.set (pos + (bandAt l z pos).2).toNat x) (bandAt l z pos).2 (min lo pos) (max hi pos)) (hiOf ((bandAt l z pos).1.set (pos + (bandAt l z pos).2).toNat x) (bandAt l z pos).2 (min lo pos) (max hi pos))), .dead, .dead, .obj 0 [.ref 4 0 (((bandAt l z pos).1.set (pos + (bandAt l z pos).2).toNat x)).length, .imm (.int .i64 ((bandAt l z pos).2))], .obj 1 (iv ((bandAt l z pos).1.set (pos + (bandAt l z pos).2).toNat x))] := by
  refine Ret.mkE Try.func104 rfl (of_decide_eq_true (by kernel_rfl)) Try.ntmps104 rfl ?_
  intro Q hQ1 hQ2
  refine Eq.mpr (congrFun (congrArg _ rfl) _) (?_ : awpW _ _ _ _ _ (un _))
  simp (maxSteps := 2000000) (disch := omega) only [go_sem, Nat.reduceSub, Nat.reduceAdd, Nat.reduceLT, Nat.reduceEqDiff, Nat.reduceBEq, walkC]
  refine awp_draw [] (by kernel_rfl) (by kernel_rfl) ?_
  simp (maxSteps := 2000000) (disch := omega) only [go_sem, Nat.reduceSub, Nat.reduceAdd, Nat.reduceLT, Nat.reduceEqDiff, Nat.reduceBEq]
  have S := bandAt_spec hA hB hg
  have s1 := S.good
  have s2 := S.lo
  have s3 := S.hi
  have s4 := S.left
  have s5 := S.right
  repeat' (refine Br.sp (fun h e => ?_) (fun h e => ?_) <;> simp (maxSteps := 2000000) (disch := omega) only [go_sem, Nat.reduceSub, Nat.reduceAdd, Nat.reduceLT, Nat.reduceEqDiff, Nat.reduceBEq, e])
  all_goals try (exfalso; omega)
  all_goals
    refine awp_draw [] (by kernel_rfl) (by kernel_rfl) ?_
    simp (maxSteps := 2000000) (disch := omega) only [go_sem, Nat.reduceSub, Nat.reduceAdd, Nat.reduceLT, Nat.reduceEqDiff, Nat.reduceBEq]
    refine Br.sp (fun h3 e3 => ?_) (fun h3 e3 => ?_) <;> simp (maxSteps := 2000000) (disch := omega) only [go_sem, Nat.reduceSub, Nat.reduceAdd, Nat.reduceLT, Nat.reduceEqDiff, Nat.reduceBEq, e3]
    · exfalso; omega
    refine awp_draw [] (by kernel_rfl) (by kernel_rfl) ?_
    simp (maxSteps := 2000000) (disch := omega) only [go_sem, Nat.reduceSub, Nat.reduceAdd, Nat.reduceLT, Nat.reduceEqDiff, Nat.reduceBEq]
    refine Br.sp (fun h4 e4 => ?_) (fun h4 e4 => ?_) <;> simp (maxSteps := 2000000) (disch := omega) only [go_sem, Nat.reduceSub, Nat.reduceAdd, Nat.reduceLT, Nat.reduceEqDiff, Nat.reduceBEq, e4]
    · exfalso; omega
    refine awp_draw [22, 25] (by kernel_rfl) (by kernel_rfl) ?_
    simp (maxSteps := 2000000) (disch := omega) only [go_sem, Nat.reduceSub, Nat.reduceAdd, Nat.reduceLT, Nat.reduceEqDiff, Nat.reduceBEq]
    refine awp_draw [8] (by kernel_rfl) (by kernel_rfl) ?_
    simp (maxSteps := 2000000) (disch := omega) only [go_sem, Nat.reduceSub, Nat.reduceAdd, Nat.reduceLT, Nat.reduceEqDiff, Nat.reduceBEq]
    refine call_lend [1, 2] (at_ret d A B l z pos (by omega) (by omega) (by omega) hA hB hg) (by decide) (by intro p hp; simp at hp; rcases hp with rfl | rfl <;> simp [getS]) ?_ ?_ (by simp) rfl rfl ?_
    · simp only [go_sem, Nat.reduceSub, Nat.reduceAdd, Nat.reduceEqDiff, Nat.reduceBEq]
    · simp only [go_sem, Nat.reduceSub, Nat.reduceAdd, Nat.reduceEqDiff, Nat.reduceBEq]
    simp (maxSteps := 2000000) (disch := omega) only [go_sem, Nat.reduceSub, Nat.reduceAdd, Nat.reduceLT, Nat.reduceEqDiff, Nat.reduceBEq]
    have hLl : ((bandAt l z pos).1.set (pos + (bandAt l z pos).2).toNat x).length = (bandAt l z pos).1.length := List.length_set
    rw [← hLl]
    have F1 : -3298534883328 ≤ min lo pos := by omega
    have F2 : max hi pos ≤ 3298534883328 := by omega
    have F3 : 0 ≤ min lo pos + (bandAt l z pos).2 := by omega
    have F4 : max hi pos + (bandAt l z pos).2 < ((bandAt l z pos).1.set (pos + (bandAt l z pos).2).toNat x).length := by omega
    have F5 : ((bandAt l z pos).1.set (pos + (bandAt l z pos).2).toNat x).length ≤ 1073741824 := by
      rw [hLl]; unfold Good at s1; omega
    have F6 : min lo pos ≤ max hi pos := by omega
    clear S s1 s2 s3 s4 s5 hsp hx hw0 hw1 hg hLl h3 h4 e3 e4
    generalize ((bandAt l z pos).1.set (pos + (bandAt l z pos).2).toNat x) = l2 at *
    generalize (bandAt l z pos).2 = z2 at *
    generalize min lo pos = lo1 at *
    generalize max hi pos = hi1 at *
    clear hA0 hB0 hAB hA hB hlh

    refine awp_loopX (fun q : Nat × Int => tmP 224 .any [(0, .ptr 0 0)] [])
      (fun q => [.obj 0 (walkC m 3 st pos q.2 hi1), .dead, .dead, .obj 0 [.ref 4 0 l2.length, .imm (.int .i64 z2)], .obj 1 (iv l2)])
      (fun q => lo1 ≤ q.2 ∧ q.2 ≤ hi1 + 1 ∧ hi1 - q.2 + 1 ≤ q.1 ∧ upTo l2 z2 hi1 q.1 q.2 = loOf l2 z2 lo1 hi1) (fun q => q.1) [.mask [0], .re [some 0, none, none, some 1, some 3]] ((hi1 - lo1 + 1).toNat, lo1) ?_ ⟨by simp only; omega, by simp only; omega, by simp only; omega, by simp only [loOf]⟩ ?_
    · rw [gh_maskP rfl, gh_re rfl]; simp only [go_sem, walkC, Nat.reduceAdd, Nat.reduceEqDiff, Nat.reduceBEq, List.length_set]
    rintro ⟨f, lo2⟩ ⟨hf0, hf1, hf2, hf3⟩ Q1 hN1 hE1
    simp only at hf0 hf1 hf2 hf3
    simp (maxSteps := 2000000) (disch := omega) only [go_sem, Nat.reduceSub, Nat.reduceAdd, Nat.reduceLT, Nat.reduceEqDiff, Nat.reduceBEq, walkC]
    have kont : lo2 = loOf l2 z2 lo1 hi1 → ∀ (gs : List Gh) (t : List AVal) (Ls : List Slot), ghosts 3 gs t Ls = some (tmP 224 .any [(0, .ptr 0 0)] [], [.obj 0 (walkC m 3 st pos lo2 hi1), .dead, .dead, .obj 0 [.ref 4 0 l2.length, .imm (.int .i64 z2)], .obj 1 (iv l2)]) → Q1 (.exit 1) t Ls := by
      intro hlo2 gs t Ls ht
      refine hE1 _ _ _ (fun h => by cases h) ?_
      simp (maxSteps := 2000000) (disch := omega) only [go_sem, Nat.reduceSub, Nat.reduceAdd, Nat.reduceLT, Nat.reduceEqDiff, Nat.reduceBEq]
      refine awp_loopX (fun q : Nat × Int => tmP 224 .any [(0, .ptr 0 0)] [])
        (fun q => [.obj 0 (walkC m 3 st pos lo2 q.2), .dead, .dead, .obj 0 [.ref 4 0 l2.length, .imm (.int .i64 z2)], .obj 1 (iv l2)])
        (fun q => lo2 ≤ q.2 + 1 ∧ q.2 ≤ hi1 ∧ q.2 - lo2 + 1 ≤ q.1 ∧ dnTo l2 z2 lo2 q.1 q.2 = hiOf l2 z2 lo1 hi1) (fun q => q.1) gs ((hi1 - lo2 + 1).toNat, hi1) ?_ ⟨by simp only; omega, by simp only; omega, by simp only; omega, by simp only [hiOf, hlo2]⟩ ?_
      · rw [ht]
      rintro ⟨g, hi2⟩ ⟨hg0, hg1, hg2, hg3⟩ Q2 hN2 hE2
      simp only at hg0 hg1 hg2 hg3
      simp (maxSteps := 2000000) (disch := omega) only [go_sem, Nat.reduceSub, Nat.reduceAdd, Nat.reduceLT, Nat.reduceEqDiff, Nat.reduceBEq, walkC]
      refine awp_draw [] (by kernel_rfl) (by kernel_rfl) ?_
      simp (maxSteps := 2000000) (disch := omega) only [go_sem, Nat.reduceSub, Nat.reduceAdd, Nat.reduceLT, Nat.reduceEqDiff, Nat.reduceBEq]
      refine Br.sp (fun h e => ?_) (fun h e => ?_) <;> simp (maxSteps := 2000000) (disch := omega) only [go_sem, Nat.reduceSub, Nat.reduceAdd, Nat.reduceLT, Nat.reduceEqDiff, Nat.reduceBEq, e]
      · refine awp_draw [8] (by kernel_rfl) (by kernel_rfl) ?_
        simp (maxSteps := 2000000) (disch := omega) only [go_sem, Nat.reduceSub, Nat.reduceAdd, Nat.reduceLT, Nat.reduceEqDiff, Nat.reduceBEq]
        refine call_lend [3, 4] (at_id_ret d l2 z2 hi2 (by omega) (by omega) (by omega) (by omega) (by omega)) (by decide) (by intro p hp; simp at hp; rcases hp with rfl | rfl <;> simp [getS]) ?_ ?_ (by simp) rfl rfl ?_
        · simp only [go_sem, Nat.reduceSub, Nat.reduceAdd, Nat.reduceEqDiff, Nat.reduceBEq]
        · simp only [go_sem, Nat.reduceSub, Nat.reduceAdd, Nat.reduceEqDiff, Nat.reduceBEq]
        simp (maxSteps := 2000000) (disch := omega) only [go_sem, Nat.reduceSub, Nat.reduceAdd, Nat.reduceLT, Nat.reduceEqDiff, Nat.reduceBEq]
        refine Br.sp (fun h' e' => ?_) (fun h' e' => ?_) <;> simp (maxSteps := 2000000) (disch := omega) only [go_sem, Nat.reduceSub, Nat.reduceAdd, Nat.reduceLT, Nat.reduceEqDiff, Nat.reduceBEq, e']
        · obtain ⟨g, rfl⟩ : ∃ g', g = g' + 1 := ⟨g - 1, by omega⟩
          have hbz : bget l2 z2 hi2 = 0 := by rw [bget, if_pos (by omega)]; exact h'
          rw [dnTo, if_pos ⟨h, hbz⟩] at hg3
          refine hN2 _ _ ⟨[.mask [0], .re [some 0, none, none, some 3, some 5]], (g, hi2 - 1), ?_, ⟨by simp only; omega, by simp only; omega, by simp only; omega, hg3⟩, Nat.lt_succ_self _⟩
          rw [gh_maskP rfl, gh_re rfl]; simp only [go_sem, walkC, Nat.reduceAdd, Nat.reduceEqDiff, Nat.reduceBEq]
        · have hbz : bget l2 z2 hi2 ≠ 0 := by rw [bget, if_pos (by omega)]; exact h'
          have hfin : hi2 = hiOf l2 z2 lo1 hi1 := by
            rw [← hg3]; cases g with
            | zero => rfl
            | succ g => rw [dnTo, if_neg (fun q => hbz q.2)]
          refine hE2 _ _ _ (fun h => by cases h) ?_
          simp (maxSteps := 2000000) (disch := omega) only [go_sem, Nat.reduceSub, Nat.reduceAdd, Nat.reduceLT, Nat.reduceEqDiff, Nat.reduceBEq]
          refine awp_draw [] (by kernel_rfl) (by kernel_rfl) ?_
          simp (maxSteps := 2000000) (disch := omega) only [go_sem, Nat.reduceSub, Nat.reduceAdd, Nat.reduceLT, Nat.reduceEqDiff, Nat.reduceBEq]
          refine Br.sp (fun h6 e6 => ?_) (fun h6 e6 => ?_) <;> simp (maxSteps := 2000000) (disch := omega) only [go_sem, Nat.reduceSub, Nat.reduceAdd, Nat.reduceLT, Nat.reduceEqDiff, Nat.reduceBEq, e6]
          · refine hQ2 _ _ (Fin.sim [] [.re [some 0, none, none, some 3, some 5]] [.tmp 4] rfl gh_nil ?_)
            simp (maxSteps := 2000000) (disch := omega) only [go_sem, Nat.reduceSub, Nat.reduceAdd, Nat.reduceLT, Nat.reduceEqDiff, Nat.reduceBEq]
            rw [gh_re rfl, ← hfin, ← hlo2, decide_eq_true (by omega)]; simp only [go_sem, walkC, Nat.reduceAdd, Nat.reduceEqDiff, Nat.reduceBEq]
          · refine Br.sp (fun h7 e7 => ?_) (fun h7 e7 => ?_) <;> simp (maxSteps := 2000000) (disch := omega) only [go_sem, Nat.reduceSub, Nat.reduceAdd, Nat.reduceLT, Nat.reduceEqDiff, Nat.reduceBEq, e7]
            · refine hQ2 _ _ (Fin.sim [] [.re [some 0, none, none, some 3, some 5]] [.tmp 4] rfl gh_nil ?_)
              simp (maxSteps := 2000000) (disch := omega) only [go_sem, Nat.reduceSub, Nat.reduceAdd, Nat.reduceLT, Nat.reduceEqDiff, Nat.reduceBEq]
              have hd : decide (lo2 ≤ 1099511627776) = decide (hi2 < lo2 ∨ -1099511627776 ≤ lo2 ∧ lo2 ≤ 1099511627776) := decide_eq_decide.2 (by omega)
              rw [gh_re rfl, ← hfin, ← hlo2, hd]; simp only [go_sem, walkC, Nat.reduceAdd, Nat.reduceEqDiff, Nat.reduceBEq]
            · refine hQ2 _ _ (Fin.sim [] [.re [some 0, none, none, some 3, some 5]] [.tmp 4] rfl gh_nil ?_)
              simp (maxSteps := 2000000) (disch := omega) only [go_sem, Nat.reduceSub, Nat.reduceAdd, Nat.reduceLT, Nat.reduceEqDiff, Nat.reduceBEq]
              rw [gh_re rfl, ← hfin, ← hlo2, decide_eq_false (by omega)]; simp only [go_sem, walkC, Nat.reduceAdd, Nat.reduceEqDiff, Nat.reduceBEq]
      · have hfin : hi2 = hiOf l2 z2 lo1 hi1 := by
          rw [← hg3]; cases g with
          | zero => rfl
          | succ g => rw [dnTo, if_neg (fun q => h q.1)]
        refine hE2 _ _ _ (fun h => by cases h) ?_
        simp (maxSteps := 2000000) (disch := omega) only [go_sem, Nat.reduceSub, Nat.reduceAdd, Nat.reduceLT, Nat.reduceEqDiff, Nat.reduceBEq]
        refine awp_draw [] (by kernel_rfl) (by kernel_rfl) ?_
        simp (maxSteps := 2000000) (disch := omega) only [go_sem, Nat.reduceSub, Nat.reduceAdd, Nat.reduceLT, Nat.reduceEqDiff, Nat.reduceBEq]
        refine Br.sp (fun h6 e6 => ?_) (fun h6 e6 => ?_) <;> simp (maxSteps := 2000000) (disch := omega) only [go_sem, Nat.reduceSub, Nat.reduceAdd, Nat.reduceLT, Nat.reduceEqDiff, Nat.reduceBEq, e6]
        · refine hQ2 _ _ (Fin.sim [] [.re [some 0, none, none, some 3, some 4]] [.tmp 4] rfl gh_nil ?_)
          simp (maxSteps := 2000000) (disch := omega) only [go_sem, Nat.reduceSub, Nat.reduceAdd, Nat.reduceLT, Nat.reduceEqDiff, Nat.reduceBEq]
          rw [gh_re rfl, ← hfin, ← hlo2, decide_eq_true (by omega)]; simp only [go_sem, walkC, Nat.reduceAdd, Nat.reduceEqDiff, Nat.reduceBEq]
        · refine Br.sp (fun h7 e7 => ?_) (fun h7 e7 => ?_) <;> simp (maxSteps := 2000000) (disch := omega) only [go_sem, Nat.reduceSub, Nat.reduceAdd, Nat.reduceLT, Nat.reduceEqDiff, Nat.reduceBEq, e7]
          · refine hQ2 _ _ (Fin.sim [] [.re [some 0, none, none, some 3, some 4]] [.tmp 4] rfl gh_nil ?_)
            simp (maxSteps := 2000000) (disch := omega) only [go_sem, Nat.reduceSub, Nat.reduceAdd, Nat.reduceLT, Nat.reduceEqDiff, Nat.reduceBEq]
            have hd : decide (lo2 ≤ 1099511627776) = decide (hi2 < lo2 ∨ -1099511627776 ≤ lo2 ∧ lo2 ≤ 1099511627776) := decide_eq_decide.2 (by omega)
            rw [gh_re rfl, ← hfin, ← hlo2, hd]; simp only [go_sem, walkC, Nat.reduceAdd, Nat.reduceEqDiff, Nat.reduceBEq]
          · refine hQ2 _ _ (Fin.sim [] [.re [some 0, none, none, some 3, some 4]] [.tmp 4] rfl gh_nil ?_)
            simp (maxSteps := 2000000) (disch := omega) only [go_sem, Nat.reduceSub, Nat.reduceAdd, Nat.reduceLT, Nat.reduceEqDiff, Nat.reduceBEq]
            rw [gh_re rfl, ← hfin, ← hlo2, decide_eq_false (by omega)]; simp only [go_sem, walkC, Nat.reduceAdd, Nat.reduceEqDiff, Nat.reduceBEq]
    refine awp_draw [] (by kernel_rfl) (by kernel_rfl) ?_
    simp (maxSteps := 2000000) (disch := omega) only [go_sem, Nat.reduceSub, Nat.reduceAdd, Nat.reduceLT, Nat.reduceEqDiff, Nat.reduceBEq]
    refine Br.sp (fun h e => ?_) (fun h e => ?_) <;> simp (maxSteps := 2000000) (disch := omega) only [go_sem, Nat.reduceSub, Nat.reduceAdd, Nat.reduceLT, Nat.reduceEqDiff, Nat.reduceBEq, e]
    · refine awp_draw [8] (by kernel_rfl) (by kernel_rfl) ?_
      simp (maxSteps := 2000000) (disch := omega) only [go_sem, Nat.reduceSub, Nat.reduceAdd, Nat.reduceLT, Nat.reduceEqDiff, Nat.reduceBEq]
      refine call_lend [3, 4] (at_id_ret d l2 z2 lo2 (by omega) (by omega) (by omega) (by omega) (by omega)) (by decide) (by intro p hp; simp at hp; rcases hp with rfl | rfl <;> simp [getS]) ?_ ?_ (by simp) rfl rfl ?_
      · simp only [go_sem, Nat.reduceSub, Nat.reduceAdd, Nat.reduceEqDiff, Nat.reduceBEq]
      · simp only [go_sem, Nat.reduceSub, Nat.reduceAdd, Nat.reduceEqDiff, Nat.reduceBEq]
      simp (maxSteps := 2000000) (disch := omega) only [go_sem, Nat.reduceSub, Nat.reduceAdd, Nat.reduceLT, Nat.reduceEqDiff, Nat.reduceBEq]
      refine Br.sp (fun h' e' => ?_) (fun h' e' => ?_) <;> simp (maxSteps := 2000000) (disch := omega) only [go_sem, Nat.reduceSub, Nat.reduceAdd, Nat.reduceLT, Nat.reduceEqDiff, Nat.reduceBEq, e']
      · obtain ⟨f, rfl⟩ : ∃ g', f = g' + 1 := ⟨f - 1, by omega⟩
        have hbz : bget l2 z2 lo2 = 0 := by rw [bget, if_pos (by omega)]; exact h'
        rw [upTo, if_pos ⟨h, hbz⟩] at hf3
        refine hN1 _ _ ⟨[.mask [0], .re [some 0, none, none, some 3, some 5]], (f, lo2 + 1), ?_, ⟨by simp only; omega, by simp only; omega, by simp only; omega, hf3⟩, Nat.lt_succ_self _⟩
        rw [gh_maskP rfl, gh_re rfl]; simp only [go_sem, walkC, Nat.reduceAdd, Nat.reduceEqDiff, Nat.reduceBEq]
      · have hbz : bget l2 z2 lo2 ≠ 0 := by rw [bget, if_pos (by omega)]; exact h'
        refine kont (by
          rw [← hf3]; cases f with
          | zero => rfl
          | succ f => rw [upTo, if_neg (fun q => hbz q.2)]) [.mask [0], .re [some 0, none, none, some 3, some 5]] _ _ ?_
        rw [gh_maskP rfl, gh_re rfl]; simp only [go_sem, walkC, Nat.reduceAdd, Nat.reduceEqDiff, Nat.reduceBEq]
    · refine kont (by
        rw [← hf3]; cases f with
        | zero => rfl
        | succ f => rw [upTo, if_neg (fun q => h q.1)]) [.mask [0]] _ _ ?_
      rw [gh_maskP rfl]; simp only [go_sem, walkC, Nat.reduceAdd, Nat.reduceEqDiff, Nat.reduceBEq]
end Go.Proofs.Ytbleionbmdpmeaa
