/- A walk: what a step of it does. -/
import Derived.Test.YtbleionbmdpmeaaT16
set_option linter.unusedVariables false
set_option linter.unusedSimpArgs false
namespace Go.Proofs.Ytbleionbmdpmeaa
open Go.Abs

structure Wk where
  st : Int
  pos : Int
  lo : Int
  hi : Int
  z : Int
  l : List Int

def finW (w : Wk) (lo hi z : Int) (l : List Int) : Bool × Wk :=
  (decide (hiOf l z lo hi < loOf l z lo hi ∨ -1099511627776 ≤ loOf l z lo hi ∧ loOf l z lo hi ≤ 1099511627776), { w with lo := loOf l z lo hi, hi := hiOf l z lo hi, z := z, l := l })
def writeF (w : Wk) (x : Int) : Bool × Wk :=
  if x = 0 ∧ (w.pos < w.lo ∨ w.hi < w.pos) then (true, w)
  else if w.hi < w.lo then finW w w.pos w.pos (8 - w.pos) ((List.replicate 16 0).set 8 x)
  else if 100000 ≤ max w.hi w.pos - min w.lo w.pos then (false, w)
  else finW w (min w.lo w.pos) (max w.hi w.pos) (bandAt w.l w.z w.pos).2 ((bandAt w.l w.z w.pos).1.set (w.pos + (bandAt w.l w.z w.pos).2).toNat x)

/-- A walk with k steps to go; what it looks at lies between A and B. -/
structure WOk (A B k : Int) (w : Wk) : Prop where
  hA : -2199023255552 ≤ A
  hB : B ≤ 2199023255552
  hAB : B - A ≤ 16777216
  k0 : 0 ≤ k
  p0 : -1099511627776 ≤ w.pos
  p1 : w.pos ≤ 1099511627776
  near : (A + 16 + k ≤ w.pos ∧ w.pos ≤ B - 16 - k) ∨ (w.lo ≤ w.hi ∧ (w.pos + 150000 + k < w.lo ∨ w.hi + 150000 + k < w.pos))
  good : w.lo ≤ w.hi → Good A B w.l.length w.z ∧ 0 ≤ w.lo + w.z ∧ w.hi + w.z < w.l.length
  len : w.l.length ≤ 1073741824
  z0 : -4398046511104 ≤ w.z
  z1 : w.z ≤ 4398046511104
  lo0 : -4398046511104 ≤ w.lo
  lo1 : w.lo ≤ 4398046511104
  hi0 : -4398046511104 ≤ w.hi
  hi1 : w.hi ≤ 4398046511104
  zero : ∀ p, bget w.l w.z p ≠ 0 → w.lo ≤ p ∧ p ≤ w.hi

def walkS (m : Mach) (w : Wk) : List Slot := [.obj 0 (walkC m 1 w.st w.pos w.lo w.hi), .obj 0 [.ref 2 0 w.l.length, .imm (.int .i64 w.z)], .obj 1 (iv w.l)]
def walkO (m : Mach) (w : Wk) : List Slot := [.obj 0 (walkC m 3 w.st w.pos w.lo w.hi), .dead, .dead, .obj 0 [.ref 4 0 w.l.length, .imm (.int .i64 w.z)], .obj 1 (iv w.l)]

theorem write_ret (d : Nat) {A B k : Int} (m : Mach) {w : Wk} (h : WOk A B k w) (x : Int) :
    Ret Try.prog (d + 2) 104 [.ptr 0 0, .imm (.int .i64 x)] (walkS m w) (.imm (.bool (writeF w x).1)) (walkO m (writeF w x).2) := by
  have h1 := h.p0; have h2 := h.p1; have h3 := h.lo0; have h4 := h.hi1; have hA := h.hA; have hB := h.hB; have hAB := h.hAB; have hk := h.k0
  unfold writeF
  split
  · rename_i hc
    exact write_skip_ret (d + 1) m w.st w.pos w.lo w.hi w.z x w.l hc.1 hc.2
  · rename_i hc
    split
    · rename_i hc2
      exact write_new_ret d m w.st w.pos w.lo w.hi w.z x w.l hc2 (fun hx => hc ⟨hx, by omega⟩) (by omega) (by omega)
    · rename_i hc2
      split
      · rename_i hc3
        exact write_far_ret (d + 1) m w.st w.pos w.lo w.hi w.z x w.l (by omega) (fun hx => by have : ¬ (w.pos < w.lo ∨ w.hi < w.pos) := fun q => hc ⟨hx, q⟩
                                                                                              omega) hc3 (by omega) (by omega) (by omega) (by omega)
      · rename_i hc3
        obtain ⟨g1, g2, g3⟩ := h.good (by omega)
        have hn := h.near
        exact write_in_ret d A B m w.st w.pos w.lo w.hi w.z x w.l hA hB hAB (by omega) (by omega) g1 (by omega) g2 g3 (fun hx => by have : ¬ (w.pos < w.lo ∨ w.hi < w.pos) := fun q => hc ⟨hx, q⟩
                                                                                                                                    omega) (by omega)

def symF (w : Wk) : Int := if w.pos < w.lo ∨ w.hi < w.pos then 0 else bget w.l w.z w.pos
theorem symF_eq {A B k : Int} {w : Wk} (h : WOk A B k w) : symF w = bget w.l w.z w.pos := by
  unfold symF; split
  · rename_i hc
    by_cases hz : bget w.l w.z w.pos = 0
    · exact hz.symm
    · have := h.zero _ hz; omega
  · rfl
set_option maxHeartbeats 1000000 in
set_option maxRecDepth 10000 in
/-- a band that has the position stays as it lies -/
theorem at_same_ret (d : Nat) (l : List Int) (z pos : Int) (h0 : 0 ≤ pos + z) (h1 : pos + z < l.length) (hl : l.length ≤ 1073741824) :
    Ret Try.prog (d + 1) 109 [.ptr 0 0, .imm (.int .i64 pos)] [.obj 0 [.ref 1 0 l.length, .imm (.int .i64 z)], .obj 1 (iv l)] (.imm (.int .i64 (pos + z))) [.obj 0 [.ref 1 0 l.length, .imm (.int .i64 z)], .obj 1 (iv l)] := by
  refine Ret.mkE Try.func109 rfl (of_decide_eq_true (by kernel_rfl)) Try.ntmps109 rfl ?_
  intro Q hQ1 hQ2
  refine Eq.mpr (congrFun (congrArg _ rfl) _) (?_ : awpW _ _ _ _ _ (un _))
  simp (maxSteps := 2000000) (disch := omega) only [go_sem, Nat.reduceSub, Nat.reduceAdd, Nat.reduceLT, Nat.reduceEqDiff, Nat.reduceBEq]
  refine Br.sp (fun h e => ?_) (fun h e => ?_) <;> simp (maxSteps := 2000000) (disch := omega) only [go_sem, Nat.reduceSub, Nat.reduceAdd, Nat.reduceLT, Nat.reduceEqDiff, Nat.reduceBEq, e]
  · exfalso; omega
  refine awp_loopX (fun x : Unit => tmP 89 .any [(0, .ptr 0 0), (1, .imm (.int .i64 pos))] [])
    (fun x => [.obj 0 [.ref 1 0 l.length, .imm (.int .i64 z)], .obj 1 (iv l)]) (fun x => True) (fun x => 0) [.mask [0, 1]] () ?_ trivial ?_
  · rw [gh_maskP rfl]; simp only [go_sem, Nat.reduceAdd, Nat.reduceEqDiff, Nat.reduceBEq]
  rintro ⟨⟩ - Q1 hN1 hE1
  simp (maxSteps := 2000000) (disch := omega) only [go_sem, Nat.reduceSub, Nat.reduceAdd, Nat.reduceLT, Nat.reduceEqDiff, Nat.reduceBEq]
  refine Br.sp (fun h e => ?_) (fun h e => ?_) <;> simp (maxSteps := 2000000) (disch := omega) only [go_sem, Nat.reduceSub, Nat.reduceAdd, Nat.reduceLT, Nat.reduceEqDiff, Nat.reduceBEq, e]
  · exfalso; omega
  refine hE1 _ _ _ (fun h => by cases h) ?_
  simp (maxSteps := 2000000) (disch := omega) only [go_sem, Nat.reduceSub, Nat.reduceAdd, Nat.reduceLT, Nat.reduceEqDiff, Nat.reduceBEq]
  refine awp_loopX (fun x : Unit => tmP 89 .any [(0, .ptr 0 0), (1, .imm (.int .i64 pos))] [])
    (fun x => [.obj 0 [.ref 1 0 l.length, .imm (.int .i64 z)], .obj 1 (iv l)]) (fun x => True) (fun x => 0) [.mask [0, 1]] () ?_ trivial ?_
  · rw [gh_maskP rfl]; simp only [go_sem, Nat.reduceAdd, Nat.reduceEqDiff, Nat.reduceBEq]
  rintro ⟨⟩ - Q2 hN2 hE2
  simp (maxSteps := 2000000) (disch := omega) only [go_sem, Nat.reduceSub, Nat.reduceAdd, Nat.reduceLT, Nat.reduceEqDiff, Nat.reduceBEq]
  refine awp_draw [] (by kernel_rfl) (by kernel_rfl) ?_
  simp (maxSteps := 2000000) (disch := omega) only [go_sem, Nat.reduceSub, Nat.reduceAdd, Nat.reduceLT, Nat.reduceEqDiff, Nat.reduceBEq]
  refine Br.sp (fun h e => ?_) (fun h e => ?_) <;> simp (maxSteps := 2000000) (disch := omega) only [go_sem, Nat.reduceSub, Nat.reduceAdd, Nat.reduceLT, Nat.reduceEqDiff, Nat.reduceBEq, e]
  · exfalso; omega
  refine hE2 _ _ _ (fun h => by cases h) ?_
  simp (maxSteps := 2000000) (disch := omega) only [go_sem, Nat.reduceSub, Nat.reduceAdd, Nat.reduceLT, Nat.reduceEqDiff, Nat.reduceBEq]
  refine hQ2 _ _ (Fin.sim [] [.re [some 0, some 1]] [.tmp 4] rfl gh_nil ?_)
  simp (maxSteps := 2000000) (disch := omega) only [go_sem, Nat.reduceSub, Nat.reduceAdd, Nat.reduceLT, Nat.reduceEqDiff, Nat.reduceBEq]
  rw [gh_re rfl]; simp only [go_sem, Nat.reduceAdd, Nat.reduceEqDiff, Nat.reduceBEq]

set_option maxHeartbeats 1000000 in
set_option maxRecDepth 10000 in
theorem symbol_ret (d : Nat) {A B k : Int} (m : Mach) {w : Wk} (h : WOk A B k w) :
    Ret Try.prog (d + 2) 103 [.ptr 0 0] (walkS m w) (.imm (.int .i64 (symF w))) (walkS m w) := by
  have hlen := h.len
  refine Ret.mkE Try.func103 rfl (of_decide_eq_true (by kernel_rfl)) Try.ntmps103 rfl ?_
  intro Q hQ1 hQ2
  refine Eq.mpr (congrFun (congrArg _ rfl) _) (?_ : awpW _ _ _ _ _ (un _))
  simp (maxSteps := 2000000) (disch := omega) only [go_sem, Nat.reduceSub, Nat.reduceAdd, Nat.reduceLT, Nat.reduceEqDiff, Nat.reduceBEq, walkC, walkS]
  refine awp_draw [] (by kernel_rfl) (by kernel_rfl) ?_
  simp (maxSteps := 2000000) (disch := omega) only [go_sem, Nat.reduceSub, Nat.reduceAdd, Nat.reduceLT, Nat.reduceEqDiff, Nat.reduceBEq]
  have fin0 : w.pos < w.lo ∨ w.hi < w.pos → symF w = 0 := fun hc => by unfold symF; rw [if_pos hc]
  refine Br.sp (fun h1 e1 => ?_) (fun h1 e1 => ?_) <;> simp (maxSteps := 2000000) (disch := omega) only [go_sem, Nat.reduceSub, Nat.reduceAdd, Nat.reduceLT, Nat.reduceEqDiff, Nat.reduceBEq, e1]
  · refine hQ2 _ _ (Fin.sim [] [.re [some 0, some 1, some 2]] [.tmp 2] rfl gh_nil ?_)
    simp (maxSteps := 2000000) (disch := omega) only [go_sem, Nat.reduceSub, Nat.reduceAdd, Nat.reduceLT, Nat.reduceEqDiff, Nat.reduceBEq]
    rw [gh_re rfl, fin0 (.inl h1)]; simp only [go_sem, walkC, walkS, Nat.reduceAdd, Nat.reduceEqDiff, Nat.reduceBEq]
  refine Br.sp (fun h2 e2 => ?_) (fun h2 e2 => ?_) <;> simp (maxSteps := 2000000) (disch := omega) only [go_sem, Nat.reduceSub, Nat.reduceAdd, Nat.reduceLT, Nat.reduceEqDiff, Nat.reduceBEq, e2]
  · refine hQ2 _ _ (Fin.sim [] [.re [some 0, some 1, some 2]] [.tmp 2] rfl gh_nil ?_)
    simp (maxSteps := 2000000) (disch := omega) only [go_sem, Nat.reduceSub, Nat.reduceAdd, Nat.reduceLT, Nat.reduceEqDiff, Nat.reduceBEq]
    rw [gh_re rfl, fin0 (.inr h2)]; simp only [go_sem, walkC, walkS, Nat.reduceAdd, Nat.reduceEqDiff, Nat.reduceBEq]
  obtain ⟨g1, g2, g3⟩ := h.good (by omega)
  refine awp_draw [8] (by kernel_rfl) (by kernel_rfl) ?_
  simp (maxSteps := 2000000) (disch := omega) only [go_sem, Nat.reduceSub, Nat.reduceAdd, Nat.reduceLT, Nat.reduceEqDiff, Nat.reduceBEq]
  refine call_lend [1, 2] (at_same_ret d w.l w.z w.pos (by omega) (by omega) hlen) (by decide) (by intro p hp; simp at hp; rcases hp with rfl | rfl <;> simp [getS]) ?_ ?_ (by simp) rfl rfl ?_
  · simp only [go_sem, Nat.reduceSub, Nat.reduceAdd, Nat.reduceEqDiff, Nat.reduceBEq]
  · simp only [go_sem, Nat.reduceSub, Nat.reduceAdd, Nat.reduceEqDiff, Nat.reduceBEq]
  simp (maxSteps := 2000000) (disch := omega) only [go_sem, Nat.reduceSub, Nat.reduceAdd, Nat.reduceLT, Nat.reduceEqDiff, Nat.reduceBEq]
  refine hQ2 _ _ (Fin.sim [] [.re [some 0, some 1, some 2]] [.tmp 2] rfl gh_nil ?_)
  simp (maxSteps := 2000000) (disch := omega) only [go_sem, Nat.reduceSub, Nat.reduceAdd, Nat.reduceLT, Nat.reduceEqDiff, Nat.reduceBEq]
  have hb : symF w = w.l.getD (w.pos + w.z).toNat 0 := by unfold symF; rw [if_neg (by omega), bget, if_pos (by omega)]
  rw [gh_re rfl, hb]; simp only [go_sem, walkC, walkS, Nat.reduceAdd, Nat.reduceEqDiff, Nat.reduceBEq]

def stepF (m : Mach) (w : Wk) : Option Wk :=
  let r := m.rule w.st (symF w)
  if w.pos + r.mv < -1099511627776 ∨ 1099511627776 < w.pos + r.mv then none
  else if (writeF w r.wr).1 = true then some { (writeF w r.wr).2 with pos := w.pos + r.mv, st := r.nx } else none

theorem writeF_same (w : Wk) (x : Int) : (writeF w x).2.pos = w.pos ∧ (writeF w x).2.st = w.st := by
  unfold writeF finW; repeat' split
  all_goals exact ⟨rfl, rfl⟩

set_option maxHeartbeats 1000000 in
set_option maxRecDepth 10000 in
theorem step_ret (d : Nat) {A B k : Int} (m : Mach) {w : Wk} (h : WOk A B k w) (hv : m.Valid) (hs0 : 0 ≤ w.st) (hs1 : w.st < m.ns) (hx0 : 0 ≤ symF w) (hx1 : symF w < m.ny) :
    Ret Try.prog (d + 3) 79 [.ptr 0 0] (walkS m w) (.imm (.bool (stepF m w).isSome)) (match stepF m w with | some w' => walkO m w' | none => [.dead, .dead, .dead]) := by
  have h1 := h.p0; have h2 := h.p1
  have hr := (hv.rows w.st hs0 hs1).2 (symF w) hx0 hx1
  have hl := (hv.rows w.st hs0 hs1).1
  have hlen := hv.len
  unfold ruleOk at hr
  obtain ⟨r1, r2, r3, r4, r5⟩ := hr
  have hp := writeF_same w (m.rule w.st (symF w)).wr
  refine Ret.mkE Try.func79 rfl (of_decide_eq_true (by kernel_rfl)) Try.ntmps79 rfl ?_
  intro Q hQ1 hQ2
  refine Eq.mpr (congrFun (congrArg _ rfl) _) (?_ : awpW _ _ _ _ _ (un _))
  simp (maxSteps := 2000000) (disch := omega) only [go_sem, Nat.reduceSub, Nat.reduceAdd, Nat.reduceLT, Nat.reduceEqDiff, Nat.reduceBEq, walkC, walkS]
  refine awp_draw [16] (by kernel_rfl) (by kernel_rfl) ?_
  simp (maxSteps := 2000000) (disch := omega) only [go_sem, Nat.reduceSub, Nat.reduceAdd, Nat.reduceLT, Nat.reduceEqDiff, Nat.reduceBEq, walkC]
  refine call_lend [0, 1, 2] (symbol_ret d m h) (by decide) (by intro p hp; simp at hp; rcases hp with rfl | rfl | rfl <;> simp [getS]) ?_ ?_ (by simp [walkS]) rfl rfl ?_
  · simp only [go_sem, Nat.reduceSub, Nat.reduceAdd, Nat.reduceEqDiff, Nat.reduceBEq]
  · simp only [go_sem, walkS, walkC, Nat.reduceSub, Nat.reduceAdd, Nat.reduceEqDiff, Nat.reduceBEq]
  simp (maxSteps := 2000000) (disch := omega) only [go_sem, Nat.reduceSub, Nat.reduceAdd, Nat.reduceLT, Nat.reduceEqDiff, Nat.reduceBEq, walkS, walkC]
  refine awp_draw [22] (by kernel_rfl) (by kernel_rfl) ?_
  simp (maxSteps := 2000000) (disch := omega) only [go_sem, Nat.reduceSub, Nat.reduceAdd, Nat.reduceLT, Nat.reduceEqDiff, Nat.reduceBEq]
  refine Br.sp (fun h3 e3 => ?_) (fun h3 e3 => ?_) <;> simp (maxSteps := 2000000) (disch := omega) only [go_sem, Nat.reduceSub, Nat.reduceAdd, Nat.reduceLT, Nat.reduceEqDiff, Nat.reduceBEq, e3]
  · have hno : stepF m w = none := by unfold stepF; rw [if_pos (.inl h3)]
    refine hQ2 _ _ (Fin.sim [] [.re [none, none, none]] [.tmp 2] rfl gh_nil ?_)
    simp (maxSteps := 2000000) (disch := omega) only [go_sem, Nat.reduceSub, Nat.reduceAdd, Nat.reduceLT, Nat.reduceEqDiff, Nat.reduceBEq]
    rw [gh_re rfl, hno]; simp only [go_sem, Nat.reduceAdd, Nat.reduceEqDiff, Nat.reduceBEq, Option.isSome_none]
  refine Br.sp (fun h4 e4 => ?_) (fun h4 e4 => ?_) <;> simp (maxSteps := 2000000) (disch := omega) only [go_sem, Nat.reduceSub, Nat.reduceAdd, Nat.reduceLT, Nat.reduceEqDiff, Nat.reduceBEq, e4]
  · have hno : stepF m w = none := by unfold stepF; rw [if_pos (.inr h4)]
    refine hQ2 _ _ (Fin.sim [] [.re [none, none, none]] [.tmp 2] rfl gh_nil ?_)
    simp (maxSteps := 2000000) (disch := omega) only [go_sem, Nat.reduceSub, Nat.reduceAdd, Nat.reduceLT, Nat.reduceEqDiff, Nat.reduceBEq]
    rw [gh_re rfl, hno]; simp only [go_sem, Nat.reduceAdd, Nat.reduceEqDiff, Nat.reduceBEq, Option.isSome_none]
  refine call_lend [0, 1, 2] (write_ret d m h (m.rule w.st (symF w)).wr) (by decide) (by intro p hp; simp at hp; rcases hp with rfl | rfl | rfl <;> simp [getS]) ?_ ?_ (by simp [walkO]) rfl rfl ?_
  · simp only [go_sem, Nat.reduceSub, Nat.reduceAdd, Nat.reduceEqDiff, Nat.reduceBEq]
  · simp only [go_sem, walkS, walkC, Nat.reduceSub, Nat.reduceAdd, Nat.reduceEqDiff, Nat.reduceBEq]
  simp (maxSteps := 2000000) (disch := omega) only [go_sem, Nat.reduceSub, Nat.reduceAdd, Nat.reduceLT, Nat.reduceEqDiff, Nat.reduceBEq, walkO, walkC]
  refine Br.sp (fun h5 e5 => ?_) (fun h5 e5 => ?_) <;> simp (maxSteps := 2000000) (disch := omega) only [go_sem, Nat.reduceSub, Nat.reduceAdd, Nat.reduceLT, Nat.reduceEqDiff, Nat.reduceBEq, e5]
  rotate_left
  · have hno : stepF m w = none := by unfold stepF; rw [if_neg (by omega), if_neg h5]
    refine hQ2 _ _ (Fin.sim [] [.re [none, none, none]] [.tmp 2] rfl gh_nil ?_)
    simp (maxSteps := 2000000) (disch := omega) only [go_sem, Nat.reduceSub, Nat.reduceAdd, Nat.reduceLT, Nat.reduceEqDiff, Nat.reduceBEq]
    rw [gh_re rfl, hno]; simp only [go_sem, Nat.reduceAdd, Nat.reduceEqDiff, Nat.reduceBEq, Option.isSome_none]
  refine awp_draw [9] (by kernel_rfl) (by kernel_rfl) ?_
  simp (maxSteps := 2000000) (disch := omega) only [go_sem, Nat.reduceSub, Nat.reduceAdd, Nat.reduceLT, Nat.reduceEqDiff, Nat.reduceBEq, hp.1]
  have hyes : stepF m w = some { (writeF w (m.rule w.st (symF w)).wr).2 with pos := w.pos + (m.rule w.st (symF w)).mv, st := (m.rule w.st (symF w)).nx } := by unfold stepF; rw [if_neg (by omega), if_pos h5]
  refine hQ2 _ _ (Fin.sim [] [.re [some 0, none, none, some 4, some 5]] [.tmp 2] rfl gh_nil ?_)
  simp (maxSteps := 2000000) (disch := omega) only [go_sem, Nat.reduceSub, Nat.reduceAdd, Nat.reduceLT, Nat.reduceEqDiff, Nat.reduceBEq]
  rw [gh_re rfl, hyes]; simp only [go_sem, walkO, walkC, Nat.reduceAdd, Nat.reduceEqDiff, Nat.reduceBEq]
end Go.Proofs.Ytbleionbmdpmeaa
