/- Put of the specification. -/
import Derived.Test.YtbleionbmdpmeaaT18
set_option linter.unusedVariables false
set_option linter.unusedSimpArgs false
namespace Go.Proofs.Ytbleionbmdpmeaa
open Go.Abs

theorem iv_snoc (l : List Int) (v : Int) : iv l ++ [.imm (.int .i64 v)] = iv (l ++ [v]) := by simp [iv]
theorem iv_sing (v : Int) : Slot.obj 1 [.imm (.int .i64 v)] = .obj 1 (iv [v]) := rfl

/-- where Put begins and ends -/
def putFr (c : Conf) (x : Int) : Int := if x = 0 then c.fr else if (c.cs.l.length : Int) = 0 then c.pos else min c.fr c.pos
def putTo (c : Conf) (x : Int) : Int := if x = 0 then c.fr + c.cs.l.length else if (c.cs.l.length : Int) = 0 then c.pos + 1 else max (c.fr + c.cs.l.length) (c.pos + 1)
def putCell (c : Conf) (x i : Int) : Int := if i = c.pos then x else c.read i
def putUp (c : Conf) (x to : Int) : Nat → Int → List Int → List Int
  | 0, _, q => q
  | f + 1, i, q => if i < to then putUp c x to f (i + 1) (q ++ [putCell c x i]) else q
def putL (c : Conf) (x : Int) : List Int := putUp c x (putTo c x) (putTo c x - putFr c x).toNat (putFr c x) []
def putF (c : Conf) (x : Int) : Conf × Bool :=
  if 100001 < putTo c x - putFr c x then (conf0, false)
  else if putL c x = [] then (⟨c.st, c.pos, 0, ⟨.nil, []⟩⟩, true)
  else (⟨c.st, c.pos, if firstOf (putL c x) = lastOf (putL c x) then 0 else putFr c x + firstOf (putL c x), ⟨.full, ((putL c x).drop (firstOf (putL c x))).take (lastOf (putL c x) - firstOf (putL c x))⟩⟩, decide (lastOf (putL c x) - firstOf (putL c x) ≤ 100000))

set_option maxHeartbeats 1000000 in
set_option maxRecDepth 10000 in
theorem put_ret (d : Nat) (c : Conf) (x : Int) (hc : c.ok) (hx : i64ok x) (hl : c.cs.l.length ≤ 100000) (p0 : -1099511627776 ≤ c.pos) (p1 : c.pos ≤ 1099511627776) (f0 : -1099511627776 ≤ c.fr) (f1 : c.fr ≤ 1099511627776) :
    Ret Try.prog (d + 2) 81 [c.av, .imm (.int .i64 x)] [] (.tup [(putF c x).1.av, .imm (.bool (putF c x).2)]) [] := by
  refine Ret.mkE Try.func81 rfl (of_decide_eq_true (by kernel_rfl)) Try.ntmps81 rfl ?_
  intro Q hQ1 hQ2
  refine Eq.mpr (congrFun (congrArg _ rfl) _) (?_ : awpW _ _ _ _ _ (un _))
  simp (maxSteps := 2000000) (disch := omega) only [go_sem, Nat.reduceSub, Nat.reduceAdd, Nat.reduceLT, Nat.reduceEqDiff, Nat.reduceBEq, Conf.av]
  refine awp_draw [] (by kernel_rfl) (by kernel_rfl) ?_
  simp (maxSteps := 2000000) (disch := omega) only [go_sem, Nat.reduceSub, Nat.reduceAdd, Nat.reduceLT, Nat.reduceEqDiff, Nat.reduceBEq]
  generalize hr : putF c x = r
  have big : 100001 < putTo c x - putFr c x → r = (conf0, false) := fun h => by rw [← hr, putF, if_pos h]
  refine Br.sp (fun hx0 e => ?_) (fun hx0 e => ?_) <;> simp (maxSteps := 2000000) (disch := omega) only [go_sem, Nat.reduceSub, Nat.reduceAdd, Nat.reduceLT, Nat.reduceEqDiff, Nat.reduceBEq, e]
  · have hfr : putFr c x = c.fr := by unfold putFr; rw [if_pos hx0]
    have hto : putTo c x = c.fr + c.cs.l.length := by unfold putTo; rw [if_pos hx0]
    refine Br.sp (fun h e => ?_) (fun h e => ?_) <;> simp (maxSteps := 2000000) (disch := omega) only [go_sem, Nat.reduceSub, Nat.reduceAdd, Nat.reduceLT, Nat.reduceEqDiff, Nat.reduceBEq, e]
    · exfalso; omega
    have hb0 : putTo c x - putFr c x ≤ 100001 := by omega
    have hb1 : -1099511627776 ≤ putFr c x := by omega
    have hb2 : putTo c x ≤ 1099511827776 := by omega
    have hb3 : putFr c x ≤ 1099511627776 := by omega
    refine awp_loopX (fun q : Nat × List Int => tmP 109 .any [(1, .imm (.int .i64 x)), (2, .ptr 0 0), (4, .ptr 1 0), (6, .imm (.int .i64 (putFr c x))), (7, .imm (.int .i64 (putTo c x))), (8, if q.2 = [] then .imm (.lst .nil 0 []) else .ref 2 0 q.2.length), (9, .imm (.int .i64 (putFr c x + q.2.length)))] [])
      (fun q => [.obj 0 [.imm (.int .i64 c.st), .imm (.int .i64 c.pos), .imm (.int .i64 c.fr), .imm (intsIV c.cs)], .obj 0 [.imm (.int .i64 0), .imm (.int .i64 0), .imm (.int .i64 0), .imm (.lst .nil 0 [])], if q.2 = [] then .dead else .obj 1 (iv q.2)])
      (fun q => putTo c x - putFr c x - q.2.length ≤ q.1 ∧ (q.2.length : Int) ≤ 100001 ∧ (q.2 = [] ∨ putFr c x + q.2.length ≤ putTo c x) ∧ putUp c x (putTo c x) q.1 (putFr c x + q.2.length) q.2 = putL c x) (fun q => q.1) [.mask [1, 2, 4, 6, 7, 8, 9], .re [some 0, some 1, none]] ((putTo c x - putFr c x).toNat, []) ?_
      ⟨by simp only [List.length_nil]; omega, by simp, .inl rfl, by simp only [List.length_nil, putL]; congr 1; simp⟩ ?_
    · rw [gh_maskP rfl, gh_re rfl, hfr, hto]; simp only [go_sem, Nat.reduceSub, Nat.reduceAdd, Nat.reduceEqDiff, Nat.reduceBEq]; simp
    rintro ⟨f, q⟩ ⟨hf0, hf3, hf1, hf2⟩ Q1 hN1 hE1
    simp only at hf0 hf1 hf2 hf3
    clear hfr hto h
    have hmost : most = 1099511627776 := by decide
    have next : ∀ v, f ≠ 0 → putFr c x + q.length < putTo c x → v = putCell c x (putFr c x + q.length) → putUp c x (putTo c x) (f - 1) (putFr c x + (q ++ [v]).length) (q ++ [v]) = putL c x := by
      intro v hf hlt hv
      obtain ⟨f, rfl⟩ : ∃ g, f = g + 1 := ⟨f - 1, by omega⟩
      rw [putUp, if_pos hlt] at hf2
      rw [← hf2, hv]; simp only [List.length_append, List.length_singleton, Nat.add_sub_cancel]; congr 1; omega
    have done : ¬ putFr c x + q.length < putTo c x → putL c x = q := by
      intro hlt; rw [← hf2]; cases f with
      | zero => rfl
      | succ f => rw [putUp, if_neg hlt]
    by_cases hq : q = []
    · subst hq
      simp only [if_true, List.length_nil, Int.natCast_zero, Int.ofNat_zero, Int.add_zero, List.nil_append, List.length_singleton] at hf0 hf2 next done ⊢
      simp (maxSteps := 2000000) (disch := omega) only [go_sem, Nat.reduceSub, Nat.reduceAdd, Nat.reduceLT, Nat.reduceEqDiff, Nat.reduceBEq]
      refine Br.sp (fun h1 e1 => ?_) (fun h1 e1 => ?_) <;> simp (maxSteps := 2000000) (disch := omega) only [go_sem, Nat.reduceSub, Nat.reduceAdd, Nat.reduceLT, Nat.reduceEqDiff, Nat.reduceBEq, e1]
      · refine Br.sp (fun h2 e2 => ?_) (fun h2 e2 => ?_) <;> simp (maxSteps := 2000000) (disch := omega) only [go_sem, Nat.reduceSub, Nat.reduceAdd, Nat.reduceLT, Nat.reduceEqDiff, Nat.reduceBEq, e2]
        · simp (maxSteps := 2000000) (disch := omega) only [go_sem, Nat.reduceSub, Nat.reduceAdd, Nat.reduceLT, Nat.reduceEqDiff, Nat.reduceBEq, iv_put, iv_sing, iv_snoc, List.set_cons_zero, List.replicate_succ, List.replicate_zero, List.flatten_cons, List.flatten_nil]
          refine ⟨by omega, hN1 _ _ ⟨[.mask [1, 2, 4, 6, 7, 8, 9], .re [some 0, some 1, some 4]], (f - 1, [x]), ?_, ⟨by simp only [List.length_singleton]; omega, by simp, .inr (by simp only [List.length_singleton]; omega), next x (by omega) h1 (by unfold putCell; rw [if_pos h2])⟩, by simp only; omega⟩⟩
          rw [gh_maskP rfl, gh_re rfl]; simp only [go_sem, Nat.reduceSub, Nat.reduceAdd, Nat.reduceEqDiff, Nat.reduceBEq, List.length_singleton]; simp
        · refine call_imm (read_ret _ c (putFr c x) hc (by unfold i64ok; omega)) rfl rfl ?_
          simp (maxSteps := 2000000) (disch := omega) only [go_sem, Nat.reduceSub, Nat.reduceAdd, Nat.reduceLT, Nat.reduceEqDiff, Nat.reduceBEq, iv_put, iv_sing, iv_snoc, List.set_cons_zero, List.replicate_succ, List.replicate_zero, List.flatten_cons, List.flatten_nil]
          refine ⟨by omega, hN1 _ _ ⟨[.mask [1, 2, 4, 6, 7, 8, 9], .re [some 0, some 1, some 4]], (f - 1, [c.read (putFr c x)]), ?_, ⟨by simp only [List.length_singleton]; omega, by simp, .inr (by simp only [List.length_singleton]; omega), next _ (by omega) h1 (by unfold putCell; rw [if_neg h2])⟩, by simp only; omega⟩⟩
          rw [gh_maskP rfl, gh_re rfl]; simp only [go_sem, Nat.reduceSub, Nat.reduceAdd, Nat.reduceEqDiff, Nat.reduceBEq, List.length_singleton]; simp
      · have hdone := done h1
        refine hE1 _ _ _ (fun h => by cases h) ?_
        simp (maxSteps := 2000000) (disch := omega) only [go_sem, Nat.reduceSub, Nat.reduceAdd, Nat.reduceLT, Nat.reduceEqDiff, Nat.reduceBEq]
        refine awp_loopX (fun _ : Unit => tmP 109 .any [(2, .ptr 0 0), (4, .ptr 1 0), (6, .imm (.int .i64 (putFr c x))), (8, .imm (.lst .nil 0 []))] []) (fun _ => [.obj 0 [.imm (.int .i64 c.st), .imm (.int .i64 c.pos), .imm (.int .i64 c.fr), .imm (intsIV c.cs)], .obj 0 [.imm (.int .i64 0), .imm (.int .i64 0), .imm (.int .i64 0), .imm (.lst .nil 0 [])]]) (fun _ => True) (fun _ => 0) [.mask [2, 4, 6, 8], .re [some 0, some 1]] () ?_ trivial ?_
        · rw [gh_maskP rfl, gh_re rfl]; simp only [go_sem, Nat.reduceSub, Nat.reduceAdd, Nat.reduceEqDiff, Nat.reduceBEq]
        rintro ⟨⟩ - Q2 hN2 hE2
        simp (maxSteps := 2000000) (disch := omega) only [go_sem, Nat.reduceSub, Nat.reduceAdd, Nat.reduceLT, Nat.reduceEqDiff, Nat.reduceBEq]
        refine Br.sp (fun h3 e3 => ?_) (fun h3 e3 => ?_) <;> simp (maxSteps := 2000000) (disch := omega) only [go_sem, Nat.reduceSub, Nat.reduceAdd, Nat.reduceLT, Nat.reduceEqDiff, Nat.reduceBEq, e3]
        · exfalso; omega
        refine hE2 _ _ _ (fun h => by cases h) ?_
        simp (maxSteps := 2000000) (disch := omega) only [go_sem, Nat.reduceSub, Nat.reduceAdd, Nat.reduceLT, Nat.reduceEqDiff, Nat.reduceBEq]
        refine awp_loopX (fun _ : Unit => tmP 109 .any [(2, .ptr 0 0), (4, .ptr 1 0), (6, .imm (.int .i64 (putFr c x))), (8, .imm (.lst .nil 0 []))] []) (fun _ => [.obj 0 [.imm (.int .i64 c.st), .imm (.int .i64 c.pos), .imm (.int .i64 c.fr), .imm (intsIV c.cs)], .obj 0 [.imm (.int .i64 0), .imm (.int .i64 0), .imm (.int .i64 0), .imm (.lst .nil 0 [])]]) (fun _ => True) (fun _ => 0) [.mask [2, 4, 6, 8]] () ?_ trivial ?_
        · rw [gh_maskP rfl]; simp only [go_sem, Nat.reduceSub, Nat.reduceAdd, Nat.reduceEqDiff, Nat.reduceBEq]
        rintro ⟨⟩ - Q3 hN3 hE3
        simp (maxSteps := 2000000) (disch := omega) only [go_sem, Nat.reduceSub, Nat.reduceAdd, Nat.reduceLT, Nat.reduceEqDiff, Nat.reduceBEq]
        refine Br.sp (fun h3 e3 => ?_) (fun h3 e3 => ?_) <;> simp (maxSteps := 2000000) (disch := omega) only [go_sem, Nat.reduceSub, Nat.reduceAdd, Nat.reduceLT, Nat.reduceEqDiff, Nat.reduceBEq, e3]
        · exfalso; omega
        refine hE3 _ _ _ (fun h => by cases h) ?_
        simp (maxSteps := 2000000) (disch := omega) only [go_sem, Nat.reduceSub, Nat.reduceAdd, Nat.reduceLT, Nat.reduceEqDiff, Nat.reduceBEq]
        refine Br.sp (fun h3 e3 => ?_) (fun h3 e3 => ?_) <;> simp (maxSteps := 2000000) (disch := omega) only [go_sem, Nat.reduceSub, Nat.reduceAdd, Nat.reduceLT, Nat.reduceEqDiff, Nat.reduceBEq, e3]
        rotate_left
        · exfalso; omega
        refine hQ2 _ _ (Fin.sim [] [.re []] [.cell 4 27, .tmp 5] rfl gh_nil ?_)
        simp (maxSteps := 2000000) (disch := omega) only [go_sem, Nat.reduceSub, Nat.reduceAdd, Nat.reduceLT, Nat.reduceEqDiff, Nat.reduceBEq]
        have hrr : r = (⟨c.st, c.pos, 0, ⟨.nil, []⟩⟩, true) := by rw [← hr, putF, if_neg (by omega), if_pos hdone]
        rw [gh_re rfl, hr, hrr]; simp only [go_sem, Nat.reduceSub, Nat.reduceAdd, Nat.reduceEqDiff, Nat.reduceBEq, Conf.av]; rfl
    · simp only [if_neg hq]
      have hql : q.length ≠ 0 := fun h => hq (List.eq_nil_of_length_eq_zero h)
      simp (maxSteps := 2000000) (disch := omega) only [go_sem, Nat.reduceSub, Nat.reduceAdd, Nat.reduceLT, Nat.reduceEqDiff, Nat.reduceBEq]
      refine Br.sp (fun h1 e1 => ?_) (fun h1 e1 => ?_) <;> simp (maxSteps := 2000000) (disch := omega) only [go_sem, Nat.reduceSub, Nat.reduceAdd, Nat.reduceLT, Nat.reduceEqDiff, Nat.reduceBEq, e1]
      · refine Br.sp (fun h2 e2 => ?_) (fun h2 e2 => ?_) <;> simp (maxSteps := 2000000) (disch := omega) only [go_sem, Nat.reduceSub, Nat.reduceAdd, Nat.reduceLT, Nat.reduceEqDiff, Nat.reduceBEq, e2]
        · simp (maxSteps := 2000000) (disch := omega) only [go_sem, Nat.reduceSub, Nat.reduceAdd, Nat.reduceLT, Nat.reduceEqDiff, Nat.reduceBEq, iv_put, iv_sing, iv_snoc, List.set_cons_zero, List.replicate_succ, List.replicate_zero, List.flatten_cons, List.flatten_nil]
          refine ⟨by omega, hN1 _ _ ⟨[.mask [1, 2, 4, 6, 7, 8, 9], .re [some 0, some 1, some 4]], (f - 1, q ++ [x]), ?_, ⟨by simp only [List.length_append, List.length_singleton]; omega, by simp only [List.length_append, List.length_singleton]; omega, .inr (by simp only [List.length_append, List.length_singleton]; omega), next x (by omega) h1 (by unfold putCell; rw [if_pos h2])⟩, by simp only; omega⟩⟩
          rw [gh_maskP rfl, gh_re rfl, if_neg (by simp), if_neg (by simp)]; simp only [go_sem, Nat.reduceSub, Nat.reduceAdd, Nat.reduceEqDiff, Nat.reduceBEq, List.length_append, List.length_singleton]; rw [show putFr c x + (q.length : Int) + 1 = putFr c x + ((q.length + 1 : Nat) : Int) from by omega]
        · refine call_imm (read_ret _ c (putFr c x + q.length) hc (by unfold i64ok; omega)) rfl rfl ?_
          simp (maxSteps := 2000000) (disch := omega) only [go_sem, Nat.reduceSub, Nat.reduceAdd, Nat.reduceLT, Nat.reduceEqDiff, Nat.reduceBEq, iv_put, iv_sing, iv_snoc, List.set_cons_zero, List.replicate_succ, List.replicate_zero, List.flatten_cons, List.flatten_nil]
          refine ⟨by omega, hN1 _ _ ⟨[.mask [1, 2, 4, 6, 7, 8, 9], .re [some 0, some 1, some 4]], (f - 1, q ++ [c.read (putFr c x + q.length)]), ?_, ⟨by simp only [List.length_append, List.length_singleton]; omega, by simp only [List.length_append, List.length_singleton]; omega, .inr (by simp only [List.length_append, List.length_singleton]; omega), next _ (by omega) h1 (by unfold putCell; rw [if_neg h2])⟩, by simp only; omega⟩⟩
          rw [gh_maskP rfl, gh_re rfl, if_neg (by simp), if_neg (by simp)]; simp only [go_sem, Nat.reduceSub, Nat.reduceAdd, Nat.reduceEqDiff, Nat.reduceBEq, List.length_append, List.length_singleton]; rw [show putFr c x + (q.length : Int) + 1 = putFr c x + ((q.length + 1 : Nat) : Int) from by omega]
      · have hdone := done h1
        refine hE1 _ _ _ (fun h => by cases h) ?_
        simp (maxSteps := 2000000) (disch := omega) only [go_sem, Nat.reduceSub, Nat.reduceAdd, Nat.reduceLT, Nat.reduceEqDiff, Nat.reduceBEq]
        rw [← hdone] at hq hf3 hql ⊢
        generalize hl2 : putL c x = l at *
        refine awp_loopX (fun n : Nat => tmP 109 .any [(2, .ptr 0 0), (4, .ptr 1 0), (6, .imm (.int .i64 (putFr c x))), (8, .ref 2 0 n)] []) (fun _ => [.obj 0 [.imm (.int .i64 c.st), .imm (.int .i64 c.pos), .imm (.int .i64 c.fr), .imm (intsIV c.cs)], .obj 0 [.imm (.int .i64 0), .imm (.int .i64 0), .imm (.int .i64 0), .imm (.lst .nil 0 [])], .obj 1 (iv l)])
          (fun n => n ≤ l.length ∧ endOf l n = lastOf l) (fun n => n) [.mask [2, 4, 6, 8], .re [some 0, some 1, some 2]] l.length ?_ ⟨Nat.le_refl _, by simp only [lastOf]⟩ ?_
        · rw [gh_maskP rfl, gh_re rfl]; simp only [go_sem, Nat.reduceSub, Nat.reduceAdd, Nat.reduceEqDiff, Nat.reduceBEq]
        rintro n ⟨hn, he⟩ Q2 hN2 hE2
        simp (maxSteps := 2000000) (disch := omega) only [go_sem, Nat.reduceSub, Nat.reduceAdd, Nat.reduceLT, Nat.reduceEqDiff, Nat.reduceBEq]
        have kont : ∀ (m : Nat) (gs : List Gh) (t : List AVal) (L : List Slot), m = lastOf l → m ≤ l.length → ghosts 0 gs t L = some (tmP 109 .any [(2, .ptr 0 0), (4, .ptr 1 0), (6, .imm (.int .i64 (putFr c x))), (8, .ref 2 0 m)] [], [.obj 0 [.imm (.int .i64 c.st), .imm (.int .i64 c.pos), .imm (.int .i64 c.fr), .imm (intsIV c.cs)], .obj 0 [.imm (.int .i64 0), .imm (.int .i64 0), .imm (.int .i64 0), .imm (.lst .nil 0 [])], .obj 1 (iv l)]) → Q2 (.exit 2) t L := by
          intro m gs t L hm hml ht
          refine hE2 _ _ _ (fun h => by cases h) ?_
          simp (maxSteps := 2000000) (disch := omega) only [go_sem, Nat.reduceSub, Nat.reduceAdd, Nat.reduceLT, Nat.reduceEqDiff, Nat.reduceBEq]
          refine awp_loopX (fun q : Nat × Nat => tmP 109 .any [(2, .ptr 0 0), (4, .ptr 1 0), (6, .imm (.int .i64 (putFr c x + q.2))), (8, .ref 2 q.2 (m - q.2))] []) (fun _ => [.obj 0 [.imm (.int .i64 c.st), .imm (.int .i64 c.pos), .imm (.int .i64 c.fr), .imm (intsIV c.cs)], .obj 0 [.imm (.int .i64 0), .imm (.int .i64 0), .imm (.int .i64 0), .imm (.lst .nil 0 [])], .obj 1 (iv l)])
            (fun q => q.2 ≤ m ∧ m - q.2 ≤ q.1 ∧ begOf l m q.1 q.2 = firstOf l) (fun q => q.1) gs (m, 0) ?_ ⟨Nat.zero_le _, by simp, by simp only [firstOf, hm]⟩ ?_
          · rw [ht]; simp
          rintro ⟨g, o⟩ ⟨ho, hg, hb⟩ Q3 hN3 hE3
          simp only at ho hg hb
          simp (maxSteps := 2000000) (disch := omega) only [go_sem, Nat.reduceSub, Nat.reduceAdd, Nat.reduceLT, Nat.reduceEqDiff, Nat.reduceBEq]
          refine Br.sp (fun h3 e3 => ?_) (fun h3 e3 => ?_) <;> simp (maxSteps := 2000000) (disch := omega) only [go_sem, Nat.reduceSub, Nat.reduceAdd, Nat.reduceLT, Nat.reduceEqDiff, Nat.reduceBEq, e3]
          · obtain ⟨g, rfl⟩ : ∃ g', g = g' + 1 := ⟨g - 1, by omega⟩
            try (simp (maxSteps := 2000000) (disch := omega) only [go_sem, Nat.reduceSub, Nat.reduceAdd, Nat.reduceLT, Nat.reduceEqDiff, Nat.reduceBEq, Int.reduceToNat])
            refine Br.sp (fun h4 e4 => ?_) (fun h4 e4 => ?_) <;> simp (maxSteps := 2000000) (disch := omega) only [go_sem, Nat.reduceSub, Nat.reduceAdd, Nat.reduceLT, Nat.reduceEqDiff, Nat.reduceBEq, e4, Int.reduceToNat]
            · rw [begOf, if_pos ⟨by omega, h4⟩] at hb
              refine ⟨by first | omega | (simp; omega), hN3 _ _ ⟨[.mask [2, 4, 6, 8]], (g, o + 1), ?_, ⟨by simp only; omega, by simp only; omega, hb⟩, Nat.lt_succ_self _⟩⟩
              rw [gh_maskP rfl]; simp only [go_sem, Nat.reduceSub, Nat.reduceAdd, Nat.reduceEqDiff, Nat.reduceBEq]
              rw [show putFr c x + ((o + 1 : Nat) : Int) = putFr c x + o + 1 from by omega, show m - (o + 1) = m - o - 1 from by omega]
            · have hfo : o = firstOf l := by rw [← hb, begOf, if_neg (fun q => h4 q.2)]
              refine hE3 _ _ _ (fun h => by cases h) ?_
              have hmle := lastOf_le l
              have hv : viewC 1 (iv l) o (m - o) = some (.imm (intsIV ⟨.full, (l.drop o).take (m - o)⟩)) := iv_view l _ _ hq (by omega)
              have hrr : r = (⟨c.st, c.pos, if o = m then 0 else putFr c x + o, ⟨.full, (l.drop o).take (m - o)⟩⟩, decide (m - o ≤ 100000)) := by
                rw [← hr, putF, if_neg (by omega), hl2, if_neg hq, hfo, hm]
              have hcast : decide (((m - o : Nat) : Int) ≤ 100000) = decide (m - o ≤ 100000) := decide_eq_decide.2 (by omega)
              simp (maxSteps := 2000000) (disch := omega) only [go_sem, Nat.reduceSub, Nat.reduceAdd, Nat.reduceLT, Nat.reduceEqDiff, Nat.reduceBEq]
              refine Br.sp (fun h5 e5 => ?_) (fun h5 e5 => ?_) <;> simp (maxSteps := 2000000) (disch := omega) only [go_sem, Nat.reduceSub, Nat.reduceAdd, Nat.reduceLT, Nat.reduceEqDiff, Nat.reduceBEq, e5]
              · refine hQ2 _ _ (Fin.sim [.frz 2] [.re []] [.cell 4 27, .tmp 5] rfl (by simp only [go_sem, Nat.reduceSub, Nat.reduceAdd, Nat.reduceEqDiff, Nat.reduceBEq, hv]; rfl) ?_)
                simp (maxSteps := 2000000) (disch := omega) only [go_sem, Nat.reduceSub, Nat.reduceAdd, Nat.reduceLT, Nat.reduceEqDiff, Nat.reduceBEq]
                rw [gh_re rfl, hr, hrr, if_pos (by omega), hcast]; simp only [go_sem, Nat.reduceSub, Nat.reduceAdd, Nat.reduceEqDiff, Nat.reduceBEq, Conf.av]
              · refine hQ2 _ _ (Fin.sim [.frz 2] [.re []] [.cell 4 27, .tmp 5] rfl (by simp only [go_sem, Nat.reduceSub, Nat.reduceAdd, Nat.reduceEqDiff, Nat.reduceBEq, hv]; rfl) ?_)
                simp (maxSteps := 2000000) (disch := omega) only [go_sem, Nat.reduceSub, Nat.reduceAdd, Nat.reduceLT, Nat.reduceEqDiff, Nat.reduceBEq]
                rw [gh_re rfl, hr, hrr, if_neg (by omega), hcast]; simp only [go_sem, Nat.reduceSub, Nat.reduceAdd, Nat.reduceEqDiff, Nat.reduceBEq, Conf.av]
          · have hfo : o = firstOf l := by
              rw [← hb]; cases g with
              | zero => rfl
              | succ g => rw [begOf, if_neg (fun q => by omega)]
            refine hE3 _ _ _ (fun h => by cases h) ?_
            have hmle := lastOf_le l
            have hv : viewC 1 (iv l) o (m - o) = some (.imm (intsIV ⟨.full, (l.drop o).take (m - o)⟩)) := iv_view l _ _ hq (by omega)
            have hrr : r = (⟨c.st, c.pos, if o = m then 0 else putFr c x + o, ⟨.full, (l.drop o).take (m - o)⟩⟩, decide (m - o ≤ 100000)) := by
              rw [← hr, putF, if_neg (by omega), hl2, if_neg hq, hfo, hm]
            have hcast : decide (((m - o : Nat) : Int) ≤ 100000) = decide (m - o ≤ 100000) := decide_eq_decide.2 (by omega)
            simp (maxSteps := 2000000) (disch := omega) only [go_sem, Nat.reduceSub, Nat.reduceAdd, Nat.reduceLT, Nat.reduceEqDiff, Nat.reduceBEq]
            refine Br.sp (fun h5 e5 => ?_) (fun h5 e5 => ?_) <;> simp (maxSteps := 2000000) (disch := omega) only [go_sem, Nat.reduceSub, Nat.reduceAdd, Nat.reduceLT, Nat.reduceEqDiff, Nat.reduceBEq, e5]
            · refine hQ2 _ _ (Fin.sim [.frz 2] [.re []] [.cell 4 27, .tmp 5] rfl (by simp only [go_sem, Nat.reduceSub, Nat.reduceAdd, Nat.reduceEqDiff, Nat.reduceBEq, hv]; rfl) ?_)
              simp (maxSteps := 2000000) (disch := omega) only [go_sem, Nat.reduceSub, Nat.reduceAdd, Nat.reduceLT, Nat.reduceEqDiff, Nat.reduceBEq]
              rw [gh_re rfl, hr, hrr, if_pos (by omega), hcast]; simp only [go_sem, Nat.reduceSub, Nat.reduceAdd, Nat.reduceEqDiff, Nat.reduceBEq, Conf.av]
            · refine hQ2 _ _ (Fin.sim [.frz 2] [.re []] [.cell 4 27, .tmp 5] rfl (by simp only [go_sem, Nat.reduceSub, Nat.reduceAdd, Nat.reduceEqDiff, Nat.reduceBEq, hv]; rfl) ?_)
              simp (maxSteps := 2000000) (disch := omega) only [go_sem, Nat.reduceSub, Nat.reduceAdd, Nat.reduceLT, Nat.reduceEqDiff, Nat.reduceBEq]
              rw [gh_re rfl, hr, hrr, if_neg (by omega), hcast]; simp only [go_sem, Nat.reduceSub, Nat.reduceAdd, Nat.reduceEqDiff, Nat.reduceBEq, Conf.av]
        refine Br.sp (fun h3 e3 => ?_) (fun h3 e3 => ?_) <;> simp (maxSteps := 2000000) (disch := omega) only [go_sem, Nat.reduceSub, Nat.reduceAdd, Nat.reduceLT, Nat.reduceEqDiff, Nat.reduceBEq, e3]
        · obtain ⟨n, rfl⟩ : ∃ g, n = g + 1 := ⟨n - 1, by omega⟩
          have e1 : ((n + 1 : Nat) - 1 : Int).toNat = n := by omega
          try (simp (maxSteps := 2000000) (disch := omega) only [go_sem, Nat.reduceSub, Nat.reduceAdd, Nat.reduceLT, Nat.reduceEqDiff, Nat.reduceBEq])
          try simp only [e1]
          refine Br.sp (fun h4 e4 => ?_) (fun h4 e4 => ?_) <;> simp (maxSteps := 2000000) (disch := omega) only [go_sem, Nat.reduceSub, Nat.reduceAdd, Nat.reduceLT, Nat.reduceEqDiff, Nat.reduceBEq, e4]
          · refine ⟨by first | omega | (simp; omega), hN2 _ _ ⟨[.mask [2, 4, 6, 8]], n, ?_, ⟨by omega, ?_⟩, Nat.lt_succ_self _⟩⟩
            · rw [gh_maskP rfl]; simp only [go_sem, Nat.reduceSub, Nat.reduceAdd, Nat.reduceEqDiff, Nat.reduceBEq, e1]
            · rw [← he, endOf, if_pos h4]
          · refine kont (n + 1) [.mask [2, 4, 6, 8]] _ _ (by rw [← he, endOf, if_neg h4]) hn ?_
            rw [gh_maskP rfl]; simp only [go_sem, Nat.reduceSub, Nat.reduceAdd, Nat.reduceEqDiff, Nat.reduceBEq]
        · refine kont n [.mask [2, 4, 6, 8]] _ _ (by rw [← he, show n = 0 from by omega]; rfl) hn ?_
          rw [gh_maskP rfl]; simp only [go_sem, Nat.reduceSub, Nat.reduceAdd, Nat.reduceEqDiff, Nat.reduceBEq]
  refine Br.sp (fun hl0 e => ?_) (fun hl0 e => ?_) <;> simp (maxSteps := 2000000) (disch := omega) only [go_sem, Nat.reduceSub, Nat.reduceAdd, Nat.reduceLT, Nat.reduceEqDiff, Nat.reduceBEq, e]
  · have ex := eq_false hx0
    have hfr : putFr c x = min c.pos c.pos := by unfold putFr; rw [if_neg hx0, if_pos hl0]; omega
    have hto : putTo c x = max c.pos (c.pos + 1) := by unfold putTo; rw [if_neg hx0, if_pos hl0]; omega
    refine awp_draw [] (by kernel_rfl) (by kernel_rfl) ?_
    simp (maxSteps := 2000000) (disch := omega) only [go_sem, Nat.reduceSub, Nat.reduceAdd, Nat.reduceLT, Nat.reduceEqDiff, Nat.reduceBEq, ex]
    refine awp_draw [] (by kernel_rfl) (by kernel_rfl) ?_
    simp (maxSteps := 2000000) (disch := omega) only [go_sem, Nat.reduceSub, Nat.reduceAdd, Nat.reduceLT, Nat.reduceEqDiff, Nat.reduceBEq, ex]
    refine Br.sp (fun h e => ?_) (fun h e => ?_) <;> simp (maxSteps := 2000000) (disch := omega) only [go_sem, Nat.reduceSub, Nat.reduceAdd, Nat.reduceLT, Nat.reduceEqDiff, Nat.reduceBEq, e]
    · exfalso; omega
    have hb0 : putTo c x - putFr c x ≤ 100001 := by omega
    have hb1 : -1099511627776 ≤ putFr c x := by omega
    have hb2 : putTo c x ≤ 1099511827776 := by omega
    have hb3 : putFr c x ≤ 1099511627776 := by omega
    refine awp_loopX (fun q : Nat × List Int => tmP 109 .any [(1, .imm (.int .i64 x)), (2, .ptr 0 0), (4, .ptr 1 0), (6, .imm (.int .i64 (putFr c x))), (7, .imm (.int .i64 (putTo c x))), (8, if q.2 = [] then .imm (.lst .nil 0 []) else .ref 2 0 q.2.length), (9, .imm (.int .i64 (putFr c x + q.2.length)))] [])
      (fun q => [.obj 0 [.imm (.int .i64 c.st), .imm (.int .i64 c.pos), .imm (.int .i64 c.fr), .imm (intsIV c.cs)], .obj 0 [.imm (.int .i64 0), .imm (.int .i64 0), .imm (.int .i64 0), .imm (.lst .nil 0 [])], if q.2 = [] then .dead else .obj 1 (iv q.2)])
      (fun q => putTo c x - putFr c x - q.2.length ≤ q.1 ∧ (q.2.length : Int) ≤ 100001 ∧ (q.2 = [] ∨ putFr c x + q.2.length ≤ putTo c x) ∧ putUp c x (putTo c x) q.1 (putFr c x + q.2.length) q.2 = putL c x) (fun q => q.1) [.mask [1, 2, 4, 6, 7, 8, 9], .re [some 0, some 1, none]] ((putTo c x - putFr c x).toNat, []) ?_
      ⟨by simp only [List.length_nil]; omega, by simp, .inl rfl, by simp only [List.length_nil, putL]; congr 1; simp⟩ ?_
    · rw [gh_maskP rfl, gh_re rfl, hfr, hto]; simp only [go_sem, Nat.reduceSub, Nat.reduceAdd, Nat.reduceEqDiff, Nat.reduceBEq]; simp
    rintro ⟨f, q⟩ ⟨hf0, hf3, hf1, hf2⟩ Q1 hN1 hE1
    simp only at hf0 hf1 hf2 hf3
    clear hfr hto h
    have hmost : most = 1099511627776 := by decide
    have next : ∀ v, f ≠ 0 → putFr c x + q.length < putTo c x → v = putCell c x (putFr c x + q.length) → putUp c x (putTo c x) (f - 1) (putFr c x + (q ++ [v]).length) (q ++ [v]) = putL c x := by
      intro v hf hlt hv
      obtain ⟨f, rfl⟩ : ∃ g, f = g + 1 := ⟨f - 1, by omega⟩
      rw [putUp, if_pos hlt] at hf2
      rw [← hf2, hv]; simp only [List.length_append, List.length_singleton, Nat.add_sub_cancel]; congr 1; omega
    have done : ¬ putFr c x + q.length < putTo c x → putL c x = q := by
      intro hlt; rw [← hf2]; cases f with
      | zero => rfl
      | succ f => rw [putUp, if_neg hlt]
    by_cases hq : q = []
    · subst hq
      simp only [if_true, List.length_nil, Int.natCast_zero, Int.ofNat_zero, Int.add_zero, List.nil_append, List.length_singleton] at hf0 hf2 next done ⊢
      simp (maxSteps := 2000000) (disch := omega) only [go_sem, Nat.reduceSub, Nat.reduceAdd, Nat.reduceLT, Nat.reduceEqDiff, Nat.reduceBEq]
      refine Br.sp (fun h1 e1 => ?_) (fun h1 e1 => ?_) <;> simp (maxSteps := 2000000) (disch := omega) only [go_sem, Nat.reduceSub, Nat.reduceAdd, Nat.reduceLT, Nat.reduceEqDiff, Nat.reduceBEq, e1]
      · refine Br.sp (fun h2 e2 => ?_) (fun h2 e2 => ?_) <;> simp (maxSteps := 2000000) (disch := omega) only [go_sem, Nat.reduceSub, Nat.reduceAdd, Nat.reduceLT, Nat.reduceEqDiff, Nat.reduceBEq, e2]
        · simp (maxSteps := 2000000) (disch := omega) only [go_sem, Nat.reduceSub, Nat.reduceAdd, Nat.reduceLT, Nat.reduceEqDiff, Nat.reduceBEq, iv_put, iv_sing, iv_snoc, List.set_cons_zero, List.replicate_succ, List.replicate_zero, List.flatten_cons, List.flatten_nil]
          refine ⟨by omega, hN1 _ _ ⟨[.mask [1, 2, 4, 6, 7, 8, 9], .re [some 0, some 1, some 4]], (f - 1, [x]), ?_, ⟨by simp only [List.length_singleton]; omega, by simp, .inr (by simp only [List.length_singleton]; omega), next x (by omega) h1 (by unfold putCell; rw [if_pos h2])⟩, by simp only; omega⟩⟩
          rw [gh_maskP rfl, gh_re rfl]; simp only [go_sem, Nat.reduceSub, Nat.reduceAdd, Nat.reduceEqDiff, Nat.reduceBEq, List.length_singleton]; simp
        · refine call_imm (read_ret _ c (putFr c x) hc (by unfold i64ok; omega)) rfl rfl ?_
          simp (maxSteps := 2000000) (disch := omega) only [go_sem, Nat.reduceSub, Nat.reduceAdd, Nat.reduceLT, Nat.reduceEqDiff, Nat.reduceBEq, iv_put, iv_sing, iv_snoc, List.set_cons_zero, List.replicate_succ, List.replicate_zero, List.flatten_cons, List.flatten_nil]
          refine ⟨by omega, hN1 _ _ ⟨[.mask [1, 2, 4, 6, 7, 8, 9], .re [some 0, some 1, some 4]], (f - 1, [c.read (putFr c x)]), ?_, ⟨by simp only [List.length_singleton]; omega, by simp, .inr (by simp only [List.length_singleton]; omega), next _ (by omega) h1 (by unfold putCell; rw [if_neg h2])⟩, by simp only; omega⟩⟩
          rw [gh_maskP rfl, gh_re rfl]; simp only [go_sem, Nat.reduceSub, Nat.reduceAdd, Nat.reduceEqDiff, Nat.reduceBEq, List.length_singleton]; simp
      · have hdone := done h1
        refine hE1 _ _ _ (fun h => by cases h) ?_
        simp (maxSteps := 2000000) (disch := omega) only [go_sem, Nat.reduceSub, Nat.reduceAdd, Nat.reduceLT, Nat.reduceEqDiff, Nat.reduceBEq]
        refine awp_loopX (fun _ : Unit => tmP 109 .any [(2, .ptr 0 0), (4, .ptr 1 0), (6, .imm (.int .i64 (putFr c x))), (8, .imm (.lst .nil 0 []))] []) (fun _ => [.obj 0 [.imm (.int .i64 c.st), .imm (.int .i64 c.pos), .imm (.int .i64 c.fr), .imm (intsIV c.cs)], .obj 0 [.imm (.int .i64 0), .imm (.int .i64 0), .imm (.int .i64 0), .imm (.lst .nil 0 [])]]) (fun _ => True) (fun _ => 0) [.mask [2, 4, 6, 8], .re [some 0, some 1]] () ?_ trivial ?_
        · rw [gh_maskP rfl, gh_re rfl]; simp only [go_sem, Nat.reduceSub, Nat.reduceAdd, Nat.reduceEqDiff, Nat.reduceBEq]
        rintro ⟨⟩ - Q2 hN2 hE2
        simp (maxSteps := 2000000) (disch := omega) only [go_sem, Nat.reduceSub, Nat.reduceAdd, Nat.reduceLT, Nat.reduceEqDiff, Nat.reduceBEq]
        refine Br.sp (fun h3 e3 => ?_) (fun h3 e3 => ?_) <;> simp (maxSteps := 2000000) (disch := omega) only [go_sem, Nat.reduceSub, Nat.reduceAdd, Nat.reduceLT, Nat.reduceEqDiff, Nat.reduceBEq, e3]
        · exfalso; omega
        refine hE2 _ _ _ (fun h => by cases h) ?_
        simp (maxSteps := 2000000) (disch := omega) only [go_sem, Nat.reduceSub, Nat.reduceAdd, Nat.reduceLT, Nat.reduceEqDiff, Nat.reduceBEq]
        refine awp_loopX (fun _ : Unit => tmP 109 .any [(2, .ptr 0 0), (4, .ptr 1 0), (6, .imm (.int .i64 (putFr c x))), (8, .imm (.lst .nil 0 []))] []) (fun _ => [.obj 0 [.imm (.int .i64 c.st), .imm (.int .i64 c.pos), .imm (.int .i64 c.fr), .imm (intsIV c.cs)], .obj 0 [.imm (.int .i64 0), .imm (.int .i64 0), .imm (.int .i64 0), .imm (.lst .nil 0 [])]]) (fun _ => True) (fun _ => 0) [.mask [2, 4, 6, 8]] () ?_ trivial ?_
        · rw [gh_maskP rfl]; simp only [go_sem, Nat.reduceSub, Nat.reduceAdd, Nat.reduceEqDiff, Nat.reduceBEq]
        rintro ⟨⟩ - Q3 hN3 hE3
        simp (maxSteps := 2000000) (disch := omega) only [go_sem, Nat.reduceSub, Nat.reduceAdd, Nat.reduceLT, Nat.reduceEqDiff, Nat.reduceBEq]
        refine Br.sp (fun h3 e3 => ?_) (fun h3 e3 => ?_) <;> simp (maxSteps := 2000000) (disch := omega) only [go_sem, Nat.reduceSub, Nat.reduceAdd, Nat.reduceLT, Nat.reduceEqDiff, Nat.reduceBEq, e3]
        · exfalso; omega
        refine hE3 _ _ _ (fun h => by cases h) ?_
        simp (maxSteps := 2000000) (disch := omega) only [go_sem, Nat.reduceSub, Nat.reduceAdd, Nat.reduceLT, Nat.reduceEqDiff, Nat.reduceBEq]
        refine Br.sp (fun h3 e3 => ?_) (fun h3 e3 => ?_) <;> simp (maxSteps := 2000000) (disch := omega) only [go_sem, Nat.reduceSub, Nat.reduceAdd, Nat.reduceLT, Nat.reduceEqDiff, Nat.reduceBEq, e3]
        rotate_left
        · exfalso; omega
        refine hQ2 _ _ (Fin.sim [] [.re []] [.cell 4 27, .tmp 5] rfl gh_nil ?_)
        simp (maxSteps := 2000000) (disch := omega) only [go_sem, Nat.reduceSub, Nat.reduceAdd, Nat.reduceLT, Nat.reduceEqDiff, Nat.reduceBEq]
        have hrr : r = (⟨c.st, c.pos, 0, ⟨.nil, []⟩⟩, true) := by rw [← hr, putF, if_neg (by omega), if_pos hdone]
        rw [gh_re rfl, hr, hrr]; simp only [go_sem, Nat.reduceSub, Nat.reduceAdd, Nat.reduceEqDiff, Nat.reduceBEq, Conf.av]; rfl
    · simp only [if_neg hq]
      have hql : q.length ≠ 0 := fun h => hq (List.eq_nil_of_length_eq_zero h)
      simp (maxSteps := 2000000) (disch := omega) only [go_sem, Nat.reduceSub, Nat.reduceAdd, Nat.reduceLT, Nat.reduceEqDiff, Nat.reduceBEq]
      refine Br.sp (fun h1 e1 => ?_) (fun h1 e1 => ?_) <;> simp (maxSteps := 2000000) (disch := omega) only [go_sem, Nat.reduceSub, Nat.reduceAdd, Nat.reduceLT, Nat.reduceEqDiff, Nat.reduceBEq, e1]
      · refine Br.sp (fun h2 e2 => ?_) (fun h2 e2 => ?_) <;> simp (maxSteps := 2000000) (disch := omega) only [go_sem, Nat.reduceSub, Nat.reduceAdd, Nat.reduceLT, Nat.reduceEqDiff, Nat.reduceBEq, e2]
        · simp (maxSteps := 2000000) (disch := omega) only [go_sem, Nat.reduceSub, Nat.reduceAdd, Nat.reduceLT, Nat.reduceEqDiff, Nat.reduceBEq, iv_put, iv_sing, iv_snoc, List.set_cons_zero, List.replicate_succ, List.replicate_zero, List.flatten_cons, List.flatten_nil]
          refine ⟨by omega, hN1 _ _ ⟨[.mask [1, 2, 4, 6, 7, 8, 9], .re [some 0, some 1, some 4]], (f - 1, q ++ [x]), ?_, ⟨by simp only [List.length_append, List.length_singleton]; omega, by simp only [List.length_append, List.length_singleton]; omega, .inr (by simp only [List.length_append, List.length_singleton]; omega), next x (by omega) h1 (by unfold putCell; rw [if_pos h2])⟩, by simp only; omega⟩⟩
          rw [gh_maskP rfl, gh_re rfl, if_neg (by simp), if_neg (by simp)]; simp only [go_sem, Nat.reduceSub, Nat.reduceAdd, Nat.reduceEqDiff, Nat.reduceBEq, List.length_append, List.length_singleton]; rw [show putFr c x + (q.length : Int) + 1 = putFr c x + ((q.length + 1 : Nat) : Int) from by omega]
        · refine call_imm (read_ret _ c (putFr c x + q.length) hc (by unfold i64ok; omega)) rfl rfl ?_
          simp (maxSteps := 2000000) (disch := omega) only [go_sem, Nat.reduceSub, Nat.reduceAdd, Nat.reduceLT, Nat.reduceEqDiff, Nat.reduceBEq, iv_put, iv_sing, iv_snoc, List.set_cons_zero, List.replicate_succ, List.replicate_zero, List.flatten_cons, List.flatten_nil]
          refine ⟨by omega, hN1 _ _ ⟨[.mask [1, 2, 4, 6, 7, 8, 9], .re [some 0, some 1, some 4]], (f - 1, q ++ [c.read (putFr c x + q.length)]), ?_, ⟨by simp only [List.length_append, List.length_singleton]; omega, by simp only [List.length_append, List.length_singleton]; omega, .inr (by simp only [List.length_append, List.length_singleton]; omega), next _ (by omega) h1 (by unfold putCell; rw [if_neg h2])⟩, by simp only; omega⟩⟩
          rw [gh_maskP rfl, gh_re rfl, if_neg (by simp), if_neg (by simp)]; simp only [go_sem, Nat.reduceSub, Nat.reduceAdd, Nat.reduceEqDiff, Nat.reduceBEq, List.length_append, List.length_singleton]; rw [show putFr c x + (q.length : Int) + 1 = putFr c x + ((q.length + 1 : Nat) : Int) from by omega]
      · have hdone := done h1
        refine hE1 _ _ _ (fun h => by cases h) ?_
        simp (maxSteps := 2000000) (disch := omega) only [go_sem, Nat.reduceSub, Nat.reduceAdd, Nat.reduceLT, Nat.reduceEqDiff, Nat.reduceBEq]
        rw [← hdone] at hq hf3 hql ⊢
        generalize hl2 : putL c x = l at *
        refine awp_loopX (fun n : Nat => tmP 109 .any [(2, .ptr 0 0), (4, .ptr 1 0), (6, .imm (.int .i64 (putFr c x))), (8, .ref 2 0 n)] []) (fun _ => [.obj 0 [.imm (.int .i64 c.st), .imm (.int .i64 c.pos), .imm (.int .i64 c.fr), .imm (intsIV c.cs)], .obj 0 [.imm (.int .i64 0), .imm (.int .i64 0), .imm (.int .i64 0), .imm (.lst .nil 0 [])], .obj 1 (iv l)])
          (fun n => n ≤ l.length ∧ endOf l n = lastOf l) (fun n => n) [.mask [2, 4, 6, 8], .re [some 0, some 1, some 2]] l.length ?_ ⟨Nat.le_refl _, by simp only [lastOf]⟩ ?_
        · rw [gh_maskP rfl, gh_re rfl]; simp only [go_sem, Nat.reduceSub, Nat.reduceAdd, Nat.reduceEqDiff, Nat.reduceBEq]
        rintro n ⟨hn, he⟩ Q2 hN2 hE2
        simp (maxSteps := 2000000) (disch := omega) only [go_sem, Nat.reduceSub, Nat.reduceAdd, Nat.reduceLT, Nat.reduceEqDiff, Nat.reduceBEq]
        have kont : ∀ (m : Nat) (gs : List Gh) (t : List AVal) (L : List Slot), m = lastOf l → m ≤ l.length → ghosts 0 gs t L = some (tmP 109 .any [(2, .ptr 0 0), (4, .ptr 1 0), (6, .imm (.int .i64 (putFr c x))), (8, .ref 2 0 m)] [], [.obj 0 [.imm (.int .i64 c.st), .imm (.int .i64 c.pos), .imm (.int .i64 c.fr), .imm (intsIV c.cs)], .obj 0 [.imm (.int .i64 0), .imm (.int .i64 0), .imm (.int .i64 0), .imm (.lst .nil 0 [])], .obj 1 (iv l)]) → Q2 (.exit 2) t L := by
          intro m gs t L hm hml ht
          refine hE2 _ _ _ (fun h => by cases h) ?_
          simp (maxSteps := 2000000) (disch := omega) only [go_sem, Nat.reduceSub, Nat.reduceAdd, Nat.reduceLT, Nat.reduceEqDiff, Nat.reduceBEq]
          refine awp_loopX (fun q : Nat × Nat => tmP 109 .any [(2, .ptr 0 0), (4, .ptr 1 0), (6, .imm (.int .i64 (putFr c x + q.2))), (8, .ref 2 q.2 (m - q.2))] []) (fun _ => [.obj 0 [.imm (.int .i64 c.st), .imm (.int .i64 c.pos), .imm (.int .i64 c.fr), .imm (intsIV c.cs)], .obj 0 [.imm (.int .i64 0), .imm (.int .i64 0), .imm (.int .i64 0), .imm (.lst .nil 0 [])], .obj 1 (iv l)])
            (fun q => q.2 ≤ m ∧ m - q.2 ≤ q.1 ∧ begOf l m q.1 q.2 = firstOf l) (fun q => q.1) gs (m, 0) ?_ ⟨Nat.zero_le _, by simp, by simp only [firstOf, hm]⟩ ?_
          · rw [ht]; simp
          rintro ⟨g, o⟩ ⟨ho, hg, hb⟩ Q3 hN3 hE3
          simp only at ho hg hb
          simp (maxSteps := 2000000) (disch := omega) only [go_sem, Nat.reduceSub, Nat.reduceAdd, Nat.reduceLT, Nat.reduceEqDiff, Nat.reduceBEq]
          refine Br.sp (fun h3 e3 => ?_) (fun h3 e3 => ?_) <;> simp (maxSteps := 2000000) (disch := omega) only [go_sem, Nat.reduceSub, Nat.reduceAdd, Nat.reduceLT, Nat.reduceEqDiff, Nat.reduceBEq, e3]
          · obtain ⟨g, rfl⟩ : ∃ g', g = g' + 1 := ⟨g - 1, by omega⟩
            try (simp (maxSteps := 2000000) (disch := omega) only [go_sem, Nat.reduceSub, Nat.reduceAdd, Nat.reduceLT, Nat.reduceEqDiff, Nat.reduceBEq, Int.reduceToNat])
            refine Br.sp (fun h4 e4 => ?_) (fun h4 e4 => ?_) <;> simp (maxSteps := 2000000) (disch := omega) only [go_sem, Nat.reduceSub, Nat.reduceAdd, Nat.reduceLT, Nat.reduceEqDiff, Nat.reduceBEq, e4, Int.reduceToNat]
            · rw [begOf, if_pos ⟨by omega, h4⟩] at hb
              refine ⟨by first | omega | (simp; omega), hN3 _ _ ⟨[.mask [2, 4, 6, 8]], (g, o + 1), ?_, ⟨by simp only; omega, by simp only; omega, hb⟩, Nat.lt_succ_self _⟩⟩
              rw [gh_maskP rfl]; simp only [go_sem, Nat.reduceSub, Nat.reduceAdd, Nat.reduceEqDiff, Nat.reduceBEq]
              rw [show putFr c x + ((o + 1 : Nat) : Int) = putFr c x + o + 1 from by omega, show m - (o + 1) = m - o - 1 from by omega]
            · have hfo : o = firstOf l := by rw [← hb, begOf, if_neg (fun q => h4 q.2)]
              refine hE3 _ _ _ (fun h => by cases h) ?_
              have hmle := lastOf_le l
              have hv : viewC 1 (iv l) o (m - o) = some (.imm (intsIV ⟨.full, (l.drop o).take (m - o)⟩)) := iv_view l _ _ hq (by omega)
              have hrr : r = (⟨c.st, c.pos, if o = m then 0 else putFr c x + o, ⟨.full, (l.drop o).take (m - o)⟩⟩, decide (m - o ≤ 100000)) := by
                rw [← hr, putF, if_neg (by omega), hl2, if_neg hq, hfo, hm]
              have hcast : decide (((m - o : Nat) : Int) ≤ 100000) = decide (m - o ≤ 100000) := decide_eq_decide.2 (by omega)
              simp (maxSteps := 2000000) (disch := omega) only [go_sem, Nat.reduceSub, Nat.reduceAdd, Nat.reduceLT, Nat.reduceEqDiff, Nat.reduceBEq]
              refine Br.sp (fun h5 e5 => ?_) (fun h5 e5 => ?_) <;> simp (maxSteps := 2000000) (disch := omega) only [go_sem, Nat.reduceSub, Nat.reduceAdd, Nat.reduceLT, Nat.reduceEqDiff, Nat.reduceBEq, e5]
              · refine hQ2 _ _ (Fin.sim [.frz 2] [.re []] [.cell 4 27, .tmp 5] rfl (by simp only [go_sem, Nat.reduceSub, Nat.reduceAdd, Nat.reduceEqDiff, Nat.reduceBEq, hv]; rfl) ?_)
                simp (maxSteps := 2000000) (disch := omega) only [go_sem, Nat.reduceSub, Nat.reduceAdd, Nat.reduceLT, Nat.reduceEqDiff, Nat.reduceBEq]
                rw [gh_re rfl, hr, hrr, if_pos (by omega), hcast]; simp only [go_sem, Nat.reduceSub, Nat.reduceAdd, Nat.reduceEqDiff, Nat.reduceBEq, Conf.av]
              · refine hQ2 _ _ (Fin.sim [.frz 2] [.re []] [.cell 4 27, .tmp 5] rfl (by simp only [go_sem, Nat.reduceSub, Nat.reduceAdd, Nat.reduceEqDiff, Nat.reduceBEq, hv]; rfl) ?_)
                simp (maxSteps := 2000000) (disch := omega) only [go_sem, Nat.reduceSub, Nat.reduceAdd, Nat.reduceLT, Nat.reduceEqDiff, Nat.reduceBEq]
                rw [gh_re rfl, hr, hrr, if_neg (by omega), hcast]; simp only [go_sem, Nat.reduceSub, Nat.reduceAdd, Nat.reduceEqDiff, Nat.reduceBEq, Conf.av]
          · have hfo : o = firstOf l := by
              rw [← hb]; cases g with
              | zero => rfl
              | succ g => rw [begOf, if_neg (fun q => by omega)]
            refine hE3 _ _ _ (fun h => by cases h) ?_
            have hmle := lastOf_le l
            have hv : viewC 1 (iv l) o (m - o) = some (.imm (intsIV ⟨.full, (l.drop o).take (m - o)⟩)) := iv_view l _ _ hq (by omega)
            have hrr : r = (⟨c.st, c.pos, if o = m then 0 else putFr c x + o, ⟨.full, (l.drop o).take (m - o)⟩⟩, decide (m - o ≤ 100000)) := by
              rw [← hr, putF, if_neg (by omega), hl2, if_neg hq, hfo, hm]
            have hcast : decide (((m - o : Nat) : Int) ≤ 100000) = decide (m - o ≤ 100000) := decide_eq_decide.2 (by omega)
            simp (maxSteps := 2000000) (disch := omega) only [go_sem, Nat.reduceSub, Nat.reduceAdd, Nat.reduceLT, Nat.reduceEqDiff, Nat.reduceBEq]
            refine Br.sp (fun h5 e5 => ?_) (fun h5 e5 => ?_) <;> simp (maxSteps := 2000000) (disch := omega) only [go_sem, Nat.reduceSub, Nat.reduceAdd, Nat.reduceLT, Nat.reduceEqDiff, Nat.reduceBEq, e5]
            · refine hQ2 _ _ (Fin.sim [.frz 2] [.re []] [.cell 4 27, .tmp 5] rfl (by simp only [go_sem, Nat.reduceSub, Nat.reduceAdd, Nat.reduceEqDiff, Nat.reduceBEq, hv]; rfl) ?_)
              simp (maxSteps := 2000000) (disch := omega) only [go_sem, Nat.reduceSub, Nat.reduceAdd, Nat.reduceLT, Nat.reduceEqDiff, Nat.reduceBEq]
              rw [gh_re rfl, hr, hrr, if_pos (by omega), hcast]; simp only [go_sem, Nat.reduceSub, Nat.reduceAdd, Nat.reduceEqDiff, Nat.reduceBEq, Conf.av]
            · refine hQ2 _ _ (Fin.sim [.frz 2] [.re []] [.cell 4 27, .tmp 5] rfl (by simp only [go_sem, Nat.reduceSub, Nat.reduceAdd, Nat.reduceEqDiff, Nat.reduceBEq, hv]; rfl) ?_)
              simp (maxSteps := 2000000) (disch := omega) only [go_sem, Nat.reduceSub, Nat.reduceAdd, Nat.reduceLT, Nat.reduceEqDiff, Nat.reduceBEq]
              rw [gh_re rfl, hr, hrr, if_neg (by omega), hcast]; simp only [go_sem, Nat.reduceSub, Nat.reduceAdd, Nat.reduceEqDiff, Nat.reduceBEq, Conf.av]
        refine Br.sp (fun h3 e3 => ?_) (fun h3 e3 => ?_) <;> simp (maxSteps := 2000000) (disch := omega) only [go_sem, Nat.reduceSub, Nat.reduceAdd, Nat.reduceLT, Nat.reduceEqDiff, Nat.reduceBEq, e3]
        · obtain ⟨n, rfl⟩ : ∃ g, n = g + 1 := ⟨n - 1, by omega⟩
          have e1 : ((n + 1 : Nat) - 1 : Int).toNat = n := by omega
          try (simp (maxSteps := 2000000) (disch := omega) only [go_sem, Nat.reduceSub, Nat.reduceAdd, Nat.reduceLT, Nat.reduceEqDiff, Nat.reduceBEq])
          try simp only [e1]
          refine Br.sp (fun h4 e4 => ?_) (fun h4 e4 => ?_) <;> simp (maxSteps := 2000000) (disch := omega) only [go_sem, Nat.reduceSub, Nat.reduceAdd, Nat.reduceLT, Nat.reduceEqDiff, Nat.reduceBEq, e4]
          · refine ⟨by first | omega | (simp; omega), hN2 _ _ ⟨[.mask [2, 4, 6, 8]], n, ?_, ⟨by omega, ?_⟩, Nat.lt_succ_self _⟩⟩
            · rw [gh_maskP rfl]; simp only [go_sem, Nat.reduceSub, Nat.reduceAdd, Nat.reduceEqDiff, Nat.reduceBEq, e1]
            · rw [← he, endOf, if_pos h4]
          · refine kont (n + 1) [.mask [2, 4, 6, 8]] _ _ (by rw [← he, endOf, if_neg h4]) hn ?_
            rw [gh_maskP rfl]; simp only [go_sem, Nat.reduceSub, Nat.reduceAdd, Nat.reduceEqDiff, Nat.reduceBEq]
        · refine kont n [.mask [2, 4, 6, 8]] _ _ (by rw [← he, show n = 0 from by omega]; rfl) hn ?_
          rw [gh_maskP rfl]; simp only [go_sem, Nat.reduceSub, Nat.reduceAdd, Nat.reduceEqDiff, Nat.reduceBEq]
  · have ex := eq_false hx0
    have hfr : putFr c x = min c.fr c.pos := by unfold putFr; rw [if_neg hx0, if_neg hl0]
    have hto : putTo c x = max (c.fr + c.cs.l.length) (c.pos + 1) := by unfold putTo; rw [if_neg hx0, if_neg hl0]
    simp (maxSteps := 2000000) (disch := omega) only [go_sem, Nat.reduceSub, Nat.reduceAdd, Nat.reduceLT, Nat.reduceEqDiff, Nat.reduceBEq, ex]
    refine awp_draw [] (by kernel_rfl) (by kernel_rfl) ?_
    simp (maxSteps := 2000000) (disch := omega) only [go_sem, Nat.reduceSub, Nat.reduceAdd, Nat.reduceLT, Nat.reduceEqDiff, Nat.reduceBEq, ex]
    refine Br.sp (fun h e => ?_) (fun h e => ?_) <;> simp (maxSteps := 2000000) (disch := omega) only [go_sem, Nat.reduceSub, Nat.reduceAdd, Nat.reduceLT, Nat.reduceEqDiff, Nat.reduceBEq, e]
    · refine hQ2 _ _ (Fin.sim [] [.re []] [.cell 4 27, .tmp 5] rfl gh_nil ?_)
      simp (maxSteps := 2000000) (disch := omega) only [go_sem, Nat.reduceSub, Nat.reduceAdd, Nat.reduceLT, Nat.reduceEqDiff, Nat.reduceBEq]
      rw [gh_re rfl, hr, big (by omega)]; simp only [go_sem, Nat.reduceSub, Nat.reduceAdd, Nat.reduceEqDiff, Nat.reduceBEq, conf0, Conf.av]; rfl
    have hb0 : putTo c x - putFr c x ≤ 100001 := by omega
    have hb1 : -1099511627776 ≤ putFr c x := by omega
    have hb2 : putTo c x ≤ 1099511827776 := by omega
    have hb3 : putFr c x ≤ 1099511627776 := by omega
    refine awp_loopX (fun q : Nat × List Int => tmP 109 .any [(1, .imm (.int .i64 x)), (2, .ptr 0 0), (4, .ptr 1 0), (6, .imm (.int .i64 (putFr c x))), (7, .imm (.int .i64 (putTo c x))), (8, if q.2 = [] then .imm (.lst .nil 0 []) else .ref 2 0 q.2.length), (9, .imm (.int .i64 (putFr c x + q.2.length)))] [])
      (fun q => [.obj 0 [.imm (.int .i64 c.st), .imm (.int .i64 c.pos), .imm (.int .i64 c.fr), .imm (intsIV c.cs)], .obj 0 [.imm (.int .i64 0), .imm (.int .i64 0), .imm (.int .i64 0), .imm (.lst .nil 0 [])], if q.2 = [] then .dead else .obj 1 (iv q.2)])
      (fun q => putTo c x - putFr c x - q.2.length ≤ q.1 ∧ (q.2.length : Int) ≤ 100001 ∧ (q.2 = [] ∨ putFr c x + q.2.length ≤ putTo c x) ∧ putUp c x (putTo c x) q.1 (putFr c x + q.2.length) q.2 = putL c x) (fun q => q.1) [.mask [1, 2, 4, 6, 7, 8, 9], .re [some 0, some 1, none]] ((putTo c x - putFr c x).toNat, []) ?_
      ⟨by simp only [List.length_nil]; omega, by simp, .inl rfl, by simp only [List.length_nil, putL]; congr 1; simp⟩ ?_
    · rw [gh_maskP rfl, gh_re rfl, hfr, hto]; simp only [go_sem, Nat.reduceSub, Nat.reduceAdd, Nat.reduceEqDiff, Nat.reduceBEq]; simp
    rintro ⟨f, q⟩ ⟨hf0, hf3, hf1, hf2⟩ Q1 hN1 hE1
    simp only at hf0 hf1 hf2 hf3
    clear hfr hto h
    have hmost : most = 1099511627776 := by decide
    have next : ∀ v, f ≠ 0 → putFr c x + q.length < putTo c x → v = putCell c x (putFr c x + q.length) → putUp c x (putTo c x) (f - 1) (putFr c x + (q ++ [v]).length) (q ++ [v]) = putL c x := by
      intro v hf hlt hv
      obtain ⟨f, rfl⟩ : ∃ g, f = g + 1 := ⟨f - 1, by omega⟩
      rw [putUp, if_pos hlt] at hf2
      rw [← hf2, hv]; simp only [List.length_append, List.length_singleton, Nat.add_sub_cancel]; congr 1; omega
    have done : ¬ putFr c x + q.length < putTo c x → putL c x = q := by
      intro hlt; rw [← hf2]; cases f with
      | zero => rfl
      | succ f => rw [putUp, if_neg hlt]
    by_cases hq : q = []
    · subst hq
      simp only [if_true, List.length_nil, Int.natCast_zero, Int.ofNat_zero, Int.add_zero, List.nil_append, List.length_singleton] at hf0 hf2 next done ⊢
      simp (maxSteps := 2000000) (disch := omega) only [go_sem, Nat.reduceSub, Nat.reduceAdd, Nat.reduceLT, Nat.reduceEqDiff, Nat.reduceBEq]
      refine Br.sp (fun h1 e1 => ?_) (fun h1 e1 => ?_) <;> simp (maxSteps := 2000000) (disch := omega) only [go_sem, Nat.reduceSub, Nat.reduceAdd, Nat.reduceLT, Nat.reduceEqDiff, Nat.reduceBEq, e1]
      · refine Br.sp (fun h2 e2 => ?_) (fun h2 e2 => ?_) <;> simp (maxSteps := 2000000) (disch := omega) only [go_sem, Nat.reduceSub, Nat.reduceAdd, Nat.reduceLT, Nat.reduceEqDiff, Nat.reduceBEq, e2]
        · simp (maxSteps := 2000000) (disch := omega) only [go_sem, Nat.reduceSub, Nat.reduceAdd, Nat.reduceLT, Nat.reduceEqDiff, Nat.reduceBEq, iv_put, iv_sing, iv_snoc, List.set_cons_zero, List.replicate_succ, List.replicate_zero, List.flatten_cons, List.flatten_nil]
          refine ⟨by omega, hN1 _ _ ⟨[.mask [1, 2, 4, 6, 7, 8, 9], .re [some 0, some 1, some 4]], (f - 1, [x]), ?_, ⟨by simp only [List.length_singleton]; omega, by simp, .inr (by simp only [List.length_singleton]; omega), next x (by omega) h1 (by unfold putCell; rw [if_pos h2])⟩, by simp only; omega⟩⟩
          rw [gh_maskP rfl, gh_re rfl]; simp only [go_sem, Nat.reduceSub, Nat.reduceAdd, Nat.reduceEqDiff, Nat.reduceBEq, List.length_singleton]; simp
        · refine call_imm (read_ret _ c (putFr c x) hc (by unfold i64ok; omega)) rfl rfl ?_
          simp (maxSteps := 2000000) (disch := omega) only [go_sem, Nat.reduceSub, Nat.reduceAdd, Nat.reduceLT, Nat.reduceEqDiff, Nat.reduceBEq, iv_put, iv_sing, iv_snoc, List.set_cons_zero, List.replicate_succ, List.replicate_zero, List.flatten_cons, List.flatten_nil]
          refine ⟨by omega, hN1 _ _ ⟨[.mask [1, 2, 4, 6, 7, 8, 9], .re [some 0, some 1, some 4]], (f - 1, [c.read (putFr c x)]), ?_, ⟨by simp only [List.length_singleton]; omega, by simp, .inr (by simp only [List.length_singleton]; omega), next _ (by omega) h1 (by unfold putCell; rw [if_neg h2])⟩, by simp only; omega⟩⟩
          rw [gh_maskP rfl, gh_re rfl]; simp only [go_sem, Nat.reduceSub, Nat.reduceAdd, Nat.reduceEqDiff, Nat.reduceBEq, List.length_singleton]; simp
      · have hdone := done h1
        refine hE1 _ _ _ (fun h => by cases h) ?_
        simp (maxSteps := 2000000) (disch := omega) only [go_sem, Nat.reduceSub, Nat.reduceAdd, Nat.reduceLT, Nat.reduceEqDiff, Nat.reduceBEq]
        refine awp_loopX (fun _ : Unit => tmP 109 .any [(2, .ptr 0 0), (4, .ptr 1 0), (6, .imm (.int .i64 (putFr c x))), (8, .imm (.lst .nil 0 []))] []) (fun _ => [.obj 0 [.imm (.int .i64 c.st), .imm (.int .i64 c.pos), .imm (.int .i64 c.fr), .imm (intsIV c.cs)], .obj 0 [.imm (.int .i64 0), .imm (.int .i64 0), .imm (.int .i64 0), .imm (.lst .nil 0 [])]]) (fun _ => True) (fun _ => 0) [.mask [2, 4, 6, 8], .re [some 0, some 1]] () ?_ trivial ?_
        · rw [gh_maskP rfl, gh_re rfl]; simp only [go_sem, Nat.reduceSub, Nat.reduceAdd, Nat.reduceEqDiff, Nat.reduceBEq]
        rintro ⟨⟩ - Q2 hN2 hE2
        simp (maxSteps := 2000000) (disch := omega) only [go_sem, Nat.reduceSub, Nat.reduceAdd, Nat.reduceLT, Nat.reduceEqDiff, Nat.reduceBEq]
        refine Br.sp (fun h3 e3 => ?_) (fun h3 e3 => ?_) <;> simp (maxSteps := 2000000) (disch := omega) only [go_sem, Nat.reduceSub, Nat.reduceAdd, Nat.reduceLT, Nat.reduceEqDiff, Nat.reduceBEq, e3]
        · exfalso; omega
        refine hE2 _ _ _ (fun h => by cases h) ?_
        simp (maxSteps := 2000000) (disch := omega) only [go_sem, Nat.reduceSub, Nat.reduceAdd, Nat.reduceLT, Nat.reduceEqDiff, Nat.reduceBEq]
        refine awp_loopX (fun _ : Unit => tmP 109 .any [(2, .ptr 0 0), (4, .ptr 1 0), (6, .imm (.int .i64 (putFr c x))), (8, .imm (.lst .nil 0 []))] []) (fun _ => [.obj 0 [.imm (.int .i64 c.st), .imm (.int .i64 c.pos), .imm (.int .i64 c.fr), .imm (intsIV c.cs)], .obj 0 [.imm (.int .i64 0), .imm (.int .i64 0), .imm (.int .i64 0), .imm (.lst .nil 0 [])]]) (fun _ => True) (fun _ => 0) [.mask [2, 4, 6, 8]] () ?_ trivial ?_
        · rw [gh_maskP rfl]; simp only [go_sem, Nat.reduceSub, Nat.reduceAdd, Nat.reduceEqDiff, Nat.reduceBEq]
        rintro ⟨⟩ - Q3 hN3 hE3
        simp (maxSteps := 2000000) (disch := omega) only [go_sem, Nat.reduceSub, Nat.reduceAdd, Nat.reduceLT, Nat.reduceEqDiff, Nat.reduceBEq]
        refine Br.sp (fun h3 e3 => ?_) (fun h3 e3 => ?_) <;> simp (maxSteps := 2000000) (disch := omega) only [go_sem, Nat.reduceSub, Nat.reduceAdd, Nat.reduceLT, Nat.reduceEqDiff, Nat.reduceBEq, e3]
        · exfalso; omega
        refine hE3 _ _ _ (fun h => by cases h) ?_
        simp (maxSteps := 2000000) (disch := omega) only [go_sem, Nat.reduceSub, Nat.reduceAdd, Nat.reduceLT, Nat.reduceEqDiff, Nat.reduceBEq]
        refine Br.sp (fun h3 e3 => ?_) (fun h3 e3 => ?_) <;> simp (maxSteps := 2000000) (disch := omega) only [go_sem, Nat.reduceSub, Nat.reduceAdd, Nat.reduceLT, Nat.reduceEqDiff, Nat.reduceBEq, e3]
        rotate_left
        · exfalso; omega
        refine hQ2 _ _ (Fin.sim [] [.re []] [.cell 4 27, .tmp 5] rfl gh_nil ?_)
        simp (maxSteps := 2000000) (disch := omega) only [go_sem, Nat.reduceSub, Nat.reduceAdd, Nat.reduceLT, Nat.reduceEqDiff, Nat.reduceBEq]
        have hrr : r = (⟨c.st, c.pos, 0, ⟨.nil, []⟩⟩, true) := by rw [← hr, putF, if_neg (by omega), if_pos hdone]
        rw [gh_re rfl, hr, hrr]; simp only [go_sem, Nat.reduceSub, Nat.reduceAdd, Nat.reduceEqDiff, Nat.reduceBEq, Conf.av]; rfl
    · simp only [if_neg hq]
      have hql : q.length ≠ 0 := fun h => hq (List.eq_nil_of_length_eq_zero h)
      simp (maxSteps := 2000000) (disch := omega) only [go_sem, Nat.reduceSub, Nat.reduceAdd, Nat.reduceLT, Nat.reduceEqDiff, Nat.reduceBEq]
      refine Br.sp (fun h1 e1 => ?_) (fun h1 e1 => ?_) <;> simp (maxSteps := 2000000) (disch := omega) only [go_sem, Nat.reduceSub, Nat.reduceAdd, Nat.reduceLT, Nat.reduceEqDiff, Nat.reduceBEq, e1]
      · refine Br.sp (fun h2 e2 => ?_) (fun h2 e2 => ?_) <;> simp (maxSteps := 2000000) (disch := omega) only [go_sem, Nat.reduceSub, Nat.reduceAdd, Nat.reduceLT, Nat.reduceEqDiff, Nat.reduceBEq, e2]
        · simp (maxSteps := 2000000) (disch := omega) only [go_sem, Nat.reduceSub, Nat.reduceAdd, Nat.reduceLT, Nat.reduceEqDiff, Nat.reduceBEq, iv_put, iv_sing, iv_snoc, List.set_cons_zero, List.replicate_succ, List.replicate_zero, List.flatten_cons, List.flatten_nil]
          refine ⟨by omega, hN1 _ _ ⟨[.mask [1, 2, 4, 6, 7, 8, 9], .re [some 0, some 1, some 4]], (f - 1, q ++ [x]), ?_, ⟨by simp only [List.length_append, List.length_singleton]; omega, by simp only [List.length_append, List.length_singleton]; omega, .inr (by simp only [List.length_append, List.length_singleton]; omega), next x (by omega) h1 (by unfold putCell; rw [if_pos h2])⟩, by simp only; omega⟩⟩
          rw [gh_maskP rfl, gh_re rfl, if_neg (by simp), if_neg (by simp)]; simp only [go_sem, Nat.reduceSub, Nat.reduceAdd, Nat.reduceEqDiff, Nat.reduceBEq, List.length_append, List.length_singleton]; rw [show putFr c x + (q.length : Int) + 1 = putFr c x + ((q.length + 1 : Nat) : Int) from by omega]
        · refine call_imm (read_ret _ c (putFr c x + q.length) hc (by unfold i64ok; omega)) rfl rfl ?_
          simp (maxSteps := 2000000) (disch := omega) only [go_sem, Nat.reduceSub, Nat.reduceAdd, Nat.reduceLT, Nat.reduceEqDiff, Nat.reduceBEq, iv_put, iv_sing, iv_snoc, List.set_cons_zero, List.replicate_succ, List.replicate_zero, List.flatten_cons, List.flatten_nil]
          refine ⟨by omega, hN1 _ _ ⟨[.mask [1, 2, 4, 6, 7, 8, 9], .re [some 0, some 1, some 4]], (f - 1, q ++ [c.read (putFr c x + q.length)]), ?_, ⟨by simp only [List.length_append, List.length_singleton]; omega, by simp only [List.length_append, List.length_singleton]; omega, .inr (by simp only [List.length_append, List.length_singleton]; omega), next _ (by omega) h1 (by unfold putCell; rw [if_neg h2])⟩, by simp only; omega⟩⟩
          rw [gh_maskP rfl, gh_re rfl, if_neg (by simp), if_neg (by simp)]; simp only [go_sem, Nat.reduceSub, Nat.reduceAdd, Nat.reduceEqDiff, Nat.reduceBEq, List.length_append, List.length_singleton]; rw [show putFr c x + (q.length : Int) + 1 = putFr c x + ((q.length + 1 : Nat) : Int) from by omega]
      · have hdone := done h1
        refine hE1 _ _ _ (fun h => by cases h) ?_
        simp (maxSteps := 2000000) (disch := omega) only [go_sem, Nat.reduceSub, Nat.reduceAdd, Nat.reduceLT, Nat.reduceEqDiff, Nat.reduceBEq]
        rw [← hdone] at hq hf3 hql ⊢
        generalize hl2 : putL c x = l at *
        refine awp_loopX (fun n : Nat => tmP 109 .any [(2, .ptr 0 0), (4, .ptr 1 0), (6, .imm (.int .i64 (putFr c x))), (8, .ref 2 0 n)] []) (fun _ => [.obj 0 [.imm (.int .i64 c.st), .imm (.int .i64 c.pos), .imm (.int .i64 c.fr), .imm (intsIV c.cs)], .obj 0 [.imm (.int .i64 0), .imm (.int .i64 0), .imm (.int .i64 0), .imm (.lst .nil 0 [])], .obj 1 (iv l)])
          (fun n => n ≤ l.length ∧ endOf l n = lastOf l) (fun n => n) [.mask [2, 4, 6, 8], .re [some 0, some 1, some 2]] l.length ?_ ⟨Nat.le_refl _, by simp only [lastOf]⟩ ?_
        · rw [gh_maskP rfl, gh_re rfl]; simp only [go_sem, Nat.reduceSub, Nat.reduceAdd, Nat.reduceEqDiff, Nat.reduceBEq]
        rintro n ⟨hn, he⟩ Q2 hN2 hE2
        simp (maxSteps := 2000000) (disch := omega) only [go_sem, Nat.reduceSub, Nat.reduceAdd, Nat.reduceLT, Nat.reduceEqDiff, Nat.reduceBEq]
        have kont : ∀ (m : Nat) (gs : List Gh) (t : List AVal) (L : List Slot), m = lastOf l → m ≤ l.length → ghosts 0 gs t L = some (tmP 109 .any [(2, .ptr 0 0), (4, .ptr 1 0), (6, .imm (.int .i64 (putFr c x))), (8, .ref 2 0 m)] [], [.obj 0 [.imm (.int .i64 c.st), .imm (.int .i64 c.pos), .imm (.int .i64 c.fr), .imm (intsIV c.cs)], .obj 0 [.imm (.int .i64 0), .imm (.int .i64 0), .imm (.int .i64 0), .imm (.lst .nil 0 [])], .obj 1 (iv l)]) → Q2 (.exit 2) t L := by
          intro m gs t L hm hml ht
          refine hE2 _ _ _ (fun h => by cases h) ?_
          simp (maxSteps := 2000000) (disch := omega) only [go_sem, Nat.reduceSub, Nat.reduceAdd, Nat.reduceLT, Nat.reduceEqDiff, Nat.reduceBEq]
          refine awp_loopX (fun q : Nat × Nat => tmP 109 .any [(2, .ptr 0 0), (4, .ptr 1 0), (6, .imm (.int .i64 (putFr c x + q.2))), (8, .ref 2 q.2 (m - q.2))] []) (fun _ => [.obj 0 [.imm (.int .i64 c.st), .imm (.int .i64 c.pos), .imm (.int .i64 c.fr), .imm (intsIV c.cs)], .obj 0 [.imm (.int .i64 0), .imm (.int .i64 0), .imm (.int .i64 0), .imm (.lst .nil 0 [])], .obj 1 (iv l)])
            (fun q => q.2 ≤ m ∧ m - q.2 ≤ q.1 ∧ begOf l m q.1 q.2 = firstOf l) (fun q => q.1) gs (m, 0) ?_ ⟨Nat.zero_le _, by simp, by simp only [firstOf, hm]⟩ ?_
          · rw [ht]; simp
          rintro ⟨g, o⟩ ⟨ho, hg, hb⟩ Q3 hN3 hE3
          simp only at ho hg hb
          simp (maxSteps := 2000000) (disch := omega) only [go_sem, Nat.reduceSub, Nat.reduceAdd, Nat.reduceLT, Nat.reduceEqDiff, Nat.reduceBEq]
          refine Br.sp (fun h3 e3 => ?_) (fun h3 e3 => ?_) <;> simp (maxSteps := 2000000) (disch := omega) only [go_sem, Nat.reduceSub, Nat.reduceAdd, Nat.reduceLT, Nat.reduceEqDiff, Nat.reduceBEq, e3]
          · obtain ⟨g, rfl⟩ : ∃ g', g = g' + 1 := ⟨g - 1, by omega⟩
            try (simp (maxSteps := 2000000) (disch := omega) only [go_sem, Nat.reduceSub, Nat.reduceAdd, Nat.reduceLT, Nat.reduceEqDiff, Nat.reduceBEq, Int.reduceToNat])
            refine Br.sp (fun h4 e4 => ?_) (fun h4 e4 => ?_) <;> simp (maxSteps := 2000000) (disch := omega) only [go_sem, Nat.reduceSub, Nat.reduceAdd, Nat.reduceLT, Nat.reduceEqDiff, Nat.reduceBEq, e4, Int.reduceToNat]
            · rw [begOf, if_pos ⟨by omega, h4⟩] at hb
              refine ⟨by first | omega | (simp; omega), hN3 _ _ ⟨[.mask [2, 4, 6, 8]], (g, o + 1), ?_, ⟨by simp only; omega, by simp only; omega, hb⟩, Nat.lt_succ_self _⟩⟩
              rw [gh_maskP rfl]; simp only [go_sem, Nat.reduceSub, Nat.reduceAdd, Nat.reduceEqDiff, Nat.reduceBEq]
              rw [show putFr c x + ((o + 1 : Nat) : Int) = putFr c x + o + 1 from by omega, show m - (o + 1) = m - o - 1 from by omega]
            · have hfo : o = firstOf l := by rw [← hb, begOf, if_neg (fun q => h4 q.2)]
              refine hE3 _ _ _ (fun h => by cases h) ?_
              have hmle := lastOf_le l
              have hv : viewC 1 (iv l) o (m - o) = some (.imm (intsIV ⟨.full, (l.drop o).take (m - o)⟩)) := iv_view l _ _ hq (by omega)
              have hrr : r = (⟨c.st, c.pos, if o = m then 0 else putFr c x + o, ⟨.full, (l.drop o).take (m - o)⟩⟩, decide (m - o ≤ 100000)) := by
                rw [← hr, putF, if_neg (by omega), hl2, if_neg hq, hfo, hm]
              have hcast : decide (((m - o : Nat) : Int) ≤ 100000) = decide (m - o ≤ 100000) := decide_eq_decide.2 (by omega)
              simp (maxSteps := 2000000) (disch := omega) only [go_sem, Nat.reduceSub, Nat.reduceAdd, Nat.reduceLT, Nat.reduceEqDiff, Nat.reduceBEq]
              refine Br.sp (fun h5 e5 => ?_) (fun h5 e5 => ?_) <;> simp (maxSteps := 2000000) (disch := omega) only [go_sem, Nat.reduceSub, Nat.reduceAdd, Nat.reduceLT, Nat.reduceEqDiff, Nat.reduceBEq, e5]
              · refine hQ2 _ _ (Fin.sim [.frz 2] [.re []] [.cell 4 27, .tmp 5] rfl (by simp only [go_sem, Nat.reduceSub, Nat.reduceAdd, Nat.reduceEqDiff, Nat.reduceBEq, hv]; rfl) ?_)
                simp (maxSteps := 2000000) (disch := omega) only [go_sem, Nat.reduceSub, Nat.reduceAdd, Nat.reduceLT, Nat.reduceEqDiff, Nat.reduceBEq]
                rw [gh_re rfl, hr, hrr, if_pos (by omega), hcast]; simp only [go_sem, Nat.reduceSub, Nat.reduceAdd, Nat.reduceEqDiff, Nat.reduceBEq, Conf.av]
              · refine hQ2 _ _ (Fin.sim [.frz 2] [.re []] [.cell 4 27, .tmp 5] rfl (by simp only [go_sem, Nat.reduceSub, Nat.reduceAdd, Nat.reduceEqDiff, Nat.reduceBEq, hv]; rfl) ?_)
                simp (maxSteps := 2000000) (disch := omega) only [go_sem, Nat.reduceSub, Nat.reduceAdd, Nat.reduceLT, Nat.reduceEqDiff, Nat.reduceBEq]
                rw [gh_re rfl, hr, hrr, if_neg (by omega), hcast]; simp only [go_sem, Nat.reduceSub, Nat.reduceAdd, Nat.reduceEqDiff, Nat.reduceBEq, Conf.av]
          · have hfo : o = firstOf l := by
              rw [← hb]; cases g with
              | zero => rfl
              | succ g => rw [begOf, if_neg (fun q => by omega)]
            refine hE3 _ _ _ (fun h => by cases h) ?_
            have hmle := lastOf_le l
            have hv : viewC 1 (iv l) o (m - o) = some (.imm (intsIV ⟨.full, (l.drop o).take (m - o)⟩)) := iv_view l _ _ hq (by omega)
            have hrr : r = (⟨c.st, c.pos, if o = m then 0 else putFr c x + o, ⟨.full, (l.drop o).take (m - o)⟩⟩, decide (m - o ≤ 100000)) := by
              rw [← hr, putF, if_neg (by omega), hl2, if_neg hq, hfo, hm]
            have hcast : decide (((m - o : Nat) : Int) ≤ 100000) = decide (m - o ≤ 100000) := decide_eq_decide.2 (by omega)
            simp (maxSteps := 2000000) (disch := omega) only [go_sem, Nat.reduceSub, Nat.reduceAdd, Nat.reduceLT, Nat.reduceEqDiff, Nat.reduceBEq]
            refine Br.sp (fun h5 e5 => ?_) (fun h5 e5 => ?_) <;> simp (maxSteps := 2000000) (disch := omega) only [go_sem, Nat.reduceSub, Nat.reduceAdd, Nat.reduceLT, Nat.reduceEqDiff, Nat.reduceBEq, e5]
            · refine hQ2 _ _ (Fin.sim [.frz 2] [.re []] [.cell 4 27, .tmp 5] rfl (by simp only [go_sem, Nat.reduceSub, Nat.reduceAdd, Nat.reduceEqDiff, Nat.reduceBEq, hv]; rfl) ?_)
              simp (maxSteps := 2000000) (disch := omega) only [go_sem, Nat.reduceSub, Nat.reduceAdd, Nat.reduceLT, Nat.reduceEqDiff, Nat.reduceBEq]
              rw [gh_re rfl, hr, hrr, if_pos (by omega), hcast]; simp only [go_sem, Nat.reduceSub, Nat.reduceAdd, Nat.reduceEqDiff, Nat.reduceBEq, Conf.av]
            · refine hQ2 _ _ (Fin.sim [.frz 2] [.re []] [.cell 4 27, .tmp 5] rfl (by simp only [go_sem, Nat.reduceSub, Nat.reduceAdd, Nat.reduceEqDiff, Nat.reduceBEq, hv]; rfl) ?_)
              simp (maxSteps := 2000000) (disch := omega) only [go_sem, Nat.reduceSub, Nat.reduceAdd, Nat.reduceLT, Nat.reduceEqDiff, Nat.reduceBEq]
              rw [gh_re rfl, hr, hrr, if_neg (by omega), hcast]; simp only [go_sem, Nat.reduceSub, Nat.reduceAdd, Nat.reduceEqDiff, Nat.reduceBEq, Conf.av]
        refine Br.sp (fun h3 e3 => ?_) (fun h3 e3 => ?_) <;> simp (maxSteps := 2000000) (disch := omega) only [go_sem, Nat.reduceSub, Nat.reduceAdd, Nat.reduceLT, Nat.reduceEqDiff, Nat.reduceBEq, e3]
        · obtain ⟨n, rfl⟩ : ∃ g, n = g + 1 := ⟨n - 1, by omega⟩
          have e1 : ((n + 1 : Nat) - 1 : Int).toNat = n := by omega
          try (simp (maxSteps := 2000000) (disch := omega) only [go_sem, Nat.reduceSub, Nat.reduceAdd, Nat.reduceLT, Nat.reduceEqDiff, Nat.reduceBEq])
          try simp only [e1]
          refine Br.sp (fun h4 e4 => ?_) (fun h4 e4 => ?_) <;> simp (maxSteps := 2000000) (disch := omega) only [go_sem, Nat.reduceSub, Nat.reduceAdd, Nat.reduceLT, Nat.reduceEqDiff, Nat.reduceBEq, e4]
          · refine ⟨by first | omega | (simp; omega), hN2 _ _ ⟨[.mask [2, 4, 6, 8]], n, ?_, ⟨by omega, ?_⟩, Nat.lt_succ_self _⟩⟩
            · rw [gh_maskP rfl]; simp only [go_sem, Nat.reduceSub, Nat.reduceAdd, Nat.reduceEqDiff, Nat.reduceBEq, e1]
            · rw [← he, endOf, if_pos h4]
          · refine kont (n + 1) [.mask [2, 4, 6, 8]] _ _ (by rw [← he, endOf, if_neg h4]) hn ?_
            rw [gh_maskP rfl]; simp only [go_sem, Nat.reduceSub, Nat.reduceAdd, Nat.reduceEqDiff, Nat.reduceBEq]
        · refine kont n [.mask [2, 4, 6, 8]] _ _ (by rw [← he, show n = 0 from by omega]; rfl) hn ?_
          rw [gh_maskP rfl]; simp only [go_sem, Nat.reduceSub, Nat.reduceAdd, Nat.reduceEqDiff, Nat.reduceBEq]
end Go.Proofs.Ytbleionbmdpmeaa
