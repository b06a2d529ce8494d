/- Text of the program, for a valid machine. -/
import Derived.Test.YtbleionbmdpmeaaT34
set_option linter.unusedVariables false
set_option linter.unusedSimpArgs false
namespace Go.Proofs.Ytbleionbmdpmeaa
open Go.Abs

/-- cells of bytes -/
def bv (l : List Int) : List AVal := l.map fun n => .imm (.int .u8 n)
theorem bv_length (l : List Int) : (bv l).length = l.length := by simp [bv]
theorem bv_app (a b : List Int) : bv a ++ bv b = bv (a ++ b) := by simp [bv]
theorem bv_drop (l : List Int) (n : Nat) : (bv l).drop n = bv (l.drop n) := by simp [bv, List.map_drop]
theorem bv_take (l : List Int) (n : Nat) : (bv l).take n = bv (l.take n) := by simp [bv, List.map_take]
theorem bv_rens (σ : Nat → Option Nat) : ∀ l : List Int, rens σ (bv l) = bv l
  | [] => by simp [bv, rens]
  | n :: l => by simp only [bv, List.map_cons, rens, ren]; rw [show List.map _ l = bv l from rfl, bv_rens σ l]
theorem bv_solid (L : List Slot) : ∀ l : List Int, (bv l).all (solid L) = true
  | [] => rfl
  | n :: l => by simp only [bv, List.map_cons, List.all_cons, solid, Bool.true_and]; exact bv_solid L l
theorem bv_bytes : ∀ l : List Int, bytesOf (bv l) = some (l.map fun n => UInt8.ofNat n.toNat)
  | [] => rfl
  | n :: l => by simp only [bv, List.map_cons, bytesOf]; rw [show List.map _ l = bv l from rfl, bv_bytes l]; rfl
theorem bv_sing (v : Int) : Slot.obj 1 [.imm (.int .u8 v)] = .obj 1 (bv [v]) := rfl
theorem bv_trip (a b c : Int) : Slot.obj 1 [.imm (.int .u8 a), .imm (.int .u8 b), .imm (.int .u8 c)] = .obj 1 (bv [a, b, c]) := rfl
attribute [go_sem] bv_rens bv_length bv_solid
def strOf (l : List Int) : List UInt8 := l.map fun n => UInt8.ofNat n.toNat

section
variable {n0 : Nat} {nd : Bool} {t : List AVal} {L : List Slot} {K : AVal → List Slot → Prop}
@[go_sem] theorem cv103 {s n : Nat} : convA Try.prog 103 9 (.ref s 0 n) L = convB Try.prog L 103 (.ref s 0 n) n := by simp [convA, ti9]
theorem cv103_bv {s n : Nat} {l : List Int} (hs : getS L s = .obj 1 (bv l)) (hn : n = l.length) : convB Try.prog L 103 (.ref s 0 n) n = some (True, .imm (.str (strOf l))) := by
  subst hn
  simp only [convB, ti103, srcA, liveB, cellsOf, hs, bv_drop, bv_take, bv_bytes, bv_length]
  simp [strOf]
theorem u8_wrap (n : Int) : IntKind.u8.wrap n = n % 256 := by
  have e1 : (2 : Int) ^ 8 = 256 := by decide
  simp [IntKind.wrap, IntKind.signed, IntKind.bits, e1]
@[go_sem] theorem wrap_u8 {n : Int} (h : 0 ≤ n) (h' : n ≤ 255) : IntKind.u8.wrap n = n := by rw [u8_wrap]; omega
@[go_sem] theorem cv3_5 {k : IntKind} {n : Int} : convA Try.prog 3 5 (.imm (.int k n)) L = some (True, .imm (.int .u8 (IntKind.u8.wrap n))) := by
  simp [convA, ti3, ti5]
end

def ruleB (r : Rule) : List Int := [48 + r.wr, if r.mv = 1 then 82 else 76, if r.nx = -1 then 90 else 65 + r.nx]
def rowB (l : List Rule) : List Int := l.flatMap ruleB
def rowsB (m : Mach) : Nat → Nat → List Int
  | 0, _ => []
  | f + 1, i => (if 0 < i then [95] else []) ++ rowB (m.row i).l ++ rowsB m f (i + 1)
def textI (m : Mach) : List Int := rowsB m m.rs.l.length 0

set_option maxHeartbeats 1000000 in
set_option maxRecDepth 10000 in
theorem text_ret (d : Nat) (m : Mach) (hm : m.ok) (hv : m.Valid) : Ret Try.prog (d + 2) 27 [m.av] [] (.tup [.imm (.str (strOf (textI m))), .imm (.int .i64 0)]) [] := by
  have hlen := hv.len; have hns := hv.ns6; have hny := hv.ny4; have hny2 := hv.ny2; have hns1 := hv.ns1
  refine Ret.mkE Try.func27 rfl (of_decide_eq_true (by kernel_rfl)) Try.ntmps27 rfl ?_
  intro Q hQ1 hQ2
  refine Eq.mpr (congrFun (congrArg _ rfl) _) (?_ : awpW _ _ _ _ _ (un _))
  simp (maxSteps := 2000000) (disch := omega) only [go_sem, Nat.reduceSub, Nat.reduceAdd, Nat.reduceLT, Nat.reduceEqDiff, Nat.reduceBEq, Mach.av]
  refine call_imm (valid_ret _ m hm) rfl rfl ?_
  simp (maxSteps := 2000000) (disch := omega) only [go_sem, Nat.reduceSub, Nat.reduceAdd, Nat.reduceLT, Nat.reduceEqDiff, Nat.reduceBEq, valid_true hv]
  generalize hT : textI m = T
  refine awp_loopX (fun q : Nat × List Int => tmP 56 .any [(4, if q.2 = [] then .imm (.lst .nil 0 []) else .ref 1 0 q.2.length), (15, .imm (rowsIV m.rs)), (16, .imm (.int .i64 m.rs.l.length)), (17, .imm (.int .i64 q.1))] [])
    (fun q => [.obj 0 [.imm (.int .i64 m.ns), .imm (.int .i64 m.ny), .imm (rowsIV m.rs)], if q.2 = [] then .dead else .obj 1 (bv q.2)])
    (fun q => q.1 ≤ m.rs.l.length ∧ q.2.length ≤ 13 * q.1 ∧ (0 < q.1 → q.2 ≠ []) ∧ q.2 ++ rowsB m (m.rs.l.length - q.1) q.1 = T) (fun q => m.rs.l.length - q.1) [.mask [4, 15, 16, 17], .re [some 0, none]] (0, []) ?_ ⟨Nat.zero_le _, by simp, fun h => by simp at h, by simp [← hT, textI]⟩ ?_
  · rw [gh_maskP rfl, gh_re rfl]; simp only [go_sem, Nat.reduceSub, Nat.reduceAdd, Nat.reduceEqDiff, Nat.reduceBEq]; rfl
  rintro ⟨i, q⟩ ⟨hi, hql, hq0, hqT⟩ Q1 hN1 hE1
  simp only at hi hql hq0 hqT
  have hmost : most = 1099511627776 := by decide
  by_cases hqn : q = []
  · subst hqn
    have hi0 : i = 0 := by refine Classical.byContradiction (fun h => hq0 (by omega) rfl)
    simp only [if_true]
    simp (maxSteps := 2000000) (disch := omega) only [go_sem, Nat.reduceSub, Nat.reduceAdd, Nat.reduceLT, Nat.reduceEqDiff, Nat.reduceBEq]
    refine Br.sp (fun h1 e1 => ?_) (fun h1 e1 => ?_) <;> simp (maxSteps := 2000000) (disch := omega) only [go_sem, Nat.reduceSub, Nat.reduceAdd, Nat.reduceLT, Nat.reduceEqDiff, Nat.reduceBEq, e1]
    rotate_left
    · exfalso; omega
    have hrow := (hv.rows i (by omega) (by omega)).1
    refine Br.sp (fun h2 e2 => ?_) (fun h2 e2 => ?_) <;> simp (maxSteps := 2000000) (disch := omega) only [go_sem, Nat.reduceSub, Nat.reduceAdd, Nat.reduceLT, Nat.reduceEqDiff, Nat.reduceBEq, e2]
    · exfalso; omega
    clear hi0
    refine awp_loopX (fun p : Nat × List Int => tmP 56 .any [(4, if p.2 = [] then .imm (.lst .nil 0 []) else .ref 1 0 p.2.length), (15, .imm (rowsIV m.rs)), (16, .imm (.int .i64 m.rs.l.length)), (17, .imm (.int .i64 i)), (27, .imm (rowIV (m.row i))), (28, .imm (.int .i64 (m.row i).l.length)), (29, .imm (.int .i64 p.1))] [])
      (fun p => [.obj 0 [.imm (.int .i64 m.ns), .imm (.int .i64 m.ny), .imm (rowsIV m.rs)], if p.2 = [] then .dead else .obj 1 (bv p.2)])
      (fun p => p.1 ≤ (m.row i).l.length ∧ p.2.length ≤ 13 * i + 1 + 3 * p.1 ∧ (0 < p.1 → p.2 ≠ []) ∧ p.2 ++ rowB ((m.row i).l.drop p.1) = ([] : List Int) ++ rowB (m.row i).l) (fun p => (m.row i).l.length - p.1) [.mask [4, 15, 16, 17, 27, 28, 29], .re [some 0, some 1]] (0, ([] : List Int)) ?_ ⟨Nat.zero_le _, by simp, fun h => by simp at h, by simp⟩ ?_
    · rw [gh_maskP rfl, gh_re rfl]; simp only [go_sem, Nat.reduceSub, Nat.reduceAdd, Nat.reduceEqDiff, Nat.reduceBEq]; rfl
    rintro ⟨x, p⟩ ⟨hx, hpl, hp0, hpT⟩ Q2 hN2 hE2
    simp only at hx hpl hp0 hpT
    have step : ∀ hxl : (x : Int) < (m.row i).l.length, ∃ R : Rule, m.rule i x = R ∧ 0 ≤ R.wr ∧ R.wr < 4 ∧ (R.mv = -1 ∨ R.mv = 1) ∧ -1 ≤ R.nx ∧ R.nx < 6 ∧ ∀ b : List Int, b = ruleB R → (p ++ b) ++ rowB ((m.row i).l.drop (x + 1)) = ([] : List Int) ++ rowB (m.row i).l := by
      intro hxl
      have hrok := (hv.rows i (by omega) (by omega)).2 x (by omega) (by omega)
      unfold ruleOk at hrok
      obtain ⟨r1, r2, r3, r4, r5⟩ := hrok
      have hat : (m.row i).l.getD x r0 = m.rule i x := by unfold Mach.rule Lst.at; simp
      have hdrop : rowB ((m.row i).l.drop x) = ruleB (m.rule i x) ++ rowB ((m.row i).l.drop (x + 1)) := by
        have hlt : x < (m.row i).l.length := by omega
        rw [List.drop_eq_getElem_cons hlt, rowB, List.flatMap_cons, rowB]
        congr 2
        rw [← hat, List.getD_eq_getElem?_getD, List.getElem?_eq_getElem hlt]; rfl
      exact ⟨_, rfl, r1, by omega, r3, r4, by omega, fun b hb => by rw [← hpT, hdrop, hb, List.append_assoc]⟩
    by_cases hp : p = []
    · subst hp
      simp only [if_true]
      simp (maxSteps := 2000000) (disch := omega) only [go_sem, Nat.reduceSub, Nat.reduceAdd, Nat.reduceLT, Nat.reduceEqDiff, Nat.reduceBEq]
      refine Br.sp (fun h3 e3 => ?_) (fun h3 e3 => ?_) <;> simp (maxSteps := 2000000) (disch := omega) only [go_sem, Nat.reduceSub, Nat.reduceAdd, Nat.reduceLT, Nat.reduceEqDiff, Nat.reduceBEq, e3]
      · obtain ⟨R, hR, r1, r2, r3, r4, r5, next⟩ := step h3
        subst hR
        repeat' (refine Br.sp (fun h e => ?_) (fun h e => ?_) <;> simp (maxSteps := 2000000) (disch := omega) only [go_sem, Nat.reduceSub, Nat.reduceAdd, Nat.reduceLT, Nat.reduceEqDiff, Nat.reduceBEq, e])
        all_goals
          simp (maxSteps := 2000000) (disch := omega) only [go_sem, Nat.reduceSub, Nat.reduceAdd, Nat.reduceLT, Nat.reduceEqDiff, Nat.reduceBEq, bv_sing, bv_trip, bv_app, bv_length, bv_drop, bv_take, bv_solid, List.replicate_succ, List.replicate_zero, List.flatten_cons, List.flatten_nil]
          refine ⟨by omega, hN2 _ _ ⟨[.mask [4, 15, 16, 17, 27, 28, 29], .re [some 0, some 4]], (x + 1, ruleB (m.rule i x)), ?_, ⟨by simp only; omega, by simp only [ruleB, List.length_cons, List.length_nil]; omega, fun _ => by simp [ruleB], next _ rfl⟩, by simp only; omega⟩⟩
          rw [gh_maskP rfl, gh_re rfl]; simp only [go_sem, Nat.reduceSub, Nat.reduceAdd, Nat.reduceEqDiff, Nat.reduceBEq]; simp [ruleB, *]
      · exfalso
        have : x = 0 := by refine Classical.byContradiction (fun q => hp0 (by omega) rfl)
        omega
    · simp only [if_neg hp]
      simp (maxSteps := 2000000) (disch := omega) only [go_sem, Nat.reduceSub, Nat.reduceAdd, Nat.reduceLT, Nat.reduceEqDiff, Nat.reduceBEq]
      refine Br.sp (fun h3 e3 => ?_) (fun h3 e3 => ?_) <;> simp (maxSteps := 2000000) (disch := omega) only [go_sem, Nat.reduceSub, Nat.reduceAdd, Nat.reduceLT, Nat.reduceEqDiff, Nat.reduceBEq, e3]
      · obtain ⟨R, hR, r1, r2, r3, r4, r5, next⟩ := step h3
        subst hR
        repeat' (refine Br.sp (fun h e => ?_) (fun h e => ?_) <;> simp (maxSteps := 2000000) (disch := omega) only [go_sem, Nat.reduceSub, Nat.reduceAdd, Nat.reduceLT, Nat.reduceEqDiff, Nat.reduceBEq, e])
        all_goals
          simp (maxSteps := 2000000) (disch := omega) only [go_sem, Nat.reduceSub, Nat.reduceAdd, Nat.reduceLT, Nat.reduceEqDiff, Nat.reduceBEq, bv_sing, bv_trip, bv_app, bv_length, bv_drop, bv_take, bv_solid, List.replicate_succ, List.replicate_zero, List.flatten_cons, List.flatten_nil]
          refine ⟨by omega, hN2 _ _ ⟨[.mask [4, 15, 16, 17, 27, 28, 29], .re [some 0, some 4]], (x + 1, p ++ ruleB (m.rule i x)), ?_, ⟨by simp only; omega, by simp only [ruleB, List.length_append, List.length_cons, List.length_nil]; omega, fun _ => by simp [ruleB], next _ rfl⟩, by simp only; omega⟩⟩
          rw [gh_maskP rfl, gh_re rfl, if_neg (by simp [ruleB]), if_neg (by simp [ruleB])]; simp only [go_sem, Nat.reduceSub, Nat.reduceAdd, Nat.reduceEqDiff, Nat.reduceBEq]; simp [ruleB, *]
      · refine hE2 _ _ _ (fun h => by cases h) ?_
        simp (maxSteps := 2000000) (disch := omega) only [go_sem, Nat.reduceSub, Nat.reduceAdd, Nat.reduceLT, Nat.reduceEqDiff, Nat.reduceBEq]
        have hxe : x = (m.row i).l.length := by omega
        have hpe : p = ([] : List Int) ++ rowB (m.row i).l := by rw [← hpT, hxe]; simp [rowB]
        have hpn : p ≠ [] := hp
        refine hN1 _ _ ⟨[.mask [4, 15, 16, 17], .re [some 0, some 1]], (i + 1, p), ?_, ⟨by simp only; omega, by simp only; omega, fun _ => hpn, ?_⟩, by simp only; omega⟩
        · rw [gh_maskP rfl, gh_re rfl]; simp only [go_sem, Nat.reduceSub, Nat.reduceAdd, Nat.reduceEqDiff, Nat.reduceBEq, if_neg hpn]; rfl
        · rw [← hqT, show m.rs.l.length - i = (m.rs.l.length - (i + 1)) + 1 from by omega, rowsB, hpe]
          rw [if_neg (show ¬ 0 < i from by omega)]; simp
  · have hi0 : 0 < i := by refine Classical.byContradiction (fun h => hqn (List.eq_nil_of_length_eq_zero (by omega)))
    simp only [if_neg hqn]
    simp (maxSteps := 2000000) (disch := omega) only [go_sem, Nat.reduceSub, Nat.reduceAdd, Nat.reduceLT, Nat.reduceEqDiff, Nat.reduceBEq]
    refine Br.sp (fun h1 e1 => ?_) (fun h1 e1 => ?_) <;> simp (maxSteps := 2000000) (disch := omega) only [go_sem, Nat.reduceSub, Nat.reduceAdd, Nat.reduceLT, Nat.reduceEqDiff, Nat.reduceBEq, e1]
    · have hrow := (hv.rows i (by omega) (by omega)).1
      refine Br.sp (fun h2 e2 => ?_) (fun h2 e2 => ?_) <;> simp (maxSteps := 2000000) (disch := omega) only [go_sem, Nat.reduceSub, Nat.reduceAdd, Nat.reduceLT, Nat.reduceEqDiff, Nat.reduceBEq, e2]
      rotate_left
      · exfalso; omega
      simp (maxSteps := 2000000) (disch := omega) only [go_sem, Nat.reduceSub, Nat.reduceAdd, Nat.reduceLT, Nat.reduceEqDiff, Nat.reduceBEq, bv_sing, bv_trip, bv_app, bv_length, bv_drop, bv_take, bv_solid, List.replicate_succ, List.replicate_zero, List.flatten_cons, List.flatten_nil]
      refine ⟨by omega, ?_⟩
      refine awp_loopX (fun p : Nat × List Int => tmP 56 .any [(4, if p.2 = [] then .imm (.lst .nil 0 []) else .ref 1 0 p.2.length), (15, .imm (rowsIV m.rs)), (16, .imm (.int .i64 m.rs.l.length)), (17, .imm (.int .i64 i)), (27, .imm (rowIV (m.row i))), (28, .imm (.int .i64 (m.row i).l.length)), (29, .imm (.int .i64 p.1))] [])
        (fun p => [.obj 0 [.imm (.int .i64 m.ns), .imm (.int .i64 m.ny), .imm (rowsIV m.rs)], if p.2 = [] then .dead else .obj 1 (bv p.2)])
        (fun p => p.1 ≤ (m.row i).l.length ∧ p.2.length ≤ 13 * i + 1 + 3 * p.1 ∧ (0 < p.1 → p.2 ≠ []) ∧ p.2 ++ rowB ((m.row i).l.drop p.1) = (q ++ [95]) ++ rowB (m.row i).l) (fun p => (m.row i).l.length - p.1) [.mask [4, 15, 16, 17, 27, 28, 29], .re [some 0, some 3]] (0, (q ++ [95])) ?_ ⟨Nat.zero_le _, by simp; omega, fun h => by simp at h, by simp⟩ ?_
      · rw [gh_maskP rfl, gh_re rfl, if_neg (by simp), if_neg (by simp)]; simp only [go_sem, Nat.reduceSub, Nat.reduceAdd, Nat.reduceEqDiff, Nat.reduceBEq, List.length_append, List.length_singleton]; rfl
      rintro ⟨x, p⟩ ⟨hx, hpl, hp0, hpT⟩ Q2 hN2 hE2
      simp only at hx hpl hp0 hpT
      have step : ∀ hxl : (x : Int) < (m.row i).l.length, ∃ R : Rule, m.rule i x = R ∧ 0 ≤ R.wr ∧ R.wr < 4 ∧ (R.mv = -1 ∨ R.mv = 1) ∧ -1 ≤ R.nx ∧ R.nx < 6 ∧ ∀ b : List Int, b = ruleB R → (p ++ b) ++ rowB ((m.row i).l.drop (x + 1)) = (q ++ [95]) ++ rowB (m.row i).l := by
        intro hxl
        have hrok := (hv.rows i (by omega) (by omega)).2 x (by omega) (by omega)
        unfold ruleOk at hrok
        obtain ⟨r1, r2, r3, r4, r5⟩ := hrok
        have hat : (m.row i).l.getD x r0 = m.rule i x := by unfold Mach.rule Lst.at; simp
        have hdrop : rowB ((m.row i).l.drop x) = ruleB (m.rule i x) ++ rowB ((m.row i).l.drop (x + 1)) := by
          have hlt : x < (m.row i).l.length := by omega
          rw [List.drop_eq_getElem_cons hlt, rowB, List.flatMap_cons, rowB]
          congr 2
          rw [← hat, List.getD_eq_getElem?_getD, List.getElem?_eq_getElem hlt]; rfl
        exact ⟨_, rfl, r1, by omega, r3, r4, by omega, fun b hb => by rw [← hpT, hdrop, hb, List.append_assoc]⟩
      by_cases hp : p = []
      · subst hp
        simp only [if_true]
        simp (maxSteps := 2000000) (disch := omega) only [go_sem, Nat.reduceSub, Nat.reduceAdd, Nat.reduceLT, Nat.reduceEqDiff, Nat.reduceBEq]
        refine Br.sp (fun h3 e3 => ?_) (fun h3 e3 => ?_) <;> simp (maxSteps := 2000000) (disch := omega) only [go_sem, Nat.reduceSub, Nat.reduceAdd, Nat.reduceLT, Nat.reduceEqDiff, Nat.reduceBEq, e3]
        · obtain ⟨R, hR, r1, r2, r3, r4, r5, next⟩ := step h3
          subst hR
          repeat' (refine Br.sp (fun h e => ?_) (fun h e => ?_) <;> simp (maxSteps := 2000000) (disch := omega) only [go_sem, Nat.reduceSub, Nat.reduceAdd, Nat.reduceLT, Nat.reduceEqDiff, Nat.reduceBEq, e])
          all_goals
            simp (maxSteps := 2000000) (disch := omega) only [go_sem, Nat.reduceSub, Nat.reduceAdd, Nat.reduceLT, Nat.reduceEqDiff, Nat.reduceBEq, bv_sing, bv_trip, bv_app, bv_length, bv_drop, bv_take, bv_solid, List.replicate_succ, List.replicate_zero, List.flatten_cons, List.flatten_nil]
            refine ⟨by omega, hN2 _ _ ⟨[.mask [4, 15, 16, 17, 27, 28, 29], .re [some 0, some 4]], (x + 1, ruleB (m.rule i x)), ?_, ⟨by simp only; omega, by simp only [ruleB, List.length_cons, List.length_nil]; omega, fun _ => by simp [ruleB], next _ rfl⟩, by simp only; omega⟩⟩
            rw [gh_maskP rfl, gh_re rfl]; simp only [go_sem, Nat.reduceSub, Nat.reduceAdd, Nat.reduceEqDiff, Nat.reduceBEq]; simp [ruleB, *]
        · exfalso
          have : x = 0 := by refine Classical.byContradiction (fun q => hp0 (by omega) rfl)
          omega
      · simp only [if_neg hp]
        simp (maxSteps := 2000000) (disch := omega) only [go_sem, Nat.reduceSub, Nat.reduceAdd, Nat.reduceLT, Nat.reduceEqDiff, Nat.reduceBEq]
        refine Br.sp (fun h3 e3 => ?_) (fun h3 e3 => ?_) <;> simp (maxSteps := 2000000) (disch := omega) only [go_sem, Nat.reduceSub, Nat.reduceAdd, Nat.reduceLT, Nat.reduceEqDiff, Nat.reduceBEq, e3]
        · obtain ⟨R, hR, r1, r2, r3, r4, r5, next⟩ := step h3
          subst hR
          repeat' (refine Br.sp (fun h e => ?_) (fun h e => ?_) <;> simp (maxSteps := 2000000) (disch := omega) only [go_sem, Nat.reduceSub, Nat.reduceAdd, Nat.reduceLT, Nat.reduceEqDiff, Nat.reduceBEq, e])
          all_goals
            simp (maxSteps := 2000000) (disch := omega) only [go_sem, Nat.reduceSub, Nat.reduceAdd, Nat.reduceLT, Nat.reduceEqDiff, Nat.reduceBEq, bv_sing, bv_trip, bv_app, bv_length, bv_drop, bv_take, bv_solid, List.replicate_succ, List.replicate_zero, List.flatten_cons, List.flatten_nil]
            refine ⟨by omega, hN2 _ _ ⟨[.mask [4, 15, 16, 17, 27, 28, 29], .re [some 0, some 4]], (x + 1, p ++ ruleB (m.rule i x)), ?_, ⟨by simp only; omega, by simp only [ruleB, List.length_append, List.length_cons, List.length_nil]; omega, fun _ => by simp [ruleB], next _ rfl⟩, by simp only; omega⟩⟩
            rw [gh_maskP rfl, gh_re rfl, if_neg (by simp [ruleB]), if_neg (by simp [ruleB])]; simp only [go_sem, Nat.reduceSub, Nat.reduceAdd, Nat.reduceEqDiff, Nat.reduceBEq]; simp [ruleB, *]
        · refine hE2 _ _ _ (fun h => by cases h) ?_
          simp (maxSteps := 2000000) (disch := omega) only [go_sem, Nat.reduceSub, Nat.reduceAdd, Nat.reduceLT, Nat.reduceEqDiff, Nat.reduceBEq]
          have hxe : x = (m.row i).l.length := by omega
          have hpe : p = (q ++ [95]) ++ rowB (m.row i).l := by rw [← hpT, hxe]; simp [rowB]
          have hpn : p ≠ [] := hp
          refine hN1 _ _ ⟨[.mask [4, 15, 16, 17], .re [some 0, some 1]], (i + 1, p), ?_, ⟨by simp only; omega, by simp only; omega, fun _ => hpn, ?_⟩, by simp only; omega⟩
          · rw [gh_maskP rfl, gh_re rfl]; simp only [go_sem, Nat.reduceSub, Nat.reduceAdd, Nat.reduceEqDiff, Nat.reduceBEq, if_neg hpn]; rfl
          · rw [← hqT, show m.rs.l.length - i = (m.rs.l.length - (i + 1)) + 1 from by omega, rowsB, hpe]
            rw [if_pos (show 0 < i from by omega)]; simp
    · have hie : i = m.rs.l.length := by omega
      have hqe : q = T := by rw [← hqT, hie]; simp [rowsB]
      refine hE1 _ _ _ (fun h => by cases h) ?_
      simp (maxSteps := 2000000) (disch := omega) only [go_sem, Nat.reduceSub, Nat.reduceAdd, Nat.reduceLT, Nat.reduceEqDiff, Nat.reduceBEq]
      rw [cv103_bv rfl rfl]
      simp (maxSteps := 2000000) (disch := omega) only [go_sem, Nat.reduceSub, Nat.reduceAdd, Nat.reduceLT, Nat.reduceEqDiff, Nat.reduceBEq]
      refine hQ2 _ _ (Fin.sim [] [.re []] [.tmp 2, .tmp 3] rfl gh_nil ?_)
      simp (maxSteps := 2000000) (disch := omega) only [go_sem, Nat.reduceSub, Nat.reduceAdd, Nat.reduceLT, Nat.reduceEqDiff, Nat.reduceBEq]
      rw [gh_re rfl, hqe, hT]; simp only [go_sem, Nat.reduceSub, Nat.reduceAdd, Nat.reduceEqDiff, Nat.reduceBEq]
end Go.Proofs.Ytbleionbmdpmeaa
