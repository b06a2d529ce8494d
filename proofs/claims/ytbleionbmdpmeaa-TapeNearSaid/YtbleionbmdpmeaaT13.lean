/- The band of a configuration, and the configuration of a band. -/
import Derived.Test.YtbleionbmdpmeaaT12
set_option linter.unusedVariables false
set_option linter.unusedSimpArgs false
namespace Go.Proofs.Ytbleionbmdpmeaa
open Go.Abs

attribute [go_sem] List.length_replicate List.length_append Nat.le_refl
section
variable {n0 : Nat} {nd : Bool} {t : List AVal} {L : List Slot} {K : AVal → List Slot → Prop} {ty : TypeId} {P : Program}
theorem iv_of (l : List Int) : (l.flatMap fun n => [IVal.int .i64 n]).map AVal.imm = iv l := by rw [fm1]; simp [iv]
@[go_sem] theorem cp_ints {s o n : Nat} {l : List Int} {x : Lst Int} (h : x.l.length ≤ n) : cpS 1 s o n (.obj 1 (iv l)) (.imm (intsIV x)) L K (un _) =
    (o + n ≤ l.length ∧ K (.imm (.int .i64 x.l.length)) (setS L s (.obj 1 (iv (ovr l o x.l))))) := by
  have e : (x.l.flatMap fun n => [IVal.int .i64 n]).length = x.l.length := by rw [fm1]; exact List.length_map _
  rw [intsIV, Lst.iv, cpS_lst, Nat.min_eq_left h, Nat.mul_one, ← e, List.take_length, iv_of, spl_iv, iv_solid, iv_length, e]
  simp
end

theorem ovr_all (l : List Int) : ovr (List.replicate l.length 0) 0 l = l := by
  refine List.ext_getElem? (fun i => ?_)
  rw [ovr_get _ _ _ _ (by simp)]
  split
  · simp
  · rw [List.getElem?_eq_none (by simp; omega), List.getElem?_eq_none (by omega)]

set_option maxHeartbeats 400000 in
set_option maxRecDepth 10000 in
theorem spread_ret (d : Nat) (c : Conf) (hl : c.cs.l.length ≤ 1099511627776) (h0 : -4398046511104 ≤ c.fr) (h1 : c.fr ≤ 4398046511104) :
    Ret Try.prog (d + 1) 78 [c.av] [] (.ptr 0 0) [.obj 0 [.ref 1 0 c.cs.l.length, .imm (.int .i64 (0 - c.fr))], .obj 1 (iv c.cs.l)] := by
  refine Ret.mk Try.func78 rfl (of_decide_eq_true (by kernel_rfl)) (by rw [Try.ntmps78]; exact Nat.le_of_ble_eq_true rfl) ?_
  intro Q hQ1 hQ2
  rw [Try.ntmps78]
  refine Eq.mpr (congrFun (congrArg _ rfl) _) (?_ : awpW _ _ _ _ _ (un _))
  simp (disch := omega) only [go_sem, Conf.av, Nat.reduceSub, Nat.reduceAdd, Nat.reduceLT]
  refine awp_draw [] (by kernel_rfl) (by kernel_rfl) ?_
  simp (disch := omega) only [go_sem, Nat.reduceSub, Nat.reduceAdd, Nat.reduceLT]
  refine awp_draw [6] (by kernel_rfl) (by kernel_rfl) ?_
  simp (disch := omega) only [go_sem, Nat.reduceSub, Nat.reduceAdd, Nat.reduceLT]
  refine ⟨.inl rfl, hQ2 _ _ (Fin.sim [] [.re [some 2, some 1]] [.tmp 2] rfl gh_nil ?_)⟩
  simp (disch := omega) only [go_sem, Nat.reduceSub, Nat.reduceAdd, Nat.reduceLT, Nat.reduceEqDiff]
  rw [gh_re rfl]; simp only [go_sem, Nat.reduceAdd, Nat.reduceEqDiff]; rw [ovr_all]

theorem endOf_le (l : List Int) : ∀ n, endOf l n ≤ n
  | 0 => Nat.le_refl _
  | n + 1 => by unfold endOf; split
                · exact Nat.le_succ_of_le (endOf_le l n)
                · exact Nat.le_refl _
theorem begOf_le (l : List Int) (e : Nat) : ∀ f o, o ≤ e → begOf l e f o ≤ e
  | 0, o, h => h
  | f + 1, o, h => by unfold begOf; split
                      · exact begOf_le l e f (o + 1) (by omega)
                      · exact h
theorem lastOf_le (l : List Int) : lastOf l ≤ l.length := endOf_le l _
theorem firstOf_le (l : List Int) : firstOf l ≤ lastOf l := begOf_le l _ _ 0 (Nat.zero_le _)

/-- the configuration of a band -/
def confOf (st pos : Int) (l : List Int) (z : Int) : Conf :=
  if firstOf l = lastOf l then ⟨st, pos, 0, ⟨.nil, []⟩⟩ else ⟨st, pos, 0 - z + firstOf l, ⟨.full, (l.drop (firstOf l)).take (lastOf l - firstOf l)⟩⟩

set_option maxHeartbeats 400000 in
set_option maxRecDepth 10000 in
theorem config_ret (d : Nat) (st pos z : Int) (l : List Int) (hl : l.length ≤ 1099511627776) (h0 : -4398046511104 ≤ z) (h1 : z ≤ 4398046511104) :
    Ret Try.prog (d + 2) 80 [.ptr 0 0, .imm (.int .i64 st), .imm (.int .i64 pos)] [.obj 0 [.ref 1 0 l.length, .imm (.int .i64 z)], .obj 1 (iv l)]
      (confOf st pos l z).av [.dead, .dead] := by
  refine Ret.mk Try.func80 rfl (of_decide_eq_true (by kernel_rfl)) (by rw [Try.ntmps80]; exact Nat.le_of_ble_eq_true rfl) ?_
  intro Q hQ1 hQ2
  rw [Try.ntmps80]
  refine Eq.mpr (congrFun (congrArg _ rfl) _) (?_ : awpW _ _ _ _ _ (un _))
  simp (disch := omega) only [go_sem, Nat.reduceSub, Nat.reduceAdd, Nat.reduceLT]
  refine awp_draw [14] (by kernel_rfl) (by kernel_rfl) ?_
  simp (disch := omega) only [go_sem, Nat.reduceSub, Nat.reduceAdd, Nat.reduceLT]
  have T := trimmed_ret d st pos (0 - z) l hl (by omega) (by omega)
  by_cases hf : firstOf l = lastOf l
  · rw [if_pos hf, if_pos hf] at T
    refine call_lend [1] T (by decide) (by intro p hp; simp at hp; subst hp; simp [getS]) ?_ ?_ (by simp) rfl rfl ?_
    · simp only [go_sem, Nat.reduceSub, Nat.reduceAdd, Nat.reduceEqDiff]
    · simp only [go_sem, Nat.reduceSub, Nat.reduceAdd, Nat.reduceEqDiff]
    simp (disch := omega) only [go_sem, Nat.reduceSub, Nat.reduceAdd, Nat.reduceLT, Nat.reduceEqDiff]
    refine ⟨.inl rfl, ?_⟩
    refine call_imm (clone_nil_ret _) rfl rfl ?_
    simp (disch := omega) only [go_sem, Nat.reduceSub, Nat.reduceAdd, Nat.reduceLT, Nat.reduceEqDiff]
    refine hQ2 _ _ (Fin.sim [] [.re [none, none]] [.cell 6 27] rfl gh_nil ?_)
    simp (disch := omega) only [go_sem, Nat.reduceSub, Nat.reduceAdd, Nat.reduceLT, Nat.reduceEqDiff]
    rw [gh_re rfl, confOf, if_pos hf]; simp only [go_sem, Nat.reduceAdd, Nat.reduceEqDiff, Conf.av]; rfl
  · rw [if_neg hf, if_neg hf] at T
    refine call_lend [1] T (by decide) (by intro p hp; simp at hp; subst hp; simp [getS]) ?_ ?_ (by simp) rfl rfl ?_
    · simp only [go_sem, Nat.reduceSub, Nat.reduceAdd, Nat.reduceEqDiff]
    · simp only [go_sem, Nat.reduceSub, Nat.reduceAdd, Nat.reduceEqDiff]
    simp (disch := omega) only [go_sem, Nat.reduceSub, Nat.reduceAdd, Nat.reduceLT, Nat.reduceEqDiff]
    refine ⟨.inl rfl, ?_⟩
    have hfl := firstOf_le l
    have hll := lastOf_le l
    have hlen : ((l.drop (firstOf l)).take (lastOf l - firstOf l)).length = lastOf l - firstOf l := by simp; omega
    have hv : viewC 1 (iv l) (firstOf l) (lastOf l - firstOf l) = some (.imm (intsIV ⟨.full, (l.drop (firstOf l)).take (lastOf l - firstOf l)⟩)) :=
      iv_view l _ _ (by intro h; have : l.length = 0 := (congrArg List.length h); omega) (by omega)
    have hv2 : viewC 1 (iv ((l.drop (firstOf l)).take (lastOf l - firstOf l))) 0 (lastOf l - firstOf l) = some (.imm (intsIV ⟨.full, (l.drop (firstOf l)).take (lastOf l - firstOf l)⟩)) := by
      rw [iv_view _ _ _ (by intro h; rw [h] at hlen; simp at hlen; omega) (by omega), List.drop_zero, List.take_of_length_le (by omega)]
    have C := clone_ret d ((l.drop (firstOf l)).take (lastOf l - firstOf l)) (by omega)
    rw [hlen] at C
    refine call_soft (as1 := [.imm (intsIV ⟨.full, (l.drop (firstOf l)).take (lastOf l - firstOf l)⟩)]) [] C (by decide) (by intro p hp; cases hp) ?_ rfl rfl (by simp) rfl ?_ rfl rfl ?_
    · simp (disch := omega) only [go_sem, Nat.reduceSub, Nat.reduceAdd, Nat.reduceLT, Nat.reduceEqDiff, Bool.false_eq_true, hv]
    · simp [plainSs, plainS, iv_plain]
    simp (disch := omega) only [go_sem, Nat.reduceSub, Nat.reduceAdd, Nat.reduceLT, Nat.reduceEqDiff]
    refine hQ2 _ _ (Fin.sim [.frz 4] [.re [none, none]] [.cell 6 27] rfl rfl ?_)
    simp (disch := omega) only [go_sem, Nat.reduceSub, Nat.reduceAdd, Nat.reduceLT, Nat.reduceEqDiff, hv2]
    rw [gh_re rfl, confOf, if_neg hf]; simp only [go_sem, Nat.reduceAdd, Nat.reduceEqDiff, Conf.av]
end Go.Proofs.Ytbleionbmdpmeaa
