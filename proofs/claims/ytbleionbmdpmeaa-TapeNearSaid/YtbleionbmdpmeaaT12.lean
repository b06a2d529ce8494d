/- A band without cells grows; a configuration is trimmed; a slice is cloned. -/
import Derived.Test.YtbleionbmdpmeaaT11
set_option linter.unusedVariables false
set_option linter.unusedSimpArgs false
namespace Go.Abs
def FinS (o : Option (Prop × List AVal)) (n : Nat) (gs2 : List Gh) (L' : List Slot) (r : AVal) (out : List Slot) : Prop := match o with
  | some (p, vs) => p ∧ ghosts n gs2 [oneOr vs] L' = some ([r], out)
  | none => False
theorem FinS_some {p : Prop} {vs : List AVal} {n : Nat} {gs2 : List Gh} {L' : List Slot} {r : AVal} {out : List Slot} : FinS (some (p, vs)) n gs2 L' r out = (p ∧ ghosts n gs2 [oneOr vs] L' = some ([r], out)) := nr rfl
theorem Fin.sim {P : Program} {t : List AVal} {L : List Slot} {fn : Func} {n : Nat} {r : AVal} {out : List Slot} (gs gs2 : List Gh) (rs : List ResultVar) (hr : fn.results.toList = rs) {t' : List AVal} {L' : List Slot} (h1 : ghosts n gs t L = some (t', L'))
    (h2 : FinS (resA P t' L' rs) n gs2 L' r out) : Fin P fn n r out t L := by
  unfold FinS at h2
  split at h2
  · rename_i p vs h; exact ⟨gs, t', L', p, vs, gs2, h1, by rw [hr]; exact h, h2.1, h2.2⟩
  · exact h2.elim
attribute [go_sem] FinS_some
end Go.Abs
namespace Go.Proofs.Ytbleionbmdpmeaa
open Go.Abs
attribute [go_sem] Int.toNat_natCast
attribute [go_sem high] ld_iv st_iv

set_option maxHeartbeats 400000 in
set_option maxRecDepth 10000 in
theorem at_new_ret (d : Nat) (z pos : Int) (h0 : -4398046511104 ≤ pos) (h1 : pos ≤ 4398046511104) :
    Ret Try.prog (d + 1) 109 [.ptr 0 0, .imm (.int .i64 pos)] [.obj 0 [.imm (.lst .nil 0 []), .imm (.int .i64 z)]] (.imm (.int .i64 8))
      [.obj 0 [.ref 1 0 16, .imm (.int .i64 (8 - pos))], .obj 1 (iv (List.replicate 16 0))] := by
  refine Ret.mk Try.func109 rfl (of_decide_eq_true (by kernel_rfl)) (by rw [Try.ntmps109]; exact Nat.le_of_ble_eq_true rfl) ?_
  intro Q hQ1 hQ2
  rw [Try.ntmps109]
  refine Eq.mpr (congrFun (congrArg _ rfl) _) (?_ : awpW _ _ _ _ _ (un _))
  simp (disch := omega) only [go_sem, Nat.reduceSub, Nat.reduceAdd, Nat.reduceLT, Int.reduceToNat]
  refine Br.sp (fun h e => ?_) (fun h e => ?_) <;> simp (disch := omega) only [go_sem, Nat.reduceSub, Nat.reduceAdd, Nat.reduceLT, e, Int.reduceToNat]
  rotate_left
  · exfalso; simp at h
  refine awp_loopX (fun x : Unit => tm 89 0 [(0, .ptr 0 0), (1, .imm (.int .i64 pos))])
    (fun x => [.obj 0 [.ref 1 0 16, .imm (.int .i64 (8 - pos))], .obj 1 (iv (List.replicate 16 0))])
    (fun x => True) (fun x => 0) [.mask [0, 1]] () ?_ trivial ?_
  · rw [gh_mask]; simp only [go_sem, Nat.reduceAdd, Nat.reduceEqDiff]
  rintro ⟨⟩ - Q1 hN1 hE1
  simp only [tm_cons, tm_nil, tm_zero, reduceIte, Nat.reduceAdd, Nat.reduceEqDiff]
  simp (disch := omega) only [go_sem, Nat.reduceSub, Nat.reduceAdd, Nat.reduceLT]
  refine Br.sp (fun h e => ?_) (fun h e => ?_) <;> simp (disch := omega) only [go_sem, Nat.reduceSub, Nat.reduceAdd, Nat.reduceLT, e]
  · exfalso; omega
  refine hE1 _ _ _ (fun h => by cases h) ?_
  simp (disch := omega) only [go_sem, Nat.reduceSub, Nat.reduceAdd, Nat.reduceLT]
  refine awp_loopX (fun x : Unit => tm 89 0 [(0, .ptr 0 0), (1, .imm (.int .i64 pos))])
    (fun x => [.obj 0 [.ref 1 0 16, .imm (.int .i64 (8 - pos))], .obj 1 (iv (List.replicate 16 0))])
    (fun x => True) (fun x => 0) [.mask [0, 1]] () ?_ trivial ?_
  · rw [gh_mask]; simp only [go_sem, Nat.reduceAdd, Nat.reduceEqDiff]
  rintro ⟨⟩ - Q2 hN2 hE2
  simp only [tm_cons, tm_nil, tm_zero, reduceIte, Nat.reduceAdd, Nat.reduceEqDiff]
  simp (disch := omega) only [go_sem, Nat.reduceSub, Nat.reduceAdd, Nat.reduceLT]
  refine awp_draw [] (by kernel_rfl) (by kernel_rfl) ?_
  simp (disch := omega) only [go_sem, Nat.reduceSub, Nat.reduceAdd, Nat.reduceLT]
  refine Br.sp (fun h e => ?_) (fun h e => ?_) <;> simp (disch := omega) only [go_sem, Nat.reduceSub, Nat.reduceAdd, Nat.reduceLT, e]
  · exfalso; omega
  refine hE2 _ _ _ (fun h => by cases h) ?_
  simp (disch := omega) only [go_sem, Nat.reduceSub, Nat.reduceAdd, Nat.reduceLT]
  refine hQ2 _ _ (Fin.of [] [.re [some 0, some 1]] rfl rfl trivial ?_)
  rw [gh_re rfl]; simp only [go_sem, Nat.reduceAdd, Nat.reduceEqDiff]; simp; omega

/-- behind the last cell that is not 0 -/
def endOf (l : List Int) : Nat → Nat
  | 0 => 0
  | n + 1 => if l.getD n 0 = 0 then endOf l n else n + 1
def begOf (l : List Int) (e : Nat) : Nat → Nat → Nat
  | 0, o => o
  | f + 1, o => if o < e ∧ l.getD o 0 = 0 then begOf l e f (o + 1) else o
def lastOf (l : List Int) : Nat := endOf l l.length
def firstOf (l : List Int) : Nat := begOf l (lastOf l) (lastOf l) 0

set_option maxHeartbeats 400000 in
set_option maxRecDepth 10000 in
theorem trimmed_ret (d : Nat) (st pos fr : Int) (l : List Int) (hl : l.length ≤ 1099511627776) (h0 : -4398046511104 ≤ fr) (h1 : fr ≤ 4398046511104) :
    Ret Try.prog (d + 1) 105 [.agg [.imm (.int .i64 st), .imm (.int .i64 pos), .imm (.int .i64 fr), .ref 0 0 l.length]] [.obj 1 (iv l)]
      (.agg [.imm (.int .i64 st), .imm (.int .i64 pos), .imm (.int .i64 (if firstOf l = lastOf l then 0 else fr + firstOf l)), if firstOf l = lastOf l then .imm (.lst .nil 0 []) else .ref 0 (firstOf l) (lastOf l - firstOf l)]) [.obj 1 (iv l)] := by
  refine Ret.mk Try.func105 rfl (of_decide_eq_true (by kernel_rfl)) (by rw [Try.ntmps105]; exact Nat.le_of_ble_eq_true rfl) ?_
  intro Q hQ1 hQ2
  rw [Try.ntmps105]
  refine Eq.mpr (congrFun (congrArg _ rfl) _) (?_ : awpW _ _ _ _ _ (un _))
  simp (disch := omega) only [go_sem, Nat.reduceSub, Nat.reduceAdd, Nat.reduceLT]
  refine awp_loopX (fun n : Nat => tm 52 0 [(1, .ptr 1 0), (2, .ptr 2 0)])
    (fun n => [.obj 1 (iv l), .obj 0 [.imm (.int .i64 st), .imm (.int .i64 pos), .imm (.int .i64 fr), .ref 0 0 n], .obj 0 [.imm (.int .i64 0), .imm (.int .i64 0), .imm (.int .i64 0), .imm (.lst .nil 0 [])]])
    (fun n => n ≤ l.length ∧ endOf l n = lastOf l) (fun n => n) [.mask [1, 2]] l.length ?_ ⟨Nat.le_refl _, by simp only [lastOf]⟩ ?_
  · rw [gh_mask]; simp only [go_sem, Nat.reduceAdd, Nat.reduceEqDiff]
  rintro n ⟨hn, he⟩ Q1 hN1 hE1
  have kont : ∀ (m : Nat) (t : List AVal), m = lastOf l → m ≤ l.length → (∀ L, ghosts 1 [.mask [1, 2]] t L = some (tm 52 0 [(1, .ptr 1 0), (2, .ptr 2 0)], L)) →
      Q1 (.exit 0) t [.obj 1 (iv l), .obj 0 [.imm (.int .i64 st), .imm (.int .i64 pos), .imm (.int .i64 fr), .ref 0 0 m], .obj 0 [.imm (.int .i64 0), .imm (.int .i64 0), .imm (.int .i64 0), .imm (.lst .nil 0 [])]] := by
    intro m t hm hml ht
    refine hE1 _ _ _ (fun h => by cases h) ?_
    simp (disch := omega) only [go_sem, Nat.reduceSub, Nat.reduceAdd, Nat.reduceLT]
    refine awp_loopX (fun x : Nat × Nat => tm 52 0 [(1, .ptr 1 0), (2, .ptr 2 0)])
      (fun x => [.obj 1 (iv l), .obj 0 [.imm (.int .i64 st), .imm (.int .i64 pos), .imm (.int .i64 (fr + x.2)), .ref 0 x.2 (m - x.2)], .obj 0 [.imm (.int .i64 0), .imm (.int .i64 0), .imm (.int .i64 0), .imm (.lst .nil 0 [])]])
      (fun x => x.2 ≤ m ∧ m - x.2 ≤ x.1 ∧ begOf l m x.1 x.2 = firstOf l) (fun x => x.1) [.mask [1, 2]] (m, 0) ?_ ⟨Nat.zero_le _, by simp, by simp only [firstOf, hm]⟩ ?_
    · rw [ht]; simp
    rintro ⟨f, o⟩ ⟨ho, hf, hb⟩ Q2 hN2 hE2
    simp only at ho hf hb
    simp only [tm_cons, tm_nil, tm_zero, reduceIte, Nat.reduceAdd, Nat.reduceEqDiff]
    simp (disch := omega) only [go_sem, Nat.reduceSub, Nat.reduceAdd, Nat.reduceLT]
    refine Br.sp (fun h e => ?_) (fun h e => ?_) <;> simp (disch := omega) only [go_sem, Nat.reduceSub, Nat.reduceAdd, Nat.reduceLT, e]
    · obtain ⟨f, rfl⟩ : ∃ g, f = g + 1 := ⟨f - 1, by omega⟩
      refine Br.sp (fun h' e' => ?_) (fun h' e' => ?_) <;> simp (disch := omega) only [go_sem, Nat.reduceSub, Nat.reduceAdd, Nat.reduceLT, e', Int.reduceToNat]
      · rw [begOf, if_pos ⟨by omega, h'⟩] at hb
        refine ⟨by simp; omega, hN2 _ _ ⟨[.mask [1, 2]], (f, o + 1), ?_, ⟨by simp only; omega, by simp only; omega, hb⟩, Nat.lt_succ_self _⟩⟩
        rw [gh_mask]; simp only [go_sem, Nat.reduceAdd, Nat.reduceEqDiff]
        rw [show fr + ((o + 1 : Nat) : Int) = fr + o + 1 from by omega, show m - (o + 1) = m - o - 1 from by omega]
      · have hfo : o = firstOf l := by rw [← hb, begOf, if_neg (fun x => h' x.2)]
        refine hE2 _ _ _ (fun h => by cases h) ?_
        simp (disch := omega) only [go_sem, Nat.reduceSub, Nat.reduceAdd, Nat.reduceLT]
        by_cases hz : m - o = 0
        · simp (disch := omega) only [go_sem, Nat.reduceSub, Nat.reduceAdd, Nat.reduceLT, hz]
          refine Br.sp (fun h2 e2 => ?_) (fun h2 e2 => ?_)
          · simp (disch := omega) only [go_sem, Nat.reduceSub, Nat.reduceAdd, Nat.reduceLT, e2]
            refine hQ2 _ _ (Fin.sim [] [.re [some 0]] [.cell 2 27] rfl gh_nil ?_)
            simp (disch := omega) only [go_sem, Nat.reduceSub, Nat.reduceAdd, Nat.reduceLT, Nat.reduceEqDiff]
            rw [gh_re rfl, if_pos (by omega), if_pos (by omega)]; simp only [go_sem, Nat.reduceAdd, Nat.reduceEqDiff]
          · exfalso; exact h2 rfl
        · refine Br.sp (fun h2 e2 => ?_) (fun h2 e2 => ?_)
          · exfalso; omega
          · simp (disch := omega) only [go_sem, Nat.reduceSub, Nat.reduceAdd, Nat.reduceLT, e2]
            refine hQ2 _ _ (Fin.sim [] [.re [some 0]] [.cell 2 27] rfl gh_nil ?_)
            simp (disch := omega) only [go_sem, Nat.reduceSub, Nat.reduceAdd, Nat.reduceLT, Nat.reduceEqDiff]
            rw [gh_re rfl, if_neg (by omega), if_neg (by omega), ← hfo, ← hm]; simp only [go_sem, Nat.reduceAdd, Nat.reduceEqDiff]
  
    · have hfo : o = firstOf l := by rw [← hb]; cases f with
        | zero => rfl
        | succ f => rw [begOf, if_neg (fun x => by omega)]
      refine hE2 _ _ _ (fun h => by cases h) ?_
      simp (disch := omega) only [go_sem, Nat.reduceSub, Nat.reduceAdd, Nat.reduceLT]
      by_cases hz : m - o = 0
      · simp (disch := omega) only [go_sem, Nat.reduceSub, Nat.reduceAdd, Nat.reduceLT, hz]
        refine Br.sp (fun h2 e2 => ?_) (fun h2 e2 => ?_)
        · simp (disch := omega) only [go_sem, Nat.reduceSub, Nat.reduceAdd, Nat.reduceLT, e2]
          refine hQ2 _ _ (Fin.sim [] [.re [some 0]] [.cell 2 27] rfl gh_nil ?_)
          simp (disch := omega) only [go_sem, Nat.reduceSub, Nat.reduceAdd, Nat.reduceLT, Nat.reduceEqDiff]
          rw [gh_re rfl, if_pos (by omega), if_pos (by omega)]; simp only [go_sem, Nat.reduceAdd, Nat.reduceEqDiff]
        · exfalso; exact h2 rfl
      · refine Br.sp (fun h2 e2 => ?_) (fun h2 e2 => ?_)
        · exfalso; omega
        · simp (disch := omega) only [go_sem, Nat.reduceSub, Nat.reduceAdd, Nat.reduceLT, e2]
          refine hQ2 _ _ (Fin.sim [] [.re [some 0]] [.cell 2 27] rfl gh_nil ?_)
          simp (disch := omega) only [go_sem, Nat.reduceSub, Nat.reduceAdd, Nat.reduceLT, Nat.reduceEqDiff]
          rw [gh_re rfl, if_neg (by omega), if_neg (by omega), ← hfo, ← hm]; simp only [go_sem, Nat.reduceAdd, Nat.reduceEqDiff]

  simp only [tm_cons, tm_nil, tm_zero, reduceIte, Nat.reduceAdd, Nat.reduceEqDiff]
  simp (disch := omega) only [go_sem, Nat.reduceSub, Nat.reduceAdd, Nat.reduceLT]
  refine Br.sp (fun h e => ?_) (fun h e => ?_) <;> simp (disch := omega) only [go_sem, Nat.reduceSub, Nat.reduceAdd, Nat.reduceLT, e]
  rotate_left
  · have hne : n = lastOf l := by rw [← he, show n = 0 from by omega]; rfl
    exact kont n _ hne hn (fun L => by rw [gh_mask]; simp only [go_sem, Nat.reduceAdd, Nat.reduceEqDiff])
  · obtain ⟨n, rfl⟩ : ∃ m, n = m + 1 := ⟨n - 1, by omega⟩
    have e1 : ((n + 1 : Nat) - 1 : Int).toNat = n := by omega
    simp only [e1]
    refine Br.sp (fun h' e' => ?_) (fun h' e' => ?_) <;> simp (disch := omega) only [go_sem, Nat.reduceSub, Nat.reduceAdd, Nat.reduceLT, e']
    · refine ⟨by simp; omega, hN1 _ _ ⟨[.mask [1, 2]], n, ?_, ⟨by omega, ?_⟩, Nat.lt_succ_self _⟩⟩
      · rw [gh_mask]; simp only [go_sem, Nat.reduceAdd, Nat.reduceEqDiff, e1]
      · rw [← he, endOf, if_pos h']
    · have hne : n + 1 = lastOf l := by rw [← he, endOf, if_neg h']
      exact kont (n + 1) _ hne hn (fun L => by rw [gh_mask]; simp only [go_sem, Nat.reduceAdd, Nat.reduceEqDiff])
section
variable {n0 : Nat} {nd : Bool} {t : List AVal} {L : List Slot} {K : AVal → List Slot → Prop} {ty : TypeId} {P : Program}
@[go_sem] theorem ints_nil {l : List Int} : binK P nd .eql ty (.imm (intsIV ⟨.full, l⟩)) (.imm (.lst .nil 0 [])) L K (un _) = (isSliceK (tiOf P ty).kind = true ∧ K (.imm (.bool false)) L) := bin_fullnil
theorem rowIV_full {l : List Rule} : binK P nd .eql ty (.imm (rowIV ⟨.full, l⟩)) (.imm (.lst .nil 0 [])) L K (un _) = (isSliceK (tiOf P ty).kind = true ∧ K (.imm (.bool false)) L) := bin_fullnil
end

theorem clone_nil_ret (d : Nat) : Ret Try.prog (d + 1) 94 [.imm (.lst .nil 0 [])] [] (.imm (.lst .nil 0 [])) [] := by
  refine Ret.mk Try.func94 rfl (of_decide_eq_true (by kernel_rfl)) (by rw [Try.ntmps94]; exact Nat.le_of_ble_eq_true rfl) ?_
  intro Q hQ1 hQ2
  rw [Try.ntmps94]
  refine Eq.mpr (congrFun (congrArg _ rfl) _) (?_ : awpW _ _ _ _ _ (un _))
  simp (disch := omega) only [go_sem, Nat.reduceSub, Nat.reduceAdd, Nat.reduceLT]
  refine hQ2 _ _ (Fin.imm1 rfl (i := 2) ?_); simp only [go_sem]

theorem clone_ret (d : Nat) (l : List Int) (hl : l.length ≤ 1099511627776) : Ret Try.prog (d + 1) 94 [.imm (intsIV ⟨.full, l⟩)] [] (.ref 0 0 l.length) [.obj 1 (iv l)] := by
  refine Ret.mk Try.func94 rfl (of_decide_eq_true (by kernel_rfl)) (by rw [Try.ntmps94]; exact Nat.le_of_ble_eq_true rfl) ?_
  intro Q hQ1 hQ2
  rw [Try.ntmps94]
  refine Eq.mpr (congrFun (congrArg _ rfl) _) (?_ : awpW _ _ _ _ _ (un _))
  simp (disch := omega) only [go_sem, Nat.reduceSub, Nat.reduceAdd, Nat.reduceLT]
  refine ⟨by have e1 : most = 1099511627776 := by decide
             omega, hQ2 _ _ (Fin.sim [] [.re [some 0]] [.tmp 2] rfl gh_nil ?_)⟩
  simp (disch := omega) only [go_sem, Nat.reduceSub, Nat.reduceAdd, Nat.reduceLT, Nat.reduceEqDiff]
  rw [gh_re rfl]; simp only [go_sem, Nat.reduceAdd, Nat.reduceEqDiff]
end Go.Proofs.Ytbleionbmdpmeaa
