/- A band grows to have a position: what is read stays, and it does not become much longer than what is asked of it. -/
import Derived.Test.YtbleionbmdpmeaaT10
set_option linter.unusedVariables false
set_option linter.unusedSimpArgs false
namespace Go.Proofs.Ytbleionbmdpmeaa
open Go.Abs

attribute [go_sem] iv_length iv_app iv_drop iv_take iv_rens iv_solid iv_zeros iv_plain

theorem getD_app_l (a b : List Int) (i : Nat) (d : Int) (h : i < a.length) : (a ++ b).getD i d = a.getD i d := by
  simp [List.getD_eq_getElem?_getD, List.getElem?_append, h]
theorem getD_app_r (a b : List Int) (i : Nat) (d : Int) (h : a.length ≤ i) : (a ++ b).getD i d = b.getD (i - a.length) d := by
  simp [List.getD_eq_getElem?_getD, List.getElem?_append, Nat.not_lt.2 h]
theorem fm1 {α β : Type} (f : α → β) (l : List α) : (l.flatMap fun n => [f n]) = l.map f := by
  induction l with
  | nil => rfl
  | cons a l ih => simp [List.flatMap_cons, ih]

section
variable {n0 : Nat} {nd : Bool} {t : List AVal} {L : List Slot} {K : AVal → List Slot → Prop} {k : IntKind} {j : Int}
@[go_sem] theorem ld_iv {o e sz : Nat} {l : List Int} (h : o < l.length) : ldS (.obj e (iv l)) false sz o L K (un _) = K (.imm (.int .i64 (l.getD o 0))) L := by
  rw [ldS_f, iv_get l o h]; simp [iv_length, h]
@[go_sem] theorem st_iv {s o e : Nat} {l : List Int} {v : Int} (h : o < l.length) : stoS s (.obj e (iv l)) o (.imm (.int .i64 v)) 1 L K (un _) = K und (setS L s (.obj e (iv (l.set o v)))) := by
  rw [stoS_obj, cells_imm, iv_set, iv_length]
  simp [solid]; omega
@[go_sem] theorem cut_iv {l : List Int} (h : 0 < l.length) : cutS 1 (.obj 1 (iv l)) = true := by simp [cutS, iv_length, h]
@[go_sem] theorem ap_ints {eb : Nat} {b : AVal} {s : Lst Int} : appK 1 eb b (.imm (intsIV s)) L K (un _) = apB 1 eb b s.l.length (iv s.l) L K (un _) := by
  rw [intsIV, Lst.iv, appK_lst]
  have e : (s.l.flatMap fun n => [IVal.int .i64 n]).length = s.l.length := by rw [fm1]; exact List.length_map _
  have e2 : ((s.l.flatMap fun n => [IVal.int .i64 n]).take (s.l.length * 1)).map AVal.imm = iv s.l := by
    rw [Nat.mul_one, ← e, List.take_length, fm1]; simp [iv]
  rw [e2, e]; simp
end

/-- numbers laid over others -/
def ovr : List Int → Nat → List Int → List Int
  | l, _, [] => l
  | l, o, v :: vs => ovr (l.set o v) (o + 1) vs
@[go_sem] theorem spl_iv : ∀ (x l : List Int) (o : Nat), spl (iv l) o (iv x) = iv (ovr l o x)
  | [], l, o => rfl
  | v :: x, l, o => by
    have : iv (v :: x) = .imm (.int .i64 v) :: iv x := rfl
    rw [this]; simp only [spl, ovr]
    have e := iv_set l o v
    simp only [spl] at e
    rw [e, spl_iv x]
theorem ovr_get : ∀ (x l : List Int) (o i : Nat), o + x.length ≤ l.length → (ovr l o x)[i]? = if o ≤ i ∧ i < o + x.length then x[i - o]? else l[i]?
  | [], l, o, i, h => by simp [ovr]; intro h1 h2; omega
  | v :: x, l, o, i, h => by
    simp only [ovr, List.length_cons] at *
    rw [ovr_get x _ (o + 1) i (by rw [List.length_set]; omega), List.getElem?_set]
    by_cases h1 : o + 1 ≤ i ∧ i < o + 1 + x.length
    · rw [if_pos h1, if_pos (by omega), show i - o = (i - (o + 1)) + 1 from by omega]; simp
    · rw [if_neg h1]
      by_cases h2 : o = i
      · subst h2; rw [if_pos rfl, if_pos (by omega), if_pos (by omega)]; simp
      · rw [if_neg h2, if_neg (by omega)]
theorem ovr_grow (l : List Int) : ovr (List.replicate (2 * l.length) 0) l.length l = List.replicate l.length 0 ++ l := by
  refine List.ext_getElem? (fun i => ?_)
  rw [ovr_get _ _ _ _ (by simp; omega), List.getElem?_append, List.length_replicate]
  by_cases h : i < l.length
  · rw [if_neg (by omega), if_pos h]; simp [List.getElem?_replicate, h]; omega
  · rw [if_neg h]
    split
    · rfl
    · rw [List.getElem?_eq_none (by simp; omega), List.getElem?_eq_none (by omega)]

/-- what a band has at a position -/
def bget (l : List Int) (z p : Int) : Int := if 0 ≤ p + z ∧ p + z < l.length then l.getD (p + z).toNat 0 else 0
theorem bget_left (l : List Int) (z p : Int) : bget (List.replicate l.length 0 ++ l) (z + l.length) p = bget l z p := by
  unfold bget
  simp only [List.length_append, List.length_replicate]
  by_cases h : 0 ≤ p + z ∧ p + z < l.length
  · rw [if_pos h, if_pos (by omega), getD_app_r _ _ _ _ (by simp; omega)]
    congr 1; simp; omega
  · rw [if_neg h]
    split
    · rw [getD_app_l _ _ _ _ (by simp; omega)]
      simp [List.getD_eq_getElem?_getD, List.getElem?_replicate]
      split <;> rfl
    · rfl
theorem bget_right (l : List Int) (z p : Int) : bget (l ++ List.replicate l.length 0) z p = bget l z p := by
  unfold bget
  simp only [List.length_append, List.length_replicate]
  by_cases h : 0 ≤ p + z ∧ p + z < l.length
  · rw [if_pos h, if_pos (by omega), getD_app_l _ _ _ _ (by omega)]
  · rw [if_neg h]
    split
    · rw [getD_app_r _ _ _ _ (by omega)]
      simp [List.getD_eq_getElem?_getD, List.getElem?_replicate]
      split <;> rfl
    · rfl

/-- A band that holds not much more than the positions from A to B. -/
def Good (A B : Int) (n : Nat) (z : Int) : Prop := 0 < n ∧ ((2 * A - n ≤ 2 * -z ∧ 4 * (n - z) ≤ 4 * (B + 1) + n) ∨ (4 * A - n ≤ 4 * -z ∧ 2 * (n - z) ≤ 2 * (B + 1) + n))

def growL (pos : Int) : Nat → List Int → Int → List Int × Int
  | 0, l, z => (l, z)
  | f + 1, l, z => if pos + z < 0 then growL pos f (List.replicate l.length 0 ++ l) (z + l.length) else (l, z)
def growR (pos z : Int) : Nat → List Int → List Int
  | 0, l => l
  | f + 1, l => if l.length ≤ pos + z then growR pos z f (l ++ List.replicate l.length 0) else l
def leftOf (l : List Int) (z pos : Int) : List Int × Int := growL pos (-(pos + z)).toNat l z
def rightOf (l : List Int) (z pos : Int) : List Int := growR pos z (pos + z - l.length + 1).toNat l
def bandAt (l : List Int) (z pos : Int) : List Int × Int := (rightOf (leftOf l z pos).1 (leftOf l z pos).2 pos, (leftOf l z pos).2)

theorem growL_spec {A B pos : Int} (hA : A ≤ pos) (hB : pos ≤ B) : ∀ (f : Nat) (l : List Int) (z : Int), Good A B l.length z → -(pos + z) ≤ f →
    Good A B (growL pos f l z).1.length (growL pos f l z).2 ∧ 0 ≤ pos + (growL pos f l z).2 ∧ (∀ p, bget (growL pos f l z).1 (growL pos f l z).2 p = bget l z p) ∧ z ≤ (growL pos f l z).2 ∧ l.length - z ≤ (growL pos f l z).1.length - (growL pos f l z).2
  | 0, l, z, hg, hf => ⟨hg, by simp only [growL]; omega, fun _ => rfl, by simp only [growL]; omega, by simp only [growL]; omega⟩
  | f + 1, l, z, hg, hf => by
    unfold growL
    split
    · obtain ⟨h1, h2, h3, h4, h5⟩ := growL_spec (A := A) (B := B) hA hB f (List.replicate l.length 0 ++ l) (z + l.length) (by
        unfold Good at hg ⊢
        simp only [List.length_append, List.length_replicate]; omega) (by unfold Good at hg; omega)
      simp only [List.length_append, List.length_replicate] at h5
      exact ⟨h1, h2, fun p => by rw [h3, bget_left], by omega, by omega⟩
    · exact ⟨hg, by omega, fun _ => rfl, by simp only; omega, by simp only; omega⟩
theorem growR_spec {A B pos z : Int} (hA : A ≤ pos) (hB : pos ≤ B) : ∀ (f : Nat) (l : List Int), Good A B l.length z → pos + z - l.length < f →
    Good A B (growR pos z f l).length z ∧ pos + z < (growR pos z f l).length ∧ (∀ p, bget (growR pos z f l) z p = bget l z p) ∧ l.length ≤ (growR pos z f l).length
  | 0, l, hg, hf => ⟨hg, by simp only [growR]; omega, fun _ => rfl, Nat.le_refl _⟩
  | f + 1, l, hg, hf => by
    unfold growR
    split
    · obtain ⟨h1, h2, h3, h4⟩ := growR_spec (A := A) (B := B) (z := z) hA hB f (l ++ List.replicate l.length 0) (by
        unfold Good at hg ⊢
        simp only [List.length_append, List.length_replicate]; omega) (by unfold Good at hg; simp only [List.length_append, List.length_replicate]; omega)
      simp only [List.length_append, List.length_replicate] at h4
      exact ⟨h1, h2, fun p => by rw [h3, bget_right], by omega⟩
    · exact ⟨hg, by omega, fun _ => rfl, Nat.le_refl _⟩
structure BandAt (A B : Int) (l : List Int) (z pos : Int) (l' : List Int) (z' : Int) : Prop where
  good : Good A B l'.length z'
  lo : 0 ≤ pos + z'
  hi : pos + z' < l'.length
  same : ∀ p, bget l' z' p = bget l z p
  left : z ≤ z'
  right : l.length - z ≤ l'.length - z'
theorem bandAt_spec {A B : Int} {l : List Int} {z pos : Int} (hA : A ≤ pos) (hB : pos ≤ B) (hg : Good A B l.length z) : BandAt A B l z pos (bandAt l z pos).1 (bandAt l z pos).2 := by
  obtain ⟨h1, h2, h3, h7, h8⟩ := growL_spec hA hB (-(pos + z)).toNat l z hg (by omega)
  obtain ⟨h4, h5, h6, h9⟩ := growR_spec (A := A) (B := B) (z := (leftOf l z pos).2) hA hB (pos + (leftOf l z pos).2 - (leftOf l z pos).1.length + 1).toNat (leftOf l z pos).1 h1 (by omega)
  refine ⟨h4, h2, h5, fun p => by rw [← h3]; exact h6 p, h7, ?_⟩
  have h8' : (l.length : Int) - z ≤ (leftOf l z pos).1.length - (leftOf l z pos).2 := h8
  have h9' : (leftOf l z pos).1.length ≤ (bandAt l z pos).1.length := h9
  have : (bandAt l z pos).2 = (leftOf l z pos).2 := rfl
  omega
theorem bandAt_in {l : List Int} {z pos : Int} (h0 : 0 ≤ pos + z) (h1 : pos + z < l.length) : bandAt l z pos = (l, z) := by
  have e1 : leftOf l z pos = (l, z) := by unfold leftOf; cases (-(pos + z)).toNat <;> simp only [growL]; rw [if_neg (by omega)]
  have e2 : rightOf l z pos = l := by unfold rightOf; cases (pos + z - l.length + 1).toNat <;> simp only [growR]; rw [if_neg (by omega)]
  simp only [bandAt, e1, e2]

set_option maxHeartbeats 400000 in
set_option maxRecDepth 10000 in
theorem at_ret (d : Nat) (A B : Int) (l : List Int) (z pos : Int) (hA0 : -4398046511104 ≤ A) (hB0 : B ≤ 4398046511104) (hAB : B - A ≤ 4294967296) (hA : A ≤ pos) (hB : pos ≤ B) (hg : Good A B l.length z) :
    Ret Try.prog (d + 1) 109 [.ptr 0 0, .imm (.int .i64 pos)] [.obj 0 [.ref 1 0 l.length, .imm (.int .i64 z)], .obj 1 (iv l)] (.imm (.int .i64 (pos + (bandAt l z pos).2)))
      [.obj 0 [.ref 2 0 (bandAt l z pos).1.length, .imm (.int .i64 (bandAt l z pos).2)], .dead, .obj 1 (iv (bandAt l z pos).1)] := by
  have hg0 := hg
  unfold Good at hg0
  refine Ret.mk Try.func109 rfl (of_decide_eq_true (by kernel_rfl)) (by rw [Try.ntmps109]; exact Nat.le_of_ble_eq_true rfl) ?_
  intro Q hQ1 hQ2
  rw [Try.ntmps109]
  refine Eq.mpr (congrFun (congrArg _ rfl) _) (?_ : awpW _ _ _ _ _ (un _))
  simp (disch := omega) only [go_sem, Nat.reduceSub, Nat.reduceAdd, Nat.reduceLT]
  refine Br.sp (fun h e => ?_) (fun h e => ?_) <;> simp (disch := omega) only [go_sem, Nat.reduceSub, Nat.reduceAdd, Nat.reduceLT, e]
  · exfalso; omega
  · refine awp_loopX (fun x : Nat × List Int × Int => tm 89 0 [(0, .ptr 0 0), (1, .imm (.int .i64 pos))])
      (fun x => [.obj 0 [.ref 2 0 x.2.1.length, .imm (.int .i64 x.2.2)], .dead, .obj 1 (iv x.2.1)])
      (fun x => Good A B x.2.1.length x.2.2 ∧ -(pos + x.2.2) ≤ x.1 ∧ growL pos x.1 x.2.1 x.2.2 = leftOf l z pos)
      (fun x => x.1) [.mask [0, 1], .re [some 0, none, some 1]] ((-(pos + z)).toNat, l, z) ?_ ⟨hg, by simp only; omega, by simp only [leftOf]⟩ ?_
    · rw [gh_mask, gh_re rfl]; simp only [go_sem, Nat.reduceAdd, Nat.reduceEqDiff]
    rintro ⟨f, l1, z1⟩ ⟨hg1, hf, hgr⟩ Q1 hN1 hE1
    simp only at hg1 hf hgr
    have hg2 := hg1
    unfold Good at hg2
    simp only [tm_cons, tm_nil, tm_zero, reduceIte, Nat.reduceAdd, Nat.reduceEqDiff]
    simp (disch := omega) only [go_sem, Nat.reduceSub, Nat.reduceAdd, Nat.reduceLT]
    refine Br.sp (fun h e => ?_) (fun h e => ?_) <;> simp (disch := omega) only [go_sem, Nat.reduceSub, Nat.reduceAdd, Nat.reduceLT, e]
    · refine awp_draw [7] (by kernel_rfl) (by kernel_rfl) ?_
      simp (disch := omega) only [go_sem, Nat.reduceSub, Nat.reduceAdd, Nat.reduceLT]
      have e1 : (2 * (l1.length : Int)).toNat = 2 * l1.length := by omega
      have e2 : min l1.length (2 * l1.length - l1.length) = l1.length := by omega
      simp only [e1, Int.toNat_natCast, e2, List.take_length, ovr_grow]
      obtain ⟨f, rfl⟩ : ∃ g, f = g + 1 := ⟨f - 1, by omega⟩
      rw [growL, if_pos h] at hgr
      refine ⟨by simp; omega, ⟨by omega, by simp; omega⟩, .inl rfl, hN1 _ _ ⟨[.mask [0, 1], .re [some 0, none, some 3]], (f, List.replicate l1.length 0 ++ l1, z1 + l1.length), ?_, ⟨?_, ?_, hgr⟩, Nat.lt_succ_self _⟩⟩
      · rw [gh_mask, gh_re rfl]; simp only [go_sem, Nat.reduceAdd, Nat.reduceEqDiff]; simp; omega
      · unfold Good; simp only [List.length_append, List.length_replicate]; omega
      · simp only; omega
    · refine hE1 _ _ _ (fun h => by cases h) ?_
      have hl : leftOf l z pos = (l1, z1) := by
        rw [← hgr]; cases f with
        | zero => rfl
        | succ f => rw [growL, if_neg h]
      simp (disch := omega) only [go_sem, Nat.reduceSub, Nat.reduceAdd, Nat.reduceLT]
      refine awp_loopX (fun x : Nat × List Int => tm 89 0 [(0, .ptr 0 0), (1, .imm (.int .i64 pos))])
        (fun x => [.obj 0 [.ref 2 0 x.2.length, .imm (.int .i64 z1)], .dead, .obj 1 (iv x.2)])
        (fun x => Good A B x.2.length z1 ∧ pos + z1 - x.2.length < x.1 ∧ growR pos z1 x.1 x.2 = rightOf l1 z1 pos)
        (fun x => x.1) [.mask [0, 1], .re [some 0, none, some 2]] ((pos + z1 - l1.length + 1).toNat, l1) ?_ ⟨hg1, by simp only; omega, by simp only [rightOf]⟩ ?_
      · rw [gh_mask, gh_re rfl]; simp only [go_sem, Nat.reduceAdd, Nat.reduceEqDiff]
      rintro ⟨f2, l2⟩ ⟨hg3, hf2, hgr2⟩ Q2 hN2 hE2
      simp only at hg3 hf2 hgr2
      have hg4 := hg3
      unfold Good at hg4
      simp only [tm_cons, tm_nil, tm_zero, reduceIte, Nat.reduceAdd, Nat.reduceEqDiff]
      simp (disch := omega) only [go_sem, Nat.reduceSub, Nat.reduceAdd, Nat.reduceLT]
      refine awp_draw [] (by kernel_rfl) (by kernel_rfl) ?_
      simp (disch := omega) only [go_sem, Nat.reduceSub, Nat.reduceAdd, Nat.reduceLT]
      refine Br.sp (fun h' e' => ?_) (fun h' e' => ?_) <;> simp (disch := omega) only [go_sem, Nat.reduceSub, Nat.reduceAdd, Nat.reduceLT, e']
      · refine awp_draw [10, 13] (by kernel_rfl) (by kernel_rfl) ?_
        simp (disch := omega) only [go_sem, Nat.reduceSub, Nat.reduceAdd, Nat.reduceLT]
        simp only [Int.toNat_natCast]
        have e1 : most = 1099511627776 := by decide
        obtain ⟨f2, rfl⟩ : ∃ g, f2 = g + 1 := ⟨f2 - 1, by omega⟩
        rw [growR, if_pos h'] at hgr2
        refine ⟨by omega, ⟨.inr (by omega), by omega⟩, .inl rfl, .inl rfl, hN2 _ _ ⟨[.mask [0, 1], .re [some 0, none, some 3]], (f2, l2 ++ List.replicate l2.length 0), ?_, ⟨?_, ?_, hgr2⟩, Nat.lt_succ_self _⟩⟩
        · rw [gh_mask, gh_re rfl]; simp only [go_sem, Nat.reduceAdd, Nat.reduceEqDiff]; simp
        · unfold Good; simp only [List.length_append, List.length_replicate]; omega
        · simp only [List.length_append, List.length_replicate]; omega
      · refine hE2 _ _ _ (fun h => by cases h) ?_
        have hr : rightOf l1 z1 pos = l2 := by
          rw [← hgr2]; cases f2 with
          | zero => rfl
          | succ f => rw [growR, if_neg h']
        have hba : bandAt l z pos = (l2, z1) := by simp only [bandAt, hl, hr]
        simp (disch := omega) only [go_sem, Nat.reduceSub, Nat.reduceAdd, Nat.reduceLT]
        refine hQ2 _ _ (Fin.of [] [.re [some 0, none, some 2]] rfl rfl trivial ?_)
        rw [hba, gh_re rfl]; simp only [go_sem, Nat.reduceAdd, Nat.reduceEqDiff]
end Go.Proofs.Ytbleionbmdpmeaa
