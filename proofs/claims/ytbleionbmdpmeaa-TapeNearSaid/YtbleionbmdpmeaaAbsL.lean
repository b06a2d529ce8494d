/- Code, functions, programs: what is told of a function by 'Ret' is true of the program. -/
import Derived.Test.YtbleionbmdpmeaaAbsK
import Derived.Deep.LoopGhost
set_option linter.unusedVariables false
set_option linter.unusedSimpArgs false
namespace Go.Abs

section
variable {P : Program} {Rt : Rets} {C : Ctx} {w : World}

/-! ### Regions whose order is drawn -/

def left (l : Array Bool) : Nat → Nat
  | 0 => 0
  | n + 1 => left l n + if l.getD n true = true then 0 else 1

theorem getD_set (l : Array Bool) (j i : Nat) (hj : j < l.size) : (l.setIfInBounds j true).getD i true = if i = j then true else l.getD i true := by
  simp only [Array.getD_eq_getD_getElem?, Array.getElem?_setIfInBounds]
  by_cases h : j = i
  · subst h; simp [hj]
  · rw [if_neg h, if_neg (Ne.symm h)]

theorem left_set (l : Array Bool) (j : Nat) (hj : j < l.size) (hl : l.getD j true = false) : ∀ n, left (l.setIfInBounds j true) n + (if j < n then 1 else 0) = left l n
  | 0 => by simp [left]
  | n + 1 => by
    have ih := left_set l j hj hl n
    simp only [left, getD_set l j n hj]
    by_cases h : n = j
    · subst h
      simp [hl] at ih ⊢; omega
    · rw [if_neg h]
      by_cases h2 : j < n
      · rw [if_pos h2] at ih; rw [if_pos (show j < n + 1 from by omega)]; omega
      · rw [if_neg h2] at ih; rw [if_neg (show ¬ j < n + 1 from by omega)]; omega

theorem left_zero (l : Array Bool) : ∀ n, left l n = 0 → ∀ i, i < n → l.getD i true = true
  | 0, _, i, hi => by omega
  | n + 1, h, i, hi => by
    simp only [left] at h
    by_cases e : i = n
    · subst e
      cases hq : l.getD i true with
      | true => rfl
      | false => rw [hq] at h; simp at h
    · exact left_zero l n (by omega) i (by omega)

theorem getD_tf {l : Array Bool} {i : Nat} (h : i < l.size) (b b' : Bool) : l.getD i b = l.getD i b' := by
  simp [Array.getD_eq_getD_getElem?, h]

theorem tx_all {all : List Oper} {ws : WK} {n0 n : Nat} {T : Nat → List AVal} {LS : Nat → List Slot} {V : Nat → AVal} {W : Nat → Bool} (tr : Trace P Rt n0 all ws 0 n T LS V W) (hn : n = all.length) {S : Nat → Bool} (hS : ∀ i, i < n → S i = true) :
    ∀ i, i ≤ n → tx all (T 0) V S i = T i
  | 0, _ => rfl
  | i + 1, h => by
    have ho : all[i]? = some all[i] := List.getElem?_eq_getElem (by omega)
    simp only [tx, hS i (by omega), if_true, tx_all tr hn hS i (by omega), dstOf, ho, Option.bind_some]
    exact (tr.step i _ (Nat.zero_le _) (by omega) ho).2.1.symm

theorem tx_none (all : List Oper) (T0 : List AVal) (V : Nat → AVal) : ∀ i, tx all T0 V (fun _ => false) i = T0
  | 0 => rfl
  | i + 1 => by simp [tx, tx_none all T0 V i]

theorem draw_sound (hR : SoundR P Rt) {ops : Array Oper} {ws : WK} {K : List AVal → List Slot → Prop} {Q : Exit → Act → World → Prop} (hm : P.follows .mixedOrders = true)
    (h1 : drawOk ops.toList ws = true) (h2 : afterOk ops.toList = true) (hK : ∀ t L a w, RelE C t L a w → K t L → Q .normal a w)
    {t : List AVal} {L : List Slot} {a : Act} (hr : RelE C t L a w) (hF : ∀ s ∈ ws.F, s < L.length) (h : aopsD P Rt L.length ops.toList ws 0 ops.toList t L K) {id : Nat} : (Code.region id ops true).wp P Q a w := by
  obtain ⟨T, LS, V, W, e1, e2, tr, hfin⟩ := trace_of ops.toList 0 t L rfl h
  have O := ord_of h1 h2
  generalize hn : ops.toList.length = n at tr hfin
  rw [Nat.zero_add] at tr hfin
  have hsz : ops.size = n := by rw [← hn]; simp
  refine wp_region_any hm ?_
  have hk : C.k ≤ (LS 0).length := by obtain ⟨_, _, _, _, _, h⟩ := hr; rw [e2]; exact h
  have hn0 : L.length = (LS 0).length := by rw [e2]
  -- what is left
  have go : ∀ (fuel : Nat) (l : Array Bool) (a : Act) (w : World), l.size = n → left l n ≤ fuel → Inv P C ops.toList ws n T LS V (fun i => l.getD i true) a w → wpAny P .any ops Q fuel l a w := by
    have fin : ∀ (l : Array Bool) (a : Act) (w : World), l.size = n → (∀ i, i < n → l.getD i true = true) → Inv P C ops.toList ws n T LS V (fun i => l.getD i true) a w → Q .normal a w := by
      intro l a w hl hall hI
      obtain ⟨M, π, sl, m, i1, i2, i3, IL, Tm, R, hdef, D⟩ := hI
      have hmn : m = n := by
        rcases Nat.lt_or_ge m n with h | h
        · have := (i3 h).2; simp only [hall m h] at this; cases this
        · omega
      subst hmn
      rw [tx_all tr hn.symm (fun i hi => hall i hi) m (Nat.le_refl _)] at Tm
      have hsl : sl = getS (LS m) := by
        funext q
        by_cases g1 : q < (LS 0).length
        · exact IL.base q g1
        · by_cases g2 : q < (LS m).length
          · obtain ⟨i, j1, j2, j3⟩ := made_at (by omega) m g2
            exact (IL.made i j1 q j2 j3).1 (hall i j1)
          · rw [IL.free q (by omega), getS_none (by omega)]
      subst hsl
      exact hK _ _ _ _ ⟨M, π, Tm, R, hdef, Nat.le_trans hk (tr_mono tr hn.symm m 0 (Nat.zero_le _) (Nat.le_refl _))⟩ hfin
    have noReady : ∀ (l : Array Bool), l.size = n → Region.ready .any ops l = [] → ∀ i, i < n → l.getD i true = true := by
      intro l hl hre i
      induction i using Nat.strongRecOn with
      | _ i ih =>
        intro hi
        cases hq : l.getD i true with
        | true => rfl
        | false =>
          have ho : ops.toList[i]? = some ops.toList[i] := List.getElem?_eq_getElem (by simp; omega)
          have hmem : i ∈ Region.ready .any ops l := by
            simp only [Region.ready, List.mem_filter, List.mem_range]
            refine ⟨by omega, ?_⟩
            have ho' : ops[i]? = some ops.toList[i] := by rw [← ho]; simp
            simp only [hq, Bool.not_false, Bool.true_and, ho', Option.map_some, Option.getD_some]
            rw [← Array.all_toList, List.all_eq_true]
            intro e he
            cases hbb : Region.binds .any e with
            | false => simp
            | true =>
              have hb := O.back i _ ho e he hbb
              have := ih e.on hb (by omega)
              rw [getD_tf (by omega) true false] at this
              simp [this]
          rw [hre] at hmem; cases hmem
    intro fuel
    induction fuel with
    | zero =>
      intro l a w hl hle hI
      have hall := left_zero l n (by omega)
      refine ⟨?_, fin l a w hl hall hI⟩
      simp only [Region.ready, List.filter_eq_nil_iff, List.mem_range]
      intro i hi
      simp [hall i (by omega)]
    | succ fuel ih =>
      intro l a w hl hle hI
      refine ⟨fun hre => fin l a w hl (noReady l hl hre) hI, fun j hj => ?_⟩
      simp only [Region.ready, List.mem_filter, List.mem_range] at hj
      obtain ⟨hj1, hj2⟩ := hj
      have hjn : j < n := by omega
      simp only [Bool.and_eq_true, Bool.not_eq_true'] at hj2
      have ho : ops.toList[j]? = some ops.toList[j] := List.getElem?_eq_getElem (by simp; omega)
      have ho' : ops[j]? = some ops.toList[j] := by rw [← ho]; simp
      have N : Next ops.toList (fun i => l.getD i true) j ops.toList[j] := by
        refine ⟨ho, hj2.1, fun e he hb => ?_⟩
        have h3 := hj2.2
        simp only [ho', Option.map_some, Option.getD_some] at h3
        rw [← Array.all_toList, List.all_eq_true] at h3
        have := h3 e he
        rw [hb] at this
        simp only [Bool.not_true, Bool.false_or] at this
        have hlt := O.back j _ ho e he hb
        rw [getD_tf (by omega) true false]; exact this
      refine wpOp_mono (fun a' w' h => ?_) (inv_step hR rfl O tr hn.symm hn0 hk (by rw [e2]; exact hF) hI hjn N (Q := Q))
      have hset : (fun i => if i = j then true else l.getD i true) = fun i => (l.setIfInBounds j true).getD i true := by
        funext i; rw [getD_set l j i (by omega)]
      refine ih _ a' w' (by simp [hl]) ?_ (by rw [← hset]; exact h)
      have := left_set l j (by omega) hj2.1 n
      rw [if_pos hjn] at this; omega
  refine go _ _ _ _ (by simp [hsz]) ?_ ?_
  · have : ∀ (l : Array Bool) n, left l n ≤ n := by
      intro l n
      induction n with
      | zero => simp [left]
      | succ n ih => simp only [left]; split <;> omega
    have := this (Array.replicate ops.size false) n; omega
  · obtain ⟨M, π, Tm, R, hdef, _⟩ := hr
    have hS : (fun i => (Array.replicate ops.size false).getD i true) = fun i => decide (n ≤ i) := by
      funext i
      simp only [Array.getD_eq_getD_getElem?, Array.getElem?_replicate]
      by_cases h : i < ops.size
      · rw [if_pos h]; simp; omega
      · rw [if_neg h]; simp; omega
    have R' : MemR C M π (getS L) { w with drawn := w.drawn + 1 } := R.drew
    -- the first that writes
    have first : ∀ d i, i + d = n → (∀ k, k < i → isW ops.toList ws k = false) → ∃ m, m ≤ n ∧ (∀ k, k < m → isW ops.toList ws k = false) ∧ (m < n → isW ops.toList ws m = true) := by
      intro d
      induction d with
      | zero => intro i h1 h2; exact ⟨i, by omega, h2, fun h => by omega⟩
      | succ d ih =>
        intro i h1 h2
        cases hi : isW ops.toList ws i with
        | true => exact ⟨i, by omega, h2, fun _ => hi⟩
        | false =>
          refine ih (i + 1) (by omega) (fun k hk => ?_)
          by_cases e : k = i
          · rw [e]; exact hi
          · exact h2 k (by omega)
    obtain ⟨m, m1, m2, m3⟩ := first n 0 (by omega) (fun k hk => by omega)
    rw [hS]
    have hpre := tr_prefix tr hn.symm (i := 0) m (Nat.zero_le _) m1 (fun k _ hk => m2 k hk)
    refine ⟨M, π, getS L, m, m1, fun k hk1 hk2 => ?_, fun h => ⟨m3 h, by simp; omega⟩, ⟨fun q hq => ?_, fun i hi q i2 i3 => ⟨fun hs => ?_, fun hs => ?_⟩, fun q hq => ?_⟩, ?_, R', hdef, ⟨fun j o hj ho => ?_⟩⟩
    · rw [m2 k hk1] at hk2; cases hk2
    · rw [hpre q hq, e2]
    · simp at hs; omega
    · have := tr_mono tr hn.symm i 0 (Nat.zero_le _) (by omega)
      exact getS_none (by rw [hn0]; omega)
    · have := tr_mono tr hn.symm m 0 (Nat.zero_le _) (by omega)
      exact getS_none (by rw [hn0]; omega)
    · have : ∀ i, i ≤ n → tx ops.toList (T 0) V (fun i => decide (n ≤ i)) i = T 0 := by
        intro i
        induction i with
        | zero => intro _; rfl
        | succ i ih =>
          intro hi
          simp only [tx]
          rw [if_neg (by simp; omega)]; exact ih (by omega)
      rw [this n (Nat.le_refl _), e1]; exact Tm
    · have : j < ops.toList.length := (List.getElem?_eq_some_iff.1 ho).1
      simp at hj this; omega

/-! ### Code -/

/-- What comes out of a piece of code. -/
def OutE (C : Ctx) (Q : AExit → List AVal → List Slot → Prop) : Exit → Act → World → Prop
  | .normal, a, w => ∃ t L, RelE C t L a w ∧ Q .normal t L
  | .ret, a, w => ∃ t L, RelE C t L a w ∧ Q .ret t L
  | .exit id, a, w => ∃ t L, RelE C t L a w ∧ Q (.exit id) t L
  | _, _, _ => False

theorem awp_sound (hR : SoundR P Rt) (hm : P.follows .mixedOrders = true) (hl0 : ∀ i, C.k ≤ i → C.l0 i = .hole) : ∀ (c : Code) (Q : AExit → List AVal → List Slot → Prop) (t : List AVal) (L : List Slot) (a : Act) (w : World),
    RelE C t L a w → awp ⟨P, Rt, C.k⟩ c t L Q → c.wp P (OutE C Q) a w := by
  intro c
  induction c with
  | skip => intro Q t L a w hr h; exact wp_skip ⟨t, L, hr, h⟩
  | label l => intro Q t L a w hr h; exact wp_label ⟨t, L, hr, h⟩
  | ret => intro Q t L a w hr h; exact wp_ret ⟨t, L, hr, h⟩
  | exit id => intro Q t L a w hr h; exact wp_exit ⟨t, L, hr, h⟩
  | region id ops draw =>
    intro Q t L a w hr h
    simp only [awp] at h
    split at h
    · rename_i hd
      subst hd
      obtain ⟨ws, h1, h2, h3⟩ := h
      exact draw_sound hR hm h1 h2 (fun t L a w hr hk => ⟨t, L, hr, hk⟩) hr h3.1 h3.2
    · rename_i hd
      have : draw = false := by simpa using hd
      subst this
      refine wp_region ?_
      have := aops_sound hR (ops := ops) (Q := OutE C Q) (fun t L a w hr hk => ⟨t, L, hr, hk⟩) ops.toList 0 rfl t L a w hr h
      rw [List.range_eq_range']; simpa using this
  | seq x y ihx ihy =>
    intro Q t L a w hr h
    simp only [awp] at h
    refine wp_seq (wp_mono (ihx _ t L a w hr h) ?_)
    intro e a' w' he
    cases e with
    | normal => obtain ⟨t', L', hr', hq⟩ := he; exact ihy Q t' L' a' w' hr' hq
    | ret => exact he
    | exit id => exact he
    | goto l => exact he.elim
    | panic ch => exact he.elim
    | outgrown => exact he.elim
  | cond c x y ihx ihy =>
    intro Q t L a w hr h
    simp only [awp] at h
    split at h
    · rename_i b hb
      have hv : a.eval c = .bool b := by
        obtain ⟨M, π, T, _⟩ := hr
        have := T.ev (a := a) c
        rw [hb] at this
        generalize a.eval c = q at this
        cases this with | imm h => cases h; rfl
      exact wp_cond_split hv (fun hb => ihx Q t L a w hr (h.1 hb)) (fun hb => ihy Q t L a w hr (h.2 hb))
    · exact h.elim
  | block id b ih =>
    intro Q t L a w hr h
    simp only [awp] at h
    refine wp_block (wp_mono (ih _ t L a w hr h) ?_)
    intro e a' w' he
    cases e with
    | normal => exact he
    | ret => exact he
    | exit j =>
      obtain ⟨t', L', hr', hq⟩ := he
      simp only [Exit.inBlock]
      simp only at hq
      split at hq
      · rename_i hj; rw [if_pos hj]; exact ⟨t', L', hr', hq⟩
      · rename_i hj; rw [if_neg hj]; exact ⟨t', L', hr', hq⟩
    | goto l => exact he.elim
    | panic ch => exact he.elim
    | outgrown => exact he.elim
  | loop b ih =>
    intro Q t L a w hr h
    simp only [awp] at h
    obtain ⟨I, n, gs, t', L', hg, hI, hround⟩ := h
    refine wp_loop_ghost (fun n a w => ∃ t L, RelE C t L a w ∧ I n t L) n ⟨t', L', ghosts_sound hl0 gs hr hg, hI⟩ ?_
    rintro n a w ⟨t, L, hr, hI⟩
    refine wp_mono (ih _ t L a w hr (hround n t L hI)) ?_
    intro e a' w' he
    cases e with
    | normal =>
      obtain ⟨t', L', hr', m, gs, t2, L2, hg, hI2, hlt⟩ := he
      exact ⟨m, hlt, t2, L2, ghosts_sound hl0 gs hr' hg, hI2⟩
    | ret => exact he
    | exit id => exact he
    | goto l => exact he.elim
    | panic ch => exact he.elim
    | outgrown => exact he.elim
  | _ => intro Q t L a w hr h; exact h.elim

/-! ### Functions -/

theorem resA_sound {M : Mem} {π : Plc} {t : List AVal} {L : List Slot} {a : Act} (T : TmpR M π (getS L) t a.tmps) (R : MemR C M π (getS L) w) : ∀ (rs : List ResultVar) {p : Prop} {vs : List AVal}, resA P t L rs = some (p, vs) → p →
    ∃ cvs : List Value, (rs.mapM (m := Sem) fun
      | .tmp t => pure (a.tmps.getD t undef)
      | .cell x ty => do loadVar ty (← asAddr (a.tmps.getD x undef))).run P w = .ok cvs w ∧ cvs.length = vs.length ∧ ∀ i b, vs[i]? = some b → VR M π (getS L) b (cvs.getD i undef)
  | [], p, vs, h, hp => by
    simp only [resA, Option.some.injEq, Prod.mk.injEq] at h
    obtain ⟨rfl, rfl⟩ := h
    exact ⟨[], by simp [Sem.run_pure], rfl, fun i b h => by simp at h⟩
  | .tmp x :: rs, p, vs, h, hp => by
    simp only [resA] at h
    split at h <;> cases h
    rename_i vs hr
    obtain ⟨cvs, h1, h2, h3⟩ := resA_sound T R rs hr hp
    refine ⟨a.tmps.getD x undef :: cvs, ?_, by simp [h2], fun i b hi => ?_⟩
    · simp only [List.mapM_cons, Sem.run_bind, Sem.run_pure, Result.andThen_ok]
      rw [h1]; simp [Sem.run_pure]
    · cases i with
      | zero => simp at hi; subst hi; simpa using T.get x
      | succ i => simpa using h3 i b (by simpa using hi)
  | .cell x ty :: rs, p, vs, h, hp => by
    simp only [resA] at h
    split at h <;> cases h
    rename_i p1 v1 q vs hl hr
    obtain ⟨cvs, h1, h2, h3⟩ := resA_sound T R rs hr hp.2
    obtain ⟨cv, g1, g2⟩ := loadA_sound R (sub_self L) (T.get x) hl hp.1
    refine ⟨cv :: cvs, ?_, by simp [h2], fun i b hi => ?_⟩
    · simp only [List.mapM_cons, Sem.run_bind]
      have hv := T.get (π := π) x
      generalize hq : a.tmps.getD x undef = q at g1 hv ⊢
      have hcase : ∃ ad, q = .pointer (some ad) := by
        unfold loadA at hl
        split at hl
        · rename_i s o hx
          rw [hx] at hv
          obtain ⟨e, c, _, _, rfl⟩ := live_ptr (sub_self L) hv (by split at hl <;> cases hl <;> exact hp.1.2.1)
          exact ⟨_, rfl⟩
        · rename_i c hx
          rw [hx] at hv; cases hv; exact ⟨_, rfl⟩
        · cases hl
      obtain ⟨ad, rfl⟩ := hcase
      simp only [Instr.loadAt, Instr.sureAddr, Sem.run_bind, Sem.run_pure, Result.andThen_ok] at g1
      have ha : (asAddr (.pointer (some ad))).run P w = .ok ad w := by simp [asAddr, Sem.run_pure]
      simp only [Sem.run_bind, ha, Result.andThen_ok, g1]
      rw [h1]; simp [Sem.run_pure]
    · cases i with
      | zero => simp at hi; subst hi; simpa using g2
      | succ i => simpa using h3 i b (by simpa using hi)

theorem padT_length : ∀ n, (padT n).length = n
  | 0 => rfl
  | n + 1 => by simp [padT, padT_length n]

theorem padT_get : ∀ {n i : Nat} {a : AVal}, (padT n)[i]? = some a → a = und
  | 0, i, a, h => by simp [padT] at h
  | n + 1, 0, a, h => by simp [padT] at h; exact h.symm
  | n + 1, i + 1, a, h => padT_get (by simpa [padT] using h)

theorem body_sound (hR : SoundR P Rt) (hm : P.follows .mixedOrders = true) : SoundR P (body P Rt) := by
  intro f as Lin r out h
  obtain ⟨fn, code, hf, hb, hname, hlen, hwp⟩ := h
  refine ⟨⟨fn, hf, hname, by rw [hb]; rfl⟩, fun w M π cas hcas hst => ?_⟩
  have hsz : cas.size = as.length := hcas.1.symm
  refine calls_of_wp hf hb ?_
  let C : Ctx := ⟨w, Lin.length, π, getS Lin, M⟩
  have hl0 : ∀ i, C.k ≤ i → C.l0 i = .hole := fun i hi => getS_none hi
  have hst0 : MemR C M π (getS Lin) w := by
    have hlent : ∀ s e c, getS Lin s = .obj e c → c ≠ [] → C.lent (π s).b := by
      intro s e c h1 h2
      refine ⟨s, e, c, ?_, h1, h2, rfl⟩
      rcases Nat.lt_or_ge s Lin.length with h | h
      · exact h
      · rw [getS_none h] at h1; cases h1
    exact ⟨hst.objs, hst.dist, hst.prot, hst.mem, fun _ _ _ => rfl, fun _ _ _ h => h, fun s e c h1 h2 => .inr (hlent s e c h1 h2), fun _ _ _ => rfl, Nat.le_refl _, rfl, rfl, rfl, Step.refl _ _⟩
  have hrel : RelE C (as ++ padT (fn.ntmps - as.length)) Lin { tmps := cas ++ Array.replicate (fn.ntmps - cas.size) undef, defers := [] } w := by
    refine ⟨M, π, ⟨by simp [padT_length, hsz], fun i b hi => ?_⟩, hst0, rfl, Nat.le_refl _⟩
    rcases Nat.lt_or_ge i as.length with h | h
    · rw [List.getElem?_append_left h] at hi
      have := hcas.2 i b hi
      rw [Array.getD_eq_getD_getElem?] at this ⊢
      rw [Array.getElem?_append_left (by omega)]; exact this
    · rw [List.getElem?_append_right h] at hi
      rw [padT_get hi]
      have : (cas ++ Array.replicate (fn.ntmps - cas.size) undef).getD i undef = undef := by
        rw [Array.getD_eq_getD_getElem?, Array.getElem?_append_right (by omega), Array.getElem?_replicate]
        split <;> rfl
      rw [this]; exact VR.und _ _ _
  refine wp_mono (awp_sound hR hm hl0 code _ _ _ _ _ hrel hwp) ?_
  have fin : ∀ (t : List AVal) (L : List Slot) (a' : Act) (w' : World), RelE C t L a' w' → (∃ gs t' L' p vs gs2, ghosts Lin.length gs t L = some (t', L') ∧ resA P t' L' fn.results.toList = some (p, vs) ∧ p ∧ ghosts Lin.length gs2 [oneOr vs] L' = some ([r], out)) →
      a'.defers = [] ∧ ∃ v, (results fn a'.tmps).run P w' = .ok v w' ∧ (∃ v', Ending.returned v = .returned v' ∧ ∃ M' π', VR M' π' (getS out) r v' ∧ MemR C M' π' (getS out) w') := by
    rintro t L a' w' hr ⟨gs, t', L', p, vs, gs2, h1, h2, h3, h4⟩
    obtain ⟨M', π', T, R, hd, hkk⟩ := ghosts_sound hl0 gs hr h1
    obtain ⟨cvs, g1, g2, g3⟩ := resA_sound T R _ h2 h3
    refine ⟨hd, ?_⟩
    have hrun : (results fn a'.tmps).run P w' = .ok (if h : cvs.toArray.size = 1 then cvs.toArray[0] else .tuple cvs.toArray) w' := by
      unfold results
      rw [Array.mapM_eq_mapM_toList]
      simp only [map_eq_pure_bind, bind_assoc, Sem.run_bind, Sem.run_pure]
      erw [g1]; rfl
    have hres : VR M' π' (getS L') (oneOr vs) (if h : cvs.toArray.size = 1 then cvs.toArray[0] else .tuple cvs.toArray) := by
      unfold oneOr
      split
      · rename_i b
        cases cvs with
        | nil => simp at g2
        | cons x r =>
          cases r with
          | nil => simpa using g3 0 b rfl
          | cons y r => simp at g2
      · rename_i hne
        rw [dif_neg (by
          intro h
          match vs, g2 with
          | [], g2 => simp at h; rw [h] at g2; simp at g2
          | [b], _ => exact hne b rfl
          | a :: b :: r, g2 => simp at h; rw [h] at g2; simp at g2)]
        exact .tup vs cvs.toArray (by simp [g2]) (fun i b hi => by simpa [Array.getD_eq_getD_getElem?] using g3 i b hi)
    generalize (if h : cvs.toArray.size = 1 then cvs.toArray[0] else .tuple cvs.toArray) = v at hrun hres
    have hrel2 : RelE C [oneOr vs] L' ⟨#[v], []⟩ w' := ⟨M', π', ⟨rfl, fun i b hi => by
      cases i with
      | zero => simp at hi; subst hi; exact hres
      | succ i => simp at hi⟩, R, rfl, hkk⟩
    obtain ⟨M2, π2, T2, R2, _, _⟩ := ghosts_sound hl0 gs2 hrel2 h4
    exact ⟨v, hrun, v, rfl, M2, π2, T2.2 0 r rfl, R2⟩
  intro e a' w' he
  cases e with
  | normal => obtain ⟨t, L, hr, _, hx⟩ := he; exact fin t L a' w' hr hx
  | ret => obtain ⟨t, L, hr, _, hx⟩ := he; exact fin t L a' w' hr hx
  | exit id => obtain ⟨t, L, hr, hx, _⟩ := he; exact hx.elim
  | goto l => exact he.elim
  | panic ch => exact he.elim
  | outgrown => exact he.elim

theorem Ret_sound (hm : P.follows .mixedOrders = true) : ∀ d, SoundR P (Ret P d)
  | 0 => fun _ _ _ _ _ h => h.elim
  | d + 1 => body_sound (Ret_sound hm d) hm

end
end Go.Abs
