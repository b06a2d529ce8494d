/- Regions in the text's order; what is done without an operation. -/
import Derived.Test.YtbleionbmdpmeaaAbsI
set_option linter.unusedVariables false
set_option linter.unusedSimpArgs false
namespace Go.Abs
section
variable {M : Mem} {π : Plc} {l : Sl} {L : List Slot} {C : Ctx} {w : World} {P : Program}

theorem sub_self (L : List Slot) : Sub L (getS L) := fun i _ => .inr rfl

theorem RelE.of_after {t : List AVal} {L' : List Slot} {a : Act} (hk : C.k ≤ L.length) (h : After C M π (getS L) L L' t [] a w) : RelE C t L' a w := by
  obtain ⟨M', π', l', h1, h2, h3, h4, h5, h6⟩ := h
  have := h1.eq
  subst this
  exact ⟨M', π', h5, h2, h6, Nat.le_trans hk h1.len⟩

/-- An unwanted operation, or a wanted one. -/
theorem wants_sound {ops : Array Oper} {t : List AVal} {a : Act} (T : TmpR M π l t a.tmps) {o : Oper} {g : Nat × Bool} (hg : o.guard = some g) {yes no : Prop} (h : wants ops.toList t g yes no) :
    (Region.wanted o (yielded ops a.tmps) = true ∧ yes) ∨ (Region.wanted o (yielded ops a.tmps) = false ∧ no) := by
  obtain ⟨j, want⟩ := g
  unfold wants at h
  simp only [Region.wanted, hg]
  split at h
  · rename_i d hd
    obtain ⟨y1, y2⟩ := yields_some (ops := ops) T hd
    split at h
    · rename_i b hb
      rw [y1 b hb]
      by_cases e : b = want
      · exact .inl ⟨by simp [e], h.1 e⟩
      · exact .inr ⟨by simp [e], h.2 (by cases b <;> cases want <;> simp at e ⊢)⟩
    · rename_i hb
      rw [y2 hb]; exact .inr ⟨by simp, h⟩
    · exact h.elim
  · rename_i hd
    rw [yields_none hd]; exact .inr ⟨by simp, h⟩

theorem RelE.skip {t : List AVal} {a : Act} (h : RelE C t L a w) (d : Option Nat) : RelE C (putD t d und) L (a.put d undef) w := by
  obtain ⟨M, π, h1, h2, h3, h4⟩ := h
  refine ⟨M, π, ?_, h2, by cases d <;> exact h3, h4⟩
  exact h1.put (.und _ _ _) d a.defers

theorem aops_sound {Rt : Rets} (hR : SoundR P Rt) {ops : Array Oper} {K : List AVal → List Slot → Prop} {Q : Exit → Act → World → Prop}
    (hK : ∀ t L a w, RelE C t L a w → K t L → Q .normal a w) : ∀ (rest : List Oper) (i : Nat), ops.toList.drop i = rest → ∀ (t : List AVal) (L : List Slot) (a : Act) (w : World), RelE C t L a w →
      aops P Rt ops.toList rest t L K → wpOps P ops Q (List.range' i rest.length) a w
  | [], i, hd, t, L, a, w, hr, h => hK t L a w hr h
  | o :: rest, i, hd, t, L, a, w, hr, h => by
    have ho : ops[i]? = some o := by
      have := congrArg (fun l => l[0]?) hd
      simp only [List.getElem?_drop, Nat.add_zero, List.getElem?_cons_zero] at this
      simpa using this
    have hd' : ops.toList.drop (i + 1) = rest := by rw [← List.drop_drop, hd]; rfl
    have ih := aops_sound hR hK rest (i + 1) hd'
    simp only [List.length_cons, List.range'_succ, wpOps, ho]
    obtain ⟨M, π, T, R, hdef, hk⟩ := hr
    have yes : aop P Rt L.length true o.op t L (fun v L' => aops P Rt ops.toList rest (putD t o.dst v) L' K) → o.wp P a w (wpOps P ops Q (List.range' (i + 1) rest.length)) Q := by
      intro h
      obtain ⟨v, L', h1, h2⟩ := aop_sound hR T R (sub_self L) hk (fun i hi => getS_none hi) (fun i _ => rfl) (Nat.le_refl _) o h (Q := Q)
      refine Oper.wp_mono (fun a' w' ha => ?_) h2
      rw [hdef] at ha
      exact ih _ _ _ _ (RelE.of_after hk ha) h1
    simp only [aops] at h
    split at h
    · rename_i hg
      have : Region.wanted o (yielded ops a.tmps) = true := by simp [Region.wanted, hg]
      rw [if_pos this]
      exact .inl (yes h)
    · rename_i g hg
      rcases wants_sound (ops := ops) T hg h with ⟨h1, h2⟩ | ⟨h1, h2⟩
      · rw [if_pos h1]; exact .inl (yes h2)
      · rw [if_neg (by rw [h1]; simp)]
        exact ih _ _ _ _ (RelE.skip ⟨M, π, T, R, hdef, hk⟩ _) h2

/-! ### Ghosts -/

theorem maskT_get : ∀ (t : List AVal) (i : Nat) (ks : List Nat), (maskT i ks t).length = t.length ∧ ∀ (j : Nat) (a : AVal), (maskT i ks t)[j]? = some a → a = .any ∨ t[j]? = some a
  | [], i, ks => by simp [maskT]
  | b :: t, i, [] => by
    obtain ⟨h1, h2⟩ := maskT_get t (i + 1) []
    refine ⟨by simp [maskT, h1], fun j a hj => ?_⟩
    simp only [maskT] at hj
    cases j with
    | zero => simp at hj; exact .inl hj.symm
    | succ j => simpa using h2 j a (by simpa using hj)
  | b :: t, i, k :: ks => by
    simp only [maskT]
    split
    · obtain ⟨h1, h2⟩ := maskT_get t (i + 1) ks
      refine ⟨by simp [h1], fun j a hj => ?_⟩
      cases j with
      | zero => simp at hj; exact .inr (by simp [hj])
      | succ j => simpa using h2 j a (by simpa using hj)
    · obtain ⟨h1, h2⟩ := maskT_get t (i + 1) (k :: ks)
      refine ⟨by simp [h1], fun j a hj => ?_⟩
      cases j with
      | zero => simp at hj; exact .inl hj.symm
      | succ j => simpa using h2 j a (by simpa using hj)

theorem posO_get : ∀ {ρ : List (Option Nat)} {s j : Nat}, posO ρ s = some j → ρ[j]? = some (some s)
  | [], s, j, h => by simp [posO] at h
  | some a :: ρ, s, j, h => by
    simp only [posO] at h
    split at h
    · rename_i e; cases h; subst e; rfl
    · cases hq : posO ρ s with
      | none => rw [hq] at h; cases h
      | some i => rw [hq] at h; cases h; simpa using posO_get hq
  | none :: ρ, s, j, h => by
    simp only [posO] at h
    cases hq : posO ρ s with
    | none => rw [hq] at h; cases h
    | some i => rw [hq] at h; cases h; simpa using posO_get hq

theorem moveS_get (σ : Nat → Option Nat) (L : List Slot) : ∀ (ρ : List (Option Nat)) (j : Nat), getS (moveS σ L ρ) j = match ρ[j]? with | some (some s) => renS σ (getS L s) | some none => .dead | none => .hole
  | [], j => by simp [moveS, getS]
  | some s :: ρ, 0 => by simp [moveS, getS]
  | none :: ρ, 0 => by simp [moveS, getS]
  | some s :: ρ, j + 1 => by simp only [moveS, getS, List.getElem?_cons_succ]; exact moveS_get σ L ρ j
  | none :: ρ, j + 1 => by simp only [moveS, getS, List.getElem?_cons_succ]; exact moveS_get σ L ρ j

theorem moveS_length (σ : Nat → Option Nat) (L : List Slot) : ∀ (ρ : List (Option Nat)), (moveS σ L ρ).length = ρ.length
  | [] => rfl
  | some s :: ρ => by simp [moveS, moveS_length σ L ρ]
  | none :: ρ => by simp [moveS, moveS_length σ L ρ]

theorem inj_of_nodup : ∀ {ρ : List (Option Nat)} {i j s : Nat}, (ρ.filterMap id).Nodup → ρ[i]? = some (some s) → ρ[j]? = some (some s) → i = j
  | [], i, j, s, _, h, _ => by simp at h
  | x :: ρ, 0, 0, s, _, _, _ => rfl
  | x :: ρ, 0, j + 1, s, hn, h1, h2 => by
    simp at h1 h2; subst h1
    simp only [List.filterMap_cons, id, List.nodup_cons] at hn
    exact (hn.1 (List.mem_filterMap.2 ⟨some s, List.mem_of_getElem? h2, rfl⟩)).elim
  | x :: ρ, i + 1, 0, s, hn, h1, h2 => by
    simp at h1 h2; subst h2
    simp only [List.filterMap_cons, id, List.nodup_cons] at hn
    exact (hn.1 (List.mem_filterMap.2 ⟨some s, List.mem_of_getElem? h1, rfl⟩)).elim
  | x :: ρ, i + 1, j + 1, s, hn, h1, h2 => by
    simp at h1 h2
    have : (ρ.filterMap id).Nodup := by
      cases x with
      | none => simpa using hn
      | some a => simp only [List.filterMap_cons, id, List.nodup_cons] at hn; exact hn.2
    rw [inj_of_nodup this h1 h2]

theorem ghost_re {t : List AVal} {a : Act} (h : RelE C t L a w) {ρ : List (Option Nat)} (hρ : okRe C.k ρ = true) (hl0 : ∀ i, C.k ≤ i → C.l0 i = .hole) : RelE C (rens (posO ρ) t) (moveS (posO ρ) L ρ) a w := by
  obtain ⟨M, π, T, R, hd, hk⟩ := h
  simp only [okRe, Bool.and_eq_true, decide_eq_true_eq, List.all_eq_true, List.mem_range, Bool.or_eq_true] at hρ
  obtain ⟨⟨hnd, hlen⟩, hfix⟩ := hρ
  let π' : Plc := fun j => match ρ[j]? with | some (some s) => π s | _ => π j
  have hgo : ∀ s s', posO ρ s = some s' → Goes π π' (getS L) (getS (moveS (posO ρ) L ρ)) s s' := by
    intro s s' hs
    have hg := posO_get hs
    have hm : getS (moveS (posO ρ) L ρ) s' = renS (posO ρ) (getS L s) := by rw [moveS_get, hg]
    have : π' s' = π s := by simp only [π', hg]
    unfold Goes
    rw [hm, this]
    cases getS L s with
    | hole => trivial
    | dead => rfl
    | obj e c => exact .inl ⟨_, rfl, rens_nil _ c, rfl⟩
  have inv : ∀ j e c, getS (moveS (posO ρ) L ρ) j = .obj e c → ∃ s d, ρ[j]? = some (some s) ∧ getS L s = .obj e d ∧ c = rens (posO ρ) d ∧ π' j = π s := by
    intro j e c h
    rw [moveS_get] at h
    split at h
    · rename_i s hs
      obtain ⟨d, h1, h2⟩ := renS_obj h
      exact ⟨s, d, hs, h1, h2, by simp only [π', hs]⟩
    · cases h
    · cases h
  have hne : ∀ {d : List AVal}, rens (posO ρ) d ≠ [] → d ≠ [] := fun h h' => h ((rens_nil _ _).1 h')
  refine ⟨M, π', ?_, ?_, hd, by rw [moveS_length]; exact hlen⟩
  · refine ⟨by rw [rens_length]; exact T.1, fun i b hi => ?_⟩
    rw [rens_get] at hi
    cases hx : t[i]? with
    | none => rw [hx] at hi; cases hi
    | some x => rw [hx] at hi; cases hi; exact (T.2 i x hx).ren (fun _ _ _ h => h) hgo
  · refine ⟨fun j e c hj hc => ?_, fun i j e e' c c' h1 h2 n1 n2 hb => ?_, fun j e c hj hc o ho => ?_, R.mem, R.m0, R.m00, fun j e c hj hc => ?_, R.stay, R.size, R.os, R.tape, R.output, fun i => ?_⟩
    · obtain ⟨s, d, g1, g2, rfl, g4⟩ := inv j e c hj
      exact (R.objs s e d g2 (hne hc)).ren (fun b v _ hv => hv.ren (fun _ _ _ h => h) hgo) g4 rfl
    · obtain ⟨s, d, g1, g2, rfl, g4⟩ := inv i e c h1
      obtain ⟨s', d', k1, k2, rfl, k4⟩ := inv j e' c' h2
      rw [g4, k4] at hb
      have := R.dist s s' _ _ _ _ g2 k2 (hne n1) (hne n2) hb
      subst this
      exact inj_of_nodup hnd g1 k1
    · obtain ⟨s, d, g1, g2, rfl, g4⟩ := inv j e c hj
      rw [g4] at ho ⊢; exact R.prot s e d g2 (hne hc) o ho
    · obtain ⟨s, d, g1, g2, rfl, g4⟩ := inv j e c hj
      rw [g4]; exact R.own s e d g2 (hne hc)
    · rcases Nat.lt_or_ge i C.k with hi | hi
      · have h2 := R.stp i
        have hx := hfix i hi
        rcases hx with hx | hx
        · have hx' : ρ[i]? = some none := by simpa using hx
          have hm : getS (moveS (posO ρ) L ρ) i = .dead := by rw [moveS_get, hx']
          rw [hm]
          cases h0 : C.l0 i with
          | hole => trivial
          | dead => rfl
          | obj e c => exact .inr rfl
        · have hx' : ρ[i]? = some (some i) := by simpa using hx
          have hm : getS (moveS (posO ρ) L ρ) i = renS (posO ρ) (getS L i) := by rw [moveS_get, hx']
          have hπ : π' i = π i := by simp only [π', hx']
          rw [hm]
          cases h0 : C.l0 i with
          | hole => trivial
          | dead => rw [h0] at h2; simp only at h2; rw [h2]; rfl
          | obj e c =>
            rw [h0] at h2
            rcases h2 with ⟨c', k1, k2, k3⟩ | k1
            · exact .inl ⟨rens (posO ρ) c', by rw [k1]; rfl, k2.trans (rens_nil _ c'), by rw [hπ, k3]⟩
            · exact .inr (by rw [k1]; rfl)
      · rw [hl0 i hi]; trivial

theorem frzAs_get (s e : Nat) (c : List AVal) : ∀ (l : List AVal) (i : Nat), (frzAs s e c l)[i]? = (l[i]?).map (frzA s e c)
  | [], i => by simp [frzAs]
  | a :: l, 0 => by simp [frzAs]
  | a :: l, n + 1 => by simpa [frzAs] using frzAs_get s e c l n

theorem frzAs_length (s e : Nat) (c : List AVal) : ∀ (l : List AVal), (frzAs s e c l).length = l.length
  | [] => by simp [frzAs]
  | a :: l => by simp [frzAs, frzAs_length s e c l]

theorem frzAs_nil (s e : Nat) (c l : List AVal) : l = [] ↔ frzAs s e c l = [] := by cases l <;> simp [frzAs]

theorem frzL_get (s e : Nat) (c : List AVal) : ∀ (L : List Slot) (i : Nat), getS (frzL s e c L) i = frzS s e c (getS L i)
  | [], i => by simp [frzL, getS, frzS]
  | x :: L, 0 => by simp [frzL, getS]
  | x :: L, n + 1 => by simpa [frzL, getS] using frzL_get s e c L n

theorem frzL_length (s e : Nat) (c : List AVal) : ∀ (L : List Slot), (frzL s e c L).length = L.length
  | [] => rfl
  | x :: L => by simp [frzL, frzL_length s e c L]

theorem ghost_frz {t : List AVal} {a : Act} (h : RelE C t L a w) {s e : Nat} {c : List AVal} (hs : getS L s = .obj e c) : RelE C (frzAs s e c t) (frzL s e c (setS L s .dead)) a w := by
  classical
  obtain ⟨M, π, T, R, hd, hk⟩ := h
  let M' : Mem := fun b o => if b = (π s).b ∧ (π s).o ≤ o ∧ c ≠ [] then w.cell? ⟨b, o, none⟩ else M b o
  have hsl : s < L.length := by
    rcases Nat.lt_or_ge s L.length with h | h
    · exact h
    · rw [getS_none h] at hs; cases hs
  have hM : ∀ b o v, M b o = some v → M' b o = some v := by
    intro b o v h
    simp only [M']
    split
    · rename_i hc
      obtain ⟨h1, h2, h3⟩ := hc
      subst h1
      rw [R.prot s e c hs h3 o h2] at h; cases h
    · exact h
  have hl : ∀ i, getS (frzL s e c (setS L s .dead)) i = if i = s then .dead else frzS s e c (getS L i) := by
    intro i
    rw [frzL_get]
    by_cases h : i = s
    · subst h; rw [if_pos rfl, getS_set_same hsl]; rfl
    · rw [if_neg h, getS_set_other L (Ne.symm h)]
  have hstep : Step π π (getS L) (getS (frzL s e c (setS L s .dead))) := by
    intro i
    rw [hl]
    by_cases h : i = s
    · subst h; rw [if_pos rfl, hs]; exact .inr rfl
    · rw [if_neg h]
      cases getS L i with
      | hole => trivial
      | dead => rfl
      | obj e' d => exact .inl ⟨_, rfl, frzAs_nil s e c d, rfl⟩
  have hcell : ∀ o v, c ≠ [] → (π s).o ≤ o → w.cell? ⟨(π s).b, o, none⟩ = some v → M' (π s).b o = some v := by
    intro o v hc ho hv
    show (if _ then _ else _) = _
    rw [if_pos ⟨rfl, ho, hc⟩]; exact hv
  have hrefc : ∀ {s' off n : Nat} {v : Value}, VR M π (getS L) (.ref s' off n) v → VR M' π (getS (frzL s e c (setS L s .dead))) (frzA s e c (.ref s' off n)) v := by
    intro s' off n v hv
    simp only [frzA]
    split
    · rename_i h; subst h
      split
      · rename_i a' ha
        by_cases hc : c = []
        · subst hc
          simp only [viewC, Option.some.injEq] at ha
          subst ha
          cases hv with
          | refVoid _ _ _ b h1 => exact .imm (.void _)
          | ref _ _ _ e' x cap c' h1 hc' => rw [hs] at h1; injection h1 with h1 h2; exact (hc' h2.symm).elim
          | refDead _ _ _ _ h1 _ => rw [hs] at h1; cases h1
        · exact viewC_sound R hs hv hM (fun o v ho hv => hcell o v hc ho hv) ha
      · exact .any _
    · exact hv.mono hM hstep
  have hval : ∀ {x : AVal} {v : Value}, VR M π (getS L) x v → VR M' π (getS (frzL s e c (setS L s .dead))) (frzA s e c x) v := by
    intro x v hv
    have hv0 := hv
    induction hv with
    | imm h => exact .imm (h.mono hM)
    | agg as vs hn h ih =>
      refine .agg _ vs (by rw [frzAs_length]; exact hn) (fun i b hi => ?_)
      rw [frzAs_get] at hi
      cases hx : as[i]? with
      | none => rw [hx] at hi; cases hi
      | some y => rw [hx] at hi; cases hi; exact ih i y hx (h i y hx)
    | tup as vs hn h ih =>
      refine .tup _ vs (by rw [frzAs_length]; exact hn) (fun i b hi => ?_)
      rw [frzAs_get] at hi
      cases hx : as[i]? with
      | none => rw [hx] at hi; cases hi
      | some y => rw [hx] at hi; cases hi; exact ih i y hx (h i y hx)
    | clo f as bs vs ws hn hk' h h' ih ih' =>
      refine .clo f _ _ vs ws (by rw [frzAs_length]; exact hn) (by rw [frzAs_length]; exact hk') (fun i b hi => ?_) (fun i b hi => ?_)
      · rw [frzAs_get] at hi
        cases hx : as[i]? with
        | none => rw [hx] at hi; cases hi
        | some y => rw [hx] at hi; cases hi; exact ih i y hx (h i y hx)
      · rw [frzAs_get] at hi
        cases hx : bs[i]? with
        | none => rw [hx] at hi; cases hi
        | some y => rw [hx] at hi; cases hi; exact ih' i y hx (h' i y hx)
    | any v => exact .any v
    | iptr b o c' f hm hc => exact hv0.mono hM hstep
    | ptr s' off e' c' hs' => exact hv0.mono hM hstep
    | ptrDead s' off v hs' hv => exact hv0.mono hM hstep
    | ref s' off n e' x cap c' hs' hc hn hx hz => exact hrefc hv0
    | refVoid s' off e' a hs' => exact hrefc hv0
    | refDead s' off n v hs' hv => exact hrefc hv0
  have inv : ∀ i e' d, getS (frzL s e c (setS L s .dead)) i = .obj e' d → i ≠ s ∧ ∃ d', getS L i = .obj e' d' ∧ d = frzAs s e c d' := by
    intro i e' d h
    rw [hl] at h
    by_cases hi : i = s
    · rw [if_pos hi] at h; cases h
    · rw [if_neg hi] at h
      refine ⟨hi, ?_⟩
      cases hx : getS L i with
      | hole => rw [hx] at h; cases h
      | dead => rw [hx] at h; cases h
      | obj e1 d1 => rw [hx] at h; simp only [frzS, Slot.obj.injEq] at h; obtain ⟨rfl, rfl⟩ := h; exact ⟨d1, rfl, rfl⟩
  have hne : ∀ {d : List AVal}, frzAs s e c d ≠ [] → d ≠ [] := fun h h' => h ((frzAs_nil _ _ _ _).1 h')
  refine ⟨M', π, ?_, ?_, hd, by rw [frzL_length, setS_length]; exact hk⟩
  · refine ⟨by rw [frzAs_length]; exact T.1, fun i b hi => ?_⟩
    rw [frzAs_get] at hi
    cases hx : t[i]? with
    | none => rw [hx] at hi; cases hi
    | some x => rw [hx] at hi; cases hi; exact hval (T.2 i x hx)
  · refine ⟨fun j e' d hj hd' => ?_, fun i j e1 e2 c1 c2 h1 h2 n1 n2 hb => ?_, fun j e' d hj hd' o ho => ?_, fun b o v h => ?_, fun b hb hn => ?_, fun b o v h => hM b o v (R.m00 b o v h), fun j e' d hj hd' => ?_, R.stay, R.size, R.os, R.tape, R.output, R.stp.trans hstep⟩
    · obtain ⟨h1, d', h2, rfl⟩ := inv j e' d hj
      obtain ⟨cs, ty, k1, k2, k3, k4⟩ := R.objs j e' d' h2 (hne hd')
      refine ⟨cs, ty, k1, k2, by rw [frzAs_length]; exact k3, fun i b hi => ?_⟩
      rw [frzAs_get] at hi
      cases hx : d'[i]? with
      | none => rw [hx] at hi; cases hi
      | some x => rw [hx] at hi; cases hi; exact hval (k4 i x hx)
    · obtain ⟨_, d1, a2, rfl⟩ := inv i e1 c1 h1
      obtain ⟨_, d2, b2, rfl⟩ := inv j e2 c2 h2
      exact R.dist i j _ _ _ _ a2 b2 (hne n1) (hne n2) hb
    · obtain ⟨h1, d', h2, rfl⟩ := inv j e' d hj
      simp only [M']
      split
      · rename_i hc
        exact (h1 (R.dist j s _ _ _ _ h2 hs (hne hd') hc.2.2 hc.1)).elim
      · exact R.prot j e' d' h2 (hne hd') o ho
    · simp only [M'] at h
      split at h
      · exact h
      · exact R.mem b o v h
    · have : ∀ o, ¬ (b = (π s).b ∧ (π s).o ≤ o ∧ c ≠ []) := by
        rintro o ⟨rfl, _, hc⟩
        rcases R.own s e c hs hc with h | h
        · omega
        · exact hn h
      rw [← R.m0 b hb hn]
      funext o
      simp only [M']; rw [if_neg (this o)]
    · obtain ⟨h1, d', h2, rfl⟩ := inv j e' d hj
      exact R.own j e' d' h2 (hne hd')

theorem wkAs_get : ∀ (l : List AVal) (i : Nat), (wkAs l)[i]? = (l[i]?).map wkA
  | [], i => by simp [wkAs]
  | a :: l, 0 => by simp [wkAs]
  | a :: l, n + 1 => by simpa [wkAs] using wkAs_get l n

theorem wkAs_length : ∀ (l : List AVal), (wkAs l).length = l.length
  | [] => by simp [wkAs]
  | a :: l => by simp [wkAs, wkAs_length l]

theorem wkA_sound {x : AVal} {v : Value} (hv : VR M π l x v) : VR M π l (wkA x) v := by
  induction hv with
  | imm h =>
    unfold wkA
    split
    · rename_i hh; cases hh; cases h with
      | nil => exact .imm (.void _)
      | lst g b o n cap c f hg hn hm hc => rcases hg with h | h <;> cases h
    · rename_i hh; cases hh
    · rename_i hh; cases hh
    · exact .imm h
  | agg as vs hn h ih =>
    refine .agg _ vs (by rw [wkAs_length]; exact hn) (fun i b hi => ?_)
    rw [wkAs_get] at hi
    cases hx : as[i]? with
    | none => rw [hx] at hi; cases hi
    | some y => rw [hx] at hi; cases hi; exact ih i y hx
  | tup as vs hn h ih =>
    refine .tup _ vs (by rw [wkAs_length]; exact hn) (fun i b hi => ?_)
    rw [wkAs_get] at hi
    cases hx : as[i]? with
    | none => rw [hx] at hi; cases hi
    | some y => rw [hx] at hi; cases hi; exact ih i y hx
  | clo f as bs vs ws hn hk' h h' ih ih' => exact .clo f as bs vs ws hn hk' h h'
  | any v => exact .any v
  | iptr b o c' f hm hc => exact .iptr b o c' f hm hc
  | ptr s' off e' c' hs' => exact .ptr s' off e' c' hs'
  | ptrDead s' off v hs' hv => exact .ptrDead s' off v hs' hv
  | ref s' off n e' x cap c' hs' hc hn hx hz => exact .ref s' off n e' x cap c' hs' hc hn hx hz
  | refVoid s' off e' a hs' => exact .refVoid s' off e' a hs'
  | refDead s' off n v hs' hv => exact .refDead s' off n v hs' hv

theorem ghosts_sound (hl0 : ∀ i, C.k ≤ i → C.l0 i = .hole) : ∀ (gs : List Gh) {t t' : List AVal} {L L' : List Slot} {a : Act} {w : World}, RelE C t L a w → ghosts C.k gs t L = some (t', L') → RelE C t' L' a w
  | [], t, t', L, L', a, w, h, hg => by simp only [ghosts, Option.some.injEq, Prod.mk.injEq] at hg; obtain ⟨rfl, rfl⟩ := hg; exact h
  | g :: gs, t, t', L, L', a, w, h, hg => by
    simp only [ghosts] at hg
    split at hg <;> try (cases hg; done)
    rename_i t1 L1 h1
    refine ghosts_sound hl0 gs ?_ hg
    cases g with
    | mask ks =>
      simp only [ghost, Option.some.injEq, Prod.mk.injEq] at h1
      obtain ⟨rfl, rfl⟩ := h1
      obtain ⟨M, π, T, R, hd, hk⟩ := h
      obtain ⟨g1, g2⟩ := maskT_get t 0 ks
      refine ⟨M, π, ⟨by rw [g1]; exact T.1, fun i b hi => ?_⟩, R, hd, hk⟩
      rcases g2 i b hi with rfl | h2
      · exact .any _
      · exact T.2 i b h2
    | re ρ =>
      simp only [ghost] at h1
      split at h1 <;> cases h1
      rename_i hok
      exact ghost_re h hok hl0
    | frz s =>
      simp only [ghost] at h1
      split at h1 <;> cases h1
      rename_i e c hs
      exact ghost_frz h hs
    | weak =>
      simp only [ghost, Option.some.injEq, Prod.mk.injEq] at h1
      obtain ⟨rfl, rfl⟩ := h1
      obtain ⟨M, π, T, R, hd, hk⟩ := h
      refine ⟨M, π, ⟨by rw [wkAs_length]; exact T.1, fun i b hi => ?_⟩, R, hd, hk⟩
      rw [wkAs_get] at hi
      cases hx : t[i]? with
      | none => rw [hx] at hi; cases hi
      | some x => rw [hx] at hi; cases hi; exact wkA_sound (T.2 i x hx)

end
end Go.Abs
