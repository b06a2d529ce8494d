/- One operation after the other, in the text's order. -/
import Derived.Test.YtbleionbmdpmeaaAbsH
set_option linter.unusedVariables false
set_option linter.unusedSimpArgs false
namespace Go.Abs

/-- What an operation comes to: its value, and the slots behind it. -/
inductive Aeff (P : Program) (R : Rets) (n0 : Nat) (ρ : Operand → AVal) (L : List Slot) : Op → AVal → List Slot → Prop
  | rv {op : Op} {p : Prop} {v : AVal} (h : rv P ρ L op = some (p, v)) (hp : p) : Aeff P R n0 ρ L op v L
  | wv {op : Op} {p : Prop} {v : AVal} {L' : List Slot} (h : wv P ρ L op = some (p, v, L')) (hp : p) : Aeff P R n0 ρ L op v L'
  | call {f : Operand} {args : Array Operand} {at_ : Array TypeId} {g : Nat} {x y : List AVal} (hf : ρ f = .clo g x y) {ps : List Nat} {soft : Bool} {as' : List AVal} {r : AVal} {out : List Slot}
      (hnd : ps.Nodup) (hps : ∀ p ∈ ps, p < n0 ∧ getS L p ≠ .hole) (hv : if soft = true then viewArgs L ps (x ++ mapO ρ args.toList ++ y) = some as' else as' = x ++ mapO ρ args.toList ++ y)
      (hr : R g (rens (idx ps) as') (lend L ps ps) r out) (hlen : ps.length ≤ out.length) (hplain : soft = true → plainA r = true ∧ plainSs out = true) :
      Aeff P R n0 ρ L (.call ⟨.value f, args, at_⟩) (ren (outσ ps L.length) r) (giveBack (outσ ps L.length) L ps out)

theorem aeff_of_aop {P : Program} {R : Rets} {n0 : Nat} {op : Op} {t : List AVal} {L : List Slot} {K : AVal → List Slot → Prop} (h : aop P R n0 false op t L K) : ∃ v L', Aeff P R n0 (ev t) L op v L' ∧ K v L' := by
  unfold aop at h
  split at h
  · rename_i p v hr; exact ⟨v, L, .rv hr h.1, h.2⟩
  · split at h
    · rename_i p v L' hw; exact ⟨v, L', .wv hw h.1, h.2⟩
    · split at h
      · rename_i f args at_
        split at h
        · rename_i g x y hf
          obtain ⟨ps, soft, as', r, out, h1, h2, h3, h4, h5, h6, h7⟩ := h
          exact ⟨_, _, .call hf h1 h2 h3 h4 h5 h6, h7⟩
        · exact h.elim
      · simp at h
      · exact h.elim

theorem mapO_congr {ρ ρ' : Operand → AVal} : ∀ {l : List Operand}, (∀ x ∈ l, ρ x = ρ' x) → mapO ρ l = mapO ρ' l
  | [], _ => rfl
  | x :: l, h => by simp only [mapO]; rw [h x (by simp), mapO_congr (fun y hy => h y (by simp [hy]))]

theorem mapP_congr {ρ ρ' : Operand → AVal} : ∀ {l : List (Nat × Operand)}, (∀ x ∈ l, ρ x.2 = ρ' x.2) → mapP ρ l = mapP ρ' l
  | [], _ => rfl
  | (i, x) :: l, h => by simp only [mapP]; rw [h (i, x) (by simp), mapP_congr (fun y hy => h y (by simp [hy]))]

theorem rv_congr {P : Program} {ρ ρ' : Operand → AVal} {L : List Slot} {op : Op} (h : ∀ x ∈ op.operands.toList, ρ x = ρ' x) : rv P ρ L op = rv P ρ' L op := by
  cases op with
  | build t parts =>
    simp only [rv]; rw [mapP_congr (fun x hx => h x.2 (by simp [Op.operands]; exact ⟨x.1, by simpa using hx⟩))]
  | makeFunc fn first caps =>
    cases fn <;> simp only [rv]
    rw [mapO_congr (l := first.toList) (fun x hx => h x (by simp [Op.operands]; exact .inl (by simpa using hx))), mapO_congr (l := caps.toList) (fun x hx => h x (by simp [Op.operands]; exact .inr (by simpa using hx)))]
  | slice t x lo hi mx =>
    simp only [rv]
    have h1 := h x (by simp [Op.operands])
    have h2 : lo.map ρ = lo.map ρ' := by cases lo with
      | none => rfl
      | some y => simp only [Option.map_some]; rw [h y (by simp [Op.operands])]
    have h3 : hi.map ρ = hi.map ρ' := by cases hi with
      | none => rfl
      | some y => simp only [Option.map_some]; rw [h y (by simp [Op.operands])]
    have h4 : mx.map ρ = mx.map ρ' := by cases mx with
      | none => rfl
      | some y => simp only [Option.map_some]; rw [h y (by simp [Op.operands])]
    rw [h1, h2, h3, h4]
  | unOp op t x => cases op <;> simp only [rv] <;> rw [h x (by simp [Op.operands])]
  | move x => simp only [rv]; rw [h x (by simp [Op.operands])]
  | assign x => simp only [rv]; rw [h x (by simp [Op.operands])]
  | nilCheck x => simp only [rv]; rw [h x (by simp [Op.operands])]
  | load t x => simp only [rv]; rw [h x (by simp [Op.operands])]
  | convert s d x => simp only [rv]; rw [h x (by simp [Op.operands])]
  | fieldAddr t x f => simp only [rv]; rw [h x (by simp [Op.operands])]
  | extract x i => simp only [rv]; rw [h x (by simp [Op.operands])]
  | pick a b c => simp only [rv]; rw [h a (by simp [Op.operands]), h b (by simp [Op.operands]), h c (by simp [Op.operands])]
  | indexAddr t x i => simp only [rv]; rw [h x (by simp [Op.operands]), h i (by simp [Op.operands])]
  | index t x i => simp only [rv]; rw [h x (by simp [Op.operands]), h i (by simp [Op.operands])]
  | binOp op t x y u => simp only [rv]; rw [h x (by simp [Op.operands]), h y (by simp [Op.operands])]
  | _ => simp only [rv]

theorem wv_congr {P : Program} {ρ ρ' : Operand → AVal} {L : List Slot} {op : Op} (h : ∀ x ∈ op.operands.toList, ρ x = ρ' x) : wv P ρ L op = wv P ρ' L op := by
  cases op with
  | box t x => simp only [wv]; rw [h x (by simp [Op.operands])]
  | buildSlice t n parts =>
    simp only [wv]; rw [mapP_congr (fun x hx => h x.2 (by simp [Op.operands]; exact ⟨x.1, by simpa using hx⟩))]
  | makeSlice t a b => simp only [wv]; rw [h a (by simp [Op.operands]), h b (by simp [Op.operands])]
  | store t a x => simp only [wv]; rw [h a (by simp [Op.operands]), h x (by simp [Op.operands])]
  | call c =>
    obtain ⟨callee, args, at_⟩ := c
    have ha : ∀ x ∈ args.toList, ρ x = ρ' x := fun x hx => h x (by simp [Op.operands, Call.operands]; exact .inr (by simpa using hx))
    cases callee with
    | value f => simp only [wv]
    | invoke r s => simp only [wv]
    | builtin b =>
      cases b with
      | max => simp only [wv]; rw [mapO_congr ha]
      | min => simp only [wv]; rw [mapO_congr ha]
      | len =>
        simp only [wv]
        split
        · rename_i x t hx ht; rw [ha x (by rw [hx]; simp)]
        · rfl
      | append =>
        simp only [wv]
        split
        · rename_i x y t u hx ht; rw [ha x (by rw [hx]; simp), ha y (by rw [hx]; simp)]
        · rfl
      | copy =>
        simp only [wv]
        split
        · rename_i x y t u hx ht; rw [ha x (by rw [hx]; simp), ha y (by rw [hx]; simp)]
        · rfl
      | _ => simp only [wv]
  | _ => simp only [wv]

theorem Aeff.congr {P : Program} {R : Rets} {n0 : Nat} {ρ ρ' : Operand → AVal} {L L' : List Slot} {op : Op} {v : AVal} (h : ∀ x ∈ op.operands.toList, ρ x = ρ' x) (ha : Aeff P R n0 ρ L op v L') : Aeff P R n0 ρ' L op v L' := by
  cases ha with
  | rv h1 hp => rw [rv_congr h] at h1; exact .rv h1 hp
  | wv h1 hp => rw [wv_congr h] at h1; exact .wv h1 hp
  | call hf hnd hps hv hr hlen hplain =>
    rename_i f args at_ g x y ps soft as' r out
    have hm : mapO ρ args.toList = mapO ρ' args.toList := mapO_congr (fun x hx => h x (by simp [Op.operands, Call.operands]; exact .inr (by simpa using hx)))
    rw [h f (by simp [Op.operands, Call.operands])] at hf
    rw [hm] at hv
    exact .call hf hnd hps hv hr hlen hplain

section
variable {M : Mem} {π : Plc} {l : Sl} {L : List Slot} {C : Ctx} {w : World} {P : Program}

/-- Behind an operation. -/
def After (C : Ctx) (M : Mem) (π : Plc) (l : Sl) (L L' : List Slot) (t : List AVal) (ds : List Deferred) (a : Act) (w : World) : Prop :=
  ∃ M' π' l', Mrg L L' l l' ∧ MemR C M' π' l' w ∧ Step π π' l l' ∧ (∀ b o v, M b o = some v → M' b o = some v) ∧ TmpR M' π' l' t a.tmps ∧ a.defers = ds

theorem aeff_sound {Rt : Rets} (hR : SoundR P Rt) {a : Act} {t : List AVal} (T : TmpR M π l t a.tmps) (R : MemR C M π l w) (S : Sub L l) (hk : C.k ≤ L.length) {n0 : Nat} (hn0 : n0 ≤ L.length) (hnh : ∀ i, i < n0 → l i = getS L i)
    (o : Oper) {v : AVal} {L' : List Slot} (h : Aeff P Rt n0 (ev t) L o.op v L') (hf : ∀ i, L.length ≤ i → i < L'.length → l i = .hole) {Q : Exit → Act → World → Prop} :
    o.wp P a w (After C M π l L L' (putD t o.dst v) a.defers) Q := by
  have hρ : ∀ x, VR M π l (ev t x) (a.eval x) := fun x => T.ev x
  unfold Oper.wp
  generalize hop : o.op = op at h
  cases h with
  | rv h hp =>
    subst hop
    obtain ⟨cv, h1, h2⟩ := rv_sound hρ R S o h hp
    rw [h1, Oper.upon_value]
    exact ⟨M, π, l, Mrg.refl S, R, Step.refl _ _, fun _ _ _ h => h, T.put h2 _ _, by cases o.dst <;> rfl⟩
  | wv h hp =>
    subst hop
    obtain ⟨nx, w', π', l', cv, h1, h2, h3, h4, h5, h6⟩ := wv_sound hρ R S hk o h hp hf
    rw [h1]
    have fin : ∀ cv, VR M π' l' v cv → After C M π l L L' (putD t o.dst v) a.defers (a.put o.dst cv) w' := fun cv hcv =>
      ⟨M, π', l', h3, h4, h5, fun _ _ _ h => h, (T.mono (fun _ _ _ h => h) h5).put hcv _ _, by cases o.dst <;> rfl⟩
    rcases h2 with rfl | ⟨rfl, rfl⟩
    · rw [Oper.upon_value]; exact fin cv h6
    · rw [Oper.upon_skip]; exact fin undef h6
  | call hg hnd hps hv hr hlen hplain =>
    rename_i f args at_ g x y ps soft as' r out
    obtain ⟨⟨fn, h1, h2, h3⟩, _⟩ := hR g _ _ r out hr
    have hvf := hρ f
    rw [hg] at hvf
    generalize hu : a.eval f = u at hvf
    cases hvf with
    | clo _ _ _ vs ws hn hk' hx hy =>
    have hrun := run_call (w := w) hop hu h1 h2 h3
    rw [hrun, Oper.upon_enter]
    have hargs : VRs M π l (x ++ mapO (ev t) args.toList ++ y) (vs ++ args.map a.eval ++ ws) := by
      refine VRs.append (VRs.append ⟨hn, hx⟩ ?_) ⟨hk', hy⟩
      refine ⟨by simp [mapO_length], fun i b hi => ?_⟩
      rw [mapO_get] at hi
      cases hq : args.toList[i]? with
      | none => rw [hq] at hi; cases hi
      | some z =>
        rw [hq] at hi; cases hi
        have hz : args[i]? = some z := by simpa using hq
        rw [Array.getD_eq_getD_getElem?, Array.getElem?_map, hz]; exact hρ z
    refine (callA_sound hR R S hn0 hnh hargs hnd (fun p hp => (hps p hp).1) (fun p hp => (hps p hp).2) hv hr hlen hplain hf).mono ?_
    rintro e w' ⟨cv, rfl, M', π', l', g1, g2, g3, g4, g5⟩
    exact ⟨M', π', l', g1, g2, g3, g4, (T.mono g4 g3).put g5 _ _, by cases o.dst <;> rfl⟩

/-- An answer that is open: a slice against nil. -/
theorem nil_sound {a : Act} {t : List AVal} (T : TmpR M π l t a.tmps) (R : MemR C M π l w) (S : Sub L l) (o : Oper) {op : BinOp} {ty u : TypeId} {x y : Operand} (ho : o.op = .binOp op ty x y u) {K : AVal → List Slot → Prop}
    (h : nilOp P op ty (ev t x) (ev t y) L K) {Q : Exit → Act → World → Prop} : ∃ v, K v L ∧ o.wp P a w (After C M π l L L (putD t o.dst v) a.defers) Q := by
  have core : ∀ {g : Tag} {n n' : Nat} {c c' : List IVal}, ev t x = .imm (.lst g n c) → ev t y = .imm (.lst .nil n' c') → ∃ (b : Option Addr) (k cap : Nat), a.eval x = .slice b k cap ∧ a.eval y = .slice none 0 0 ∧ (b.isNone = true → n = 0) := by
    intro g n n' c c' hx hy
    have hvx := T.ev (a := a) x
    have hvy := T.ev (a := a) y
    rw [hx] at hvx
    rw [hy] at hvy
    have ey : a.eval y = .slice none 0 0 := by
      generalize a.eval y = q at hvy
      cases hvy with | imm hvy =>
      cases hvy with
      | nil => rfl
      | lst g b o n cap c f hg hn hm hc => rcases hg with h | h <;> cases h
    generalize a.eval x = q at hvx
    cases hvx with | imm hvx =>
    cases hvx with
    | nil => exact ⟨_, _, _, rfl, ey, fun _ => rfl⟩
    | void b => exact ⟨_, _, _, rfl, ey, fun _ => rfl⟩
    | unk => exact ⟨_, _, _, rfl, ey, fun _ => rfl⟩
    | lst g b o n cap c f hg hn hm hc => exact ⟨_, _, _, rfl, ey, fun h => by cases h⟩
  have fin : ∀ b : Bool, (execOp a.eval o).run P w = .ok (.value (.bool b)) w → o.wp P a w (After C M π l L L (putD t o.dst (.imm (.bool b))) a.defers) Q := by
    intro b h1
    unfold Oper.wp
    rw [h1, Oper.upon_value]
    exact ⟨M, π, l, Mrg.refl S, R, Step.refl _ _, fun _ _ _ h => h, T.put (.imm (.bool b)) _ _, by cases o.dst <;> rfl⟩
  unfold nilOp at h
  split at h
  · rename_i g n c n' c' hx hy
    obtain ⟨b, k, cap, e1, e2, e3⟩ := core hx hy
    refine ⟨_, h.2 b.isNone e3, fin _ ?_⟩
    simp only [execOp, ho, e1, e2]
    exact lift_val (slice_eq_nil ty h.1 b k cap x y).1
  · rename_i g n c n' c' hx hy
    obtain ⟨b, k, cap, e1, e2, e3⟩ := core hx hy
    refine ⟨_, h.2 (!b.isNone) (fun hb => e3 (by simpa using hb)), fin _ ?_⟩
    simp only [execOp, ho, e1, e2]
    exact lift_val (slice_eq_nil ty h.1 b k cap x y).2
  · exact h.elim

theorem aop_sound {Rt : Rets} (hR : SoundR P Rt) {a : Act} {t : List AVal} (T : TmpR M π l t a.tmps) (R : MemR C M π l w) (S : Sub L l) (hk : C.k ≤ L.length) (hnh : ∀ i, L.length ≤ i → l i = .hole) (hnh' : ∀ i, i < L.length → l i = getS L i)
    {n0 : Nat} (hn0 : n0 ≤ L.length) {nd : Bool} (o : Oper) {K : AVal → List Slot → Prop} (h : aop P Rt n0 nd o.op t L K) {Q : Exit → Act → World → Prop} :
    ∃ v L', K v L' ∧ o.wp P a w (After C M π l L L' (putD t o.dst v) a.defers) Q := by
  cases nd with
  | false =>
    obtain ⟨v, L', h1, h2⟩ := aeff_of_aop h
    exact ⟨v, L', h2, aeff_sound hR T R S hk hn0 (fun i hi => hnh' i (by omega)) o h1 (fun i hi _ => hnh i hi)⟩
  | true =>
    by_cases hb : ∃ op ty x y u, o.op = .binOp op ty x y u ∧ rv P (ev t) L o.op = none
    · obtain ⟨op, ty, x, y, u, h1, h2⟩ := hb
      have hw : wv P (ev t) L o.op = none := by rw [h1]; rfl
      have hn : nilOp P op ty (ev t x) (ev t y) L K := by
        unfold aop at h
        split at h
        · rename_i p v hr; rw [h2] at hr; cases hr
        · split at h
          · rename_i p v L' hr; rw [hw] at hr; cases hr
          · rw [h1] at h; exact h.2
      obtain ⟨v, g1, g2⟩ := nil_sound (P := P) T R S o h1 hn (Q := Q)
      exact ⟨v, L, g1, g2⟩
    · have h' : aop P Rt n0 false o.op t L K := by
        unfold aop at h ⊢
        split at h
        · rename_i p v hr; exact h
        · rename_i hr
          split at h
          · exact h
          · split at h
            · exact h
            · rename_i op ty x y u ho
              exact (hb ⟨op, ty, x, y, u, ho, by rw [ho]; rw [← ho]; exact hr⟩).elim
            · exact h.elim
      obtain ⟨v, L', h1, h2⟩ := aeff_of_aop h'
      exact ⟨v, L', h2, aeff_sound hR T R S hk hn0 (fun i hi => hnh' i (by omega)) o h1 (fun i hi _ => hnh i hi)⟩

/-! ### A region in the text's order -/

theorem nthO_eq : ∀ (l : List Oper) (i : Nat), nthO l i = l[i]?
  | [], i => by simp [nthO]
  | a :: l, 0 => by simp [nthO]
  | a :: l, n + 1 => by simpa [nthO] using nthO_eq l n

theorem yields_some {ops : Array Oper} {t : List AVal} {tm : Array Value} (T : TmpR M π l t tm) {g d : Nat} (hd : (nthO ops.toList g).bind (·.dst) = some d) :
    (∀ b, getT t d = .imm (.bool b) → yielded ops tm g = some b) ∧ (getT t d = .tup [] → yielded ops tm g = none) := by
  have hd' : (ops[g]?).bind (·.dst) = some d := by rw [nthO_eq] at hd; simpa using hd
  have hv := T.get d
  have hcase : ∀ v : Value, tm.getD d undef = v → getT t d ≠ .any → tm[d]? = some v := by
    intro v hv hne
    rcases Nat.lt_or_ge d tm.size with h | h
    · rw [Array.getD_eq_getD_getElem?, Array.getElem?_eq_getElem h] at hv
      rw [Array.getElem?_eq_getElem h]; simpa using hv
    · exact (hne (getT_none (by rw [T.1]; exact h))).elim
  constructor
  · intro b hb
    rw [hb] at hv
    generalize hx : tm.getD d undef = x at hv
    cases hv with | imm hv => cases hv with | bool _ =>
    simp only [yielded, hd', Option.bind_some, hcase _ hx (by rw [hb]; simp)]
  · intro hb
    rw [hb] at hv
    generalize hx : tm.getD d undef = x at hv
    cases hv with | tup _ vs hn _ =>
    simp only [yielded, hd', Option.bind_some, hcase _ hx (by rw [hb]; simp)]

theorem yields_none {ops : Array Oper} {tm : Array Value} {g : Nat} (hd : (nthO ops.toList g).bind (·.dst) = none) : yielded ops tm g = none := by
  have hd' : (ops[g]?).bind (·.dst) = none := by rw [nthO_eq] at hd; simpa using hd
  simp only [yielded, hd', Option.bind_none]

/-- The relation of a state in the text's order. -/
def RelE (C : Ctx) (t : List AVal) (L : List Slot) (a : Act) (w : World) : Prop :=
  ∃ M π, TmpR M π (getS L) t a.tmps ∧ MemR C M π (getS L) w ∧ a.defers = [] ∧ C.k ≤ L.length

theorem Mrg.eq {L' : List Slot} {l' : Sl} (h : Mrg L L' (getS L) l') : l' = getS L' := by
  funext i
  by_cases h1 : i < L.length
  · cases hx : getS L i with
    | hole =>
      rw [h.hole i h1 hx, h.txt i h1 hx]
    | _ => exact h.old i h1 (by rw [hx]; simp)
  · by_cases h2 : i < L'.length
    · exact h.new i (by omega) h2
    · rw [h.rest i (by omega), getS_none (by omega), getS_none (by omega)]

end
end Go.Abs
