/- Calls of Go functions: what is lent, seen, given back. -/
import Derived.Test.YtbleionbmdpmeaaAbsG
set_option linter.unusedVariables false
set_option linter.unusedSimpArgs false
namespace Go.Abs

theorem rens_get (σ : Nat → Option Nat) : ∀ (l : List AVal) (i : Nat), (rens σ l)[i]? = (l[i]?).map (ren σ)
  | [], i => by simp [rens]
  | a :: l, 0 => by simp [rens]
  | a :: l, n + 1 => by simpa [rens] using rens_get σ l n

theorem rens_length (σ : Nat → Option Nat) : ∀ (l : List AVal), (rens σ l).length = l.length
  | [] => by simp [rens]
  | a :: l => by simp [rens, rens_length σ l]

theorem rens_nil (σ : Nat → Option Nat) (l : List AVal) : l = [] ↔ rens σ l = [] := by cases l <;> simp [rens]

/-- A slot goes on under another name. -/
def Goes (π π' : Plc) (l l' : Sl) (s s' : Nat) : Prop :=
  match l s with
  | .hole => True
  | .dead => l' s' = .dead
  | .obj e c => (∃ c', l' s' = .obj e c' ∧ (c = [] ↔ c' = []) ∧ π' s' = π s) ∨ l' s' = .dead

section
variable {M : Mem} {π : Plc} {l : Sl} {L : List Slot} {C : Ctx} {w : World} {P : Program}

theorem VR.ren {M' : Mem} {π' : Plc} {l' : Sl} {σ : Nat → Option Nat} (hM : ∀ b o v, M b o = some v → M' b o = some v) (hσ : ∀ s s', σ s = some s' → Goes π π' l l' s s') {a : AVal} {v : Value} (h : VR M π l a v) : VR M' π' l' (ren σ a) v := by
  induction h with
  | imm h => exact .imm (h.mono hM)
  | agg as vs hn h ih =>
    refine .agg _ vs (by rw [rens_length]; exact hn) (fun i a hi => ?_)
    rw [rens_get] at hi
    cases hx : as[i]? with
    | none => rw [hx] at hi; cases hi
    | some x => rw [hx] at hi; cases hi; exact ih i x hx
  | tup as vs hn h ih =>
    refine .tup _ vs (by rw [rens_length]; exact hn) (fun i a hi => ?_)
    rw [rens_get] at hi
    cases hx : as[i]? with
    | none => rw [hx] at hi; cases hi
    | some x => rw [hx] at hi; cases hi; exact ih i x hx
  | ptr s off e c hs =>
    simp only [Abs.ren]
    cases hq : σ s with
    | none => exact .any _
    | some s' =>
      have := hσ s s' hq
      rw [Goes, hs] at this
      rcases this with ⟨c', h1, _, h3⟩ | h1
      · rw [← h3]; exact .ptr s' off e c' h1
      · exact .ptrDead s' off _ h1 ⟨_, _, rfl⟩
  | ptrDead s off v hs hv =>
    simp only [Abs.ren]
    cases hq : σ s with
    | none => exact .any _
    | some s' =>
      have := hσ s s' hq
      rw [Goes, hs] at this
      exact .ptrDead s' off v this hv
  | iptr b o c f hm hc => exact .iptr b o c f (fun i iv hi => hM _ _ _ (hm i iv hi)) (fun i iv hi => (hc i iv hi).mono hM)
  | ref s off n e x cap c hs hc hn hx hz =>
    simp only [Abs.ren]
    cases hq : σ s with
    | none => exact .any _
    | some s' =>
      have := hσ s s' hq
      rw [Goes, hs] at this
      rcases this with ⟨c', h1, h2, h3⟩ | h1
      · rw [← h3] at hx hz ⊢; exact .ref s' off n e x cap c' h1 (fun h => hc (h2.2 h)) hn hx hz
      · exact .refDead s' off n _ h1 ⟨_, _, rfl⟩
  | refVoid s off e a hs =>
    simp only [Abs.ren]
    cases hq : σ s with
    | none => exact .any _
    | some s' =>
      have := hσ s s' hq
      rw [Goes, hs] at this
      rcases this with ⟨c', h1, h2, h3⟩ | h1
      · exact .refVoid s' off e a (by rw [h1, h2.1 rfl])
      · exact .refDead s' off 0 _ h1 ⟨_, _, rfl⟩
  | refDead s off n v hs hv =>
    simp only [Abs.ren]
    cases hq : σ s with
    | none => exact .any _
    | some s' =>
      have := hσ s s' hq
      rw [Goes, hs] at this
      exact .refDead s' off n v this hv
  | clo f as bs vs ws hn hk h h' ih ih' =>
    refine .clo f _ _ vs ws (by rw [rens_length]; exact hn) (by rw [rens_length]; exact hk) (fun i a hi => ?_) (fun i a hi => ?_)
    · rw [rens_get] at hi
      cases hx : as[i]? with
      | none => rw [hx] at hi; cases hi
      | some x => rw [hx] at hi; cases hi; exact ih i x hx
    · rw [rens_get] at hi
      cases hx : bs[i]? with
      | none => rw [hx] at hi; cases hi
      | some x => rw [hx] at hi; cases hi; exact ih' i x hx
  | any v => exact .any v

theorem VRs.ren {M' : Mem} {π' : Plc} {l' : Sl} {σ : Nat → Option Nat} (hM : ∀ b o v, M b o = some v → M' b o = some v) (hσ : ∀ s s', σ s = some s' → Goes π π' l l' s s') {as : List AVal} {vs : Array Value} (h : VRs M π l as vs) :
    VRs M' π' l' (rens σ as) vs := by
  refine ⟨by rw [rens_length]; exact h.1, fun i a hi => ?_⟩
  rw [rens_get] at hi
  cases hx : as[i]? with
  | none => rw [hx] at hi; cases hi
  | some x => rw [hx] at hi; cases hi; exact (h.2 i x hx).ren hM hσ

/-! ### Names -/

theorem idx_get : ∀ {ps : List Nat} {s i : Nat}, idx ps s = some i → ps[i]? = some s
  | [], s, i, h => by simp [idx] at h
  | a :: ps, s, i, h => by
    simp only [idx] at h
    split at h
    · rename_i e; cases h; subst e; rfl
    · cases hq : idx ps s with
      | none => rw [hq] at h; cases h
      | some j => rw [hq] at h; cases h; simpa using idx_get hq

theorem idx_of : ∀ {ps : List Nat} {s i : Nat}, ps.Nodup → ps[i]? = some s → idx ps s = some i
  | [], s, i, _, h => by simp at h
  | a :: ps, s, 0, hn, h => by simp at h; simp [idx, h]
  | a :: ps, s, i + 1, hn, h => by
    simp only [List.nodup_cons] at hn
    simp only [List.getElem?_cons_succ] at h
    have hne : a ≠ s := by
      intro e; subst e
      exact hn.1 (List.mem_of_getElem? h)
    simp [idx, hne, idx_of hn.2 h]

theorem idx_none {ps : List Nat} {s : Nat} (h : idx ps s = none) : s ∉ ps := by
  induction ps with
  | nil => simp
  | cons a ps ih =>
    simp only [idx] at h
    split at h
    · cases h
    · rename_i hne
      have : idx ps s = none := by
        cases hq : idx ps s with
        | none => rfl
        | some j => rw [hq] at h; cases h
      simp only [List.mem_cons, not_or]
      exact ⟨fun e => hne e.symm, ih this⟩

theorem lend_length (L : List Slot) (ps : List Nat) : ∀ qs : List Nat, (lend L ps qs).length = qs.length
  | [] => rfl
  | q :: qs => by simp [lend, lend_length L ps qs]

theorem lend_get (L : List Slot) (ps : List Nat) : ∀ (qs : List Nat) (i q : Nat), qs[i]? = some q → getS (lend L ps qs) i = renS (idx ps) (getS L q)
  | [], i, q, h => by simp at h
  | a :: qs, 0, q, h => by simp at h; subst h; simp [lend, getS]
  | a :: qs, i + 1, q, h => by simp only [List.getElem?_cons_succ] at h; simp only [lend, getS]; exact lend_get L ps qs i q h

theorem getS_none {L : List Slot} {i : Nat} (h : L.length ≤ i) : getS L i = .hole := by rw [getS_eq, List.getD_eq_getElem?_getD, List.getElem?_eq_none h]; rfl

theorem giveBack_get (σ : Nat → Option Nat) : ∀ (ps : List Nat) (L out : List Slot) (q : Nat), ps.Nodup → (∀ p ∈ ps, p < L.length) → ps.length ≤ out.length →
    getS (giveBack σ L ps out) q = match idx ps q with
      | some i => renS σ (getS out i)
      | none => if q < L.length then getS L q else renS σ (getS out (ps.length + (q - L.length)))
  | [], L, out, q, _, _, _ => by
    simp only [giveBack, idx, List.length_nil, Nat.zero_add]
    by_cases h : q < L.length
    · rw [if_pos h, getS_app L _ q h]
    · rw [if_neg h, getS_eq, List.getD_eq_getElem?_getD, List.getElem?_append_right (by omega), List.getElem?_map, getS_eq, List.getD_eq_getElem?_getD]
      cases out[q - L.length]? <;> rfl
  | p :: ps, L, [], q, _, _, h => by simp at h
  | p :: ps, L, o :: out, q, hn, hl, h => by
    simp only [List.nodup_cons] at hn
    simp only [giveBack]
    rw [giveBack_get σ ps _ out q hn.2 (fun x hx => by rw [setS_length]; exact hl x (by simp [hx])) (by simpa using h), setS_length]
    simp only [idx]
    by_cases e : p = q
    · subst e
      have hnone : idx ps p = none := by
        cases hq : idx ps p with
        | none => rfl
        | some i => exact (hn.1 (List.mem_of_getElem? (idx_get hq))).elim
      rw [hnone, if_pos rfl]
      simp only [getS]
      rw [if_pos (hl p (by simp)), getS_set_same (hl p (by simp))]
    · rw [if_neg e]
      cases hq : idx ps q with
      | some i => simp only [Option.map_some, getS]
      | none =>
        simp only [Option.map_none, List.length_cons]
        by_cases h2 : q < L.length
        · rw [if_pos h2, if_pos h2, getS_set_other L e]
        · rw [if_neg h2, if_neg h2, show ps.length + 1 + (q - L.length) = (ps.length + (q - L.length)) + 1 from by omega]; simp only [getS]

theorem giveBack_length (σ : Nat → Option Nat) : ∀ (ps : List Nat) (L out : List Slot), ps.length ≤ out.length → (giveBack σ L ps out).length = L.length + (out.length - ps.length)
  | [], L, out, _ => by simp [giveBack]
  | p :: ps, L, [], h => by simp at h
  | p :: ps, L, o :: out, h => by simp only [giveBack]; rw [giveBack_length σ ps _ out (by simpa using h), setS_length]; simp

/-! ### What is seen of an object -/

theorem immsOf_get : ∀ {cs : List AVal} {r : List IVal}, immsOf cs = some r → cs = r.map .imm
  | [], r, h => by simp [immsOf] at h; subst h; rfl
  | a :: cs, r, h => by
    simp only [immsOf] at h
    split at h <;> try (cases h; done)
    rename_i i r' h1 h2
    cases h
    have := immsOf_get h2
    cases a <;> simp [immOf] at h1
    subst h1; simp [this]

/-- All cells of blocks that are not lent may be read. -/
theorem viewC_sound (R : MemR C M π l w) {M' : Mem} {π' : Plc} {l' : Sl} {s e off n : Nat} {c : List AVal} {cv : Value} (hs : l s = .obj e c) (hv : VR M π l (.ref s off n) cv) (hM : ∀ b o v, M b o = some v → M' b o = some v)
    (hcell : ∀ o v, (π s).o ≤ o → w.cell? ⟨(π s).b, o, none⟩ = some v → M' (π s).b o = some v) {a : AVal} (h : viewC e c off n = some a) : VR M' π' l' a cv := by
  unfold viewC at h
  cases hv with
  | refDead s off n v hd hv => rw [hs] at hd; cases hd
  | refVoid s off e' a' h1 =>
    rw [hs] at h1; injection h1 with h1 h2; subst h1 h2
    simp only [Option.some.injEq] at h
    subst h; exact .imm (.void _)
  | ref s off n e' x cap c' h1 hc hn hx hz =>
    rw [hs] at h1; injection h1 with h1 h2; subst h1 h2
    cases c with
    | nil => exact (hc rfl).elim
    | cons c0 c1 =>
      simp only at h
      split at h <;> cases h
      rename_i r hr
      have hmap := immsOf_get hr
      have key : ∀ (i : Nat) (iv : IVal), r[i]? = some iv → i < n * e ∧ (c0 :: c1)[off + i]? = some (.imm iv) := by
        intro i iv hi
        have h2 : (((c0 :: c1).drop off).take (n * e))[i]? = some (.imm iv) := by rw [hmap, List.getElem?_map, hi]; rfl
        have hlt : i < n * e := by
          have := (List.getElem?_eq_some_iff.1 h2).1
          simp at this; omega
        rw [List.getElem?_take_of_lt hlt, List.getElem?_drop] at h2
        exact ⟨hlt, h2⟩
      obtain ⟨cs, ty, hb, hz', hle, hcv⟩ := R.objs s e _ hs hc
      refine .imm (.lst .full _ x n cap r (fun i => cs.getD ((π s).o + (off + i)) undef) (.inl rfl) hn (fun i iv hi => ?_) (fun i iv hi => ?_))
      · obtain ⟨h1, h2⟩ := key i iv hi
        have hxx : (π s).o + off = x := by
          rcases hx with hx | ⟨rfl, _⟩
          · exact hx
          · simp at h1
        have hlt : off + i < (c0 :: c1).length := (List.getElem?_eq_some_iff.1 h2).1
        refine hcell _ _ (by omega) ?_
        rw [← hxx, show (π s).o + off + i = (π s).o + (off + i) from by omega]
        simp only [World.cell?, hb, Option.isSome_none, Bool.false_eq_true, if_false]
        rw [Array.getD_eq_getD_getElem?, Array.getElem?_eq_getElem (by omega)]; rfl
      · obtain ⟨h1, h2⟩ := key i iv hi
        have := hcv _ _ h2
        cases this with
        | imm h => exact h.mono hM

/-! ### Values that lie in no memory -/

theorem plainI_IR {M M' : Mem} {i : IVal} {v : Value} (hp : plainI i = true) (h : IR M i v) : IR M' i v := by
  cases h with
  | int k n => exact .int k n
  | bool b => exact .bool b
  | str b => exact .str b
  | nilp => exact .nilp
  | _ => simp [plainI] at hp

theorem plainAs_get : ∀ {l : List AVal}, plainAs l = true → ∀ (i : Nat) (a : AVal), l[i]? = some a → plainA a = true
  | [], _, i, a, h => by simp at h
  | x :: l, h, 0, a, hi => by simp only [plainAs, Bool.and_eq_true] at h; simp at hi; subst hi; exact h.1
  | x :: l, h, i + 1, a, hi => by simp only [plainAs, Bool.and_eq_true] at h; simp only [List.getElem?_cons_succ] at hi; exact plainAs_get h.2 i a hi

theorem VR.plain {M' : Mem} {a : AVal} {v : Value} (h : VR M π l a v) (hp : plainA a = true) : VR M' π l a v := by
  induction h with
  | imm h => exact .imm (plainI_IR (by simpa [plainA] using hp) h)
  | agg as vs hn h ih => exact .agg as vs hn (fun i a hi => ih i a hi (plainAs_get (by simpa [plainA] using hp) i a hi))
  | tup as vs hn h ih => exact .tup as vs hn (fun i a hi => ih i a hi (plainAs_get (by simpa [plainA] using hp) i a hi))
  | ptr s off e c hs => exact .ptr s off e c hs
  | ptrDead s off v hs hv => exact .ptrDead s off v hs hv
  | iptr b o c f hm hc => simp [plainA] at hp
  | ref s off n e x cap c hs hc hn hx hz => exact .ref s off n e x cap c hs hc hn hx hz
  | refVoid s off e a hs => exact .refVoid s off e a hs
  | refDead s off n v hs hv => exact .refDead s off n v hs hv
  | clo f as bs vs ws hn hk h h' ih ih' => simp [plainA] at hp
  | any v => exact .any v

theorem plainSs_get : ∀ {L : List Slot}, plainSs L = true → ∀ i e c, getS L i = .obj e c → plainAs c = true
  | [], _, i, e, c, h => by simp [getS] at h
  | x :: L, h, 0, e, c, hi => by simp only [plainSs, Bool.and_eq_true] at h; simp only [getS] at hi; subst hi; exact h.1
  | x :: L, h, i + 1, e, c, hi => by simp only [plainSs, Bool.and_eq_true] at h; simp only [getS] at hi; exact plainSs_get h.2 i e c hi

/-! ### A call -/

/-- What a call begins with. -/
structure StartR (M : Mem) (π : Plc) (l : Sl) (w : World) : Prop where
  objs : ∀ s e c, l s = .obj e c → c ≠ [] → ObjR M π l w s c
  dist : ∀ s s' e e' c c', l s = .obj e c → l s' = .obj e' c' → c ≠ [] → c' ≠ [] → (π s).b = (π s').b → s = s'
  prot : ∀ s e c, l s = .obj e c → c ≠ [] → ∀ o, (π s).o ≤ o → M (π s).b o = none
  mem : ∀ b o v, M b o = some v → w.cell? ⟨b, o, none⟩ = some v

/-- What is told of functions is true of the program. -/
def SoundR (P : Program) (R : Rets) : Prop := ∀ f as Lin r out, R f as Lin r out →
  (∃ fn, P.funcs[f]? = some fn ∧ fn.name ≠ "runtime.NumGoroutine" ∧ fn.body.isSome = true) ∧
  ∀ (w : World) (M : Mem) (π : Plc) (cas : Array Value), VRs M π (getS Lin) as cas → StartR M π (getS Lin) w →
    Calls P f cas w fun e w' => ∃ v, e = .returned v ∧ ∃ M' π', VR M' π' (getS out) r v ∧ MemR ⟨w, Lin.length, π, getS Lin, M⟩ M' π' (getS out) w'

theorem run_call {η : Operand → Value} {o : Oper} {f : Operand} {args : Array Operand} {at_ : Array TypeId} (ho : o.op = .call ⟨.value f, args, at_⟩) {g : Nat} {vs ws : Array Value} (hf : η f = .func (.func g) vs ws)
    {fn : Func} (hfn : P.funcs[g]? = some fn) (hname : fn.name ≠ "runtime.NumGoroutine") (hb : fn.body.isSome = true) :
    (execOp η o).run P w = .ok (.enter g (vs ++ args.map η ++ ws)) w := by
  have hnone : fn.body.isNone = false := by cases h : fn.body <;> simp [h] at hb ⊢
  have hn : (fn.name == "runtime.NumGoroutine") = false := by simpa using hname
  simp only [execOp, ho, resolve, Deferred.ofValue, hf, Sem.run_bind, Sem.run_pure, Result.andThen_ok, invoke, callFunc, run_program, hfn, hn, hnone, Bool.false_eq_true, if_false]

/-- What may be read in a call whose arguments are seen. -/
noncomputable def softM (w : World) (M : Mem) (lentB : Nat → Prop) : Mem := fun b o => open Classical in if lentB b then M b o else w.cell? ⟨b, o, none⟩

theorem viewArg_sound (R : MemR C M π l w) (S : Sub L l) {ps : List Nat} {M' : Mem} (hM : ∀ b o v, M b o = some v → M' b o = some v)
    (hcell : ∀ s e c, s ∉ ps → l s = .obj e c → c ≠ [] → ∀ o v, w.cell? ⟨(π s).b, o, none⟩ = some v → M' (π s).b o = some v) :
    ∀ {a a' : AVal} {v : Value}, VR M π l a v → viewArg L ps a = some a' → VR M' π l a' v := by
  have ref : ∀ {s o n : Nat} {a' : AVal} {v : Value}, VR M π l (.ref s o n) v → (if (idx ps s).isSome then some (AVal.ref s o n) else view L (.ref s o n)) = some a' → VR M' π l a' v := by
    intro s o n a' v hv h
    split at h
    · cases h; exact hv.mono hM (Step.refl _ _)
    · rename_i hidx
      have hnot : s ∉ ps := by
        apply idx_none
        cases hq : idx ps s with
        | none => rfl
        | some i => rw [hq] at hidx; simp at hidx
      simp only [view] at h
      split at h <;> try (cases h; done)
      rename_i e c hg
      have hl : liveB L s = true := by rw [liveB, hg]
      obtain ⟨e', c', h1, h2, h3⟩ := live_ref S hv hl
      rw [hg] at h2; injection h2 with h2 h4; subst h2 h4
      by_cases hc : c = []
      · subst hc
        simp only [viewC, Option.some.injEq] at h
        subst h
        rcases h3 with ⟨h3, _⟩ | ⟨_, rfl, a, rfl⟩
        · exact (h3 rfl).elim
        · exact .imm (.void _)
      · exact viewC_sound R h1 hv hM (fun o v _ hcl => hcell s e c hnot h1 hc o v hcl) h
  have refs : ∀ {as as' : List AVal} {vs : Array Value}, (∀ i a, as[i]? = some a → VR M π l a (vs.getD i undef)) → viewL L ps as = some as' → as'.length = as.length ∧ ∀ i a, as'[i]? = some a → VR M' π l a (vs.getD i undef) := by
    intro as
    induction as with
    | nil => intro as' vs _ h; simp [viewL] at h; subst h; exact ⟨rfl, fun i a hi => by simp at hi⟩
    | cons x as ih =>
      intro as' vs hv h
      have shift : ∀ i a, as[i]? = some a → VR M π l a ((vs.extract 1 vs.size).getD i undef) := by
        intro i a hi
        have := hv (i + 1) a (by simpa using hi)
        rw [Array.getD_eq_getD_getElem?] at this ⊢
        rw [Array.getElem?_extract]
        by_cases hlt : i < min vs.size vs.size - 1
        · rw [if_pos hlt, Nat.add_comm 1 i]; exact this
        · rw [if_neg hlt]
          rw [Array.getElem?_eq_none (by omega)] at this; exact this
      have back : ∀ {x' : AVal} {r : List AVal}, VR M' π l x' (vs.getD 0 undef) → (r.length = as.length ∧ ∀ i a, r[i]? = some a → VR M' π l a ((vs.extract 1 vs.size).getD i undef)) →
          (x' :: r).length = (x :: as).length ∧ ∀ i a, (x' :: r)[i]? = some a → VR M' π l a (vs.getD i undef) := by
        intro x' r h1 h2
        refine ⟨by simp [h2.1], fun i a hi => ?_⟩
        cases i with
        | zero => simp at hi; subst hi; exact h1
        | succ i =>
          have := h2.2 i a (by simpa using hi)
          rw [Array.getD_eq_getD_getElem?] at this ⊢
          rw [Array.getElem?_extract] at this
          by_cases hlt : i < min vs.size vs.size - 1
          · rw [if_pos hlt, Nat.add_comm 1 i] at this; exact this
          · rw [if_neg hlt] at this
            rw [Array.getElem?_eq_none (by omega)]; exact this
      have hx := hv 0 x rfl
      have other : ∀ {r : List AVal}, viewL L ps as = some r → as' = x :: r → as'.length = (x :: as).length ∧ ∀ i a, as'[i]? = some a → VR M' π l a (vs.getD i undef) := by
        intro r hr he; subst he
        exact back (hx.mono hM (Step.refl _ _)) (ih shift hr)
      cases x with
      | ref s o n =>
        simp only [viewL] at h
        split at h <;> try (cases h; done)
        rename_i a' r h1 h2
        cases h
        exact back (ref hx h1) (ih shift h2)
      | _ =>
        simp only [viewL] at h
        split at h <;> try (cases h; done)
        rename_i r hr
        cases h
        exact other hr rfl
  intro a a' v hv h
  cases a with
  | agg as =>
    simp only [viewArg] at h
    cases hq : viewL L ps as with
    | none => rw [hq] at h; cases h
    | some as' =>
      rw [hq] at h; cases h
      cases hv with | agg _ vs hn hv =>
      obtain ⟨g1, g2⟩ := refs hv hq
      exact .agg _ _ (by rw [g1]; exact hn) g2
  | ref s o n => exact ref hv h
  | _ => simp only [viewArg, Option.some.injEq] at h; subst h; exact hv.mono hM (Step.refl _ _)

theorem viewArgs_sound (R : MemR C M π l w) (S : Sub L l) {ps : List Nat} {M' : Mem} (hM : ∀ b o v, M b o = some v → M' b o = some v)
    (hcell : ∀ s e c, s ∉ ps → l s = .obj e c → c ≠ [] → ∀ o v, w.cell? ⟨(π s).b, o, none⟩ = some v → M' (π s).b o = some v) :
    ∀ {as as' : List AVal} {vs : List Value}, as.length = vs.length → (∀ i a, as[i]? = some a → VR M π l a (vs.getD i undef)) → viewArgs L ps as = some as' → as'.length = as.length ∧ ∀ i a, as'[i]? = some a → VR M' π l a (vs.getD i undef) := by
  intro as
  induction as with
  | nil => intro as' vs _ _ h; simp [viewArgs] at h; subst h; exact ⟨rfl, fun i a hi => by simp at hi⟩
  | cons x as ih =>
    intro as' vs hn hv h
    cases vs with
    | nil => simp at hn
    | cons v vs =>
      simp only [viewArgs] at h
      split at h <;> try (cases h; done)
      rename_i a' r h1 h2
      cases h
      obtain ⟨g1, g2⟩ := ih (vs := vs) (by simpa using hn) (fun i a hi => by simpa using hv (i + 1) a (by simpa using hi)) h2
      refine ⟨by simp [g1], fun i a hi => ?_⟩
      cases i with
      | zero => simp at hi; subst hi; exact viewArg_sound R S hM hcell (by simpa using hv 0 x rfl) h1
      | succ i => simpa using g2 i a (by simpa using hi)

theorem Mrg.of {L' : List Slot} {l' : Sl} (hlen : L.length ≤ L'.length) (h1 : ∀ i, i < L.length → l i = .hole → l' i = .hole) (h2 : ∀ i, i < L.length → l i ≠ .hole → l' i = getS L' i)
    (h3 : ∀ i, L.length ≤ i → i < L'.length → l' i = getS L' i) (h4 : ∀ i, L'.length ≤ i → l' i = l i) (h5 : ∀ i, i < L.length → getS L i = .hole → getS L' i = .hole) : Mrg L L' l l' := ⟨h1, h2, h3, h4, hlen, h5⟩

theorem renS_obj {σ : Nat → Option Nat} {x : Slot} {e : Nat} {c : List AVal} (h : renS σ x = .obj e c) : ∃ d, x = .obj e d ∧ c = rens σ d := by
  cases x <;> simp only [renS, Slot.obj.injEq, reduceCtorEq] at h
  obtain ⟨rfl, rfl⟩ := h; exact ⟨_, rfl, rfl⟩

theorem ObjR.ren {M' : Mem} {π' : Plc} {l' : Sl} {w' : World} {σ : Nat → Option Nat} {s s' : Nat} {c : List AVal} (h : ObjR M π l w s c) (hv : ∀ a v, a ∈ c → VR M π l a v → VR M' π' l' (Abs.ren σ a) v) (hπ : π' s' = π s)
    (hw : w'.heap[(π s).b]? = w.heap[(π s).b]?) : ObjR M' π' l' w' s' (rens σ c) := by
  obtain ⟨cs, ty, h1, h2, h3, h4⟩ := h
  refine ⟨cs, ty, by rw [hπ, hw]; exact h1, by rw [hπ]; exact h2, by rw [hπ, rens_length]; exact h3, fun i a hi => ?_⟩
  rw [rens_get] at hi
  cases hx : c[i]? with
  | none => rw [hx] at hi; cases hi
  | some x => rw [hx] at hi; cases hi; rw [hπ]; exact hv _ _ (List.mem_of_getElem? hx) (h4 i x hx)

/-- A call, told by what its function comes to. -/
theorem callA_sound {Rt : Rets} (hR : SoundR P Rt) (R : MemR C M π l w) (S : Sub L l) {n0 : Nat} (hn0 : n0 ≤ L.length) (hnh : ∀ i, i < n0 → l i = getS L i) {g : Nat} {as : List AVal} {cas : Array Value} (ha : VRs M π l as cas)
    {ps : List Nat} {soft : Bool} {as' : List AVal} {r : AVal} {out : List Slot} (hnd : ps.Nodup) (hps : ∀ p ∈ ps, p < n0) (hnh' : ∀ p ∈ ps, getS L p ≠ .hole) (hv : if soft = true then viewArgs L ps as = some as' else as' = as)
    (hr : Rt g (rens (idx ps) as') (lend L ps ps) r out) (hlen : ps.length ≤ out.length) (hplain : soft = true → plainA r = true ∧ plainSs out = true)
    (hf : ∀ i, L.length ≤ i → i < (giveBack (outσ ps L.length) L ps out).length → l i = .hole) :
    Calls P g cas w fun e w' => ∃ v, e = .returned v ∧ ∃ M' π' l', Mrg L (giveBack (outσ ps L.length) L ps out) l l' ∧ MemR C M' π' l' w' ∧ Step π π' l l' ∧
      (∀ b o v, M b o = some v → M' b o = some v) ∧ VR M' π' l' (ren (outσ ps L.length) r) v := by
  classical
  obtain ⟨_, hcall⟩ := hR g _ _ r out hr
  -- the lent blocks
  let lb : Nat → Prop := fun b => ∃ p e c, p ∈ ps ∧ l p = .obj e c ∧ c ≠ [] ∧ (π p).b = b
  let Mc : Mem := if soft = true then softM w M lb else M
  let π1 : Plc := fun i => π (ps.getD i 0)
  have hMc : ∀ b o v, M b o = some v → Mc b o = some v := by
    intro b o v h
    simp only [Mc]
    split
    · simp only [softM]
      split
      · exact h
      · exact R.mem b o v h
    · exact h
  have hMcl : ∀ b, lb b → Mc b = M b := by
    intro b hb
    simp only [Mc]
    split
    · funext o; simp only [softM]; rw [if_pos hb]
    · rfl
  have hMcw : ∀ b o v, Mc b o = some v → w.cell? ⟨b, o, none⟩ = some v := by
    intro b o v h
    simp only [Mc] at h
    split at h
    · simp only [softM] at h
      split at h
      · exact R.mem b o v h
      · exact h
    · exact R.mem b o v h
  have hgoIn : ∀ s s', idx ps s = some s' → Goes π π1 l (getS (lend L ps ps)) s s' := by
    intro s s' h
    have hg := idx_get h
    have hp : s ∈ ps := List.mem_of_getElem? hg
    have h1 := lend_get L ps ps s' s hg
    rw [← hnh s (hps s hp)] at h1
    have hπ : π1 s' = π s := by simp only [π1]; rw [List.getD_eq_getElem?_getD, hg]; rfl
    unfold Goes
    rw [h1, hπ]
    cases l s with
    | hole => trivial
    | dead => rfl
    | obj e c => exact .inl ⟨_, rfl, rens_nil _ c, rfl⟩
  have inv : ∀ i e c, getS (lend L ps ps) i = .obj e c → ∃ p d, ps[i]? = some p ∧ p ∈ ps ∧ l p = .obj e d ∧ c = rens (idx ps) d ∧ π1 i = π p ∧ i < ps.length := by
    intro i e c h
    have hi : i < ps.length := by
      rcases Nat.lt_or_ge i ps.length with h1 | h1
      · exact h1
      · rw [getS_none (by rw [lend_length]; exact h1)] at h; cases h
    have hg : ps[i]? = some ps[i] := List.getElem?_eq_getElem hi
    have hp : ps[i] ∈ ps := List.getElem_mem hi
    rw [lend_get L ps ps i _ hg, ← hnh _ (hps _ hp)] at h
    obtain ⟨d, h1, h2⟩ := renS_obj h
    exact ⟨ps[i], d, hg, hp, h1, h2, by simp only [π1]; rw [List.getD_eq_getElem?_getD, hg]; rfl, hi⟩
  have hne : ∀ {d : List AVal}, rens (idx ps) d ≠ [] → d ≠ [] := fun h h' => h ((rens_nil _ _).1 h')
  -- the arguments
  have hargs : VRs Mc π1 (getS (lend L ps ps)) (rens (idx ps) as') cas := by
    have h1 : VRs Mc π l as' cas := by
      cases hs : soft with
      | true =>
        rw [hs, if_pos rfl] at hv
        have := viewArgs_sound R S (ps := ps) hMc (fun s e c hs' hl hc o v hcl => by
          simp only [Mc, hs, if_pos]
          simp only [softM]
          rw [if_neg]
          · exact hcl
          · rintro ⟨p, e', c', hp, hl', hc', hb⟩
            have := R.dist p s _ _ _ _ hl' hl hc' hc hb
            subst this; exact hs' hp) (vs := cas.toList) (by rw [ha.1]; simp) (fun i a hi => by
              have := ha.2 i a hi
              rw [Array.getD_eq_getD_getElem?] at this
              rw [List.getD_eq_getElem?_getD]; simpa using this) hv
        refine ⟨by rw [this.1]; exact ha.1, fun i a hi => ?_⟩
        have h2 := this.2 i a hi
        rw [List.getD_eq_getElem?_getD] at h2
        rw [Array.getD_eq_getD_getElem?]; simpa using h2
      | false =>
        rw [hs] at hv
        simp only [Bool.false_eq_true, if_false] at hv
        subst hv
        exact ha.mono hMc (Step.refl _ _)
    exact h1.ren (fun _ _ _ h => h) hgoIn
  have hstart : StartR Mc π1 (getS (lend L ps ps)) w := by
    refine ⟨fun i e c hi hc => ?_, fun i j e1 e2 c1 c2 h1 h2 n1 n2 hb => ?_, fun i e c hi hc o ho => ?_, hMcw⟩
    · obtain ⟨p, d, h1, h2, h3, rfl, h5, h6⟩ := inv i e c hi
      exact (R.objs p e d h3 (hne hc)).ren (fun a v _ hv => hv.ren hMc hgoIn) h5 rfl
    · obtain ⟨p, d, a1, a2, a3, rfl, a5, a6⟩ := inv i e1 c1 h1
      obtain ⟨q, d', b1, b2, b3, rfl, b5, b6⟩ := inv j e2 c2 h2
      rw [a5, b5] at hb
      have := R.dist p q _ _ _ _ a3 b3 (hne n1) (hne n2) hb
      subst this
      have e1 := idx_of hnd a1
      have e2 := idx_of hnd b1
      rw [e1] at e2; exact Option.some.inj e2
    · obtain ⟨p, d, h1, h2, h3, rfl, h5, h6⟩ := inv i e c hi
      rw [h5] at ho ⊢
      rw [hMcl _ ⟨p, e, d, h2, h3, hne hc, rfl⟩]
      exact R.prot p e d h3 (hne hc) o ho
  refine (hcall w Mc π1 cas hargs hstart).mono ?_
  rintro e w' ⟨v, rfl, M', π', hvr, R'⟩
  refine ⟨v, rfl, ?_⟩
  -- the lent blocks as the callee's context has them
  have lentIff : ∀ b, Ctx.lent ⟨w, (lend L ps ps).length, π1, getS (lend L ps ps), Mc⟩ b ↔ lb b := by
    intro b
    constructor
    · rintro ⟨i, e, c, h1, h2, h3, h4⟩
      obtain ⟨p, d, a1, a2, a3, rfl, a5, a6⟩ := inv i e c h2
      refine ⟨p, e, d, a2, a3, hne h3, ?_⟩
      rw [← a5]; exact h4
    · rintro ⟨p, e, c, h1, h2, h3, h4⟩
      obtain ⟨i, hi, rfl⟩ := List.getElem_of_mem h1
      have hg : ps[i]? = some ps[i] := List.getElem?_eq_getElem hi
      refine ⟨i, e, rens (idx ps) c, by rw [lend_length]; exact hi, ?_, fun h => h3 ((rens_nil _ _).2 h), ?_⟩
      · show getS (lend L ps ps) i = _
        rw [lend_get L ps ps i _ hg, ← hnh _ (hps _ h1), h2]; rfl
      · show (π1 i).b = b
        simp only [π1]; rw [List.getD_eq_getElem?_getD, hg]; exact h4
  let M2 : Mem := fun b => if w.heap.size ≤ b ∨ lb b then M' b else M b
  have hlbC : ∀ b, lb b → b < C.w0.heap.size → C.lent b := by
    rintro b ⟨p, e, c, h1, h2, h3, rfl⟩ hlt
    rcases R.own p e c h2 h3 with h | h
    · omega
    · exact h
  have hM2 : ∀ b o v, M b o = some v → M2 b o = some v := by
    intro b o v h
    simp only [M2]
    split
    · rename_i hc
      rcases hc with hc | hc
      · have := R.lt h; omega
      · exact R'.m00 b o v (hMc b o v h)
    · exact h
  -- where the callee's slots go
  let σ := outσ ps L.length
  let π2 : Plc := fun q => match idx ps q with | some i => π' i | none => if q < L.length then π q else if q < L.length + (out.length - ps.length) then π' (ps.length + (q - L.length)) else π q
  let l2 : Sl := fun q => match idx ps q with | some i => renS σ (getS out i) | none => if q < L.length then l q else if q < L.length + (out.length - ps.length) then renS σ (getS out (ps.length + (q - L.length))) else l q
  have hσ : ∀ i s, σ i = some s → (i < ps.length ∧ idx ps s = some i) ∨ (ps.length ≤ i ∧ s = L.length + (i - ps.length) ∧ idx ps s = none) := by
    intro i s h
    simp only [σ, outσ] at h
    split at h
    · rename_i s' hs'
      cases h
      exact .inl ⟨(List.getElem?_eq_some_iff.1 hs').1, idx_of hnd hs'⟩
    · rename_i hnone
      cases h
      refine .inr ⟨by simpa using hnone, rfl, ?_⟩
      cases hq : idx ps (L.length + (i - ps.length)) with
      | none => rfl
      | some j =>
        have := hps _ (List.mem_of_getElem? (idx_get hq))
        omega
  have hgoOut : ∀ i s, σ i = some s → Goes π' π2 (getS out) l2 i s := by
    intro i s h
    have hl2 : getS out i ≠ .hole → l2 s = renS σ (getS out i) ∧ π2 s = π' i := by
      intro hnn
      have hi : i < out.length := by
        rcases Nat.lt_or_ge i out.length with h1 | h1
        · exact h1
        · exact (hnn (getS_none h1)).elim
      rcases hσ i s h with ⟨h1, h2⟩ | ⟨h1, h2, h3⟩
      · exact ⟨by simp only [l2, h2], by simp only [π2, h2]⟩
      · have e : ps.length + (s - L.length) = i := by omega
        refine ⟨?_, ?_⟩
        · simp only [l2, h3]; rw [if_neg (by omega), if_pos (by omega), e]
        · simp only [π2, h3]; rw [if_neg (by omega), if_pos (by omega), e]
    unfold Goes
    cases ho : getS out i with
    | hole => trivial
    | dead => have := hl2 (by rw [ho]; simp); rw [ho] at this; exact this.1
    | obj e c =>
      have := hl2 (by rw [ho]; simp)
      rw [ho] at this
      exact .inl ⟨_, this.1, rens_nil _ c, this.2⟩
  -- values of the callee, seen by the caller
  have hval : ∀ a v, (soft = true → plainA a = true) → VR M' π' (getS out) a v → VR M2 π2 l2 (ren σ a) v := by
    intro a v hp hv
    cases hs : soft with
    | true =>
      exact (hv.plain (M' := fun _ _ => none) (hp hs)).ren (fun b o v h => by cases h) hgoOut
    | false =>
      refine hv.ren (fun b o v h => ?_) hgoOut
      simp only [M2]
      split
      · exact h
      · rename_i hc
        have hb : b < w.heap.size := by omega
        have := R'.m0 b hb (fun hl => hc (.inr ((lentIff b).1 hl)))
        rw [this] at h
        simpa [Mc, hs] using h
  have hst : Step π π2 l l2 := by
    intro s
    cases hi : idx ps s with
    | some i =>
      have hg := idx_get hi
      have hp : s ∈ ps := List.mem_of_getElem? hg
      have h1 := lend_get L ps ps i s hg
      rw [← hnh s (hps s hp)] at h1
      have hπ : π1 i = π s := by simp only [π1]; rw [List.getD_eq_getElem?_getD, hg]; rfl
      have h2 := R'.stp i
      simp only [h1] at h2
      have hl2 : l2 s = renS σ (getS out i) := by simp only [l2, hi]
      have hπ2 : π2 s = π' i := by simp only [π2, hi]
      rw [hl2, hπ2]
      cases hls : l s with
      | hole => trivial
      | dead => rw [hls] at h2; simp only [renS] at h2; rw [h2]; rfl
      | obj e c =>
        rw [hls] at h2
        simp only [renS] at h2
        rcases h2 with ⟨c', k1, k2, k3⟩ | k1
        · exact .inl ⟨rens σ c', by rw [k1]; rfl, (rens_nil (idx ps) c).trans (k2.trans (rens_nil σ c')), by rw [k3, hπ]⟩
        · exact .inr (by rw [k1]; rfl)
    | none =>
      have h1 : l s ≠ .hole → l2 s = l s ∧ π2 s = π s := by
        intro hne'
        by_cases h : s < L.length
        · exact ⟨by simp only [l2, hi, if_pos h], by simp only [π2, hi, if_pos h]⟩
        · by_cases h' : s < L.length + (out.length - ps.length)
          · exact (hne' (hf s (by omega) (by rw [giveBack_length _ _ _ _ hlen]; exact h'))).elim
          · exact ⟨by simp only [l2, hi, if_neg h, if_neg h'], by simp only [π2, hi, if_neg h, if_neg h']⟩
      cases hls : l s with
      | hole => trivial
      | dead => have := h1 (by rw [hls]; simp); rw [this.1, hls]
      | obj e c => have := h1 (by rw [hls]; simp); exact .inl ⟨c, by rw [this.1, hls], Iff.rfl, this.2⟩
  have hgl := fun q => giveBack_get σ ps L out q hnd (fun p hp => Nat.lt_of_lt_of_le (hps p hp) hn0) hlen
  have hmrg : Mrg L (giveBack σ L ps out) l l2 := by
    refine Mrg.of (by rw [giveBack_length _ _ _ _ hlen]; omega) (fun i h h' => ?_) (fun i h h' => ?_) (fun i h h' => ?_) (fun i h => ?_) (fun i h h' => ?_)
    · cases hi : idx ps i with
      | some j =>
        have hp : i ∈ ps := List.mem_of_getElem? (idx_get hi)
        rw [hnh i (hps i hp)] at h'
        exact (hnh' i hp h').elim
      | none => simp only [l2, hi, if_pos h]; exact h'
    · rw [hgl]
      cases hi : idx ps i with
      | some j => simp only [l2, hi]
      | none => simp only [l2, hi, if_pos h]; exact S.old h h'
    · rw [hgl]
      rw [giveBack_length _ _ _ _ hlen] at h'
      cases hi : idx ps i with
      | some j => have := hps i (List.mem_of_getElem? (idx_get hi)); omega
      | none => simp only [l2, hi, if_neg (Nat.not_lt.2 h), if_pos h']
    · rw [giveBack_length _ _ _ _ hlen] at h
      cases hi : idx ps i with
      | some j => have := hps i (List.mem_of_getElem? (idx_get hi)); omega
      | none => simp only [l2, hi]; rw [if_neg (by omega), if_neg (by omega)]
    · rw [hgl]
      cases hi : idx ps i with
      | some j => exact (hnh' i (List.mem_of_getElem? (idx_get hi)) h').elim
      | none => simp only []; rw [if_pos h]; exact h'
  -- an object of the caller behind the call: an old one, or one of the callee's
  have parts : ∀ q e c, l2 q = .obj e c → c ≠ [] → (l q = .obj e c ∧ π2 q = π q ∧ idx ps q = none) ∨
      (∃ i d, getS out i = .obj e d ∧ d ≠ [] ∧ c = rens σ d ∧ π2 q = π' i ∧ σ i = some q) := by
    intro q e c hq hc
    cases hi : idx ps q with
    | some i =>
      simp only [l2, hi] at hq
      obtain ⟨d, h1, h2⟩ := renS_obj hq
      refine .inr ⟨i, d, h1, fun h => hc (by rw [h2]; exact (rens_nil σ d).1 h), h2, by simp only [π2, hi], ?_⟩
      simp only [σ, outσ, idx_get hi]
    | none =>
      by_cases h1 : q < L.length
      · simp only [l2, hi, if_pos h1] at hq
        exact .inl ⟨hq, by simp only [π2, hi, if_pos h1], rfl⟩
      · by_cases h2 : q < L.length + (out.length - ps.length)
        · simp only [l2, hi, if_neg h1, if_pos h2] at hq
          obtain ⟨d, k1, k2⟩ := renS_obj hq
          refine .inr ⟨_, d, k1, fun h => hc (by rw [k2]; exact (rens_nil σ d).1 h), k2, by simp only [π2, hi, if_neg h1, if_pos h2], ?_⟩
          simp only [σ, outσ]
          have : ps[ps.length + (q - L.length)]? = none := List.getElem?_eq_none (by omega)
          rw [this]; simp only [Option.some.injEq]; omega
        · simp only [l2, hi, if_neg h1, if_neg h2] at hq
          exact .inl ⟨hq, by simp only [π2, hi, if_neg h1, if_neg h2], rfl⟩
  have blkOld : ∀ q e c, l q = .obj e c → c ≠ [] → idx ps q = none → (π q).b < w.heap.size ∧ ¬ lb (π q).b := by
    intro q e c h1 h2 h3
    refine ⟨?_, ?_⟩
    · obtain ⟨_, _, g, _⟩ := R.objs q e c h1 h2
      exact (Array.getElem?_eq_some_iff.1 g).1
    · rintro ⟨p, e', c', hp, hl, hc, hb⟩
      have := R.dist p q _ _ _ _ hl h1 hc h2 hb
      subst this
      exact idx_none h3 hp
  have blkNew : ∀ i e d, getS out i = .obj e d → d ≠ [] → w.heap.size ≤ (π' i).b ∨ lb (π' i).b := by
    intro i e d h1 h2
    rcases R'.own i e d h1 h2 with h | h
    · exact .inl h
    · exact .inr ((lentIff _).1 h)
  have heapOld : ∀ b, b < w.heap.size → ¬ lb b → w'.heap[b]? = w.heap[b]? := fun b h1 h2 => R'.stay b h1 (fun hl => h2 ((lentIff b).1 hl))
  refine ⟨M2, π2, l2, hmrg, ?_, hst, hM2, hval r v (fun hs => (hplain hs).1) hvr⟩
  refine ⟨fun q e c hq hc => ?_, fun q q' e e' c c' h1 h2 n1 n2 hb => ?_, fun q e c hq hc o ho => ?_, fun b o x h => ?_, fun b hb hn => ?_, fun b o x h => hM2 b o x (R.m00 b o x h), fun q e c hq hc => ?_, fun b hb hn => ?_,
    Nat.le_trans R.size R'.size, R'.os.trans R.os, R'.tape.trans R.tape, R'.output.trans R.output, R.stp.trans hst⟩
  · rcases parts q e c hq hc with ⟨h1, h2, h3⟩ | ⟨i, d, h1, h2, rfl, h4, h5⟩
    · obtain ⟨g1, g2⟩ := blkOld q e c h1 hc h3
      exact (R.objs q e c h1 hc).mono hM2 hst h2 (heapOld _ g1 g2)
    · exact (R'.objs i e d h1 h2).ren (fun a v ha hv => by
        refine hval a v (fun hs => ?_) hv
        obtain ⟨j, hj, rfl⟩ := List.getElem_of_mem ha
        exact plainAs_get (plainSs_get (hplain hs).2 i e d h1) j _ (List.getElem?_eq_getElem hj)) h4 rfl
  · rcases parts q e c h1 n1 with ⟨a1, a2, a3⟩ | ⟨i, d, a1, a2, rfl, a4, a5⟩ <;> rcases parts q' e' c' h2 n2 with ⟨b1, b2, b3⟩ | ⟨j, d', b1, b2, rfl, b4, b5⟩
    · rw [a2, b2] at hb; exact R.dist q q' _ _ _ _ a1 b1 n1 n2 hb
    · rw [a2, b4] at hb
      obtain ⟨g1, g2⟩ := blkOld q e c a1 n1 a3
      rcases blkNew j _ _ b1 b2 with h | h
      · omega
      · exact (g2 (hb ▸ h)).elim
    · rw [a4, b2] at hb
      obtain ⟨g1, g2⟩ := blkOld q' e' c' b1 n2 b3
      rcases blkNew i _ _ a1 a2 with h | h
      · omega
      · exact (g2 (hb ▸ h)).elim
    · rw [a4, b4] at hb
      have := R'.dist i j _ _ _ _ a1 b1 a2 b2 hb
      subst this
      rw [a5] at b5; exact Option.some.inj b5
  · rcases parts q e c hq hc with ⟨h1, h2, h3⟩ | ⟨i, d, h1, h2, rfl, h4, h5⟩
    · obtain ⟨g1, g2⟩ := blkOld q e c h1 hc h3
      rw [h2] at ho ⊢
      simp only [M2]
      rw [if_neg (by intro h; rcases h with h | h; omega; exact g2 h)]
      exact R.prot q e c h1 hc o ho
    · rw [h4] at ho ⊢
      simp only [M2]
      rw [if_pos (blkNew i _ _ h1 h2)]
      exact R'.prot i e d h1 h2 o ho
  · simp only [M2] at h
    split at h
    · exact R'.mem b o x h
    · rename_i hc
      have hb : b < w.heap.size := by omega
      rw [World.cell?_of_block (w := w) (a := ⟨b, o, none⟩) (heapOld b hb (fun hl => hc (.inr hl)))]
      exact R.mem b o x h
  · have h1 : b < w.heap.size := Nat.lt_of_lt_of_le hb R.size
    simp only [M2]
    rw [if_neg (by intro h; rcases h with h | h; omega; exact hn (hlbC b h hb))]
    exact R.m0 b hb hn
  · rcases parts q e c hq hc with ⟨h1, h2, h3⟩ | ⟨i, d, h1, h2, rfl, h4, h5⟩
    · rw [h2]; exact R.own q e c h1 hc
    · rw [h4]
      rcases blkNew i _ _ h1 h2 with h | h
      · exact .inl (Nat.le_trans R.size h)
      · obtain ⟨p, e', c', hp, hl, hc', hb⟩ := h
        rw [← hb]; exact R.own p e' c' hl hc'
  · have h1 : b < w.heap.size := Nat.lt_of_lt_of_le hb R.size
    rw [heapOld b h1 (fun hl => hn (hlbC b hl hb))]
    exact R.stay b hb hn

end
end Go.Abs
