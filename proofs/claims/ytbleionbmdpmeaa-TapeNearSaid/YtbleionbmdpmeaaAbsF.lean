/- append, copy, len, max, min. -/
import Derived.Test.YtbleionbmdpmeaaAbsE
set_option linter.unusedVariables false
set_option linter.unusedSimpArgs false
namespace Go.Abs
section
variable {M : Mem} {π : Plc} {l : Sl} {L : List Slot} {C : Ctx} {w : World} {P : Program}

theorem growBy_le (n : Nat) : ∀ (r c : Nat), c ≤ 2 * n + 200 → Builtin.growBy n r c ≤ 2 * n + 200
  | 0, c, h => h
  | r + 1, c, h => by
    unfold Builtin.growBy
    split
    · exact h
    · exact growBy_le n r _ (by omega)

theorem next_le (n c : Nat) (h : c < n) : Builtin.nextslicecap n c ≤ 2 * n + 200 := by
  unfold Builtin.nextslicecap
  split
  · omega
  · split
    · omega
    · exact growBy_le n 4 c (by omega)

/-- Objects without cells need no block. -/
theorem MemR.newVoid (R : MemR C M π l w) {p e : Nat} (hp : l p = .hole) : MemR C M π (upd l p (.obj e [])) w ∧ Step π π l (upd l p (.obj e [])) := by
  have hst : Step π π l (upd l p (.obj e [])) := by
    intro i
    by_cases h : i = p
    · subst h; rw [hp]; trivial
    · rw [upd_other l _ h]; exact Step.refl π l i
  have back : ∀ i e' d, upd l p (.obj e []) i = .obj e' d → d ≠ [] → l i = .obj e' d := by
    intro i e' d hi hd
    by_cases h : i = p
    · subst h; rw [upd_same] at hi; injection hi with h1 h2; exact (hd h2.symm).elim
    · rwa [upd_other l _ h] at hi
  refine ⟨⟨?_, ?_, ?_, R.mem, R.m0, R.m00, ?_, R.stay, R.size, R.os, R.tape, R.output, R.stp.trans hst⟩, hst⟩
  · intro i e' d hi hd; exact (R.objs i e' d (back i e' d hi hd) hd).mono (fun _ _ _ h => h) hst rfl rfl
  · intro i j e1 e2 c1 c2 h1 h2 n1 n2 hbb; exact R.dist i j _ _ _ _ (back i _ _ h1 n1) (back j _ _ h2 n2) n1 n2 hbb
  · intro i e' d hi hd o ho; exact R.prot i _ _ (back i _ _ hi hd) hd o ho
  · intro i e' d hi hd; exact R.own i _ _ (back i _ _ hi hd) hd

theorem run_app_room {tb tx ty e : TypeId} {i : TypeInfo} (hu : P.underlying tb = some (.slice e)) (hi : P.info? e = some i) {a : Option Addr} {n cap m : Nat} {x : Value} {vals : Array Value}
    (h1 : (∃ e', P.underlying tx = some (.slice e')) ∨ P.underlying tx = some .string) (hroom : n + m ≤ cap) (hlen : (Builtin.lenOf x).run P w = .ok m w) 
    (hc : (Builtin.firstCells i.size m x).run P w = .ok vals w) {w' : World}
    (hst : ∀ b, a = some b → (storeCells (b.add (n * i.size)) vals.toList).run P w = .ok () w') (hno : a = none → w' = w) :
    (Builtin.append_ #[tb, tx] ty #[.slice a n cap, x]).run P w = .ok (.slice a (n + m) cap) w' := by
  rcases h1 with ⟨e', h1⟩ | h1 <;> unfold Builtin.append_
  all_goals
    simp only [List.getElem?_toArray, List.getElem?_cons_zero, List.getElem?_cons_succ, Sem.run_bind, run_underlying hu, Result.andThen_ok, run_sizeOf w hi, sz_info hi, run_underlying h1, Sem.run_pure, Bool.false_eq_true, if_false, hlen, if_pos hroom, Bool.not_false, if_true, hc]
    cases a with
    | none => rw [hno rfl]; rfl
    | some b => simp only [Sem.run_bind, hst b rfl, Result.andThen_ok, Sem.run_pure]

theorem run_app_grow {tb tx ty e : TypeId} {i : TypeInfo} {z : Value} (hu : P.underlying tb = some (.slice e)) (hi : P.info? e = some i) (hzz : i.zero = some z) {a : Option Addr} {n cap m : Nat} {x : Value} {olds vals : Array Value}
    (h1 : (∃ e', P.underlying tx = some (.slice e')) ∨ P.underlying tx = some .string) (hroom : ¬ n + m ≤ cap) (hlen : (Builtin.lenOf x).run P w = .ok m w) 
    (hc : (Builtin.firstCells i.size m x).run P w.drew = .ok vals w.drew) (ho : (Builtin.firstCells i.size n (.slice a n cap)).run P w.drew = .ok olds w.drew)
    (hm : n + m ≤ most) (hby : i.bytes ≤ 100) :
    (Builtin.append_ #[tb, tx] ty #[.slice a n cap, x]).run P w =
      .ok (.slice (some ⟨w.heap.size, 0, none⟩) (n + m) (grownCap w (n + m) cap e)) (w.drew.alloc (.cells (olds ++ vals ++ Builtin.zeroCells z.cells (grownCap w (n + m) cap e - (n + m))) e)) := by
  have hmax : ¬ (((n + m : Nat) : Int) > IntKind.i64.max ∧ (False ∨ i.bytes = 0)) := by
    have : IntKind.i64.max = 9223372036854775807 := by simp [IntKind.max, IntKind.signed, IntKind.bits]
    rw [this]; unfold most at hm; omega
  have hfit : ¬ (Builtin.nextslicecap (n + m) cap * i.bytes > 2 ^ 48) := by
    have h2 := next_le (n + m) cap (by omega)
    have h3 : Builtin.nextslicecap (n + m) cap * i.bytes ≤ (2 * (n + m) + 200) * 100 := Nat.mul_le_mul h2 hby
    unfold most at hm; omega
  have hg : (Question.appendCap (n + m) cap e).cut (w.tape w.drawn (.appendCap (n + m) cap e)) = grownCap w (n + m) cap e := rfl
  have hd : ({ w with drawn := w.drawn + 1 } : World) = w.drew := rfl
  rcases h1 with ⟨e', h1⟩ | h1 <;> unfold Builtin.append_
  all_goals
    simp only [List.getElem?_toArray, List.getElem?_cons_zero, List.getElem?_cons_succ, Sem.run_bind, run_underlying hu, Result.andThen_ok, run_sizeOf w hi, sz_info hi, run_underlying h1, Sem.run_pure, Bool.false_eq_true, if_false, hlen, if_neg hroom, Bool.not_false, if_true, run_typeInfo w hi, run_typeInfo w.drew hi, if_neg hmax, if_neg hfit, run_choose, Question.forced, run_askRoom, hd, hg, ho, hc, run_zero hi hzz, newRow, run_newObj]
    rfl

theorem run_app_room_zero {tb tx ty e : TypeId} {i : TypeInfo} {z : Value} {k k' : IntKind} (hu : P.underlying tb = some (.slice e)) (hi : P.info? e = some i) (hzz : i.zero = some z) (hsz : z.cells.size = i.size) {a : Option Addr} {n cap m : Nat}
    (h1 : P.underlying tx = some (.int k)) (hroom : n + m ≤ cap) (hm : m ≤ most) (hby : i.bytes ≤ 100) {w' : World}
    (hst : ∀ b, a = some b → (storeCells (b.add (n * i.size)) (madeCells z.cells (m * i.size)).toList).run P w = .ok () w') (hno : a = none → w' = w) :
    (Builtin.append_ #[tb, tx] ty #[.slice a n cap, .int k' m]).run P w = .ok (.slice a (n + m) cap) w' := by
  have hw : IntKind.i64.wrap (m : Int) = m := by rw [IntKind.wrap_i64]; unfold most at hm; omega
  have h0 : ¬ ((m : Int) < 0) := by omega
  have hbig : ¬ ((m : Int) * (i.bytes : Int) > 2 ^ 48) := by
    have : m * i.bytes ≤ 2 ^ 40 * 100 := Nat.mul_le_mul (by unfold most at hm; exact hm) hby
    omega
  have hzc : (if m * i.size = 0 then (pure #[] : Sem (Array Value)) else do pure (Builtin.zeroCells (← zeroValue e).cells m)).run P w = .ok (madeCells z.cells (m * i.size)) w := by
    by_cases h : m * i.size = 0
    · rw [if_pos h, h]; simp [madeCells, Array.range_zero']
    · rw [if_neg h]
      simp only [Sem.run_bind, run_zero (w := w) hi hzz, Result.andThen_ok, Sem.run_pure, Builtin.zeroCells, hsz, madeCells]
  unfold Builtin.append_
  simp only [List.getElem?_toArray, List.getElem?_cons_zero, List.getElem?_cons_succ, Sem.run_bind, run_underlying hu, Result.andThen_ok, run_sizeOf w hi, sz_info hi, run_underlying h1, Sem.run_pure, if_true, asInt, asIntOf, hw, if_neg h0, run_typeInfo w hi, if_neg hbig, Int.toNat_natCast, if_pos hroom, Bool.not_true, Bool.false_eq_true, if_false, hzc]
  cases a with
  | none => rw [hno rfl]; rfl
  | some b => simp only [Sem.run_bind, hst b rfl, Result.andThen_ok, Sem.run_pure]

theorem run_app_grow_zero {tb tx ty e : TypeId} {i : TypeInfo} {z : Value} {k k' : IntKind} (hu : P.underlying tb = some (.slice e)) (hi : P.info? e = some i) (hzz : i.zero = some z) (hsz : z.cells.size = i.size) {a : Option Addr} {n cap m : Nat} {olds : Array Value}
    (h1 : P.underlying tx = some (.int k)) (hroom : ¬ n + m ≤ cap) (ho : (Builtin.firstCells i.size n (.slice a n cap)).run P w.drew = .ok olds w.drew)
    (hm : n + m ≤ most) (hby : i.bytes ≤ 100) :
    (Builtin.append_ #[tb, tx] ty #[.slice a n cap, .int k' m]).run P w =
      .ok (.slice (some ⟨w.heap.size, 0, none⟩) (n + m) (grownCap w (n + m) cap e)) (w.drew.alloc (.cells (olds ++ madeCells z.cells (m * i.size) ++ Builtin.zeroCells z.cells (grownCap w (n + m) cap e - (n + m))) e)) := by
  have hw : IntKind.i64.wrap (m : Int) = m := by rw [IntKind.wrap_i64]; unfold most at hm; omega
  have h0 : ¬ ((m : Int) < 0) := by omega
  have hbig : ¬ ((m : Int) * (i.bytes : Int) > 2 ^ 48) := by
    have : m * i.bytes ≤ 2 ^ 40 * 100 := Nat.mul_le_mul (by unfold most at hm; omega) hby
    omega
  have hzc : (if m * i.size = 0 then (pure #[] : Sem (Array Value)) else do pure (Builtin.zeroCells (← zeroValue e).cells m)).run P w.drew = .ok (madeCells z.cells (m * i.size)) w.drew := by
    by_cases h : m * i.size = 0
    · rw [if_pos h, h]; simp [madeCells, Array.range_zero']
    · rw [if_neg h]
      simp only [Sem.run_bind, run_zero (w := w.drew) hi hzz, Result.andThen_ok, Sem.run_pure, Builtin.zeroCells, hsz, madeCells]
  have hmax : ¬ (((n + m : Nat) : Int) > IntKind.i64.max ∧ (True ∨ i.bytes = 0)) := by
    have : IntKind.i64.max = 9223372036854775807 := by simp [IntKind.max, IntKind.signed, IntKind.bits]
    rw [this]; unfold most at hm; omega
  have hfit : ¬ (Builtin.nextslicecap (n + m) cap * i.bytes > 2 ^ 48) := by
    have h2 := next_le (n + m) cap (by omega)
    have h3 : Builtin.nextslicecap (n + m) cap * i.bytes ≤ (2 * (n + m) + 200) * 100 := Nat.mul_le_mul h2 hby
    unfold most at hm; omega
  have hg : (Question.appendCap (n + m) cap e).cut (w.tape w.drawn (.appendCap (n + m) cap e)) = grownCap w (n + m) cap e := rfl
  have hd : ({ w with drawn := w.drawn + 1 } : World) = w.drew := rfl
  unfold Builtin.append_
  simp only [List.getElem?_toArray, List.getElem?_cons_zero, List.getElem?_cons_succ, Sem.run_bind, run_underlying hu, Result.andThen_ok, run_sizeOf w hi, sz_info hi, run_underlying h1, Sem.run_pure, if_true, asInt, asIntOf, hw, if_neg h0, run_typeInfo w hi, run_typeInfo w.drew hi, if_neg hbig, Int.toNat_natCast, if_neg hroom, Bool.not_true, Bool.false_eq_true, if_false, if_neg hmax, if_neg hfit, run_choose, Question.forced, run_askRoom, hd, hg, ho, hzc, run_zero (w := w.drew) hi hzz, newRow, run_newObj]
  rfl

/-- What append comes to, told of the base alone. -/
structure AppRun (w : World) (e : TypeId) (esz m : Nat) (z : Array Value) (vals : Array Value) (P : Program) (run : Value → Result Value) : Prop where
  room : ∀ (a : Option Addr) (n cap : Nat) (w' : World), n + m ≤ cap → (∀ b, a = some b → (storeCells (b.add (n * esz)) vals.toList).run P w = .ok () w') → (a = none → w' = w) →
    run (.slice a n cap) = .ok (.slice a (n + m) cap) w'
  grow : ∀ (a : Option Addr) (n cap : Nat) (olds : Array Value), ¬ n + m ≤ cap → (Builtin.firstCells esz n (.slice a n cap)).run P w.drew = .ok olds w.drew → n + m ≤ most →
    ∃ c', n + m ≤ c' ∧ run (.slice a n cap) = .ok (.slice (some ⟨w.heap.size, 0, none⟩) (n + m) c') (w.drew.alloc (.cells (olds ++ vals ++ Builtin.zeroCells z (c' - (n + m))) e))

theorem VRs.append {as bs : List AVal} {vs ws : Array Value} (h : VRs M π l as vs) (h' : VRs M π l bs ws) : VRs M π l (as ++ bs) (vs ++ ws) := by
  refine ⟨by simp [h.1, h'.1], fun i a hi => ?_⟩
  rw [Array.getD_eq_getD_getElem?]
  by_cases hl : i < as.length
  · rw [List.getElem?_append_left hl] at hi
    rw [Array.getElem?_append_left (by rw [← h.1]; exact hl), ← Array.getD_eq_getD_getElem?]
    exact h.2 i a hi
  · rw [List.getElem?_append_right (by omega)] at hi
    rw [Array.getElem?_append_right (by rw [← h.1]; omega), ← Array.getD_eq_getD_getElem?, ← h.1]
    exact h'.2 _ a hi

theorem ref_new_at {q e n cap z : Nat} {c : List AVal} (hn : n ≤ cap) (hz : cap * e ≤ z) (hc : c = [] → n = 0 ∧ cap = 0) (h : Nat) :
    VR M (updP π q ⟨h, 0, z⟩) (upd l q (.obj e c)) (.ref q 0 n) (.slice (some ⟨h, 0, none⟩) n cap) := by
  by_cases hcc : c = []
  · obtain ⟨rfl, rfl⟩ := hc hcc
    subst hcc
    exact .refVoid _ 0 e _ (upd_same _ _ _)
  · have := VR.ref (M := M) (π := updP π q ⟨h, 0, z⟩) (l := upd l q (.obj e c)) q 0 n e 0 cap c (upd_same _ _ _) hcc hn (by rw [updP_same]; exact .inl rfl) (by rw [updP_same]; simpa using hz)
    rw [updP_same] at this; exact this

theorem append_empty (R : MemR C M π l w) {q : Nat} (hk : C.k ≤ q) (hf : l q = .hole) {e esz m : Nat} {z vals : Array Value} {run : Value → Result Value} (hr : AppRun w e esz m z vals P run) (hzs : z.size = esz)
    {new : List AVal} (hv : VRs M π l new vals) (hnl : new.length = m * esz) (a : Option Addr) (hm : m ≤ most) (he : 0 < esz) :
      ∃ cv w' π', run (.slice a 0 0) = .ok cv w' ∧ MemR C M π' (upd l q (.obj esz new)) w' ∧ Step π π' l (upd l q (.obj esz new)) ∧ VR M π' (upd l q (.obj esz new)) (.ref q 0 m) cv := by
  by_cases h0 : m = 0
  · subst h0
    have hn : new = [] := List.eq_nil_of_length_eq_zero (by simpa using hnl)
    subst hn
    have hvals : vals = #[] := by have := hv.1; simp at this; exact Array.eq_empty_of_size_eq_zero this.symm
    subst hvals
    obtain ⟨g1, g2⟩ := R.newVoid (e := esz) hf
    refine ⟨_, w, π, hr.room a 0 0 w (by omega) (fun b hb => rfl) (fun _ => rfl), g1, g2, .refVoid _ _ esz _ (upd_same _ _ _)⟩
  · have hold : (Builtin.firstCells esz 0 (.slice a 0 0)).run P w.drew = .ok #[] w.drew := by
      cases a with
      | none => rfl
      | some a => simp only [Builtin.firstCells, Nat.zero_mul, loadCells_zero]
    obtain ⟨c', hc', hrun⟩ := hr.grow a 0 0 #[] (by omega) hold (by omega)
    have hsz : (#[] ++ vals ++ Builtin.zeroCells z (c' - (0 + m))).size = c' * esz := by
      simp only [Array.size_append, size_zeroCells, hzs, ← hv.1, hnl, Array.size_empty, Nat.zero_add]
      rw [← Nat.add_mul, show m + (c' - m) = c' from by omega]
    have hcv : ∀ i x, new[i]? = some x → VR M π l x ((#[] ++ vals ++ Builtin.zeroCells z (c' - (0 + m))).getD i undef) := by
      intro i x hi
      have hlt : i < vals.size := by rw [← hv.1]; exact (List.getElem?_eq_some_iff.1 hi).1
      have := hv.2 i x hi
      rw [Array.getD_eq_getD_getElem?] at this ⊢
      rw [Array.getElem?_append_left (by simpa using hlt)]
      simpa using this
    have g1 := R.drew.new (e := esz) (ty := e) hf hk (c := new) (cs := #[] ++ vals ++ Builtin.zeroCells z (c' - (0 + m))) (by rw [hsz, hnl]; exact Nat.mul_le_mul_right _ (by omega)) hcv
    refine ⟨_, _, _, hrun, g1, Step.new hf _ _, ?_⟩
    rw [show 0 + m = m from by omega]
    refine ref_new_at (by omega) (by rw [show 0 + m = m from by omega] at hsz; rw [hsz]; exact Nat.le_refl _) (fun hc => ?_) _
    have : m * esz = 0 := by rw [← hnl, hc]; rfl
    rcases Nat.mul_eq_zero.1 this with h | h <;> omega

theorem appendA_sound (R : MemR C M π l w) (S : Sub L l) (hk : C.k ≤ L.length) (hf : l L.length = .hole) {e esz eb m : Nat} {z vals : Array Value} {run : Value → Result Value} (hr : AppRun w e esz m z vals P run) (hzs : z.size = esz)
    {bx : AVal} {cb : Value} (hb : VR M π l bx cb) {new : List AVal} (hv : VRs M π l new vals) (hnl : new.length = m * esz) {p : Prop} {v : AVal} {L' : List Slot} (h : appendA L esz eb bx m new = some (p, v, L')) (hp : p) :
    ∃ cv w' π' l', run cb = .ok cv w' ∧ Mrg L L' l l' ∧ MemR C M π' l' w' ∧ Step π π' l l' ∧ VR M π' l' v cv := by
  have empty := fun a hm he => append_empty (P := P) R hk hf hr hzs hv hnl a hm he
  unfold appendA at h
  split at h <;> cases h
  · cases hb with | imm hb =>
    cases hb with
    | lst g b o n cap c f hg hn hm hc => rcases hg with h | h <;> cases h
    | nil =>
    obtain ⟨cv, w', π', g1, g2, g3, g4⟩ := empty none hp.1 hp.2.2
    exact ⟨cv, w', π', _, g1, Mrg.new1 S _, g2, g3, g4⟩
  · cases hb with | imm hb =>
    cases hb with
    | lst g b o n cap c f hg hn hm hc => rcases hg with h | h <;> cases h
    | void a =>
    obtain ⟨cv, w', π', g1, g2, g3, g4⟩ := empty a hp.1 hp.2.2
    exact ⟨cv, w', π', _, g1, Mrg.new1 S _, g2, g3, g4⟩
  · rename_i s o n
    obtain ⟨⟨h1, h2, h3, h4⟩, ⟨h5, h6, h7⟩, h8⟩ := hp
    obtain ⟨e', c, k1, k2, k3⟩ := live_ref S hb h1
    rw [eszOf, k2] at h2; simp only at h2; subst h2
    rw [cells_live k2] at h3 h4 ⊢
    have hsn : s ≠ L.length := by have := live_lt h1; omega
    rcases k3 with ⟨hc, x, cap, rfl, hn, hy, hz⟩ | ⟨rfl, rfl, a, rfl⟩
    · -- a base with cells
      have h4 := h4.resolve_left hc
      have hlen : (c.drop o ++ new).length = (n + m) * e' := by rw [List.length_append, List.length_drop, hnl, Nat.add_mul]; omega
      have hne : c.drop o ++ new ≠ [] := by
        intro h
        have : (n + m) * e' = 0 := by rw [← hlen, h]; rfl
        rcases Nat.mul_eq_zero.1 this with h | h <;> omega
      obtain ⟨cs, ty, hb1, hb2, hb3, hb4⟩ := R.objs s e' c k1 hc
      by_cases hroom : n + m ≤ cap
      · -- there is room
        have hyy : (π s).o + o = x := by
          rcases hy with hy | ⟨rfl, rfl⟩
          · exact hy
          · omega
        have hfit : (n + m) * e' ≤ cap * e' := Nat.mul_le_mul_right _ hroom
        have hfit2 : (n + m) * e' = n * e' + m * e' := Nat.add_mul _ _ _
        have hvl : vals.toList.length = m * e' := by have := hv.1; simp; omega
        have hst := run_storeCells_at P (π s).b (x + n * e') ty vals.toList 0 cs w hb1 (by rw [hvl]; omega) (all_solid S hv h8)
        simp only [Nat.add_zero] at hst
        have hrun := hr.room (some ⟨(π s).b, x, none⟩) n cap _ hroom (fun b hb => by cases hb; rw [addr_add]; exact hst) (fun h => by cases h)
        have hsz : (cs.toList.take (x + n * e') ++ vals.toList ++ cs.toList.drop (x + n * e' + vals.toList.length)).length = cs.size := by
          rw [List.length_append, List.length_append, List.length_take, List.length_drop, hvl]; simp; omega
        have hget : ∀ j, (cs.toList.take (x + n * e') ++ vals.toList ++ cs.toList.drop (x + n * e' + vals.toList.length)).toArray.getD j undef =
            if x + n * e' ≤ j ∧ j < x + n * e' + m * e' then vals.getD (j - (x + n * e')) undef else cs.getD j undef := by
          intro j
          rw [Array.getD_eq_getD_getElem?, List.getElem?_toArray]
          have hA : (cs.toList.take (x + n * e')).length = x + n * e' := by rw [List.length_take]; simp; omega
          have hB : (cs.toList.take (x + n * e') ++ vals.toList).length = x + n * e' + m * e' := by rw [List.length_append, hA, hvl]
          by_cases c1 : j < x + n * e'
          · rw [List.getElem?_append_left (by omega), List.getElem?_append_left (by omega), List.getElem?_take_of_lt c1, if_neg (by omega), Array.getD_eq_getD_getElem?]; simp
          · by_cases c2 : j < x + n * e' + m * e'
            · rw [List.getElem?_append_left (by omega), List.getElem?_append_right (by omega), hA, if_pos (by omega), Array.getD_eq_getD_getElem?]; simp
            · rw [List.getElem?_append_right (by omega), hB, List.getElem?_drop, hvl, if_neg (by omega), show x + n * e' + m * e' + (j - (x + n * e' + m * e')) = j from by omega, Array.getD_eq_getD_getElem?]; simp
        generalize hW : (cs.toList.take (x + n * e') ++ vals.toList ++ cs.toList.drop (x + n * e' + vals.toList.length)).toArray = W at hrun hget
        have hWsz : W.size = (π s).z := by rw [← hW, ← hb2]; simpa using hsz
        have R1 : MemR C M π (upd l s (.obj e' c)) (w.setRow (π s).b W) := by
          refine R.set k1 hc rfl hWsz (fun i a hi => ?_) (fun cs' ty' fr hb' o' ho' => ?_)
          · have := (List.getElem?_eq_some_iff.1 hi).1
            rw [hget, if_neg (by omega)]; exact hb4 i a hi
          · rw [hb1] at hb'; injection hb' with hb'; injection hb' with q1 q2 q3; subst q1
            rw [hget, if_neg (by omega)]
        have hsame : upd l s (.obj e' c) = l := by
          funext i
          by_cases h : i = s
          · subst h; rw [upd_same, k1]
          · rw [upd_other l _ h]
        rw [hsame] at R1
        have hrow := setRow_heap w (π s).b cs W ty (0, 0) hb1
        obtain ⟨R2, hst2⟩ := R1.adopt (e' := e') (c' := c.drop o ++ new) k1 hc hf hk (o := (π s).o + o) (by omega) (by rw [hlen]; omega) (fun cs' ty' fr hb' i a hi => by
          rw [hrow] at hb'; injection hb' with hb'; injection hb' with q1 q2 q3; subst q1
          rw [hget]
          have hdl : (c.drop o).length = n * e' := by rw [List.length_drop]; omega
          by_cases hl : i < n * e'
          · rw [List.getElem?_append_left (by omega), List.getElem?_drop] at hi
            rw [if_neg (by omega), show (π s).o + o + i = (π s).o + (o + i) from by omega]
            exact hb4 _ a hi
          · rw [List.getElem?_append_right (by omega), hdl] at hi
            have := (List.getElem?_eq_some_iff.1 hi).1
            rw [if_pos (by omega), show (π s).o + o + i - (x + n * e') = i - n * e' from by omega]
            exact hv.2 _ a hi)
        refine ⟨_, _, _, _, hrun, Mrg.setNew S (live_lt h1) (by rw [k1]; simp) _ _, R2, hst2, ?_⟩
        have := VR.ref (M := M) (π := updP π L.length ⟨(π s).b, (π s).o + o, (π s).z⟩) (l := upd (upd l s .dead) L.length (.obj e' (c.drop o ++ new))) L.length 0 (n + m) e' x cap _ (upd_same _ _ _) hne hroom
          (by rw [updP_same]; exact .inl (by simpa using hyy)) (by rw [updP_same]; exact hz)
        rw [updP_same] at this; exact this
      · -- a new block
        have hcell : ∀ j, j < n * e' → ∃ v, w.cell? ⟨(π s).b, (π s).o + o + j, none⟩ = some v ∧ VR M π l (getT c (o + j)) v := by
          intro j hj
          obtain ⟨v, q1, q2, _⟩ := R.cell k1 (show o + j < c.length by omega)
          exact ⟨v, by rw [Nat.add_assoc]; exact q1, q2⟩
        have hch : ∃ f : Nat → Value, ∀ j, j < n * e' → w.cell? ⟨(π s).b, (π s).o + o + j, none⟩ = some (f j) ∧ VR M π l (getT c (o + j)) (f j) := by
          refine ⟨fun j => if h : j < n * e' then Classical.choose (hcell j h) else undef, fun j hj => ?_⟩
          simp only [hj, dif_pos]
          exact Classical.choose_spec (hcell j hj)
        obtain ⟨f, hf'⟩ := hch
        have hold : (Builtin.firstCells e' n (.slice (some ⟨(π s).b, x, none⟩) n cap)).run P w.drew = .ok ((List.range (n * e')).map f).toArray w.drew := by
          simp only [Builtin.firstCells]
          rcases hy with hy | ⟨rfl, rfl⟩
          · rw [← hy]; exact run_loadCells_at (w := w.drew) (fun j hj => (hf' j hj).1)
          · simp only [Nat.zero_mul, List.range_zero, List.map_nil, loadCells_zero]
        have holdV : VRs M π l (c.drop o) ((List.range (n * e')).map f).toArray := by
          refine ⟨by simp; omega, fun i a hi => ?_⟩
          have hi' : i < n * e' := by
            have := (List.getElem?_eq_some_iff.1 hi).1
            simp at this; omega
          rw [toArray_getD _ _ _ hi']
          have q := (hf' i hi').2
          rw [List.getElem?_drop] at hi
          rwa [getT_some hi] at q
        obtain ⟨c', hc', hrun⟩ := hr.grow (some ⟨(π s).b, x, none⟩) n cap _ hroom hold h5
        have hall := VRs.append holdV hv
        generalize hA : ((List.range (n * e')).map f).toArray ++ vals = A at hrun hall
        have hAs : A.size = (n + m) * e' := by rw [← hall.1, hlen]
        have hsz : (A ++ Builtin.zeroCells z (c' - (n + m))).size = c' * e' := by
          rw [Array.size_append, size_zeroCells, hzs, hAs, ← Nat.add_mul, show n + m + (c' - (n + m)) = c' from by omega]
        have R0 := (R.drew).kill k1
        have hst0 : Step π π l (upd l s .dead) := Step.kill k1
        have hf0 : (upd l s .dead) L.length = .hole := by rw [upd_other l _ (Ne.symm hsn)]; exact hf
        have g1 := R0.new (e := e') (ty := e) hf0 hk (c := c.drop o ++ new) (cs := A ++ Builtin.zeroCells z (c' - (n + m))) (by rw [hsz, hlen]; exact Nat.mul_le_mul_right _ (by omega)) (fun i a hi => by
          have hlt : i < A.size := by rw [← hall.1]; exact (List.getElem?_eq_some_iff.1 hi).1
          have := hall.2 i a hi
          rw [Array.getD_eq_getD_getElem?] at this ⊢
          rw [Array.getElem?_append_left hlt]
          exact this.mono (fun _ _ _ h => h) hst0)
        refine ⟨_, _, _, _, hrun, Mrg.setNew S (live_lt h1) (by rw [k1]; simp) _ _, g1, hst0.trans (Step.new hf0 _ _), ?_⟩
        have := VR.ref (M := M) (π := updP π L.length ⟨w.heap.size, 0, c' * e'⟩) (l := upd (upd l s .dead) L.length (.obj e' (c.drop o ++ new))) L.length 0 (n + m) e' 0 c' _ (upd_same _ _ _) hne hc'
          (by rw [updP_same]; exact .inl rfl) (by rw [updP_same]; simp)
        rw [updP_same] at this
        rw [hsz]; exact this
    · -- a base that is empty
      have ho : o = 0 := by simpa using h3
      subst ho
      have hst0 : Step π π l (upd l s .dead) := Step.kill k1
      have hf0 : (upd l s .dead) L.length = .hole := by rw [upd_other l _ (Ne.symm hsn)]; exact hf
      obtain ⟨cv, w', π', g1, g2, g3, g4⟩ := append_empty (P := P) (R.kill k1) hk hf0 hr hzs (hv.mono (fun _ _ _ h => h) hst0) hnl a (by omega) h7
      refine ⟨cv, w', π', _, g1, Mrg.setNew S (live_lt h1) (by rw [k1]; simp) _ _, ?_, hst0.trans ?_, ?_⟩
      · simpa using g2
      · simpa using g3
      · simpa using g4

end
end Go.Abs
