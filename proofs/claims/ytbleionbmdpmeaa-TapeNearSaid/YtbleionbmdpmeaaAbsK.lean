/- Regions whose order is open: whatever order is drawn, what comes out is what the text's order gives. -/
import Derived.Test.YtbleionbmdpmeaaAbsJ
import Derived.Orders
set_option linter.unusedVariables false
set_option linter.unusedSimpArgs false
namespace Go.Abs

/-- what is known of an operation's being wanted -/
def gv (all : List Oper) (t : List AVal) (o : Oper) : Option Bool :=
  match o.guard with
  | none => some true
  | some (g, want) => match (nthO all g).bind (·.dst) with
    | some d => match getT t d with
      | .imm (.bool b) => some (b == want)
      | .tup [] => some false
      | _ => none
    | none => some false

/-- The run of a region in the text's order. -/
structure Trace (P : Program) (R : Rets) (n0 : Nat) (all : List Oper) (ws : WK) (i0 n : Nat) (T : Nat → List AVal) (LS : Nat → List Slot) (V : Nat → AVal) (W : Nat → Bool) : Prop where
  step : ∀ i o, i0 ≤ i → i < n → all[i]? = some o → gv all (T i) o = some (W i) ∧ T (i + 1) = putD (T i) o.dst (V i) ∧
    (W i = true → Aeff P R n0 (ev (T i)) (LS i) o.op (V i) (LS (i + 1)) ∧ (ws.contains i = true ∧ keeps (LS i) (LS (i + 1)) ws.F ∨ LS (i + 1) = LS i ++ (LS (i + 1)).drop (LS i).length) ∧ (ws.qs.contains i = true → quiet ws.F (ev (T i)) o.op)) ∧
    (W i = false → V i = und ∧ LS (i + 1) = LS i)

theorem trace_of {P : Program} {R : Rets} {n0 : Nat} {all : List Oper} {ws : WK} {K : List AVal → List Slot → Prop} : ∀ (rest : List Oper) (i : Nat) (t : List AVal) (L : List Slot), all.drop i = rest →
    aopsD P R n0 all ws i rest t L K → ∃ T LS V W, T i = t ∧ LS i = L ∧ Trace P R n0 all ws i (i + rest.length) T LS V W ∧ K (T (i + rest.length)) (LS (i + rest.length))
  | [], i, t, L, hd, h => ⟨fun _ => t, fun _ => L, fun _ => und, fun _ => true, rfl, rfl, ⟨fun j o h1 h2 => by simp at h2; omega⟩, h⟩
  | o :: rest, i, t, L, hd, h => by
    have ho : all[i]? = some o := by
      have := congrArg (fun l => l[0]?) hd
      simpa [List.getElem?_drop] using this
    have hd' : all.drop (i + 1) = rest := by rw [← List.drop_drop, hd]; rfl
    have glue : ∀ (v : AVal) (L' : List Slot) (wd : Bool), gv all t o = some wd →
        (wd = true → Aeff P R n0 (ev t) L o.op v L' ∧ (ws.contains i = true ∧ keeps L L' ws.F ∨ L' = L ++ L'.drop L.length) ∧ (ws.qs.contains i = true → quiet ws.F (ev t) o.op)) → (wd = false → v = und ∧ L' = L) →
        aopsD P R n0 all ws (i + 1) rest (putD t o.dst v) L' K →
        ∃ T LS V W, T i = t ∧ LS i = L ∧ Trace P R n0 all ws i (i + (o :: rest).length) T LS V W ∧ K (T (i + (o :: rest).length)) (LS (i + (o :: rest).length)) := by
      intro v L' wd hg h1 h2 h3
      obtain ⟨T, LS, V, W, a1, a2, a3, a4⟩ := trace_of rest (i + 1) _ _ hd' h3
      have e : i + (o :: rest).length = i + 1 + rest.length := by simp; omega
      refine ⟨fun j => if j = i then t else T j, fun j => if j = i then L else LS j, fun j => if j = i then v else V j, fun j => if j = i then wd else W j, by simp, by simp, ⟨fun j o' hj1 hj2 hj3 => ?_⟩, ?_⟩
      · by_cases hji : j = i
        · subst hji
          rw [ho] at hj3; cases hj3
          simp only [if_true, show ¬ (j + 1 = j) from by omega, if_false, a1, a2]
          exact ⟨hg, trivial, h1, h2⟩
        · simp only [if_neg hji, show ¬ (j + 1 = i) from by omega, if_false]
          exact a3.step j o' (by omega) (by omega) hj3
      · rw [e]; simp only [show ¬ (i + 1 + rest.length = i) from by omega, if_false]; exact a4
    have yes : gv all t o = some true → aop P R n0 false o.op t L (fun v L' => ((ws.contains i = true ∧ keeps L L' ws.F ∨ L' = L ++ L'.drop L.length) ∧ (ws.qs.contains i = true → quiet ws.F (ev t) o.op)) ∧ aopsD P R n0 all ws (i + 1) rest (putD t o.dst v) L' K) →
        ∃ T LS V W, T i = t ∧ LS i = L ∧ Trace P R n0 all ws i (i + (o :: rest).length) T LS V W ∧ K (T (i + (o :: rest).length)) (LS (i + (o :: rest).length)) := by
      intro hg h
      obtain ⟨v, L', h1, h2, h3⟩ := aeff_of_aop h
      exact glue v L' true hg (fun _ => ⟨h1, h2.1, h2.2⟩) (fun h => by cases h) h3
    simp only [aopsD] at h
    split at h
    · rename_i hg
      exact yes (by simp [gv, hg]) h
    · rename_i g hg
      unfold wants at h
      split at h
      · rename_i d hd1
        split at h
        · rename_i b hb
          by_cases e : b = g.2
          · exact yes (by simp [gv, hg, hd1, hb, e]) (h.1 e)
          · refine glue und L false (by simp [gv, hg, hd1, hb, e]) (fun h => by cases h) (fun _ => ⟨rfl, rfl⟩) (h.2 ?_)
            cases b <;> cases hq : g.2 <;> simp [hq] at e ⊢
        · rename_i hb
          exact glue und L false (by simp [gv, hg, hd1, hb]) (fun h => by cases h) (fun _ => ⟨rfl, rfl⟩) h
        · exact h.elim
      · rename_i hd1
        exact glue und L false (by simp [gv, hg, hd1]) (fun h => by cases h) (fun _ => ⟨rfl, rfl⟩) h

/-! ### What waits for what -/

def befs (all : List Oper) (j : Nat) : Nat := (befores all []).getD j 0

theorem befores_get : ∀ (l : List Oper) (acc : List Nat) (i : Nat), i < acc.length → (befores l acc).getD i 0 = acc.getD i 0
  | [], acc, i, h => rfl
  | o :: l, acc, i, h => by
    simp only [befores]
    rw [befores_get l _ i (by simp; omega)]
    simp only [List.getD_eq_getElem?_getD]
    rw [List.getElem?_append_left h]

theorem fold_bit (acc : List Nat) (x : Nat) : ∀ (es : List Edge) (s : Nat), (es.foldl (fun s e => if Region.binds .any e then s ||| 2 ^ e.on ||| acc.getD e.on 0 else s) s).testBit x = true →
    s.testBit x = true ∨ ∃ e ∈ es, Region.binds .any e = true ∧ (e.on = x ∨ (acc.getD e.on 0).testBit x = true)
  | [], s, h => .inl h
  | e :: es, s, h => by
    simp only [List.foldl_cons] at h
    rcases fold_bit acc x es _ h with h1 | ⟨e', h1, h2⟩
    · split at h1
      · rename_i hb
        simp only [Nat.testBit_or, Bool.or_eq_true] at h1
        rcases h1 with (h1 | h1) | h1
        · exact .inl h1
        · refine .inr ⟨e, by simp, hb, .inl ?_⟩
          rw [Nat.testBit_two_pow] at h1
          simpa using h1
        · exact .inr ⟨e, by simp, hb, .inr h1⟩
      · exact .inl h1
    · exact .inr ⟨e', by simp [h1], h2⟩

/-- A bit of what an operation waits for: an edge leads to it, or to one that waits for it. -/
theorem befores_bit : ∀ (l : List Oper) (acc : List Nat) (j : Nat) (o : Oper), l[j]? = some o → ∀ x, ((befores l acc).getD (acc.length + j) 0).testBit x = true →
    ∃ e ∈ o.after.toList, Region.binds .any e = true ∧ (e.on = x ∨ ((befores l acc).getD e.on 0).testBit x = true ∧ e.on < acc.length + j)
  | [], acc, j, o, h, _, _ => by simp at h
  | a :: l, acc, 0, o, h, x, hx => by
    simp at h; subst h
    simp only [befores, Nat.add_zero] at hx ⊢
    rw [befores_get l _ acc.length (by simp)] at hx
    simp only [List.getD_eq_getElem?_getD] at hx
    rw [List.getElem?_append_right (Nat.le_refl _)] at hx
    simp only [Nat.sub_self, List.getElem?_cons_zero, Option.getD_some] at hx
    rw [← Array.foldl_toList] at hx
    have hx' := fold_bit acc x a.after.toList 0 (by simpa [List.getD_eq_getElem?_getD] using hx)
    rcases hx' with h1 | ⟨e, h1, h2, h3⟩
    · simp at h1
    · refine ⟨e, h1, h2, ?_⟩
      rcases h3 with h3 | h3
      · exact .inl h3
      · right
        have hlt : e.on < acc.length := by
          rcases Nat.lt_or_ge e.on acc.length with h | h
          · exact h
          · rw [List.getD_eq_getElem?_getD, List.getElem?_eq_none h] at h3; simp at h3
        refine ⟨?_, hlt⟩
        rw [befores_get l _ _ (by simp; omega), List.getD_eq_getElem?_getD, List.getElem?_append_left hlt, ← List.getD_eq_getElem?_getD]; exact h3
  | a :: l, acc, j + 1, o, h, x, hx => by
    simp only [befores] at hx ⊢
    have := befores_bit l (acc ++ [a.after.foldl (fun s e => if Region.binds .any e then s ||| 2 ^ e.on ||| acc.getD e.on 0 else s) 0]) j o (by simpa using h) x (by
      rw [show (acc ++ [a.after.foldl (fun s e => if Region.binds .any e then s ||| 2 ^ e.on ||| acc.getD e.on 0 else s) 0]).length + j = acc.length + (j + 1) from by simp; omega]; exact hx)
    obtain ⟨e, h1, h2, h3⟩ := this
    refine ⟨e, h1, h2, ?_⟩
    rcases h3 with h3 | ⟨h3, h4⟩
    · exact .inl h3
    · exact .inr ⟨h3, by simp at h4; omega⟩

theorem befs_bit {all : List Oper} {j : Nat} {o : Oper} (ho : all[j]? = some o) {x : Nat} (h : (befs all j).testBit x = true) :
    ∃ e ∈ o.after.toList, Region.binds .any e = true ∧ (e.on = x ∨ (befs all e.on).testBit x = true ∧ e.on < j) := by
  have := befores_bit all [] j o ho x (by simpa [befs] using h)
  simpa [befs] using this

/-- A set that holds what its elements wait for holds it at any remove. -/
theorem closed_bit {all : List Oper} {S : Nat → Prop} (hS : ∀ j o, S j → all[j]? = some o → ∀ e ∈ o.after.toList, Region.binds .any e = true → S e.on) :
    ∀ (j : Nat), ∀ o, all[j]? = some o → (∀ e ∈ o.after.toList, Region.binds .any e = true → S e.on) → ∀ x, (befs all j).testBit x = true → S x := by
  intro j
  induction j using Nat.strongRecOn with
  | _ j ih =>
    intro o ho he x hx
    obtain ⟨e, h1, h2, h3⟩ := befs_bit ho hx
    rcases h3 with rfl | ⟨h3, h4⟩
    · exact he e h1 h2
    · have hj : j < all.length := (List.getElem?_eq_some_iff.1 ho).1
      have heo : all[e.on]? = some all[e.on] := List.getElem?_eq_getElem (by omega)
      exact ih e.on h4 _ heo (hS e.on _ (he e h1 h2) heo) x h3

/-! ### Temporaries behind a part of the operations -/

def dstOf (all : List Oper) (i : Nat) : Option Nat := (all[i]?).bind (·.dst)

def tx (all : List Oper) (T0 : List AVal) (V : Nat → AVal) (S : Nat → Bool) : Nat → List AVal
  | 0 => T0
  | i + 1 => if S i = true then putD (tx all T0 V S i) (dstOf all i) (V i) else tx all T0 V S i

theorem tx_length (all : List Oper) (T0 : List AVal) (V : Nat → AVal) (S : Nat → Bool) : ∀ i, (tx all T0 V S i).length = T0.length
  | 0 => rfl
  | i + 1 => by simp only [tx]; split <;> simp [putD_length, tx_length all T0 V S i]

theorem getT_put (t : List AVal) (d : Option Nat) (v : AVal) (u : Nat) : getT (putD t d v) u = if d = some u ∧ u < t.length then v else getT t u := by
  cases d with
  | none => simp [putD]
  | some d =>
    simp only [putD, putT_eq, getT_eq, List.getD_eq_getElem?_getD, List.getElem?_set]
    by_cases e : d = u
    · subst e
      by_cases h : d < t.length
      · rw [if_pos rfl, if_pos h, if_pos ⟨rfl, h⟩]; rfl
      · rw [if_pos rfl, if_neg h, if_neg (fun h' => h h'.2), List.getElem?_eq_none (by omega)]
    · rw [if_neg e, if_neg (fun h' => e (Option.some.inj h'.1))]

theorem putD_comm {t : List AVal} {d d' : Option Nat} {v v' : AVal} (h : ∀ u, d = some u → d' ≠ some u) : putD (putD t d v) d' v' = putD (putD t d' v') d v := by
  cases d with
  | none => rfl
  | some d =>
    cases d' with
    | none => rfl
    | some d' =>
      simp only [putD, putT_eq]
      have : d ≠ d' := by intro e; subst e; exact h d rfl rfl
      rw [List.set_comm _ _ this]

structure Ord (all : List Oper) (ws : WK) : Prop where
  pair : ∀ i j x y, i < j → all[i]? = some x → all[j]? = some y → (befs all j).testBit i = true ∨
    (apartO all x y = true ∧ (ws.contains i = true → ws.pure j y.op = true) ∧ (ws.contains j = true → ws.pure i x.op = true))
  back : ∀ j o, all[j]? = some o → ∀ e ∈ o.after.toList, Region.binds .any e = true → e.on < j

theorem ord_of {all : List Oper} {ws : WK} (h : drawOk all ws = true) (h' : afterOk all = true) : Ord all ws := by
  refine ⟨fun i j x y hij hx hy => ?_, fun j o ho e he hb => ?_⟩
  · have hj : j < all.length := (List.getElem?_eq_some_iff.1 hy).1
    simp only [drawOk, List.all_eq_true, List.mem_range] at h
    have := h j hj i hij
    simp only [hx, hy, Bool.or_eq_true, Bool.and_eq_true, Bool.not_eq_true'] at this
    rcases this with h1 | ⟨⟨h1, h2⟩, h3⟩
    · exact .inl h1
    · refine .inr ⟨h1, fun h => ?_, fun h => ?_⟩
      · rcases h2 with h2 | h2
        · rw [h] at h2; cases h2
        · exact h2
      · rcases h3 with h3 | h3
        · rw [h] at h3; cases h3
        · exact h3
  · have hj : j < all.length := (List.getElem?_eq_some_iff.1 ho).1
    simp only [afterOk, List.all_eq_true, List.mem_range] at h'
    have := h' j hj
    simp only [ho, Bool.and_eq_true] at this
    have h1 := this.1
    rw [← Array.all_toList, List.all_eq_true] at h1
    have := h1 e he
    rw [hb] at this
    simpa using this

theorem apart_spec {all : List Oper} {x y : Oper} (h : apartO all x y = true) :
    (∀ d, x.dst = some d → d ∉ looks all y) ∧ (∀ d, x.dst = some d → y.dst ≠ some d) ∧ (∀ d, y.dst = some d → d ∉ looks all x) := by
  refine ⟨fun d hd => ?_, fun d hd => ?_, fun d hd => ?_⟩ <;> simp [apartO, hd] at h
  · exact h.1.1
  · exact h.1.2
  · exact h.2

section
variable {P : Program} {Rt : Rets} {C : Ctx} {all : List Oper} {ws : WK} {n0 n : Nat} {T : Nat → List AVal} {LS : Nat → List Slot} {V : Nat → AVal} {W : Nat → Bool}

/-- a set of operations that have been done -/
structure Done (all : List Oper) (S : Nat → Bool) : Prop where
  closed : ∀ j o, S j = true → all[j]? = some o → ∀ e ∈ o.after.toList, Region.binds .any e = true → S e.on = true

/-- j is done next -/
structure Next (all : List Oper) (S : Nat → Bool) (j : Nat) (o : Oper) : Prop where
  at_ : all[j]? = some o
  new : S j = false
  ready : ∀ e ∈ o.after.toList, Region.binds .any e = true → S e.on = true

theorem Next.before {S : Nat → Bool} {j : Nat} {o : Oper} (D : Done all S) (N : Next all S j o) {i : Nat} (h : (befs all j).testBit i = true) : S i = true :=
  closed_bit (S := fun i => S i = true) (fun j o hj ho e he hb => D.closed j o hj ho e he hb) j o N.at_ N.ready i h

theorem Done.before {S : Nat → Bool} (D : Done all S) {i j : Nat} {o : Oper} (hj : S j = true) (ho : all[j]? = some o) (h : (befs all j).testBit i = true) : S i = true :=
  closed_bit (S := fun i => S i = true) (fun j o hj ho e he hb => D.closed j o hj ho e he hb) j o ho (D.closed j o hj ho) i h

/-- what an operation looks at was written by those before it alone -/
theorem look_order {S : Nat → Bool} {j : Nat} {o : Oper} (O : Ord all ws) (D : Done all S) (N : Next all S j o) {u : Nat} (hu : u ∈ looks all o) {i : Nat} {x : Oper} (hx : all[i]? = some x) (hd : x.dst = some u) :
    (i < j → S i = true) ∧ (j ≤ i → S i = false) := by
  constructor
  · intro h
    rcases O.pair i j x o h hx N.at_ with h1 | ⟨h1, _⟩
    · exact N.before D h1
    · exact ((apart_spec h1).1 u hd hu).elim
  · intro h
    by_cases e : i = j
    · subst e; exact N.new
    · cases hs : S i with
      | false => rfl
      | true =>
        rcases O.pair j i o x (by omega) N.at_ hx with h1 | ⟨h1, _⟩
        · have := D.before hs hx h1
          rw [N.new] at this; cases this
        · exact ((apart_spec h1).2.2 u hd hu).elim

theorem tx_look (tr : Trace P Rt n0 all ws 0 n T LS V W) (hn : n = all.length) {S : Nat → Bool} {j u : Nat} (hj : j < n)
    (h : ∀ i x, all[i]? = some x → x.dst = some u → (i < j → S i = true) ∧ (j ≤ i → S i = false)) : getT (tx all (T 0) V S n) u = getT (T j) u := by
  have hlen : ∀ m, m ≤ n → (T m).length = (T 0).length := by
    intro m
    induction m with
    | zero => intro _; rfl
    | succ m ih =>
      intro hm
      have ho : all[m]? = some all[m] := List.getElem?_eq_getElem (by omega)
      rw [(tr.step m _ (Nat.zero_le _) (by omega) ho).2.1, putD_length, ih (by omega)]
  have h1 : ∀ m, m ≤ j → getT (tx all (T 0) V S m) u = getT (T m) u := by
    intro m
    induction m with
    | zero => intro _; rfl
    | succ m ih =>
      intro hm
      have hml : m < all.length := by omega
      have ho : all[m]? = some all[m] := List.getElem?_eq_getElem hml
      rw [(tr.step m _ (Nat.zero_le _) (by omega) ho).2.1, getT_put]
      have hd : dstOf all m = all[m].dst := by simp [dstOf, ho]
      simp only [tx]
      by_cases hdu : all[m].dst = some u
      · rw [if_pos ((h m _ ho hdu).1 (by omega)), getT_put, hd, tx_length, hlen m (by omega), ih (by omega)]
      · rw [show (if all[m].dst = some u ∧ u < (T m).length then V m else getT (T m) u) = getT (T m) u from if_neg (fun h' => hdu h'.1)]
        split
        · rw [getT_put, hd, if_neg (fun h' => hdu h'.1)]; exact ih (by omega)
        · exact ih (by omega)
  have h2 : ∀ m, j ≤ m → m ≤ n → getT (tx all (T 0) V S m) u = getT (tx all (T 0) V S j) u := by
    intro m hm
    induction m with
    | zero => intro _; rw [show j = 0 from by omega]
    | succ m ih =>
      intro hmn
      by_cases e : j = m + 1
      · rw [e]
      · rw [← ih (by omega) (by omega)]
        have hml : m < all.length := by omega
        have ho : all[m]? = some all[m] := List.getElem?_eq_getElem hml
        simp only [tx]
        split
        · rename_i hs
          rw [getT_put]
          have hd : dstOf all m = all[m].dst := by simp [dstOf, ho]
          rw [hd, if_neg]
          intro h'
          have := (h m _ ho h'.1).2 (by omega)
          rw [hs] at this; cases this
        · rfl
  rw [h2 n (by omega) (Nat.le_refl _), h1 j (Nat.le_refl _)]

theorem tx_add {j : Nat} {o : Oper} (O : Ord all ws) {S : Nat → Bool} (D : Done all S) (N : Next all S j o) (T0 : List AVal) (V : Nat → AVal) : ∀ m, j < m → m ≤ all.length →
    tx all T0 V (fun i => if i = j then true else S i) m = putD (tx all T0 V S m) o.dst (V j) := by
  have hd : dstOf all j = o.dst := by simp [dstOf, N.at_]
  have h0 : ∀ m, m ≤ j → tx all T0 V (fun i => if i = j then true else S i) m = tx all T0 V S m := by
    intro m
    induction m with
    | zero => intro _; rfl
    | succ m ih => intro hm; simp only [tx, if_neg (show ¬ m = j by omega), ih (by omega)]
  intro m
  induction m with
  | zero => intro h; omega
  | succ m ih =>
    intro hm hl
    by_cases e : m = j
    · subst e
      simp only [tx, if_true, h0 m (Nat.le_refl _), N.new, Bool.false_eq_true, if_false, hd]
    · have ih := ih (by omega) (by omega)
      simp only [tx, if_neg e, ih]
      cases hs : S m with
      | false => simp
      | true =>
        simp only [if_true]
        have ho : all[m]? = some all[m] := List.getElem?_eq_getElem (by omega)
        have hdm : dstOf all m = all[m].dst := by simp [dstOf, ho]
        refine putD_comm (fun u hu => ?_)
        rw [hdm]
        rcases O.pair j m o all[m] (by omega) N.at_ ho with h1 | ⟨h1, _⟩
        · have := D.before hs ho h1
          rw [N.new] at this; cases this
        · exact (apart_spec h1).2.1 u hu

/-- an operation that writes -/
def isW (all : List Oper) (ws : WK) (i : Nat) : Bool := ws.contains i && (match all[i]? with | some o => !(ws.pure i o.op) | none => false)

theorem pure_L {P : Program} {ρ : Operand → AVal} {L L' : List Slot} {op : Op} (h : isPure op = true) : rv P ρ L op = rv P ρ L' op := by
  cases op <;> simp only [isPure, Bool.false_eq_true] at h
  all_goals first
    | rfl
    | (rename_i a b c; cases a <;> rfl)
    | (rename_i c; obtain ⟨callee, args, at_⟩ := c; rfl)

theorem pure_wv {P : Program} {ρ : Operand → AVal} {L L' : List Slot} {op : Op} (h : isPure op = true) {p : Prop} {v : AVal} (hw : wv P ρ L op = some (p, v, L')) : L' = L ∧ ∀ L2, wv P ρ L2 op = some (p, v, L2) := by
  cases op <;> first | (simp only [isPure, Bool.false_eq_true] at h; done) | skip
  case call c =>
    obtain ⟨callee, args, at_⟩ := c
    cases callee with
    | value f => simp [isPure] at h
    | invoke r s => simp [isPure] at h
    | builtin b =>
      cases b <;> first | (simp [isPure] at h; done) | skip
      case len =>
        simp only [wv] at hw
        split at hw <;> try (cases hw; done)
        rename_i x t hx ht
        cases hl : lenA P t L (ρ x) with
        | none => rw [hl] at hw; cases hw
        | some r =>
          rw [hl] at hw
          simp only [Option.map_some, Option.some.injEq, Prod.mk.injEq] at hw
          obtain ⟨rfl, rfl, rfl⟩ := hw
          refine ⟨rfl, fun L2 => ?_⟩
          have : lenA P t L2 (ρ x) = lenA P t L (ρ x) := by unfold lenA; rfl
          simp only [wv, hx, ht, this, hl]; rfl
      case max =>
        simp only [wv] at hw
        split at hw <;> try (cases hw; done)
        rename_i k a ys hy
        split at hw <;> cases hw
        rename_i m hm
        exact ⟨rfl, fun L2 => by simp only [wv, hy, hm]⟩
      case min =>
        simp only [wv] at hw
        split at hw <;> try (cases hw; done)
        rename_i k a ys hy
        split at hw <;> cases hw
        rename_i m hm
        exact ⟨rfl, fun L2 => by simp only [wv, hy, hm]⟩
  all_goals (simp [wv] at hw; done)

theorem app_len {L : List Slot} {e b m : Nat} {x v : AVal} {new : List AVal} {p : Prop} {L' : List Slot} (h : appendA L e b x m new = some (p, v, L')) : L.length ≤ L'.length := by
  unfold appendA at h
  split at h <;> cases h <;> simp [setS_length]

theorem wv_len {P : Program} {ρ : Operand → AVal} {L L' : List Slot} {op : Op} {p : Prop} {v : AVal} (h : wv P ρ L op = some (p, v, L')) : L.length ≤ L'.length := by
  cases op with
  | alloc t => simp only [wv, Option.some.injEq, Prod.mk.injEq] at h; obtain ⟨_, _, rfl⟩ := h; simp
  | box t x => simp only [wv, Option.some.injEq, Prod.mk.injEq] at h; obtain ⟨_, _, rfl⟩ := h; simp
  | buildSlice t n parts =>
    simp only [wv] at h
    split at h <;> try (cases h; done)
    split at h
    · split at h <;> cases h; exact Nat.le_refl _
    · split at h <;> cases h; simp
  | makeSlice t a b => simp only [wv] at h; split at h <;> cases h; simp
  | store t a x => simp only [wv] at h; split at h <;> cases h; simp [setS_length]
  | call c =>
    obtain ⟨callee, args, at_⟩ := c
    cases callee with
    | value f => simp [wv] at h
    | invoke r s => simp [wv] at h
    | builtin b =>
      cases b with
      | len =>
        simp only [wv] at h
        split at h <;> try (cases h; done)
        rename_i x t hx ht
        cases hl : lenA P t L (ρ x) with
        | none => rw [hl] at h; cases h
        | some r => rw [hl] at h; simp only [Option.map_some, Option.some.injEq, Prod.mk.injEq] at h; obtain ⟨_, _, rfl⟩ := h; exact Nat.le_refl _
      | max =>
        simp only [wv] at h
        split at h <;> try (cases h; done)
        split at h <;> cases h; exact Nat.le_refl _
      | min =>
        simp only [wv] at h
        split at h <;> try (cases h; done)
        split at h <;> cases h; exact Nat.le_refl _
      | append =>
        simp only [wv] at h
        split at h <;> try (cases h; done)
        split at h <;> try (cases h; done)
        split at h
        · split at h <;> try (cases h; done)
          obtain ⟨⟨q, v', L1⟩, ha, hr⟩ := Option.map_eq_some_iff.1 h
          simp only [Prod.mk.injEq] at hr
          obtain ⟨_, rfl, rfl⟩ := hr
          exact app_len ha
        · split at h <;> try (cases h; done)
          split at h <;> try (cases h; done)
          split at h <;> try (cases h; done)
          obtain ⟨⟨q, v', L1⟩, ha, hr⟩ := Option.map_eq_some_iff.1 h
          simp only [Prod.mk.injEq] at hr
          obtain ⟨_, rfl, rfl⟩ := hr
          exact app_len ha
      | copy =>
        simp only [wv] at h
        split at h <;> try (cases h; done)
        split at h <;> try (cases h; done)
        split at h <;> cases h; simp [setS_length]
      | _ => simp [wv] at h
  | _ => simp [wv] at h

theorem aeff_len {P : Program} {R : Rets} {n0 : Nat} {ρ : Operand → AVal} {L L' : List Slot} {op : Op} {v : AVal} (h : Aeff P R n0 ρ L op v L') : L.length ≤ L'.length := by
  cases h with
  | rv h hp => exact Nat.le_refl _
  | wv h hp => exact wv_len h
  | call hf hnd hps hv hr hlen hplain => rw [giveBack_length _ _ _ _ hlen]; omega

theorem tr_len (tr : Trace P Rt n0 all ws 0 n T LS V W) (hn : n = all.length) : ∀ i, i < n → (LS i).length ≤ (LS (i + 1)).length := by
  intro i hi
  have ho : all[i]? = some all[i] := List.getElem?_eq_getElem (by omega)
  obtain ⟨_, _, h1, h2⟩ := tr.step i _ (Nat.zero_le _) hi ho
  cases hw : W i with
  | true => exact aeff_len (h1 hw).1
  | false => rw [(h2 hw).2]; exact Nat.le_refl _

theorem tr_mono (tr : Trace P Rt n0 all ws 0 n T LS V W) (hn : n = all.length) : ∀ j i, i ≤ j → j ≤ n → (LS i).length ≤ (LS j).length := by
  intro j
  induction j with
  | zero => intro i h _; rw [show i = 0 from by omega]; exact Nat.le_refl _
  | succ j ih =>
    intro i h hj
    by_cases e : i = j + 1
    · rw [e]; exact Nat.le_refl _
    · exact Nat.le_trans (ih i (by omega) (by omega)) (tr_len tr hn j (by omega))

theorem quiet_op {F : List Nat} {ρ : Operand → AVal} {op : Op} (h : quiet F ρ op) : (∃ t x, op = .load t x) ∨ (∃ t x i, op = .indexAddr t x i) := by
  cases op <;> simp only [quiet] at h
  · exact .inl ⟨_, _, rfl⟩
  · exact .inr ⟨_, _, _, rfl⟩
theorem quiet_congr {F : List Nat} {ρ ρ' : Operand → AVal} {op : Op} (e : ∀ x ∈ op.operands.toList, ρ' x = ρ x) (h : quiet F ρ op) : quiet F ρ' op := by
  rcases quiet_op h with ⟨t, x, rfl⟩ | ⟨t, x, i, rfl⟩
  · simp only [quiet] at h ⊢; rw [e x (by simp [Op.operands])]; exact h
  · simp only [quiet] at h ⊢; rw [e x (by simp [Op.operands])]; exact h
theorem quiet_same {P : Program} {F : List Nat} {ρ : Operand → AVal} {op : Op} {L L' : List Slot} (h : quiet F ρ op) (e : ∀ s, F.contains s = true → getS L' s = getS L s) : rv P ρ L' op = rv P ρ L op := by
  rcases quiet_op h with ⟨t, x, rfl⟩ | ⟨t, x, i, rfl⟩
  · simp only [quiet] at h
    simp only [rv]
    split at h
    · rename_i s o hx; simp only [hx, loadA, liveB, cellsOf, e s h]
    · rename_i c hx; simp only [hx, loadA]
    · exact h.elim
  · simp only [quiet] at h
    simp only [rv]
    split at h
    · rename_i s o n hx
      simp only [hx, indexA]
      cases ρ i with
      | imm y =>
        cases y with
        | int k j => cases (tiOf P t).kind <;> simp only [liveB, e s h]
        | _ => rfl
      | _ => rfl
    · rename_i g n c hx
      simp only [hx, indexA]
      cases ρ i with
      | imm y =>
        cases y with
        | int k j => cases (tiOf P t).kind <;> rfl
        | _ => rfl
      | _ => rfl
    · exact h.elim

/-- what is pure leaves the slots -/
theorem tr_pure (tr : Trace P Rt n0 all ws 0 n T LS V W) {i : Nat} {o : Oper} (hi : i < n) (ho : all[i]? = some o) (hp : ws.pure i o.op = true) : LS (i + 1) = LS i := by
  obtain ⟨_, _, h1, h2⟩ := tr.step i _ (Nat.zero_le _) hi ho
  cases hw : W i with
  | false => exact (h2 hw).2
  | true =>
    have h3 := (h1 hw).1
    have h4 := (h1 hw).2.2
    have hp' : isPure o.op = true ∨ quiet ws.F (ev (T i)) o.op := by
      simp only [WK.pure, Bool.or_eq_true] at hp
      rcases hp with hp | hp
      · exact .inl hp
      · exact .inr (h4 hp)
    clear h4 hp
    generalize hop : o.op = op at h3 hp'
    generalize hv : V i = v at h3
    generalize hL : LS (i + 1) = L1 at h3 ⊢
    rcases hp' with hp | hp
    · cases h3 with
      | rv h hp' => rfl
      | wv h hp' => exact (pure_wv hp h).1
      | call => simp [isPure] at hp
    · rcases quiet_op hp with ⟨t, x, rfl⟩ | ⟨t, x, i', rfl⟩
      · cases h3 with
        | rv h hp' => rfl
        | wv h hp' => simp [wv] at h
      · cases h3 with
        | rv h hp' => rfl
        | wv h hp' => simp [wv] at h

theorem keeps_get {L L' : List Slot} : ∀ {F : List Nat}, keeps L L' F → ∀ {s : Nat}, F.contains s = true → getS L' s = getS L s
  | [], _, s, h => by simp at h
  | a :: F, hk, s, h => by
    simp only [List.contains_cons, Bool.or_eq_true, beq_iff_eq] at h
    rcases h with rfl | h
    · exact hk.1
    · exact keeps_get hk.2 h

/-- nobody writes what is loaded quietly -/
theorem tr_keep (tr : Trace P Rt n0 all ws 0 n T LS V W) (hn : n = all.length) {s : Nat} (hs : ws.F.contains s = true) (h0 : s < (LS 0).length) : ∀ i, i ≤ n → getS (LS i) s = getS (LS 0) s ∧ s < (LS i).length := by
  intro i
  induction i with
  | zero => intro _; exact ⟨rfl, h0⟩
  | succ i ih =>
    intro hi
    obtain ⟨e, hl⟩ := ih (by omega)
    have ho : all[i]? = some all[i] := List.getElem?_eq_getElem (by omega)
    refine ⟨?_, Nat.lt_of_lt_of_le hl (tr_len tr hn i (by omega))⟩
    rw [← e]
    obtain ⟨_, _, h1, h2⟩ := tr.step i _ (Nat.zero_le _) (by omega) ho
    cases hw : W i with
    | false => rw [(h2 hw).2]
    | true =>
      rcases (h1 hw).2.1 with h3 | h3
      · exact keeps_get h3.2 hs
      · rw [h3, getS_app _ _ _ hl]

/-- between two that write, the slots are only added to -/
theorem tr_prefix (tr : Trace P Rt n0 all ws 0 n T LS V W) (hn : n = all.length) {i : Nat} : ∀ j, i ≤ j → j ≤ n → (∀ k, i ≤ k → k < j → isW all ws k = false) → ∀ q, q < (LS i).length → getS (LS j) q = getS (LS i) q := by
  intro j
  induction j with
  | zero => intro h _ _ q _; rw [show i = 0 from by omega]
  | succ j ih =>
    intro h hj hw q hq
    by_cases e : i = j + 1
    · rw [e]
    · have ih := ih (by omega) (by omega) (fun k h1 h2 => hw k h1 (by omega)) q hq
      rw [← ih]
      have ho : all[j]? = some all[j] := List.getElem?_eq_getElem (by omega)
      have hql : q < (LS j).length := Nat.lt_of_lt_of_le hq (tr_mono tr hn j i (by omega) (by omega))
      by_cases hp : ws.pure j all[j].op = true
      · rw [tr_pure tr (by omega) ho hp]
      · have hnw := hw j (by omega) (by omega)
        have hws : ws.contains j = false := by
          simp only [isW, ho, Bool.and_eq_false_imp] at hnw
          cases hc : ws.contains j with
          | false => rfl
          | true => have := hnw hc; simp [hp] at this
        obtain ⟨_, _, h1, h2⟩ := tr.step j _ (Nat.zero_le _) (by omega) ho
        cases hwd : W j with
        | false => rw [(h2 hwd).2]
        | true =>
          rcases (h1 hwd).2.1 with h3 | h3
          · rw [hws] at h3; cases h3.1
          · rw [h3, getS_app _ _ _ hql]

/-- What lies in the slots, some operations not being done yet. m: the first operation that writes and isn't done. -/
structure InvL (LS : Nat → List Slot) (S : Nat → Bool) (m : Nat) (l : Sl) : Prop where
  base : ∀ q, q < (LS 0).length → l q = getS (LS m) q
  made : ∀ i, i < m → ∀ q, (LS i).length ≤ q → q < (LS (i + 1)).length → (S i = true → l q = getS (LS m) q) ∧ (S i = false → l q = .hole)
  free : ∀ q, (LS m).length ≤ q → l q = .hole

theorem made_at {LS : Nat → List Slot} {q : Nat} (h0 : (LS 0).length ≤ q) : ∀ j, q < (LS j).length → ∃ i, i < j ∧ (LS i).length ≤ q ∧ q < (LS (i + 1)).length
  | 0, h => by omega
  | j + 1, h => by
    by_cases hq : q < (LS j).length
    · obtain ⟨i, h1, h2, h3⟩ := made_at h0 j hq
      exact ⟨i, by omega, h2, h3⟩
    · exact ⟨j, by omega, by omega, h⟩

theorem gv_sound {M : Mem} {π : Plc} {l : Sl} {ops : Array Oper} {t : List AVal} {tm : Array Value} (Tm : TmpR M π l t tm) {o : Oper} {b : Bool} (h : gv ops.toList t o = some b) : Region.wanted o (yielded ops tm) = b := by
  unfold gv at h
  split at h
  · rename_i hg; cases h; simp [Region.wanted, hg]
  · rename_i g want hg
    simp only [Region.wanted, hg]
    split at h
    · rename_i d hd
      obtain ⟨y1, y2⟩ := yields_some (ops := ops) Tm hd
      split at h
      · rename_i b' hb; cases h; rw [y1 b' hb]; cases b' <;> cases want <;> rfl
      · rename_i hb; cases h; rw [y2 hb]; rfl
      · cases h
    · rename_i hd; cases h; rw [yields_none hd]; rfl

theorem gv_congr {t t' : List AVal} {o : Oper} (h : ∀ u, u ∈ looks all o → getT t u = getT t' u) : gv all t o = gv all t' o := by
  unfold gv
  split
  · rfl
  · rename_i g want hg
    cases hd : (nthO all g).bind (·.dst) with
    | none => rfl
    | some d =>
      have : d ∈ looks all o := by simp [looks, hg, hd]
      simp only [h d this]

theorem ev_congr {t t' : List AVal} {o : Oper} (h : ∀ u, u ∈ looks all o → getT t u = getT t' u) : ∀ x ∈ o.op.operands.toList, ev t x = ev t' x := by
  intro x hx
  cases x with
  | tmp u =>
    refine h u ?_
    simp only [looks, List.mem_append, List.mem_filterMap]
    exact .inl ⟨_, hx, rfl⟩
  | _ => rfl

/-- The state while a region is being done. -/
def Inv (P : Program) (C : Ctx) (all : List Oper) (ws : WK) (n : Nat) (T : Nat → List AVal) (LS : Nat → List Slot) (V : Nat → AVal) (S : Nat → Bool) (a : Act) (w : World) : Prop :=
  ∃ M π l m, m ≤ n ∧ (∀ k, k < m → isW all ws k = true → S k = true) ∧ (m < n → isW all ws m = true ∧ S m = false) ∧ InvL LS S m l ∧ TmpR M π l (tx all (T 0) V S n) a.tmps ∧ MemR C M π l w ∧ a.defers = [] ∧ Done all S

theorem isW_get {j : Nat} {o : Oper} (ho : all[j]? = some o) (h : isW all ws j = true) : ws.contains j = true ∧ ws.pure j o.op = false := by
  simp only [isW, ho, Bool.and_eq_true, Bool.not_eq_true'] at h; exact h

theorem inv_step {ops : Array Oper} (hR : SoundR P Rt) (ha : all = ops.toList) (O : Ord all ws) (tr : Trace P Rt n0 all ws 0 n T LS V W) (hn : n = all.length) (hn0 : n0 = (LS 0).length) (hk : C.k ≤ (LS 0).length) (hF : ∀ s ∈ ws.F, s < (LS 0).length)
    {S : Nat → Bool} {a : Act} {w : World} (h : Inv P C all ws n T LS V S a w) {j : Nat} {o : Oper} (hj : j < n) (N : Next all S j o) {Q : Exit → Act → World → Prop} :
    wpOp P ops Q j (fun a' w' => Inv P C all ws n T LS V (fun i => if i = j then true else S i) a' w') a w := by
  obtain ⟨M, π, l, m, hm, hm1, hm2, IL, Tm, R, hdef, D⟩ := h
  have hlook : ∀ u, u ∈ looks all o → getT (tx all (T 0) V S n) u = getT (T j) u := fun u hu => tx_look tr hn hj (fun i x hx hd => look_order O D N hu hx hd)
  obtain ⟨hgv, _, hyes, hno⟩ := tr.step j o (Nat.zero_le _) hj N.at_
  have hw : Region.wanted o (yielded ops a.tmps) = W j := gv_sound Tm (by rw [← ha, gv_congr hlook]; exact hgv)
  have ho : ops[j]? = some o := by have := N.at_; rw [ha] at this; simpa using this
  have D' : Done all (fun i => if i = j then true else S i) := by
    refine ⟨fun i x hi hx e he hb => ?_⟩
    by_cases e1 : e.on = j
    · simp [e1]
    · simp only [e1, if_false]
      by_cases e2 : i = j
      · subst e2
        rw [N.at_] at hx; cases hx
        exact N.ready e he hb
      · simp only [e2, if_false] at hi
        exact D.closed i x hi hx e he hb
  have htx : tx all (T 0) V (fun i => if i = j then true else S i) n = putD (tx all (T 0) V S n) o.dst (V j) := tx_add O D N (T 0) V n hj (by omega)
  have hmono := tr_mono tr hn
  have hlj : (LS 0).length ≤ (LS j).length := hmono j 0 (by omega) (by omega)
  -- against writing operations
  have vsW : ws.pure j o.op = false → ∀ k, isW all ws k = true → (k < j → S k = true) ∧ (j < k → S k = false) := by
    intro hp k hk'
    have hkl : k < all.length := by
      rcases Nat.lt_or_ge k all.length with h | h
      · exact h
      · simp [isW, List.getElem?_eq_none h] at hk'
    have hko : all[k]? = some all[k] := List.getElem?_eq_getElem hkl
    obtain ⟨hw1, hw2⟩ := isW_get hko hk'
    refine ⟨fun h => ?_, fun h => ?_⟩
    · rcases O.pair k j _ o h hko N.at_ with h1 | ⟨_, h1, _⟩
      · exact N.before D h1
      · rw [h1 hw1] at hp; cases hp
    · rcases O.pair j k o _ h N.at_ hko with h1 | ⟨_, _, h1⟩
      · cases hs : S k with
        | false => rfl
        | true => have := D.before hs hko h1; rw [N.new] at this; cases this
      · rw [h1 hw1] at hp; cases hp
  have vsN : isW all ws j = true → ∀ k x, all[k]? = some x → ws.pure k x.op = false → (k < j → S k = true) ∧ (j < k → S k = false) := by
    intro hw' k x hx hp
    obtain ⟨hw1, hw2⟩ := isW_get N.at_ hw'
    refine ⟨fun h => ?_, fun h => ?_⟩
    · rcases O.pair k j x o h hx N.at_ with h1 | ⟨_, _, h1⟩
      · exact N.before D h1
      · rw [h1 hw1] at hp; cases hp
    · rcases O.pair j k o x h N.at_ hx with h1 | ⟨_, h1, _⟩
      · cases hs : S k with
        | false => rfl
        | true => have := D.before hs hx h1; rw [N.new] at this; cases this
      · rw [h1 hw1] at hp; cases hp
  -- what makes slots is not pure
  have madeN : ∀ i, i < n → ∀ q, (LS i).length ≤ q → q < (LS (i + 1)).length → ∃ x, all[i]? = some x ∧ ws.pure i x.op = false := by
    intro i hi q h1 h2
    have hx : all[i]? = some all[i] := List.getElem?_eq_getElem (by omega)
    refine ⟨_, hx, ?_⟩
    cases hp : ws.pure i all[i].op with
    | false => rfl
    | true => rw [tr_pure tr hi hx hp] at h2; omega
  simp only [wpOp, ho]
  by_cases hisW : isW all ws j = true
  · -- it writes
    have hp := (isW_get N.at_ hisW).2
    have hjm : m = j := by
      rcases Nat.lt_trichotomy m j with h | h | h
      · have := (vsW hp m (hm2 (by omega)).1).1 h; rw [(hm2 (by omega)).2] at this; cases this
      · exact h
      · have := hm1 j h hisW; rw [N.new] at this; cases this
    subst hjm
    have hl : l = getS (LS m) := by
      funext q
      by_cases h1 : q < (LS 0).length
      · exact IL.base q h1
      · by_cases h2 : q < (LS m).length
        · obtain ⟨i, i1, i2, i3⟩ := made_at (by omega) m h2
          obtain ⟨x, hx, hxp⟩ := madeN i (by omega) q i2 i3
          exact (IL.made i i1 q i2 i3).1 ((vsN hisW i x hx hxp).1 i1)
        · rw [IL.free q (by omega), getS_none (by omega)]
    -- the next one that writes
    have hnext : ∃ m', m < m' ∧ m' ≤ n ∧ (∀ k, m < k → k < m' → isW all ws k = false) ∧ (m' < n → isW all ws m' = true) := by
      have : ∀ d i, i + d = n → m < i → ∃ m', i ≤ m' ∧ m' ≤ n ∧ (∀ k, i ≤ k → k < m' → isW all ws k = false) ∧ (m' < n → isW all ws m' = true) := by
        intro d
        induction d with
        | zero => intro i h1 h2; exact ⟨i, Nat.le_refl _, by omega, fun k h3 h4 => by omega, fun h => by omega⟩
        | succ d ih =>
          intro i h1 h2
          cases hi : isW all ws i with
          | true => exact ⟨i, Nat.le_refl _, by omega, fun k h3 h4 => by omega, fun _ => hi⟩
          | false =>
            obtain ⟨m', a1, a2, a3, a4⟩ := ih (i + 1) (by omega) (by omega)
            refine ⟨m', by omega, a2, fun k h3 h4 => ?_, a4⟩
            by_cases e : k = i
            · rw [e]; exact hi
            · exact a3 k (by omega) h4
      obtain ⟨m', a1, a2, a3, a4⟩ := this (n - (m + 1)) (m + 1) (by omega) (by omega)
      exact ⟨m', by omega, a2, fun k h1 h2 => a3 k (by omega) h2, a4⟩
    obtain ⟨m', b1, b2, b3, b4⟩ := hnext
    have fin : ∀ (M' : Mem) (π' : Plc) (a' : Act) (w' : World), TmpR M' π' (getS (LS (m + 1))) (putD (tx all (T 0) V S n) o.dst (V m)) a'.tmps → MemR C M' π' (getS (LS (m + 1))) w' → a'.defers = [] →
        Inv P C all ws n T LS V (fun i => if i = m then true else S i) a' w' := by
      intro M' π' a' w' h1 h2 h3
      have hpre := tr_prefix tr hn (i := m + 1) m' (by omega) b2 (fun k h1 h2 => b3 k (by omega) h2)
      refine ⟨M', π', getS (LS (m + 1)), m', b2, fun k hk1 hk2 => ?_, fun h => ⟨b4 h, ?_⟩, ⟨fun q hq => ?_, fun i hi q i2 i3 => ⟨fun hs => ?_, fun hs => ?_⟩, fun q hq => ?_⟩, by rw [htx]; exact h1, h2, h3, D'⟩
      · by_cases e : k = m
        · simp [e]
        · simp only [e, if_false]
          rcases Nat.lt_or_ge k m with h | h
          · exact (vsW hp k hk2).1 h
          · have := b3 k (by omega) hk1; rw [this] at hk2; cases hk2
      · have hne : ¬ m' = m := by omega
        simp only [hne, if_false]
        exact (vsW hp m' (b4 h)).2 (by omega)
      · rw [hpre q (Nat.lt_of_lt_of_le hq (hmono (m + 1) 0 (by omega) (by omega)))]
      · by_cases hi' : i ≤ m
        · rw [hpre q (Nat.lt_of_lt_of_le i3 (hmono (m + 1) (i + 1) (by omega) (by omega)))]
        · obtain ⟨x, hx, hxp⟩ := madeN i (by omega) q i2 i3
          have hne : ¬ i = m := by omega
          simp only [hne, if_false] at hs
          rw [(vsN hisW i x hx hxp).2 (by omega)] at hs; cases hs
      · by_cases hi' : i ≤ m
        · by_cases e : i = m
          · simp [e] at hs
          · simp only [e, if_false] at hs
            obtain ⟨x, hx, hxp⟩ := madeN i (by omega) q i2 i3
            rw [(vsN hisW i x hx hxp).1 (by omega)] at hs; cases hs
        · exact getS_none (Nat.le_trans (hmono i (m + 1) (by omega) (by omega)) i2)
      · exact getS_none (Nat.le_trans (hmono m' (m + 1) (by omega) (by omega)) hq)
    cases hwj : W m with
    | true =>
      rw [hwj] at hw
      rw [if_pos hw]
      refine .inl ?_
      subst hl
      have hae := (hyes hwj).1.congr (fun x hx => (ev_congr hlook x hx).symm)
      refine Oper.wp_mono (fun a' w' h => ?_) (aeff_sound hR Tm R (sub_self _) (Nat.le_trans hk hlj) (by omega) (fun i _ => rfl) o hae (fun i hi _ => getS_none hi) (Q := Q))
      obtain ⟨M', π', l', g1, g2, g3, g4, g5, g6⟩ := h
      have := g1.eq
      subst this
      exact fin M' π' a' w' g5 g2 (by rw [g6]; exact hdef)
    | false =>
      rw [hwj] at hw
      rw [if_neg (by rw [hw]; simp)]
      subst hl
      obtain ⟨e1, e2⟩ := hno hwj
      refine fin M π _ w ?_ (by rw [e2]; exact R) (by cases o.dst <;> exact hdef)
      rw [e1, e2]; exact Tm.put (.und _ _ _) o.dst a.defers
  · -- it doesn't write
    have hisW' : isW all ws j = false := by simpa using hisW
    have fin : ∀ (M' : Mem) (π' : Plc) (l' : Sl) (a' : Act) (w' : World), TmpR M' π' l' (putD (tx all (T 0) V S n) o.dst (V j)) a'.tmps → MemR C M' π' l' w' → a'.defers = [] →
        InvL LS (fun i => if i = j then true else S i) m l' → Inv P C all ws n T LS V (fun i => if i = j then true else S i) a' w' := by
      intro M' π' l' a' w' h1 h2 h3 h4
      refine ⟨M', π', l', m, hm, fun k hk1 hk2 => ?_, fun h => ⟨(hm2 h).1, ?_⟩, h4, by rw [htx]; exact h1, h2, h3, D'⟩
      · by_cases e : k = j
        · simp [e]
        · simp only [e, if_false]; exact hm1 k hk1 hk2
      · have hne : ¬ m = j := by intro e; subst e; rw [(hm2 h).1] at hisW'; cases hisW'
        simp only [hne, if_false]; exact (hm2 h).2
    -- nothing new is made
    have same : LS (j + 1) = LS j → InvL LS (fun i => if i = j then true else S i) m l := by
      intro e
      refine ⟨IL.base, fun i hi q i2 i3 => ?_, IL.free⟩
      have hne : ¬ i = j := by intro e'; subst e'; rw [e] at i3; omega
      simp only [hne, if_false]
      exact IL.made i hi q i2 i3
    cases hwj : W j with
    | false =>
      rw [hwj] at hw
      rw [if_neg (by rw [hw]; simp)]
      obtain ⟨e1, e2⟩ := hno hwj
      refine fin M π l _ w ?_ R (by cases o.dst <;> exact hdef) (same e2)
      rw [e1]; exact Tm.put (.und _ _ _) o.dst a.defers
    | true =>
      rw [hwj] at hw
      rw [if_pos hw]
      refine .inl ?_
      have hae := (hyes hwj).1.congr (fun x hx => (ev_congr hlook x hx).symm)
      cases hp : ws.pure j o.op with
      | true =>
        have hrv : Aeff P Rt n0 (ev (tx all (T 0) V S n)) (LS m) o.op (V j) (LS m) := by
          have hp' : isPure o.op = true ∨ quiet ws.F (ev (T j)) o.op := by
            simp only [WK.pure, Bool.or_eq_true] at hp
            rcases hp with hp | hp
            · exact .inl hp
            · exact .inr ((hyes hwj).2.2 hp)
          have hcg := ev_congr hlook
          generalize hop : o.op = op at hae hp' hcg
          generalize hv : V j = v at hae
          generalize hL : LS (j + 1) = L1 at hae
          rcases hp' with hp | hp
          · cases hae with
            | rv h hp' => rw [pure_L (L' := LS m) hp] at h; exact .rv h hp'
            | wv h hp' => exact .wv ((pure_wv hp h).2 (LS m)) hp'
            | call => simp [isPure] at hp
          · have hq := quiet_congr hcg hp
            have he : ∀ s, ws.F.contains s = true → getS (LS m) s = getS (LS j) s := fun s hs => by
              have hs0 := hF s (by simpa using hs)
              rw [(tr_keep tr hn hs hs0 m hm).1, (tr_keep tr hn hs hs0 j (by omega)).1]
            cases hae with
            | rv h hp' => exact .rv (by rw [quiet_same hq he]; exact h) hp'
            | wv h hp' => rcases quiet_op hp with ⟨t, x, rfl⟩ | ⟨t, x, i', rfl⟩ <;> simp [wv] at h
            | call => rcases quiet_op hp with ⟨t, x, h⟩ | ⟨t, x, i', h⟩ <;> cases h
        have hlen0 : (LS 0).length ≤ (LS m).length := hmono m 0 (by omega) hm
        have Sm : Sub (LS m) l := by
          intro q hq
          by_cases h1 : q < (LS 0).length
          · exact .inr (IL.base q h1)
          · obtain ⟨i, i1, i2, i3⟩ := made_at (by omega) m hq
            cases hs : S i with
            | true => exact .inr ((IL.made i i1 q i2 i3).1 hs)
            | false => exact .inl ((IL.made i i1 q i2 i3).2 hs)
        refine Oper.wp_mono (fun a' w' h => ?_) (aeff_sound hR (n0 := n0) (L' := LS m) Tm R Sm (Nat.le_trans hk hlen0) (by omega) (fun i hi => IL.base i (by omega)) o hrv (fun i h1 h2 => by omega) (Q := Q))
        obtain ⟨M', π', l', g1, g2, g3, g4, g5, g6⟩ := h
        have hll : l' = l := by
          funext q
          by_cases hq : q < (LS m).length
          · cases hx : l q with
            | hole => exact g1.hole q hq hx
            | _ => rw [g1.old q hq (by rw [hx]; simp), ← Sm.old hq (by rw [hx]; simp), hx]
          · exact g1.rest q (by omega)
        subst hll
        exact fin M' π' _ a' w' g5 g2 (by rw [g6]; exact hdef) (same (tr_pure tr hj N.at_ hp))
      | false =>
        have hjm : j < m := by
          rcases Nat.lt_or_ge m n with h | h
          · have h1 := hm2 h
            rcases Nat.lt_trichotomy m j with h2 | h2 | h2
            · have := (vsW hp m h1.1).1 h2; rw [h1.2] at this; cases this
            · subst h2; rw [h1.1] at hisW'; cases hisW'
            · exact h2
          · omega
        have hnoW : ∀ k, j ≤ k → k < m → isW all ws k = false := by
          intro k h1 h2
          cases hkw : isW all ws k with
          | false => rfl
          | true =>
            by_cases e : k = j
            · rw [e] at hkw; rw [hkw] at hisW'; cases hisW'
            · have a1 := (vsW hp k hkw).2 (by omega)
              rw [hm1 k h2 hkw] at a1; cases a1
        have hpre := tr_prefix tr hn (i := j) m (by omega) hm hnoW
        have hpre' := tr_prefix tr hn (i := j + 1) m (by omega) hm (fun k h1 h2 => hnoW k (by omega) h2)
        have Sj : Sub (LS j) l := by
          intro q hq
          rw [← hpre q hq]
          by_cases h1 : q < (LS 0).length
          · exact .inr (IL.base q h1)
          · obtain ⟨i, i1, i2, i3⟩ := made_at (by omega) j hq
            cases hs : S i with
            | true => exact .inr ((IL.made i (by omega) q i2 i3).1 hs)
            | false => exact .inl ((IL.made i (by omega) q i2 i3).2 hs)
        refine Oper.wp_mono (fun a' w' h => ?_) (aeff_sound hR Tm R Sj (Nat.le_trans hk hlj) (by omega) (fun i hi => by
          rw [← hpre i (by omega)]; exact IL.base i (by omega)) o hae (fun q h1 h2 => (IL.made j hjm q h1 h2).2 N.new) (Q := Q))
        obtain ⟨M', π', l', g1, g2, g3, g4, g5, g6⟩ := h
        refine fin M' π' l' a' w' g5 g2 (by rw [g6]; exact hdef) ⟨fun q hq => ?_, fun i hi q i2 i3 => ?_, fun q hq => ?_⟩
        · have hqj : q < (LS j).length := by omega
          by_cases hh : l q = .hole
          · rw [g1.hole q hqj hh, ← hh]; exact IL.base q hq
          · rw [g1.old q hqj hh, hpre' q (Nat.lt_of_lt_of_le hqj (hmono (j + 1) j (by omega) (by omega)))]
        · by_cases e : i = j
          · subst e
            refine ⟨fun _ => ?_, fun hs => by simp at hs⟩
            rw [g1.new q i2 i3, hpre' q i3]
          · simp only [e, if_false]
            rcases Nat.lt_or_ge i j with h | h
            · have hqj : q < (LS j).length := Nat.lt_of_lt_of_le i3 (hmono j (i + 1) (by omega) (by omega))
              refine ⟨fun hs => ?_, fun hs => g1.hole q hqj ((IL.made i hi q i2 i3).2 hs)⟩
              have h1 := (IL.made i hi q i2 i3).1 hs
              by_cases hh : l q = .hole
              · rw [g1.hole q hqj hh, ← hh]; exact h1
              · rw [g1.old q hqj hh, hpre' q (Nat.lt_of_lt_of_le hqj (hmono (j + 1) j (by omega) (by omega)))]
            · have hqj : (LS (j + 1)).length ≤ q := Nat.le_trans (hmono i (j + 1) (by omega) (by omega)) i2
              rw [g1.rest q hqj]; exact IL.made i hi q i2 i3
        · rw [g1.rest q (Nat.le_trans (hmono m (j + 1) (by omega) hm) hq)]; exact IL.free q hq

end
end Go.Abs
