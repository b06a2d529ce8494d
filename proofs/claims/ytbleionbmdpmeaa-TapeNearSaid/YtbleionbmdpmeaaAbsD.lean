/- The operations that write nothing, all of them; what makes and writes. -/
import Derived.Test.YtbleionbmdpmeaaAbsC
set_option linter.unusedVariables false
set_option linter.unusedSimpArgs false
namespace Go.Abs
section
variable {M : Mem} {π : Plc} {l : Sl} {L : List Slot} {C : Ctx} {w : World} {P : Program}

/-- An operation yields a value and leaves the world. -/
def Yields (P : Program) (η : Operand → Value) (o : Oper) (w : World) (v : Value) : Prop := (execOp η o).run P w = .ok (.value v) w

theorem rv_sound {ρ : Operand → AVal} {η : Operand → Value} (hρ : ∀ x, VR M π l (ρ x) (η x)) (R : MemR C M π l w) (S : Sub L l) (o : Oper) {p : Prop} {v : AVal}
    (h : rv P ρ L o.op = some (p, v)) (hp : p) : ∃ cv, Yields P η o w cv ∧ VR M π l v cv := by
  obtain ⟨dst, op, type, pos, after, guard⟩ := o
  simp only [Yields]
  have lift : ∀ {s : Sem Value} {cv : Value}, s.run P w = .ok cv w → (do pure (.value (← s)) : Sem Next).run P w = .ok (.value cv) w := by
    intro s cv h; rw [Sem.run_bind, h]; rfl
  cases op with
  | move x => cases h; exact ⟨_, rfl, hρ x⟩
  | assign x => cases h; exact ⟨_, rfl, hρ x⟩
  | pick c x y =>
    simp only [rv] at h
    split at h <;> cases h
    rename_i b hc
    have hv := hρ c
    rw [hc] at hv
    cases hv with | imm hv => cases hv' : η c with
    | bool b' =>
      rw [hv'] at hv; cases hv
      refine ⟨if b = true then η x else η y, ?_, ?_⟩
      · simp only [execOp, hv', asBool, Sem.run_bind, Sem.run_pure, Result.andThen_ok]
      · split <;> exact hρ _
    | _ => rw [hv'] at hv; cases hv
  | nilCheck x =>
    have hv := hρ x
    simp only [rv] at h
    split at h <;> cases h
    · rename_i s off hx
      rw [hx] at hv
      have hv' := hv
      have hp' : ∃ b o, η x = .pointer (some ⟨b, o, none⟩) := by
        generalize η x = q at hv
        cases hv with
        | ptr _ _ e c hs => exact ⟨_, _, rfl⟩
        | ptrDead _ _ _ hs h => exact h
      obtain ⟨b, o, h3⟩ := hp'
      exact ⟨η x, by simp only [execOp, h3]; rfl, hv'⟩
    · rename_i c hx
      rw [hx] at hv
      generalize hu : η x = u at hv
      cases hv with
      | iptr b o c f hm hc => exact ⟨_, by simp only [execOp, hu]; rfl, .iptr b o c f hm hc⟩
    · rename_i f a b hx
      rw [hx] at hv
      have hv' := hv
      generalize hu : η x = u at hv hv'
      cases hv with
      | clo f as bs vs ws hn hk h h' => exact ⟨_, by simp only [execOp, hu]; rfl, hv'⟩
  | fieldAddr t x f =>
    obtain ⟨cv, h1, h2⟩ := fieldA_sound (w := w) S (hρ x) h hp
    exact ⟨cv, lift h1, h2⟩
  | indexAddr t x i =>
    obtain ⟨cv, h1, h2⟩ := indexA_sound (w := w) S (hρ x) (hρ i) h hp
    exact ⟨cv, lift h1, h2⟩
  | load t x =>
    obtain ⟨cv, h1, h2⟩ := loadA_sound R S (hρ x) h hp
    exact ⟨cv, lift h1, h2⟩
  | binOp op t x y ty =>
    obtain ⟨cv, h1, h2⟩ := bin_sound (w := w) (X := x) (Y := y) (hρ x) (hρ y) h hp
    exact ⟨cv, lift h1, h2⟩
  | unOp op t x =>
    have hv := hρ x
    cases op <;> simp only [rv, reduceCtorEq] at h
    · split at h <;> cases h
      rename_i k n hx
      rw [hx] at hv
      generalize hu : η x = u at hv
      cases hv with | imm hv => cases hv with | int _ _ =>
      exact ⟨_, by simp only [execOp, hu]; rfl, .imm (.int _ _)⟩
    · split at h <;> cases h
      rename_i b hx
      rw [hx] at hv
      generalize hu : η x = u at hv
      cases hv with | imm hv => cases hv with | bool _ =>
      exact ⟨_, by simp only [execOp, hu]; rfl, .imm (.bool _)⟩
  | convert s d x =>
    obtain ⟨cv, h1, h2⟩ := convA_sound R S (hρ x) h hp
    exact ⟨cv, lift h1, h2⟩
  | build t parts =>
    obtain ⟨cv, h1, h2⟩ := buildA_sound (w := w) S hρ h hp
    exact ⟨cv, lift h1, h2⟩
  | index t x i =>
    simp only [rv] at h
    have hx := hρ x
    have hi := hρ i
    split at h <;> cases h
    rename_i s k j hk hx' hi'
    rw [hx'] at hx
    rw [hi'] at hi
    generalize hu : η x = u at hx
    generalize hw : η i = z at hi
    cases hx with | imm hx => cases hx with | str b =>
    cases hi with | imm hi => cases hi with | int _ _ =>
    obtain ⟨h0, h1⟩ := hp
    have hlt : j.toNat < b.data.toList.length := by omega
    have hg : b.data.toList.getD j.toNat 0 = b.data.toList[j.toNat] := by rw [List.getD_eq_getElem?_getD, List.getElem?_eq_getElem hlt]; rfl
    refine ⟨.int .u8 (b.data.toList[j.toNat]).toNat, ?_, by rw [hg]; exact .imm (.int _ _)⟩
    refine lift ?_
    have hs : j.toNat < b.size := hlt
    simp only [Instr.index, hu, hw, asIntOf, Sem.run_bind, Sem.run_pure, Result.andThen_ok, run_underlying (kind_str hk), if_pos h0]
    rw [show b[j.toNat]? = some b[j.toNat] from by simp [hs]]
    rfl
  | extract x i =>
    simp only [rv] at h
    have hx := hρ x
    split at h <;> cases h
    rename_i as hx'
    rw [hx'] at hx
    generalize hu : η x = u at hx
    cases hx with | tup as vs hn hv =>
    have he : as[i]? = some as[i] := List.getElem?_eq_getElem hp
    have h2 := hv i _ he
    have hi : i < vs.size := by omega
    refine ⟨vs.getD i undef, lift ?_, by rw [getT_some he]; exact h2⟩
    simp [Instr.extract, hu, hi, Array.getD_eq_getD_getElem?]
  | slice t x lo hi mx =>
    have e : ∀ (y : Option Operand) (a : AVal), y.map ρ = some a → ∃ v, y.map η = some v ∧ VR M π l a v := by
      intro y a h; cases y with
      | none => cases h
      | some y => cases h; exact ⟨_, rfl, hρ y⟩
    have n : ∀ (y : Option Operand), y.map ρ = none → y.map η = none := by
      intro y h; cases y with
      | none => rfl
      | some y => cases h
    obtain ⟨cv, h1, h2⟩ := sliceA_sound (w := w) S (hρ x) (e lo) (n lo) (e hi) (n hi) (e mx) (n mx) h hp
    exact ⟨cv, lift h1, h2⟩
  | makeFunc fn first caps =>
    cases fn <;> simp only [rv, reduceCtorEq] at h
    cases h
    have e : ∀ (xs : Array Operand), (mapO ρ xs.toList).length = (xs.map η).size ∧ ∀ i a, (mapO ρ xs.toList)[i]? = some a → VR M π l a ((xs.map η).getD i undef) := by
      intro xs
      refine ⟨by simp [mapO_length], fun i a hi => ?_⟩
      rw [mapO_get] at hi
      cases hx : xs.toList[i]? with
      | none => rw [hx] at hi; cases hi
      | some x =>
        rw [hx] at hi; cases hi
        have hx' : xs[i]? = some x := by simpa using hx
        rw [Array.getD_eq_getD_getElem?, Array.getElem?_map, hx']; exact hρ x
    exact ⟨_, by simp [execOp, Instr.makeFunc], .clo _ _ _ _ _ (e first).1 (e caps).1 (e first).2 (e caps).2⟩
  | _ => simp only [rv, reduceCtorEq] at h

/-! ### Slots turned -/

def upd (l : Sl) (s : Nat) (x : Slot) : Sl := fun i => if i = s then x else l i
def updP (π : Plc) (s : Nat) (x : Pl) : Plc := fun i => if i = s then x else π i

theorem upd_same (l : Sl) (s : Nat) (x : Slot) : upd l s x s = x := by simp [upd]
theorem upd_other (l : Sl) {s i : Nat} (x : Slot) (h : i ≠ s) : upd l s x i = l i := by simp [upd, h]
theorem updP_same (π : Plc) (s : Nat) (x : Pl) : updP π s x s = x := by simp [updP]
theorem updP_other (π : Plc) {s i : Nat} (x : Pl) (h : i ≠ s) : updP π s x i = π i := by simp [updP, h]

theorem Step.new {s : Nat} (hs : l s = .hole) (x : Slot) (q : Pl) : Step π (updP π s q) l (upd l s x) := by
  intro i
  by_cases e : i = s
  · subst e; rw [hs]; trivial
  · rw [upd_other l x e, updP_other π q e]; exact Step.refl π l i

theorem Step.set {s e : Nat} {c c' : List AVal} (hs : l s = .obj e c) (hc : c = [] ↔ c' = []) : Step π π l (upd l s (.obj e c')) := by
  intro i
  by_cases h : i = s
  · subst h; rw [hs]; exact .inl ⟨c', upd_same _ _ _, hc, rfl⟩
  · rw [upd_other l _ h]; exact Step.refl π l i

theorem Step.kill {s e : Nat} {c : List AVal} (hs : l s = .obj e c) : Step π π l (upd l s .dead) := by
  intro i
  by_cases h : i = s
  · subst h; rw [hs]; exact .inr (upd_same _ _ _)
  · rw [upd_other l _ h]; exact Step.refl π l i

theorem Step.trans {π' π'' : Plc} {l' l'' : Sl} (h : Step π π' l l') (h' : Step π' π'' l' l'') : Step π π'' l l'' := by
  intro s
  cases hs : l s with
  | hole => trivial
  | dead => exact h'.dead (h.dead hs)
  | obj e c =>
    rcases h.obj hs with ⟨c', h1, h2, h3⟩ | h1
    · rcases h'.obj h1 with ⟨c'', g1, g2, g3⟩ | g1
      · exact .inl ⟨c'', g1, h2.trans g2, g3.trans h3⟩
      · exact .inr g1
    · exact .inr (h'.dead h1)

theorem ObjR.mono {M' : Mem} {π' : Plc} {l' : Sl} {w' : World} {s : Nat} {c : List AVal} (hM : ∀ b o v, M b o = some v → M' b o = some v) (hl : Step π π' l l') (hπ : π' s = π s)
    (hw : w'.heap[(π s).b]? = w.heap[(π s).b]?) (h : ObjR M π l w s c) : ObjR M' π' l' w' s c := by
  obtain ⟨cs, ty, h1, h2, h3, h4⟩ := h
  exact ⟨cs, ty, by rw [hπ, hw]; exact h1, by rw [hπ]; exact h2, by rw [hπ]; exact h3, fun i a hi => by rw [hπ]; exact (h4 i a hi).mono hM hl⟩

/-- A world that has only drawn. -/
theorem MemR.drew (R : MemR C M π l w) : MemR C M π l w.drew :=
  { R with
    objs := fun s e c hs hc => (R.objs s e c hs hc).mono (fun _ _ _ h => h) (Step.refl _ _) rfl rfl
    mem := fun b o v h => R.mem b o v h
    stay := R.stay, size := R.size, os := R.os, tape := R.tape, output := R.output }

theorem MemR.lt (R : MemR C M π l w) {b o : Nat} {v : Value} (h : M b o = some v) : b < w.heap.size := by
  have := R.mem b o v h
  rcases Nat.lt_or_ge b w.heap.size with h | h
  · exact h
  · simp [World.cell?, Array.getElem?_eq_none h] at this

/-- A new object in a free slot. -/
theorem MemR.new (R : MemR C M π l w) {s e ty : Nat} (hs : l s = .hole) (hk : C.k ≤ s) {c : List AVal} {cs : Array Value} (hle : c.length ≤ cs.size) (hc : ∀ i a, c[i]? = some a → VR M π l a (cs.getD i undef)) :
    MemR C M (updP π s ⟨w.heap.size, 0, cs.size⟩) (upd l s (.obj e c)) (w.alloc (.cells cs ty)) := by
  have hst : Step π (updP π s ⟨w.heap.size, 0, cs.size⟩) l (upd l s (.obj e c)) := Step.new hs _ _
  have hold : ∀ b, b < w.heap.size → (w.alloc (.cells cs ty)).heap[b]? = w.heap[b]? := fun b hb => by show (w.heap.push _)[b]? = _; rw [Array.getElem?_push, if_neg (by omega)]
  have hnew : (w.alloc (.cells cs ty)).heap[w.heap.size]? = some (.cells cs ty (0, 0)) := by show (w.heap.push _)[_]? = _; rw [Array.getElem?_push, if_pos rfl]
  have hlt : ∀ i e' c', l i = .obj e' c' → c' ≠ [] → (π i).b < w.heap.size := by
    intro i e' c' hi hne
    obtain ⟨_, _, h1, _⟩ := R.objs i e' c' hi hne
    exact (Array.getElem?_eq_some_iff.1 h1).1
  refine ⟨?_, ?_, ?_, ?_, R.m0, R.m00, ?_, ?_, ?_, R.os, R.tape, R.output, R.stp.trans hst⟩
  · intro i e' c' hi hne
    by_cases h : i = s
    · subst h
      rw [upd_same] at hi; injection hi with h1 h2; subst h1 h2
      refine ⟨cs, ty, ?_, ?_, ?_, fun j a hj => ?_⟩
      · rw [updP_same]; exact hnew
      · rw [updP_same]
      · rw [updP_same]; simpa using hle
      · rw [updP_same]; simp only [Nat.zero_add]; exact (hc j a hj).mono (fun _ _ _ h => h) hst
    · rw [upd_other l _ h] at hi
      exact (R.objs i e' c' hi hne).mono (fun _ _ _ h => h) hst (updP_other _ _ h) (hold _ (hlt i e' c' hi hne))
  · intro i j e1 e2 c1 c2 h1 h2 n1 n2 hb
    by_cases hi : i = s <;> by_cases hj : j = s
    · rw [hi, hj]
    · rw [hi, updP_same, updP_other _ _ hj] at hb; rw [upd_other l _ hj] at h2
      have := hlt j _ _ h2 n2; simp only at hb; omega
    · rw [hj, updP_same, updP_other _ _ hi] at hb; rw [upd_other l _ hi] at h1
      have := hlt i _ _ h1 n1; simp only at hb; omega
    · rw [updP_other _ _ hi, updP_other _ _ hj] at hb; rw [upd_other l _ hi] at h1; rw [upd_other l _ hj] at h2
      exact R.dist i j _ _ _ _ h1 h2 n1 n2 hb
  · intro i e' c' hi hne o ho
    by_cases h : i = s
    · subst h; rw [updP_same]
      cases hm : M w.heap.size o with
      | none => rfl
      | some v => have := R.lt hm; omega
    · rw [updP_other _ _ h] at ho ⊢; rw [upd_other l _ h] at hi
      exact R.prot i e' c' hi hne o ho
  · intro b o v h
    have hb := R.lt h
    have := R.mem b o v h
    rwa [World.cell?_of_block (w := w) (hold b hb)]
  · intro i e' c' hi hne
    by_cases h : i = s
    · subst h; rw [updP_same]; exact .inl R.size
    · rw [updP_other _ _ h]; rw [upd_other l _ h] at hi; exact R.own i e' c' hi hne
  · intro b hb hn
    rw [hold b (Nat.lt_of_lt_of_le hb R.size)]; exact R.stay b hb hn
  · have := R.size; show _ ≤ (w.heap.push _).size; simp; omega

/-- A new block of which nothing is told. -/
theorem MemR.garbage (R : MemR C M π l w) (o : Obj) : MemR C M π l (w.alloc o) := by
  have hold : ∀ b, b < w.heap.size → (w.alloc o).heap[b]? = w.heap[b]? := fun b hb => by show (w.heap.push _)[b]? = _; rw [Array.getElem?_push, if_neg (by omega)]
  refine ⟨fun s e c hs hc => ?_, R.dist, R.prot, fun b o' v h => ?_, R.m0, R.m00, R.own, fun b hb hn => ?_, ?_, R.os, R.tape, R.output, R.stp⟩
  · obtain ⟨cs, ty, h1, h2, h3, h4⟩ := R.objs s e c hs hc
    exact ⟨cs, ty, by rw [hold _ (Array.getElem?_eq_some_iff.1 h1).1]; exact h1, h2, h3, h4⟩
  · rw [World.cell?_of_block (w := w) (hold b (R.lt h))]; exact R.mem b o' v h
  · rw [hold b (Nat.lt_of_lt_of_le hb R.size)]; exact R.stay b hb hn
  · have := R.size; show _ ≤ (w.heap.push _).size; simp; omega

/-- The cells of an object turned. -/
theorem MemR.set (R : MemR C M π l w) {s e : Nat} {c c' : List AVal} (hs : l s = .obj e c) (hne : c ≠ []) (hlen : c'.length = c.length) {cs' : Array Value} (hsz : cs'.size = (π s).z)
    (hc : ∀ i a, c'[i]? = some a → VR M π l a (cs'.getD ((π s).o + i) undef)) (hkeep : ∀ cs ty fr, w.heap[(π s).b]? = some (.cells cs ty fr) → ∀ o, o < (π s).o → cs'.getD o undef = cs.getD o undef) :
    MemR C M π (upd l s (.obj e c')) (w.setRow (π s).b cs') := by
  have hiff : c = [] ↔ c' = [] := by
    constructor
    · intro h; exact (hne h).elim
    · intro h; subst h; exact List.eq_nil_of_length_eq_zero (by simpa using hlen.symm)
  have hst : Step π π l (upd l s (.obj e c')) := Step.set hs hiff
  obtain ⟨cs, ty, hb, hz, hle, hv⟩ := R.objs s e c hs hne
  have hsame : (w.setRow (π s).b cs').heap[(π s).b]? = some (.cells cs' ty (0, 0)) := setRow_heap w _ cs cs' ty (0, 0) hb
  have hoth : ∀ b, b ≠ (π s).b → (w.setRow (π s).b cs').heap[b]? = w.heap[b]? := fun b h => setRow_other w _ b cs' h
  have back : ∀ i e' d, upd l s (.obj e c') i = .obj e' d → d ≠ [] → ∃ e'' d', l i = .obj e'' d' ∧ d' ≠ [] := by
    intro i e' d hi hd
    by_cases h : i = s
    · subst h; exact ⟨e, c, hs, hne⟩
    · rw [upd_other l _ h] at hi; exact ⟨e', d, hi, hd⟩
  refine ⟨?_, ?_, ?_, ?_, R.m0, R.m00, ?_, ?_, ?_, R.os, R.tape, R.output, R.stp.trans hst⟩
  · intro i e' d hi hd
    by_cases h : i = s
    · subst h
      rw [upd_same] at hi; injection hi with h1 h2; subst h1 h2
      exact ⟨cs', ty, hsame, hsz, by omega, fun j a hj => (hc j a hj).mono (fun _ _ _ h => h) hst⟩
    · rw [upd_other l _ h] at hi
      refine (R.objs i e' d hi hd).mono (fun _ _ _ h => h) hst rfl (hoth _ ?_)
      intro hbb
      exact h (R.dist i s _ _ _ _ hi hs hd hne hbb)
  · intro i j e1 e2 c1 c2 h1 h2 n1 n2 hbb
    obtain ⟨_, _, g1, g2⟩ := back i e1 c1 h1 n1
    obtain ⟨_, _, g3, g4⟩ := back j e2 c2 h2 n2
    exact R.dist i j _ _ _ _ g1 g3 g2 g4 hbb
  · intro i e' d hi hd o ho
    obtain ⟨_, _, g1, g2⟩ := back i e' d hi hd
    exact R.prot i _ _ g1 g2 o ho
  · intro b o v h
    have h1 := R.mem b o v h
    by_cases hbb : b = (π s).b
    · subst hbb
      have ho : o < (π s).o := by
        rcases Nat.lt_or_ge o (π s).o with h2 | h2
        · exact h2
        · rw [R.prot s e c hs hne o h2] at h; cases h
      rw [cell_setRow_same w _ o cs cs' ty (0, 0) hb]
      have h2 := hkeep cs ty _ hb o ho
      simp only [World.cell?, hb, Option.isSome_none, Bool.false_eq_true, if_false] at h1
      have h3 : o < cs'.size := by omega
      rw [Array.getElem?_eq_getElem h3]
      rw [Array.getD_eq_getD_getElem?, Array.getD_eq_getD_getElem?, h1, Array.getElem?_eq_getElem h3] at h2
      simp at h2; rw [h2]
    · rw [World.cell?_of_block (w := w) (a := ⟨b, o, none⟩) (hoth b hbb)]; exact h1
  · intro i e' d hi hd
    obtain ⟨_, _, g1, g2⟩ := back i e' d hi hd
    exact R.own i _ _ g1 g2
  · intro b hb' hn
    rw [hoth b, R.stay b hb' hn]
    intro hbb
    rcases R.own s e c hs hne with h1 | h1
    · omega
    · exact hn (hbb ▸ h1)
  · simpa using R.size

/-- An object that is given up. -/
theorem MemR.kill (R : MemR C M π l w) {s e : Nat} {c : List AVal} (hs : l s = .obj e c) : MemR C M π (upd l s .dead) w := by
  have hst : Step π π l (upd l s .dead) := Step.kill hs
  have back : ∀ i e' d, upd l s .dead i = .obj e' d → i ≠ s ∧ l i = .obj e' d := by
    intro i e' d hi
    by_cases h : i = s
    · subst h; rw [upd_same] at hi; cases hi
    · rw [upd_other l _ h] at hi; exact ⟨h, hi⟩
  refine ⟨?_, ?_, ?_, R.mem, R.m0, R.m00, ?_, R.stay, R.size, R.os, R.tape, R.output, R.stp.trans hst⟩
  · intro i e' d hi hd; exact (R.objs i e' d (back i e' d hi).2 hd).mono (fun _ _ _ h => h) hst rfl rfl
  · intro i j e1 e2 c1 c2 h1 h2 n1 n2 hbb; exact R.dist i j _ _ _ _ (back i _ _ h1).2 (back j _ _ h2).2 n1 n2 hbb
  · intro i e' d hi hd o ho; exact R.prot i _ _ (back i _ _ hi).2 hd o ho
  · intro i e' d hi hd; exact R.own i _ _ (back i _ _ hi).2 hd

/-- An object given up and taken up anew in a free slot, from some cell on and as far as is wanted. -/
theorem MemR.adopt (R : MemR C M π l w) {s p e e' : Nat} {c c' : List AVal} (hs : l s = .obj e c) (hne : c ≠ []) (hp : l p = .hole) (hk : C.k ≤ p) {o : Nat} (ho : (π s).o ≤ o) (hle : o + c'.length ≤ (π s).z)
    (hc : ∀ cs ty fr, w.heap[(π s).b]? = some (.cells cs ty fr) → ∀ i a, c'[i]? = some a → VR M π l a (cs.getD (o + i) undef)) :
    MemR C M (updP π p ⟨(π s).b, o, (π s).z⟩) (upd (upd l s .dead) p (.obj e' c')) w ∧ Step π (updP π p ⟨(π s).b, o, (π s).z⟩) l (upd (upd l s .dead) p (.obj e' c')) := by
  have hps : p ≠ s := by intro h; subst h; rw [hp] at hs; cases hs
  have hst : Step π (updP π p ⟨(π s).b, o, (π s).z⟩) l (upd (upd l s .dead) p (.obj e' c')) := by
    refine (Step.kill (π := π) hs).trans (Step.new ?_ _ _)
    rw [upd_other l _ hps]; exact hp
  obtain ⟨cs, ty, hb, hz, _, _⟩ := R.objs s e c hs hne
  have back : ∀ i e1 d, upd (upd l s .dead) p (.obj e' c') i = .obj e1 d → i = p ∧ e1 = e' ∧ d = c' ∨ i ≠ p ∧ i ≠ s ∧ l i = .obj e1 d := by
    intro i e1 d hi
    by_cases h : i = p
    · subst h; rw [upd_same] at hi; injection hi with h1 h2; exact .inl ⟨rfl, h1.symm, h2.symm⟩
    · rw [upd_other _ _ h] at hi
      by_cases h2 : i = s
      · subst h2; rw [upd_same] at hi; cases hi
      · rw [upd_other _ _ h2] at hi; exact .inr ⟨h, h2, hi⟩
  refine ⟨⟨?_, ?_, ?_, R.mem, R.m0, R.m00, ?_, R.stay, R.size, R.os, R.tape, R.output, R.stp.trans hst⟩, hst⟩
  · intro i e1 d hi hd
    rcases back i e1 d hi with ⟨rfl, rfl, rfl⟩ | ⟨h1, h2, h3⟩
    · refine ⟨cs, ty, ?_, ?_, ?_, fun j a hj => ?_⟩
      · rw [updP_same]; exact hb
      · rw [updP_same]; exact hz
      · rw [updP_same]; exact hle
      · rw [updP_same]; exact (hc cs ty _ hb j a hj).mono (fun _ _ _ h => h) hst
    · exact (R.objs i e1 d h3 hd).mono (fun _ _ _ h => h) hst (updP_other _ _ h1) rfl
  · intro i j e1 e2 c1 c2 h1 h2 n1 n2 hbb
    rcases back i e1 c1 h1 with ⟨rfl, _, _⟩ | ⟨g1, g2, g3⟩ <;> rcases back j e2 c2 h2 with ⟨rfl, _, _⟩ | ⟨k1, k2, k3⟩
    · rfl
    · rw [updP_same, updP_other _ _ k1] at hbb
      exact (k2 (R.dist j s _ _ _ _ k3 hs n2 hne hbb.symm)).elim
    · rw [updP_same, updP_other _ _ g1] at hbb
      exact (g2 (R.dist i s _ _ _ _ g3 hs n1 hne hbb)).elim
    · rw [updP_other _ _ g1, updP_other _ _ k1] at hbb
      exact R.dist i j _ _ _ _ g3 k3 n1 n2 hbb
  · intro i e1 d hi hd o' ho'
    rcases back i e1 d hi with ⟨rfl, _, _⟩ | ⟨h1, h2, h3⟩
    · rw [updP_same] at ho' ⊢; exact R.prot s e c hs hne o' (by simp only at ho'; omega)
    · rw [updP_other _ _ h1] at ho' ⊢; exact R.prot i _ _ h3 hd o' ho'
  · intro i e1 d hi hd
    rcases back i e1 d hi with ⟨rfl, _, _⟩ | ⟨h1, h2, h3⟩
    · rw [updP_same]; exact R.own s e c hs hne
    · rw [updP_other _ _ h1]; exact R.own i _ _ h3 hd

/-- What an operation has made of the slots. -/
structure Mrg (L L' : List Slot) (l l' : Sl) : Prop where
  hole : ∀ i, i < L.length → l i = .hole → l' i = .hole
  old : ∀ i, i < L.length → l i ≠ .hole → l' i = getS L' i
  new : ∀ i, L.length ≤ i → i < L'.length → l' i = getS L' i
  rest : ∀ i, L'.length ≤ i → l' i = l i
  len : L.length ≤ L'.length
  txt : ∀ i, i < L.length → getS L i = .hole → getS L' i = .hole

theorem getS_lt {L : List Slot} {i : Nat} (h : i < L.length) : getS L i = L[i] := by
  rw [getS_eq, List.getD_eq_getElem?_getD, List.getElem?_eq_getElem h]; rfl

theorem getS_app (L N : List Slot) (i : Nat) (h : i < L.length) : getS (L ++ N) i = getS L i := by
  rw [getS_eq, getS_eq, List.getD_eq_getElem?_getD, List.getD_eq_getElem?_getD, List.getElem?_append_left h]

theorem getS_new (L : List Slot) (x : Slot) : getS (L ++ [x]) L.length = x := by
  rw [getS_eq, List.getD_eq_getElem?_getD, List.getElem?_append_right (Nat.le_refl _)]; simp

theorem getS_set_same {L : List Slot} {i : Nat} (h : i < L.length) (x : Slot) : getS (setS L i x) i = x := by
  rw [getS_eq, setS_eq, List.getD_eq_getElem?_getD, List.getElem?_set]; simp [h]

theorem getS_set_other (L : List Slot) {i j : Nat} (h : i ≠ j) (x : Slot) : getS (setS L i x) j = getS L j := by
  rw [getS_eq, setS_eq, getS_eq, List.getD_eq_getElem?_getD, List.getD_eq_getElem?_getD, List.getElem?_set, if_neg h]

theorem setS_length (L : List Slot) (i : Nat) (x : Slot) : (setS L i x).length = L.length := by rw [setS_eq]; simp

theorem live_lt {s : Nat} (h : liveB L s = true) : s < L.length := by
  rcases Nat.lt_or_ge s L.length with h1 | h1
  · exact h1
  · rw [liveB, getS_eq, List.getD_eq_getElem?_getD, List.getElem?_eq_none h1] at h; cases h

theorem Sub.old (S : Sub L l) {i : Nat} (h : i < L.length) (hn : l i ≠ .hole) : l i = getS L i := (S i h).resolve_left hn

theorem Mrg.refl (S : Sub L l) : Mrg L L l l := ⟨fun i h h' => h', fun i h h' => S.old h h', fun i h h' => by omega, fun i h => rfl, Nat.le_refl _, fun i h h' => h'⟩

theorem Mrg.new1 (S : Sub L l) (x : Slot) : Mrg L (L ++ [x]) l (upd l L.length x) := by
  refine ⟨fun i h h' => by rw [upd_other l x (by omega)]; exact h', fun i h h' => by rw [upd_other l x (by omega), getS_app L _ i h]; exact S.old h h', fun i h h' => ?_, fun i h => ?_, by simp, fun i h h' => by rw [getS_app L _ i h]; exact h'⟩
  · have : i = L.length := by simp at h'; omega
    subst this; rw [upd_same, getS_new]
  · rw [upd_other l x (by simp at h; omega)]

theorem Mrg.set1 (S : Sub L l) {s : Nat} (hl : s < L.length) (hn : l s ≠ .hole) (x : Slot) : Mrg L (setS L s x) l (upd l s x) := by
  refine ⟨fun i h h' => ?_, fun i h h' => ?_, fun i h h' => by rw [setS_length] at h'; omega, fun i h => ?_, by rw [setS_length]; exact Nat.le_refl _, fun i h h' => ?_⟩
  · by_cases e : i = s
    · subst e; exact (hn h').elim
    · rw [upd_other l x e]; exact h'
  · by_cases e : i = s
    · subst e; rw [upd_same, getS_set_same h]
    · rw [upd_other l x e, getS_set_other L (Ne.symm e)]; exact S.old h h'
  · rw [upd_other l x (by rw [setS_length] at h; omega)]
  · have : s ≠ i := by intro e; subst e; exact hn (by rw [S.old hl hn]; exact h')
    rw [getS_set_other L this]; exact h'

theorem Mrg.setNew (S : Sub L l) {s : Nat} (hl : s < L.length) (hn : l s ≠ .hole) (x y : Slot) : Mrg L (setS L s x ++ [y]) l (upd (upd l s x) L.length y) := by
  refine ⟨fun i h h' => ?_, fun i h h' => ?_, fun i h h' => ?_, fun i h => ?_, by simp [setS_length], fun i h h' => ?_⟩
  · rw [upd_other _ _ (by omega)]
    by_cases e : i = s
    · subst e; exact (hn h').elim
    · rw [upd_other l x e]; exact h'
  · rw [upd_other _ _ (by omega), getS_app _ _ i (by rw [setS_length]; exact h)]
    by_cases e : i = s
    · subst e; rw [upd_same, getS_set_same h]
    · rw [upd_other l x e, getS_set_other L (Ne.symm e)]; exact S.old h h'
  · have : i = L.length := by simp [setS_length] at h'; omega
    subst this
    rw [upd_same]
    have := getS_new (setS L s x) y
    rw [setS_length] at this; exact this.symm
  · simp [setS_length] at h
    rw [upd_other _ _ (by omega), upd_other _ _ (by omega)]
  · have : s ≠ i := by intro e; subst e; exact hn (by rw [S.old hl hn]; exact h')
    rw [getS_app _ _ i (by rw [setS_length]; exact h), getS_set_other L this]; exact h'

end
end Go.Abs
