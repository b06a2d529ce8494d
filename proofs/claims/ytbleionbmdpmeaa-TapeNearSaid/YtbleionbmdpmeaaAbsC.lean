/- What the operations that write nothing come to in the model. -/
import Derived.Test.YtbleionbmdpmeaaAbsB
import Derived.Laws.Sem
import Derived.Laws.Cells
import Derived.Laws.Tables
import Derived.WalkKit
import Derived.Laws.Cover3
import Derived.Laws.Small
import Derived.Laws.BytesString
set_option linter.unusedVariables false
set_option linter.unusedSimpArgs false
namespace Go.Abs

/-! ### Types -/

theorem sz_info {P : Program} {t : TypeId} {i : TypeInfo} (h : P.info? t = some i) : P.cellsOf t = i.size := by simp [Program.cellsOf, h]

theorem kind_slice {P : Program} {t : TypeId} {a b : Nat} {z : List IVal} {u : Bool} (h : (tiOf P t).kind = .slice a b z u) :
    ∃ e i, P.underlying t = some (.slice e) ∧ P.info? e = some i ∧ i.size = a ∧ i.bytes = b ∧ zerosOf P e = some z ∧ z.length = a := by
  simp only [tiOf, kindOf] at h
  split at h <;> try (cases h; done)
  · rename_i e he
    split at h <;> try (cases h; done)
    rename_i i z' hi hz
    split at h <;> try (cases h; done)
    rename_i hl
    injection h with h1 h2 h3 h4
    subst h1 h2 h3
    exact ⟨e, i, he, hi, rfl, rfl, hz, hl⟩
  · split at h <;> cases h
  · split at h <;> cases h

theorem u8_of {P : Program} {t e : TypeId} {a b : Nat} {z : List IVal} (h : (tiOf P t).kind = .slice a b z true) (he : P.underlying t = some (.slice e)) : P.underlying e = some (.int .u8) := by
  simp only [tiOf, kindOf, he] at h
  split at h <;> try (cases h; done)
  split at h <;> try (cases h; done)
  injection h with h1 h2 h3 h4
  split at h4 <;> first | assumption | cases h4

theorem kind_array {P : Program} {t : TypeId} {n a : Nat} (h : (tiOf P t).kind = .array n a) :
    ∃ e i, P.underlying t = some (.array n e) ∧ P.info? e = some i ∧ i.size = a := by
  simp only [tiOf, kindOf] at h
  split at h <;> try (cases h; done)
  · split at h <;> try (cases h; done)
    split at h <;> cases h
  · rename_i m e he
    split at h <;> try (cases h; done)
    rename_i i hi
    injection h with h1 h2
    subst h1 h2
    exact ⟨e, i, he, hi, rfl⟩
  · split at h <;> cases h

theorem kind_struct {P : Program} {t : TypeId} {fs : List (Nat × Nat)} (h : (tiOf P t).kind = .struct fs) :
    ∃ fields, P.underlying t = some (.struct fields) ∧ fields.toList.mapM (fun f => (P.info? f.type).map fun i => (f.offset, i.size)) = some fs := by
  simp only [tiOf, kindOf] at h
  split at h <;> try (cases h; done)
  · split at h <;> try (cases h; done)
    split at h <;> cases h
  · split at h <;> cases h
  · rename_i fields he
    split at h <;> try (cases h; done)
    rename_i l hl
    injection h with h1
    subst h1
    exact ⟨fields, he, hl⟩

theorem kind_int {P : Program} {t : TypeId} {k : IntKind} (h : (tiOf P t).kind = .int k) : P.underlying t = some (.int k) := by
  simp only [tiOf, kindOf] at h
  split at h <;> try (cases h; done)
  · rename_i k' he; injection h with h1; subst h1; exact he
  · split at h <;> try (cases h; done)
    split at h <;> cases h
  · split at h <;> cases h
  · split at h <;> cases h

theorem kind_str {P : Program} {t : TypeId} (h : (tiOf P t).kind = .str) : P.underlying t = some .string := by
  simp only [tiOf, kindOf] at h
  split at h <;> try (cases h; done)
  · rename_i he; exact he
  · split at h <;> try (cases h; done)
    split at h <;> cases h
  · split at h <;> cases h
  · split at h <;> cases h

theorem mapM_get {α β : Type} {f : α → Option β} : ∀ {l : List α} {r : List β}, l.mapM f = some r → ∀ (i : Nat) (b : β), r[i]? = some b → ∃ a, l[i]? = some a ∧ f a = some b
  | [], r, h, i, b, hb => by simp at h; subst h; simp at hb
  | x :: l, r, h, i, b, hb => by
    simp only [List.mapM_cons, Option.bind_eq_bind, Option.pure_def, Option.bind_eq_some_iff] at h
    obtain ⟨y, hy, r', hr', h⟩ := h
    injection h with h; subst h
    cases i with
    | zero => simp at hb; subst hb; exact ⟨x, rfl, hy⟩
    | succ i => simp at hb ⊢; exact mapM_get hr' i b hb

theorem nthP_eq : ∀ (l : List (Nat × Nat)) (i : Nat), nthP l i = l[i]?
  | [], i => by simp [nthP]
  | a :: l, 0 => by simp [nthP]
  | a :: l, n + 1 => by simpa [nthP] using nthP_eq l n

theorem run_isAgg {P : Program} {t : TypeId} (h : (tiOf P t).ok = true) (w : World) : (isAgg t).run P w = .ok (tiOf P t).agg w := by
  simp only [tiOf, Bool.and_eq_true] at h
  obtain ⟨d, hd⟩ := Option.isSome_iff_exists.1 h.1
  simp only [isAgg, Sem.run_bind, run_underlying hd, Result.andThen_ok, tiOf, aggOf, hd]
  cases d <;> rfl

theorem run_sizeOf' {P : Program} {t : TypeId} (h : (tiOf P t).ok = true) (w : World) : (sizeOf t).run P w = .ok (tiOf P t).sz w := by
  simp only [tiOf, Bool.and_eq_true] at h
  obtain ⟨i, hi⟩ := Option.isSome_iff_exists.1 h.2
  rw [run_sizeOf w hi]; rfl

/-! ### Slots -/

/-- What is known of the slots in the order of the text, and what lies there now (some operations may not have been done yet). -/
def Sub (L : List Slot) (l : Sl) : Prop := ∀ i, i < L.length → l i = .hole ∨ l i = getS L i

theorem Sub.get {L : List Slot} {l : Sl} (h : Sub L l) {s : Nat} (hl : liveB L s = true) {x : Slot} (hx : l s = x) (hne : x ≠ .hole) : getS L s = x := by
  have hs : s < L.length := by
    rcases Nat.lt_or_ge s L.length with h | h
    · exact h
    · rw [liveB, getS_eq, List.getD_eq_getElem?_getD, List.getElem?_eq_none h] at hl; cases hl
  rcases h s hs with h1 | h1
  · rw [h1] at hx; exact (hne hx.symm).elim
  · rw [← h1, hx]

section
variable {M : Mem} {π : Plc} {l : Sl} {L : List Slot} {C : Ctx} {w : World} {P : Program}

theorem live_ptr (S : Sub L l) {s off : Nat} {v : Value} (h : VR M π l (.ptr s off) v) (hl : liveB L s = true) :
    ∃ e c, l s = .obj e c ∧ getS L s = .obj e c ∧ v = .pointer (some ⟨(π s).b, (π s).o + off, none⟩) := by
  cases h with
  | ptr s off e c hs => exact ⟨e, c, hs, S.get hl hs (by simp), rfl⟩
  | ptrDead s off v hs hv =>
    have := S.get hl hs (by simp)
    rw [liveB, this] at hl; cases hl

theorem live_ref (S : Sub L l) {s off n : Nat} {v : Value} (h : VR M π l (.ref s off n) v) (hl : liveB L s = true) :
    ∃ e c, l s = .obj e c ∧ getS L s = .obj e c ∧
      ((c ≠ [] ∧ ∃ x cap, v = .slice (some ⟨(π s).b, x, none⟩) n cap ∧ n ≤ cap ∧ ((π s).o + off = x ∨ n = 0 ∧ cap = 0) ∧ x + cap * e ≤ (π s).z) ∨
       (c = [] ∧ n = 0 ∧ ∃ a, v = .slice a 0 0)) := by
  cases h with
  | ref s off n e x cap c hs hc hn hx hz => exact ⟨e, c, hs, S.get hl hs (by simp), .inl ⟨hc, x, cap, rfl, hn, hx, hz⟩⟩
  | refVoid s off e a hs => exact ⟨e, [], hs, S.get hl hs (by simp), .inr ⟨rfl, rfl, a, rfl⟩⟩
  | refDead s off n v hs hv =>
    have := S.get hl hs (by simp)
    rw [liveB, this] at hl; cases hl

theorem cells_live {s e : Nat} {c : List AVal} (h : getS L s = .obj e c) : cellsOf L s = c := by rw [cellsOf, h]

theorem MemR.cell (R : MemR C M π l w) {s e : Nat} {c : List AVal} (hs : l s = .obj e c) {i : Nat} (hi : i < c.length) :
    ∃ v, w.cell? ⟨(π s).b, (π s).o + i, none⟩ = some v ∧ VR M π l (getT c i) v ∧ w.frozen? ⟨(π s).b, (π s).o + i, none⟩ = false := by
  have hne : c ≠ [] := by intro h; subst h; simp at hi
  obtain ⟨cs, ty, hb, hz, hle, hv⟩ := R.objs s e c hs hne
  have hc : c[i]? = some c[i] := List.getElem?_eq_getElem hi
  have h1 := hv i _ hc
  refine ⟨cs.getD ((π s).o + i) undef, ?_, by rw [getT_some hc]; exact h1, ?_⟩
  · simp only [World.cell?, hb, Option.isSome_none, Bool.false_eq_true, if_false]
    rw [Array.getD_eq_getD_getElem?, Array.getElem?_eq_getElem (by omega)]; rfl
  · simp only [World.frozen?, hb]; simp

theorem addr_add (b o n : Nat) : Addr.add ⟨b, o, none⟩ n = ⟨b, o + n, none⟩ := Addr.add_lit b o n

/-- cells read one by one -/
theorem run_loadCells_at {b o n : Nat} {f : Nat → Value} (h : ∀ j, j < n → w.cell? ⟨b, o + j, none⟩ = some (f j)) :
    (loadCells ⟨b, o, none⟩ n).run P w = .ok ((List.range n).map f).toArray w := by
  have := run_loadCells (P := P) (w := w) ⟨b, o, none⟩ n f (fun j hj => by rw [addr_add]; exact h j hj)
  exact this

theorem toArray_getD (f : Nat → Value) (n i : Nat) (h : i < n) : (((List.range n).map f).toArray).getD i undef = f i := by
  rw [Array.getD_eq_getD_getElem?]; simp [h]

/-- A variable read out of an object. -/
theorem load_obj (R : MemR C M π l w) {t : TypeId} (hok : (tiOf P t).ok = true) {s e o : Nat} {c : List AVal} (hs : l s = .obj e c)
    (hb : if (tiOf P t).agg = true then o + (tiOf P t).sz ≤ c.length else o < c.length) :
    ∃ v, (loadVar t ⟨(π s).b, (π s).o + o, none⟩).run P w = .ok v w ∧ VR M π l (if (tiOf P t).agg = true then .agg ((c.drop o).take (tiOf P t).sz) else getT c o) v := by
  unfold loadVar
  simp only [Sem.run_bind, run_isAgg hok, Result.andThen_ok]
  cases ha : (tiOf P t).agg with
  | true =>
    rw [ha] at hb
    simp only [if_true] at hb ⊢
    have hcell : ∀ j, j < (tiOf P t).sz → ∃ v, w.cell? ⟨(π s).b, (π s).o + o + j, none⟩ = some v ∧ VR M π l (getT c (o + j)) v := by
      intro j hj
      obtain ⟨v, h1, h2, _⟩ := R.cell hs (show o + j < c.length by omega)
      exact ⟨v, by rw [Nat.add_assoc]; exact h1, h2⟩
    have hch : ∃ f : Nat → Value, ∀ j, j < (tiOf P t).sz → w.cell? ⟨(π s).b, (π s).o + o + j, none⟩ = some (f j) ∧ VR M π l (getT c (o + j)) (f j) := by
      refine ⟨fun j => if h : j < (tiOf P t).sz then Classical.choose (hcell j h) else undef, fun j hj => ?_⟩
      simp only [hj, dif_pos]
      exact Classical.choose_spec (hcell j hj)
    obtain ⟨f, hf⟩ := hch
    simp only [Sem.run_bind, run_sizeOf' hok, Result.andThen_ok, run_loadCells_at (P := P) (fun j hj => (hf j hj).1), Sem.run_pure]
    refine ⟨_, rfl, .agg _ _ (by simp; omega) (fun i a hi => ?_)⟩
    have hi' : i < (tiOf P t).sz := by
      have := (List.getElem?_eq_some_iff.1 hi).1
      simp at this; omega
    rw [toArray_getD _ _ _ hi']
    have h2 := (hf i hi').2
    rw [List.getElem?_take_of_lt hi', List.getElem?_drop] at hi
    rwa [getT_some hi] at h2
  | false =>
    rw [ha] at hb
    simp only [Bool.false_eq_true, if_false] at hb ⊢
    obtain ⟨v, h1, h2, _⟩ := R.cell hs hb
    exact ⟨v, by simp [run_load, h1], h2⟩

/-- A variable read out of memory that stays. -/
theorem load_imm (R : MemR C M π l w) {t : TypeId} (hok : (tiOf P t).ok = true) {b o : Nat} {c : List IVal} {f : Nat → Value}
    (hm : ∀ i iv, c[i]? = some iv → M b (o + i) = some (f i)) (hc : ∀ i iv, c[i]? = some iv → IR M iv (f i))
    (hb : if (tiOf P t).agg = true then (tiOf P t).sz ≤ c.length else 0 < c.length) :
    ∃ v, (loadVar t ⟨b, o, none⟩).run P w = .ok v w ∧ VR M π l (if (tiOf P t).agg = true then .agg ((c.take (tiOf P t).sz).map .imm) else hd c) v := by
  unfold loadVar
  simp only [Sem.run_bind, run_isAgg hok, Result.andThen_ok]
  cases ha : (tiOf P t).agg with
  | true =>
    rw [ha] at hb
    simp only [if_true] at hb ⊢
    have hf : ∀ j, j < (tiOf P t).sz → w.cell? ⟨b, o + j, none⟩ = some (f j) := by
      intro j hj
      exact R.mem _ _ _ (hm j _ (List.getElem?_eq_getElem (show j < c.length by omega)))
    simp only [Sem.run_bind, run_sizeOf' hok, Result.andThen_ok, run_loadCells_at (P := P) hf, Sem.run_pure]
    refine ⟨_, rfl, .agg _ _ (by simp; omega) (fun i a hi => ?_)⟩
    have hi' : i < (tiOf P t).sz := by
      have := (List.getElem?_eq_some_iff.1 hi).1
      simp at this; omega
    rw [toArray_getD _ _ _ hi']
    rw [List.getElem?_map, List.getElem?_take_of_lt hi'] at hi
    cases hx : c[i]? with
    | none => rw [hx] at hi; cases hi
    | some iv => rw [hx] at hi; cases hi; exact .imm (hc i iv hx)
  | false =>
    rw [ha] at hb
    simp only [Bool.false_eq_true, if_false] at hb ⊢
    cases c with
    | nil => simp at hb
    | cons x c =>
      have h1 := R.mem _ _ _ (hm 0 x rfl)
      exact ⟨f 0, by simp only [Nat.add_zero] at h1; simp [run_load, h1], .imm (hc 0 x rfl)⟩

theorem loadA_sound (R : MemR C M π l w) (S : Sub L l) {t : TypeId} {x : AVal} {cv : Value} (hx : VR M π l x cv) {p : Prop} {v : AVal} (h : loadA P L t x = some (p, v)) (hp : p) :
    ∃ cv', (Instr.loadAt t cv).run P w = .ok cv' w ∧ VR M π l v cv' := by
  unfold loadA at h
  split at h
  · rename_i s o
    split at h
    · rename_i ha
      cases h
      obtain ⟨e, c, h1, h2, rfl⟩ := live_ptr S hx hp.2.1
      have := load_obj R (t := t) hp.1 (o := o) h1 (by rw [if_pos ha, ← cells_live h2]; exact hp.2.2)
      rw [if_pos ha] at this
      simpa [Instr.loadAt, Instr.sureAddr, cells_live h2] using this
    · rename_i ha
      cases h
      obtain ⟨e, c, h1, h2, rfl⟩ := live_ptr S hx hp.2.1
      have := load_obj R (t := t) hp.1 (o := o) h1 (by rw [if_neg ha, ← cells_live h2]; exact hp.2.2)
      rw [if_neg ha] at this
      simpa [Instr.loadAt, Instr.sureAddr, cells_live h2] using this
  · rename_i c
    cases hx with
    | iptr b o c f hm hc =>
    split at h
    · rename_i ha
      cases h
      have := load_imm R (t := t) hp.1 hm hc (by rw [if_pos ha]; exact hp.2)
      rw [if_pos ha] at this
      simpa [Instr.loadAt, Instr.sureAddr] using this
    · rename_i ha
      cases h
      have := load_imm R (t := t) hp.1 hm hc (by rw [if_neg ha]; exact hp.2)
      rw [if_neg ha] at this
      simpa [Instr.loadAt, Instr.sureAddr] using this
  · cases h

theorem fieldA_sound (S : Sub L l) {t : TypeId} {x : AVal} {f : Nat} {cv : Value} (hx : VR M π l x cv) {p : Prop} {v : AVal} (h : fieldA P L t x f = some (p, v)) (hp : p) :
    ∃ cv', (Instr.fieldAt t cv f).run P w = .ok cv' w ∧ VR M π l v cv' := by
  unfold fieldA at h
  split at h <;> try (cases h; done)
  rename_i fs hk
  obtain ⟨fields, hu, hm⟩ := kind_struct hk
  rw [nthP_eq] at h
  split at h <;> try (cases h; done)
  rename_i off sz hf
  obtain ⟨fd, hfd, hfi⟩ := mapM_get hm f _ hf
  split at h
  · cases h
  rename_i hsz
  cases hi : P.info? fd.type with
  | none => rw [hi] at hfi; cases hfi
  | some i =>
  rw [hi] at hfi
  simp only [Option.map_some, Option.some.injEq, Prod.mk.injEq] at hfi
  have hfd' : fields[f]? = some fd := by simpa using hfd
  have key : ∀ b o, (Instr.fieldAt t (.pointer (some ⟨b, o, none⟩)) f).run P w = .ok (.pointer (some ⟨b, o + off, none⟩)) w := by
    intro b o
    simp only [Instr.fieldAt, Sem.run_bind, run_underlying hu, Result.andThen_ok, hfd', Instr.sureAddr, Sem.run_pure, fieldPlace, run_sizeOf w hi, sz_info hi, hfi.2, Sem.run_ite, if_neg hsz, hfi.1, addr_add]
  split at h
  · rename_i s o
    cases h
    cases hx with
    | ptr _ _ e c hs => exact ⟨_, key _ _, by rw [Nat.add_assoc]; exact .ptr s (o + off) e c hs⟩
    | ptrDead _ _ _ hs hv => obtain ⟨b, o', rfl⟩ := hv; exact ⟨_, key _ _, .ptrDead s (o + off) _ hs ⟨_, _, rfl⟩⟩
  · rename_i c
    cases h
    cases hx with
    | iptr b o c f hm hc =>
      refine ⟨_, key _ _, .iptr b (o + off) (c.drop off) (fun i => f (off + i)) (fun i iv hi => ?_) (fun i iv hi => ?_)⟩
      · rw [List.getElem?_drop] at hi; rw [Nat.add_assoc]; exact hm _ _ hi
      · rw [List.getElem?_drop] at hi; exact hc _ _ hi
  · cases h

theorem indexA_sound (S : Sub L l) {t : TypeId} {x i : AVal} {cv ci : Value} (hx : VR M π l x cv) (hi : VR M π l i ci) {p : Prop} {v : AVal} (h : indexA P L t x i = some (p, v)) (hp : p) :
    ∃ cv', (Instr.indexAt t cv ci).run P w = .ok cv' w ∧ VR M π l v cv' := by
  unfold indexA at h
  split at h <;> try (cases h; done)
  rename_i k j
  cases hi with
  | imm hi =>
  cases hi with
  | int _ _ =>
  have slc : ∀ {a eb : Nat} {z : List IVal} {u : Bool}, (tiOf P t).kind = .slice a eb z u → ∀ b o n cap, 0 ≤ j → j < (n : Nat) →
      (Instr.indexAt t (.slice (some ⟨b, o, none⟩) n cap) (.int k j)).run P w = .ok (.pointer (some ⟨b, o + j.toNat * a, none⟩)) w := by
    intro a eb z u hk b o n cap h0 h1
    obtain ⟨e, i, hu, hinfo, hsz, _⟩ := kind_slice hk
    simp only [Instr.indexAt, asIntOf, Sem.run_bind, Sem.run_pure, Result.andThen_ok, run_underlying hu, Sem.run_ite, if_pos (And.intro h0 h1), run_sizeOf w hinfo, sz_info hinfo, hsz, addr_add]
  have arr : ∀ {n a : Nat}, (tiOf P t).kind = .array n a → ∀ b o, 0 ≤ j → j < (n : Nat) →
      (Instr.indexAt t (.pointer (some ⟨b, o, none⟩)) (.int k j)).run P w = .ok (.pointer (some ⟨b, o + j.toNat * a, none⟩)) w := by
    intro n a hk b o h0 h1
    obtain ⟨e, i, hu, hinfo, hsz⟩ := kind_array hk
    simp only [Instr.indexAt, asIntOf, Instr.sureAddr, Sem.run_bind, Sem.run_pure, Result.andThen_ok, run_underlying hu, Sem.run_ite, if_pos (And.intro h0 h1), run_sizeOf w hinfo, sz_info hinfo, hsz, addr_add]
  have dropR : ∀ {b o : Nat} {c : List IVal} {f : Nat → Value} (d : Nat), (∀ i iv, c[i]? = some iv → M b (o + i) = some (f i)) → (∀ i iv, c[i]? = some iv → IR M iv (f i)) →
      VR M π l (.iptr (c.drop d)) (.pointer (some ⟨b, o + d, none⟩)) := by
    intro b o c f d hm hc
    refine .iptr b (o + d) (c.drop d) (fun i => f (d + i)) (fun i iv hi => ?_) (fun i iv hi => ?_)
    · rw [List.getElem?_drop] at hi; rw [Nat.add_assoc]; exact hm _ _ hi
    · rw [List.getElem?_drop] at hi; exact hc _ _ hi
  split at h <;> try (cases h; done)
  · rename_i esz eb z u n c hk
    cases h
    cases hx with
    | imm hx =>
    cases hx with
    | nil => exact absurd hp.2 (by omega)
    | void a => exact absurd hp.2 (by omega)
    | unk => exact absurd hp.2 (by omega)
    | lst g b o n cap c f hg hn hm hc => exact ⟨_, slc hk b o n cap hp.1 hp.2, dropR _ hm hc⟩
  · rename_i esz eb z u s o n hk
    cases h
    obtain ⟨e, c, h1, h2, h3⟩ := live_ref S hx hp.1
    rcases h3 with ⟨hc, y, cap, rfl, hn, hy, hz⟩ | ⟨_, rfl, _⟩
    · rcases hy with hy | ⟨rfl, _⟩
      · exact ⟨_, slc hk _ y n cap hp.2.1 hp.2.2, by rw [← hy, Nat.add_assoc]; exact .ptr s _ e c h1⟩
      · exact absurd hp.2.2 (by omega)
    · exact absurd hp.2.2 (by omega)
  · rename_i n esz s o hk
    cases h
    obtain ⟨e, c, h1, h2, rfl⟩ := live_ptr S hx hp.1
    exact ⟨_, arr hk _ _ hp.2.1 hp.2.2, by rw [Nat.add_assoc]; exact .ptr s _ e c h1⟩
  · rename_i n esz c hk
    cases h
    cases hx with
    | iptr b o c f hm hc => exact ⟨_, arr hk b o hp.1 hp.2, dropR _ hm hc⟩

theorem isSliceK_iff {k : Kind} (h : isSliceK k = true) : ∃ a b z u, k = .slice a b z u := by
  cases k <;> simp [isSliceK] at h
  exact ⟨_, _, _, _, rfl⟩

theorem isStrK_iff {k : Kind} (h : isStrK k = true) : k = .str := by cases k <;> simp [isStrK] at h; rfl

theorem kind_bool {t : TypeId} (h : isBoolK (tiOf P t).kind = true) : P.underlying t = some .bool := by
  have h : (tiOf P t).kind = .bool := by cases hk : (tiOf P t).kind <;> simp [isBoolK, hk] at h; rfl
  simp only [tiOf, kindOf] at h
  split at h <;> try (cases h; done)
  · rename_i he; exact he
  · split at h <;> try (cases h; done)
    split at h <;> cases h
  · split at h <;> cases h
  · split at h <;> cases h

theorem lenA_sound (S : Sub L l) {t ty : TypeId} {x : AVal} {cv : Value} (hx : VR M π l x cv) {p : Prop} {v : AVal} (h : lenA P t L x = some (p, v)) (hp : p) :
    ∃ cv', (Builtin.len_ #[t] ty #[cv]).run P w = .ok cv' w ∧ VR M π l v cv' := by
  have slc : ∀ a n cap, isSliceK (tiOf P t).kind = true → (Builtin.len_ #[t] ty #[.slice a n cap]).run P w = .ok (.int .i64 n) w := by
    intro a n cap hk
    obtain ⟨_, _, _, _, hk⟩ := isSliceK_iff hk
    obtain ⟨e, i, hu, _⟩ := kind_slice hk
    simp [Builtin.len_, run_underlying hu, goInt]
  unfold lenA at h
  split at h <;> cases h
  · rename_i s
    cases hx with
    | imm hx =>
    cases hx with
    | str b =>
      have hu := kind_str (isStrK_iff hp)
      refine ⟨.int .i64 b.size, by simp [Builtin.len_, run_underlying hu, goInt], ?_⟩
      rw [show b.data.toList.length = b.size from rfl]; exact .imm (.int _ _)
  · rename_i n c
    cases hx with
    | imm hx =>
    cases hx with
    | nil => exact ⟨_, slc _ _ _ hp, .imm (.int _ _)⟩
    | void a => exact ⟨_, slc _ _ _ hp, .imm (.int _ _)⟩
    | unk => exact ⟨_, slc _ _ _ hp, .imm (.int _ _)⟩
    | lst g b o n cap c f hg hn hm hc => exact ⟨_, slc _ _ _ hp, .imm (.int _ _)⟩
  · rename_i s off n
    cases hx with
    | ref => exact ⟨_, slc _ _ _ hp, .imm (.int _ _)⟩
    | refVoid => exact ⟨_, slc _ _ _ hp, .imm (.int _ _)⟩
    | refDead _ _ _ _ hs hv => obtain ⟨a, cap, rfl⟩ := hv; exact ⟨_, slc _ _ _ hp, .imm (.int _ _)⟩

theorem run_string_add' (a b : ByteArray) (h : a.size + b.size ≤ 9223372036854775807) : (Op.stringOp .add a b).run P w = .ok (.string (a ++ b)) w := by
  unfold Op.stringOp
  simp only []
  have hm : IntKind.i64.max = 9223372036854775807 := by simp [IntKind.max, IntKind.signed, IntKind.bits]
  rw [if_neg (by rw [hm]; omega)]
  rfl

theorem toList_data (a : ByteArray) : a.toList = a.data.toList := by
  exact ByteArray.toList_eq a

theorem slice_eq_nil (t : TypeId) (hk : isSliceK (tiOf P t).kind = true) (a : Option Addr) (n c : Nat) (X Y : Operand) :
    (do eqGuard .eql t X Y (.slice a n c) (.slice none 0 0); binOp .eql t (.slice a n c) (.slice none 0 0) : Sem Value).run P w = .ok (.bool a.isNone) w ∧
    (do eqGuard .neq t X Y (.slice a n c) (.slice none 0 0); binOp .neq t (.slice a n c) (.slice none 0 0) : Sem Value).run P w = .ok (.bool (!a.isNone)) w := by
  obtain ⟨_, _, _, _, hk⟩ := isSliceK_iff hk
  obtain ⟨e, i, hu, _⟩ := kind_slice hk
  have h := run_equal_slice_nil (P := P) w t e a n c hu
  constructor
  · simp only [go_sem, Sem.run_bind, Sem.run_pure, Result.andThen_ok, binOp, h]
  · simp only [go_sem, Sem.run_bind, Sem.run_pure, Result.andThen_ok, binOp, h]

theorem bin_sound {op : BinOp} {t : TypeId} {X Y : Operand} {x y : AVal} {cx cy : Value} (hx : VR M π l x cx) (hy : VR M π l y cy) {p : Prop} {v : AVal} (h : bin P t op x y = some (p, v)) (hp : p) :
    ∃ cv', (do eqGuard op t X Y cx cy; binOp op t cx cy : Sem Value).run P w = .ok cv' w ∧ VR M π l v cv' := by
  unfold bin at h
  split at h <;> try (cases h; done)
  · rename_i k a k' b
    split at h <;> try (cases h; done)
    rename_i hk
    subst hk
    cases hx with
    | imm hx =>
    cases hx with
    | int _ _ =>
    cases hy with
    | imm hy =>
    cases hy with
    | int _ _ =>
    cases op <;> simp only [Option.some.injEq, Prod.mk.injEq, reduceCtorEq] at h <;> obtain ⟨rfl, rfl⟩ := h
    all_goals first
      | (refine ⟨_, ?_, .imm (.int _ _)⟩; simp [go_sem, Op.intArith]; done)
      | (refine ⟨_, ?_, .imm (.int _ _)⟩; simp [go_sem, Op.intDiv, hp]; done)
      | (refine ⟨_, ?_, .imm (.bool _)⟩; simp [go_sem, Bool.beq_eq_decide_eq, bne]; done)
  · rename_i a b
    cases hx with
    | imm hx =>
    cases hx with
    | str ba =>
    cases hy with
    | imm hy =>
    cases hy with
    | str bb =>
    cases op <;> simp only [Option.some.injEq, Prod.mk.injEq, reduceCtorEq] at h <;> obtain ⟨rfl, rfl⟩ := h
    · refine ⟨.string (ba ++ bb), by have := run_string_add' (P := P) (w := w) ba bb hp; simp [go_sem, binOp, this], ?_⟩
      rw [show ba.data.toList ++ bb.data.toList = (ba ++ bb).data.toList from by simp]
      exact .imm (.str _)
    · refine ⟨_, ?_, .imm (.bool _)⟩; simp [go_sem, binOp, Op.stringOp, toList_data, Bool.beq_eq_decide_eq]
    · refine ⟨_, ?_, .imm (.bool _)⟩; simp [go_sem, binOp, Op.stringOp, toList_data, Bool.beq_eq_decide_eq]
  · rename_i a b
    cases hx with
    | imm hx =>
    cases hx with
    | bool ba =>
    cases hy with
    | imm hy =>
    cases hy with
    | bool bb =>
    cases op <;> simp only [Option.some.injEq, Prod.mk.injEq, reduceCtorEq] at h <;> obtain ⟨rfl, rfl⟩ := h
    all_goals (refine ⟨_, ?_, .imm (.bool _)⟩; simp [go_sem, binOp, run_equal_bool, kind_bool hp])
  · rename_i n c n' c'
    cases hy with
    | imm hy =>
    cases hy with
    | lst g b o n cap c f hg hn hm hc => rcases hg with h | h <;> cases h
    | nil =>
    cases hx with
    | imm hx =>
    cases hx with
    | lst g b o n cap c f hg hn hm hc => rcases hg with h | h <;> cases h
    | nil =>
    cases op <;> simp only [Option.some.injEq, Prod.mk.injEq, reduceCtorEq] at h <;> obtain ⟨rfl, rfl⟩ := h
    · exact ⟨_, (slice_eq_nil t hp none 0 0 X Y).1, .imm (.bool _)⟩
    · exact ⟨_, (slice_eq_nil t hp none 0 0 X Y).2, .imm (.bool _)⟩
  · rename_i n c n' c'
    cases hy with
    | imm hy =>
    cases hy with
    | lst g b o n cap c f hg hn hm hc => rcases hg with h | h <;> cases h
    | nil =>
    cases hx with
    | imm hx =>
    cases hx with
    | lst g b o n cap c f hg hn hm hc =>
    cases op <;> simp only [Option.some.injEq, Prod.mk.injEq, reduceCtorEq] at h <;> obtain ⟨rfl, rfl⟩ := h
    · exact ⟨_, (slice_eq_nil t hp _ _ _ X Y).1, .imm (.bool _)⟩
    · exact ⟨_, (slice_eq_nil t hp _ _ _ X Y).2, .imm (.bool _)⟩

theorem run_bound {x : Value} {k : IntKind} {j : Int} (hx : x = .int k j) {y : Nat} {code : BoundsCode} (h0 : 0 ≤ j) (h1 : j.toNat ≤ y) : (Instr.sliceBound x y code).run P w = .ok j.toNat w := by
  subst hx
  have : (0 ≤ j ∧ j ≤ (y : Int)) := ⟨h0, by omega⟩
  simp only [Instr.sliceBound, asIntOf, Sem.run_bind, Sem.run_pure, Result.andThen_ok, Sem.run_ite, if_pos this]

/-- The bounds of a cut without a third one. -/
theorem bounds_sound {lo hi : Option AVal} {clo chi : Option Value} {b : Bool} {len cap : Nat} {pl ph : Prop} {lo' hi' : Nat}
    (hlo : bnd 0 lo = some (pl, lo')) (hhi : bnd len hi = some (ph, hi')) (vlo : ∀ a, lo = some a → ∃ v, clo = some v ∧ VR M π l a v) (nlo : lo = none → clo = none)
    (vhi : ∀ a, hi = some a → ∃ v, chi = some v ∧ VR M π l a v) (nhi : hi = none → chi = none) (hpl : pl) (hph : ph) (h1 : lo' ≤ hi') (h2 : hi' ≤ cap) :
    (Instr.sliceBounds b len cap clo chi none).run P w = .ok (lo', hi', cap) w := by
  have inv : ∀ {x : Option AVal} {d n : Nat} {q : Prop}, bnd d x = some (q, n) → q → (x = none ∧ n = d) ∨ ∃ k j, x = some (.imm (.int k j)) ∧ 0 ≤ j ∧ n = j.toNat := by
    intro x d n q h hq
    unfold bnd at h
    split at h
    · simp only [Option.some.injEq, Prod.mk.injEq] at h; exact .inl ⟨rfl, h.2.symm⟩
    · rename_i k j
      simp only [Option.some.injEq, Prod.mk.injEq] at h
      exact .inr ⟨k, j, rfl, by rw [h.1]; exact hq, h.2.symm⟩
    · cases h
  have vint : ∀ {k : IntKind} {j : Int} {v : Value}, VR M π l (.imm (.int k j)) v → v = .int k j := by
    intro k j v h; cases h with | imm h => cases h; rfl
  rcases inv hlo hpl with ⟨rfl, rfl⟩ | ⟨k, j, rfl, hj, rfl⟩ <;> rcases inv hhi hph with ⟨rfl, rfl⟩ | ⟨k', j', rfl, hj', rfl⟩
  · rw [nlo rfl, nhi rfl]; simp [Instr.sliceBounds]
  · obtain ⟨v, rfl, hv⟩ := vhi _ rfl
    rw [nlo rfl]
    simp only [Instr.sliceBounds, Sem.run_bind, Sem.run_pure, Result.andThen_ok, run_bound (P := P) (w := w) (vint hv) hj' h2]
  · obtain ⟨v, rfl, hv⟩ := vlo _ rfl
    rw [nhi rfl]
    simp only [Instr.sliceBounds, Sem.run_bind, Sem.run_pure, Result.andThen_ok, Option.isSome_none, Bool.false_eq_true, if_false, run_bound (P := P) (w := w) (vint hv) hj h1]
  · obtain ⟨v, rfl, hv⟩ := vlo _ rfl
    obtain ⟨v', rfl, hv'⟩ := vhi _ rfl
    simp only [Instr.sliceBounds, Sem.run_bind, Sem.run_pure, Result.andThen_ok, Option.isSome_none, Bool.false_eq_true, if_false, run_bound (P := P) (w := w) (vint hv) hj h1, run_bound (P := P) (w := w) (vint hv') hj' h2]

theorem sliceA_sound (S : Sub L l) {t : TypeId} {x : AVal} {lo hi mx : Option AVal} {cx : Value} {clo chi cmx : Option Value} (hx : VR M π l x cx)
    (vlo : ∀ a, lo = some a → ∃ v, clo = some v ∧ VR M π l a v) (nlo : lo = none → clo = none)
    (vhi : ∀ a, hi = some a → ∃ v, chi = some v ∧ VR M π l a v) (nhi : hi = none → chi = none)
    (vmx : ∀ a, mx = some a → ∃ v, cmx = some v ∧ VR M π l a v) (nmx : mx = none → cmx = none)
    {p : Prop} {v : AVal} (h : sliceA P L t x lo hi mx = some (p, v)) (hp : p) :
    ∃ cv', (Instr.sliceAt t cx clo chi cmx).run P w = .ok cv' w ∧ VR M π l v cv' := by
  have at_slice : ∀ {e : TypeId} {v : Value} {a b c : Option Value}, P.underlying t = some (.slice e) → (Instr.sliceAt t v a b c).run P w = (Instr.slice t v a b c).run P w := by
    intro e v a b c hu
    simp only [Instr.sliceAt, Sem.run_bind, run_underlying hu, Result.andThen_ok]
  unfold sliceA at h
  split at h <;> try (cases h; done)
  · rename_i s
    split at h <;> try (cases h; done)
    rename_i pl lo' ph hi' hk hlo hhi
    cases h
    have hu := kind_str hk
    obtain ⟨⟨h1, h2⟩, h3, h4⟩ := hp
    cases hx with
    | imm hx =>
    cases hx with
    | str b =>
    rw [nmx rfl]
    have hb := bounds_sound (P := P) (w := w) (b := false) (len := b.size) (cap := b.size) hlo hhi vlo nlo vhi nhi h1 h2 h3 h4
    refine ⟨.string (b.extract lo' hi'), ?_, ?_⟩
    · simp only [Instr.sliceAt, Instr.slice, Sem.run_bind, run_underlying hu, Result.andThen_ok, Option.isSome_none, Bool.false_eq_true, if_false, Sem.run_pure, hb]
    · have : (b.extract lo' hi').data.toList = (b.data.toList.take hi').drop lo' := by
        simp [ByteArray.data_extract, List.drop_take]
      rw [← this]; exact .imm (.str _)
  · rename_i g n c
    split at h <;> try (cases h; done)
    · rename_i esz eb z u hk
      obtain ⟨e, i, hu, hinfo, hsz, _⟩ := kind_slice hk
      split at h <;> try (cases h; done)
      rename_i pl lo' ph hi' hlo hhi
      cases h
      obtain ⟨⟨h1, h2⟩, h3, h4⟩ := hp
      rw [nmx rfl] at *
      cases hx with
      | imm hx =>
      have nilcase : ∀ a : Option Addr, n = 0 → c = [] → (Instr.sliceAt t (.slice a 0 0) clo chi none).run P w = .ok (.slice a 0 0) w := by
        intro a hn hc
        subst hn
        have hl : lo' = 0 := by omega
        have hh : hi' = 0 := by omega
        subst hl hh
        have hb := bounds_sound (P := P) (w := w) (b := true) (len := 0) (cap := 0) hlo hhi vlo nlo vhi nhi h1 h2 h3 h4
        rw [at_slice hu]
        simp only [Instr.slice, Sem.run_bind, run_underlying hu, Result.andThen_ok, hb, run_sizeOf w hinfo, Sem.run_pure, if_pos, Nat.sub_self]
      cases hx with
      | nil =>
        refine ⟨_, nilcase none rfl rfl, ?_⟩
        have hl : lo' = 0 := by omega
        have hh : hi' = 0 := by omega
        subst hl hh
        simpa using VR.imm (M := M) (π := π) (l := l) IR.nil
      | void a =>
        refine ⟨_, nilcase a rfl rfl, ?_⟩
        have hl : lo' = 0 := by omega
        have hh : hi' = 0 := by omega
        subst hl hh
        simpa using VR.imm (M := M) (π := π) (l := l) (IR.void a)
      | unk =>
        refine ⟨_, nilcase none rfl rfl, ?_⟩
        have hl : lo' = 0 := by omega
        have hh : hi' = 0 := by omega
        subst hl hh
        simpa using VR.imm (M := M) (π := π) (l := l) IR.unk
      | lst g b o n cap c f hg hn hm hc =>
        have hb := bounds_sound (P := P) (w := w) (b := true) (len := n) (cap := cap) hlo hhi vlo nlo vhi nhi h1 h2 h3 (by omega)
        refine ⟨.slice (some (if cap = lo' then ⟨b, o, none⟩ else ⟨b, o + lo' * esz, none⟩)) (hi' - lo') (cap - lo'), ?_, ?_⟩
        · rw [at_slice hu]
          simp only [Instr.slice, Sem.run_bind, run_underlying hu, Result.andThen_ok, hb, run_sizeOf w hinfo, Sem.run_pure, sz_info hinfo, hsz]
          split <;> simp [addr_add]
        · by_cases he : cap = lo'
          · rw [if_pos he]
            have hz : hi' - lo' = 0 := by omega
            rw [hz]
            simp only [Nat.zero_mul, List.take_zero]
            exact .imm (.lst g b o 0 _ [] f hg (by omega) (fun i iv hi => by simp at hi) (fun i iv hi => by simp at hi))
          · rw [if_neg he]
            have key : ∀ (i : Nat) (iv : IVal), (List.take ((hi' - lo') * esz) (List.drop (lo' * esz) c))[i]? = some iv → c[lo' * esz + i]? = some iv := by
              intro i iv hi
              have hlt : i < (hi' - lo') * esz := by
                have := (List.getElem?_eq_some_iff.1 hi).1
                simp at this; omega
              rwa [List.getElem?_take_of_lt hlt, List.getElem?_drop] at hi
            refine .imm (.lst g b (o + lo' * esz) _ _ _ (fun i => f (lo' * esz + i)) hg (by omega) (fun i iv hi => ?_) (fun i iv hi => ?_))
            · rw [Nat.add_assoc]; exact hm _ _ (key i iv hi)
            · exact hc _ _ (key i iv hi)
    · rename_i esz eb z u k hk
      obtain ⟨e, i, hu, hinfo, hsz, _⟩ := kind_slice hk
      split at h <;> try (cases h; done)
      rename_i k'
      split at h <;> try (cases h; done)
      cases h
      obtain ⟨vm, rfl, hvm⟩ := vmx _ rfl
      obtain ⟨vh, rfl, hvh⟩ := vhi _ rfl
      cases hvm with | imm hvm => cases hvm with | int _ _ =>
      cases hvh with | imm hvh => cases hvh with | int _ _ =>
      rw [nlo rfl] at *
      cases hx with
      | imm hx =>
      have key : ∀ a n cap, (Instr.sliceAt t (.slice a n cap) none (some (.int k' 0)) (some (.int k 0))).run P w = .ok (.slice a 0 0) w := by
        intro a n cap
        rw [at_slice hu]
        have hb : (Instr.sliceBounds true n cap none (some (.int k' 0)) (some (.int k 0))).run P w = .ok (0, 0, 0) w := by
          have r := fun y code => run_bound (P := P) (w := w) (x := .int k' 0) rfl (y := y) (code := code) (Int.le_refl 0) (by simp)
          have r' := fun y code => run_bound (P := P) (w := w) (x := .int k 0) rfl (y := y) (code := code) (Int.le_refl 0) (by simp)
          simp only [Instr.sliceBounds, Sem.run_bind, Sem.run_pure, Result.andThen_ok, r, r', if_true, Int.toNat_zero]
        simp only [Instr.slice, Sem.run_bind, run_underlying hu, Result.andThen_ok, hb, run_sizeOf w hinfo, Sem.run_pure, if_true, Nat.sub_self]
      cases hx with
      | nil => exact ⟨_, key none 0 0, .imm (.void _)⟩
      | void a => exact ⟨_, key a 0 0, .imm (.void _)⟩
      | unk => exact ⟨_, key none 0 0, .imm (.void _)⟩
      | lst g b o n cap c f hg hn hm hc => exact ⟨_, key _ _ _, .imm (.void _)⟩
  · rename_i s o n
    split at h <;> try (cases h; done)
    rename_i esz eb z u pl lo' ph hi' hk hlo hhi
    obtain ⟨e, i, hu, hinfo, hsz, _⟩ := kind_slice hk
    cases h
    obtain ⟨⟨h1, h2⟩, ⟨h3, h4, h4'⟩, h5, h6⟩ := hp
    rw [nmx rfl]
    obtain ⟨e', c, hl, hg, hv⟩ := live_ref S hx h3
    rw [cells_live hg] at h4
    rw [eszOf, hg] at h4'
    simp only at h4'
    subst h4'
    rcases hv with ⟨hc, x, cap, rfl, hn, hy, hz⟩ | ⟨rfl, _⟩
    · have hb := bounds_sound (P := P) (w := w) (b := true) (len := n) (cap := cap) hlo hhi vlo nlo vhi nhi h1 h2 h5 (by omega)
      refine ⟨.slice (some (if cap = lo' then ⟨(π s).b, x, none⟩ else ⟨(π s).b, x + lo' * e', none⟩)) (hi' - lo') (cap - lo'), ?_, ?_⟩
      · rw [at_slice hu]
        simp only [Instr.slice, Sem.run_bind, run_underlying hu, Result.andThen_ok, hb, run_sizeOf w hinfo, Sem.run_pure, sz_info hinfo, hsz]
        split <;> simp [addr_add]
      · by_cases he : cap = lo'
        · rw [if_pos he]
          have hz1 : hi' - lo' = 0 := by omega
          have hz2 : cap - lo' = 0 := by omega
          rw [hz1, hz2]
          exact .ref s _ 0 e' x 0 c hl hc (Nat.le_refl _) (.inr ⟨rfl, rfl⟩) (by have : 0 ≤ cap * e' := Nat.zero_le _; omega)
        · rw [if_neg he]
          have hle : lo' * e' + (cap - lo') * e' = cap * e' := by rw [← Nat.add_mul, show lo' + (cap - lo') = cap from by omega]
          exact .ref s _ _ e' _ _ c hl hc (by omega) (.inl (by rcases hy with hy | ⟨rfl, rfl⟩ <;> omega)) (by omega)
    · simp at h4

/-- Cells and what they stand for. -/
def VRs (M : Mem) (π : Plc) (l : Sl) (as : List AVal) (vs : Array Value) : Prop := as.length = vs.size ∧ ∀ i a, as[i]? = some a → VR M π l a (vs.getD i undef)

theorem cell_heap {w w1 : World} (h : w1.heap = w.heap) (a : Addr) : w1.cell? a = w.cell? a := by simp [World.cell?, h]

theorem loadCells_zero (a : Addr) (w1 : World) : (loadCells a 0).run P w1 = .ok #[] w1 := rfl

/-- What is appended or copied, read. -/
theorem src_sound (R : MemR C M π l w) (S : Sub L l) {esz n : Nat} (he : 0 < esz) {x : AVal} {cx : Value} (hx : VR M π l x cx) {p : Prop} {new : List AVal} (h : srcA L esz n x = some (p, new)) (hp : p) (hcnt : ∀ s o n', x = .ref s o n' → n ≤ n') :
    new.length = n * esz ∧ ∃ vals, VRs M π l new vals ∧ ∀ w1 : World, w1.heap = w.heap → (Builtin.firstCells esz n cx).run P w1 = .ok vals w1 := by
  unfold srcA at h
  split at h <;> cases h
  · rename_i s
    cases hx with | imm hx => cases hx with | str b =>
    obtain ⟨h1, rfl⟩ := hp
    have hbs : b.data.toList.length = b.data.size := by simp
    have hbs' : b.size = b.data.size := rfl
    refine ⟨by simp only [List.length_map, List.length_take]; omega, (b.extract 0 n).data.map (fun b => .int .u8 b.toNat), ⟨by simp only [List.length_map, List.length_take, Array.size_map, ByteArray.data_extract, Array.size_extract]; omega, fun i a hi => ?_⟩, fun w1 hw => by simp [Builtin.firstCells]⟩
    rw [List.getElem?_map] at hi
    cases hb : (List.take n b.data.toList)[i]? with
    | none => rw [hb] at hi; cases hi
    | some y =>
      rw [hb] at hi; cases hi
      have hin : i < n := by
        have := (List.getElem?_eq_some_iff.1 hb).1
        simp at this; omega
      rw [List.getElem?_take_of_lt hin] at hb
      have : ((b.extract 0 n).data.map (fun b => Value.int .u8 b.toNat)).getD i undef = .int .u8 y.toNat := by
        rw [Array.getD_eq_getD_getElem?, Array.getElem?_map]
        have : (b.extract 0 n).data[i]? = some y := by
          rw [ByteArray.data_extract, Array.getElem?_extract]
          have hb' : b.data[i]? = some y := by simpa using hb
          have hlt : i < b.data.size := (Array.getElem?_eq_some_iff.1 hb').1
          simp only [hb', Nat.zero_add]; rw [if_pos (by omega)]
        rw [this]; rfl
      rw [this]; exact .imm (.int _ _)
  · rename_i g n' c
    have hn : ((c.take (n * esz)).map AVal.imm).length = n * esz := by simp; omega
    refine ⟨hn, ?_⟩
    cases hx with | imm hx =>
    have triv : n * esz = 0 → c = [] → ∀ a : Option Addr, ∃ vals, VRs M π l ((c.take (n * esz)).map AVal.imm) vals ∧ ∀ w1 : World, w1.heap = w.heap → (Builtin.firstCells esz n (.slice a 0 0)).run P w1 = .ok vals w1 := by
      intro h0 hc a
      subst hc
      refine ⟨#[], ⟨by simp, fun i a hi => by simp at hi⟩, fun w1 hw => ?_⟩
      cases a with
      | none => rfl
      | some a => simp only [Builtin.firstCells, h0, loadCells_zero]
    cases hx with
    | nil => exact triv (by simpa using hp) rfl none
    | void a => exact triv (by simpa using hp) rfl a
    | unk => exact triv (by simpa using hp) rfl none
    | lst g b o n' cap c f hg hn' hm hc =>
      have hf : ∀ j, j < n * esz → w.cell? ⟨b, o + j, none⟩ = some (f j) := fun j hj => R.mem _ _ _ (hm j _ (List.getElem?_eq_getElem (show j < c.length by omega)))
      refine ⟨((List.range (n * esz)).map f).toArray, ⟨by simp; omega, fun i a hi => ?_⟩, fun w1 hw => ?_⟩
      · have hi' : i < n * esz := by
          have := (List.getElem?_eq_some_iff.1 hi).1
          simp at this; omega
        rw [toArray_getD _ _ _ hi']
        rw [List.getElem?_map, List.getElem?_take_of_lt hi'] at hi
        cases hx : c[i]? with
        | none => rw [hx] at hi; cases hi
        | some iv => rw [hx] at hi; cases hi; exact .imm (hc i iv hx)
      · simp only [Builtin.firstCells]
        exact run_loadCells_at (fun j hj => by rw [cell_heap hw]; exact hf j hj)
  · rename_i s o n'
    obtain ⟨e, c, h1, h2, h3⟩ := live_ref S hx hp.1
    rw [cells_live h2] at hp ⊢
    have hn : ((c.drop o).take (n * esz)).length = n * esz := by simp; omega
    refine ⟨hn, ?_⟩
    rcases h3 with ⟨hc, y, cap, rfl, hn', hy, hz⟩ | ⟨rfl, rfl, a, rfl⟩
    · by_cases h0 : n * esz = 0
      · refine ⟨#[], ⟨by rw [h0]; simp, fun i a hi => by rw [h0] at hi; simp at hi⟩, fun w1 hw => ?_⟩
        simp only [Builtin.firstCells, h0, loadCells_zero]
      · have hyy : (π s).o + o = y := by
          rcases hy with hy | ⟨rfl, _⟩
          · exact hy
          · have := hcnt s o 0 rfl; have : n = 0 := by omega
            subst this; simp at h0
        have hcell : ∀ j, j < n * esz → ∃ v, w.cell? ⟨(π s).b, y + j, none⟩ = some v ∧ VR M π l (getT c (o + j)) v := by
          intro j hj
          obtain ⟨v, k1, k2, _⟩ := R.cell h1 (show o + j < c.length by omega)
          exact ⟨v, by rw [← hyy, Nat.add_assoc]; exact k1, k2⟩
        have hch : ∃ f : Nat → Value, ∀ j, j < n * esz → w.cell? ⟨(π s).b, y + j, none⟩ = some (f j) ∧ VR M π l (getT c (o + j)) (f j) := by
          refine ⟨fun j => if h : j < n * esz then Classical.choose (hcell j h) else undef, fun j hj => ?_⟩
          simp only [hj, dif_pos]
          exact Classical.choose_spec (hcell j hj)
        obtain ⟨f, hf⟩ := hch
        refine ⟨((List.range (n * esz)).map f).toArray, ⟨by simp; omega, fun i a hi => ?_⟩, fun w1 hw => ?_⟩
        · have hi' : i < n * esz := by
            have := (List.getElem?_eq_some_iff.1 hi).1
            simp at this; omega
          rw [toArray_getD _ _ _ hi']
          have k2 := (hf i hi').2
          rw [List.getElem?_take_of_lt hi', List.getElem?_drop] at hi
          rwa [getT_some hi] at k2
        · simp only [Builtin.firstCells]
          exact run_loadCells_at (fun j hj => by rw [cell_heap hw]; exact (hf j hj).1)
    · have h0 : n * esz = 0 := by have := hp.2; simp at this; omega
      refine ⟨#[], ⟨by rw [h0]; simp, fun i a hi => by rw [h0] at hi; simp at hi⟩, fun w1 hw => ?_⟩
      cases a with
      | none => rfl
      | some a => simp only [Builtin.firstCells, h0, loadCells_zero]

theorem cnt_sound (S : Sub L l) {x : AVal} {cx : Value} (hx : VR M π l x cx) {m : Nat} (h : cntA x = some m) (hl : ∀ s o n, x = .ref s o n → liveB L s = true) : ∀ w1 : World, (Builtin.lenOf cx).run P w1 = .ok m w1 := by
  intro w1
  unfold cntA at h
  split at h <;> cases h
  · cases hx with | imm hx => cases hx with | str b => rfl
  · cases hx with | imm hx => cases hx <;> rfl
  · rename_i s o
    obtain ⟨e, c, h1, h2, h3⟩ := live_ref S hx (hl s o m rfl)
    rcases h3 with ⟨_, _, _, rfl, _⟩ | ⟨_, rfl, _, rfl⟩ <;> rfl

theorem src_live' {esz n : Nat} {x : AVal} {p : Prop} {new : List AVal} (h : srcA L esz n x = some (p, new)) (hp : p) : ∀ s o n', x = .ref s o n' → liveB L s = true := by
  intro s o n' hx; subst hx
  simp only [srcA, Option.some.injEq, Prod.mk.injEq] at h
  rw [← h.1] at hp; exact hp.1

theorem bytes_vals : ∀ (cs : List AVal) (vs : List Value) (bs : List UInt8), cs.length = vs.length → (∀ i a, cs[i]? = some a → VR M π l a (vs.getD i undef)) → bytesOf cs = some bs →
    ∃ ns : List Int, vs = ns.map (Value.int .u8) ∧ bs = ns.map fun n => UInt8.ofNat n.toNat
  | [], vs, bs, hl, _, h => by
    simp only [bytesOf, Option.some.injEq] at h
    exact ⟨[], by simpa using hl.symm, h.symm⟩
  | c :: cs, vs, bs, hl, hv, h => by
    unfold bytesOf at h
    split at h <;> try (cases h; done)
    · rename_i hcc; cases hcc
    rename_i m l' hcc
    injection hcc with h1 h2; subst h1; subst h2
    cases vs with
    | nil => simp at hl
    | cons v vs =>
      cases hb : bytesOf cs with
      | none => rw [hb] at h; cases h
      | some b =>
        rw [hb] at h
        simp only [Option.map_some, Option.some.injEq] at h
        obtain ⟨ns, e1, e2⟩ := bytes_vals cs vs b (by simpa using hl) (fun i a hi => by simpa using hv (i + 1) a (by simpa using hi)) hb
        have h0 := hv 0 _ rfl
        simp only [List.getD_cons_zero] at h0
        cases h0 with | imm h0 => cases h0 with | int _ _ =>
        exact ⟨m :: ns, by rw [e1]; rfl, by rw [← h, e2]; rfl⟩

theorem push_bytes : ∀ (ns : List Int) (b : ByteArray), (ns.foldl (fun r n => r.push (UInt8.ofNat n.toNat)) b).data.toList = b.data.toList ++ ns.map fun n => UInt8.ofNat n.toNat
  | [], b => by simp
  | n :: ns, b => by rw [List.foldl_cons, push_bytes ns]; simp [ByteArray.push]

theorem convB_sound (R : MemR C M π l w) (S : Sub L l) {src dst : TypeId} (hd : (tiOf P dst).kind = .str) {x : AVal} {cx : Value} (hx : VR M π l x cx) {n : Nat} (hn : cntA x = some n) (hns : ∀ s, x ≠ .imm (.str s)) {p : Prop} {v : AVal} (h : convB P L src x n = some (p, v)) (hp : p) :
    ∃ cv', (convert src dst cx).run P w = .ok cv' w ∧ VR M π l v cv' := by
  unfold convB at h
  split at h <;> try (cases h; done)
  rename_i esz eb ez hk
  split at h <;> try (cases h; done)
  rename_i q cs hsrc
  split at h <;> cases h
  rename_i bs hbs
  obtain ⟨e, i, hu, hinfo, hsz, hby, hz, _⟩ := kind_slice hk
  obtain ⟨s1, vals, ⟨s2, s2'⟩, s3⟩ := src_sound (P := P) R S (by decide) hx hsrc hp (fun s o n' hh => by subst hh; simp [cntA] at hn; omega)
  obtain ⟨ns, e1, e2⟩ := bytes_vals cs vals.toList bs (by simpa using s2) (fun i a hi => by have := s2' i a hi; simpa [Array.getD_eq_getD_getElem?, List.getD_eq_getElem?_getD] using this) hbs
  have hlen := cnt_sound (P := P) S hx hn (fun s o n hh => src_live' hsrc hp s o n hh) w
  have h3 := s3 w rfl
  have hv : ∃ a cap, cx = .slice a n cap := by
    unfold cntA at hn
    split at hn <;> cases hn
    · exact (hns _ rfl).elim
    · cases hx with | imm hx => cases hx <;> exact ⟨_, _, rfl⟩
    · rename_i s o
      obtain ⟨_, _, _, _, k⟩ := live_ref S hx (src_live' hsrc hp s o n rfl)
      rcases k with ⟨_, _, _, rfl, _⟩ | ⟨_, rfl, _, rfl⟩ <;> exact ⟨_, _, rfl⟩
  obtain ⟨a, cap, rfl⟩ := hv
  have hv : vals = (ns.map (Value.int .u8)).toArray := by rw [← e1]
  rw [run_convert_bytes_string w src dst e a n cap hu (u8_of hk hu) (kind_str hd)]
  cases a with
  | none =>
    simp only [Builtin.firstCells, Sem.run_pure, Result.ok.injEq, and_true] at h3
    have : ns = [] := by
      rw [← h3] at hv; have := congrArg Array.size hv; simp at this; exact List.eq_nil_of_length_eq_zero this.symm
    subst this
    refine ⟨.string .empty, rfl, ?_⟩
    rw [e2]; exact .imm (.str .empty)
  | some a =>
    simp only [Builtin.firstCells, Nat.mul_one] at h3
    rw [run_bytesToString w a n cap ns (by rw [h3, hv])]
    refine ⟨_, rfl, ?_⟩
    have := push_bytes ns .empty
    simp at this
    rw [e2, ← this]; exact .imm (.str _)

theorem convA_sound (R : MemR C M π l w) (S : Sub L l) {src dst : TypeId} {x : AVal} {cx : Value} (hx : VR M π l x cx) {p : Prop} {v : AVal} (h : convA P src dst x L = some (p, v)) (hp : p) :
    ∃ cv', (convert src dst cx).run P w = .ok cv' w ∧ VR M π l v cv' := by
  unfold convA at h
  split at h <;> try (cases h; done)
  · rename_i k k' n hk
    split at h <;> try (cases h; done)
    rename_i k'' hk'
    cases h
    cases hx with | imm hx => cases hx with | int _ _ =>
    refine ⟨_, ?_, .imm (.int _ _)⟩
    simp only [convert, Sem.run_bind, run_underlying (kind_int hk), run_underlying (kind_int hk'), Result.andThen_ok]
    rfl
  · rename_i s hk
    split at h <;> try (cases h; done)
    rename_i hk'
    cases h
    cases hx with | imm hx => cases hx with | str b =>
    refine ⟨_, ?_, .imm (.str _)⟩
    simp only [convert, Sem.run_bind, run_underlying (kind_str hk), run_underlying (kind_str hk'), Result.andThen_ok, Sem.run_pure]
  · rename_i g n c hk
    exact convB_sound R S hk hx rfl (fun s h => by cases h) h hp
  · rename_i s o n hk
    exact convB_sound R S hk hx rfl (fun s h => by cases h) h hp

theorem VRs.mono {M' : Mem} {π' : Plc} {l' : Sl} (hM : ∀ b o v, M b o = some v → M' b o = some v) (hl : Step π π' l l') {as : List AVal} {vs : Array Value} (h : VRs M π l as vs) : VRs M' π' l' as vs :=
  ⟨h.1, fun i a hi => (h.2 i a hi).mono hM hl⟩

theorem VRs.one {a : AVal} {v : Value} (h : VR M π l a v) : VRs M π l [a] #[v] := by
  refine ⟨rfl, fun i b hi => ?_⟩
  cases i with
  | zero => simp at hi; subst hi; simpa using h
  | succ i => simp at hi

theorem oneCell_cells {v : Value} (h : v.oneCell' = true) : v.cells = #[v] := by cases v <;> simp [Value.oneCell', Value.cells] at h ⊢

theorem solid_one (S : Sub L l) {a : AVal} {v : Value} (h : VR M π l a v) (hs : solid L a = true) : v.oneCell' = true := by
  cases a with
  | imm i => cases h with | imm h => cases h <;> rfl
  | ptr s o => obtain ⟨_, _, _, _, rfl⟩ := live_ptr S h hs; rfl
  | iptr c => cases h; rfl
  | ref s o n =>
    obtain ⟨_, _, _, _, h⟩ := live_ref S h hs
    rcases h with ⟨_, _, _, rfl, _⟩ | ⟨_, _, _, rfl⟩ <;> rfl
  | clo f a b => cases h; rfl
  | agg l => simp [solid] at hs
  | tup l => simp [solid] at hs
  | any => simp [solid] at hs

theorem cells_rel (S : Sub L l) {a : AVal} {v : Value} (h : VR M π l a v) (hk : okc L a = true) : VRs M π l a.cells v.cells := by
  cases a with
  | agg as => cases h with | agg _ vs hn h => exact ⟨hn, h⟩
  | tup l => simp [okc, solid] at hk
  | any => simp [okc, solid] at hk
  | _ => rw [oneCell_cells (solid_one S h hk)]; exact VRs.one h

theorem fold_set : ∀ (vs : List Value) (k off : Nat) (cs : Array Value), off + k + vs.length ≤ cs.size →
    ((vs.zipIdx k).foldl (fun cs (c, j) => cs.setIfInBounds (off + j) c) cs).size = cs.size ∧
    ∀ i, ((vs.zipIdx k).foldl (fun cs (c, j) => cs.setIfInBounds (off + j) c) cs).getD i undef = if off + k ≤ i ∧ i < off + k + vs.length then vs.getD (i - (off + k)) undef else cs.getD i undef
  | [], k, off, cs, h => ⟨rfl, fun i => by simp; intro h1 h2; omega⟩
  | v :: vs, k, off, cs, h => by
    simp only [List.length_cons] at h
    simp only [List.zipIdx_cons, List.foldl_cons, List.length_cons]
    obtain ⟨h1, h2⟩ := fold_set vs (k + 1) off (cs.setIfInBounds (off + k) v) (by simp; omega)
    refine ⟨by rw [h1]; simp, fun i => ?_⟩
    rw [h2 i]
    by_cases c1 : off + (k + 1) ≤ i ∧ i < off + (k + 1) + vs.length
    · rw [if_pos c1, if_pos (by omega), show i - (off + k) = (i - (off + (k + 1))) + 1 from by omega]; simp
    · rw [if_neg c1]
      by_cases c2 : off + k = i
      · subst c2
        rw [if_pos (by omega), Nat.sub_self, Array.getD_eq_getD_getElem?, Array.getElem?_setIfInBounds, if_pos rfl, if_pos (by omega)]; simp
      · rw [if_neg (by omega), Array.getD_eq_getD_getElem?, Array.getElem?_setIfInBounds, if_neg c2, Array.getD_eq_getD_getElem?]

theorem spl_rel {c vs : List AVal} {cs ws : Array Value} {off : Nat} (hc : VRs M π l c cs) (hv : VRs M π l vs ws) (hle : off + vs.length ≤ c.length) :
    VRs M π l (spl c off vs) (ws.zipIdx.foldl (fun cs (c, j) => cs.setIfInBounds (off + j) c) cs) := by
  have e : ws.zipIdx.foldl (fun cs (c, j) => cs.setIfInBounds (off + j) c) cs = (ws.toList.zipIdx 0).foldl (fun cs (c, j) => cs.setIfInBounds (off + j) c) cs := by
    rw [← Array.foldl_toList]; simp
  rw [e]
  obtain ⟨h1, h2⟩ := fold_set ws.toList 0 off cs (by have := hv.1; have := hc.1; simp; omega)
  refine ⟨by rw [spl_length, h1]; exact hc.1, fun i a hi => ?_⟩
  rw [spl_get vs c off i hle] at hi
  rw [h2 i]
  have hn : ws.toList.length = vs.length := by rw [hv.1]; simp
  rw [hn]
  by_cases hr : off ≤ i ∧ i < off + vs.length
  · rw [if_pos hr] at hi; rw [if_pos (by omega)]
    have := hv.2 _ a hi
    rw [Array.getD_eq_getD_getElem?] at this
    rw [List.getD_eq_getElem?_getD]; simpa using this
  · rw [if_neg hr] at hi; rw [if_neg (by omega)]
    exact hc.2 i a hi

theorem fill_rel (S : Sub L l) {place : Nat → Option (Nat × Nat)} : ∀ {parts : List (Nat × AVal)} {ps : List (Nat × Value)} {c c' : List AVal} {cs : Array Value},
    parts.length = ps.length → (∀ (i : Nat) (x : Nat × AVal) (y : Nat × Value), parts[i]? = some x → ps[i]? = some y → x.1 = y.1 ∧ VR M π l x.2 y.2) → VRs M π l c cs → fillA L place c parts = some c' →
    ∃ cs', Instr.fill place cs ps = some cs' ∧ VRs M π l c' cs'
  | [], [], c, c', cs, _, _, hc, h => by cases h; exact ⟨cs, rfl, hc⟩
  | [], _ :: _, _, _, _, hl, _, _, _ => by simp at hl
  | _ :: _, [], _, _, _, hl, _, _, _ => by simp at hl
  | (i, v) :: parts, (j, u) :: ps, c, c', cs, hl, hp, hc, h => by
    obtain ⟨h1, h2⟩ := hp 0 _ _ rfl rfl
    simp only at h1 h2; subst h1
    simp only [fillA] at h
    split at h <;> try (cases h; done)
    rename_i off size hpl
    split at h <;> try (cases h; done)
    rename_i hcnd
    obtain ⟨hsz, hle, hok⟩ := hcnd
    have hv := cells_rel S h2 hok
    obtain ⟨cs', g1, g2⟩ := fill_rel S (parts := parts) (ps := ps) (by simpa using hl) (fun i x y hx hy => hp (i + 1) x y (by simpa using hx) (by simpa using hy)) (spl_rel hc hv hle) h
    refine ⟨cs', ?_, g2⟩
    simp only [Instr.fill, hpl]
    rw [if_neg]
    · exact g1
    · have := hv.1; have := hc.1
      simp only [Bool.or_eq_true, decide_eq_true_eq, ne_eq, not_or, Bool.not_eq_true, decide_eq_false_iff_not, Decidable.not_not, gt_iff_lt]
      omega

theorem ofConst_map {z : List IVal} {vs : List Value} (h : vs.mapM ofConst = some z) : VRs M π l (z.map .imm) vs.toArray := by
  have hlen : ∀ {vs : List Value} {z : List IVal}, vs.mapM ofConst = some z → z.length = vs.length := by
    intro vs
    induction vs with
    | nil => intro z h; simp at h; subst h; rfl
    | cons v vs ih =>
      intro z h
      simp only [List.mapM_cons, Option.bind_eq_bind, Option.pure_def, Option.bind_eq_some_iff] at h
      obtain ⟨y, _, r', hr', h⟩ := h
      injection h with h; subst h
      simp [ih hr']
  refine ⟨by simp [hlen h], fun i a hi => ?_⟩
  rw [List.getElem?_map] at hi
  cases hz : z[i]? with
  | none => rw [hz] at hi; cases hi
  | some iv =>
    rw [hz] at hi; cases hi
    obtain ⟨v, hv, hc⟩ := mapM_get h i iv hz
    have : vs.toArray.getD i undef = v := by rw [Array.getD_eq_getD_getElem?]; simp [hv]
    rw [this]; exact .imm (ofConst_IR M hc)

theorem zeros_rel {t : TypeId} {z : List IVal} (h : zerosOf P t = some z) : ∃ i v, P.info? t = some i ∧ i.zero = some v ∧ VRs M π l (z.map .imm) v.cells := by
  simp only [zerosOf, Option.bind_eq_some_iff] at h
  obtain ⟨i, hi, v, hv, h⟩ := h
  exact ⟨i, v, hi, hv, by simpa using ofConst_map (M := M) (π := π) (l := l) h⟩

theorem zero_some {t : TypeId} (h : (tiOf P t).zero.length = (tiOf P t).sz ∧ 0 < (tiOf P t).sz) : ∃ i v, P.info? t = some i ∧ i.zero = some v ∧ VRs M π l (zeroA P t) v.cells := by
  cases hz : zerosOf P t with
  | none => simp only [tiOf, hz, Option.getD_none, List.length_nil] at h; omega
  | some z =>
    have := zeros_rel (M := M) (π := π) (l := l) hz
    simpa [zeroA, tiOf, hz] using this

theorem mapP_get (f : Operand → AVal) : ∀ (ps : List (Nat × Operand)) (i : Nat), (mapP f ps)[i]? = (ps[i]?).map fun x => (x.1, f x.2)
  | [], i => by simp [mapP]
  | (a, x) :: ps, 0 => by simp [mapP]
  | (a, x) :: ps, n + 1 => by simpa [mapP] using mapP_get f ps n

theorem mapP_length (f : Operand → AVal) : ∀ (ps : List (Nat × Operand)), (mapP f ps).length = ps.length
  | [] => rfl
  | (a, x) :: ps => by simp [mapP, mapP_length f ps]

theorem mapO_get (f : Operand → AVal) : ∀ (ps : List Operand) (i : Nat), (mapO f ps)[i]? = (ps[i]?).map f
  | [], i => by simp [mapO]
  | x :: ps, 0 => by simp [mapO]
  | x :: ps, n + 1 => by simpa [mapO] using mapO_get f ps n

theorem mapO_length (f : Operand → AVal) : ∀ (ps : List Operand), (mapO f ps).length = ps.length
  | [] => rfl
  | x :: ps => by simp [mapO, mapO_length f ps]

theorem parts_rel {ρ : Operand → AVal} {η : Operand → Value} (hρ : ∀ x, VR M π l (ρ x) (η x)) (parts : Array (Nat × Operand)) :
    (mapP ρ parts.toList).length = (parts.map fun (i, x) => (i, η x)).toList.length ∧
    ∀ (i : Nat) (x : Nat × AVal) (y : Nat × Value), (mapP ρ parts.toList)[i]? = some x → (parts.map fun (i, x) => (i, η x)).toList[i]? = some y → x.1 = y.1 ∧ VR M π l x.2 y.2 := by
  refine ⟨by simp [mapP_length], fun i x y hx hy => ?_⟩
  rw [mapP_get] at hx
  simp only [Array.toList_map, List.getElem?_map] at hy
  cases hp : parts.toList[i]? with
  | none => rw [hp] at hx; cases hx
  | some q => rw [hp] at hx hy; cases hx; cases hy; exact ⟨rfl, hρ _⟩

theorem buildA_sound (S : Sub L l) {t : TypeId} {parts : Array (Nat × Operand)} {ρ : Operand → AVal} {η : Operand → Value} (hρ : ∀ x, VR M π l (ρ x) (η x)) {p : Prop} {v : AVal}
    (h : buildA P L t (mapP ρ parts.toList) = some (p, v)) (hp : p) :
    ∃ cv', (Instr.build t (parts.map fun (i, x) => (i, η x))).run P w = .ok cv' w ∧ VR M π l v cv' := by
  obtain ⟨q1, q2⟩ := parts_rel hρ parts
  unfold buildA at h
  split at h <;> try (cases h; done)
  · rename_i fs hk
    split at h <;> cases h
    rename_i c hf
    obtain ⟨i, z, hi, hz, hzr⟩ := zero_some (M := M) (π := π) (l := l) hp
    obtain ⟨fields, hu, hm⟩ := kind_struct hk
    obtain ⟨cs', g1, g2⟩ := fill_rel S q1 q2 hzr hf
    refine ⟨.agg cs', run_build w t _ cs' ?_, .agg _ _ g2.1 g2.2⟩
    simp only [Program.built, hi, hu, hz, hm]
    rw [← g1]; congr 1; funext i; simp [nthP_eq]
  · rename_i n esz hk
    split at h <;> cases h
    rename_i c hf
    obtain ⟨i, z, hi, hz, hzr⟩ := zero_some (M := M) (π := π) (l := l) hp
    obtain ⟨e, ie, hu, hie, hsz⟩ := kind_array hk
    obtain ⟨cs', g1, g2⟩ := fill_rel S q1 q2 hzr hf
    refine ⟨.agg cs', run_build w t _ cs' ?_, .agg _ _ g2.1 g2.2⟩
    simp only [Program.built, hi, hu, hz, hie, hsz]
    exact g1

end
end Go.Abs
