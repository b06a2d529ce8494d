/- From the row to the abstract semantics: what is read of the arguments; a law that comes to true. -/
import Derived.Test.YtbleionbmdpmeaaAbsL
import Derived.ChangeArms
import Derived.SizedLaws
import Derived.WideShapes
import Derived.Below
set_option linter.unusedVariables false
set_option linter.unusedSimpArgs false
namespace Go.Abs

def memOf (w : World) : Mem := fun b o => w.cell? ⟨b, o, none⟩

def IRs (M : Mem) : List IVal → List Value → Prop
  | [], [] => True
  | i :: is, v :: vs => IR M i v ∧ IRs M is vs
  | _, _ => False

theorem IRs.append {M : Mem} : ∀ {is js : List IVal} {vs ws : List Value}, IRs M is vs → IRs M js ws → IRs M (is ++ js) (vs ++ ws)
  | [], _, [], _, _, h => h
  | [], _, _ :: _, _, h, _ => h.elim
  | _ :: _, _, [], _, h, _ => h.elim
  | i :: is, js, v :: vs, ws, h, h' => ⟨h.1, h.2.append h'⟩

theorem IRs.len {M : Mem} : ∀ {is : List IVal} {vs : List Value}, IRs M is vs → is.length = vs.length
  | [], [], _ => rfl
  | [], _ :: _, h => h.elim
  | _ :: _, [], h => h.elim
  | i :: is, v :: vs, h => by simp [IRs.len h.2]

theorem IRs.get {M : Mem} : ∀ {is : List IVal} {vs : List Value}, IRs M is vs → ∀ (i : Nat) (iv : IVal), is[i]? = some iv → ∃ v, vs[i]? = some v ∧ IR M iv v
  | [], [], _, i, iv, h => by simp at h
  | [], _ :: _, h, _, _, _ => h.elim
  | _ :: _, [], h, _, _, _ => h.elim
  | i :: is, v :: vs, h, 0, iv, h' => by simp at h'; subst h'; exact ⟨v, rfl, h.1⟩
  | i :: is, v :: vs, h, n + 1, iv, h' => by simpa using h.2.get n iv (by simpa using h')

/-- A slice as it is read: what is known of its form, and its elements. -/
structure Lst (α : Type) where
  g : Tag
  l : List α

def Lst.iv {α : Type} (c : α → List IVal) (s : Lst α) : IVal := .lst s.g s.l.length (s.l.flatMap c)

/-- What the cells of a type read as. -/
def Opens {α : Type} (P : Program) (t : TypeId) (cells : α → List IVal) (ok : α → Prop) : Prop :=
  ∀ (H : Type) (enc : TypeId × Value → H) (w : World) (n : Nat) (cs : List Value) (d : DataW H) (ps : List MemPlace),
    DataW.trod enc P w 0 (fun _ => true) true n t cs = some (d, ps) → (DataW.weights P t d).all (· ≤ reachBytes) = true → ∃ x, IRs (memOf w) (cells x) cs ∧ ok x

section
variable {P : Program} {t e : TypeId}

theorem Opens.int {k : IntKind} (ht : P.underlying t = some (.int k)) : Opens P t (fun n : Int => [.int k n]) (fun n => (Lit.int k n).wf = true) := by
  intro H enc w n cs d ps h hw
  obtain ⟨m, rfl, _, h3⟩ := DataW.trod_int ht h
  exact ⟨m, ⟨.int k m, trivial⟩, h3⟩

theorem Opens.bool (ht : P.underlying t = some .bool) : Opens P t (fun b : Bool => [.bool b]) (fun _ => True) := by
  intro H enc w n cs d ps h hw
  cases n with
  | zero => simp [DataW.trod] at h
  | succ n =>
    unfold DataW.trod at h
    rw [ht] at h
    split at h <;> simp_all
    refine (Bool.exists_bool (p := fun b => IRs (memOf w) [IVal.bool b] [Value.bool _])).1 ⟨_, .bool _, trivial⟩

theorem Opens.str (ht : P.underlying t = some .string) : Opens P t (fun s : List UInt8 => [.str s]) (fun s => s.length ≤ reachBytes) := by
  intro H enc w n cs d ps h hw
  cases n with
  | zero => simp [DataW.trod] at h
  | succ n =>
    unfold DataW.trod at h
    rw [ht] at h
    split at h <;> simp_all
    obtain ⟨h1, h2, h3⟩ := h
    rw [← h2] at hw
    simp [DataW.weights] at hw
    exact ⟨_, ⟨.str _, trivial⟩, by simpa using hw⟩

theorem Opens.iso {α β : Type} {cells : α → List IVal} {ok : α → Prop} {cells' : β → List IVal} {ok' : β → Prop} (h : Opens P t cells ok) (f : α → β) (hc : ∀ x, cells' (f x) = cells x) (ho : ∀ x, ok x → ok' (f x)) : Opens P t cells' ok' := by
  intro H enc w n cs d ps h1 hw
  obtain ⟨x, h2, h3⟩ := h H enc w n cs d ps h1 hw
  exact ⟨f x, by rw [hc]; exact h2, ho x h3⟩

theorem weightsAll_mem {H : Type} {N : Nat} : ∀ {l : List (DataW H)} {d : DataW H}, d ∈ l → (DataW.weightsAll P e l).all (· ≤ N) = true → (DataW.weights P e d).all (· ≤ N) = true
  | x :: l, d, hd, h => by
    simp only [DataW.weightsAll, List.all_append, Bool.and_eq_true] at h
    rcases List.mem_cons.1 hd with rfl | hd
    · exact h.1
    · exact weightsAll_mem hd h.2

/-- cells that lie one behind the other -/
def Lays (M : Mem) (b o : Nat) (is : List IVal) : Prop := ∀ j iv, is[j]? = some iv → ∃ v, M b (o + j) = some v ∧ IR M iv v

theorem Lays.append {M : Mem} {b o : Nat} {is js : List IVal} (h : Lays M b o is) (h' : Lays M b (o + is.length) js) : Lays M b o (is ++ js) := by
  intro j iv hj
  rcases Nat.lt_or_ge j is.length with hl | hl
  · rw [List.getElem?_append_left hl] at hj; exact h j iv hj
  · rw [List.getElem?_append_right hl] at hj
    have := h' _ iv hj
    rw [show o + is.length + (j - is.length) = o + j from by omega] at this; exact this

theorem add_none (b o k : Nat) : (⟨b, o, none⟩ : Addr).add k = ⟨b, o + k, none⟩ := by
  unfold Addr.add
  split
  · rename_i h; subst h; rfl
  · rfl

theorem Opens.slice {α : Type} {cells : α → List IVal} {ok : α → Prop} {z : Nat} (ht : P.underlying t = some (.slice e)) (hz : P.cellsOf e = z) (hz0 : 0 < z) (h : Opens P e cells ok) :
    Opens P t (fun s : Lst α => [s.iv cells]) (fun s => s.l.length * P.bytesOf e ≤ reachBytes ∧ (∀ x ∈ s.l, ok x)) := by
  intro H enc w n cs d ps h1 hw
  rcases DataW.trod_slice ht h1 with ⟨rfl, _⟩ | ⟨a, len, cap, elems, rest, n', _, rfl, hx, _, hlc, _, hel, hget, hsp, _⟩
  · exact ⟨⟨.nil, []⟩, ⟨.nil, trivial⟩, by simp, fun x hx => by simp at hx⟩
  · obtain ⟨hrl, hrg⟩ := hsp rfl
    have hd : d = .slice (elems.map (·.1)) (rest.map (·.1)) := by have := congrArg (·.1) hx; exact this
    subst hd
    simp only [DataW.weights, ht, List.all_cons, List.all_append, Bool.and_eq_true, decide_eq_true_eq, List.length_map] at hw
    obtain ⟨hw1, hw2, hw3⟩ := hw
    have spot : ∀ (k : Nat) (cs : List Value), k = 0 → w.cells? 0 (a.add k) (P.cellsOf e) = some cs → a.spot = none := by
      intro k cs hk0 hk
      subst hk0
      have e1 : ∀ a : Addr, a.add 0 = a := fun a => by simp [Addr.add]
      rw [e1] at hk
      obtain ⟨_, g2, g3⟩ := World.cells?_some hk
      have g4 := g3 0 (by omega)
      have : ∃ v, cs[0]? = some v := ⟨_, List.getElem?_eq_getElem (by omega)⟩
      obtain ⟨v, hv⟩ := this
      rw [hv, e1] at g4
      simp only [World.cell?] at g4
      split at g4
      · split at g4
        · cases g4
        · rename_i hs
          cases hq : a.spot with
          | none => rfl
          | some q => exact (hs (by simp [hq])).elim
      · cases g4
    by_cases hc0 : cap = 0
    · subst hc0
      have : len = 0 := by omega
      subst this
      exact ⟨⟨.void, []⟩, ⟨.void _, trivial⟩, by simp, fun x hx => by simp at hx⟩
    · have hsn : a.spot = none := by
        by_cases hl0 : len = 0
        · have g := hrg 0 (by omega)
          have hr0 : 0 < rest.length := by omega
          rw [List.getElem?_eq_getElem hr0, Option.bind_eq_some_iff] at g
          obtain ⟨cs, g1, _⟩ := g
          exact spot _ _ (by rw [hl0]; simp) g1
        · have g := hget 0 (by omega)
          rw [List.getElem?_eq_getElem (by omega), Option.bind_eq_some_iff] at g
          obtain ⟨cs, g1, _⟩ := g
          exact spot _ _ (by simp) g1
      obtain ⟨b, o, s⟩ := a
      simp only at hsn
      subst hsn
      have key : ∀ k, k ≤ len → ∃ l : List α, l.length = k ∧ Lays (memOf w) b o (l.flatMap cells) ∧ (l.flatMap cells).length = k * z ∧ ∀ x ∈ l, ok x := by
        intro k
        induction k with
        | zero => intro _; exact ⟨[], rfl, fun j iv hj => by simp at hj, by simp, fun x hx => by simp at hx⟩
        | succ k ih =>
          intro hk
          obtain ⟨l, l1, l2, l3, l4⟩ := ih (by omega)
          have g := hget k (by omega)
          have hkl : k < elems.length := by omega
          rw [List.getElem?_eq_getElem hkl, Option.bind_eq_some_iff] at g
          obtain ⟨cs, g1, g2⟩ := g
          obtain ⟨_, g4, g5⟩ := World.cells?_some g1
          obtain ⟨x, x1, x2⟩ := h H enc w n' cs elems[k].1 elems[k].2 g2 (weightsAll_mem (List.mem_map_of_mem (List.getElem_mem hkl)) hw2)
          have hlen := x1.len
          refine ⟨l ++ [x], by simp [l1], ?_, by simp [l3, hlen, g4, hz, Nat.add_mul], fun y hy => ?_⟩
          · simp only [List.flatMap_append, List.flatMap_cons, List.flatMap_nil, List.append_nil]
            refine l2.append (fun j iv hj => ?_)
            obtain ⟨v, v1, v2⟩ := x1.get j iv hj
            refine ⟨v, ?_, v2⟩
            have hj' : j < P.cellsOf e := by
              have := (List.getElem?_eq_some_iff.1 hj).1; omega
            have := g5 j hj'
            rw [v1] at this
            simp only [add_none] at this
            rw [l3, ← hz]; exact this
          · rcases List.mem_append.1 hy with hy | hy
            · exact l4 y hy
            · simp at hy; subst hy; exact x2
      obtain ⟨l, l1, l2, l3, l4⟩ := key len (Nat.le_refl _)
      refine ⟨⟨.unk, l⟩, ⟨?_, trivial⟩, ?_, l4⟩
      · simp only [Lst.iv, l1]
        refine .lst .unk b o len cap _ (fun j => (w.cell? ⟨b, o + j, none⟩).getD undef) (.inr rfl) hlc (fun j iv hj => ?_) (fun j iv hj => ?_)
        · obtain ⟨v, v1, v2⟩ := l2 j iv hj
          have v1' : w.cell? ⟨b, o + j, none⟩ = some v := v1
          simp only [memOf, v1', Option.getD_some]
        · obtain ⟨v, v1, v2⟩ := l2 j iv hj
          have v1' : w.cell? ⟨b, o + j, none⟩ = some v := v1
          simp only [v1', Option.getD_some]; exact v2
      · show l.length * P.bytesOf e ≤ reachBytes
        rw [l1, ← hel]
        refine Nat.le_trans ?_ hw1
        exact Nat.mul_le_mul_right _ (by omega)

/-- Fields, one behind the other. -/
def OpensFs {α : Type} (P : Program) (fs : List Field) (cells : α → List IVal) (ok : α → Prop) : Prop :=
  ∀ (H : Type) (enc : TypeId × Value → H) (w : World) (n : Nat) (cs : List Value) (xs : List (DataW H × List MemPlace)), xs.length = fs.length →
    (∀ (i : Nat) (f : Field), fs[i]? = some f → DataW.trod enc P w 0 (fun _ => true) true n f.type ((cs.drop f.offset).take (P.cellsOf f.type)) = xs[i]?) →
    (DataW.weightsEach P (fs.map (·.type)) (xs.map (·.1))).all (· ≤ reachBytes) = true →
    ∃ x, IRs (memOf w) (cells x) (fs.flatMap fun f => (cs.drop f.offset).take (P.cellsOf f.type)) ∧ ok x

theorem OpensFs.nil : OpensFs P [] (fun _ : Unit => []) (fun _ => True) := fun H enc w n cs xs _ _ _ => ⟨(), trivial, trivial⟩

theorem OpensFs.cons {α β : Type} {f : Field} {fs : List Field} {c : α → List IVal} {ok : α → Prop} {c' : β → List IVal} {ok' : β → Prop} (h : Opens P f.type c ok) (h' : OpensFs P fs c' ok') :
    OpensFs P (f :: fs) (fun x : α × β => c x.1 ++ c' x.2) (fun x => ok x.1 ∧ ok' x.2) := by
  intro H enc w n cs xs hl hg hw
  cases xs with
  | nil => simp at hl
  | cons y ys =>
    simp only [List.map_cons, DataW.weightsEach, List.all_append, Bool.and_eq_true] at hw
    obtain ⟨x, x1, x2⟩ := h H enc w n _ y.1 y.2 (by simpa using hg 0 f rfl) hw.1
    obtain ⟨x', y1, y2⟩ := h' H enc w n cs ys (by simpa using hl) (fun i g hi => by simpa using hg (i + 1) g (by simpa using hi)) hw.2
    exact ⟨(x, x'), by simpa using x1.append y1, x2, y2⟩

/-- the fields lie one behind the other, from a place on -/
def contig (P : Program) (z : Nat) : Nat → List Field → Bool
  | o, [] => o == z
  | o, f :: fs => f.offset == o && contig P z (o + P.cellsOf f.type) fs

theorem contig_le {z : Nat} : ∀ {fs : List Field} {o : Nat}, contig P z o fs = true → o ≤ z
  | [], o, h => by simp [contig] at h; omega
  | f :: fs, o, h => by
    simp only [contig, Bool.and_eq_true] at h
    have := contig_le h.2; omega

theorem contig_cells {z : Nat} {cs : List Value} (hz : cs.length = z) : ∀ {fs : List Field} {o : Nat}, contig P z o fs = true → (fs.flatMap fun f => (cs.drop f.offset).take (P.cellsOf f.type)) = cs.drop o
  | [], o, h => by
    simp [contig] at h
    simp only [List.flatMap_nil]; symm
    rw [List.drop_eq_nil_iff]; omega
  | f :: fs, o, h => by
    simp only [contig, Bool.and_eq_true, beq_iff_eq] at h
    obtain ⟨rfl, h2⟩ := h
    simp only [List.flatMap_cons, contig_cells hz h2]
    rw [← List.drop_drop, List.take_append_drop]

theorem Opens.struct {α : Type} {fs : Array Field} {cells : α → List IVal} {ok : α → Prop} (ht : P.underlying t = some (.struct fs)) (h : OpensFs P fs.toList cells ok) (hc : contig P (P.cellsOf t) 0 fs.toList = true) : Opens P t cells ok := by
  intro H enc w n cs d ps h1 hw
  obtain ⟨xs, m, _, hx, hl, hxl, hg⟩ := DataW.trod_struct ht h1
  have hd : d = .agg (xs.map (·.1)) := congrArg (·.1) hx
  subst hd
  simp only [DataW.weights, ht] at hw
  obtain ⟨x, x1, x2⟩ := h H enc w m cs xs (by simp [hxl]) (fun i f hf => hg i f (by simpa using hf)) hw
  rw [contig_cells hl hc, List.drop_zero] at x1
  exact ⟨x, x1, x2⟩

theorem weightsEach_get {H : Type} : ∀ {ts : List TypeId} {ds : List (DataW H)} {j : Nat} {t : TypeId} {d : DataW H}, (DataW.weightsEach P ts ds).all (· ≤ reachBytes) = true → ts[j]? = some t → ds[j]? = some d →
    (DataW.weights P t d).all (· ≤ reachBytes) = true
  | [], ds, j, t, d, _, h, _ => by simp at h
  | _ :: ts, [], j, t, d, _, _, h => by simp at h
  | u :: ts, x :: ds, 0, t, d, hw, h, h' => by
    simp at h h'; subst h; subst h'
    simp only [DataW.weightsEach, List.all_append, Bool.and_eq_true] at hw
    exact hw.1
  | u :: ts, x :: ds, j + 1, t, d, hw, h, h' => by
    simp only [DataW.weightsEach, List.all_append, Bool.and_eq_true] at hw
    exact weightsEach_get hw.2 (by simpa using h) (by simpa using h')

/-- An argument of a struct's type. -/
theorem Opens.agg {α : Type} {fs : Array Field} {cells : α → List IVal} {ok : α → Prop} (h : Opens P t cells ok) (ht : P.underlying t = some (.struct fs)) {H : Type} {enc : TypeId × Value → H} {w : World} {r : Reach} {base : Nat} {v : Value} {d : DataW H} {ps : List MemPlace}
    (hv : Value.okWide P w r base t v) (hd : DataW.Trod enc P w 0 (fun _ => true) true t v d ps) (hw : (DataW.weights P t d).all (· ≤ reachBytes) = true) (π : Plc) (l : Sl) :
    ∃ x, VR (memOf w) π l (.agg ((cells x).map .imm)) v ∧ ok x := by
  obtain ⟨cs, rfl, _⟩ := WideShapes.okWide_struct ht hv
  obtain ⟨n, hn⟩ := hd
  obtain ⟨x, x1, x2⟩ := h H enc w n _ d ps hn hw
  refine ⟨x, .agg _ cs ?_ (fun i a hi => ?_), x2⟩
  · have := x1.len; simpa [Value.cells] using this
  · rw [List.getElem?_map, Option.map_eq_some_iff] at hi
    obtain ⟨iv, hi, rfl⟩ := hi
    obtain ⟨v, v1, v2⟩ := x1.get i iv hi
    have v1' : cs[i]? = some v := by simpa [Value.cells] using v1
    rw [Array.getD_eq_getD_getElem?, v1']; exact .imm v2

/-- An argument of one cell. -/
theorem Opens.one {α : Type} {cell : α → IVal} {ok : α → Prop} (h : Opens P t (fun x => [cell x]) ok) {H : Type} {enc : TypeId × Value → H} {w : World} {v : Value} {d : DataW H} {ps : List MemPlace}
    (hc : ∀ cs, v ≠ .agg cs) (hd : DataW.Trod enc P w 0 (fun _ => true) true t v d ps) (hw : (DataW.weights P t d).all (· ≤ reachBytes) = true) (π : Plc) (l : Sl) :
    ∃ x, VR (memOf w) π l (.imm (cell x)) v ∧ ok x := by
  have hv : v.cells = #[v] := by cases v <;> first | rfl | exact (hc _ rfl).elim
  obtain ⟨n, hn⟩ := hd
  rw [hv] at hn
  obtain ⟨x, x1, x2⟩ := h H enc w n _ d ps hn hw
  exact ⟨x, .imm x1.1, x2⟩

end

/-- A law that comes to true. -/
theorem law_calls {P : Program} (hm : P.follows .mixedOrders = true) {d f : Nat} {args : List AVal} {cas : Array Value} {w : World} (h : Ret P d f args [] (.imm (.bool true)) []) (ha : VRs (memOf w) (fun _ => ⟨0, 0, 0⟩) (getS []) args cas) :
    Calls P f cas w fun e w' => e = .returned (.bool true) ∧ Go.RowKit.Below w.heap.size w w' := by
  have hno : ∀ s e c, getS [] s ≠ .obj e c := fun s e c h => by rw [getS_none (by simp)] at h; cases h
  refine ((Ret_sound hm d _ _ _ _ _ h).2 w (memOf w) (fun _ => ⟨0, 0, 0⟩) cas ha ⟨fun s e c h => (hno s e c h).elim, fun s s' e e' c c' h => (hno s e c h).elim, fun s e c h => (hno s e c h).elim, fun _ _ _ h => h⟩).mono ?_
  rintro e w' ⟨v, rfl, M', π', hv, R⟩
  cases hv with | imm hv => cases hv with | bool _ =>
  refine ⟨rfl, R.os, R.tape, R.output, R.size, fun k hk => R.stay k hk ?_⟩
  rintro ⟨i, e, c, hi, _⟩
  simp at hi

end Go.Abs
