/- The relation between abstract states and the model's: values, objects, memory that is only read; how it lasts. -/
import Derived.Test.YtbleionbmdpmeaaAbsA
import Derived.Laws.World
set_option linter.unusedVariables false
namespace Go.Abs

/-- Where an object lies: its block, its first cell there, how many cells the block has. -/
structure Pl where
  b : Nat
  o : Nat
  z : Nat

abbrev Mem := Nat → Nat → Option Value
abbrev Plc := Nat → Pl
abbrev Sl := Nat → Slot

/-- A value that is only read, over cells that stay as they are. -/
inductive IR (M : Mem) : IVal → Value → Prop
  | int (k : IntKind) (n : Int) : IR M (.int k n) (.int k n)
  | bool (b : Bool) : IR M (.bool b) (.bool b)
  | str (b : ByteArray) : IR M (.str b.data.toList) (.string b)
  | nilp : IR M .nilp (.pointer none)
  | nil : IR M (.lst .nil 0 []) (.slice none 0 0)
  | void (a : Option Addr) : IR M (.lst .void 0 []) (.slice a 0 0)
  | unk : IR M (.lst .unk 0 []) (.slice none 0 0)
  | lst (g : Tag) (b o n cap : Nat) (c : List IVal) (f : Nat → Value) (hg : g = .full ∨ g = .unk) (hn : n ≤ cap)
      (hm : ∀ i iv, c[i]? = some iv → M b (o + i) = some (f i)) (hc : ∀ i iv, c[i]? = some iv → IR M iv (f i)) : IR M (.lst g n c) (.slice (some ⟨b, o, none⟩) n cap)

theorem IR.mono {M M' : Mem} (h : ∀ b o v, M b o = some v → M' b o = some v) {i : IVal} {v : Value} (hi : IR M i v) : IR M' i v := by
  induction hi with
  | int k n => exact .int k n
  | bool b => exact .bool b
  | str b => exact .str b
  | nilp => exact .nilp
  | nil => exact .nil
  | void a => exact .void a
  | unk => exact .unk
  | lst g b o n cap c f hg hn hm hc ih => exact .lst g b o n cap c f hg hn (fun i iv hi => h _ _ _ (hm i iv hi)) ih

inductive VR (M : Mem) (π : Plc) (l : Sl) : AVal → Value → Prop
  | imm {i : IVal} {v : Value} (h : IR M i v) : VR M π l (.imm i) v
  | agg (as : List AVal) (vs : Array Value) (hn : as.length = vs.size) (h : ∀ i a, as[i]? = some a → VR M π l a (vs.getD i undef)) : VR M π l (.agg as) (.agg vs)
  | tup (as : List AVal) (vs : Array Value) (hn : as.length = vs.size) (h : ∀ i a, as[i]? = some a → VR M π l a (vs.getD i undef)) : VR M π l (.tup as) (.tuple vs)
  | ptr (s off e : Nat) (c : List AVal) (hs : l s = .obj e c) : VR M π l (.ptr s off) (.pointer (some ⟨(π s).b, (π s).o + off, none⟩))
  | ptrDead (s off : Nat) (v : Value) (hs : l s = .dead) (hv : ∃ b o, v = .pointer (some ⟨b, o, none⟩)) : VR M π l (.ptr s off) v
  | iptr (b o : Nat) (c : List IVal) (f : Nat → Value) (hm : ∀ i iv, c[i]? = some iv → M b (o + i) = some (f i)) (hc : ∀ i iv, c[i]? = some iv → IR M iv (f i)) :
      VR M π l (.iptr c) (.pointer (some ⟨b, o, none⟩))
  | ref (s off n e x cap : Nat) (c : List AVal) (hs : l s = .obj e c) (hc : c ≠ []) (hn : n ≤ cap) (hx : (π s).o + off = x ∨ n = 0 ∧ cap = 0) (hz : x + cap * e ≤ (π s).z) :
      VR M π l (.ref s off n) (.slice (some ⟨(π s).b, x, none⟩) n cap)
  | refVoid (s off e : Nat) (a : Option Addr) (hs : l s = .obj e []) : VR M π l (.ref s off 0) (.slice a 0 0)
  | refDead (s off n : Nat) (v : Value) (hs : l s = .dead) (hv : ∃ a cap, v = .slice a n cap) : VR M π l (.ref s off n) v
  | clo (f : Nat) (as bs : List AVal) (vs ws : Array Value) (hn : as.length = vs.size) (hk : bs.length = ws.size)
      (h : ∀ i a, as[i]? = some a → VR M π l a (vs.getD i undef)) (h' : ∀ i a, bs[i]? = some a → VR M π l a (ws.getD i undef)) : VR M π l (.clo f as bs) (.func (.func f) vs ws)
  | any (v : Value) : VR M π l .any v

/-- How slots may turn so that values keep their sense. -/
def Step (π π' : Plc) (l l' : Sl) : Prop :=
  ∀ s, match l s with
    | .hole => True
    | .dead => l' s = .dead
    | .obj e c => (∃ c', l' s = .obj e c' ∧ (c = [] ↔ c' = []) ∧ π' s = π s) ∨ l' s = .dead

theorem Step.refl (π : Plc) (l : Sl) : Step π π l l := by
  intro s
  cases h : l s with
  | hole => trivial
  | dead => rfl
  | obj e c => exact .inl ⟨c, rfl, Iff.rfl, rfl⟩

theorem Step.dead {π π' : Plc} {l l' : Sl} (h : Step π π' l l') {s : Nat} (hs : l s = .dead) : l' s = .dead := by
  have := h s; rw [hs] at this; exact this

theorem Step.obj {π π' : Plc} {l l' : Sl} (h : Step π π' l l') {s e : Nat} {c : List AVal} (hs : l s = .obj e c) :
    (∃ c', l' s = .obj e c' ∧ (c = [] ↔ c' = []) ∧ π' s = π s) ∨ l' s = .dead := by
  have := h s; rw [hs] at this; exact this

theorem VR.mono {M M' : Mem} {π π' : Plc} {l l' : Sl} (hM : ∀ b o v, M b o = some v → M' b o = some v) (hl : Step π π' l l') {a : AVal} {v : Value} (h : VR M π l a v) : VR M' π' l' a v := by
  induction h with
  | imm h => exact .imm (h.mono hM)
  | agg as vs hn h ih => exact .agg as vs hn ih
  | tup as vs hn h ih => exact .tup as vs hn ih
  | ptr s off e c hs =>
    rcases hl.obj hs with ⟨c', h1, _, h3⟩ | h1
    · rw [← h3]; exact .ptr s off e c' h1
    · exact .ptrDead s off _ h1 ⟨_, _, rfl⟩
  | ptrDead s off v hs hv => exact .ptrDead s off v (hl.dead hs) hv
  | iptr b o c f hm hc => exact .iptr b o c f (fun i iv hi => hM _ _ _ (hm i iv hi)) (fun i iv hi => (hc i iv hi).mono hM)
  | ref s off n e x cap c hs hc hn hx hz =>
    rcases hl.obj hs with ⟨c', h1, h2, h3⟩ | h1
    · rw [← h3] at hx hz ⊢; exact .ref s off n e x cap c' h1 (fun h => hc (h2.2 h)) hn hx hz
    · exact .refDead s off n _ h1 ⟨_, _, rfl⟩
  | refVoid s off e a hs =>
    rcases hl.obj hs with ⟨c', h1, h2, h3⟩ | h1
    · exact .refVoid s off e a (by rw [h1, h2.1 rfl])
    · exact .refDead s off 0 _ h1 ⟨_, _, rfl⟩
  | refDead s off n v hs hv => exact .refDead s off n v (hl.dead hs) hv
  | clo f as bs vs ws hn hk h h' ih ih' => exact .clo f as bs vs ws hn hk ih ih'
  | any v => exact .any v

theorem VR.und (M : Mem) (π : Plc) (l : Sl) : VR M π l und undef := .tup [] #[] rfl (fun i a h => by simp at h)

/-! ### Lists -/

theorem getT_eq : ∀ (t : List AVal) (i : Nat), getT t i = t.getD i .any
  | [], i => by simp [getT]
  | a :: t, 0 => by simp [getT]
  | a :: t, n + 1 => by simpa [getT] using getT_eq t n

theorem getT_some {t : List AVal} {i : Nat} {a : AVal} (h : t[i]? = some a) : getT t i = a := by rw [getT_eq, List.getD_eq_getElem?_getD, h]; rfl

theorem getT_none {t : List AVal} {i : Nat} (h : t.length ≤ i) : getT t i = .any := by rw [getT_eq, List.getD_eq_getElem?_getD, List.getElem?_eq_none h]; rfl

theorem putT_eq : ∀ (t : List AVal) (i : Nat) (v : AVal), putT t i v = t.set i v
  | [], i, v => by simp [putT]
  | a :: t, 0, v => by simp [putT]
  | a :: t, n + 1, v => by simp [putT, putT_eq t n v]

theorem putD_length (t : List AVal) (d : Option Nat) (v : AVal) : (putD t d v).length = t.length := by cases d <;> simp [putD, putT_eq]

theorem getS_eq : ∀ (t : List Slot) (i : Nat), getS t i = t.getD i .hole
  | [], i => by simp [getS]
  | a :: t, 0 => by simp [getS]
  | a :: t, n + 1 => by simpa [getS] using getS_eq t n

theorem setS_eq : ∀ (t : List Slot) (i : Nat) (v : Slot), setS t i v = t.set i v
  | [], i, v => by simp [setS]
  | a :: t, 0, v => by simp [setS]
  | a :: t, n + 1, v => by simp [setS, setS_eq t n v]

theorem spl_length : ∀ (vs c : List AVal) (o : Nat), (spl c o vs).length = c.length
  | [], c, o => by simp [spl]
  | v :: vs, c, o => by simp [spl, spl_length vs, putT_eq]

theorem spl_get : ∀ (vs c : List AVal) (o i : Nat), o + vs.length ≤ c.length → (spl c o vs)[i]? = if o ≤ i ∧ i < o + vs.length then vs[i - o]? else c[i]?
  | [], c, o, i, h => by simp [spl]; intro h1 h2; omega
  | v :: vs, c, o, i, h => by
    simp only [spl, List.length_cons] at *
    rw [spl_get vs _ (o + 1) i (by rw [putT_eq, List.length_set]; omega), putT_eq, List.getElem?_set]
    by_cases h1 : o + 1 ≤ i ∧ i < o + 1 + vs.length
    · rw [if_pos h1, if_pos (by omega), show i - o = (i - (o + 1)) + 1 from by omega]; simp
    · rw [if_neg h1]
      by_cases h2 : o = i
      · subst h2; rw [if_pos rfl, if_pos (by omega), if_pos (by omega)]; simp
      · rw [if_neg h2, if_neg (by omega)]

/-! ### The state -/

/-- An object as it lies in memory. -/
def ObjR (M : Mem) (π : Plc) (l : Sl) (w : World) (s : Nat) (c : List AVal) : Prop :=
  ∃ cs ty, w.heap[(π s).b]? = some (.cells cs ty (0, 0)) ∧ cs.size = (π s).z ∧ (π s).o + c.length ≤ (π s).z ∧ ∀ i a, c[i]? = some a → VR M π l a (cs.getD ((π s).o + i) undef)

/-- The call's beginning: the world, what was lent and where it lay, and what may be read. -/
structure Ctx where
  w0 : World
  k : Nat
  π0 : Plc
  l0 : Sl
  M0 : Mem

def Ctx.lent (C : Ctx) (b : Nat) : Prop := ∃ i e c, i < C.k ∧ C.l0 i = .obj e c ∧ c ≠ [] ∧ (C.π0 i).b = b

/-- What holds of memory, whatever the temporaries. -/
structure MemR (C : Ctx) (M : Mem) (π : Plc) (l : Sl) (w : World) : Prop where
  objs : ∀ s e c, l s = .obj e c → c ≠ [] → ObjR M π l w s c
  dist : ∀ s s' e e' c c', l s = .obj e c → l s' = .obj e' c' → c ≠ [] → c' ≠ [] → (π s).b = (π s').b → s = s'
  prot : ∀ s e c, l s = .obj e c → c ≠ [] → ∀ o, (π s).o ≤ o → M (π s).b o = none
  mem : ∀ b o v, M b o = some v → w.cell? ⟨b, o, none⟩ = some v
  m0 : ∀ b, b < C.w0.heap.size → ¬ C.lent b → M b = C.M0 b
  m00 : ∀ b o v, C.M0 b o = some v → M b o = some v
  own : ∀ s e c, l s = .obj e c → c ≠ [] → C.w0.heap.size ≤ (π s).b ∨ C.lent (π s).b
  stay : ∀ b, b < C.w0.heap.size → ¬ C.lent b → w.heap[b]? = C.w0.heap[b]?
  size : C.w0.heap.size ≤ w.heap.size
  os : w.os = C.w0.os
  tape : w.tape = C.w0.tape
  output : w.output = C.w0.output
  stp : Step C.π0 π C.l0 l

def TmpR (M : Mem) (π : Plc) (l : Sl) (t : List AVal) (tm : Array Value) : Prop :=
  t.length = tm.size ∧ ∀ i a, t[i]? = some a → VR M π l a (tm.getD i undef)

theorem TmpR.mono {M M' : Mem} {π π' : Plc} {l l' : Sl} {t : List AVal} {tm : Array Value} (hM : ∀ b o v, M b o = some v → M' b o = some v) (hl : Step π π' l l') (h : TmpR M π l t tm) : TmpR M' π' l' t tm :=
  ⟨h.1, fun i a hi => (h.2 i a hi).mono hM hl⟩

theorem TmpR.get {M : Mem} {π : Plc} {l : Sl} {t : List AVal} {tm : Array Value} (h : TmpR M π l t tm) (i : Nat) : VR M π l (getT t i) (tm.getD i undef) := by
  rcases Nat.lt_or_ge i t.length with hi | hi
  · have : t[i]? = some t[i] := List.getElem?_eq_getElem hi
    rw [getT_some this]; exact h.2 i _ this
  · rw [getT_none hi]; exact .any _

theorem TmpR.put {M : Mem} {π : Plc} {l : Sl} {t : List AVal} {tm : Array Value} (h : TmpR M π l t tm) {a : AVal} {v : Value} (hv : VR M π l a v) (d : Option Nat) (ds : List Deferred) :
    TmpR M π l (putD t d a) (Act.put ⟨tm, ds⟩ d v).tmps := by
  cases d with
  | none => exact h
  | some d =>
    refine ⟨by simp [putD, putT_eq, Act.put, h.1], fun i b hi => ?_⟩
    simp only [putD, putT_eq, List.getElem?_set] at hi
    simp only [Act.put, Array.getD_eq_getD_getElem?, Array.getElem?_setIfInBounds]
    by_cases e : d = i
    · subst e
      rw [if_pos rfl] at hi ⊢
      by_cases hd : d < t.length
      · rw [if_pos hd] at hi; rw [if_pos (by rw [← h.1]; exact hd)]; cases hi; exact hv
      · rw [if_neg hd] at hi; cases hi
    · rw [if_neg e] at hi ⊢
      have := h.2 i b hi; rwa [Array.getD_eq_getD_getElem?] at this

theorem ofConst_IR (M : Mem) {v : Value} {i : IVal} (h : ofConst v = some i) : IR M i v := by
  unfold ofConst at h
  split at h <;> cases h
  · exact .int _ _
  · exact .bool _
  · exact .str _
  · exact .nilp
  · exact .nil

theorem TmpR.ev {M : Mem} {π : Plc} {l : Sl} {t : List AVal} {a : Act} (h : TmpR M π l t a.tmps) (x : Operand) : VR M π l (ev t x) (a.eval x) := by
  cases x with
  | tmp i => exact h.get i
  | const v =>
    simp only [Abs.ev, ofConstA, Act.eval]
    cases hc : ofConst v with
    | none => exact .any _
    | some i => exact .imm (ofConst_IR M hc)
  | global g => exact .any _
  | func f => exact .clo f [] [] #[] #[] rfl rfl (fun i a h => by simp at h) (fun i a h => by simp at h)

end Go.Abs
