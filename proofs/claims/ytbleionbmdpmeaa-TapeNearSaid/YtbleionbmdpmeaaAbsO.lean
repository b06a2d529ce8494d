/- Evaluation, where types matter: fields, elements, loads, stores, slices. -/
import Derived.Test.YtbleionbmdpmeaaAbsN
set_option linter.unusedVariables false
set_option linter.unusedSimpArgs false
namespace Go.Abs
section
variable {P : Program} {R : Rets} {n0 : Nat} {nd : Bool} {t : List AVal} {L : List Slot} {K : AVal → List Slot → Prop} {u : Un K} {ty : TypeId} {kd : Kind} {sz : Nat} {ag ok : Bool} {z : List IVal}

/-! ### Fields -/

def fieldK (o : Option (Nat × Nat)) (a : AVal) (L : List Slot) (K : AVal → List Slot → Prop) (_ : Un K) : Prop := match o with
  | some (off, sz) => if sz = 0 then False else (match a with
    | .ptr s o => K (.ptr s (o + off)) L
    | .iptr c => K (.iptr (c.drop off)) L
    | _ => False)
  | none => False
theorem aop_fieldK {fs : List (Nat × Nat)} {x : Operand} {f : Nat} (h : tiOf P ty = ⟨.struct fs, sz, ag, z, ok⟩) : aopW P R n0 nd (.fieldAddr ty x f) t L K (un _) = fieldK (nthP fs f) (ev t x) L K (un _) := by
  rw [aop_field]
  simp only [fieldA, h, fieldK]
  cases nthP fs f with
  | none => rfl
  | some p =>
    simp only
    split
    · rfl
    · cases ev t x <;> simp [optK]
theorem fieldK_ptr {off n s o : Nat} : fieldK (some (off, n + 1)) (.ptr s o) L K (un _) = K (.ptr s (o + off)) L := by simp [fieldK]
theorem fieldK_iptr {off n : Nat} {c : List IVal} : fieldK (some (off, n + 1)) (.iptr c) L K (un _) = K (.iptr (c.drop off)) L := by simp [fieldK]

/-! ### Loads -/

def loadK (ag : Bool) (sz : Nat) (a : AVal) (L : List Slot) (K : AVal → List Slot → Prop) (_ : Un K) : Prop := match a with
  | .ptr s o => (match getS L s with
    | .obj _ c => if ag = true then o + sz ≤ c.length ∧ K (.agg ((c.drop o).take sz)) L else o < c.length ∧ K (getT c o) L
    | _ => False)
  | .iptr c => if ag = true then sz ≤ c.length ∧ K (.agg ((c.take sz).map .imm)) L else 0 < c.length ∧ K (hd c) L
  | _ => False
def ldS (sl : Slot) (ag : Bool) (sz o : Nat) (L : List Slot) (K : AVal → List Slot → Prop) (_ : Un K) : Prop := match sl with
    | .obj _ c => if ag = true then o + sz ≤ c.length ∧ K (.agg ((c.drop o).take sz)) L else o < c.length ∧ K (getT c o) L
    | _ => False
theorem aop_loadK {x : Operand} (h : tiOf P ty = ⟨kd, sz, ag, z, true⟩) : aopW P R n0 nd (.load ty x) t L K (un _) = loadK ag sz (ev t x) L K (un _) := by
  rw [aop_load]
  simp only [loadA, h, loadK]
  cases ev t x with
  | ptr s o =>
    simp only [liveB, cellsOf]
    cases getS L s <;> cases ag <;> simp [optK]
  | iptr c => cases ag <;> simp [optK]
  | _ => rfl
theorem loadK_ptr {s o : Nat} : loadK ag sz (.ptr s o) L K (un _) = ldS (getS L s) ag sz o L K (un _) := nr rfl
theorem ldS_f {e o : Nat} {c : List AVal} : ldS (.obj e c) false sz o L K (un _) = (o < c.length ∧ K (getT c o) L) := by simp [ldS]
theorem ldS_t {e o : Nat} {c : List AVal} : ldS (.obj e c) true sz o L K (un _) = (o + sz ≤ c.length ∧ K (.agg ((c.drop o).take sz)) L) := by simp [ldS]
theorem loadK_if {c : List IVal} : loadK false sz (.iptr c) L K (un _) = (0 < c.length ∧ K (hd c) L) := by simp [loadK]
theorem loadK_it {c : List IVal} : loadK true sz (.iptr c) L K (un _) = (sz ≤ c.length ∧ K (.agg ((c.take sz).map .imm)) L) := by simp [loadK]

/-! ### Boxes, new variables, stores -/

def boxK (sz : Nat) (a : AVal) (L : List Slot) (K : AVal → List Slot → Prop) (_ : Un K) : Prop := a.cells.length = sz ∧ okc L a = true ∧ K (.ptr L.length 0) (L ++ [.obj 0 a.cells])
theorem aop_boxK {x : Operand} (h : tiOf P ty = ⟨kd, sz + 1, ag, z, ok⟩) : aopW P R n0 nd (.box ty x) t L K (un _) = boxK (sz + 1) (ev t x) L K (un _) := by
  rw [aop_box, wv_box h]; simp [optL, boxK, and_assoc]
theorem boxK_agg {n : Nat} {l : List AVal} : boxK n (.agg l) L K (un _) = (l.length = n ∧ K (.ptr L.length 0) (L ++ [.obj 0 l])) := by simp [boxK, AVal.cells, okc]
theorem boxK_imm {i : IVal} : boxK 1 (.imm i) L K (un _) = K (.ptr L.length 0) (L ++ [.obj 0 [.imm i]]) := by simp [boxK, AVal.cells, okc, solid]
theorem boxK_ref {s o n : Nat} : boxK 1 (.ref s o n) L K (un _) = (isObj (getS L s) = true ∧ K (.ptr L.length 0) (L ++ [.obj 0 [.ref s o n]])) := by simp [boxK, AVal.cells, okc, solid, liveB_eq]
theorem boxK_ptr {s o : Nat} : boxK 1 (.ptr s o) L K (un _) = (isObj (getS L s) = true ∧ K (.ptr L.length 0) (L ++ [.obj 0 [.ptr s o]])) := by simp [boxK, AVal.cells, okc, solid, liveB_eq]

theorem aop_allocK (h : tiOf P ty = ⟨kd, sz + 1, ag, z, ok⟩) (hz : z.length = sz + 1) : aopW P R n0 nd (.alloc ty) t L K (un _) = K (.ptr L.length 0) (L ++ [.obj 0 (z.map .imm)]) := by
  rw [aop_alloc, wv_alloc h]; simp [optL, hz]

/-! ### Elements -/

def idxK (z : Nat) (a i : AVal) (L : List Slot) (K : AVal → List Slot → Prop) (_ : Un K) : Prop := match i with
  | .imm (.int _ j) => (match a with
    | .imm (.lst _ n c) => (0 ≤ j ∧ j < n) ∧ K (.iptr (c.drop (j.toNat * z))) L
    | .ref s o n => liveB L s = true ∧ (0 ≤ j ∧ j < n) ∧ K (.ptr s (o + j.toNat * z)) L
    | _ => False)
  | _ => False
theorem aop_idxK {esz eb : Nat} {ez : List IVal} {eu : Bool} {x i : Operand} (h : tiOf P ty = ⟨.slice esz eb ez eu, sz, ag, z, ok⟩) : aopW P R n0 nd (.indexAddr ty x i) t L K (un _) = idxK esz (ev t x) (ev t i) L K (un _) := by
  rw [aop_index]
  simp only [indexA, h, idxK]
  cases ev t i with
  | imm j =>
    cases j with
    | int kk j =>
      cases ev t x with
      | imm y => cases y <;> simp [optK]
      | _ => simp [optK, and_assoc]
    | _ => rfl
  | _ => rfl
theorem idxK_lst {g : Tag} {n e : Nat} {c : List IVal} {k : IntKind} {j : Int} (h0 : 0 ≤ j) (h1 : j < n) : idxK e (.imm (.lst g n c)) (.imm (.int k j)) L K (un _) = K (.iptr (c.drop (j.toNat * e))) L := by simp [idxK, h0, h1]
theorem idxK_ref {s o n e : Nat} {k : IntKind} {j : Int} (h0 : 0 ≤ j) (h1 : j < n) : idxK e (.ref s o n) (.imm (.int k j)) L K (un _) = (isObj (getS L s) = true ∧ K (.ptr s (o + j.toNat * e)) L) := by simp [idxK, h0, h1, liveB_eq]

/-- an element of what is read -/
def Lst.at {α : Type} (s : Lst α) (d : α) (j : Int) : α := s.l.getD j.toNat d
def Lst.rest {α : Type} (c : α → List IVal) (s : Lst α) (j : Int) : List IVal := (s.l.drop (j.toNat + 1)).flatMap c

theorem flat_drop {α : Type} (c : α → List IVal) (e : Nat) (hc : ∀ x, (c x).length = e) : ∀ (l : List α) (j : Nat), (l.flatMap c).drop (j * e) = (l.drop j).flatMap c
  | [], j => by simp
  | x :: l, 0 => by simp
  | x :: l, j + 1 => by
    simp only [List.flatMap_cons, List.drop_succ_cons, Nat.succ_mul, ← flat_drop c e hc l j]
    rw [Nat.add_comm, ← List.drop_drop, List.drop_left' (hc x)]

theorem idxK_iv {α : Type} {c : α → List IVal} {e : Nat} (hc : ∀ x, (c x).length = e) {s : Lst α} {d : α} {k : IntKind} {j : Int} (h0 : 0 ≤ j) (h1 : j < s.l.length) : idxK e (.imm (s.iv c)) (.imm (.int k j)) L K (un _) = K (.iptr (c (s.at d j) ++ s.rest c j)) L := by
  rw [Lst.iv, idxK_lst h0 h1, flat_drop c e hc]
  have hj : j.toNat < s.l.length := by omega
  rw [List.drop_eq_getElem_cons hj]
  simp only [List.flatMap_cons, Lst.at, Lst.rest, List.getD_eq_getElem?_getD, List.getElem?_eq_getElem hj, Option.getD_some]

/-! ### Lengths -/

def lenL (a : AVal) (L : List Slot) (K : AVal → List Slot → Prop) (_ : Un K) : Prop := match a with
  | .imm (.lst _ n _) => K (.imm (.int .i64 n)) L
  | .ref s _ n => K (.imm (.int .i64 n)) L
  | _ => False
def lenS (a : AVal) (L : List Slot) (K : AVal → List Slot → Prop) (_ : Un K) : Prop := match a with
  | .imm (.str s) => K (.imm (.int .i64 s.length)) L
  | _ => False
theorem aop_lenL {esz eb : Nat} {ez : List IVal} {eu : Bool} {x : Operand} (h : tiOf P ty = ⟨.slice esz eb ez eu, sz, ag, z, ok⟩) : aopW P R n0 nd (.call ⟨.builtin .len, #[x], #[ty]⟩) t L K (un _) = lenL (ev t x) L K (un _) := by
  rw [aop_builtin]
  simp only [wv, lenA, h, lenL]
  cases ev t x with
  | imm y => cases y <;> simp [optL, isStrK, isSliceK]
  | ref s o n => simp [optL, isSliceK]
  | _ => rfl
theorem aop_lenStr {x : Operand} (h : tiOf P ty = ⟨.str, sz, ag, z, ok⟩) : aopW P R n0 nd (.call ⟨.builtin .len, #[x], #[ty]⟩) t L K (un _) = lenS (ev t x) L K (un _) := by
  rw [aop_builtin]
  simp only [wv, lenA, h, lenS]
  cases ev t x with
  | imm y => cases y <;> simp [optL, isStrK, isSliceK]
  | ref s o n => simp [optL, isSliceK]
  | _ => rfl
theorem lenL_lst {g : Tag} {n : Nat} {c : List IVal} : lenL (.imm (.lst g n c)) L K (un _) = K (.imm (.int .i64 n)) L := nr rfl
theorem lenL_iv {α : Type} {c : α → List IVal} {s : Lst α} : lenL (.imm (s.iv c)) L K (un _) = K (.imm (.int .i64 s.l.length)) L := nr rfl
theorem lenL_ref {s o n : Nat} : lenL (.ref s o n) L K (un _) = K (.imm (.int .i64 n)) L := nr rfl
theorem lenS_str {s : List UInt8} : lenS (.imm (.str s)) L K (un _) = K (.imm (.int .i64 s.length)) L := nr rfl

/-! ### Cuts -/

def bndI (d : Nat) : Option AVal → Option Int
  | none => some d
  | some (.imm (.int _ j)) => some j
  | _ => none
theorem bndI_none {d : Nat} : bndI d none = some (d : Int) := nr rfl
theorem bndI_some {d : Nat} {k : IntKind} {j : Int} : bndI d (some (.imm (.int k j))) = some j := nr rfl

theorem bnd_eq {d : Nat} {x : Option AVal} : bnd d x = (bndI d x).map fun j => (match x with | none => True | some _ => 0 ≤ j, j.toNat) := by
  cases x with
  | none => simp [bnd, bndI]
  | some a =>
    cases a with
    | imm i => cases i <;> simp [bnd, bndI]
    | _ => simp [bnd, bndI]

/-- What a cut with its two bounds gives. -/
def cutK (esz : Nat) (a : AVal) (lo hi : Option Int) (L : List Slot) (K : AVal → List Slot → Prop) (_ : Un K) : Prop := match a, lo, hi with
  | .imm (.lst g n c), some l, some h => (0 ≤ l ∧ l ≤ h ∧ h ≤ n) ∧ K (.imm (.lst g (h.toNat - l.toNat) ((c.drop (l.toNat * esz)).take ((h.toNat - l.toNat) * esz)))) L
  | .ref s o n, some l, some h => (liveB L s = true ∧ 0 < (cellsOf L s).length ∧ eszOf L s = esz) ∧ (0 ≤ l ∧ l ≤ h ∧ h ≤ n) ∧ K (.ref s (o + l.toNat * esz) (h.toNat - l.toNat)) L
  | _, _, _ => False
def lenOf : AVal → Nat
  | .imm (.lst _ n _) => n
  | .imm (.str s) => s.length
  | .ref _ _ n => n
  | _ => 0
theorem lenOf_lst {g : Tag} {n : Nat} {c : List IVal} : lenOf (.imm (.lst g n c)) = n := nr rfl
theorem lenOf_iv {α : Type} {c : α → List IVal} {s : Lst α} : lenOf (.imm (s.iv c)) = s.l.length := nr rfl
theorem lenOf_ref {s o n : Nat} : lenOf (.ref s o n) = n := nr rfl
theorem lenOf_str {s : List UInt8} : lenOf (.imm (.str s)) = s.length := nr rfl

theorem bnd_none_of {d : Nat} {x : Option AVal} (h : bndI d x = none) : bnd d x = none := by rw [bnd_eq, h]; rfl

theorem aop_cutK {esz eb : Nat} {ez : List IVal} {eu : Bool} {x : Operand} {lo hi : Option Operand} (h : tiOf P ty = ⟨.slice esz eb ez eu, sz, ag, z, ok⟩)
    (hK : cutK esz (ev t x) (bndI 0 (lo.map (ev t))) (bndI (lenOf (ev t x)) (hi.map (ev t))) L K (un _)) : aopW P R n0 nd (.slice ty x lo hi none) t L K (un _) := by
  rw [aop_slice]
  simp only [sliceA, h, Option.map_none]
  have key : ∀ (d : Nat) (y : Option AVal) (j : Int), bndI d y = some j → 0 ≤ j → ∃ p : Prop, bnd d y = some (p, j.toNat) ∧ p := by
    intro d y j hj h0
    rw [bnd_eq, hj]
    exact ⟨_, rfl, by cases y <;> simp [h0]⟩
  generalize hx : ev t x = a at hK
  unfold cutK at hK
  split at hK
  · rename_i g n c l hh hlo hhi
    obtain ⟨⟨h0, h1, h2⟩, hK⟩ := hK
    obtain ⟨p, e1, hp⟩ := key _ _ _ hlo h0
    obtain ⟨q, e2, hq⟩ := key _ _ _ hhi (by omega)
    simp only [lenOf] at e2
    simp only [e1, e2, optK]
    exact ⟨⟨⟨hp, hq⟩, by omega, by omega⟩, hK⟩
  · rename_i s o n l hh hlo hhi
    obtain ⟨g1, ⟨h0, h1, h2⟩, hK⟩ := hK
    obtain ⟨p, e1, hp⟩ := key _ _ _ hlo h0
    obtain ⟨q, e2, hq⟩ := key _ _ _ hhi (by omega)
    simp only [lenOf] at e2
    simp only [e1, e2, optK]
    exact ⟨⟨⟨hp, hq⟩, g1, by omega, by omega⟩, hK⟩
  · exact hK.elim

def cutE (esz : Nat) (a : AVal) (lo hi : Option AVal) (L : List Slot) (K : AVal → List Slot → Prop) (_ : Un K) : Prop := match a with
  | .imm (.lst g n c) => (match bnd 0 lo, bnd n hi with
    | some (p, l), some (q, h) => ((p ∧ q) ∧ l ≤ h ∧ h ≤ n) ∧ K (.imm (.lst g (h - l) ((c.drop (l * esz)).take ((h - l) * esz)))) L
    | _, _ => False)
  | .ref s o n => (match bnd 0 lo, bnd n hi with
    | some (p, l), some (q, h) => ((p ∧ q) ∧ (liveB L s = true ∧ 0 < (cellsOf L s).length ∧ eszOf L s = esz) ∧ l ≤ h ∧ h ≤ n) ∧ K (.ref s (o + l * esz) (h - l)) L
    | _, _ => False)
  | _ => False
theorem aop_cutE {esz eb : Nat} {ez : List IVal} {eu : Bool} {x : Operand} {lo hi : Option Operand} (h : tiOf P ty = ⟨.slice esz eb ez eu, sz, ag, z, ok⟩) :
    aopW P R n0 nd (.slice ty x lo hi none) t L K (un _) = cutE esz (ev t x) (lo.map (ev t)) (hi.map (ev t)) L K (un _) := by
  rw [aop_slice]
  simp only [sliceA, h, Option.map_none, cutE]
  cases ev t x with
  | imm y =>
    cases y with
    | lst g n c =>
      cases hb : bnd 0 (lo.map (ev t)) with
      | none => simp only [hb]; rfl
      | some p => cases hb' : bnd n (hi.map (ev t)) with
        | none => simp only [hb, hb']; rfl
        | some q => simp only [hb, hb']; rfl
    | _ => rfl
  | ref s o n =>
    cases hb : bnd 0 (lo.map (ev t)) with
    | none => simp only [hb]; rfl
    | some p => cases hb' : bnd n (hi.map (ev t)) with
      | none => simp only [hb, hb']; rfl
      | some q => simp only [hb, hb']; rfl
  | _ => rfl

/-- the slot can be cut -/
def cutS (esz : Nat) (sl : Slot) : Bool := match sl with | .obj e c => decide (0 < c.length) && e == esz | _ => false
theorem cutS_obj {esz e : Nat} {c : List AVal} : cutS esz (.obj e c) = (decide (0 < c.length) && e == esz) := nr rfl
theorem cut_live {esz s : Nat} : (liveB L s = true ∧ 0 < (cellsOf L s).length ∧ eszOf L s = esz) = (cutS esz (getS L s) = true) := by
  simp only [liveB, cellsOf, eszOf, cutS]; cases getS L s <;> simp
variable {k1 k2 : IntKind} {j1 j2 : Int} {esz s o n : Nat} {g : Tag} {c : List IVal}
theorem cutE_ref_lo (h0 : 0 ≤ j1) (h1 : j1 ≤ n) : cutE esz (.ref s o n) (some (.imm (.int k1 j1))) none L K (un _) = (cutS esz (getS L s) = true ∧ K (.ref s (o + j1.toNat * esz) (n - j1.toNat)) L) := by
  simp only [cutE, bnd, cut_live, h0, true_and]; simp; omega
theorem cutE_ref_hi (h0 : 0 ≤ j2) (h1 : j2 ≤ n) : cutE esz (.ref s o n) none (some (.imm (.int k2 j2))) L K (un _) = (cutS esz (getS L s) = true ∧ K (.ref s o j2.toNat) L) := by
  simp only [cutE, bnd, cut_live, h0, true_and]; simp; omega
theorem cutE_ref_both (h0 : 0 ≤ j1) (h1 : j1 ≤ j2) (h2 : j2 ≤ n) : cutE esz (.ref s o n) (some (.imm (.int k1 j1))) (some (.imm (.int k2 j2))) L K (un _) = (cutS esz (getS L s) = true ∧ K (.ref s (o + j1.toNat * esz) (j2.toNat - j1.toNat)) L) := by
  have : (0 : Int) ≤ j2 := by omega
  simp only [cutE, bnd, cut_live, h0, this, true_and]; simp; omega
theorem cutE_lst_lo (h0 : 0 ≤ j1) (h1 : j1 ≤ n) : cutE esz (.imm (.lst g n c)) (some (.imm (.int k1 j1))) none L K (un _) = K (.imm (.lst g (n - j1.toNat) ((c.drop (j1.toNat * esz)).take ((n - j1.toNat) * esz)))) L := by
  simp only [cutE, bnd, h0, true_and]; simp; omega
theorem cutE_lst_hi (h0 : 0 ≤ j2) (h1 : j2 ≤ n) : cutE esz (.imm (.lst g n c)) none (some (.imm (.int k2 j2))) L K (un _) = K (.imm (.lst g j2.toNat (c.take (j2.toNat * esz)))) L := by
  simp only [cutE, bnd, h0, true_and]; simp; omega

/-- A cut of a string. -/
theorem aop_cutS {x : Operand} {lo hi : Option Operand} {s : List UInt8} {l h' : Int} (h : tiOf P ty = ⟨.str, sz, ag, z, ok⟩) (hx : ev t x = .imm (.str s)) (h1 : bndI 0 (lo.map (ev t)) = some l) (h2 : bndI s.length (hi.map (ev t)) = some h')
    (h0 : 0 ≤ l ∧ l ≤ h' ∧ h' ≤ s.length) (hK : K (.imm (.str ((s.take h'.toNat).drop l.toNat))) L) : aopW P R n0 nd (.slice ty x lo hi none) t L K (un _) := by
  rw [aop_slice]
  have key : ∀ (d : Nat) (y : Option AVal) (j : Int), bndI d y = some j → 0 ≤ j → ∃ p : Prop, bnd d y = some (p, j.toNat) ∧ p := by
    intro d y j hj h0
    rw [bnd_eq, hj]
    exact ⟨_, rfl, by cases y <;> simp [h0]⟩
  obtain ⟨p, e1, hp⟩ := key _ _ _ h1 h0.1
  obtain ⟨q, e2, hq⟩ := key _ _ _ h2 (by omega)
  simp only [sliceA, h, Option.map_none, hx, e1, e2, optK]
  exact ⟨⟨⟨hp, hq⟩, by omega, by omega⟩, hK⟩

/-! ### Slices that are made or written -/

def appK (esz eb : Nat) (b x : AVal) (L : List Slot) (K : AVal → List Slot → Prop) (_ : Un K) : Prop := match cntA x with
  | some m => match srcA L esz m x with
    | some (p, new) => match appendA L esz eb b m new with
      | some (q, v, L') => p ∧ q ∧ K v L'
      | none => False
    | none => False
  | none => False
theorem aop_appK {esz eb esz' eb' : Nat} {ez ez' : List IVal} {eu eu' : Bool} {tx : TypeId} {b x : Operand} {sz' : Nat} {ag' ok' : Bool} {z' : List IVal} (h : tiOf P ty = ⟨.slice esz eb ez eu, sz, ag, z, ok⟩) (h' : tiOf P tx = ⟨.slice esz' eb' ez' eu', sz', ag', z', ok'⟩) :
    aopW P R n0 nd (.call ⟨.builtin .append, #[b, x], #[ty, tx]⟩) t L K (un _) = appK esz eb (ev t b) (ev t x) L K (un _) := by
  rw [aop_builtin]
  simp only [wv, h, h', isInt, isSliceK, appK]
  cases cntA (ev t x) with
  | none => rfl
  | some m =>
    simp only
    cases srcA L esz m (ev t x) with
    | none => rfl
    | some q =>
      obtain ⟨p, new⟩ := q
      simp only
      cases appendA L esz eb (ev t b) m new with
      | none => rfl
      | some r => obtain ⟨a1, a2, a3⟩ := r; simp [optL, and_assoc]

theorem appK_nil {esz eb s o m e : Nat} {cc : List IVal} {c : List AVal} (hs : getS L s = .obj e c) : appK esz eb (.imm (.lst .nil 0 cc)) (.ref s o m) L K (un _) =
    ((o + m * esz ≤ c.length ∧ m ≤ most ∧ eb ≤ 100 ∧ 0 < esz) ∧ K (.ref L.length 0 m) (L ++ [.obj esz ((c.drop o).take (m * esz))])) := by
  simp [appK, cntA, srcA, appendA, hs, liveB, cellsOf, and_assoc]
theorem appK_ref {esz eb s o m e b p n e' : Nat} {c d : List AVal} (hs : getS L s = .obj e c) (hb : getS L b = .obj e' d) : appK esz eb (.ref b p n) (.ref s o m) L K (un _) =
    ((o + m * esz ≤ c.length ∧ e' = esz ∧ p + n * esz = d.length ∧ (d = [] ∨ 0 < n + m) ∧ n + m ≤ most ∧ eb ≤ 100 ∧ 0 < esz ∧ (((c.drop o).take (m * esz)).all (solid L)) = true) ∧
      K (.ref L.length 0 (n + m)) (setS L b .dead ++ [.obj esz (d.drop p ++ (c.drop o).take (m * esz))])) := by
  simp [appK, cntA, srcA, appendA, hs, hb, liveB, cellsOf, eszOf, and_assoc]

def makeK (esz eb : Nat) (ez : List IVal) (n m : AVal) (L : List Slot) (K : AVal → List Slot → Prop) (_ : Un K) : Prop := match n, m with
  | .imm (.int _ n), .imm (.int _ m) => ((0 ≤ n ∧ n = m ∧ eb * n ≤ 281474976710656 ∧ n ≤ 9223372036854775807) ∧ 0 < esz) ∧ K (.ref L.length 0 n.toNat) (L ++ [.obj esz ((List.replicate n.toNat (ez.map .imm)).flatten)])
  | _, _ => False
theorem aop_makeK {esz eb : Nat} {ez : List IVal} {eu : Bool} {x y : Operand} (h : tiOf P ty = ⟨.slice esz eb ez eu, sz, ag, z, ok⟩) : aopW P R n0 nd (.makeSlice ty x y) t L K (un _) = makeK esz eb ez (ev t x) (ev t y) L K (un _) := by
  rw [aop_makeSlice]
  simp only [wv, h, makeK]
  cases ev t x with
  | imm i =>
    cases i with
    | int k n =>
      cases ev t y with
      | imm j => cases j <;> simp [optL]
      | _ => rfl
    | _ => rfl
  | _ => rfl
theorem makeK_int {esz eb : Nat} {ez : List IVal} {k : IntKind} {n : Int} (h0 : 0 ≤ n) (h1 : eb * n ≤ 281474976710656) (h2 : n ≤ 9223372036854775807) (h3 : 0 < esz) :
    makeK esz eb ez (.imm (.int k n)) (.imm (.int k n)) L K (un _) = K (.ref L.length 0 n.toNat) (L ++ [.obj esz ((List.replicate n.toNat (ez.map .imm)).flatten)]) := by
  simp [makeK, h0, h1, h2, h3]

def bsK (esz len : Nat) (ez : List IVal) (parts : List (Nat × AVal)) (L : List Slot) (K : AVal → List Slot → Prop) (_ : Un K) : Prop := match fillA L (fun i => some (i * esz, esz)) ((List.replicate len (ez.map .imm)).flatten) parts with
  | some c => (0 < esz ∧ len * esz ≤ 16777216) ∧ K (.ref L.length 0 len) (L ++ [.obj esz c])
  | none => False
theorem aop_bsK {esz eb len : Nat} {ez : List IVal} {eu : Bool} {parts : List (Nat × Operand)} (h : tiOf P ty = ⟨.slice esz eb ez eu, sz, ag, z, ok⟩) : aopW P R n0 nd (.buildSlice ty (len + 1) parts.toArray) t L K (un _) = bsK esz (len + 1) ez (mapP (ev t) parts) L K (un _) := by
  rw [aop_buildSlice]
  simp only [wv, h, bsK, Nat.succ_ne_zero, if_false]
  cases fillA L (fun i => some (i * esz, esz)) ((List.replicate (len + 1) (ez.map .imm)).flatten) (mapP (ev t) parts) <;> rfl

def cpyK (esz : Nat) (d x : AVal) (L : List Slot) (K : AVal → List Slot → Prop) (_ : Un K) : Prop := match d, cntA x with
  | .ref s o n, some m => match srcA L esz (min m n) x with
    | some (p, new) => (p ∧ (liveB L s = true ∧ o + n * esz ≤ (cellsOf L s).length ∧ 0 < esz) ∧ new.all (solid L) = true) ∧ K (.imm (.int .i64 (min m n : Nat))) (setS L s (.obj (eszOf L s) (spl (cellsOf L s) o new)))
    | none => False
  | _, _ => False
theorem aop_cpyK {esz eb : Nat} {ez : List IVal} {eu : Bool} {d x : Operand} {tx : TypeId} (h : tiOf P ty = ⟨.slice esz eb ez eu, sz, ag, z, ok⟩) : aopW P R n0 nd (.call ⟨.builtin .copy, #[d, x], #[ty, tx]⟩) t L K (un _) = cpyK esz (ev t d) (ev t x) L K (un _) := by
  rw [aop_builtin]
  simp only [wv, h, cpyK]
  cases ev t d with
  | ref s o n =>
    cases cntA (ev t x) with
    | none => rfl
    | some m =>
      simp only
      cases srcA L esz (min m n) (ev t x) with
      | none => rfl
      | some q => obtain ⟨a, b⟩ := q; rfl
  | _ => rfl

def bldK (fs : List (Nat × Nat)) (z : List IVal) (parts : List (Nat × AVal)) (L : List Slot) (K : AVal → List Slot → Prop) (_ : Un K) : Prop := match fillA L (nthP fs) (z.map .imm) parts with
  | some c => K (.agg c) L
  | none => False
theorem aop_bldK {fs : List (Nat × Nat)} {parts : List (Nat × Operand)} (h : tiOf P ty = ⟨.struct fs, sz + 1, ag, z, ok⟩) (hz : z.length = sz + 1) : aopW P R n0 nd (.build ty parts.toArray) t L K (un _) = bldK fs z (mapP (ev t) parts) L K (un _) := by
  rw [aop_build]
  simp only [buildA, h, bldK]
  cases fillA L (nthP fs) (z.map .imm) (mapP (ev t) parts) <;> simp [optK, hz]
theorem fillA_nil {place : Nat → Option (Nat × Nat)} {c : List AVal} : fillA L place c [] = some c := nr rfl
theorem fillA_cons {place : Nat → Option (Nat × Nat)} {c : List AVal} {i off size : Nat} {v : AVal} {rest : List (Nat × AVal)} (h : place i = some (off, size)) (h1 : v.cells.length = size) (h2 : off + v.cells.length ≤ c.length) (h3 : okc L v = true) :
    fillA L place c ((i, v) :: rest) = fillA L place (spl c off v.cells) rest := by
  simp [fillA, h, h1, h3]; omega

/-! ### Calls -/

/-- A call whose arguments hold no references, with a result that is one value. -/
theorem call_imm {g : Nat} {as : List AVal} {r : AVal} (h : R g as [] r []) (h1 : rens (idx []) as = as) (h2 : ren (outσ [] L.length) r = r) (hK : K r L) : callK R n0 (.clo g [] []) as L K (un _) := by
  refine ⟨[], false, as, r, [], List.nodup_nil, fun p hp => (by cases hp), by simp, ?_, Nat.le_refl _, (fun h => by cases h), ?_⟩
  · simpa [h1, lend] using h
  · simpa [h2, giveBack] using hK

end
theorem Br.sp {p A B : Prop} (h : p → p = True → A) (h' : ¬ p → p = False → B) : Br p A B (un _) := ⟨fun hp => h hp (eq_true hp), fun hp => h' hp (eq_false hp)⟩
theorem le_succ_succ {k n : Nat} : (k + 1 ≤ n + 1) = (k ≤ n) := by simp
theorem le_zero' {n : Nat} : (0 ≤ n) = True := by simp
attribute [go_sem] or_true true_or false_or List.contains_cons List.contains_nil Bool.or_false Bool.or_true Bool.true_or Bool.false_or List.take_succ_cons List.take_zero List.drop_succ_cons List.drop_zero List.map_cons List.map_nil List.all_cons List.all_nil Bool.and_self Bool.and_true Bool.true_and le_succ_succ le_zero'
attribute [go_sem] fieldK_ptr fieldK_iptr loadK_ptr ldS_f ldS_t loadK_if loadK_it boxK_agg boxK_imm boxK_ref boxK_ptr idxK_lst idxK_ref lenL_lst lenL_iv lenL_ref lenS_str bndI_none bndI_some lenOf_lst lenOf_iv lenOf_ref lenOf_str makeK_int fillA_nil cutS_obj cutE_ref_lo cutE_ref_hi cutE_ref_both cutE_lst_lo cutE_lst_hi
end Go.Abs
