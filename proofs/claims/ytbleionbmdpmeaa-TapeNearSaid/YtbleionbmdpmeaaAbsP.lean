/- Evaluation of what is done without an operation, of calls that lend slots, of appends, builds, max and min. -/
import Derived.Test.YtbleionbmdpmeaaAbsO
set_option linter.unusedVariables false
set_option linter.unusedSimpArgs false
namespace Go.Abs
section
variable {P : Program} {R : Rets} {n0 k : Nat} {nd : Bool} {t : List AVal} {L : List Slot} {K : AVal → List Slot → Prop} {ty : TypeId} {kd : Kind} {sz : Nat} {ag ok : Bool} {z : List IVal}

/-! ### Ghosts -/
variable {gs : List Gh} {X : Option (List AVal × List Slot)}
theorem gh_nil : ghosts k [] t L = some (t, L) := nr rfl
theorem gh_mask {ks : List Nat} : ghosts k (.mask ks :: gs) t L = ghosts k gs (maskT 0 ks t) L := nr rfl
theorem gh_weak : ghosts k (.weak :: gs) t L = ghosts k gs (wkAs t) L := nr rfl
theorem gh_re {ρ : List (Option Nat)} (h : okRe k ρ = true) : ghosts k (.re ρ :: gs) t L = ghosts k gs (rens (posO ρ) t) (moveS (posO ρ) L ρ) := by
  simp only [ghosts, ghost, h, if_true]
def frzGo (k : Nat) (gs : List Gh) (s : Nat) (sl : Slot) (t : List AVal) (L : List Slot) : Option (List AVal × List Slot) := match sl with
  | .obj e c => ghosts k gs (frzAs s e c t) (frzL s e c (setS L s .dead))
  | _ => none
theorem gh_frz {s : Nat} : ghosts k (.frz s :: gs) t L = frzGo k gs s (getS L s) t L := by
  simp only [ghosts, ghost, frzGo]; cases getS L s <;> rfl
theorem frzGo_obj {s e : Nat} {c : List AVal} : frzGo k gs s (.obj e c) t L = ghosts k gs (frzAs s e c t) (frzL s e c (setS L s .dead)) := nr rfl

theorem mk_nil {i : Nat} {ks : List Nat} : maskT i ks [] = [] := by cases ks <;> rfl
theorem mk_none {i : Nat} {a : AVal} : maskT i [] (a :: t) = .any :: maskT (i + 1) [] t := nr rfl
theorem mk_some {i q : Nat} {ks : List Nat} {a : AVal} : maskT i (q :: ks) (a :: t) = if i = q then a :: maskT (i + 1) ks t else .any :: maskT (i + 1) (q :: ks) t := nr rfl

variable {σ : Nat → Option Nat} {a : AVal} {l : List AVal}
theorem rens_nil' : rens σ [] = [] := by simp [rens]
theorem rens_cons' : rens σ (a :: l) = ren σ a :: rens σ l := by simp [rens]
theorem ren_imm {i : IVal} : ren σ (.imm i) = .imm i := by simp [ren]
theorem ren_agg : ren σ (.agg l) = .agg (rens σ l) := by simp [ren]
theorem ren_tup : ren σ (.tup l) = .tup (rens σ l) := by simp [ren]
theorem ren_iptr {c : List IVal} : ren σ (.iptr c) = .iptr c := by simp [ren]
theorem ren_any : ren σ .any = .any := by simp [ren]
theorem ren_clo {f : Nat} {b : List AVal} : ren σ (.clo f l b) = .clo f (rens σ l) (rens σ b) := by simp [ren]
def ptrO (o : Option Nat) (off : Nat) : AVal := match o with | some s => .ptr s off | none => .any
def refO (o : Option Nat) (off n : Nat) : AVal := match o with | some s => .ref s off n | none => .any
theorem ren_ptr {s off : Nat} : ren σ (.ptr s off) = ptrO (σ s) off := by simp only [ren, ptrO]; cases σ s <;> rfl
theorem ren_ref {s off n : Nat} : ren σ (.ref s off n) = refO (σ s) off n := by simp only [ren, refO]; cases σ s <;> rfl
theorem ptrO_some {s off : Nat} : ptrO (some s) off = .ptr s off := nr rfl
theorem ptrO_none {off : Nat} : ptrO none off = .any := nr rfl
theorem refO_some {s off n : Nat} : refO (some s) off n = .ref s off n := nr rfl
theorem refO_none {off n : Nat} : refO none off n = .any := nr rfl
theorem renS_obj' {e : Nat} : renS σ (.obj e l) = .obj e (rens σ l) := nr rfl
theorem renS_dead : renS σ .dead = .dead := nr rfl
theorem renS_hole : renS σ .hole = .hole := nr rfl
theorem moveS_nil : moveS σ L [] = [] := nr rfl
theorem moveS_some {s : Nat} {ρ : List (Option Nat)} : moveS σ L (some s :: ρ) = renS σ (getS L s) :: moveS σ L ρ := nr rfl
theorem moveS_none {ρ : List (Option Nat)} : moveS σ L (none :: ρ) = .dead :: moveS σ L ρ := nr rfl
def upO : Option Nat → Option Nat
  | some n => some (n + 1)
  | none => none
theorem upO_some {n : Nat} : upO (some n) = some (n + 1) := nr rfl
theorem upO_none : upO none = none := nr rfl
theorem posO_nil {s : Nat} : posO [] s = none := nr rfl
theorem posO_some {a s : Nat} {ρ : List (Option Nat)} : posO (some a :: ρ) s = if a = s then some 0 else upO (posO ρ s) := by
  simp only [posO]; split <;> first | rfl | (cases posO ρ s <;> rfl)
theorem posO_none {s : Nat} {ρ : List (Option Nat)} : posO (none :: ρ) s = upO (posO ρ s) := by
  simp only [posO]; cases posO ρ s <;> rfl
theorem idx_nil {s : Nat} : idx [] s = none := nr rfl
theorem idx_cons {a s : Nat} {l : List Nat} : idx (a :: l) s = if a = s then some 0 else upO (idx l s) := by
  simp only [idx]; split <;> first | rfl | (cases idx l s <;> rfl)
theorem wk_nil : wkAs [] = [] := by simp [wkAs]
theorem wk_cons : wkAs (a :: l) = wkA a :: wkAs l := by simp [wkAs]
theorem wk_int {q : IntKind} {n : Int} : wkA (.imm (.int q n)) = .imm (.int q n) := by simp [wkA]
theorem wk_bool {b : Bool} : wkA (.imm (.bool b)) = .imm (.bool b) := by simp [wkA]
theorem wk_ref {s o n : Nat} : wkA (.ref s o n) = .ref s o n := by simp [wkA]
theorem wk_any : wkA .any = .any := by simp [wkA]
theorem wk_nilL : wkA (.imm (.lst .nil 0 [])) = .imm (.lst .void 0 []) := by simp [wkA]
theorem wk_agg : wkA (.agg l) = .agg (wkAs l) := by simp [wkA]
theorem wk_tup : wkA (.tup l) = .tup (wkAs l) := by simp [wkA]

/-! ### Calls that lend slots -/

theorem lend_nil {ps : List Nat} : lend L ps [] = [] := nr rfl
theorem lend_cons {ps r : List Nat} {p : Nat} : lend L ps (p :: r) = renS (idx ps) (getS L p) :: lend L ps r := nr rfl
theorem give_nil {out : List Slot} : giveBack σ L [] out = L ++ out.map (renS σ) := by cases out <;> rfl
theorem give_cons {p : Nat} {ps : List Nat} {o : Slot} {out : List Slot} : giveBack σ L (p :: ps) (o :: out) = giveBack σ (setS L p (renS σ o)) ps out := nr rfl
theorem outσ_nil {n i : Nat} : outσ [] n i = some (n + i) := by simp [outσ]
theorem outσ_zero {p n : Nat} {ps : List Nat} : outσ (p :: ps) n 0 = some p := by simp [outσ]
theorem outσ_succ {p n i : Nat} {ps : List Nat} : outσ (p :: ps) n (i + 1) = outσ ps n i := by simp [outσ]

theorem call_lend {g : Nat} {as as' : List AVal} {r r' : AVal} {Lin out L' : List Slot} (ps : List Nat) (h : R g as' Lin r out) (h1 : ps.Nodup) (h2 : ∀ p ∈ ps, p < n0 ∧ getS L p ≠ .hole)
    (h3 : rens (idx ps) as = as') (h4 : lend L ps ps = Lin) (h5 : ps.length ≤ out.length) (h6 : ren (outσ ps L.length) r = r') (h7 : giveBack (outσ ps L.length) L ps out = L') (hK : K r' L') : callK R n0 (.clo g [] []) as L K (un _) := by
  refine ⟨ps, false, as, r, out, h1, h2, by simp, ?_, h5, (fun h => by cases h), ?_⟩
  · rw [h3, h4]; exact h
  · rw [h6, h7]; exact hK

/-- The arguments are seen as read only; the result lies in no memory but what is new. -/
theorem call_soft {g : Nat} {as as1 as' : List AVal} {r r' : AVal} {Lin out L' : List Slot} (ps : List Nat) (h : R g as' Lin r out) (h1 : ps.Nodup) (h2 : ∀ p ∈ ps, p < n0 ∧ getS L p ≠ .hole)
    (hv : viewArgs L ps as = some as1) (h3 : rens (idx ps) as1 = as') (h4 : lend L ps ps = Lin) (h5 : ps.length ≤ out.length) (hp : plainA r = true) (hq : plainSs out = true) (h6 : ren (outσ ps L.length) r = r') (h7 : giveBack (outσ ps L.length) L ps out = L') (hK : K r' L') : callK R n0 (.clo g [] []) as L K (un _) := by
  refine ⟨ps, true, as1, r, out, h1, h2, by simpa using hv, ?_, h5, (fun h => ⟨hp, hq⟩), ?_⟩
  · rw [h3, h4]; exact h
  · rw [h6, h7]; exact hK

/-! ### max, min -/

def m2K (f : Int → Int → Int) (a b : AVal) (L : List Slot) (K : AVal → List Slot → Prop) (_ : Un K) : Prop := match a, b with
  | .imm (.int k a), .imm (.int k' b) => k = k' ∧ K (.imm (.int k (f a b))) L
  | _, _ => False
theorem aop_max {x y : Operand} {ts : Array TypeId} : aopW P R n0 nd (.call ⟨.builtin .max, #[x, y], ts⟩) t L K (un _) = m2K max (ev t x) (ev t y) L K (un _) := by
  rw [aop_builtin]
  simp only [wv, mapO, m2K]
  cases ev t x with
  | imm i =>
    cases i with
    | int k a =>
      cases ev t y with
      | imm j =>
        cases j with
        | int k' b =>
          by_cases h : k = k'
          · subst h; simp [optL, foldI]
          · simp [optL, foldI, h]
        | _ => rfl
      | _ => rfl
    | _ => rfl
  | _ => rfl
theorem aop_min {x y : Operand} {ts : Array TypeId} : aopW P R n0 nd (.call ⟨.builtin .min, #[x, y], ts⟩) t L K (un _) = m2K min (ev t x) (ev t y) L K (un _) := by
  rw [aop_builtin]
  simp only [wv, mapO, m2K]
  cases ev t x with
  | imm i =>
    cases i with
    | int k a =>
      cases ev t y with
      | imm j =>
        cases j with
        | int k' b =>
          by_cases h : k = k'
          · subst h; simp [optL, foldI]
          · simp [optL, foldI, h]
        | _ => rfl
      | _ => rfl
    | _ => rfl
  | _ => rfl
theorem m2K_int {f : Int → Int → Int} {k : IntKind} {a b : Int} : m2K f (.imm (.int k a)) (.imm (.int k b)) L K (un _) = K (.imm (.int k (f a b))) L := by simp [m2K]

/-! ### append -/

variable {esz eb m : Nat} {new : List AVal}
def apB (esz eb : Nat) (b : AVal) (m : Nat) (new : List AVal) (L : List Slot) (K : AVal → List Slot → Prop) (_ : Un K) : Prop := match appendA L esz eb b m new with
  | some (q, v, L') => q ∧ K v L'
  | none => False
theorem apB_nil : apB esz eb (.imm (.lst .nil 0 [])) m new L K (un _) = ((m ≤ most ∧ eb ≤ 100 ∧ 0 < esz) ∧ K (.ref L.length 0 m) (L ++ [.obj esz new])) := nr rfl
theorem apB_void : apB esz eb (.imm (.lst .void 0 [])) m new L K (un _) = ((m ≤ most ∧ eb ≤ 100 ∧ 0 < esz) ∧ K (.ref L.length 0 m) (L ++ [.obj esz new])) := nr rfl
def apS (esz eb s p n : Nat) (sl : Slot) (m : Nat) (new : List AVal) (L : List Slot) (K : AVal → List Slot → Prop) (_ : Un K) : Prop := match sl with
  | .obj e d => ((e = esz ∧ p + n * esz = d.length ∧ (d = [] ∨ 0 < n + m)) ∧ (n + m ≤ most ∧ eb ≤ 100 ∧ 0 < esz) ∧ new.all (solid L) = true) ∧ K (.ref L.length 0 (n + m)) (setS L s .dead ++ [.obj esz (d.drop p ++ new)])
  | _ => False
theorem apB_ref {s p n : Nat} : apB esz eb (.ref s p n) m new L K (un _) = apS esz eb s p n (getS L s) m new L K (un _) := by
  simp only [apB, appendA, apS, liveB, eszOf, cellsOf]; cases getS L s <;> simp [and_assoc]
theorem apS_obj {s p n e : Nat} {d : List AVal} : apS esz eb s p n (.obj e d) m new L K (un _) = (((e = esz ∧ p + n * esz = d.length ∧ (d = [] ∨ 0 < n + m)) ∧ (n + m ≤ most ∧ eb ≤ 100 ∧ 0 < esz) ∧ new.all (solid L) = true) ∧ K (.ref L.length 0 (n + m)) (setS L s .dead ++ [.obj esz (d.drop p ++ new)])) := nr rfl

theorem appK_lst {g : Tag} {c : List IVal} {b : AVal} : appK esz eb b (.imm (.lst g m c)) L K (un _) = (m * esz ≤ c.length ∧ apB esz eb b m ((c.take (m * esz)).map .imm) L K (un _)) := by
  simp only [appK, cntA, srcA, apB]
  cases appendA L esz eb b m ((c.take (m * esz)).map .imm) <;> simp
def srS (esz eb : Nat) (b : AVal) (o m : Nat) (sl : Slot) (L : List Slot) (K : AVal → List Slot → Prop) (_ : Un K) : Prop := match sl with
  | .obj e c => o + m * esz ≤ c.length ∧ apB esz eb b m ((c.drop o).take (m * esz)) L K (un _)
  | _ => False
theorem appK_src {s o : Nat} {b : AVal} : appK esz eb b (.ref s o m) L K (un _) = srS esz eb b o m (getS L s) L K (un _) := by
  simp only [appK, cntA, srcA, apB, srS, liveB, cellsOf]
  cases getS L s with
  | obj e c => simp only; generalize appendA L esz eb b m ((c.drop o).take (m * esz)) = q; cases q <;> simp
  | dead => simp only; generalize appendA L esz eb b m _ = q; cases q <;> simp
  | hole => simp only; generalize appendA L esz eb b m _ = q; cases q <;> simp
theorem srS_obj {o e : Nat} {b : AVal} {c : List AVal} : srS esz eb b o m (.obj e c) L K (un _) = (o + m * esz ≤ c.length ∧ apB esz eb b m ((c.drop o).take (m * esz)) L K (un _)) := nr rfl

/-- zeros appended -/
def appN (esz eb : Nat) (ez : List IVal) (b x : AVal) (L : List Slot) (K : AVal → List Slot → Prop) (_ : Un K) : Prop := match x with
  | .imm (.int _ m) => (0 ≤ m ∧ m ≤ most) ∧ apB esz eb b m.toNat ((List.replicate m.toNat (ez.map .imm)).flatten) L K (un _)
  | _ => False
theorem aop_appN {ez : List IVal} {eu : Bool} {tx : TypeId} {b x : Operand} {kk : IntKind} {sz' : Nat} {ag' ok' : Bool} {z' : List IVal} (h : tiOf P ty = ⟨.slice esz eb ez eu, sz, ag, z, ok⟩) (h' : tiOf P tx = ⟨.int kk, sz', ag', z', ok'⟩) :
    aopW P R n0 nd (.call ⟨.builtin .append, #[b, x], #[ty, tx]⟩) t L K (un _) = appN esz eb ez (ev t b) (ev t x) L K (un _) := by
  rw [aop_builtin]
  simp only [wv, h, h', isInt, appN, apB, if_true]
  cases ev t x with
  | imm i =>
    cases i with
    | int k m =>
      simp only
      cases appendA L esz eb (ev t b) m.toNat ((List.replicate m.toNat (ez.map .imm)).flatten) with
      | none => simp [optL]
      | some r => obtain ⟨a1, a2, a3⟩ := r; simp [optL, and_assoc]
    | _ => rfl
  | _ => rfl
theorem appN_int {ez : List IVal} {b : AVal} {k : IntKind} {m : Int} : appN esz eb ez b (.imm (.int k m)) L K (un _) = ((0 ≤ m ∧ m ≤ most) ∧ apB esz eb b m.toNat ((List.replicate m.toNat (ez.map .imm)).flatten) L K (un _)) := nr rfl

/-! ### Builds -/

def fillS (o : Option (Nat × Nat)) (L : List Slot) (place : Nat → Option (Nat × Nat)) (c : List AVal) (v : AVal) (rest : List (Nat × AVal)) : Option (List AVal) := match o with
  | none => none
  | some (off, size) => if v.cells.length = size ∧ off + v.cells.length ≤ c.length ∧ okc L v = true then fillA L place (spl c off v.cells) rest else none
theorem fillA_step {place : Nat → Option (Nat × Nat)} {c : List AVal} {i : Nat} {v : AVal} {rest : List (Nat × AVal)} : fillA L place c ((i, v) :: rest) = fillS (place i) L place c v rest := nr rfl
theorem fillS_some {place : Nat → Option (Nat × Nat)} {c : List AVal} {off size : Nat} {v : AVal} {rest : List (Nat × AVal)} : fillS (some (off, size)) L place c v rest = if v.cells.length = size ∧ off + v.cells.length ≤ c.length ∧ okc L v = true then fillA L place (spl c off v.cells) rest else none := nr rfl
def fillK (o : Option (List AVal)) (L : List Slot) (K : AVal → List Slot → Prop) (_ : Un K) : Prop := match o with
  | some c => K (.agg c) L
  | none => False
theorem fillK_some {c : List AVal} : fillK (some c) L K (un _) = K (.agg c) L := nr rfl
theorem bldK_eq {fs : List (Nat × Nat)} {parts : List (Nat × AVal)} : bldK fs z parts L K (un _) = fillK (fillA L (nthP fs) (z.map .imm) parts) L K (un _) := nr rfl
def bsF (esz len : Nat) (o : Option (List AVal)) (L : List Slot) (K : AVal → List Slot → Prop) (_ : Un K) : Prop := match o with
  | some c => (0 < esz ∧ len * esz ≤ 16777216) ∧ K (.ref L.length 0 len) (L ++ [.obj esz c])
  | none => False
theorem bsK_eq {len : Nat} {ez : List IVal} {parts : List (Nat × AVal)} : bsK esz len ez parts L K (un _) = bsF esz len (fillA L (fun i => some (i * esz, esz)) ((List.replicate len (ez.map .imm)).flatten) parts) L K (un _) := nr rfl
theorem bsF_some {len : Nat} {c : List AVal} : bsF esz len (some c) L K (un _) = ((0 < esz ∧ len * esz ≤ 16777216) ∧ K (.ref L.length 0 len) (L ++ [.obj esz c])) := nr rfl
theorem aop_bs0 {ez : List IVal} {eu : Bool} (h : tiOf P ty = ⟨.slice esz eb ez eu, sz, ag, z, ok⟩) : aopW P R n0 nd (.buildSlice ty 0 #[]) t L K (un _) = K (.imm (.lst .void 0 [])) L := by
  rw [aop_buildSlice]; simp [wv, h, optL]

/-! ### copy -/

def cpS (esz s o n : Nat) (sl : Slot) (x : AVal) (L : List Slot) (K : AVal → List Slot → Prop) (_ : Un K) : Prop := match sl, cntA x with
  | .obj e c, some m => match srcA L esz (min m n) x with
    | some (p, new) => (p ∧ (o + n * esz ≤ c.length ∧ 0 < esz) ∧ new.all (solid L) = true) ∧ K (.imm (.int .i64 (min m n : Nat))) (setS L s (.obj e (spl c o new)))
    | none => False
  | _, _ => False
theorem cpyK_ref {s o n : Nat} {x : AVal} : cpyK esz (.ref s o n) x L K (un _) = cpS esz s o n (getS L s) x L K (un _) := by
  simp only [cpyK, cpS, liveB, cellsOf, eszOf]
  cases hs : getS L s with
  | obj e c =>
    cases cntA x with
    | none => rfl
    | some m => simp only; generalize srcA L esz (min m n) x = q; cases q <;> simp [hs]
  | dead =>
    cases cntA x with
    | none => rfl
    | some m => simp only; generalize srcA L esz (min m n) x = q; cases q <;> simp [hs]
  | hole =>
    cases cntA x with
    | none => rfl
    | some m => simp only; generalize srcA L esz (min m n) x = q; cases q <;> simp [hs]
theorem cpS_lst {s o n e : Nat} {c : List AVal} {g : Tag} {d : List IVal} : cpS esz s o n (.obj e c) (.imm (.lst g m d)) L K (un _) =
    ((min m n * esz ≤ d.length ∧ (o + n * esz ≤ c.length ∧ 0 < esz) ∧ ((d.take (min m n * esz)).map AVal.imm).all (solid L) = true) ∧ K (.imm (.int .i64 (min m n : Nat))) (setS L s (.obj e (spl c o ((d.take (min m n * esz)).map .imm))))) := nr rfl
def cqS (esz s o n e : Nat) (c : List AVal) (o' m : Nat) (sl : Slot) (L : List Slot) (K : AVal → List Slot → Prop) (_ : Un K) : Prop := match sl with
  | .obj e' d => (o' + min m n * esz ≤ d.length ∧ (o + n * esz ≤ c.length ∧ 0 < esz) ∧ ((d.drop o').take (min m n * esz)).all (solid L) = true) ∧ K (.imm (.int .i64 (min m n : Nat))) (setS L s (.obj e (spl c o ((d.drop o').take (min m n * esz)))))
  | _ => False
theorem cpS_ref {s o n e s' o' : Nat} {c : List AVal} : cpS esz s o n (.obj e c) (.ref s' o' m) L K (un _) = cqS esz s o n e c o' m (getS L s') L K (un _) := by
  simp only [cpS, cqS, cntA, srcA, liveB, cellsOf]; cases getS L s' <;> simp
theorem cqS_obj {s o n e o' e' : Nat} {c d : List AVal} : cqS esz s o n e c o' m (.obj e' d) L K (un _) = ((o' + min m n * esz ≤ d.length ∧ (o + n * esz ≤ c.length ∧ 0 < esz) ∧ ((d.drop o').take (min m n * esz)).all (solid L) = true) ∧ K (.imm (.int .i64 (min m n : Nat))) (setS L s (.obj e (spl c o ((d.drop o').take (min m n * esz)))))) := nr rfl

/-! ### A slice against nil -/
theorem bin_nilnil {n : Nat} {c : List IVal} : binK P nd .eql ty (.imm (.lst .nil n c)) (.imm (.lst .nil 0 [])) L K (un _) = (isSliceK (tiOf P ty).kind = true ∧ K (.imm (.bool true)) L) := by simp [binK, bin]
theorem bin_fullnil {n : Nat} {c : List IVal} : binK P nd .eql ty (.imm (.lst .full n c)) (.imm (.lst .nil 0 [])) L K (un _) = (isSliceK (tiOf P ty).kind = true ∧ K (.imm (.bool false)) L) := by simp [binK, bin]
theorem bin_voidnil {n : Nat} {c : List IVal} (h : K (.imm (.bool true)) L) (h' : n = 0) (h2 : K (.imm (.bool false)) L) (hk : isSliceK (tiOf P ty).kind = true) : binK P true .eql ty (.imm (.lst .void n c)) (.imm (.lst .nil 0 [])) L K (un _) := by
  simp only [binK, bin, nilOp]; exact ⟨trivial, hk, fun b _ => by cases b <;> assumption⟩
theorem bin_unknil {n : Nat} {c : List IVal} (h : n = 0 → K (.imm (.bool true)) L) (h2 : K (.imm (.bool false)) L) (hk : isSliceK (tiOf P ty).kind = true) : binK P true .eql ty (.imm (.lst .unk n c)) (.imm (.lst .nil 0 [])) L K (un _) := by
  simp only [binK, bin, nilOp]; exact ⟨trivial, hk, fun b hb => by cases b <;> simp_all⟩

/-! ### Results -/
theorem Fin.of {fn : Func} {n : Nat} {r : AVal} {out : List Slot} (gs gs2 : List Gh) {t' : List AVal} {L' : List Slot} {p : Prop} {vs : List AVal} (h1 : ghosts n gs t L = some (t', L')) (h2 : resA P t' L' fn.results.toList = some (p, vs)) (hp : p)
    (h3 : ghosts n gs2 [oneOr vs] L' = some ([r], out)) : Fin P fn n r out t L := ⟨gs, t', L', p, vs, gs2, h1, h2, hp, h3⟩
theorem resA_nil : resA P t L [] = some (True, []) := nr rfl
def resT (a : AVal) (r : Option (Prop × List AVal)) : Option (Prop × List AVal) := match r with | some (p, vs) => some (p, a :: vs) | none => none
theorem resT_some {p : Prop} {vs : List AVal} : resT a (some (p, vs)) = some (p, a :: vs) := nr rfl
theorem resA_tmp {x : Nat} {r : List ResultVar} : resA P t L (.tmp x :: r) = resT (getT t x) (resA P t L r) := nr rfl
def resC (o : Option (Prop × AVal)) (r : Option (Prop × List AVal)) : Option (Prop × List AVal) := match o, r with | some (p, v), some (q, vs) => some (p ∧ q, v :: vs) | _, _ => none
theorem resC_some {p q : Prop} {v : AVal} {vs : List AVal} : resC (some (p, v)) (some (q, vs)) = some (p ∧ q, v :: vs) := nr rfl
theorem resA_cell {x ty : Nat} {r : List ResultVar} : resA P t L (.cell x ty :: r) = resC (loadA P L ty (getT t x)) (resA P t L r) := nr rfl
def ldO (ti : TI) (sl : Slot) (o : Nat) : Option (Prop × AVal) := match sl with
  | .obj _ c => if ti.agg then some (ti.ok = true ∧ o + ti.sz ≤ c.length, .agg ((c.drop o).take ti.sz)) else some (ti.ok = true ∧ o < c.length, getT c o)
  | _ => if ti.agg then some (False, .agg (([].drop o).take ti.sz)) else some (False, .any)
theorem loadA_ptr {s o : Nat} : loadA P L ty (.ptr s o) = ldO (tiOf P ty) (getS L s) o := by
  simp only [loadA, ldO, liveB, cellsOf]; cases getS L s <;> cases (tiOf P ty).agg <;> simp [getT]
theorem ldO_agg {e n o : Nat} {c : List AVal} : ldO ⟨kd, n, true, z, true⟩ (.obj e c) o = some (True ∧ o + n ≤ c.length, .agg ((c.drop o).take n)) := by simp [ldO]
theorem ldO_one {e n o : Nat} {c : List AVal} : ldO ⟨kd, n, false, z, true⟩ (.obj e c) o = some (True ∧ o < c.length, getT c o) := by simp [ldO]
theorem oneOr_one : oneOr [a] = a := nr rfl
theorem oneOr_two {b : AVal} : oneOr (a :: b :: l) = .tup (a :: b :: l) := nr rfl
theorem oneOr_nil : oneOr [] = .tup [] := nr rfl

def vwS (sl : Slot) (s o n : Nat) : Option AVal := match sl with | .obj e c => viewC e c o n | _ => none
theorem view_ref {s o n : Nat} : view L (.ref s o n) = vwS (getS L s) s o n := by simp only [view, vwS]; cases getS L s <;> rfl
theorem vwS_obj {s o n e : Nat} {c : List AVal} : vwS (.obj e c) s o n = viewC e c o n := nr rfl
variable {ps : List Nat}
theorem va_nil : viewArgs L ps [] = some [] := nr rfl
def consO (a : Option AVal) (r : Option (List AVal)) : Option (List AVal) := match a, r with | some x, some l => some (x :: l) | _, _ => none
theorem consO_some {l : List AVal} : consO (some a) (some l) = some (a :: l) := nr rfl
theorem va_cons {l : List AVal} : viewArgs L ps (a :: l) = consO (viewArg L ps a) (viewArgs L ps l) := nr rfl
theorem va_imm {i : IVal} : viewArg L ps (.imm i) = some (.imm i) := nr rfl
theorem va_ptr {s o : Nat} : viewArg L ps (.ptr s o) = some (.ptr s o) := nr rfl
theorem va_ref {s o n : Nat} : viewArg L ps (.ref s o n) = if (idx ps s).isSome = true then some (.ref s o n) else vwS (getS L s) s o n := by
  simp only [viewArg, view_ref]
theorem va_agg {l : List AVal} : viewArg L ps (.agg l) = (viewL L ps l).map .agg := nr rfl
theorem vl_nil : viewL L ps [] = some [] := nr rfl
theorem vl_imm {i : IVal} {l : List AVal} : viewL L ps (.imm i :: l) = consO (some (.imm i)) (viewL L ps l) := by simp only [viewL, consO]; cases viewL L ps l <;> rfl
theorem vl_ptr {s o : Nat} {l : List AVal} : viewL L ps (.ptr s o :: l) = consO (some (.ptr s o)) (viewL L ps l) := by simp only [viewL, consO]; cases viewL L ps l <;> rfl
theorem vl_ref {s o n : Nat} {l : List AVal} : viewL L ps (.ref s o n :: l) = consO (if (idx ps s).isSome = true then some (.ref s o n) else vwS (getS L s) s o n) (viewL L ps l) := by
  simp only [viewL, consO, view_ref]
  split <;> split <;> simp_all

theorem frzAs_nil' {s e : Nat} {c : List AVal} : frzAs s e c [] = [] := by simp [frzAs]
theorem frzAs_cons' {s e : Nat} {c : List AVal} : frzAs s e c (a :: l) = frzA s e c a :: frzAs s e c l := by simp [frzAs]
theorem frzA_imm {s e : Nat} {c : List AVal} {i : IVal} : frzA s e c (.imm i) = .imm i := by simp [frzA]
theorem frzA_any {s e : Nat} {c : List AVal} : frzA s e c .any = .any := by simp [frzA]
theorem frzA_ptr {s e s' o : Nat} {c : List AVal} : frzA s e c (.ptr s' o) = .ptr s' o := by simp [frzA]
theorem frzA_iptr {s e : Nat} {c : List AVal} {d : List IVal} : frzA s e c (.iptr d) = .iptr d := by simp [frzA]
theorem frzA_agg {s e : Nat} {c : List AVal} : frzA s e c (.agg l) = .agg (frzAs s e c l) := by simp [frzA]
theorem frzA_tup {s e : Nat} {c : List AVal} : frzA s e c (.tup l) = .tup (frzAs s e c l) := by simp [frzA]
def orAny (o : Option AVal) : AVal := match o with | some a => a | none => .any
theorem orAny_some : orAny (some a) = a := nr rfl
theorem frzA_ref {s e s' o n : Nat} {c : List AVal} : frzA s e c (.ref s' o n) = if s' = s then orAny (viewC e c o n) else .ref s' o n := by
  simp only [frzA, orAny]; split <;> rfl
theorem frzL_nil {s e : Nat} {c : List AVal} : frzL s e c [] = [] := nr rfl
theorem frzL_cons {s e : Nat} {c : List AVal} {x : Slot} : frzL s e c (x :: L) = frzS s e c x :: frzL s e c L := nr rfl
theorem frzS_obj {s e e' : Nat} {c d : List AVal} : frzS s e c (.obj e' d) = .obj e' (frzAs s e c d) := nr rfl
theorem frzS_dead {s e : Nat} {c : List AVal} : frzS s e c .dead = .dead := nr rfl
end
attribute [go_sem] gh_nil gh_mask gh_weak gh_frz frzGo_obj mk_nil mk_none mk_some rens_nil' rens_cons' ren_imm ren_agg ren_tup ren_iptr ren_any ren_clo ren_ptr ren_ref ptrO_some ptrO_none refO_some refO_none renS_obj' renS_dead renS_hole moveS_nil moveS_some moveS_none upO_some upO_none posO_nil posO_some posO_none idx_nil idx_cons
  wk_nil wk_cons wk_int wk_bool wk_ref wk_any wk_nilL wk_agg wk_tup lend_nil lend_cons give_nil give_cons outσ_nil outσ_zero outσ_succ aop_max aop_min m2K_int apB_nil apB_void apB_ref apS_obj appK_lst appK_src srS_obj appN_int fillA_step fillS_some fillK_some bldK_eq bsK_eq bsF_some cpyK_ref cpS_lst cpS_ref cqS_obj bin_nilnil bin_fullnil
  resA_nil resT_some resA_tmp resC_some resA_cell loadA_ptr ldO_agg ldO_one oneOr_one oneOr_two oneOr_nil view_ref vwS_obj va_nil consO_some va_cons va_imm va_ptr va_ref va_agg vl_nil vl_imm vl_ptr vl_ref
  frzAs_nil' frzAs_cons' frzA_imm frzA_any frzA_ptr frzA_iptr frzA_agg frzA_tup orAny_some frzA_ref frzL_nil frzL_cons frzS_obj frzS_dead Option.map_some Option.map_none Option.isSome_some Option.isSome_none Nat.zero_add Nat.add_zero Nat.mul_one and_true
end Go.Abs
