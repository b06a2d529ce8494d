/- Evaluation: equations by which 'simp only' steps through the abstract semantics. None of them is definitional to 'simp': so the kernel need not unfold. -/
import Derived.Test.YtbleionbmdpmeaaAbsM
set_option linter.unusedVariables false
set_option linter.unusedSimpArgs false
namespace Go.Abs

theorem nr {α : Sort _} {a b : α} (h : a = b) : a = b := h

/-- What 'simp' does not go into: the type of a later argument hangs on it. -/
def Un {α : Type} (_ : α) : Type := Unit
def un {α : Type} (x : α) : Un x := ()

def awpW (E : Env) (c : Code) (t : List AVal) (L : List Slot) (Q : AExit → List AVal → List Slot → Prop) (_ : Un (c, Q)) : Prop := awp E c t L Q
def aopsW (P : Program) (R : Rets) (all rest : List Oper) (t : List AVal) (L : List Slot) (K : List AVal → List Slot → Prop) (_ : Un (all, rest, K)) : Prop := aops P R all rest t L K
def aopsDW (P : Program) (R : Rets) (n0 : Nat) (all : List Oper) (ws : List Nat) (i : Nat) (rest : List Oper) (t : List AVal) (L : List Slot) (K : List AVal → List Slot → Prop) (_ : Un (all, rest, K)) : Prop := aopsD P R n0 all ⟨ws, [], []⟩ i rest t L K
def aopsQW (P : Program) (R : Rets) (n0 : Nat) (all : List Oper) (ws : WK) (i : Nat) (rest : List Oper) (t : List AVal) (L : List Slot) (K : List AVal → List Slot → Prop) (_ : Un (all, rest, K)) : Prop := aopsD P R n0 all ws i rest t L K
def aopW (P : Program) (R : Rets) (n0 : Nat) (nd : Bool) (o : Op) (t : List AVal) (L : List Slot) (K : AVal → List Slot → Prop) (_ : Un (o, K)) : Prop := aop P R n0 nd o t L K

section
variable {P : Program} {R : Rets} {n0 k : Nat} {nd : Bool} {t : List AVal} {L : List Slot} {K : AVal → List Slot → Prop}

/-- A case split. -/
def Br (p : Prop) (A B : Prop) (_ : Un (A, B)) : Prop := (p → A) ∧ (¬ p → B)
theorem Br.intro {p A B : Prop} (h : p → A) (h' : ¬ p → B) : Br p A B (un _) := ⟨h, h'⟩
theorem Br_true {A B : Prop} : Br True A B (un _) = A := propext ⟨fun h => h.1 trivial, fun h => ⟨fun _ => h, fun h' => (h' trivial).elim⟩⟩
theorem Br_false {A B : Prop} : Br False A B (un _) = B := propext ⟨fun h => h.2 id, fun h => ⟨fun h' => h'.elim, fun _ => h⟩⟩
theorem Br_not {p A B : Prop} : Br (¬ p) A B (un _) = Br p B A (un _) := propext ⟨fun h => ⟨fun hp => h.2 (fun h' => h' hp), fun hp => h.1 hp⟩, fun h => ⟨fun hp => h.2 hp, fun hp => h.1 (Classical.byContradiction hp)⟩⟩

/-! ### Code -/

theorem awp_seq {a b : Code} {Q : AExit → List AVal → List Slot → Prop} : awpW ⟨P, R, k⟩ (.seq a b) t L Q (un _) = awpW ⟨P, R, k⟩ a t L (fun e t L => match e with | .normal => awpW ⟨P, R, k⟩ b t L Q (un _) | e => Q e t L) (un _) := nr rfl
theorem awp_skip {Q : AExit → List AVal → List Slot → Prop} : awpW ⟨P, R, k⟩ .skip t L Q (un _) = Q .normal t L := nr rfl
theorem awp_label {l : Nat} {Q : AExit → List AVal → List Slot → Prop} : awpW ⟨P, R, k⟩ (.label l) t L Q (un _) = Q .normal t L := nr rfl
theorem awp_ret {Q : AExit → List AVal → List Slot → Prop} : awpW ⟨P, R, k⟩ .ret t L Q (un _) = Q .ret t L := nr rfl
theorem awp_exit {id : Nat} {Q : AExit → List AVal → List Slot → Prop} : awpW ⟨P, R, k⟩ (.exit id) t L Q (un _) = Q (.exit id) t L := nr rfl
theorem awp_block {id : Nat} {b : Code} {Q : AExit → List AVal → List Slot → Prop} :
    awpW ⟨P, R, k⟩ (.block id b) t L Q (un _) = awpW ⟨P, R, k⟩ b t L (fun e t L => match e with | .exit j => if j = id then Q .normal t L else Q (.exit j) t L | e => Q e t L) (un _) := nr rfl
theorem awp_region {id : Nat} {l : List Oper} {Q : AExit → List AVal → List Slot → Prop} : awpW ⟨P, R, k⟩ (.region id l.toArray false) t L Q (un _) = aopsW P R l l t L (fun t L => Q .normal t L) (un _) := by
  simp only [awp, awpW]; rfl

def condK (c : AVal) (A B : Prop) (_ : Un (A, B)) : Prop := match c with | .imm (.bool x) => (x = true → A) ∧ (x = false → B) | _ => False
theorem awp_cond {c : Operand} {a b : Code} {Q : AExit → List AVal → List Slot → Prop} : awpW ⟨P, R, k⟩ (.cond c a b) t L Q (un _) = condK (ev t c) (awpW ⟨P, R, k⟩ a t L Q (un _)) (awpW ⟨P, R, k⟩ b t L Q (un _)) (un _) := nr rfl
theorem condK_true {A B : Prop} : condK (.imm (.bool true)) A B (un _) = A := propext ⟨fun h => h.1 rfl, fun h => ⟨fun _ => h, fun h => by cases h⟩⟩
theorem condK_false {A B : Prop} : condK (.imm (.bool false)) A B (un _) = B := propext ⟨fun h => h.2 rfl, fun h => ⟨fun h' => (by cases h'), fun _ => h⟩⟩
theorem condK_dec {p A B : Prop} [Decidable p] : condK (.imm (.bool (decide p))) A B (un _) = Br p A B (un _) := propext ⟨fun h => ⟨fun hp => h.1 (by simp [hp]), fun hp => h.2 (by simp [hp])⟩, fun h => ⟨fun hp => h.1 (by simpa using hp), fun hp => h.2 (by simpa using hp)⟩⟩
theorem condK_not {b : Bool} {A B : Prop} : condK (.imm (.bool (!b))) A B (un _) = condK (.imm (.bool b)) B A (un _) := by
  cases b <;> simp [condK]
theorem condK_bool {b : Bool} {A B : Prop} : condK (.imm (.bool b)) A B (un _) = Br (b = true) A B (un _) := propext ⟨fun h => ⟨h.1, fun hb => h.2 (by simpa using hb)⟩, fun h => ⟨h.1, fun hb => h.2 (by simp [hb])⟩⟩

/-- A loop. -/
theorem awp_loop {b : Code} {Q : AExit → List AVal → List Slot → Prop} (I : Nat → List AVal → List Slot → Prop) (n : Nat) (gs : List Gh) (t' : List AVal) (L' : List Slot) (hg : ghosts k gs t L = some (t', L')) (h0 : I n t' L')
    (round : ∀ n t L, I n t L → awp ⟨P, R, k⟩ b t L (fun e t L => match e with
        | .normal => ∃ (m : Nat) (gs : List Gh) (t' : List AVal) (L' : List Slot), ghosts k gs t L = some (t', L') ∧ I m t' L' ∧ m < n
        | e => Q e t L)) : awpW ⟨P, R, k⟩ (.loop b) t L Q (un _) := ⟨I, n, gs, t', L', hg, h0, round⟩

/-- A region whose order is drawn. -/
theorem awp_draw (ws : List Nat) {id : Nat} {l : List Oper} {Q : AExit → List AVal → List Slot → Prop} (h1 : drawOk l ⟨ws, [], []⟩ = true) (h2 : afterOk l = true) (h3 : aopsDW P R L.length l ws 0 l t L (fun t L => Q .normal t L) (un _)) :
    awpW ⟨P, R, k⟩ (.region id l.toArray true) t L Q (un _) := by
  simp only [awp, awpW, if_true]; exact ⟨⟨ws, [], []⟩, h1, h2, (fun s hs => by cases hs), h3⟩
theorem awp_drawQ (ws : WK) {id : Nat} {l : List Oper} {Q : AExit → List AVal → List Slot → Prop} (h1 : drawOk l ws = true) (h2 : afterOk l = true) (hF : ∀ s ∈ ws.F, s < L.length) (h3 : aopsQW P R L.length l ws 0 l t L (fun t L => Q .normal t L) (un _)) :
    awpW ⟨P, R, k⟩ (.region id l.toArray true) t L Q (un _) := by
  simp only [awp, awpW, if_true]; exact ⟨ws, h1, h2, hF, h3⟩

/-! ### Regions -/

theorem aops_nil {all : List Oper} {K : List AVal → List Slot → Prop} : aopsW P R all [] t L K (un _) = K t L := nr rfl
theorem aops_none {all rest : List Oper} {dst : Option Nat} {op : Op} {ty : TypeId} {pos : String} {after : Array Edge} {K : List AVal → List Slot → Prop} :
    aopsW P R all (⟨dst, op, ty, pos, after, none⟩ :: rest) t L K (un _) = aopW P R L.length true op t L (fun v L' => aopsW P R all rest (putD t dst v) L' K (un _)) (un _) := nr rfl
def wantK (c : AVal) (want : Bool) (yes no : Prop) (_ : Un (yes, no)) : Prop := match c with
  | .imm (.bool b) => (b = want → yes) ∧ (b = (!want) → no)
  | .tup [] => no
  | _ => False
def gdst (all : List Oper) (g : Nat) : Option Nat := (nthO all g).bind (·.dst)
def wantG (d : Option Nat) (t : List AVal) (want : Bool) (yes no : Prop) (_ : Un (yes, no)) : Prop := match d with
  | some d => wantK (getT t d) want yes no (un _)
  | none => no
theorem wantG_some {d : Nat} {w : Bool} {A B : Prop} : wantG (some d) t w A B (un _) = wantK (getT t d) w A B (un _) := nr rfl
theorem wantG_none {w : Bool} {A B : Prop} : wantG none t w A B (un _) = B := nr rfl
theorem wants_eq {all : List Oper} {g : Nat} {w : Bool} {A B : Prop} : wants all t (g, w) A B = wantG (gdst all g) t w A B (un _) := by
  unfold wants wantG gdst wantK; rfl
theorem gdst_zero {o : Oper} {l : List Oper} : gdst (o :: l) 0 = o.dst := nr rfl
theorem gdst_succ {o : Oper} {l : List Oper} {n : Nat} : gdst (o :: l) (n + 1) = gdst l n := nr rfl
theorem oper_dst {dst : Option Nat} {op : Op} {ty : TypeId} {pos : String} {after : Array Edge} {g : Option (Nat × Bool)} : (Oper.mk dst op ty pos after g).dst = dst := nr rfl
theorem wantK_tt {A B : Prop} : wantK (.imm (.bool true)) true A B (un _) = A := propext ⟨fun h => h.1 rfl, fun h => ⟨fun _ => h, fun h => by cases h⟩⟩
theorem wantK_ff {A B : Prop} : wantK (.imm (.bool false)) false A B (un _) = A := propext ⟨fun h => h.1 rfl, fun h => ⟨fun _ => h, fun h => by cases h⟩⟩
theorem wantK_tf {A B : Prop} : wantK (.imm (.bool true)) false A B (un _) = B := propext ⟨fun h => h.2 rfl, fun h => ⟨fun h' => (by cases h'), fun _ => h⟩⟩
theorem wantK_ft {A B : Prop} : wantK (.imm (.bool false)) true A B (un _) = B := propext ⟨fun h => h.2 rfl, fun h => ⟨fun h' => (by cases h'), fun _ => h⟩⟩
theorem wantK_und {w : Bool} {A B : Prop} : wantK und w A B (un _) = B := nr rfl
theorem wantK_dt {p A B : Prop} [Decidable p] : wantK (.imm (.bool (decide p))) true A B (un _) = Br p A B (un _) := condK_dec
theorem wantK_df {p A B : Prop} [Decidable p] : wantK (.imm (.bool (decide p))) false A B (un _) = Br p B A (un _) := propext ⟨fun h => ⟨fun hp => h.2 (by simp [hp]), fun hp => h.1 (by simp [hp])⟩, fun h => ⟨fun hp => h.2 (by simpa using hp), fun hp => h.1 (by simpa using hp)⟩⟩
theorem wantK_not {b w : Bool} {A B : Prop} : wantK (.imm (.bool (!b))) w A B (un _) = wantK (.imm (.bool b)) (!w) A B (un _) := by cases b <;> cases w <;> simp [wantK]
theorem wantK_bt {b : Bool} {A B : Prop} : wantK (.imm (.bool b)) true A B (un _) = Br (b = true) A B (un _) := condK_bool
theorem wantK_bf {b : Bool} {A B : Prop} : wantK (.imm (.bool b)) false A B (un _) = Br (b = true) B A (un _) := propext ⟨fun h => ⟨h.2, fun hb => h.1 (by simpa using hb)⟩, fun h => ⟨fun hb => h.2 (by simp [hb]), fun hb => h.1 hb⟩⟩
theorem aops_some {all rest : List Oper} {dst : Option Nat} {op : Op} {ty : TypeId} {pos : String} {after : Array Edge} {g : Nat} {w : Bool} {K : List AVal → List Slot → Prop} :
    aopsW P R all (⟨dst, op, ty, pos, after, some (g, w)⟩ :: rest) t L K (un _) =
    wantG (gdst all g) t w (aopW P R L.length true op t L (fun v L' => aopsW P R all rest (putD t dst v) L' K (un _)) (un _)) (aopsW P R all rest (putD t dst und) L K (un _)) (un _) := by rw [← wants_eq]; rfl

/-- behind a slot list, more -/
def ext (L L' : List Slot) : Prop := L' = L ++ L'.drop L.length
theorem ext_self {L : List Slot} : ext L L = True := by simp [ext]
theorem ext_app {L X : List Slot} : ext L (L ++ X) = True := by simp [ext]
theorem ext_nil {L : List Slot} : ext [] L = True := by simp [ext]
theorem ext_cons {s : Slot} {L X : List Slot} : ext (s :: L) (s :: X) = ext L X := by simp [ext]
theorem aopsD_nil {i : Nat} {all : List Oper} {ws : List Nat} {K : List AVal → List Slot → Prop} : aopsDW P R n0 all ws i [] t L K (un _) = K t L := nr rfl
theorem aopsD_none {i : Nat} {all rest : List Oper} {ws : List Nat} {dst : Option Nat} {op : Op} {ty : TypeId} {pos : String} {after : Array Edge} {K : List AVal → List Slot → Prop} :
    aopsDW P R n0 all ws i (⟨dst, op, ty, pos, after, none⟩ :: rest) t L K (un _) = aopW P R n0 false op t L (fun v L' => (ws.contains i = true ∨ ext L L') ∧ aopsDW P R n0 all ws (i + 1) rest (putD t dst v) L' K (un _)) (un _) := by
  unfold aopsDW aopsD aopW
  simp only [WK.contains, keeps, ext, List.contains_nil, Bool.false_eq_true, false_implies, and_true]
theorem aopsD_some {i : Nat} {all rest : List Oper} {ws : List Nat} {dst : Option Nat} {op : Op} {ty : TypeId} {pos : String} {after : Array Edge} {g : Nat} {w : Bool} {K : List AVal → List Slot → Prop} :
    aopsDW P R n0 all ws i (⟨dst, op, ty, pos, after, some (g, w)⟩ :: rest) t L K (un _) =
    wantG (gdst all g) t w (aopW P R n0 false op t L (fun v L' => (ws.contains i = true ∨ ext L L') ∧ aopsDW P R n0 all ws (i + 1) rest (putD t dst v) L' K (un _)) (un _)) (aopsDW P R n0 all ws (i + 1) rest (putD t dst und) L K (un _)) (un _) := by
  rw [← wants_eq]
  have := aopsD_none (P := P) (R := R) (n0 := n0) (t := t) (L := L) (i := i) (all := all) (rest := rest) (ws := ws) (dst := dst) (op := op) (ty := ty) (pos := pos) (after := after) (K := K)
  rw [← this]; rfl
def qok (b : Bool) (F : List Nat) (op : Op) (t : List AVal) : Prop := b = true → quiet F (ev t) op
theorem qok_false {F : List Nat} {op : Op} : qok false F op t = True := by simp [qok]
def qokA (F : List Nat) (a : AVal) : Prop := match a with | .ptr s _ => F.contains s = true | .iptr _ => True | _ => False
def qokI (F : List Nat) (a : AVal) : Prop := match a with | .ref s _ _ => F.contains s = true | .imm (.lst _ _ _) => True | _ => False
theorem qok_load {F : List Nat} {ty : TypeId} {x : Operand} : qok true F (.load ty x) t = qokA F (ev t x) := by
  simp only [qok, quiet, qokA, true_implies]; cases ev t x <;> rfl
theorem qok_index {F : List Nat} {ty : TypeId} {x i : Operand} : qok true F (.indexAddr ty x i) t = qokI F (ev t x) := by
  simp only [qok, quiet, qokI, true_implies]
  cases ev t x with
  | imm y => cases y <;> rfl
  | _ => rfl
theorem qokA_iptr {F : List Nat} {c : List IVal} : qokA F (.iptr c) = True := nr rfl
theorem qokI_ref {F : List Nat} {s o n : Nat} : qokI F (.ref s o n) = (F.contains s = true) := nr rfl
theorem qokI_lst {F : List Nat} {g : Tag} {n : Nat} {c : List IVal} : qokI F (.imm (.lst g n c)) = True := nr rfl
theorem qokA_ptr {F : List Nat} {s o : Nat} : qokA F (.ptr s o) = (F.contains s = true) := nr rfl
theorem keeps_nil {L' : List Slot} : keeps L L' [] = True := nr rfl
theorem keeps_cons {L' : List Slot} {s : Nat} {F : List Nat} : keeps L L' (s :: F) = (getS L' s = getS L s ∧ keeps L L' F) := nr rfl
theorem aopsQ_nil {i : Nat} {all : List Oper} {ws : WK} {K : List AVal → List Slot → Prop} : aopsQW P R n0 all ws i [] t L K (un _) = K t L := nr rfl
theorem aopsQ_none {i : Nat} {all rest : List Oper} {ws qs F : List Nat} {dst : Option Nat} {op : Op} {ty : TypeId} {pos : String} {after : Array Edge} {K : List AVal → List Slot → Prop} :
    aopsQW P R n0 all ⟨ws, qs, F⟩ i (⟨dst, op, ty, pos, after, none⟩ :: rest) t L K (un _) = aopW P R n0 false op t L (fun v L' => ((ws.contains i = true ∧ keeps L L' F ∨ ext L L') ∧ qok (qs.contains i) F op t) ∧ aopsQW P R n0 all ⟨ws, qs, F⟩ (i + 1) rest (putD t dst v) L' K (un _)) (un _) := nr rfl
theorem aopsQ_some {i : Nat} {all rest : List Oper} {ws qs F : List Nat} {dst : Option Nat} {op : Op} {ty : TypeId} {pos : String} {after : Array Edge} {g : Nat} {w : Bool} {K : List AVal → List Slot → Prop} :
    aopsQW P R n0 all ⟨ws, qs, F⟩ i (⟨dst, op, ty, pos, after, some (g, w)⟩ :: rest) t L K (un _) =
    wantG (gdst all g) t w (aopW P R n0 false op t L (fun v L' => ((ws.contains i = true ∧ keeps L L' F ∨ ext L L') ∧ qok (qs.contains i) F op t) ∧ aopsQW P R n0 all ⟨ws, qs, F⟩ (i + 1) rest (putD t dst v) L' K (un _)) (un _)) (aopsQW P R n0 all ⟨ws, qs, F⟩ (i + 1) rest (putD t dst und) L K (un _)) (un _) := by
  rw [← wants_eq]; rfl

/-! ### Lists -/

theorem getT_zero {a : AVal} {l : List AVal} : getT (a :: l) 0 = a := nr rfl
theorem getT_succ {a : AVal} {l : List AVal} {n : Nat} : getT (a :: l) (n + 1) = getT l n := nr rfl
theorem putT_zero {a v : AVal} {l : List AVal} : putT (a :: l) 0 v = v :: l := nr rfl
theorem putT_succ {a v : AVal} {l : List AVal} {n : Nat} : putT (a :: l) (n + 1) v = a :: putT l n v := nr rfl
theorem putD_some {n : Nat} {v : AVal} : putD t (some n) v = putT t n v := nr rfl
theorem putD_none {v : AVal} : putD t none v = t := nr rfl
theorem getS_zero {a : Slot} {l : List Slot} : getS (a :: l) 0 = a := nr rfl
theorem getS_succ {a : Slot} {l : List Slot} {n : Nat} : getS (a :: l) (n + 1) = getS l n := nr rfl
theorem setS_zero {a v : Slot} {l : List Slot} : setS (a :: l) 0 v = v :: l := nr rfl
theorem setS_succ {a v : Slot} {l : List Slot} {n : Nat} : setS (a :: l) (n + 1) v = a :: setS l n v := nr rfl
theorem nthP_zero {a : Nat × Nat} {l : List (Nat × Nat)} : nthP (a :: l) 0 = some a := nr rfl
theorem nthP_succ {a : Nat × Nat} {l : List (Nat × Nat)} {n : Nat} : nthP (a :: l) (n + 1) = nthP l n := nr rfl
theorem spl_nil {c : List AVal} {o : Nat} : spl c o [] = c := nr rfl
theorem spl_cons {c : List AVal} {o : Nat} {v : AVal} {vs : List AVal} : spl c o (v :: vs) = spl (putT c o v) (o + 1) vs := nr rfl
theorem mapO_nil {f : Operand → AVal} : mapO f [] = [] := nr rfl
theorem mapO_cons {f : Operand → AVal} {x : Operand} {l : List Operand} : mapO f (x :: l) = f x :: mapO f l := nr rfl
theorem mapP_nil {f : Operand → AVal} : mapP f [] = [] := nr rfl
theorem mapP_cons {f : Operand → AVal} {i : Nat} {x : Operand} {l : List (Nat × Operand)} : mapP f ((i, x) :: l) = (i, f x) :: mapP f l := nr rfl

theorem ev_tmp {i : Nat} : ev t (.tmp i) = getT t i := nr rfl
theorem ev_int {k : IntKind} {n : Int} : ev t (.const (.int k n)) = .imm (.int k n) := nr rfl
theorem ev_bool {b : Bool} : ev t (.const (.bool b)) = .imm (.bool b) := nr rfl
theorem ev_nil : ev t (.const (.slice none 0 0)) = .imm (.lst .nil 0 []) := nr rfl
theorem ev_str {s : ByteArray} : ev t (.const (.string s)) = .imm (.str s.data.toList) := nr rfl
theorem ev_func {f : Nat} : ev t (.func f) = .clo f [] [] := nr rfl

/-! ### Operations -/

theorem aop_move {x : Operand} : aopW P R n0 nd (.move x) t L K (un _) = K (ev t x) L := by simp only [aop, aopW, rv, true_and]
theorem aop_assign {x : Operand} : aopW P R n0 nd (.assign x) t L K (un _) = K (ev t x) L := by simp only [aop, aopW, rv, true_and]

def pickK (c a b : AVal) (L : List Slot) (K : AVal → List Slot → Prop) (_ : Un K) : Prop := match c with | .imm (.bool t) => K (if t = true then a else b) L | _ => False
theorem aop_pick {c a b : Operand} : aopW P R n0 nd (.pick c a b) t L K (un _) = pickK (ev t c) (ev t a) (ev t b) L K (un _) := by
  simp only [aop, aopW, rv, pickK]
  cases ev t c with
  | imm i => cases i <;> simp [wv]
  | _ => simp [wv]
theorem pickK_true {a b : AVal} : pickK (.imm (.bool true)) a b L K (un _) = K a L := nr rfl
theorem pickK_false {a b : AVal} : pickK (.imm (.bool false)) a b L K (un _) = K b L := nr rfl
theorem pickK_same {c : Bool} {a : AVal} : pickK (.imm (.bool c)) a a L K (un _) = K a L := by cases c <;> rfl
theorem pickK_dec {p : Prop} [Decidable p] {a b : AVal} : pickK (.imm (.bool (decide p))) a b L K (un _) = Br p (K a L) (K b L) (un _) := by
  by_cases h : p <;> simp [h, pickK, Br]
theorem pickK_bool {c : Bool} {a b : AVal} : pickK (.imm (.bool c)) a b L K (un _) = Br (c = true) (K a L) (K b L) (un _) := by cases c <;> simp [pickK, Br]

def isObj : Slot → Bool
  | .obj _ _ => true
  | _ => false
theorem liveB_eq {s : Nat} : liveB L s = isObj (getS L s) := by unfold liveB isObj; cases getS L s <;> rfl
theorem isObj_obj {e : Nat} {c : List AVal} : isObj (.obj e c) = true := nr rfl
theorem cellsOf_eq {s e : Nat} {c : List AVal} (h : getS L s = .obj e c) : cellsOf L s = c := by simp [cellsOf, h]
theorem eszOf_eq {s e : Nat} {c : List AVal} (h : getS L s = .obj e c) : eszOf L s = e := by simp [eszOf, h]

def nilK (a : AVal) (L : List Slot) (K : AVal → List Slot → Prop) (_ : Un K) : Prop := match a with
  | .ptr s o => K (.ptr s o) L
  | .iptr c => K (.iptr c) L
  | .clo f x y => K (.clo f x y) L
  | _ => False
theorem aop_nilCheck {x : Operand} : aopW P R n0 nd (.nilCheck x) t L K (un _) = nilK (ev t x) L K (un _) := by
  simp only [aop, aopW, rv, nilK]
  cases ev t x <;> simp [wv]
theorem nilK_ptr {s o : Nat} : nilK (.ptr s o) L K (un _) = K (.ptr s o) L := nr rfl
theorem nilK_iptr {c : List IVal} : nilK (.iptr c) L K (un _) = K (.iptr c) L := nr rfl

def optK (o : Option (Prop × AVal)) (L : List Slot) (K : AVal → List Slot → Prop) (_ : Un K) : Prop := match o with | some (p, v) => p ∧ K v L | none => False
theorem optK_some {p : Prop} {v : AVal} : optK (some (p, v)) L K (un _) = (p ∧ K v L) := nr rfl

def optL (o : Option (Prop × AVal × List Slot)) (K : AVal → List Slot → Prop) (_ : Un K) : Prop := match o with | some (p, v, L') => p ∧ K v L' | none => False
theorem optL_some {p : Prop} {v : AVal} {L' : List Slot} : optL (some (p, v, L')) K (un _) = (p ∧ K v L') := nr rfl

theorem aop_field {ty : TypeId} {x : Operand} {f : Nat} : aopW P R n0 nd (.fieldAddr ty x f) t L K (un _) = optK (fieldA P L ty (ev t x) f) L K (un _) := by
  simp only [aop, aopW, rv, optK]; split <;> simp_all [wv]
theorem aop_index {ty : TypeId} {x i : Operand} : aopW P R n0 nd (.indexAddr ty x i) t L K (un _) = optK (indexA P L ty (ev t x) (ev t i)) L K (un _) := by
  simp only [aop, aopW, rv, optK]; split <;> simp_all [wv]
theorem aop_load {ty : TypeId} {x : Operand} : aopW P R n0 nd (.load ty x) t L K (un _) = optK (loadA P L ty (ev t x)) L K (un _) := by
  simp only [aop, aopW, rv, optK]; split <;> simp_all [wv]
theorem aop_convert {s d : TypeId} {x : Operand} : aopW P R n0 nd (.convert s d x) t L K (un _) = optK (convA P s d (ev t x) L) L K (un _) := by
  simp only [aop, aopW, rv, optK]; split <;> simp_all [wv]
theorem aop_build {ty : TypeId} {parts : List (Nat × Operand)} : aopW P R n0 nd (.build ty parts.toArray) t L K (un _) = optK (buildA P L ty (mapP (ev t) parts)) L K (un _) := by
  simp only [aop, aopW, rv, optK]; split <;> simp_all [wv]
theorem aop_slice {ty : TypeId} {x : Operand} {lo hi mx : Option Operand} : aopW P R n0 nd (.slice ty x lo hi mx) t L K (un _) = optK (sliceA P L ty (ev t x) (lo.map (ev t)) (hi.map (ev t)) (mx.map (ev t))) L K (un _) := by
  simp only [aop, aopW, rv, optK]; split <;> simp_all [wv]
def extrK (a : AVal) (i : Nat) (L : List Slot) (K : AVal → List Slot → Prop) (_ : Un K) : Prop := match a with | .tup l => i < l.length ∧ K (getT l i) L | _ => False
theorem aop_extract {x : Operand} {i : Nat} : aopW P R n0 nd (.extract x i) t L K (un _) = extrK (ev t x) i L K (un _) := by
  simp only [aop, aopW, rv, extrK]; cases ev t x <;> simp [wv]
theorem extrK_tup {l : List AVal} {i : Nat} : extrK (.tup l) i L K (un _) = (i < l.length ∧ K (getT l i) L) := nr rfl

def notK (a : AVal) (L : List Slot) (K : AVal → List Slot → Prop) (_ : Un K) : Prop := match a with | .imm (.bool b) => K (.imm (.bool (!b))) L | _ => False
theorem aop_not {ty : TypeId} {x : Operand} : aopW P R n0 nd (.unOp .not ty x) t L K (un _) = notK (ev t x) L K (un _) := by
  simp only [aop, aopW, rv, notK]
  cases ev t x with
  | imm i => cases i <;> simp [wv]
  | _ => simp [wv]
theorem notK_bool {b : Bool} : notK (.imm (.bool b)) L K (un _) = K (.imm (.bool (!b))) L := nr rfl
def negK (a : AVal) (L : List Slot) (K : AVal → List Slot → Prop) (_ : Un K) : Prop := match a with | .imm (.int k n) => K (.imm (.int k (k.wrap (0 - n)))) L | _ => False
theorem aop_neg {ty : TypeId} {x : Operand} : aopW P R n0 nd (.unOp .neg ty x) t L K (un _) = negK (ev t x) L K (un _) := by
  simp only [aop, aopW, rv, negK]
  cases ev t x with
  | imm i => cases i <;> simp [wv]
  | _ => simp [wv]
theorem negK_int {k : IntKind} {n : Int} : negK (.imm (.int k n)) L K (un _) = K (.imm (.int k (k.wrap (0 - n)))) L := nr rfl

/-! #### Operators -/

def binK (P : Program) (nd : Bool) (op : BinOp) (ty : TypeId) (x y : AVal) (L : List Slot) (K : AVal → List Slot → Prop) (_ : Un K) : Prop := match bin P ty op x y with
  | some (p, v) => p ∧ K v L
  | none => nd = true ∧ nilOp P op ty x y L K
theorem aop_bin {op : BinOp} {ty u : TypeId} {x y : Operand} : aopW P R n0 nd (.binOp op ty x y u) t L K (un _) = binK P nd op ty (ev t x) (ev t y) L K (un _) := by
  simp only [aop, aopW, rv, binK]; split <;> simp_all [wv]

variable {ty : TypeId} {k' : IntKind} {a b : Int}
theorem bin_add : binK P nd .add ty (.imm (.int k' a)) (.imm (.int k' b)) L K (un _) = K (.imm (.int k' (k'.wrap (a + b)))) L := by simp [binK, bin]
theorem bin_sub : binK P nd .sub ty (.imm (.int k' a)) (.imm (.int k' b)) L K (un _) = K (.imm (.int k' (k'.wrap (a - b)))) L := by simp [binK, bin]
theorem bin_mul : binK P nd .mul ty (.imm (.int k' a)) (.imm (.int k' b)) L K (un _) = K (.imm (.int k' (k'.wrap (a * b)))) L := by simp [binK, bin]
theorem bin_quo : binK P nd .quo ty (.imm (.int k' a)) (.imm (.int k' b)) L K (un _) = (b ≠ 0 ∧ K (.imm (.int k' (k'.wrap (a.tdiv b)))) L) := by simp [binK, bin]
theorem bin_rem : binK P nd .rem ty (.imm (.int k' a)) (.imm (.int k' b)) L K (un _) = (b ≠ 0 ∧ K (.imm (.int k' (a.tmod b))) L) := by simp [binK, bin]
theorem bin_eql : binK P nd .eql ty (.imm (.int k' a)) (.imm (.int k' b)) L K (un _) = K (.imm (.bool (decide (a = b)))) L := by simp [binK, bin]
theorem bin_neq : binK P nd .neq ty (.imm (.int k' a)) (.imm (.int k' b)) L K (un _) = K (.imm (.bool (!decide (a = b)))) L := by simp [binK, bin]
theorem bin_lss : binK P nd .lss ty (.imm (.int k' a)) (.imm (.int k' b)) L K (un _) = K (.imm (.bool (decide (a < b)))) L := by simp [binK, bin]
theorem bin_leq : binK P nd .leq ty (.imm (.int k' a)) (.imm (.int k' b)) L K (un _) = K (.imm (.bool (decide (a ≤ b)))) L := by simp [binK, bin]
theorem bin_gtr : binK P nd .gtr ty (.imm (.int k' a)) (.imm (.int k' b)) L K (un _) = K (.imm (.bool (decide (b < a)))) L := by simp [binK, bin]
theorem bin_geq : binK P nd .geq ty (.imm (.int k' a)) (.imm (.int k' b)) L K (un _) = K (.imm (.bool (decide (b ≤ a)))) L := by simp [binK, bin]
theorem bin_seql {x y : List UInt8} : binK P nd .eql ty (.imm (.str x)) (.imm (.str y)) L K (un _) = K (.imm (.bool (decide (x = y)))) L := by simp [binK, bin]
theorem bin_sneq {x y : List UInt8} : binK P nd .neq ty (.imm (.str x)) (.imm (.str y)) L K (un _) = K (.imm (.bool (!decide (x = y)))) L := by simp [binK, bin]
theorem bin_sadd {x y : List UInt8} : binK P nd .add ty (.imm (.str x)) (.imm (.str y)) L K (un _) = (x.length + y.length ≤ 9223372036854775807 ∧ K (.imm (.str (x ++ y))) L) := by simp [binK, bin]
theorem bin_beql {x y : Bool} : binK P nd .eql ty (.imm (.bool x)) (.imm (.bool y)) L K (un _) = (isBoolK (tiOf P ty).kind = true ∧ K (.imm (.bool (x == y))) L) := by simp [binK, bin]
theorem bin_bneq {x y : Bool} : binK P nd .neq ty (.imm (.bool x)) (.imm (.bool y)) L K (un _) = (isBoolK (tiOf P ty).kind = true ∧ K (.imm (.bool (!(x == y)))) L) := by simp [binK, bin]

theorem wrap_i64 {n : Int} (h1 : -9223372036854775808 ≤ n) (h2 : n ≤ 9223372036854775807) : IntKind.i64.wrap n = n := by
  have e1 : (2 : Int) ^ 64 = 18446744073709551616 := by decide
  have e2 : (2 : Int) ^ (64 - 1) = 9223372036854775808 := by decide
  simp only [IntKind.wrap, IntKind.signed, IntKind.bits, Bool.true_and, decide_eq_true_eq, e1, e2]
  split <;> omega

/-! #### Operations that write, or make -/

theorem aop_box {ty : TypeId} {x : Operand} : aopW P R n0 nd (.box ty x) t L K (un _) = optL (wv P (ev t) L (.box ty x)) K (un _) := by
  simp only [aop, aopW, rv, optL]; split <;> simp_all
theorem aop_store {ty : TypeId} {x y : Operand} : aopW P R n0 nd (.store ty x y) t L K (un _) = optL (wv P (ev t) L (.store ty x y)) K (un _) := by
  simp only [aop, aopW, rv, optL]; split <;> simp_all
theorem aop_alloc {ty : TypeId} : aopW P R n0 nd (.alloc ty) t L K (un _) = optL (wv P (ev t) L (.alloc ty)) K (un _) := by
  simp only [aop, aopW, rv, optL]; split <;> simp_all
theorem aop_buildSlice {ty : TypeId} {n : Nat} {parts : Array (Nat × Operand)} : aopW P R n0 nd (.buildSlice ty n parts) t L K (un _) = optL (wv P (ev t) L (.buildSlice ty n parts)) K (un _) := by
  simp only [aop, aopW, rv, optL]; split <;> simp_all
theorem aop_makeSlice {ty : TypeId} {x y : Operand} : aopW P R n0 nd (.makeSlice ty x y) t L K (un _) = optL (wv P (ev t) L (.makeSlice ty x y)) K (un _) := by
  simp only [aop, aopW, rv, optL]; split <;> simp_all
theorem aop_builtin {b : Builtin} {args : Array Operand} {ts : Array TypeId} : aopW P R n0 nd (.call ⟨.builtin b, args, ts⟩) t L K (un _) = optL (wv P (ev t) L (.call ⟨.builtin b, args, ts⟩)) K (un _) := by
  simp only [aop, aopW, rv, optL]; split <;> simp_all

def callK (R : Rets) (n0 : Nat) (f : AVal) (as : List AVal) (L : List Slot) (K : AVal → List Slot → Prop) (_ : Un K) : Prop := match f with | .clo g a b => callA R n0 g (a ++ as ++ b) L K | _ => False
theorem aop_call {f : Operand} {args : List Operand} {ts : Array TypeId} : aopW P R n0 nd (.call ⟨.value f, args.toArray, ts⟩) t L K (un _) = callK R n0 (ev t f) (mapO (ev t) args) L K (un _) := by
  simp only [aop, aopW, rv, wv, callK]
  cases ev t f <;> rfl

/-! #### The writing ones, one by one -/

theorem wv_alloc {ρ : Operand → AVal} {ty : TypeId} {kd : Kind} {sz : Nat} {ag ok : Bool} {z : List IVal} (h : tiOf P ty = ⟨kd, sz, ag, z, ok⟩) : wv P ρ L (.alloc ty) = some (z.length = sz ∧ 0 < sz, .ptr L.length 0, L ++ [.obj 0 (z.map .imm)]) := by
  simp only [wv, zeroA, h]
theorem wv_box {ρ : Operand → AVal} {ty : TypeId} {x : Operand} {kd : Kind} {sz : Nat} {ag ok : Bool} {z : List IVal} (h : tiOf P ty = ⟨kd, sz, ag, z, ok⟩) : wv P ρ L (.box ty x) = some ((ρ x).cells.length = sz ∧ 0 < sz ∧ okc L (ρ x) = true, .ptr L.length 0, L ++ [.obj 0 (ρ x).cells]) := by
  simp only [wv, h]

def storeK (a v : AVal) (sz : Nat) (ok : Bool) (L : List Slot) (K : AVal → List Slot → Prop) (_ : Un K) : Prop := match a with
  | .ptr s o => (match getS L s with
    | .obj e c => (o + sz ≤ c.length ∧ 0 < sz ∧ ok = true) ∧ v.cells.length = sz ∧ v.cells.all (solid L) = true ∧ K und (setS L s (.obj e (spl c o v.cells)))
    | _ => False)
  | _ => False
theorem aop_storeK {ty : TypeId} {x y : Operand} {kd : Kind} {sz : Nat} {ag ok : Bool} {z : List IVal} (h : tiOf P ty = ⟨kd, sz, ag, z, ok⟩) : aopW P R n0 nd (.store ty x y) t L K (un _) = storeK (ev t x) (ev t y) sz ok L K (un _) := by
  rw [aop_store]
  simp only [wv, storeK, h]
  cases hx : ev t x with
  | ptr s o =>
    simp only [optL, liveB, cellsOf, eszOf]
    cases hs : getS L s <;> simp [and_assoc]
  | _ => simp [optL]
def stoS (s : Nat) (sl : Slot) (o : Nat) (v : AVal) (sz : Nat) (L : List Slot) (K : AVal → List Slot → Prop) (_ : Un K) : Prop := match sl with
    | .obj e c => (o + sz ≤ c.length) ∧ v.cells.length = sz ∧ v.cells.all (solid L) = true ∧ K und (setS L s (.obj e (spl c o v.cells)))
    | _ => False
theorem storeK_ptr {s o n : Nat} {v : AVal} : storeK (.ptr s o) v (n + 1) true L K (un _) = stoS s (getS L s) o v (n + 1) L K (un _) := by
  simp only [storeK, stoS]; cases getS L s <;> simp
theorem stoS_obj {s o sz e : Nat} {c : List AVal} {v : AVal} : stoS s (.obj e c) o v sz L K (un _) = ((o + sz ≤ c.length) ∧ v.cells.length = sz ∧ v.cells.all (solid L) = true ∧ K und (setS L s (.obj e (spl c o v.cells)))) := nr rfl

theorem cells_agg {l : List AVal} : (AVal.agg l).cells = l := nr rfl
theorem cells_imm {i : IVal} : (AVal.imm i).cells = [.imm i] := nr rfl
theorem cells_ref {s o n : Nat} : (AVal.ref s o n).cells = [.ref s o n] := nr rfl
theorem cells_ptr {s o : Nat} : (AVal.ptr s o).cells = [.ptr s o] := nr rfl
theorem cells_iptr {c : List IVal} : (AVal.iptr c).cells = [.iptr c] := nr rfl
theorem cells_clo {f : Nat} {a b : List AVal} : (AVal.clo f a b).cells = [.clo f a b] := nr rfl
theorem solid_imm {i : IVal} : solid L (.imm i) = true := nr rfl
theorem solid_iptr {c : List IVal} : solid L (.iptr c) = true := nr rfl
theorem solid_clo {f : Nat} {a b : List AVal} : solid L (.clo f a b) = true := nr rfl
theorem solid_ptr {s o : Nat} : solid L (.ptr s o) = isObj (getS L s) := by rw [← liveB_eq]; rfl
theorem solid_ref {s o n : Nat} : solid L (.ref s o n) = isObj (getS L s) := by rw [← liveB_eq]; rfl
theorem okc_agg {l : List AVal} : okc L (.agg l) = true := nr rfl
theorem okc_imm {i : IVal} : okc L (.imm i) = true := nr rfl
theorem okc_iptr {c : List IVal} : okc L (.iptr c) = true := nr rfl
theorem okc_ref {s o n : Nat} : okc L (.ref s o n) = isObj (getS L s) := by rw [← liveB_eq]; rfl
theorem okc_ptr {s o : Nat} : okc L (.ptr s o) = isObj (getS L s) := by rw [← liveB_eq]; rfl
theorem okc_clo {f : Nat} {a b : List AVal} : okc L (.clo f a b) = true := nr rfl

def lenK (a : AVal) (L : List Slot) (K : AVal → List Slot → Prop) (_ : Un K) : Prop := match a with
  | .imm (.str s) => K (.imm (.int .i64 s.length)) L
  | .imm (.lst _ n _) => K (.imm (.int .i64 n)) L
  | .ref s _ n => liveB L s = true ∧ K (.imm (.int .i64 n)) L
  | _ => False
theorem aop_len {ty : TypeId} {x : Operand} {esz eb : Nat} {ez : List IVal} {eu ag ok : Bool} {sz : Nat} {z : List IVal} (h : tiOf P ty = ⟨.slice esz eb ez eu, sz, ag, z, ok⟩) {g : Tag} {n : Nat} {c : List IVal} (hx : ev t x = .imm (.lst g n c)) :
    aopW P R n0 nd (.call ⟨.builtin .len, #[x], #[ty]⟩) t L K (un _) = K (.imm (.int .i64 n)) L := by
  rw [aop_builtin]; simp [wv, lenA, h, hx, optL, isSliceK]
theorem aop_lenS {ty : TypeId} {x : Operand} {ag ok : Bool} {sz : Nat} {z : List IVal} (h : tiOf P ty = ⟨.str, sz, ag, z, ok⟩) {s : List UInt8} (hx : ev t x = .imm (.str s)) :
    aopW P R n0 nd (.call ⟨.builtin .len, #[x], #[ty]⟩) t L K (un _) = K (.imm (.int .i64 s.length)) L := by
  rw [aop_builtin]; simp [wv, lenA, h, hx, optL, isStrK]
/-! #### Fields, elements, loads -/

theorem field_ptr {kd : Kind} {sz : Nat} {ag ok : Bool} {z : List IVal} {fs : List (Nat × Nat)} {s o f off n : Nat} (h : tiOf P ty = ⟨.struct fs, sz, ag, z, ok⟩) (hf : nthP fs f = some (off, n + 1)) : fieldA P L ty (.ptr s o) f = some (True, .ptr s (o + off)) := by
  simp [fieldA, h, hf]
theorem field_iptr {kd : Kind} {sz : Nat} {ag ok : Bool} {z : List IVal} {fs : List (Nat × Nat)} {c : List IVal} {f off n : Nat} (h : tiOf P ty = ⟨.struct fs, sz, ag, z, ok⟩) (hf : nthP fs f = some (off, n + 1)) : fieldA P L ty (.iptr c) f = some (True, .iptr (c.drop off)) := by
  simp [fieldA, h, hf]

def loadS (sl : Slot) (ti : TI) (o : Nat) : Option (Prop × AVal) := match sl with
  | .obj _ c => if ti.agg then some (o + ti.sz ≤ c.length, .agg ((c.drop o).take ti.sz)) else some (o < c.length, getT c o)
  | _ => none
theorem load_ptr {kd : Kind} {sz : Nat} {ag : Bool} {z : List IVal} {s o e : Nat} {c : List AVal} (h : tiOf P ty = ⟨kd, sz, false, z, true⟩) (hs : getS L s = .obj e c) : loadA P L ty (.ptr s o) = some (o < c.length, getT c o) := by
  simp [loadA, h, liveB, cellsOf, hs]
theorem load_ptrA {kd : Kind} {sz : Nat} {ag : Bool} {z : List IVal} {s o e : Nat} {c : List AVal} (h : tiOf P ty = ⟨kd, sz, true, z, true⟩) (hs : getS L s = .obj e c) : loadA P L ty (.ptr s o) = some (o + sz ≤ c.length, .agg ((c.drop o).take sz)) := by
  simp [loadA, h, liveB, cellsOf, hs]
theorem load_iptr {kd : Kind} {sz : Nat} {z : List IVal} {c : List IVal} (h : tiOf P ty = ⟨kd, sz, false, z, true⟩) : loadA P L ty (.iptr c) = some (0 < c.length, hd c) := by
  simp [loadA, h]
theorem load_iptrA {kd : Kind} {sz : Nat} {z : List IVal} {c : List IVal} (h : tiOf P ty = ⟨kd, sz, true, z, true⟩) : loadA P L ty (.iptr c) = some (sz ≤ c.length, .agg ((c.take sz).map .imm)) := by
  simp [loadA, h]
theorem hd_cons {i : IVal} {l : List IVal} : hd (i :: l) = .imm i := nr rfl

/-- temporaries: some are known -/
def tm : Nat → Nat → List (Nat × AVal) → List AVal
  | 0, _, _ => []
  | n + 1, i, [] => .any :: tm n (i + 1) []
  | n + 1, i, (j, v) :: r => if i = j then v :: tm n (i + 1) r else .any :: tm n (i + 1) ((j, v) :: r)
theorem tm_zero {i : Nat} {r : List (Nat × AVal)} : tm 0 i r = [] := nr rfl
theorem tm_nil {n i : Nat} : tm (n + 1) i [] = .any :: tm n (i + 1) [] := nr rfl
theorem tm_cons {n i j : Nat} {v : AVal} {r : List (Nat × AVal)} : tm (n + 1) i ((j, v) :: r) = if i = j then v :: tm n (i + 1) r else .any :: tm n (i + 1) ((j, v) :: r) := nr rfl
theorem padT_zero : padT 0 = [] := nr rfl
theorem padT_succ {n : Nat} : padT (n + 1) = und :: padT n := nr rfl

/-- A loop whose state is told by parameters. -/
theorem awp_loopX {X : Type} (T : X → List AVal) (S : X → List Slot) (J : X → Prop) (μ : X → Nat) (gs : List Gh) (x0 : X) {b : Code} {Q : AExit → List AVal → List Slot → Prop} (hg : ghosts k gs t L = some (T x0, S x0)) (h0 : J x0)
    (round : ∀ x, J x → ∀ Q' : AExit → List AVal → List Slot → Prop, (∀ t L, (∃ gs y, ghosts k gs t L = some (T y, S y) ∧ J y ∧ μ y < μ x) → Q' .normal t L) → (∀ e t L, e ≠ .normal → Q e t L → Q' e t L) → awpW ⟨P, R, k⟩ b (T x) (S x) Q' (un _)) :
    awpW ⟨P, R, k⟩ (.loop b) t L Q (un _) := by
  refine awp_loop (fun n t L => ∃ x, t = T x ∧ L = S x ∧ J x ∧ μ x = n) (μ x0) gs _ _ hg ⟨x0, rfl, rfl, h0, rfl⟩ ?_
  rintro n t L ⟨x, rfl, rfl, hJ, rfl⟩
  refine round x hJ _ (fun t L h => ?_) (fun e t L he h => ?_)
  · obtain ⟨gs, y, h1, h2, h3⟩ := h
    exact ⟨μ y, gs, _, _, h1, ⟨y, rfl, rfl, h2, rfl⟩, h3⟩
  · cases e with
    | normal => exact (he rfl).elim
    | _ => exact h

theorem pos_succ {n : Nat} : (0 < n + 1) = True := by simp

/-- What a function ends with. -/
def Fin (P : Program) (fn : Func) (n : Nat) (r : AVal) (out : List Slot) (t : List AVal) (L : List Slot) : Prop :=
  ∃ gs t' L' p vs gs2, ghosts n gs t L = some (t', L') ∧ resA P t' L' fn.results.toList = some (p, vs) ∧ p ∧ ghosts n gs2 [oneOr vs] L' = some ([r], out)

theorem Ret.mk {d f : Nat} {as : List AVal} {Lin : List Slot} {r : AVal} {out : List Slot} {fn : Func} {code : Code} (hf : P.funcs[f]? = some fn) (hb : fn.body = some code) (hn : fn.name ≠ "runtime.NumGoroutine") (hl : as.length ≤ fn.ntmps)
    (h : ∀ Q : AExit → List AVal → List Slot → Prop, (∀ t L, Fin P fn Lin.length r out t L → Q .normal t L) → (∀ t L, Fin P fn Lin.length r out t L → Q .ret t L) → awpW ⟨P, Ret P d, Lin.length⟩ code (as ++ padT (fn.ntmps - as.length)) Lin Q (un _)) : Ret P (d + 1) f as Lin r out :=
  ⟨fn, code, hf, hb, hn, hl, h _ (fun t L h => ⟨trivial, h⟩) (fun t L h => ⟨trivial, h⟩)⟩

theorem getT_rens (σ : Nat → Option Nat) {t : List AVal} {i : Nat} {v : IVal} (h : getT t i = .imm v) : getT (rens σ t) i = .imm v := by
  rw [getT_eq, List.getD_eq_getElem?_getD] at h ⊢
  rw [rens_get]
  cases hx : t[i]? with
  | none => rw [hx] at h; cases h
  | some a => rw [hx] at h; simp only [Option.getD_some] at h; subst h; rfl

/-- One result, that is one value; nothing made is given back. -/
theorem Fin.imm1 {fn : Func} {i : Nat} {v : IVal} (hr : fn.results.toList = [.tmp i]) (h : getT t i = .imm v) : Fin P fn 0 (.imm v) [] t L :=
  ⟨[.re []], rens (posO []) t, [], True, [.imm v], [], rfl, by rw [hr]; simp only [resA]; rw [getT_rens _ h], trivial, rfl⟩

end

attribute [go_sem] decide_eq_true_eq decide_true decide_false List.length_cons List.length_nil List.cons_append List.nil_append true_and wrap_i64 Br_true Br_false Br_not awp_seq awp_skip awp_label awp_ret awp_exit awp_block awp_region awp_cond condK_true condK_false condK_dec condK_not
  aops_nil aops_none aops_some wantG_some wantG_none gdst_zero gdst_succ oper_dst wantK_tt wantK_ff wantK_tf wantK_ft wantK_und wantK_dt wantK_df wantK_not
  ext_self ext_app ext_nil ext_cons aopsD_nil aopsD_none aopsD_some aopsQ_nil aopsQ_none aopsQ_some qok_false qok_load qok_index qokA_ptr qokA_iptr qokI_ref qokI_lst keeps_nil keeps_cons getT_zero getT_succ putT_zero putT_succ putD_some putD_none getS_zero getS_succ setS_zero setS_succ nthP_zero nthP_succ spl_nil spl_cons mapO_nil mapO_cons mapP_nil mapP_cons
  ev_tmp ev_int ev_bool ev_nil ev_str ev_func aop_move aop_assign aop_pick pickK_true pickK_false pickK_same pickK_dec isObj_obj aop_nilCheck nilK_ptr nilK_iptr optK_some aop_convert aop_extract extrK_tup
  aop_not notK_bool aop_neg negK_int aop_bin bin_add bin_sub bin_mul bin_quo bin_rem bin_eql bin_neq bin_lss bin_leq bin_gtr bin_geq bin_seql bin_sneq bin_sadd bin_beql bin_bneq aop_call
  storeK_ptr stoS_obj cells_agg cells_imm cells_ref cells_ptr cells_iptr cells_clo solid_imm solid_iptr solid_clo solid_ptr solid_ref okc_agg okc_imm okc_iptr okc_ref okc_ptr okc_clo hd_cons tm_zero tm_nil tm_cons padT_zero padT_succ
attribute [go_sem low] condK_bool pickK_bool wantK_bt wantK_bf
attribute [go_sem] Bool.false_eq_true pos_succ Bool.not_true Bool.not_false not_true_eq_false not_false_eq_true reduceIte
end Go.Abs
