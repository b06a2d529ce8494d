/- An abstract semantics of the translated code: values without addresses, local objects in numbered slots. Definitions alone. -/
import Derived.Calls
import Derived.Below
set_option linter.unusedVariables false
namespace Go.Abs

/-! ### Values -/

/-- What is known of a slice that is only read besides its elements: it is nil; it is empty and without room; it isn't nil; nothing. -/
inductive Tag
  | nil | void | full | unk
  deriving DecidableEq

/-- Values without references to objects that may be written. A slice: how many elements, and their cells, one behind the other. -/
inductive IVal
  | int (k : IntKind) (n : Int)
  | bool (b : Bool)
  | str (s : List UInt8)
  | lst (g : Tag) (n : Nat) (c : List IVal)
  | nilp

inductive AVal
  | imm (i : IVal)
  | agg (l : List AVal)
  | tup (l : List AVal)
  | ptr (s off : Nat)
  | iptr (c : List IVal)
  | ref (s off n : Nat)
  | clo (f : Nat) (first caps : List AVal)
  | any

/-- What lies in a slot: an object: the cells of one element (0: no row), and its cells; what is not known any more; nothing yet. -/
inductive Slot
  | obj (e : Nat) (c : List AVal)
  | dead
  | hole

/-- Go's 'no value'. -/
def und : AVal := .tup []

def getT : List AVal → Nat → AVal
  | [], _ => .any
  | a :: _, 0 => a
  | _ :: l, n + 1 => getT l n

def putT : List AVal → Nat → AVal → List AVal
  | [], _, _ => []
  | _ :: l, 0, v => v :: l
  | a :: l, n + 1, v => a :: putT l n v

def putD (t : List AVal) : Option Nat → AVal → List AVal
  | some d, v => putT t d v
  | none, _ => t

def getS : List Slot → Nat → Slot
  | [], _ => .hole
  | a :: _, 0 => a
  | _ :: l, n + 1 => getS l n

def setS : List Slot → Nat → Slot → List Slot
  | [], _, _ => []
  | _ :: l, 0, v => v :: l
  | a :: l, n + 1, v => a :: setS l n v

/-- cells written from a place on -/
def spl : List AVal → Nat → List AVal → List AVal
  | c, _, [] => c
  | c, o, v :: vs => spl (putT c o v) (o + 1) vs

def AVal.cells : AVal → List AVal
  | .agg l => l
  | v => [v]

def hd : List IVal → AVal
  | i :: _ => .imm i
  | [] => .any

/-! ### Constants and types -/

def ofConst : Value → Option IVal
  | .int k n => some (.int k n)
  | .bool b => some (.bool b)
  | .string s => some (.str s.data.toList)
  | .pointer none => some .nilp
  | .slice none 0 0 => some (.lst .nil 0 [])
  | _ => none

def ofConstA (v : Value) : AVal := match ofConst v with | some i => .imm i | none => .any

def ev (t : List AVal) : Operand → AVal
  | .tmp i => getT t i
  | .const v => ofConstA v
  | .global _ => .any
  | .func f => .clo f [] []

inductive Kind
  | int (k : IntKind) | bool | str
  | slice (esz ebytes : Nat) (ez : List IVal) (eu8 : Bool)
  | array (n esz : Nat)
  | struct (fs : List (Nat × Nat))
  | ptr | other

structure TI where
  kind : Kind
  sz : Nat
  agg : Bool
  zero : List IVal
  ok : Bool

def zerosOf (P : Program) (t : TypeId) : Option (List IVal) := (P.info? t).bind fun i => i.zero.bind fun z => z.cells.toList.mapM ofConst

/-- A type as the abstract semantics sees it. -/
def kindOf (P : Program) (t : TypeId) : Kind :=
  match P.underlying t with
  | some (.int k) => .int k
  | some .bool => .bool
  | some .string => .str
  | some (.slice e) => match P.info? e, zerosOf P e with
    | some i, some z => if z.length = i.size then .slice i.size i.bytes z (match P.underlying e with | some (.int .u8) => true | _ => false) else .other
    | _, _ => .other
  | some (.array n e) => match P.info? e with | some i => .array n i.size | none => .other
  | some (.struct fs) => match fs.toList.mapM (fun f => (P.info? f.type).map fun i => (f.offset, i.size)) with | some l => .struct l | none => .other
  | some (.pointer _) => .ptr
  | _ => .other

def aggOf (P : Program) (t : TypeId) : Bool :=
  match P.underlying t with | some (.struct _) | some (.array _ _) => true | _ => false

def tiOf (P : Program) (t : TypeId) : TI :=
  { kind := kindOf P t, sz := P.cellsOf t, agg := aggOf P t, zero := (zerosOf P t).getD [], ok := (P.underlying t).isSome && (P.info? t).isSome }

/-! ### Operations -/

def wr (k : IntKind) (n : Int) : Int := k.wrap n

def isBoolK : Kind → Bool
  | .bool => true
  | _ => false
def isStrK : Kind → Bool
  | .str => true
  | _ => false
def isSliceK : Kind → Bool
  | .slice _ _ _ _ => true
  | _ => false

/-- Operators on numbers, bools and strings. -/
def bin (P : Program) (t : TypeId) (op : BinOp) : AVal → AVal → Option (Prop × AVal)
  | .imm (.int k a), .imm (.int k' b) =>
    if k = k' then
      match op with
      | .add => some (True, .imm (.int k (k.wrap (a + b))))
      | .sub => some (True, .imm (.int k (k.wrap (a - b))))
      | .mul => some (True, .imm (.int k (k.wrap (a * b))))
      | .quo => some (b ≠ 0, .imm (.int k (k.wrap (a.tdiv b))))
      | .rem => some (b ≠ 0, .imm (.int k (a.tmod b)))
      | .eql => some (True, .imm (.bool (decide (a = b))))
      | .neq => some (True, .imm (.bool (!decide (a = b))))
      | .lss => some (True, .imm (.bool (decide (a < b))))
      | .leq => some (True, .imm (.bool (decide (a ≤ b))))
      | .gtr => some (True, .imm (.bool (decide (b < a))))
      | .geq => some (True, .imm (.bool (decide (b ≤ a))))
      | _ => none
    else none
  | .imm (.str a), .imm (.str b) =>
    match op with
    | .add => some (a.length + b.length ≤ 9223372036854775807, .imm (.str (a ++ b)))
    | .eql => some (True, .imm (.bool (decide (a = b))))
    | .neq => some (True, .imm (.bool (!decide (a = b))))
    | _ => none
  | .imm (.bool a), .imm (.bool b) =>
    match op with
    | .eql => some (isBoolK (tiOf P t).kind = true, .imm (.bool (a == b)))
    | .neq => some (isBoolK (tiOf P t).kind = true, .imm (.bool (!(a == b))))
    | _ => none
  | .imm (.lst .nil _ _), .imm (.lst .nil _ _) =>
    match op with
    | .eql => some (isSliceK (tiOf P t).kind = true, .imm (.bool true))
    | .neq => some (isSliceK (tiOf P t).kind = true, .imm (.bool false))
    | _ => none
  | .imm (.lst .full _ _), .imm (.lst .nil _ _) =>
    match op with
    | .eql => some (isSliceK (tiOf P t).kind = true, .imm (.bool false))
    | .neq => some (isSliceK (tiOf P t).kind = true, .imm (.bool true))
    | _ => none
  | _, _ => none

def liveB (L : List Slot) (s : Nat) : Bool := match getS L s with | .obj _ _ => true | _ => false

/-- the cells of an object -/
def cellsOf (L : List Slot) (s : Nat) : List AVal := match getS L s with | .obj _ c => c | _ => []

def eszOf (L : List Slot) (s : Nat) : Nat := match getS L s with | .obj e _ => e | _ => 0

def nthP : List (Nat × Nat) → Nat → Option (Nat × Nat)
  | [], _ => none
  | a :: _, 0 => some a
  | _ :: l, n + 1 => nthP l n

def fieldA (P : Program) (L : List Slot) (t : TypeId) (x : AVal) (f : Nat) : Option (Prop × AVal) :=
  match (tiOf P t).kind with
  | .struct fs => match nthP fs f with
    | some (off, sz) =>
      if sz = 0 then none else
      match x with
      | .ptr s o => some (True, .ptr s (o + off))
      | .iptr c => some (True, .iptr (c.drop off))
      | _ => none
    | none => none
  | _ => none

def indexA (P : Program) (L : List Slot) (t : TypeId) (x i : AVal) : Option (Prop × AVal) :=
  match i with
  | .imm (.int _ j) =>
    match (tiOf P t).kind, x with
    | .slice esz _ _ _, .imm (.lst _ n c) => some (0 ≤ j ∧ j < n, .iptr (c.drop (j.toNat * esz)))
    | .slice esz _ _ _, .ref s o n => some (liveB L s = true ∧ 0 ≤ j ∧ j < n, .ptr s (o + j.toNat * esz))
    | .array n esz, .ptr s o => some (liveB L s = true ∧ 0 ≤ j ∧ j < n, .ptr s (o + j.toNat * esz))
    | .array n esz, .iptr c => some (0 ≤ j ∧ j < n, .iptr (c.drop (j.toNat * esz)))
    | _, _ => none
  | _ => none

def loadA (P : Program) (L : List Slot) (t : TypeId) (x : AVal) : Option (Prop × AVal) :=
  match x with
  | .ptr s o =>
    if (tiOf P t).agg then some ((tiOf P t).ok = true ∧ liveB L s = true ∧ o + (tiOf P t).sz ≤ (cellsOf L s).length, .agg (((cellsOf L s).drop o).take (tiOf P t).sz))
    else some ((tiOf P t).ok = true ∧ liveB L s = true ∧ o < (cellsOf L s).length, getT (cellsOf L s) o)
  | .iptr c =>
    if (tiOf P t).agg then some ((tiOf P t).ok = true ∧ (tiOf P t).sz ≤ c.length, .agg ((c.take (tiOf P t).sz).map .imm))
    else some ((tiOf P t).ok = true ∧ 0 < c.length, hd c)
  | _ => none

/-- a value that fits into one cell -/
def solid (L : List Slot) : AVal → Bool
  | .imm _ => true
  | .ptr s _ => liveB L s
  | .iptr _ => true
  | .ref s _ _ => liveB L s
  | .clo _ _ _ => true
  | _ => false

/-- a value of a known number of cells -/
def okc (L : List Slot) : AVal → Bool
  | .agg _ => true
  | a => solid L a

/-- bounds of a cut: none: the default -/
def bnd (d : Nat) : Option AVal → Option (Prop × Nat)
  | none => some (True, d)
  | some (.imm (.int _ j)) => some (0 ≤ j, j.toNat)
  | _ => none

def sliceA (P : Program) (L : List Slot) (t : TypeId) (x : AVal) (lo hi mx : Option AVal) : Option (Prop × AVal) :=
  match x with
  | .imm (.str s) =>
    match (tiOf P t).kind, mx, bnd 0 lo, bnd s.length hi with
    | .str, none, some (p, l), some (q, h) => some ((p ∧ q) ∧ l ≤ h ∧ h ≤ s.length, .imm (.str ((s.take h).drop l)))
    | _, _, _, _ => none
  | .imm (.lst g n c) =>
    match (tiOf P t).kind, mx with
    | .slice esz _ _ _, none =>
      match bnd 0 lo, bnd n hi with
      | some (p, l), some (q, h) => some ((p ∧ q) ∧ l ≤ h ∧ h ≤ n, .imm (.lst g (h - l) ((c.drop (l * esz)).take ((h - l) * esz))))
      | _, _ => none
    | .slice _ _ _ _, some (.imm (.int _ 0)) =>
      match hi with
      | some (.imm (.int _ 0)) => match lo with
        | none => some (True, .imm (.lst .void 0 []))
        | _ => none
      | _ => none
    | _, _ => none
  | .ref s o n =>
    match (tiOf P t).kind, mx, bnd 0 lo, bnd n hi with
    | .slice esz _ _ _, none, some (p, l), some (q, h) => some ((p ∧ q) ∧ (liveB L s = true ∧ 0 < (cellsOf L s).length ∧ eszOf L s = esz) ∧ l ≤ h ∧ h ≤ n, .ref s (o + l * esz) (h - l))
    | _, _, _, _ => none
  | _ => none

def lenA (P : Program) (t : TypeId) (L : List Slot) : AVal → Option (Prop × AVal)
  | .imm (.str s) => some (isStrK (tiOf P t).kind = true, .imm (.int .i64 s.length))
  | .imm (.lst _ n _) => some (isSliceK (tiOf P t).kind = true, .imm (.int .i64 n))
  | .ref s _ n => some (isSliceK (tiOf P t).kind = true, .imm (.int .i64 n))
  | _ => none

/-- parts of a struct, an array or a slice laid over zeros -/
def fillA (L : List Slot) (place : Nat → Option (Nat × Nat)) : List AVal → List (Nat × AVal) → Option (List AVal)
  | c, [] => some c
  | c, (i, v) :: rest =>
    match place i with
    | none => none
    | some (off, size) => if v.cells.length = size ∧ off + v.cells.length ≤ c.length ∧ okc L v = true then fillA L place (spl c off v.cells) rest else none

def mapP (f : Operand → AVal) : List (Nat × Operand) → List (Nat × AVal)
  | [] => []
  | (i, x) :: l => (i, f x) :: mapP f l

def mapO (f : Operand → AVal) : List Operand → List AVal
  | [] => []
  | x :: l => f x :: mapO f l

def buildA (P : Program) (L : List Slot) (t : TypeId) (parts : List (Nat × AVal)) : Option (Prop × AVal) :=
  match (tiOf P t).kind with
  | .struct fs => match fillA L (nthP fs) ((tiOf P t).zero.map .imm) parts with | some c => some ((tiOf P t).zero.length = (tiOf P t).sz ∧ 0 < (tiOf P t).sz, .agg c) | none => none
  | .array _ esz => match fillA L (fun i => some (i * esz, esz)) ((tiOf P t).zero.map .imm) parts with | some c => some ((tiOf P t).zero.length = (tiOf P t).sz ∧ 0 < (tiOf P t).sz, .agg c) | none => none
  | _ => none

/-- a part of a struct or an array that is no variable -/
def partA (t : TI) (l : List AVal) (off : Nat) : Option (Prop × AVal) :=
  if t.agg then some (off + t.sz ≤ l.length, .agg ((l.drop off).take t.sz)) else some (off < l.length, getT l off)

/-- the cells of the first elements of what is appended or copied -/
def srcA (L : List Slot) (esz n : Nat) : AVal → Option (Prop × List AVal)
  | .imm (.str s) => some (n ≤ s.length ∧ esz = 1, (s.take n).map fun b => .imm (.int .u8 b.toNat))
  | .imm (.lst _ _ c) => some (n * esz ≤ c.length, (c.take (n * esz)).map .imm)
  | .ref s o _ => some (liveB L s = true ∧ o + n * esz ≤ (cellsOf L s).length, ((cellsOf L s).drop o).take (n * esz))
  | _ => none

def cntA : AVal → Option Nat
  | .imm (.str s) => some s.length
  | .imm (.lst _ n _) => some n
  | .ref _ _ n => some n
  | _ => none

/-- bytes in cells -/
def bytesOf : List AVal → Option (List UInt8)
  | [] => some []
  | .imm (.int .u8 m) :: l => (bytesOf l).map (UInt8.ofNat m.toNat :: ·)
  | _ => none

/-- bytes as a string -/
def convB (P : Program) (L : List Slot) (src : TypeId) (x : AVal) (n : Nat) : Option (Prop × AVal) :=
  match (tiOf P src).kind with
  | .slice _ _ _ true => match srcA L 1 n x with
    | some (p, cs) => match bytesOf cs with | some b => some (p, .imm (.str b)) | none => none
    | none => none
  | _ => none

def convA (P : Program) (src dst : TypeId) (x : AVal) (L : List Slot) : Option (Prop × AVal) :=
  match (tiOf P dst).kind, x with
  | .int k, .imm (.int _ n) => match (tiOf P src).kind with | .int _ => some (True, .imm (.int k (k.wrap n))) | _ => none
  | .str, .imm (.str s) => match (tiOf P src).kind with | .str => some (True, .imm (.str s)) | _ => none
  | .str, .imm (.lst g n c) => convB P L src (.imm (.lst g n c)) n
  | .str, .ref s o n => convB P L src (.ref s o n) n
  | _, _ => none

/-- A value that hangs on the operands and on what lies in the slots; nothing is written, nothing made. -/
def rv (P : Program) (ρ : Operand → AVal) (L : List Slot) : Op → Option (Prop × AVal)
  | .move x => some (True, ρ x)
  | .assign x => some (True, ρ x)
  | .pick c a b => match ρ c with | .imm (.bool t) => some (True, if t = true then ρ a else ρ b) | _ => none
  | .nilCheck x => match ρ x with
    | .ptr s o => some (True, .ptr s o)
    | .iptr c => some (True, .iptr c)
    | .clo f a b => some (True, .clo f a b)
    | _ => none
  | .fieldAddr t x f => fieldA P L t (ρ x) f
  | .indexAddr t x i => indexA P L t (ρ x) (ρ i)
  | .load t x => loadA P L t (ρ x)
  | .binOp op t x y _ => bin P t op (ρ x) (ρ y)
  | .unOp .neg _ x => match ρ x with | .imm (.int k n) => some (True, .imm (.int k (k.wrap (0 - n)))) | _ => none
  | .unOp .not _ x => match ρ x with | .imm (.bool b) => some (True, .imm (.bool (!b))) | _ => none
  | .convert s d x => convA P s d (ρ x) L
  | .build t parts => buildA P L t (mapP ρ parts.toList)
  | .index t x i => match (tiOf P t).kind, ρ x, ρ i with
    | .str, .imm (.str s), .imm (.int _ j) => some (0 ≤ j ∧ j < s.length, .imm (.int .u8 ((s.getD j.toNat 0).toNat)))
    | _, _, _ => none
  | .extract x i => match ρ x with | .tup l => some (i < l.length, getT l i) | _ => none
  | .slice t x lo hi mx => sliceA P L t (ρ x) (lo.map ρ) (hi.map ρ) (mx.map ρ)
  | .makeFunc (.func f) first caps => some (True, .clo f (mapO ρ first.toList) (mapO ρ caps.toList))
  | _ => none

def zeroA (P : Program) (t : TypeId) : List AVal := (tiOf P t).zero.map .imm

def isInt : Kind → Bool
  | .int _ => true
  | _ => false

/-- The most elements that a slice grows to here. -/
def most : Nat := 2 ^ 40

/-- append: the base is nil or without room (a new object), or reaches to the end of its object (which dies). -/
def appendA (L : List Slot) (esz ebytes : Nat) (base : AVal) (m : Nat) (new : List AVal) : Option (Prop × AVal × List Slot) :=
  match base with
  | .imm (.lst .nil 0 _) => some (m ≤ most ∧ ebytes ≤ 100 ∧ 0 < esz, .ref L.length 0 m, L ++ [.obj esz new])
  | .imm (.lst .void 0 _) => some (m ≤ most ∧ ebytes ≤ 100 ∧ 0 < esz, .ref L.length 0 m, L ++ [.obj esz new])
  | .ref s o n => some ((liveB L s = true ∧ eszOf L s = esz ∧ o + n * esz = (cellsOf L s).length ∧ (cellsOf L s = [] ∨ 0 < n + m)) ∧ (n + m ≤ most ∧ ebytes ≤ 100 ∧ 0 < esz) ∧ new.all (solid L) = true, .ref L.length 0 (n + m), setS L s .dead ++ [.obj esz ((cellsOf L s).drop o ++ new)])
  | _ => none

/-- the greatest or least of numbers of one kind -/
def foldI (f : Int → Int → Int) (k : IntKind) : Int → List AVal → Option Int
  | a, [] => some a
  | a, .imm (.int k' b) :: l => if k = k' then foldI f k (f a b) l else none
  | _, _ => none

/-- The operations that make or write. The value and what then lies in the slots. -/
def wv (P : Program) (ρ : Operand → AVal) (L : List Slot) : Op → Option (Prop × AVal × List Slot)
  | .alloc t => some ((tiOf P t).zero.length = (tiOf P t).sz ∧ 0 < (tiOf P t).sz, .ptr L.length 0, L ++ [.obj 0 (zeroA P t)])
  | .box t x => some ((ρ x).cells.length = (tiOf P t).sz ∧ 0 < (tiOf P t).sz ∧ okc L (ρ x) = true, .ptr L.length 0, L ++ [.obj 0 (ρ x).cells])
  | .buildSlice t len parts => match (tiOf P t).kind with
    | .slice esz _ ez _ =>
      if len = 0 then (match parts.toList with | [] => some (True, .imm (.lst .void 0 []), L) | _ => none)
      else match fillA L (fun i => some (i * esz, esz)) ((List.replicate len (ez.map .imm)).flatten) (mapP ρ parts.toList) with
        | some c => some (0 < esz ∧ len * esz ≤ 16777216, .ref L.length 0 len, L ++ [.obj esz c])
        | none => none
    | _ => none
  | .makeSlice t l c => match (tiOf P t).kind, ρ l, ρ c with
    | .slice esz eb ez _, .imm (.int _ n), .imm (.int _ m) => some ((0 ≤ n ∧ n = m ∧ eb * n ≤ 281474976710656 ∧ n ≤ 9223372036854775807) ∧ 0 < esz, .ref L.length 0 n.toNat, L ++ [.obj esz ((List.replicate n.toNat (ez.map .imm)).flatten)])
    | _, _, _ => none
  | .store t a x => match ρ a with
    | .ptr s o => some ((liveB L s = true ∧ o + (tiOf P t).sz ≤ (cellsOf L s).length ∧ 0 < (tiOf P t).sz ∧ (tiOf P t).ok = true) ∧ (ρ x).cells.length = (tiOf P t).sz ∧ (ρ x).cells.all (solid L) = true, und, setS L s (.obj (eszOf L s) (spl (cellsOf L s) o (ρ x).cells)))
    | _ => none
  | .call { callee := .builtin .len, args, argTypes } => match args.toList, argTypes.toList with
    | [x], [t] => (lenA P t L (ρ x)).map fun r => (r.1, r.2, L)
    | _, _ => none
  | .call { callee := .builtin .max, args, .. } => match mapO ρ args.toList with
    | .imm (.int k a) :: l => match foldI max k a l with | some m => some (True, .imm (.int k m), L) | none => none
    | _ => none
  | .call { callee := .builtin .min, args, .. } => match mapO ρ args.toList with
    | .imm (.int k a) :: l => match foldI min k a l with | some m => some (True, .imm (.int k m), L) | none => none
    | _ => none
  | .call { callee := .builtin .append, args, argTypes } => match args.toList, argTypes.toList with
    | [b, x], [tb, tx] => match (tiOf P tb).kind with
      | .slice esz eb ez _ =>
        if isInt (tiOf P tx).kind then
          match ρ x with
          | .imm (.int _ m) => (appendA L esz eb (ρ b) m.toNat ((List.replicate m.toNat (ez.map .imm)).flatten)).map fun r => ((0 ≤ m ∧ m ≤ most) ∧ r.1, r.2)
          | _ => none
        else if isSliceK (tiOf P tx).kind || isStrK (tiOf P tx).kind then
          match cntA (ρ x) with
          | some m => match srcA L esz m (ρ x) with
            | some (p, new) => (appendA L esz eb (ρ b) m new).map fun r => (p ∧ r.1, r.2)
            | none => none
          | none => none
        else none
      | _ => none
    | _, _ => none
  | .call { callee := .builtin .copy, args, argTypes } => match args.toList, argTypes.toList with
    | [d, x], [td, _] => match (tiOf P td).kind, ρ d, cntA (ρ x) with
      | .slice esz _ _ _, .ref s o n, some m => match srcA L esz (min m n) (ρ x) with
        | some (p, new) => some (p ∧ (liveB L s = true ∧ o + n * esz ≤ (cellsOf L s).length ∧ 0 < esz) ∧ new.all (solid L) = true, .imm (.int .i64 (min m n : Nat)), setS L s (.obj (eszOf L s) (spl (cellsOf L s) o new)))
        | none => none
      | _, _, _ => none
    | _, _ => none
  | _ => none

/-! ### Calls -/

mutual
/-- references renamed; what has no new name is not known any more -/
def ren (σ : Nat → Option Nat) : AVal → AVal
  | .imm i => .imm i
  | .agg l => .agg (rens σ l)
  | .tup l => .tup (rens σ l)
  | .ptr s o => match σ s with | some s' => .ptr s' o | none => .any
  | .iptr c => .iptr c
  | .ref s o n => match σ s with | some s' => .ref s' o n | none => .any
  | .clo f a b => .clo f (rens σ a) (rens σ b)
  | .any => .any
def rens (σ : Nat → Option Nat) : List AVal → List AVal
  | [] => []
  | a :: l => ren σ a :: rens σ l
end

def renS (σ : Nat → Option Nat) : Slot → Slot
  | .obj e c => .obj e (rens σ c)
  | .dead => .dead
  | .hole => .hole

/-- which place a slot has in a list of slots -/
def idx : List Nat → Nat → Option Nat
  | [], _ => none
  | a :: l, s => if a = s then some 0 else (idx l s).map (· + 1)

/-- cells as immutable values -/
def immOf : AVal → Option IVal
  | .imm i => some i
  | _ => none

def immsOf : List AVal → Option (List IVal)
  | [] => some []
  | a :: l => match immOf a, immsOf l with | some i, some r => some (i :: r) | _, _ => none

/-- a slice of an object, seen as one that is only read -/
def viewC (e : Nat) (c : List AVal) (off n : Nat) : Option AVal :=
  match c with
  | [] => some (.imm (.lst .void 0 []))
  | _ :: _ => match immsOf ((c.drop off).take (n * e)) with | some r => some (.imm (.lst .full n r)) | none => none

/-- a value seen as one that is only read -/
def view (L : List Slot) : AVal → Option AVal
  | .ref s o n => match getS L s with
    | .obj e c => viewC e c o n
    | _ => none
  | a => some a
/- (the view of a part of a struct: 'viewArg') -/
def viewL (L : List Slot) (ps : List Nat) : List AVal → Option (List AVal)
  | [] => some []
  | .ref s o n :: l => match (if (idx ps s).isSome then some (.ref s o n) else view L (.ref s o n)), viewL L ps l with | some a, some r => some (a :: r) | _, _ => none
  | a :: l => match viewL L ps l with | some r => some (a :: r) | none => none

def viewArg (L : List Slot) (ps : List Nat) : AVal → Option AVal
  | .agg l => (viewL L ps l).map .agg
  | .ref s o n => if (idx ps s).isSome then some (.ref s o n) else view L (.ref s o n)
  | a => some a

def viewArgs (L : List Slot) (ps : List Nat) : List AVal → Option (List AVal)
  | [] => some []
  | a :: l => match viewArg L ps a, viewArgs L ps l with | some x, some r => some (x :: r) | _, _ => none

/-- a result that lies in no memory -/
def plainI : IVal → Bool
  | .lst .. => false
  | _ => true
mutual
def plainA : AVal → Bool
  | .imm i => plainI i
  | .agg l => plainAs l
  | .tup l => plainAs l
  | .any => true
  | .ptr _ _ => true
  | .ref _ _ _ => true
  | _ => false
def plainAs : List AVal → Bool
  | [] => true
  | a :: l => plainA a && plainAs l
end
def plainS : Slot → Bool
  | .obj _ c => plainAs c
  | _ => true
def plainSs : List Slot → Bool
  | [] => true
  | a :: l => plainS a && plainSs l

/-- the slots that are lent to a callee, by its own names -/
def lend (L : List Slot) (ps : List Nat) : List Nat → List Slot
  | [] => []
  | p :: r => renS (idx ps) (getS L p) :: lend L ps r

/-- what the callee gives back, by the caller's names -/
def outσ (ps : List Nat) (n : Nat) (i : Nat) : Option Nat :=
  match ps[i]? with | some s => some s | none => some (n + (i - ps.length))

def giveBack (σ : Nat → Option Nat) (L : List Slot) : List Nat → List Slot → List Slot
  | [], out => L ++ out.map (renS σ)
  | p :: ps, o :: out => giveBack σ (setS L p (renS σ o)) ps out
  | _ :: _, [] => L

/-- What a function comes to: the arguments, the objects lent, the result, the objects behind the call (the lent ones first, then new ones). -/
abbrev Rets := Nat → List AVal → List Slot → AVal → List Slot → Prop

def callA (R : Rets) (n0 : Nat) (f : Nat) (as : List AVal) (L : List Slot) (K : AVal → List Slot → Prop) : Prop :=
  ∃ (ps : List Nat) (soft : Bool) (as' : List AVal) (r : AVal) (out : List Slot),
    ps.Nodup ∧ (∀ p ∈ ps, p < n0 ∧ getS L p ≠ .hole) ∧
    (if soft = true then viewArgs L ps as = some as' else as' = as) ∧
    R f (rens (idx ps) as') (lend L ps ps) r out ∧ ps.length ≤ out.length ∧
    (soft = true → plainA r = true ∧ plainSs out = true) ∧
    K (ren (outσ ps L.length) r) (giveBack (outσ ps L.length) L ps out)

/-! ### Code -/

/-- A slice against nil, where it is not known whether it is nil. -/
def nilOp (P : Program) (op : BinOp) (ty : TypeId) (x y : AVal) (L : List Slot) (K : AVal → List Slot → Prop) : Prop :=
  match op, x, y with
  | .eql, .imm (.lst _ n _), .imm (.lst .nil _ _) => isSliceK (tiOf P ty).kind = true ∧ ∀ b : Bool, (b = true → n = 0) → K (.imm (.bool b)) L
  | .neq, .imm (.lst _ n _), .imm (.lst .nil _ _) => isSliceK (tiOf P ty).kind = true ∧ ∀ b : Bool, (b = false → n = 0) → K (.imm (.bool b)) L
  | _, _, _ => False

/-- n0: the slots below it hold what the text says, whatever the order; nd: an answer may be open. -/
def aop (P : Program) (R : Rets) (n0 : Nat) (nd : Bool) (o : Op) (t : List AVal) (L : List Slot) (K : AVal → List Slot → Prop) : Prop :=
  match rv P (ev t) L o with
  | some (p, v) => p ∧ K v L
  | none => match wv P (ev t) L o with
    | some (p, v, L') => p ∧ K v L'
    | none => match o with
      | .call { callee := .value f, args, .. } => match ev t f with
        | .clo g a b => callA R n0 g (a ++ mapO (ev t) args.toList ++ b) L K
        | _ => False
      | .binOp op ty x y _ => nd = true ∧ nilOp P op ty (ev t x) (ev t y) L K
      | _ => False

def nthO : List Oper → Nat → Option Oper
  | [], _ => none
  | a :: _, 0 => some a
  | _ :: l, n + 1 => nthO l n

/-- whether an operation is wanted: its guard's answer -/
def wants (all : List Oper) (t : List AVal) (g : Nat × Bool) (yes no : Prop) : Prop :=
  match (nthO all g.1).bind (·.dst) with
  | some d => match getT t d with
    | .imm (.bool b) => (b = g.2 → yes) ∧ (b = (!g.2) → no)
    | .tup [] => no
    | _ => False
  | none => no

/-- A region in the order of its text. -/
def aops (P : Program) (R : Rets) (all : List Oper) : List Oper → List AVal → List Slot → (List AVal → List Slot → Prop) → Prop
  | [], t, L, K => K t L
  | o :: rest, t, L, K =>
    match o.guard with
    | none => aop P R L.length true o.op t L fun v L' => aops P R all rest (putD t o.dst v) L' K
    | some g => wants all t g (aop P R L.length true o.op t L fun v L' => aops P R all rest (putD t o.dst v) L' K) (aops P R all rest (putD t o.dst und) L K)

inductive AExit
  | normal | ret | exit (id : Nat)

/-- What is done without an operation: temporaries forgotten; slots renumbered or dropped; an object frozen. -/
inductive Gh
  | mask (ks : List Nat)
  | re (ρ : List (Option Nat))
  | frz (s : Nat)
  | weak

def maskT : Nat → List Nat → List AVal → List AVal
  | _, _, [] => []
  | i, [], _ :: t => .any :: maskT (i + 1) [] t
  | i, k :: ks, a :: t => if i = k then a :: maskT (i + 1) ks t else .any :: maskT (i + 1) (k :: ks) t

def posO : List (Option Nat) → Nat → Option Nat
  | [], _ => none
  | some a :: l, s => if a = s then some 0 else (posO l s).map (· + 1)
  | none :: l, s => (posO l s).map (· + 1)

/-- every slot once at most; the first k stay or are given up -/
def okRe (k : Nat) (ρ : List (Option Nat)) : Bool := (ρ.filterMap id).Nodup && decide (k ≤ ρ.length) && (List.range k).all fun j => ρ[j]? == some none || ρ[j]? == some (some j)

def moveS (σ : Nat → Option Nat) (L : List Slot) : List (Option Nat) → List Slot
  | [] => []
  | some s :: ρ => renS σ (getS L s) :: moveS σ L ρ
  | none :: ρ => .dead :: moveS σ L ρ

mutual
def frzA (s e : Nat) (c : List AVal) : AVal → AVal
  | .ref s' off n => if s' = s then (match viewC e c off n with | some a => a | none => .any) else .ref s' off n
  | .agg l => .agg (frzAs s e c l)
  | .tup l => .tup (frzAs s e c l)
  | .clo f a b => .clo f (frzAs s e c a) (frzAs s e c b)
  | a => a
def frzAs (s e : Nat) (c : List AVal) : List AVal → List AVal
  | [] => []
  | a :: l => frzA s e c a :: frzAs s e c l
end

def frzS (s e : Nat) (c : List AVal) : Slot → Slot
  | .obj e' d => .obj e' (frzAs s e c d)
  | x => x

def frzL (s e : Nat) (c : List AVal) : List Slot → List Slot
  | [] => []
  | x :: l => frzS s e c x :: frzL s e c l

mutual
/-- a nil slice seen as one without room -/
def wkA : AVal → AVal
  | .imm (.lst .nil 0 []) => .imm (.lst .void 0 [])
  | .agg l => .agg (wkAs l)
  | .tup l => .tup (wkAs l)
  | a => a
def wkAs : List AVal → List AVal
  | [] => []
  | a :: l => wkA a :: wkAs l
end

def ghost (k : Nat) : Gh → List AVal → List Slot → Option (List AVal × List Slot)
  | .mask ks, t, L => some (maskT 0 ks t, L)
  | .re ρ, t, L => if okRe k ρ = true then some (rens (posO ρ) t, moveS (posO ρ) L ρ) else none
  | .frz s, t, L => match getS L s with
    | .obj e c => some (frzAs s e c t, frzL s e c (setS L s .dead))
    | _ => none
  | .weak, t, L => some (wkAs t, L)

def ghosts (k : Nat) : List Gh → List AVal → List Slot → Option (List AVal × List Slot)
  | [], t, L => some (t, L)
  | g :: gs, t, L => match ghost k g t L with
    | some (t', L') => ghosts k gs t' L'
    | none => none

/-! #### Regions whose order is open -/

/-- the operations that an operation waits for, as bits -/
def befores : List Oper → List Nat → List Nat
  | [], acc => acc
  | o :: l, acc => befores l (acc ++ [o.after.foldl (fun s e => if Region.binds .any e then s ||| 2 ^ e.on ||| acc.getD e.on 0 else s) 0])

def isPure : Op → Bool
  | .move _ | .assign _ | .pick _ _ _ | .extract _ _ => true
  | .binOp .. => true
  | .unOp .. => true
  | .nilCheck _ | .fieldAddr _ _ _ => true
  | .call { callee := .builtin .len, .. } => true
  | .call { callee := .builtin .max, .. } => true
  | .call { callee := .builtin .min, .. } => true
  | _ => false

def looks (all : List Oper) (o : Oper) : List Nat :=
  (o.op.operands.toList.filterMap fun | .tmp t => some t | _ => none) ++
  (match o.guard with | some (g, _) => ((nthO all g).bind (·.dst)).toList | none => [])

def apartO (all : List Oper) (x y : Oper) : Bool :=
  (match x.dst with | some d => !(looks all y).contains d && y.dst != some d | none => true) &&
  (match y.dst with | some d => !(looks all x).contains d | none => true)

/-- Who writes (ws); loads (qs) out of slots that nobody writes (F). -/
structure WK where
  ws : List Nat
  qs : List Nat
  F : List Nat
def WK.contains (w : WK) (i : Nat) : Bool := w.ws.contains i
def WK.pure (w : WK) (i : Nat) (op : Op) : Bool := isPure op || w.qs.contains i
/-- some slots stay as they are -/
def keeps (L L' : List Slot) : List Nat → Prop
  | [] => True
  | s :: F => getS L' s = getS L s ∧ keeps L L' F
/-- a load out of one of some slots -/
def quiet (F : List Nat) (ρ : Operand → AVal) : Op → Prop
  | .load _ x => match ρ x with | .ptr s _ => F.contains s = true | .iptr _ => True | _ => False
  | .indexAddr _ x _ => match ρ x with | .ref s _ _ => F.contains s = true | .imm (.lst _ _ _) => True | _ => False
  | _ => False

/-- Of two operations without an order: their temporaries are apart, and one that writes stands against pure ones alone. -/
def drawOk (ops : List Oper) (ws : WK) : Bool :=
  let b := befores ops []
  (List.range ops.length).all fun j => (List.range j).all fun i =>
    (b.getD j 0).testBit i ||
    (match ops[i]?, ops[j]? with
     | some x, some y => apartO ops x y && (!(ws.contains i) || ws.pure j y.op) && (!(ws.contains j) || ws.pure i x.op)
     | _, _ => false)

/-- every operation waits for earlier ones alone -/
def afterOk (ops : List Oper) : Bool :=
  (List.range ops.length).all fun j => match ops[j]? with
    | some o => o.after.all (fun e => e.on < j || !(Region.binds .any e)) && (match o.guard with | some (g, _) => o.after.any (fun e => e.on == g) | none => true)
    | none => false

def aopsD (P : Program) (R : Rets) (n0 : Nat) (all : List Oper) (ws : WK) : Nat → List Oper → List AVal → List Slot → (List AVal → List Slot → Prop) → Prop
  | _, [], t, L, K => K t L
  | i, o :: rest, t, L, K =>
    let op := aop P R n0 false o.op t L fun v L' => ((ws.contains i = true ∧ keeps L L' ws.F ∨ L' = L ++ L'.drop L.length) ∧ (ws.qs.contains i = true → quiet ws.F (ev t) o.op)) ∧ aopsD P R n0 all ws (i + 1) rest (putD t o.dst v) L' K
    match o.guard with
    | none => op
    | some g => wants all t g op (aopsD P R n0 all ws (i + 1) rest (putD t o.dst und) L K)

/-! #### Code -/

structure Env where
  P : Program
  R : Rets
  k : Nat

def awp (E : Env) : Code → List AVal → List Slot → (AExit → List AVal → List Slot → Prop) → Prop
  | .skip, t, L, Q => Q .normal t L
  | .label _, t, L, Q => Q .normal t L
  | .ret, t, L, Q => Q .ret t L
  | .exit id, t, L, Q => Q (.exit id) t L
  | .region _ ops draw, t, L, Q =>
    if draw = true then ∃ ws, drawOk ops.toList ws = true ∧ afterOk ops.toList = true ∧ (∀ s ∈ ws.F, s < L.length) ∧ aopsD E.P E.R L.length ops.toList ws 0 ops.toList t L fun t L => Q .normal t L
    else aops E.P E.R ops.toList ops.toList t L fun t L => Q .normal t L
  | .seq a b, t, L, Q => awp E a t L fun e t L => match e with | .normal => awp E b t L Q | e => Q e t L
  | .cond c a b, t, L, Q => match ev t c with
    | .imm (.bool x) => (x = true → awp E a t L Q) ∧ (x = false → awp E b t L Q)
    | _ => False
  | .block id body, t, L, Q => awp E body t L fun e t L => match e with | .exit j => if j = id then Q .normal t L else Q (.exit j) t L | e => Q e t L
  | .loop body, t, L, Q => ∃ (I : Nat → List AVal → List Slot → Prop) (n : Nat) (gs : List Gh) (t' : List AVal) (L' : List Slot), ghosts E.k gs t L = some (t', L') ∧ I n t' L' ∧
      ∀ n t L, I n t L → awp E body t L fun e t L => match e with
        | .normal => ∃ (m : Nat) (gs : List Gh) (t' : List AVal) (L' : List Slot), ghosts E.k gs t L = some (t', L') ∧ I m t' L' ∧ m < n
        | e => Q e t L
  | _, _, _, _ => False

/-- The results of a function. -/
def resA (P : Program) (t : List AVal) (L : List Slot) : List ResultVar → Option (Prop × List AVal)
  | [] => some (True, [])
  | .tmp x :: l => match resA P t L l with | some (p, vs) => some (p, getT t x :: vs) | none => none
  | .cell x ty :: l => match loadA P L ty (getT t x), resA P t L l with | some (p, v), some (q, vs) => some (p ∧ q, v :: vs) | _, _ => none

def oneOr : List AVal → AVal
  | [v] => v
  | l => .tup l

def padT : Nat → List AVal
  | 0 => []
  | n + 1 => und :: padT n

/-- What a function comes to, its calls told by R. -/
def body (P : Program) (R : Rets) : Rets := fun f as Lin r out =>
  ∃ fn code, P.funcs[f]? = some fn ∧ fn.body = some code ∧ fn.name ≠ "runtime.NumGoroutine" ∧ as.length ≤ fn.ntmps ∧
    awp ⟨P, R, Lin.length⟩ code (as ++ padT (fn.ntmps - as.length)) Lin fun e t L => (match e with | .exit _ => False | _ => True) ∧
      ∃ gs t' L' p vs gs2, ghosts Lin.length gs t L = some (t', L') ∧ resA P t' L' fn.results.toList = some (p, vs) ∧ p ∧ ghosts Lin.length gs2 [oneOr vs] L' = some ([r], out)

/-- What a function comes to, calls at most d deep. -/
def Ret (P : Program) : Nat → Rets
  | 0 => fun _ _ _ _ _ => False
  | d + 1 => body P (Ret P d)

end Go.Abs
