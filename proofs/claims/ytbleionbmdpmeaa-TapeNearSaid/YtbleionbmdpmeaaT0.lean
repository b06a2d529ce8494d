/- The program's types as the abstract semantics sees them: machines, configurations, rules. -/
import Derived.Test.YtbleionbmdpmeaaProg
import Derived.Test.YtbleionbmdpmeaaAbsM
import Derived.KernelRfl
set_option linter.unusedVariables false
namespace Go.Proofs.Ytbleionbmdpmeaa
open Go.Abs

structure Rule where
  wr : Int
  mv : Int
  nx : Int

structure Mach where
  ns : Int
  ny : Int
  rs : Lst (Lst Rule)

structure Conf where
  st : Int
  pos : Int
  fr : Int
  cs : Lst Int

def int64 (n : Int) : IVal := .int .i64 n
def Rule.cells (r : Rule) : List IVal := [.int .i64 r.wr, .int .i64 r.mv, .int .i64 r.nx]
def rowIV (s : Lst Rule) : IVal := s.iv Rule.cells
def rowsIV (s : Lst (Lst Rule)) : IVal := s.iv (fun r => [rowIV r])
def intsIV (s : Lst Int) : IVal := s.iv (fun n => [.int .i64 n])
def Mach.cells (m : Mach) : List IVal := [.int .i64 m.ns, .int .i64 m.ny, rowsIV m.rs]
def Conf.cells (c : Conf) : List IVal := [.int .i64 c.st, .int .i64 c.pos, .int .i64 c.fr, intsIV c.cs]
def Mach.av (m : Mach) : AVal := .agg [.imm (.int .i64 m.ns), .imm (.int .i64 m.ny), .imm (rowsIV m.rs)]
def Conf.av (c : Conf) : AVal := .agg [.imm (.int .i64 c.st), .imm (.int .i64 c.pos), .imm (.int .i64 c.fr), .imm (intsIV c.cs)]

def i64ok (n : Int) : Prop := -9223372036854775808 ≤ n ∧ n ≤ 9223372036854775807
def lenok (n : Nat) : Prop := n ≤ 140737488351232
structure Rule.ok (r : Rule) : Prop where
  wr : i64ok r.wr
  mv : i64ok r.mv
  nx : i64ok r.nx
def rowOk (s : Lst Rule) : Prop := lenok s.l.length ∧ ∀ r ∈ s.l, r.ok
structure Mach.ok (m : Mach) : Prop where
  ns : i64ok m.ns
  ny : i64ok m.ny
  len : lenok m.rs.l.length
  rows : ∀ r ∈ m.rs.l, rowOk r
structure Conf.ok (c : Conf) : Prop where
  st : i64ok c.st
  pos : i64ok c.pos
  fr : i64ok c.fr
  len : lenok c.cs.l.length
  cells : ∀ n ∈ c.cs.l, i64ok n

theorem i64ok_of {n : Int} (h : (Lit.int .i64 n).wf = true) : i64ok n := by
  simp [Lit.wf, IntKind.min, IntKind.max, IntKind.signed, IntKind.bits] at h
  exact ⟨by omega, by omega⟩

theorem opens_int : Opens Try.prog 3 (fun n : Int => [.int .i64 n]) i64ok := (Opens.int Try.underlying3).iso id (fun _ => rfl) (fun _ h => i64ok_of h)

theorem opens_rule : Opens Try.prog 94 Rule.cells Rule.ok :=
  (Opens.struct Try.underlying94 (.cons opens_int (.cons opens_int (.cons opens_int .nil))) (by kernel_rfl)).iso (fun x => ⟨x.1, x.2.1, x.2.2.1⟩) (fun _ => rfl) (fun _ h => ⟨h.1, h.2.1, h.2.2.1⟩)

theorem lenok_of {n b : Nat} (h : n * b ≤ reachBytes) (hb : 0 < b) : lenok n := Nat.le_trans (Nat.le_mul_of_pos_right n hb) h

theorem opens_row : Opens Try.prog 99 (fun s => [rowIV s]) rowOk :=
  (Opens.slice (z := 3) Try.underlying99 (by kernel_rfl) (by decide) opens_rule).iso id (fun _ => rfl) (fun _ h => ⟨lenok_of h.1 (of_decide_eq_true (by kernel_rfl)), h.2⟩)

theorem opens_rows : Opens Try.prog 22 (fun s => [rowsIV s]) (fun s => lenok s.l.length ∧ ∀ r ∈ s.l, rowOk r) :=
  (Opens.slice (z := 1) Try.underlying22 (by kernel_rfl) (by decide) opens_row).iso id (fun _ => rfl) (fun _ h => ⟨lenok_of h.1 (of_decide_eq_true (by kernel_rfl)), h.2⟩)

theorem opens_ints : Opens Try.prog 25 (fun s => [intsIV s]) (fun s => lenok s.l.length ∧ ∀ n ∈ s.l, i64ok n) :=
  (Opens.slice (z := 1) Try.underlying25 (by kernel_rfl) (by decide) opens_int).iso id (fun _ => rfl) (fun _ h => ⟨lenok_of h.1 (of_decide_eq_true (by kernel_rfl)), h.2⟩)

theorem opens_mach : Opens Try.prog 24 Mach.cells Mach.ok :=
  (Opens.struct Try.underlying24 (.cons opens_int (.cons opens_int (.cons opens_rows .nil))) (by kernel_rfl)).iso (fun x => ⟨x.1, x.2.1, x.2.2.1⟩) (fun _ => rfl) (fun _ h => ⟨h.1, h.2.1, h.2.2.1.1, h.2.2.1.2⟩)

theorem opens_conf : Opens Try.prog 27 Conf.cells Conf.ok :=
  (Opens.struct Try.underlying27 (.cons opens_int (.cons opens_int (.cons opens_int (.cons opens_ints .nil)))) (by kernel_rfl)).iso (fun x => ⟨x.1, x.2.1, x.2.2.1, x.2.2.2.1⟩) (fun _ => rfl) (fun _ h => ⟨h.1, h.2.1, h.2.2.1, h.2.2.2.1.1, h.2.2.2.1.2⟩)

theorem mixed : Try.prog.follows .mixedOrders = true := by kernel_rfl

end Go.Proofs.Ytbleionbmdpmeaa
