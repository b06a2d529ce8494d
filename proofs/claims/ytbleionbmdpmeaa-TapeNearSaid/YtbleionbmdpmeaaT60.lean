/- Numbers of sixteen bits as arguments. -/
import Derived.Test.YtbleionbmdpmeaaT0
set_option linter.unusedVariables false
namespace Go.Proofs.Ytbleionbmdpmeaa
open Go.Abs
def u16ok (n : Int) : Prop := 0 ≤ n ∧ n ≤ 65535
theorem u16ok_of {n : Int} (h : (Lit.int .u16 n).wf = true) : u16ok n := by
  simp [Lit.wf, IntKind.min, IntKind.max, IntKind.signed, IntKind.bits] at h
  exact ⟨by omega, by omega⟩
theorem opens_u16 : Opens Try.prog 52 (fun n : Int => [.int .u16 n]) u16ok := (Opens.int Try.underlying52).iso id (fun _ => rfl) (fun _ h => u16ok_of h)
end Go.Proofs.Ytbleionbmdpmeaa
