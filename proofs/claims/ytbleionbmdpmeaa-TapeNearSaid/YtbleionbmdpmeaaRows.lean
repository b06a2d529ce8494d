/-
  No cell of these rows narrows 'for every input' (looked for: loops, veiled, ifaces, maps, wideKeys, modest, calm, conditions, laid).
  DERIVED. THE GIVEN ROWS OF THIS SEAT. 12 by the template 'for every input the law returns true; each argument reads behind the call as it read before'; 0 by the template 'total and deterministic' (their statements: YtbleionbmdpmeaaTotals.lean).
  GIVEN WITH THE SEED: the statements are not yours to turn. If you find one false, say at which input.
  Laid BY PROGRAM, IN A SANDBOX (cutbox-rows.mjs): the forced cells as the released guide's own fill.sh prints them over the translation bc2ec8531ffdd8aa… (all of the seat's roots in one cut). By AI agents, Wed Nov 11 2026. No macro, syntax, notation, axiom, sorry.
-/
import Derived.Test.YtbleionbmdpmeaaChecked
import GoSem.Claim
import GoSem.ClaimJoined
import GoSem.ClaimMapViews
import Derived.JoinedTies
import Derived.KernelRfl
namespace Go.Proofs.Ytbleionbmdpmeaa
/- THE CELL 'sum', in the pinned program and in every row, IS THE sha256 OF THE DUMP (.gsa) THAT YtbleionbmdpmeaaProg.lean LOADS. Nothing in Lean hashes anything: it is a label: what it is worth is what the hold of that sum in a sandbox is worth. -/
noncomputable def Try.pinned : Pinned := { name := "ytbleionbmdpmeaa", sum := "bc2ec8531ffdd8aa98a1a581d4801fc7a13fe81af501ae2addf91f2c021a8374", checked := Try.checked }
namespace Rows
def none {H : Type} : Left H := { results := [], args := [] }

/-- 'standstilllaw01.TapeRuns': WHATEVER THE INPUT: true; the input reads as it did. -/
def tapeRunsSpec : ChangeSpec := { name := "tapeRuns", fn := fun _ => fun
  | [d1, d2, d3] => { results := [.lit (.bool true)], args := [d1, d2, d3] }
  | _ => none }
def tapeRunsRow : OpenClaim := { program := "ytbleionbmdpmeaa", sum := "bc2ec8531ffdd8aa98a1a581d4801fc7a13fe81af501ae2addf91f2c021a8374", func := "standstill/standstilllaw01.TapeRuns", spec := "tapeRuns", plainKeys := false, apart := false }
def TapeRunsSaid : Prop := tapeRunsRow.holds Try.pinned (OpenSpec.ofChange tapeRunsSpec)

/-- ITS FALSE NEIGHBOUR: 'it returns false'. Refute it at one input. -/
def tapeRunsWrong : ChangeSpec := { name := "tapeRuns", fn := fun _ => fun
  | [d1, d2, d3] => { results := [.lit (.bool false)], args := [d1, d2, d3] }
  | _ => none }
def TapeRunsWrongFalsely : Prop := tapeRunsRow.holds Try.pinned (OpenSpec.ofChange tapeRunsWrong)

/-- 'standstilllaw01.TapeTexts': WHATEVER THE INPUT: true; the input reads as it did. -/
def tapeTextsSpec : ChangeSpec := { name := "tapeTexts", fn := fun _ => fun
  | [d1, d2] => { results := [.lit (.bool true)], args := [d1, d2] }
  | _ => none }
def tapeTextsRow : OpenClaim := { program := "ytbleionbmdpmeaa", sum := "bc2ec8531ffdd8aa98a1a581d4801fc7a13fe81af501ae2addf91f2c021a8374", func := "standstill/standstilllaw01.TapeTexts", spec := "tapeTexts", plainKeys := false, apart := false }
def TapeTextsSaid : Prop := tapeTextsRow.holds Try.pinned (OpenSpec.ofChange tapeTextsSpec)

/-- ITS FALSE NEIGHBOUR: 'it returns false'. Refute it at one input. -/
def tapeTextsWrong : ChangeSpec := { name := "tapeTexts", fn := fun _ => fun
  | [d1, d2] => { results := [.lit (.bool false)], args := [d1, d2] }
  | _ => none }
def TapeTextsWrongFalsely : Prop := tapeTextsRow.holds Try.pinned (OpenSpec.ofChange tapeTextsWrong)

/-- 'standstilllaw01.TapeParts': WHATEVER THE INPUT: true; the input reads as it did. -/
def tapePartsSpec : ChangeSpec := { name := "tapeParts", fn := fun _ => fun
  | [d1, d2, d3, d4] => { results := [.lit (.bool true)], args := [d1, d2, d3, d4] }
  | _ => none }
def tapePartsRow : OpenClaim := { program := "ytbleionbmdpmeaa", sum := "bc2ec8531ffdd8aa98a1a581d4801fc7a13fe81af501ae2addf91f2c021a8374", func := "standstill/standstilllaw01.TapeParts", spec := "tapeParts", plainKeys := false, apart := false }
def TapePartsSaid : Prop := tapePartsRow.holds Try.pinned (OpenSpec.ofChange tapePartsSpec)

/-- ITS FALSE NEIGHBOUR: 'it returns false'. Refute it at one input. -/
def tapePartsWrong : ChangeSpec := { name := "tapeParts", fn := fun _ => fun
  | [d1, d2, d3, d4] => { results := [.lit (.bool false)], args := [d1, d2, d3, d4] }
  | _ => none }
def TapePartsWrongFalsely : Prop := tapePartsRow.holds Try.pinned (OpenSpec.ofChange tapePartsWrong)

/-- 'standstilllaw01.TapeNear': WHATEVER THE INPUT: true; the input reads as it did. -/
def tapeNearSpec : ChangeSpec := { name := "tapeNear", fn := fun _ => fun
  | [d1, d2, d3, d4] => { results := [.lit (.bool true)], args := [d1, d2, d3, d4] }
  | _ => none }
def tapeNearRow : OpenClaim := { program := "ytbleionbmdpmeaa", sum := "bc2ec8531ffdd8aa98a1a581d4801fc7a13fe81af501ae2addf91f2c021a8374", func := "standstill/standstilllaw01.TapeNear", spec := "tapeNear", plainKeys := false, apart := false }
def TapeNearSaid : Prop := tapeNearRow.holds Try.pinned (OpenSpec.ofChange tapeNearSpec)

/-- ITS FALSE NEIGHBOUR: 'it returns false'. Refute it at one input. -/
def tapeNearWrong : ChangeSpec := { name := "tapeNear", fn := fun _ => fun
  | [d1, d2, d3, d4] => { results := [.lit (.bool false)], args := [d1, d2, d3, d4] }
  | _ => none }
def TapeNearWrongFalsely : Prop := tapeNearRow.holds Try.pinned (OpenSpec.ofChange tapeNearWrong)

/-- 'standstilllaw03.TraceLists': WHATEVER THE INPUT: true; the input reads as it did. -/
def traceListsSpec : ChangeSpec := { name := "traceLists", fn := fun _ => fun
  | [d1, d2, d3] => { results := [.lit (.bool true)], args := [d1, d2, d3] }
  | _ => none }
def traceListsRow : OpenClaim := { program := "ytbleionbmdpmeaa", sum := "bc2ec8531ffdd8aa98a1a581d4801fc7a13fe81af501ae2addf91f2c021a8374", func := "standstill/standstilllaw03.TraceLists", spec := "traceLists", unfollowed := true, recurses := true, plainKeys := false, apart := false }
def TraceListsSaid : Prop := traceListsRow.holds Try.pinned (OpenSpec.ofChange traceListsSpec)

/-- ITS FALSE NEIGHBOUR: 'it returns false'. Refute it at one input. -/
def traceListsWrong : ChangeSpec := { name := "traceLists", fn := fun _ => fun
  | [d1, d2, d3] => { results := [.lit (.bool false)], args := [d1, d2, d3] }
  | _ => none }
def TraceListsWrongFalsely : Prop := traceListsRow.holds Try.pinned (OpenSpec.ofChange traceListsWrong)

/-- 'standstilllaw03.TraceSteps': WHATEVER THE INPUT: true; the input reads as it did. -/
def traceStepsSpec : ChangeSpec := { name := "traceSteps", fn := fun _ => fun
  | [d1, d2, d3] => { results := [.lit (.bool true)], args := [d1, d2, d3] }
  | _ => none }
def traceStepsRow : OpenClaim := { program := "ytbleionbmdpmeaa", sum := "bc2ec8531ffdd8aa98a1a581d4801fc7a13fe81af501ae2addf91f2c021a8374", func := "standstill/standstilllaw03.TraceSteps", spec := "traceSteps", unfollowed := true, recurses := true, plainKeys := false, apart := false }
def TraceStepsSaid : Prop := traceStepsRow.holds Try.pinned (OpenSpec.ofChange traceStepsSpec)

/-- ITS FALSE NEIGHBOUR: 'it returns false'. Refute it at one input. -/
def traceStepsWrong : ChangeSpec := { name := "traceSteps", fn := fun _ => fun
  | [d1, d2, d3] => { results := [.lit (.bool false)], args := [d1, d2, d3] }
  | _ => none }
def TraceStepsWrongFalsely : Prop := traceStepsRow.holds Try.pinned (OpenSpec.ofChange traceStepsWrong)

/-- 'standstilltop.TopSteps': WHATEVER THE INPUT: true; the input reads as it did. -/
def topStepsSpec : ChangeSpec := { name := "topSteps", fn := fun _ => fun
  | [d1, d2] => { results := [.lit (.bool true)], args := [d1, d2] }
  | _ => none }
def topStepsRow : OpenClaim := { program := "ytbleionbmdpmeaa", sum := "bc2ec8531ffdd8aa98a1a581d4801fc7a13fe81af501ae2addf91f2c021a8374", func := "standstill/standstilltop.TopSteps", spec := "topSteps", plainKeys := false, apart := false }
def TopStepsSaid : Prop := topStepsRow.holds Try.pinned (OpenSpec.ofChange topStepsSpec)

/-- ITS FALSE NEIGHBOUR: 'it returns false'. Refute it at one input. -/
def topStepsWrong : ChangeSpec := { name := "topSteps", fn := fun _ => fun
  | [d1, d2] => { results := [.lit (.bool false)], args := [d1, d2] }
  | _ => none }
def TopStepsWrongFalsely : Prop := topStepsRow.holds Try.pinned (OpenSpec.ofChange topStepsWrong)

/-- 'standstilllaw03.TraceSame': WHATEVER THE INPUT: true; the input reads as it did. -/
def traceSameSpec : ChangeSpec := { name := "traceSame", fn := fun _ => fun
  | [d1, d2, d3, d4, d5, d6] => { results := [.lit (.bool true)], args := [d1, d2, d3, d4, d5, d6] }
  | _ => none }
def traceSameRow : OpenClaim := { program := "ytbleionbmdpmeaa", sum := "bc2ec8531ffdd8aa98a1a581d4801fc7a13fe81af501ae2addf91f2c021a8374", func := "standstill/standstilllaw03.TraceSame", spec := "traceSame", unfollowed := true, recurses := true, plainKeys := false, apart := false }
def TraceSameSaid : Prop := traceSameRow.holds Try.pinned (OpenSpec.ofChange traceSameSpec)

/-- ITS FALSE NEIGHBOUR: 'it returns false'. Refute it at one input. -/
def traceSameWrong : ChangeSpec := { name := "traceSame", fn := fun _ => fun
  | [d1, d2, d3, d4, d5, d6] => { results := [.lit (.bool false)], args := [d1, d2, d3, d4, d5, d6] }
  | _ => none }
def TraceSameWrongFalsely : Prop := traceSameRow.holds Try.pinned (OpenSpec.ofChange traceSameWrong)

/-- 'standstilltop.TopFour': WHATEVER THE INPUT: true; the input reads as it did. -/
def topFourSpec : ChangeSpec := { name := "topFour", fn := fun _ => fun
  | [d1, d2] => { results := [.lit (.bool true)], args := [d1, d2] }
  | _ => none }
def topFourRow : OpenClaim := { program := "ytbleionbmdpmeaa", sum := "bc2ec8531ffdd8aa98a1a581d4801fc7a13fe81af501ae2addf91f2c021a8374", func := "standstill/standstilltop.TopFour", spec := "topFour", unfollowed := true, recurses := true, plainKeys := false, apart := false }
def TopFourSaid : Prop := topFourRow.holds Try.pinned (OpenSpec.ofChange topFourSpec)

/-- ITS FALSE NEIGHBOUR: 'it returns false'. Refute it at one input. -/
def topFourWrong : ChangeSpec := { name := "topFour", fn := fun _ => fun
  | [d1, d2] => { results := [.lit (.bool false)], args := [d1, d2] }
  | _ => none }
def TopFourWrongFalsely : Prop := topFourRow.holds Try.pinned (OpenSpec.ofChange topFourWrong)

/-- 'standstilltop.TopThree': WHATEVER THE INPUT: true; the input reads as it did. -/
def topThreeSpec : ChangeSpec := { name := "topThree", fn := fun _ => fun
  | [d1, d2, d3] => { results := [.lit (.bool true)], args := [d1, d2, d3] }
  | _ => none }
def topThreeRow : OpenClaim := { program := "ytbleionbmdpmeaa", sum := "bc2ec8531ffdd8aa98a1a581d4801fc7a13fe81af501ae2addf91f2c021a8374", func := "standstill/standstilltop.TopThree", spec := "topThree", unfollowed := true, recurses := true, plainKeys := false, apart := false }
def TopThreeSaid : Prop := topThreeRow.holds Try.pinned (OpenSpec.ofChange topThreeSpec)

/-- ITS FALSE NEIGHBOUR: 'it returns false'. Refute it at one input. -/
def topThreeWrong : ChangeSpec := { name := "topThree", fn := fun _ => fun
  | [d1, d2, d3] => { results := [.lit (.bool false)], args := [d1, d2, d3] }
  | _ => none }
def TopThreeWrongFalsely : Prop := topThreeRow.holds Try.pinned (OpenSpec.ofChange topThreeWrong)

/-- 'standstilllaw01.TapeSame': WHATEVER THE INPUT: true; the input reads as it did. -/
def tapeSameSpec : ChangeSpec := { name := "tapeSame", fn := fun _ => fun
  | [d1, d2, d3, d4, d5, d6] => { results := [.lit (.bool true)], args := [d1, d2, d3, d4, d5, d6] }
  | _ => none }
def tapeSameRow : OpenClaim := { program := "ytbleionbmdpmeaa", sum := "bc2ec8531ffdd8aa98a1a581d4801fc7a13fe81af501ae2addf91f2c021a8374", func := "standstill/standstilllaw01.TapeSame", spec := "tapeSame", plainKeys := false, apart := false }
def TapeSameSaid : Prop := tapeSameRow.holds Try.pinned (OpenSpec.ofChange tapeSameSpec)

/-- ITS FALSE NEIGHBOUR: 'it returns false'. Refute it at one input. -/
def tapeSameWrong : ChangeSpec := { name := "tapeSame", fn := fun _ => fun
  | [d1, d2, d3, d4, d5, d6] => { results := [.lit (.bool false)], args := [d1, d2, d3, d4, d5, d6] }
  | _ => none }
def TapeSameWrongFalsely : Prop := tapeSameRow.holds Try.pinned (OpenSpec.ofChange tapeSameWrong)

/-- 'standstilllaw01.TapeTurns': WHATEVER THE INPUT: true; the input reads as it did. -/
def tapeTurnsSpec : ChangeSpec := { name := "tapeTurns", fn := fun _ => fun
  | [d1, d2, d3, d4, d5] => { results := [.lit (.bool true)], args := [d1, d2, d3, d4, d5] }
  | _ => none }
def tapeTurnsRow : OpenClaim := { program := "ytbleionbmdpmeaa", sum := "bc2ec8531ffdd8aa98a1a581d4801fc7a13fe81af501ae2addf91f2c021a8374", func := "standstill/standstilllaw01.TapeTurns", spec := "tapeTurns", plainKeys := false, apart := false }
def TapeTurnsSaid : Prop := tapeTurnsRow.holds Try.pinned (OpenSpec.ofChange tapeTurnsSpec)

/-- ITS FALSE NEIGHBOUR: 'it returns false'. Refute it at one input. -/
def tapeTurnsWrong : ChangeSpec := { name := "tapeTurns", fn := fun _ => fun
  | [d1, d2, d3, d4, d5] => { results := [.lit (.bool false)], args := [d1, d2, d3, d4, d5] }
  | _ => none }
def TapeTurnsWrongFalsely : Prop := tapeTurnsRow.holds Try.pinned (OpenSpec.ofChange tapeTurnsWrong)

/- THE SECOND FORM. 'bulk': how many values and letters a reading holds, each counted each time it is reached (what is shared counts as often as it is met; a slice's spare places count too). A statement '..UptoSaid' is the law's where the arguments, and the package variables that the reading takes, are together of bulk at most 1048576: NARROWER than '..Said'. Prove '..Said' where nothing that the law and all that it calls make is longer than what came in: it says more and counts as full. Else prove '..UptoSaid'. A law counts once. -/
mutual
def uptoBulk {H : Type} : DataW H → Nat
  | .lit (.string bytes) => bytes.length + 1
  | .lit _ => 1
  | .nil => 1
  | .ptr d => uptoBulk d + 1
  | .slice elems spare => uptoBulkAll elems + uptoBulkAll spare + 1
  | .agg parts => uptoBulkAll parts + 1
  | .iface _ d => uptoBulk d + 1
  | .map entries => uptoBulkEntries entries + 1
  | .held _ => 1
def uptoBulkAll {H : Type} : List (DataW H) → Nat
  | [] => 0
  | d :: r => uptoBulk d + uptoBulkAll r
def uptoBulkEntries {H : Type} : List (Lit × DataW H) → Nat
  | [] => 0
  | x :: r => uptoBulkEntry x + uptoBulkEntries r
def uptoBulkEntry {H : Type} : Lit × DataW H → Nat
  | (.string bytes, d) => bytes.length + uptoBulk d + 1
  | (_, d) => uptoBulk d + 1
 end
def uptoSmall : (H : Type) → List (DataW H) → Bool := fun _ ds => decide (uptoBulkAll ds ≤ 1048576)
def OpenSpec.upto (s : _root_.Go.ChangeSpec) : _root_.Go.OpenSpec := { _root_.Go.OpenSpec.ofChange s with cond := some uptoSmall }

/-- 'standstilllaw01.TapeRuns', WHERE WHAT IT READS IS OF BULK AT MOST 1048576: true; the input reads as it did. -/
def tapeRunsUptoRow : OpenClaim := { program := "ytbleionbmdpmeaa", sum := "bc2ec8531ffdd8aa98a1a581d4801fc7a13fe81af501ae2addf91f2c021a8374", func := "standstill/standstilllaw01.TapeRuns", spec := "tapeRuns", plainKeys := false, apart := false, narrowed := true }
def TapeRunsUptoSaid : Prop := tapeRunsUptoRow.holds Try.pinned (OpenSpec.upto tapeRunsSpec)

/-- 'standstilllaw01.TapeTexts', WHERE WHAT IT READS IS OF BULK AT MOST 1048576: true; the input reads as it did. -/
def tapeTextsUptoRow : OpenClaim := { program := "ytbleionbmdpmeaa", sum := "bc2ec8531ffdd8aa98a1a581d4801fc7a13fe81af501ae2addf91f2c021a8374", func := "standstill/standstilllaw01.TapeTexts", spec := "tapeTexts", plainKeys := false, apart := false, narrowed := true }
def TapeTextsUptoSaid : Prop := tapeTextsUptoRow.holds Try.pinned (OpenSpec.upto tapeTextsSpec)

/-- 'standstilllaw01.TapeParts', WHERE WHAT IT READS IS OF BULK AT MOST 1048576: true; the input reads as it did. -/
def tapePartsUptoRow : OpenClaim := { program := "ytbleionbmdpmeaa", sum := "bc2ec8531ffdd8aa98a1a581d4801fc7a13fe81af501ae2addf91f2c021a8374", func := "standstill/standstilllaw01.TapeParts", spec := "tapeParts", plainKeys := false, apart := false, narrowed := true }
def TapePartsUptoSaid : Prop := tapePartsUptoRow.holds Try.pinned (OpenSpec.upto tapePartsSpec)

/-- 'standstilllaw01.TapeNear', WHERE WHAT IT READS IS OF BULK AT MOST 1048576: true; the input reads as it did. -/
def tapeNearUptoRow : OpenClaim := { program := "ytbleionbmdpmeaa", sum := "bc2ec8531ffdd8aa98a1a581d4801fc7a13fe81af501ae2addf91f2c021a8374", func := "standstill/standstilllaw01.TapeNear", spec := "tapeNear", plainKeys := false, apart := false, narrowed := true }
def TapeNearUptoSaid : Prop := tapeNearUptoRow.holds Try.pinned (OpenSpec.upto tapeNearSpec)

/-- 'standstilllaw03.TraceLists', WHERE WHAT IT READS IS OF BULK AT MOST 1048576: true; the input reads as it did. -/
def traceListsUptoRow : OpenClaim := { program := "ytbleionbmdpmeaa", sum := "bc2ec8531ffdd8aa98a1a581d4801fc7a13fe81af501ae2addf91f2c021a8374", func := "standstill/standstilllaw03.TraceLists", spec := "traceLists", unfollowed := true, recurses := true, plainKeys := false, apart := false, narrowed := true }
def TraceListsUptoSaid : Prop := traceListsUptoRow.holds Try.pinned (OpenSpec.upto traceListsSpec)

/-- 'standstilllaw03.TraceSteps', WHERE WHAT IT READS IS OF BULK AT MOST 1048576: true; the input reads as it did. -/
def traceStepsUptoRow : OpenClaim := { program := "ytbleionbmdpmeaa", sum := "bc2ec8531ffdd8aa98a1a581d4801fc7a13fe81af501ae2addf91f2c021a8374", func := "standstill/standstilllaw03.TraceSteps", spec := "traceSteps", unfollowed := true, recurses := true, plainKeys := false, apart := false, narrowed := true }
def TraceStepsUptoSaid : Prop := traceStepsUptoRow.holds Try.pinned (OpenSpec.upto traceStepsSpec)

/-- 'standstilltop.TopSteps', WHERE WHAT IT READS IS OF BULK AT MOST 1048576: true; the input reads as it did. -/
def topStepsUptoRow : OpenClaim := { program := "ytbleionbmdpmeaa", sum := "bc2ec8531ffdd8aa98a1a581d4801fc7a13fe81af501ae2addf91f2c021a8374", func := "standstill/standstilltop.TopSteps", spec := "topSteps", plainKeys := false, apart := false, narrowed := true }
def TopStepsUptoSaid : Prop := topStepsUptoRow.holds Try.pinned (OpenSpec.upto topStepsSpec)

/-- 'standstilllaw03.TraceSame', WHERE WHAT IT READS IS OF BULK AT MOST 1048576: true; the input reads as it did. -/
def traceSameUptoRow : OpenClaim := { program := "ytbleionbmdpmeaa", sum := "bc2ec8531ffdd8aa98a1a581d4801fc7a13fe81af501ae2addf91f2c021a8374", func := "standstill/standstilllaw03.TraceSame", spec := "traceSame", unfollowed := true, recurses := true, plainKeys := false, apart := false, narrowed := true }
def TraceSameUptoSaid : Prop := traceSameUptoRow.holds Try.pinned (OpenSpec.upto traceSameSpec)

/-- 'standstilltop.TopFour', WHERE WHAT IT READS IS OF BULK AT MOST 1048576: true; the input reads as it did. -/
def topFourUptoRow : OpenClaim := { program := "ytbleionbmdpmeaa", sum := "bc2ec8531ffdd8aa98a1a581d4801fc7a13fe81af501ae2addf91f2c021a8374", func := "standstill/standstilltop.TopFour", spec := "topFour", unfollowed := true, recurses := true, plainKeys := false, apart := false, narrowed := true }
def TopFourUptoSaid : Prop := topFourUptoRow.holds Try.pinned (OpenSpec.upto topFourSpec)

/-- 'standstilltop.TopThree', WHERE WHAT IT READS IS OF BULK AT MOST 1048576: true; the input reads as it did. -/
def topThreeUptoRow : OpenClaim := { program := "ytbleionbmdpmeaa", sum := "bc2ec8531ffdd8aa98a1a581d4801fc7a13fe81af501ae2addf91f2c021a8374", func := "standstill/standstilltop.TopThree", spec := "topThree", unfollowed := true, recurses := true, plainKeys := false, apart := false, narrowed := true }
def TopThreeUptoSaid : Prop := topThreeUptoRow.holds Try.pinned (OpenSpec.upto topThreeSpec)

/-- 'standstilllaw01.TapeSame', WHERE WHAT IT READS IS OF BULK AT MOST 1048576: true; the input reads as it did. -/
def tapeSameUptoRow : OpenClaim := { program := "ytbleionbmdpmeaa", sum := "bc2ec8531ffdd8aa98a1a581d4801fc7a13fe81af501ae2addf91f2c021a8374", func := "standstill/standstilllaw01.TapeSame", spec := "tapeSame", plainKeys := false, apart := false, narrowed := true }
def TapeSameUptoSaid : Prop := tapeSameUptoRow.holds Try.pinned (OpenSpec.upto tapeSameSpec)

/-- 'standstilllaw01.TapeTurns', WHERE WHAT IT READS IS OF BULK AT MOST 1048576: true; the input reads as it did. -/
def tapeTurnsUptoRow : OpenClaim := { program := "ytbleionbmdpmeaa", sum := "bc2ec8531ffdd8aa98a1a581d4801fc7a13fe81af501ae2addf91f2c021a8374", func := "standstill/standstilllaw01.TapeTurns", spec := "tapeTurns", plainKeys := false, apart := false, narrowed := true }
def TapeTurnsUptoSaid : Prop := tapeTurnsUptoRow.holds Try.pinned (OpenSpec.upto tapeTurnsSpec)

end Rows
end Go.Proofs.Ytbleionbmdpmeaa
