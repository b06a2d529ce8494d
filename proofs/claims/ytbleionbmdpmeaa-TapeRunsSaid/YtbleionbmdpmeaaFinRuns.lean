/- TapeRuns of standstilllaw01 answers true for every machine, every configuration and every count of steps; there are no conditions. -/
import Derived.Test.YtbleionbmdpmeaaT43
import Derived.Test.YtbleionbmdpmeaaFrameRuns
namespace Go.Proofs.Ytbleionbmdpmeaa

theorem tapeRunsSaid : Rows.TapeRunsSaid := TapeRuns.said tapeRuns_comes
end Go.Proofs.Ytbleionbmdpmeaa
