/- TapeParts of standstilllaw01 answers true for every machine, every configuration and every two numbers; there are no conditions. -/
import Derived.Test.YtbleionbmdpmeaaT62
import Derived.Test.YtbleionbmdpmeaaFrameParts
namespace Go.Proofs.Ytbleionbmdpmeaa

theorem tapePartsSaid : Rows.TapePartsSaid := TapeParts.said fun m c n k hm hc hn hk => ⟨_, tapeParts_ret 0 m c n k hm hc hn hk⟩
end Go.Proofs.Ytbleionbmdpmeaa
