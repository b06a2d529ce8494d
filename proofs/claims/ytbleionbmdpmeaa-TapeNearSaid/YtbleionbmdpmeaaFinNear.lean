/- TapeNear of standstilllaw01 answers true for every machine, every two configurations and every number; there are no conditions. -/
import Derived.Test.YtbleionbmdpmeaaT65
import Derived.Test.YtbleionbmdpmeaaFrameNear
namespace Go.Proofs.Ytbleionbmdpmeaa

theorem tapeNearSaid : Rows.TapeNearSaid := TapeNear.said fun m c d n hm hc hd hn => ⟨_, tapeNear_ret 0 m c d n hm hc hd hn⟩
end Go.Proofs.Ytbleionbmdpmeaa
