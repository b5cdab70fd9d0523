/- Parts of the proof, in one text. -/
import Derived.Deep.Cut
import Derived.Test.YtmidnaafljgbiaaN27
import Derived.Test.YtmidnaafljgbiaaN16
/- When a world is ok: its runs, its queue, its links, its sum. -/
namespace Go.Proofs.Ytmidnaafljgbiaa
open Go.RowKit
set_option maxRecDepth 100000
attribute [local go_sem ↓] Go.wp_at_zero Go.wp_at_succ

end Go.Proofs.Ytmidnaafljgbiaa
/- What the reference says of worlds: how many values wait, who is alive, whether all is idle. -/
namespace Go.Proofs.Ytmidnaafljgbiaa
open Go.RowKit
set_option maxRecDepth 100000

end Go.Proofs.Ytmidnaafljgbiaa
/- Who is alive in a world, by the reference. -/
namespace Go.Proofs.Ytmidnaafljgbiaa
open Go.RowKit
set_option maxRecDepth 100000

end Go.Proofs.Ytmidnaafljgbiaa
