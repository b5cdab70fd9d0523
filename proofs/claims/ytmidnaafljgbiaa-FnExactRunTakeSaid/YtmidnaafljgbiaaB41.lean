/- Parts of the proof, in one text. -/
import Derived.Test.YtmidnaafljgbiaaB40
import Derived.Test.YtmidnaafljgbiaaB38
import Derived.Test.YtmidnaafljgbiaaB18
/- A new run on both sides. -/
namespace Go.Proofs.Ytmidnaafljgbiaa
open Go.RowKit
set_option maxRecDepth 100000

end Go.Proofs.Ytmidnaafljgbiaa
/- The reference's new run. -/
namespace Go.Proofs.Ytmidnaafljgbiaa
open Go.RowKit
set_option maxRecDepth 100000

end Go.Proofs.Ytmidnaafljgbiaa
/- The law of a new run: program and reference answer alike, and the program's run is its own. -/
namespace Go.Proofs.Ytmidnaafljgbiaa
open Go.RowKit
set_option maxRecDepth 100000

end Go.Proofs.Ytmidnaafljgbiaa
