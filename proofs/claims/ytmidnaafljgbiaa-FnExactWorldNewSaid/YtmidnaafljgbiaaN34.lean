/- Parts of the proof, in one text. -/
import Derived.Deep.Cut
import Derived.Deep.QuietTactic
import Derived.BigQuiet
import Derived.Test.YtmidnaafljgbiaaN33
/- The reference's giving: who is not there, did end, or has no room. -/
namespace Go.Proofs.Ytmidnaafljgbiaa
open Go.RowKit
set_option maxRecDepth 100000

end Go.Proofs.Ytmidnaafljgbiaa
/- The reference's giving: who is there and has room. -/
namespace Go.Proofs.Ytmidnaafljgbiaa
open Go.RowKit
set_option maxRecDepth 100000

end Go.Proofs.Ytmidnaafljgbiaa
/- The reference's giving, whole. -/
namespace Go.Proofs.Ytmidnaafljgbiaa
open Go.RowKit

end Go.Proofs.Ytmidnaafljgbiaa
