/- Parts of the proof, in one text. -/
import Derived.Deep.RegionWith
import Derived.Test.YtmidnaafljgbiaaB20
import Derived.Test.YtmidnaafljgbiaaB18
import Derived.Test.YtmidnaafljgbiaaB19
import Derived.Test.YtmidnaafljgbiaaB23
import Derived.Test.YtmidnaafljgbiaaB04
import Derived.Test.YtmidnaafljgbiaaB12
/- The reference's copy of a world. -/
namespace Go.Proofs.Ytmidnaafljgbiaa
open Go.RowKit
set_option maxRecDepth 100000

end Go.Proofs.Ytmidnaafljgbiaa
/- The laws' own sizes of worlds. -/
namespace Go.Proofs.Ytmidnaafljgbiaa
open Go.RowKit
set_option maxRecDepth 100000

end Go.Proofs.Ytmidnaafljgbiaa
/- The laws' marks on runs. -/
namespace Go.Proofs.Ytmidnaafljgbiaa
open Go.RowKit
set_option maxRecDepth 100000

theorem Mem.rwsHead {w0 w : World} {f : List Nat} {L : List Asn} {p : Rn × RA} {ps : List (Rn × RA)} (M : Mem w0 f w (rws (p :: ps) :: L)) : Mem w0 f w (runA p.1 p.2 :: rws ps :: L) := by
  refine M.split (L' := [runA p.1 p.2, rws ps]) (fun h X hX => ?_) ?_
  · simp only [List.mem_cons, List.not_mem_nil, or_false] at hX
    rcases hX with rfl | rfl
    · exact h _ (by simp)
    · exact fun A hA => h A (List.mem_cons_of_mem _ hA)
  · simp [fps, rws, Go.Proofs.Ytmidnaafljgbiaa.pack]
end Go.Proofs.Ytmidnaafljgbiaa
/- A world's runs in plain words and in memory: their number, and the run of a number. -/
namespace Go.Proofs.Ytmidnaafljgbiaa
open Go.RowKit
theorem getR_ps {W : Wm} {k : Nat} (hk : k < W.ps.length) : getR W.wd.runs ((k : Int) + 1) = W.ps[k].1 := by
  have e : ((k : Int) + 1 - 1).toNat = k := by omega
  simp [getR, Wm.wd, List.getD_eq_getElem?_getD, hk]
theorem runsLen (W : Wm) : W.wd.runs.length = W.ps.length := by simp [Wm.wd]
end Go.Proofs.Ytmidnaafljgbiaa
