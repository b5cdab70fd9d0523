/- Parts of the proof, in one text. -/
import Derived.Deep.Cut
import Derived.StillTailTactics
import Derived.Test.YtmidnaafljgbiaaB16
import Derived.Test.YtmidnaafljgbiaaB09
import Derived.Test.YtmidnaafljgbiaaB06
import Derived.Test.YtmidnaafljgbiaaB01
/- What the reference says of worlds: how many values wait, who is alive, whether all is idle. -/
namespace Go.Proofs.Ytmidnaafljgbiaa
open Go.RowKit
set_option maxRecDepth 100000

end Go.Proofs.Ytmidnaafljgbiaa
/- Who is alive in a world, by the reference. -/
namespace Go.Proofs.Ytmidnaafljgbiaa
open Go.RowKit
set_option maxRecDepth 100000

theorem oneIx (x : Int) : ∀ u ∈ encI x, u.oneCell' = true := by
  intro u hu
  obtain rfl : u = .int .i64 x := by simpa [encI] using hu
  rfl
theorem infIx : (Try.prog.info? 3).map (fun i => (i.zero.map (·.cells.size), i.size, i.bytes)) = some (some 1, 1, 8) := by kernel_rfl
end Go.Proofs.Ytmidnaafljgbiaa
/- The laws' own helpers on values and numbers: copies, sizes, comparisons. -/
namespace Go.Proofs.Ytmidnaafljgbiaa
open Go.RowKit
set_option maxRecDepth 100000

set_option maxHeartbeats 1000000 in
theorem lToVal (v : Vl) (w : World) : Calls Try.prog 52 #[.agg #[.int .i64 v.k, .int .i64 v.n]] w fun e w' => e = .returned (.agg #[.int .i64 v.k, .int .i64 v.n]) ∧ Below w.heap.size w w' := by
  obtain ⟨k, n⟩ := v
  go_enter Try.func52, Try.ntmps52
  go_wp2
  exact bodyPost_ret (v := .agg #[.int .i64 k, .int .i64 n]) (by simp [results, Try.results52, go_sem]) rfl ⟨rfl, by repeat (first | exact Below.refl _ _ | apply below_new | (refine below_set ?_ (by simp; try omega)))⟩

end Go.Proofs.Ytmidnaafljgbiaa
/- The laws' own comparison of lists of values. -/
namespace Go.Proofs.Ytmidnaafljgbiaa
open Go.RowKit
set_option maxRecDepth 100000

end Go.Proofs.Ytmidnaafljgbiaa
