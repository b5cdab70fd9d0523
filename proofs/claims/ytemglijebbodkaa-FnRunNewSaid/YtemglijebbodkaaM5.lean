/- Sizes of the program's types. -/
import Derived.Test.YtemglijebbodkaaM4
import Derived.Test.YtemglijebbodkaaProg
namespace Go.Proofs.Ytemglijebbodkaa
open Go.RowKit
theorem siI : (Try.prog.info? tI).map (·.size) = some 1 := by kernel_rfl
theorem siB : (Try.prog.info? 4).map (·.size) = some 1 := by kernel_rfl
theorem siV : (Try.prog.info? tV).map (·.size) = some 2 := by kernel_rfl
theorem siR : (Try.prog.info? tR).map (·.size) = some 13 := by kernel_rfl
theorem siSI : (Try.prog.info? 28).map (·.size) = some 1 := by kernel_rfl
theorem siSV : (Try.prog.info? 27).map (·.size) = some 1 := by kernel_rfl
theorem agV (W : World) : (isAgg tV).run Try.prog W = .ok true W := by kernel_rfl
theorem agR (W : World) : (isAgg tR).run Try.prog W = .ok true W := by kernel_rfl
theorem nfI : (Try.prog.info? tI).map (fun i => (i.zero, i.size, i.bytes)) = some (some (.int .i64 0), 1, 8) := by kernel_rfl
theorem nfV : (Try.prog.info? tV).map (fun i => (i.zero, i.size, i.bytes)) = some (some (.agg #[.int .i64 0, .int .i64 0]), 2, 16) := by kernel_rfl
end Go.Proofs.Ytemglijebbodkaa
