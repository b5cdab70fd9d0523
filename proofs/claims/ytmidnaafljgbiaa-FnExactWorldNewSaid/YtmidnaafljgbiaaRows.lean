/-
  No cell of these rows narrows 'for every input' (looked for: loops, veiled, ifaces, maps, wideKeys, modest, calm, conditions, laid).
  DERIVED. THE GIVEN ROWS OF THIS SEAT. 11 by the template 'for every input the law returns true; each argument reads behind the call as it read before'; 0 by the template 'total and deterministic' (their statements: YtmidnaafljgbiaaTotals.lean).
  GIVEN WITH THE SEED: the statements are not yours to turn. If you find one false, say at which input.
  Laid BY PROGRAM, IN A SANDBOX (cutbox-rows.mjs): the forced cells as the released guide's own fill.sh prints them over the translation d331dbad9d741f27… (all of the seat's roots in one cut). By AI agents, Wed Nov 11 2026. No macro, syntax, notation, axiom, sorry.
-/
import Derived.Test.YtmidnaafljgbiaaChecked
import GoSem.Claim
import GoSem.ClaimJoined
import GoSem.ClaimMapViews
import Derived.JoinedTies
import Derived.KernelRfl
namespace Go.Proofs.Ytmidnaafljgbiaa
/- THE CELL 'sum', in the pinned program and in every row, IS THE sha256 OF THE DUMP (.gsa) THAT YtmidnaafljgbiaaProg.lean LOADS. Nothing in Lean hashes anything: it is a label: what it is worth is what the hold of that sum in a sandbox is worth. -/
noncomputable def Try.pinned : Pinned := { name := "ytmidnaafljgbiaa", sum := "d331dbad9d741f2740d685c5d1d7e7976a2fb7247422e73034803080cee96ff5", checked := Try.checked }
namespace Rows
def none {H : Type} : Left H := { results := [], args := [] }

/-- 'laws.FnExactRunTake': WHATEVER THE INPUT: true; the input reads as it did. -/
def fnExactRunTakeSpec : ChangeSpec := { name := "fnExactRunTake", fn := fun _ => fun
  | [d1, d2] => { results := [.lit (.bool true)], args := [d1, d2] }
  | _ => none }
def fnExactRunTakeRow : OpenClaim := { program := "ytmidnaafljgbiaa", sum := "d331dbad9d741f2740d685c5d1d7e7976a2fb7247422e73034803080cee96ff5", func := "loop.example/errandry/laws.FnExactRunTake", spec := "fnExactRunTake", unfollowed := true, recurses := true, apart := false }
def FnExactRunTakeSaid : Prop := fnExactRunTakeRow.holds Try.pinned (OpenSpec.ofChange fnExactRunTakeSpec)

/-- ITS FALSE NEIGHBOUR: 'it returns false'. Refute it at one input. -/
def fnExactRunTakeWrong : ChangeSpec := { name := "fnExactRunTake", fn := fun _ => fun
  | [d1, d2] => { results := [.lit (.bool false)], args := [d1, d2] }
  | _ => none }
def FnExactRunTakeWrongFalsely : Prop := fnExactRunTakeRow.holds Try.pinned (OpenSpec.ofChange fnExactRunTakeWrong)

/-- 'laws.FnExactWorldNew': WHATEVER THE INPUT: true; the input reads as it did. -/
def fnExactWorldNewSpec : ChangeSpec := { name := "fnExactWorldNew", fn := fun _ => fun
  | [d] => { results := [.lit (.bool true)], args := [d] }
  | _ => none }
def fnExactWorldNewRow : OpenClaim := { program := "ytmidnaafljgbiaa", sum := "d331dbad9d741f2740d685c5d1d7e7976a2fb7247422e73034803080cee96ff5", func := "loop.example/errandry/laws.FnExactWorldNew", spec := "fnExactWorldNew", inPlace := ["internal/bytealg.IndexByteString", "internal/bytealg.IndexString"], unfollowed := true, recurses := true, named := ["internal/bytealg.MaxLen"], apart := false }
def FnExactWorldNewSaid : Prop := fnExactWorldNewRow.holds Try.pinned (OpenSpec.ofChange fnExactWorldNewSpec)

/-- ITS FALSE NEIGHBOUR: 'it returns false'. Refute it at one input. -/
def fnExactWorldNewWrong : ChangeSpec := { name := "fnExactWorldNew", fn := fun _ => fun
  | [d] => { results := [.lit (.bool false)], args := [d] }
  | _ => none }
def FnExactWorldNewWrongFalsely : Prop := fnExactWorldNewRow.holds Try.pinned (OpenSpec.ofChange fnExactWorldNewWrong)

/-- 'laws.FnRunEnded': WHATEVER THE INPUT: true; the input reads as it did. -/
def fnRunEndedSpec : ChangeSpec := { name := "fnRunEnded", fn := fun _ => fun
  | [d] => { results := [.lit (.bool true)], args := [d] }
  | _ => none }
def fnRunEndedRow : OpenClaim := { program := "ytmidnaafljgbiaa", sum := "d331dbad9d741f2740d685c5d1d7e7976a2fb7247422e73034803080cee96ff5", func := "loop.example/errandry/laws.FnRunEnded", spec := "fnRunEnded", unfollowed := true, recurses := true, apart := false }
def FnRunEndedSaid : Prop := fnRunEndedRow.holds Try.pinned (OpenSpec.ofChange fnRunEndedSpec)

/-- ITS FALSE NEIGHBOUR: 'it returns false'. Refute it at one input. -/
def fnRunEndedWrong : ChangeSpec := { name := "fnRunEnded", fn := fun _ => fun
  | [d] => { results := [.lit (.bool false)], args := [d] }
  | _ => none }
def FnRunEndedWrongFalsely : Prop := fnRunEndedRow.holds Try.pinned (OpenSpec.ofChange fnRunEndedWrong)

/-- 'laws.FnRunLess': WHATEVER THE INPUT: true; the input reads as it did. -/
def fnRunLessSpec : ChangeSpec := { name := "fnRunLess", fn := fun _ => fun
  | [d1, d2] => { results := [.lit (.bool true)], args := [d1, d2] }
  | _ => none }
def fnRunLessRow : OpenClaim := { program := "ytmidnaafljgbiaa", sum := "d331dbad9d741f2740d685c5d1d7e7976a2fb7247422e73034803080cee96ff5", func := "loop.example/errandry/laws.FnRunLess", spec := "fnRunLess", unfollowed := true, recurses := true, apart := false }
def FnRunLessSaid : Prop := fnRunLessRow.holds Try.pinned (OpenSpec.ofChange fnRunLessSpec)

/-- ITS FALSE NEIGHBOUR: 'it returns false'. Refute it at one input. -/
def fnRunLessWrong : ChangeSpec := { name := "fnRunLess", fn := fun _ => fun
  | [d1, d2] => { results := [.lit (.bool false)], args := [d1, d2] }
  | _ => none }
def FnRunLessWrongFalsely : Prop := fnRunLessRow.holds Try.pinned (OpenSpec.ofChange fnRunLessWrong)

/-- 'laws.FnRunFirst': WHATEVER THE INPUT: true; the input reads as it did. -/
def fnRunFirstSpec : ChangeSpec := { name := "fnRunFirst", fn := fun _ => fun
  | [d] => { results := [.lit (.bool true)], args := [d] }
  | _ => none }
def fnRunFirstRow : OpenClaim := { program := "ytmidnaafljgbiaa", sum := "d331dbad9d741f2740d685c5d1d7e7976a2fb7247422e73034803080cee96ff5", func := "loop.example/errandry/laws.FnRunFirst", spec := "fnRunFirst", unfollowed := true, recurses := true, apart := false }
def FnRunFirstSaid : Prop := fnRunFirstRow.holds Try.pinned (OpenSpec.ofChange fnRunFirstSpec)

/-- ITS FALSE NEIGHBOUR: 'it returns false'. Refute it at one input. -/
def fnRunFirstWrong : ChangeSpec := { name := "fnRunFirst", fn := fun _ => fun
  | [d] => { results := [.lit (.bool false)], args := [d] }
  | _ => none }
def FnRunFirstWrongFalsely : Prop := fnRunFirstRow.holds Try.pinned (OpenSpec.ofChange fnRunFirstWrong)

/-- 'laws.FnRunKeeps': WHATEVER THE INPUT: true; the input reads as it did. -/
def fnRunKeepsSpec : ChangeSpec := { name := "fnRunKeeps", fn := fun _ => fun
  | [d] => { results := [.lit (.bool true)], args := [d] }
  | _ => none }
def fnRunKeepsRow : OpenClaim := { program := "ytmidnaafljgbiaa", sum := "d331dbad9d741f2740d685c5d1d7e7976a2fb7247422e73034803080cee96ff5", func := "loop.example/errandry/laws.FnRunKeeps", spec := "fnRunKeeps", unfollowed := true, recurses := true, apart := false }
def FnRunKeepsSaid : Prop := fnRunKeepsRow.holds Try.pinned (OpenSpec.ofChange fnRunKeepsSpec)

/-- ITS FALSE NEIGHBOUR: 'it returns false'. Refute it at one input. -/
def fnRunKeepsWrong : ChangeSpec := { name := "fnRunKeeps", fn := fun _ => fun
  | [d] => { results := [.lit (.bool false)], args := [d] }
  | _ => none }
def FnRunKeepsWrongFalsely : Prop := fnRunKeepsRow.holds Try.pinned (OpenSpec.ofChange fnRunKeepsWrong)

/-- 'laws.FnPutTwo': WHATEVER THE INPUT: true; the input reads as it did. -/
def fnPutTwoSpec : ChangeSpec := { name := "fnPutTwo", fn := fun _ => fun
  | [d1, d2] => { results := [.lit (.bool true)], args := [d1, d2] }
  | _ => none }
def fnPutTwoRow : OpenClaim := { program := "ytmidnaafljgbiaa", sum := "d331dbad9d741f2740d685c5d1d7e7976a2fb7247422e73034803080cee96ff5", func := "loop.example/errandry/laws.FnPutTwo", spec := "fnPutTwo", unfollowed := true, recurses := true, apart := false }
def FnPutTwoSaid : Prop := fnPutTwoRow.holds Try.pinned (OpenSpec.ofChange fnPutTwoSpec)

/-- ITS FALSE NEIGHBOUR: 'it returns false'. Refute it at one input. -/
def fnPutTwoWrong : ChangeSpec := { name := "fnPutTwo", fn := fun _ => fun
  | [d1, d2] => { results := [.lit (.bool false)], args := [d1, d2] }
  | _ => none }
def FnPutTwoWrongFalsely : Prop := fnPutTwoRow.holds Try.pinned (OpenSpec.ofChange fnPutTwoWrong)

/-- 'laws.FnRunPut': WHATEVER THE INPUT: true; the input reads as it did. -/
def fnRunPutSpec : ChangeSpec := { name := "fnRunPut", fn := fun _ => fun
  | [d1, d2] => { results := [.lit (.bool true)], args := [d1, d2] }
  | _ => none }
def fnRunPutRow : OpenClaim := { program := "ytmidnaafljgbiaa", sum := "d331dbad9d741f2740d685c5d1d7e7976a2fb7247422e73034803080cee96ff5", func := "loop.example/errandry/laws.FnRunPut", spec := "fnRunPut", unfollowed := true, recurses := true, apart := false }
def FnRunPutSaid : Prop := fnRunPutRow.holds Try.pinned (OpenSpec.ofChange fnRunPutSpec)

/-- ITS FALSE NEIGHBOUR: 'it returns false'. Refute it at one input. -/
def fnRunPutWrong : ChangeSpec := { name := "fnRunPut", fn := fun _ => fun
  | [d1, d2] => { results := [.lit (.bool false)], args := [d1, d2] }
  | _ => none }
def FnRunPutWrongFalsely : Prop := fnRunPutRow.holds Try.pinned (OpenSpec.ofChange fnRunPutWrong)

/-- 'laws.FnRunKinds': WHATEVER THE INPUT: true; the input reads as it did. -/
def fnRunKindsSpec : ChangeSpec := { name := "fnRunKinds", fn := fun _ => fun
  | [d1, d2] => { results := [.lit (.bool true)], args := [d1, d2] }
  | _ => none }
def fnRunKindsRow : OpenClaim := { program := "ytmidnaafljgbiaa", sum := "d331dbad9d741f2740d685c5d1d7e7976a2fb7247422e73034803080cee96ff5", func := "loop.example/errandry/laws.FnRunKinds", spec := "fnRunKinds", unfollowed := true, recurses := true, apart := false }
def FnRunKindsSaid : Prop := fnRunKindsRow.holds Try.pinned (OpenSpec.ofChange fnRunKindsSpec)

/-- ITS FALSE NEIGHBOUR: 'it returns false'. Refute it at one input. -/
def fnRunKindsWrong : ChangeSpec := { name := "fnRunKinds", fn := fun _ => fun
  | [d1, d2] => { results := [.lit (.bool false)], args := [d1, d2] }
  | _ => none }
def FnRunKindsWrongFalsely : Prop := fnRunKindsRow.holds Try.pinned (OpenSpec.ofChange fnRunKindsWrong)

/-- 'laws.FnRunTake': WHATEVER THE INPUT: true; the input reads as it did. -/
def fnRunTakeSpec : ChangeSpec := { name := "fnRunTake", fn := fun _ => fun
  | [d] => { results := [.lit (.bool true)], args := [d] }
  | _ => none }
def fnRunTakeRow : OpenClaim := { program := "ytmidnaafljgbiaa", sum := "d331dbad9d741f2740d685c5d1d7e7976a2fb7247422e73034803080cee96ff5", func := "loop.example/errandry/laws.FnRunTake", spec := "fnRunTake", unfollowed := true, recurses := true, apart := false }
def FnRunTakeSaid : Prop := fnRunTakeRow.holds Try.pinned (OpenSpec.ofChange fnRunTakeSpec)

/-- ITS FALSE NEIGHBOUR: 'it returns false'. Refute it at one input. -/
def fnRunTakeWrong : ChangeSpec := { name := "fnRunTake", fn := fun _ => fun
  | [d] => { results := [.lit (.bool false)], args := [d] }
  | _ => none }
def FnRunTakeWrongFalsely : Prop := fnRunTakeRow.holds Try.pinned (OpenSpec.ofChange fnRunTakeWrong)

/-- 'laws.FnRunTakes': WHATEVER THE INPUT: true; the input reads as it did. -/
def fnRunTakesSpec : ChangeSpec := { name := "fnRunTakes", fn := fun _ => fun
  | [d] => { results := [.lit (.bool true)], args := [d] }
  | _ => none }
def fnRunTakesRow : OpenClaim := { program := "ytmidnaafljgbiaa", sum := "d331dbad9d741f2740d685c5d1d7e7976a2fb7247422e73034803080cee96ff5", func := "loop.example/errandry/laws.FnRunTakes", spec := "fnRunTakes", unfollowed := true, recurses := true, apart := false }
def FnRunTakesSaid : Prop := fnRunTakesRow.holds Try.pinned (OpenSpec.ofChange fnRunTakesSpec)

/-- ITS FALSE NEIGHBOUR: 'it returns false'. Refute it at one input. -/
def fnRunTakesWrong : ChangeSpec := { name := "fnRunTakes", fn := fun _ => fun
  | [d] => { results := [.lit (.bool false)], args := [d] }
  | _ => none }
def FnRunTakesWrongFalsely : Prop := fnRunTakesRow.holds Try.pinned (OpenSpec.ofChange fnRunTakesWrong)

/- THE SECOND FORM. 'bulk': how many values and letters a reading holds, each counted each time it is reached (what is shared counts as often as it is met; a slice's spare places count too). A statement '..UptoSaid' is the law's where the arguments, and the package variables that the reading takes, are together of bulk at most 1048576: NARROWER than '..Said'. Prove '..Said' where nothing that the law and all that it calls make is longer than what came in: it says more and counts as full. Else prove '..UptoSaid'. A law counts once. -/
mutual
def uptoBulk {H : Type} : DataW H → Nat
  | .lit (.string bytes) => bytes.length + 1
  | .lit _ => 1
  | .nil => 1
  | .ptr d => uptoBulk d + 1
  | .slice elems spare => uptoBulkAll elems + uptoBulkAll spare + 1
  | .agg parts => uptoBulkAll parts + 1
  | .iface _ d => uptoBulk d + 1
  | .map entries => uptoBulkEntries entries + 1
  | .held _ => 1
def uptoBulkAll {H : Type} : List (DataW H) → Nat
  | [] => 0
  | d :: r => uptoBulk d + uptoBulkAll r
def uptoBulkEntries {H : Type} : List (Lit × DataW H) → Nat
  | [] => 0
  | x :: r => uptoBulkEntry x + uptoBulkEntries r
def uptoBulkEntry {H : Type} : Lit × DataW H → Nat
  | (.string bytes, d) => bytes.length + uptoBulk d + 1
  | (_, d) => uptoBulk d + 1
 end
def uptoSmall : (H : Type) → List (DataW H) → Bool := fun _ ds => decide (uptoBulkAll ds ≤ 1048576)
def OpenSpec.upto (s : _root_.Go.ChangeSpec) : _root_.Go.OpenSpec := { _root_.Go.OpenSpec.ofChange s with cond := some uptoSmall }

/-- 'laws.FnExactRunTake', WHERE WHAT IT READS IS OF BULK AT MOST 1048576: true; the input reads as it did. -/
def fnExactRunTakeUptoRow : OpenClaim := { program := "ytmidnaafljgbiaa", sum := "d331dbad9d741f2740d685c5d1d7e7976a2fb7247422e73034803080cee96ff5", func := "loop.example/errandry/laws.FnExactRunTake", spec := "fnExactRunTake", unfollowed := true, recurses := true, apart := false, narrowed := true }
def FnExactRunTakeUptoSaid : Prop := fnExactRunTakeUptoRow.holds Try.pinned (OpenSpec.upto fnExactRunTakeSpec)

/-- 'laws.FnExactWorldNew', WHERE WHAT IT READS IS OF BULK AT MOST 1048576: true; the input reads as it did. -/
def fnExactWorldNewUptoRow : OpenClaim := { program := "ytmidnaafljgbiaa", sum := "d331dbad9d741f2740d685c5d1d7e7976a2fb7247422e73034803080cee96ff5", func := "loop.example/errandry/laws.FnExactWorldNew", spec := "fnExactWorldNew", inPlace := ["internal/bytealg.IndexByteString", "internal/bytealg.IndexString"], unfollowed := true, recurses := true, named := ["internal/bytealg.MaxLen"], apart := false, narrowed := true }
def FnExactWorldNewUptoSaid : Prop := fnExactWorldNewUptoRow.holds Try.pinned (OpenSpec.upto fnExactWorldNewSpec)

/-- 'laws.FnRunEnded', WHERE WHAT IT READS IS OF BULK AT MOST 1048576: true; the input reads as it did. -/
def fnRunEndedUptoRow : OpenClaim := { program := "ytmidnaafljgbiaa", sum := "d331dbad9d741f2740d685c5d1d7e7976a2fb7247422e73034803080cee96ff5", func := "loop.example/errandry/laws.FnRunEnded", spec := "fnRunEnded", unfollowed := true, recurses := true, apart := false, narrowed := true }
def FnRunEndedUptoSaid : Prop := fnRunEndedUptoRow.holds Try.pinned (OpenSpec.upto fnRunEndedSpec)

/-- 'laws.FnRunLess', WHERE WHAT IT READS IS OF BULK AT MOST 1048576: true; the input reads as it did. -/
def fnRunLessUptoRow : OpenClaim := { program := "ytmidnaafljgbiaa", sum := "d331dbad9d741f2740d685c5d1d7e7976a2fb7247422e73034803080cee96ff5", func := "loop.example/errandry/laws.FnRunLess", spec := "fnRunLess", unfollowed := true, recurses := true, apart := false, narrowed := true }
def FnRunLessUptoSaid : Prop := fnRunLessUptoRow.holds Try.pinned (OpenSpec.upto fnRunLessSpec)

/-- 'laws.FnRunFirst', WHERE WHAT IT READS IS OF BULK AT MOST 1048576: true; the input reads as it did. -/
def fnRunFirstUptoRow : OpenClaim := { program := "ytmidnaafljgbiaa", sum := "d331dbad9d741f2740d685c5d1d7e7976a2fb7247422e73034803080cee96ff5", func := "loop.example/errandry/laws.FnRunFirst", spec := "fnRunFirst", unfollowed := true, recurses := true, apart := false, narrowed := true }
def FnRunFirstUptoSaid : Prop := fnRunFirstUptoRow.holds Try.pinned (OpenSpec.upto fnRunFirstSpec)

/-- 'laws.FnRunKeeps', WHERE WHAT IT READS IS OF BULK AT MOST 1048576: true; the input reads as it did. -/
def fnRunKeepsUptoRow : OpenClaim := { program := "ytmidnaafljgbiaa", sum := "d331dbad9d741f2740d685c5d1d7e7976a2fb7247422e73034803080cee96ff5", func := "loop.example/errandry/laws.FnRunKeeps", spec := "fnRunKeeps", unfollowed := true, recurses := true, apart := false, narrowed := true }
def FnRunKeepsUptoSaid : Prop := fnRunKeepsUptoRow.holds Try.pinned (OpenSpec.upto fnRunKeepsSpec)

/-- 'laws.FnPutTwo', WHERE WHAT IT READS IS OF BULK AT MOST 1048576: true; the input reads as it did. -/
def fnPutTwoUptoRow : OpenClaim := { program := "ytmidnaafljgbiaa", sum := "d331dbad9d741f2740d685c5d1d7e7976a2fb7247422e73034803080cee96ff5", func := "loop.example/errandry/laws.FnPutTwo", spec := "fnPutTwo", unfollowed := true, recurses := true, apart := false, narrowed := true }
def FnPutTwoUptoSaid : Prop := fnPutTwoUptoRow.holds Try.pinned (OpenSpec.upto fnPutTwoSpec)

/-- 'laws.FnRunPut', WHERE WHAT IT READS IS OF BULK AT MOST 1048576: true; the input reads as it did. -/
def fnRunPutUptoRow : OpenClaim := { program := "ytmidnaafljgbiaa", sum := "d331dbad9d741f2740d685c5d1d7e7976a2fb7247422e73034803080cee96ff5", func := "loop.example/errandry/laws.FnRunPut", spec := "fnRunPut", unfollowed := true, recurses := true, apart := false, narrowed := true }
def FnRunPutUptoSaid : Prop := fnRunPutUptoRow.holds Try.pinned (OpenSpec.upto fnRunPutSpec)

/-- 'laws.FnRunKinds', WHERE WHAT IT READS IS OF BULK AT MOST 1048576: true; the input reads as it did. -/
def fnRunKindsUptoRow : OpenClaim := { program := "ytmidnaafljgbiaa", sum := "d331dbad9d741f2740d685c5d1d7e7976a2fb7247422e73034803080cee96ff5", func := "loop.example/errandry/laws.FnRunKinds", spec := "fnRunKinds", unfollowed := true, recurses := true, apart := false, narrowed := true }
def FnRunKindsUptoSaid : Prop := fnRunKindsUptoRow.holds Try.pinned (OpenSpec.upto fnRunKindsSpec)

/-- 'laws.FnRunTake', WHERE WHAT IT READS IS OF BULK AT MOST 1048576: true; the input reads as it did. -/
def fnRunTakeUptoRow : OpenClaim := { program := "ytmidnaafljgbiaa", sum := "d331dbad9d741f2740d685c5d1d7e7976a2fb7247422e73034803080cee96ff5", func := "loop.example/errandry/laws.FnRunTake", spec := "fnRunTake", unfollowed := true, recurses := true, apart := false, narrowed := true }
def FnRunTakeUptoSaid : Prop := fnRunTakeUptoRow.holds Try.pinned (OpenSpec.upto fnRunTakeSpec)

/-- 'laws.FnRunTakes', WHERE WHAT IT READS IS OF BULK AT MOST 1048576: true; the input reads as it did. -/
def fnRunTakesUptoRow : OpenClaim := { program := "ytmidnaafljgbiaa", sum := "d331dbad9d741f2740d685c5d1d7e7976a2fb7247422e73034803080cee96ff5", func := "loop.example/errandry/laws.FnRunTakes", spec := "fnRunTakes", unfollowed := true, recurses := true, apart := false, narrowed := true }
def FnRunTakesUptoSaid : Prop := fnRunTakesUptoRow.holds Try.pinned (OpenSpec.upto fnRunTakesSpec)

end Rows
end Go.Proofs.Ytmidnaafljgbiaa
