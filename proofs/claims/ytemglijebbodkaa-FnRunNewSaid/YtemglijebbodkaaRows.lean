/-
  No cell of these rows narrows 'for every input' (looked for: loops, veiled, ifaces, maps, wideKeys, modest, calm, conditions, laid).
  DERIVED. THE GIVEN ROWS OF THIS SEAT. 6 by the template 'for every input the law returns true; each argument reads behind the call as it read before'; 0 by the template 'total and deterministic' (their statements: YtemglijebbodkaaTotals.lean).
  GIVEN WITH THE SEED: the statements are not yours to turn. If you find one false, say at which input.
  Laid BY PROGRAM, IN A SANDBOX (cutbox-rows.mjs): the forced cells as the released guide's own fill.sh prints them over the translation 1eff2d2ffc7e3a7a… (all of the seat's roots in one cut). By AI agents, Wed Nov 11 2026. No macro, syntax, notation, axiom, sorry.
-/
import Derived.Test.YtemglijebbodkaaChecked
import GoSem.Claim
import GoSem.ClaimJoined
import GoSem.ClaimMapViews
import Derived.JoinedTies
import Derived.KernelRfl
namespace Go.Proofs.Ytemglijebbodkaa
/- THE CELL 'sum', in the pinned program and in every row, IS THE sha256 OF THE DUMP (.gsa) THAT YtemglijebbodkaaProg.lean LOADS. Nothing in Lean hashes anything: it is a label: what it is worth is what the hold of that sum in a sandbox is worth. -/
noncomputable def Try.pinned : Pinned := { name := "ytemglijebbodkaa", sum := "1eff2d2ffc7e3a7a54af4802bd832a375f4bc9cb0f2e67304a0b163268505bc9", checked := Try.checked }
namespace Rows
def none {H : Type} : Left H := { results := [], args := [] }

/-- 'laws.FnRunNew': WHATEVER THE INPUT: true; the input reads as it did. -/
def fnRunNewSpec : ChangeSpec := { name := "fnRunNew", fn := fun _ => fun
  | [d] => { results := [.lit (.bool true)], args := [d] }
  | _ => none }
def fnRunNewRow : OpenClaim := { program := "ytemglijebbodkaa", sum := "1eff2d2ffc7e3a7a54af4802bd832a375f4bc9cb0f2e67304a0b163268505bc9", func := "loop.example/errandry/laws.FnRunNew", spec := "fnRunNew", unfollowed := true, recurses := true, apart := false }
def FnRunNewSaid : Prop := fnRunNewRow.holds Try.pinned (OpenSpec.ofChange fnRunNewSpec)

/-- ITS FALSE NEIGHBOUR: 'it returns false'. Refute it at one input. -/
def fnRunNewWrong : ChangeSpec := { name := "fnRunNew", fn := fun _ => fun
  | [d] => { results := [.lit (.bool false)], args := [d] }
  | _ => none }
def FnRunNewWrongFalsely : Prop := fnRunNewRow.holds Try.pinned (OpenSpec.ofChange fnRunNewWrong)

/-- 'laws.FnExactRunNew': WHATEVER THE INPUT: true; the input reads as it did. -/
def fnExactRunNewSpec : ChangeSpec := { name := "fnExactRunNew", fn := fun _ => fun
  | [d1, d2, d3] => { results := [.lit (.bool true)], args := [d1, d2, d3] }
  | _ => none }
def fnExactRunNewRow : OpenClaim := { program := "ytemglijebbodkaa", sum := "1eff2d2ffc7e3a7a54af4802bd832a375f4bc9cb0f2e67304a0b163268505bc9", func := "loop.example/errandry/laws.FnExactRunNew", spec := "fnExactRunNew", apart := false }
def FnExactRunNewSaid : Prop := fnExactRunNewRow.holds Try.pinned (OpenSpec.ofChange fnExactRunNewSpec)

/-- ITS FALSE NEIGHBOUR: 'it returns false'. Refute it at one input. -/
def fnExactRunNewWrong : ChangeSpec := { name := "fnExactRunNew", fn := fun _ => fun
  | [d1, d2, d3] => { results := [.lit (.bool false)], args := [d1, d2, d3] }
  | _ => none }
def FnExactRunNewWrongFalsely : Prop := fnExactRunNewRow.holds Try.pinned (OpenSpec.ofChange fnExactRunNewWrong)

/-- 'laws.FnExactRunOk': WHATEVER THE INPUT: true; the input reads as it did. -/
def fnExactRunOkSpec : ChangeSpec := { name := "fnExactRunOk", fn := fun _ => fun
  | [d] => { results := [.lit (.bool true)], args := [d] }
  | _ => none }
def fnExactRunOkRow : OpenClaim := { program := "ytemglijebbodkaa", sum := "1eff2d2ffc7e3a7a54af4802bd832a375f4bc9cb0f2e67304a0b163268505bc9", func := "loop.example/errandry/laws.FnExactRunOk", spec := "fnExactRunOk", unfollowed := true, recurses := true, apart := false }
def FnExactRunOkSaid : Prop := fnExactRunOkRow.holds Try.pinned (OpenSpec.ofChange fnExactRunOkSpec)

/-- ITS FALSE NEIGHBOUR: 'it returns false'. Refute it at one input. -/
def fnExactRunOkWrong : ChangeSpec := { name := "fnExactRunOk", fn := fun _ => fun
  | [d] => { results := [.lit (.bool false)], args := [d] }
  | _ => none }
def FnExactRunOkWrongFalsely : Prop := fnExactRunOkRow.holds Try.pinned (OpenSpec.ofChange fnExactRunOkWrong)

/-- 'laws.FnExactRunFirst': WHATEVER THE INPUT: true; the input reads as it did. -/
def fnExactRunFirstSpec : ChangeSpec := { name := "fnExactRunFirst", fn := fun _ => fun
  | [d1, d2] => { results := [.lit (.bool true)], args := [d1, d2] }
  | _ => none }
def fnExactRunFirstRow : OpenClaim := { program := "ytemglijebbodkaa", sum := "1eff2d2ffc7e3a7a54af4802bd832a375f4bc9cb0f2e67304a0b163268505bc9", func := "loop.example/errandry/laws.FnExactRunFirst", spec := "fnExactRunFirst", unfollowed := true, recurses := true, apart := false }
def FnExactRunFirstSaid : Prop := fnExactRunFirstRow.holds Try.pinned (OpenSpec.ofChange fnExactRunFirstSpec)

/-- ITS FALSE NEIGHBOUR: 'it returns false'. Refute it at one input. -/
def fnExactRunFirstWrong : ChangeSpec := { name := "fnExactRunFirst", fn := fun _ => fun
  | [d1, d2] => { results := [.lit (.bool false)], args := [d1, d2] }
  | _ => none }
def FnExactRunFirstWrongFalsely : Prop := fnExactRunFirstRow.holds Try.pinned (OpenSpec.ofChange fnExactRunFirstWrong)

/-- 'laws.FnExactRunPut': WHATEVER THE INPUT: true; the input reads as it did. -/
def fnExactRunPutSpec : ChangeSpec := { name := "fnExactRunPut", fn := fun _ => fun
  | [d1, d2, d3] => { results := [.lit (.bool true)], args := [d1, d2, d3] }
  | _ => none }
def fnExactRunPutRow : OpenClaim := { program := "ytemglijebbodkaa", sum := "1eff2d2ffc7e3a7a54af4802bd832a375f4bc9cb0f2e67304a0b163268505bc9", func := "loop.example/errandry/laws.FnExactRunPut", spec := "fnExactRunPut", unfollowed := true, recurses := true, apart := false }
def FnExactRunPutSaid : Prop := fnExactRunPutRow.holds Try.pinned (OpenSpec.ofChange fnExactRunPutSpec)

/-- ITS FALSE NEIGHBOUR: 'it returns false'. Refute it at one input. -/
def fnExactRunPutWrong : ChangeSpec := { name := "fnExactRunPut", fn := fun _ => fun
  | [d1, d2, d3] => { results := [.lit (.bool false)], args := [d1, d2, d3] }
  | _ => none }
def FnExactRunPutWrongFalsely : Prop := fnExactRunPutRow.holds Try.pinned (OpenSpec.ofChange fnExactRunPutWrong)

/-- 'laws.FnExactRunTake': WHATEVER THE INPUT: true; the input reads as it did. -/
def fnExactRunTakeSpec : ChangeSpec := { name := "fnExactRunTake", fn := fun _ => fun
  | [d1, d2] => { results := [.lit (.bool true)], args := [d1, d2] }
  | _ => none }
def fnExactRunTakeRow : OpenClaim := { program := "ytemglijebbodkaa", sum := "1eff2d2ffc7e3a7a54af4802bd832a375f4bc9cb0f2e67304a0b163268505bc9", func := "loop.example/errandry/laws.FnExactRunTake", spec := "fnExactRunTake", unfollowed := true, recurses := true, apart := false }
def FnExactRunTakeSaid : Prop := fnExactRunTakeRow.holds Try.pinned (OpenSpec.ofChange fnExactRunTakeSpec)

/-- ITS FALSE NEIGHBOUR: 'it returns false'. Refute it at one input. -/
def fnExactRunTakeWrong : ChangeSpec := { name := "fnExactRunTake", fn := fun _ => fun
  | [d1, d2] => { results := [.lit (.bool false)], args := [d1, d2] }
  | _ => none }
def FnExactRunTakeWrongFalsely : Prop := fnExactRunTakeRow.holds Try.pinned (OpenSpec.ofChange fnExactRunTakeWrong)

/- THE SECOND FORM. 'bulk': how many values and letters a reading holds, each counted each time it is reached (what is shared counts as often as it is met; a slice's spare places count too). A statement '..UptoSaid' is the law's where the arguments, and the package variables that the reading takes, are together of bulk at most 1048576: NARROWER than '..Said'. Prove '..Said' where nothing that the law and all that it calls make is longer than what came in: it says more and counts as full. Else prove '..UptoSaid'. A law counts once. -/
mutual
def uptoBulk {H : Type} : DataW H → Nat
  | .lit (.string bytes) => bytes.length + 1
  | .lit _ => 1
  | .nil => 1
  | .ptr d => uptoBulk d + 1
  | .slice elems spare => uptoBulkAll elems + uptoBulkAll spare + 1
  | .agg parts => uptoBulkAll parts + 1
  | .iface _ d => uptoBulk d + 1
  | .map entries => uptoBulkEntries entries + 1
  | .held _ => 1
def uptoBulkAll {H : Type} : List (DataW H) → Nat
  | [] => 0
  | d :: r => uptoBulk d + uptoBulkAll r
def uptoBulkEntries {H : Type} : List (Lit × DataW H) → Nat
  | [] => 0
  | x :: r => uptoBulkEntry x + uptoBulkEntries r
def uptoBulkEntry {H : Type} : Lit × DataW H → Nat
  | (.string bytes, d) => bytes.length + uptoBulk d + 1
  | (_, d) => uptoBulk d + 1
 end
def uptoSmall : (H : Type) → List (DataW H) → Bool := fun _ ds => decide (uptoBulkAll ds ≤ 1048576)
def OpenSpec.upto (s : _root_.Go.ChangeSpec) : _root_.Go.OpenSpec := { _root_.Go.OpenSpec.ofChange s with cond := some uptoSmall }

/-- 'laws.FnRunNew', WHERE WHAT IT READS IS OF BULK AT MOST 1048576: true; the input reads as it did. -/
def fnRunNewUptoRow : OpenClaim := { program := "ytemglijebbodkaa", sum := "1eff2d2ffc7e3a7a54af4802bd832a375f4bc9cb0f2e67304a0b163268505bc9", func := "loop.example/errandry/laws.FnRunNew", spec := "fnRunNew", unfollowed := true, recurses := true, apart := false, narrowed := true }
def FnRunNewUptoSaid : Prop := fnRunNewUptoRow.holds Try.pinned (OpenSpec.upto fnRunNewSpec)

/-- 'laws.FnExactRunNew', WHERE WHAT IT READS IS OF BULK AT MOST 1048576: true; the input reads as it did. -/
def fnExactRunNewUptoRow : OpenClaim := { program := "ytemglijebbodkaa", sum := "1eff2d2ffc7e3a7a54af4802bd832a375f4bc9cb0f2e67304a0b163268505bc9", func := "loop.example/errandry/laws.FnExactRunNew", spec := "fnExactRunNew", apart := false, narrowed := true }
def FnExactRunNewUptoSaid : Prop := fnExactRunNewUptoRow.holds Try.pinned (OpenSpec.upto fnExactRunNewSpec)

/-- 'laws.FnExactRunOk', WHERE WHAT IT READS IS OF BULK AT MOST 1048576: true; the input reads as it did. -/
def fnExactRunOkUptoRow : OpenClaim := { program := "ytemglijebbodkaa", sum := "1eff2d2ffc7e3a7a54af4802bd832a375f4bc9cb0f2e67304a0b163268505bc9", func := "loop.example/errandry/laws.FnExactRunOk", spec := "fnExactRunOk", unfollowed := true, recurses := true, apart := false, narrowed := true }
def FnExactRunOkUptoSaid : Prop := fnExactRunOkUptoRow.holds Try.pinned (OpenSpec.upto fnExactRunOkSpec)

/-- 'laws.FnExactRunFirst', WHERE WHAT IT READS IS OF BULK AT MOST 1048576: true; the input reads as it did. -/
def fnExactRunFirstUptoRow : OpenClaim := { program := "ytemglijebbodkaa", sum := "1eff2d2ffc7e3a7a54af4802bd832a375f4bc9cb0f2e67304a0b163268505bc9", func := "loop.example/errandry/laws.FnExactRunFirst", spec := "fnExactRunFirst", unfollowed := true, recurses := true, apart := false, narrowed := true }
def FnExactRunFirstUptoSaid : Prop := fnExactRunFirstUptoRow.holds Try.pinned (OpenSpec.upto fnExactRunFirstSpec)

/-- 'laws.FnExactRunPut', WHERE WHAT IT READS IS OF BULK AT MOST 1048576: true; the input reads as it did. -/
def fnExactRunPutUptoRow : OpenClaim := { program := "ytemglijebbodkaa", sum := "1eff2d2ffc7e3a7a54af4802bd832a375f4bc9cb0f2e67304a0b163268505bc9", func := "loop.example/errandry/laws.FnExactRunPut", spec := "fnExactRunPut", unfollowed := true, recurses := true, apart := false, narrowed := true }
def FnExactRunPutUptoSaid : Prop := fnExactRunPutUptoRow.holds Try.pinned (OpenSpec.upto fnExactRunPutSpec)

/-- 'laws.FnExactRunTake', WHERE WHAT IT READS IS OF BULK AT MOST 1048576: true; the input reads as it did. -/
def fnExactRunTakeUptoRow : OpenClaim := { program := "ytemglijebbodkaa", sum := "1eff2d2ffc7e3a7a54af4802bd832a375f4bc9cb0f2e67304a0b163268505bc9", func := "loop.example/errandry/laws.FnExactRunTake", spec := "fnExactRunTake", unfollowed := true, recurses := true, apart := false, narrowed := true }
def FnExactRunTakeUptoSaid : Prop := fnExactRunTakeUptoRow.holds Try.pinned (OpenSpec.upto fnExactRunTakeSpec)

end Rows
end Go.Proofs.Ytemglijebbodkaa
