/-
  No cell of these rows narrows 'for every input' (looked for: loops, veiled, ifaces, maps, wideKeys, modest, calm, conditions, laid).
  DERIVED. THE GIVEN ROWS OF THIS SEAT. 9 by the template 'for every input the law returns true; each argument reads behind the call as it read before'; 0 by the template 'total and deterministic' (their statements: YtomolbhcggaakaaGreatTotals.lean).
  GIVEN WITH THE SEED: the statements are not yours to turn. If you find one false, say at which input.
  Laid BY PROGRAM, IN A SANDBOX (cutbox-rows.mjs): the forced cells as the released guide's own fill.sh prints them over the translation 814f1ba78a35be1a… (all of the seat's roots in one cut). By AI agents, Wed Nov 11 2026. No macro, syntax, notation, axiom, sorry.
-/
import Derived.Test.YtomolbhcggaakaaGreatChecked
import GoSem.Claim
import GoSem.ClaimJoined
import GoSem.ClaimMapViews
import Derived.JoinedTies
import Derived.KernelRfl
namespace Go.Proofs.YtomolbhcggaakaaGreat
/- THE CELL 'sum', in the pinned program and in every row, IS THE sha256 OF THE DUMP (.gsa) THAT YtomolbhcggaakaaGreatProg.lean LOADS. Nothing in Lean hashes anything: it is a label: what it is worth is what the hold of that sum in a sandbox is worth. -/
noncomputable def Tryz.pinned : Pinned := { name := "ytomolbhcggaakaagreat", sum := "814f1ba78a35be1a3990aee4d5040f5395126878d748178ec64e8390788f904c", checked := Tryz.checked }
namespace Rows
def none {H : Type} : Left H := { results := [], args := [] }

/-- 'laws.FnExactWorldOk': WHATEVER THE INPUT: true; the input reads as it did. -/
def fnExactWorldOkSpec : ChangeSpec := { name := "fnExactWorldOk", fn := fun _ => fun
  | [d] => { results := [.lit (.bool true)], args := [d] }
  | _ => none }
def fnExactWorldOkRow : OpenClaim := { program := "ytomolbhcggaakaagreat", sum := "814f1ba78a35be1a3990aee4d5040f5395126878d748178ec64e8390788f904c", func := "loop.example/errandry/laws.FnExactWorldOk", spec := "fnExactWorldOk", inPlace := ["internal/bytealg.IndexByteString", "internal/bytealg.IndexString"], unfollowed := true, recurses := true, named := ["internal/bytealg.MaxLen"], apart := false }
def FnExactWorldOkSaid : Prop := fnExactWorldOkRow.holds Tryz.pinned (OpenSpec.ofChange fnExactWorldOkSpec)

/-- ITS FALSE NEIGHBOUR: 'it returns false'. Refute it at one input. -/
def fnExactWorldOkWrong : ChangeSpec := { name := "fnExactWorldOk", fn := fun _ => fun
  | [d] => { results := [.lit (.bool false)], args := [d] }
  | _ => none }
def FnExactWorldOkWrongFalsely : Prop := fnExactWorldOkRow.holds Tryz.pinned (OpenSpec.ofChange fnExactWorldOkWrong)

/-- 'laws.FnExactWorldIdle': WHATEVER THE INPUT: true; the input reads as it did. -/
def fnExactWorldIdleSpec : ChangeSpec := { name := "fnExactWorldIdle", fn := fun _ => fun
  | [d] => { results := [.lit (.bool true)], args := [d] }
  | _ => none }
def fnExactWorldIdleRow : OpenClaim := { program := "ytomolbhcggaakaagreat", sum := "814f1ba78a35be1a3990aee4d5040f5395126878d748178ec64e8390788f904c", func := "loop.example/errandry/laws.FnExactWorldIdle", spec := "fnExactWorldIdle", inPlace := ["internal/bytealg.IndexByteString", "internal/bytealg.IndexString"], unfollowed := true, recurses := true, named := ["internal/bytealg.MaxLen"], apart := false }
def FnExactWorldIdleSaid : Prop := fnExactWorldIdleRow.holds Tryz.pinned (OpenSpec.ofChange fnExactWorldIdleSpec)

/-- ITS FALSE NEIGHBOUR: 'it returns false'. Refute it at one input. -/
def fnExactWorldIdleWrong : ChangeSpec := { name := "fnExactWorldIdle", fn := fun _ => fun
  | [d] => { results := [.lit (.bool false)], args := [d] }
  | _ => none }
def FnExactWorldIdleWrongFalsely : Prop := fnExactWorldIdleRow.holds Tryz.pinned (OpenSpec.ofChange fnExactWorldIdleWrong)

/-- 'laws.FnExactWorldWaits': WHATEVER THE INPUT: true; the input reads as it did. -/
def fnExactWorldWaitsSpec : ChangeSpec := { name := "fnExactWorldWaits", fn := fun _ => fun
  | [d] => { results := [.lit (.bool true)], args := [d] }
  | _ => none }
def fnExactWorldWaitsRow : OpenClaim := { program := "ytomolbhcggaakaagreat", sum := "814f1ba78a35be1a3990aee4d5040f5395126878d748178ec64e8390788f904c", func := "loop.example/errandry/laws.FnExactWorldWaits", spec := "fnExactWorldWaits", inPlace := ["internal/bytealg.IndexByteString", "internal/bytealg.IndexString"], unfollowed := true, recurses := true, named := ["internal/bytealg.MaxLen"], apart := false }
def FnExactWorldWaitsSaid : Prop := fnExactWorldWaitsRow.holds Tryz.pinned (OpenSpec.ofChange fnExactWorldWaitsSpec)

/-- ITS FALSE NEIGHBOUR: 'it returns false'. Refute it at one input. -/
def fnExactWorldWaitsWrong : ChangeSpec := { name := "fnExactWorldWaits", fn := fun _ => fun
  | [d] => { results := [.lit (.bool false)], args := [d] }
  | _ => none }
def FnExactWorldWaitsWrongFalsely : Prop := fnExactWorldWaitsRow.holds Tryz.pinned (OpenSpec.ofChange fnExactWorldWaitsWrong)

/-- 'laws.FnExactWorldAlive': WHATEVER THE INPUT: true; the input reads as it did. -/
def fnExactWorldAliveSpec : ChangeSpec := { name := "fnExactWorldAlive", fn := fun _ => fun
  | [d] => { results := [.lit (.bool true)], args := [d] }
  | _ => none }
def fnExactWorldAliveRow : OpenClaim := { program := "ytomolbhcggaakaagreat", sum := "814f1ba78a35be1a3990aee4d5040f5395126878d748178ec64e8390788f904c", func := "loop.example/errandry/laws.FnExactWorldAlive", spec := "fnExactWorldAlive", inPlace := ["internal/bytealg.IndexByteString", "internal/bytealg.IndexString"], unfollowed := true, recurses := true, named := ["internal/bytealg.MaxLen"], apart := false }
def FnExactWorldAliveSaid : Prop := fnExactWorldAliveRow.holds Tryz.pinned (OpenSpec.ofChange fnExactWorldAliveSpec)

/-- ITS FALSE NEIGHBOUR: 'it returns false'. Refute it at one input. -/
def fnExactWorldAliveWrong : ChangeSpec := { name := "fnExactWorldAlive", fn := fun _ => fun
  | [d] => { results := [.lit (.bool false)], args := [d] }
  | _ => none }
def FnExactWorldAliveWrongFalsely : Prop := fnExactWorldAliveRow.holds Tryz.pinned (OpenSpec.ofChange fnExactWorldAliveWrong)

/-- 'laws.FnExactWorldGive': WHATEVER THE INPUT: true; the input reads as it did. -/
def fnExactWorldGiveSpec : ChangeSpec := { name := "fnExactWorldGive", fn := fun _ => fun
  | [d1, d2, d3] => { results := [.lit (.bool true)], args := [d1, d2, d3] }
  | _ => none }
def fnExactWorldGiveRow : OpenClaim := { program := "ytomolbhcggaakaagreat", sum := "814f1ba78a35be1a3990aee4d5040f5395126878d748178ec64e8390788f904c", func := "loop.example/errandry/laws.FnExactWorldGive", spec := "fnExactWorldGive", inPlace := ["internal/bytealg.IndexByteString", "internal/bytealg.IndexString"], unfollowed := true, recurses := true, named := ["internal/bytealg.MaxLen"], apart := false }
def FnExactWorldGiveSaid : Prop := fnExactWorldGiveRow.holds Tryz.pinned (OpenSpec.ofChange fnExactWorldGiveSpec)

/-- ITS FALSE NEIGHBOUR: 'it returns false'. Refute it at one input. -/
def fnExactWorldGiveWrong : ChangeSpec := { name := "fnExactWorldGive", fn := fun _ => fun
  | [d1, d2, d3] => { results := [.lit (.bool false)], args := [d1, d2, d3] }
  | _ => none }
def FnExactWorldGiveWrongFalsely : Prop := fnExactWorldGiveRow.holds Tryz.pinned (OpenSpec.ofChange fnExactWorldGiveWrong)

/-- 'laws.FnExactFallEnd': WHATEVER THE INPUT: true; the input reads as it did. -/
def fnExactFallEndSpec : ChangeSpec := { name := "fnExactFallEnd", fn := fun _ => fun
  | [d1, d2, d3] => { results := [.lit (.bool true)], args := [d1, d2, d3] }
  | _ => none }
def fnExactFallEndRow : OpenClaim := { program := "ytomolbhcggaakaagreat", sum := "814f1ba78a35be1a3990aee4d5040f5395126878d748178ec64e8390788f904c", func := "loop.example/errandry/laws.FnExactFallEnd", spec := "fnExactFallEnd", inPlace := ["internal/bytealg.IndexByteString", "internal/bytealg.IndexString"], unfollowed := true, recurses := true, named := ["internal/bytealg.MaxLen"], apart := false }
def FnExactFallEndSaid : Prop := fnExactFallEndRow.holds Tryz.pinned (OpenSpec.ofChange fnExactFallEndSpec)

/-- ITS FALSE NEIGHBOUR: 'it returns false'. Refute it at one input. -/
def fnExactFallEndWrong : ChangeSpec := { name := "fnExactFallEnd", fn := fun _ => fun
  | [d1, d2, d3] => { results := [.lit (.bool false)], args := [d1, d2, d3] }
  | _ => none }
def FnExactFallEndWrongFalsely : Prop := fnExactFallEndRow.holds Tryz.pinned (OpenSpec.ofChange fnExactFallEndWrong)

/-- 'laws.FnExactFallWith': WHATEVER THE INPUT: true; the input reads as it did. -/
def fnExactFallWithSpec : ChangeSpec := { name := "fnExactFallWith", fn := fun _ => fun
  | [d1, d2] => { results := [.lit (.bool true)], args := [d1, d2] }
  | _ => none }
def fnExactFallWithRow : OpenClaim := { program := "ytomolbhcggaakaagreat", sum := "814f1ba78a35be1a3990aee4d5040f5395126878d748178ec64e8390788f904c", func := "loop.example/errandry/laws.FnExactFallWith", spec := "fnExactFallWith", inPlace := ["internal/bytealg.IndexByteString", "internal/bytealg.IndexString"], unfollowed := true, recurses := true, named := ["internal/bytealg.MaxLen"], apart := false }
def FnExactFallWithSaid : Prop := fnExactFallWithRow.holds Tryz.pinned (OpenSpec.ofChange fnExactFallWithSpec)

/-- ITS FALSE NEIGHBOUR: 'it returns false'. Refute it at one input. -/
def fnExactFallWithWrong : ChangeSpec := { name := "fnExactFallWith", fn := fun _ => fun
  | [d1, d2] => { results := [.lit (.bool false)], args := [d1, d2] }
  | _ => none }
def FnExactFallWithWrongFalsely : Prop := fnExactFallWithRow.holds Tryz.pinned (OpenSpec.ofChange fnExactFallWithWrong)

/-- 'laws.FnExactFallTold': WHATEVER THE INPUT: true; the input reads as it did. -/
def fnExactFallToldSpec : ChangeSpec := { name := "fnExactFallTold", fn := fun _ => fun
  | [d1, d2, d3] => { results := [.lit (.bool true)], args := [d1, d2, d3] }
  | _ => none }
def fnExactFallToldRow : OpenClaim := { program := "ytomolbhcggaakaagreat", sum := "814f1ba78a35be1a3990aee4d5040f5395126878d748178ec64e8390788f904c", func := "loop.example/errandry/laws.FnExactFallTold", spec := "fnExactFallTold", inPlace := ["internal/bytealg.IndexByteString", "internal/bytealg.IndexString"], unfollowed := true, recurses := true, named := ["internal/bytealg.MaxLen"], apart := false }
def FnExactFallToldSaid : Prop := fnExactFallToldRow.holds Tryz.pinned (OpenSpec.ofChange fnExactFallToldSpec)

/-- ITS FALSE NEIGHBOUR: 'it returns false'. Refute it at one input. -/
def fnExactFallToldWrong : ChangeSpec := { name := "fnExactFallTold", fn := fun _ => fun
  | [d1, d2, d3] => { results := [.lit (.bool false)], args := [d1, d2, d3] }
  | _ => none }
def FnExactFallToldWrongFalsely : Prop := fnExactFallToldRow.holds Tryz.pinned (OpenSpec.ofChange fnExactFallToldWrong)

/-- 'laws.FnFallTold': WHATEVER THE INPUT: true; the input reads as it did. -/
def fnFallToldSpec : ChangeSpec := { name := "fnFallTold", fn := fun _ => fun
  | [d] => { results := [.lit (.bool true)], args := [d] }
  | _ => none }
def fnFallToldRow : OpenClaim := { program := "ytomolbhcggaakaagreat", sum := "814f1ba78a35be1a3990aee4d5040f5395126878d748178ec64e8390788f904c", func := "loop.example/errandry/laws.FnFallTold", spec := "fnFallTold", inPlace := ["internal/bytealg.IndexByteString", "internal/bytealg.IndexString"], unfollowed := true, recurses := true, named := ["internal/bytealg.MaxLen"], apart := false }
def FnFallToldSaid : Prop := fnFallToldRow.holds Tryz.pinned (OpenSpec.ofChange fnFallToldSpec)

/-- ITS FALSE NEIGHBOUR: 'it returns false'. Refute it at one input. -/
def fnFallToldWrong : ChangeSpec := { name := "fnFallTold", fn := fun _ => fun
  | [d] => { results := [.lit (.bool false)], args := [d] }
  | _ => none }
def FnFallToldWrongFalsely : Prop := fnFallToldRow.holds Tryz.pinned (OpenSpec.ofChange fnFallToldWrong)

/- THE SECOND FORM. 'bulk': how many values and letters a reading holds, each counted each time it is reached (what is shared counts as often as it is met; a slice's spare places count too). A statement '..UptoSaid' is the law's where the arguments, and the package variables that the reading takes, are together of bulk at most 1048576: NARROWER than '..Said'. Prove '..Said' where nothing that the law and all that it calls make is longer than what came in: it says more and counts as full. Else prove '..UptoSaid'. A law counts once. -/
mutual
def uptoBulk {H : Type} : DataW H → Nat
  | .lit (.string bytes) => bytes.length + 1
  | .lit _ => 1
  | .nil => 1
  | .ptr d => uptoBulk d + 1
  | .slice elems spare => uptoBulkAll elems + uptoBulkAll spare + 1
  | .agg parts => uptoBulkAll parts + 1
  | .iface _ d => uptoBulk d + 1
  | .map entries => uptoBulkEntries entries + 1
  | .held _ => 1
def uptoBulkAll {H : Type} : List (DataW H) → Nat
  | [] => 0
  | d :: r => uptoBulk d + uptoBulkAll r
def uptoBulkEntries {H : Type} : List (Lit × DataW H) → Nat
  | [] => 0
  | x :: r => uptoBulkEntry x + uptoBulkEntries r
def uptoBulkEntry {H : Type} : Lit × DataW H → Nat
  | (.string bytes, d) => bytes.length + uptoBulk d + 1
  | (_, d) => uptoBulk d + 1
 end
def uptoSmall : (H : Type) → List (DataW H) → Bool := fun _ ds => decide (uptoBulkAll ds ≤ 1048576)
def OpenSpec.upto (s : _root_.Go.ChangeSpec) : _root_.Go.OpenSpec := { _root_.Go.OpenSpec.ofChange s with cond := some uptoSmall }

/-- 'laws.FnExactWorldOk', WHERE WHAT IT READS IS OF BULK AT MOST 1048576: true; the input reads as it did. -/
def fnExactWorldOkUptoRow : OpenClaim := { program := "ytomolbhcggaakaagreat", sum := "814f1ba78a35be1a3990aee4d5040f5395126878d748178ec64e8390788f904c", func := "loop.example/errandry/laws.FnExactWorldOk", spec := "fnExactWorldOk", inPlace := ["internal/bytealg.IndexByteString", "internal/bytealg.IndexString"], unfollowed := true, recurses := true, named := ["internal/bytealg.MaxLen"], apart := false, narrowed := true }
def FnExactWorldOkUptoSaid : Prop := fnExactWorldOkUptoRow.holds Tryz.pinned (OpenSpec.upto fnExactWorldOkSpec)

/-- 'laws.FnExactWorldIdle', WHERE WHAT IT READS IS OF BULK AT MOST 1048576: true; the input reads as it did. -/
def fnExactWorldIdleUptoRow : OpenClaim := { program := "ytomolbhcggaakaagreat", sum := "814f1ba78a35be1a3990aee4d5040f5395126878d748178ec64e8390788f904c", func := "loop.example/errandry/laws.FnExactWorldIdle", spec := "fnExactWorldIdle", inPlace := ["internal/bytealg.IndexByteString", "internal/bytealg.IndexString"], unfollowed := true, recurses := true, named := ["internal/bytealg.MaxLen"], apart := false, narrowed := true }
def FnExactWorldIdleUptoSaid : Prop := fnExactWorldIdleUptoRow.holds Tryz.pinned (OpenSpec.upto fnExactWorldIdleSpec)

/-- 'laws.FnExactWorldWaits', WHERE WHAT IT READS IS OF BULK AT MOST 1048576: true; the input reads as it did. -/
def fnExactWorldWaitsUptoRow : OpenClaim := { program := "ytomolbhcggaakaagreat", sum := "814f1ba78a35be1a3990aee4d5040f5395126878d748178ec64e8390788f904c", func := "loop.example/errandry/laws.FnExactWorldWaits", spec := "fnExactWorldWaits", inPlace := ["internal/bytealg.IndexByteString", "internal/bytealg.IndexString"], unfollowed := true, recurses := true, named := ["internal/bytealg.MaxLen"], apart := false, narrowed := true }
def FnExactWorldWaitsUptoSaid : Prop := fnExactWorldWaitsUptoRow.holds Tryz.pinned (OpenSpec.upto fnExactWorldWaitsSpec)

/-- 'laws.FnExactWorldAlive', WHERE WHAT IT READS IS OF BULK AT MOST 1048576: true; the input reads as it did. -/
def fnExactWorldAliveUptoRow : OpenClaim := { program := "ytomolbhcggaakaagreat", sum := "814f1ba78a35be1a3990aee4d5040f5395126878d748178ec64e8390788f904c", func := "loop.example/errandry/laws.FnExactWorldAlive", spec := "fnExactWorldAlive", inPlace := ["internal/bytealg.IndexByteString", "internal/bytealg.IndexString"], unfollowed := true, recurses := true, named := ["internal/bytealg.MaxLen"], apart := false, narrowed := true }
def FnExactWorldAliveUptoSaid : Prop := fnExactWorldAliveUptoRow.holds Tryz.pinned (OpenSpec.upto fnExactWorldAliveSpec)

/-- 'laws.FnExactWorldGive', WHERE WHAT IT READS IS OF BULK AT MOST 1048576: true; the input reads as it did. -/
def fnExactWorldGiveUptoRow : OpenClaim := { program := "ytomolbhcggaakaagreat", sum := "814f1ba78a35be1a3990aee4d5040f5395126878d748178ec64e8390788f904c", func := "loop.example/errandry/laws.FnExactWorldGive", spec := "fnExactWorldGive", inPlace := ["internal/bytealg.IndexByteString", "internal/bytealg.IndexString"], unfollowed := true, recurses := true, named := ["internal/bytealg.MaxLen"], apart := false, narrowed := true }
def FnExactWorldGiveUptoSaid : Prop := fnExactWorldGiveUptoRow.holds Tryz.pinned (OpenSpec.upto fnExactWorldGiveSpec)

/-- 'laws.FnExactFallEnd', WHERE WHAT IT READS IS OF BULK AT MOST 1048576: true; the input reads as it did. -/
def fnExactFallEndUptoRow : OpenClaim := { program := "ytomolbhcggaakaagreat", sum := "814f1ba78a35be1a3990aee4d5040f5395126878d748178ec64e8390788f904c", func := "loop.example/errandry/laws.FnExactFallEnd", spec := "fnExactFallEnd", inPlace := ["internal/bytealg.IndexByteString", "internal/bytealg.IndexString"], unfollowed := true, recurses := true, named := ["internal/bytealg.MaxLen"], apart := false, narrowed := true }
def FnExactFallEndUptoSaid : Prop := fnExactFallEndUptoRow.holds Tryz.pinned (OpenSpec.upto fnExactFallEndSpec)

/-- 'laws.FnExactFallWith', WHERE WHAT IT READS IS OF BULK AT MOST 1048576: true; the input reads as it did. -/
def fnExactFallWithUptoRow : OpenClaim := { program := "ytomolbhcggaakaagreat", sum := "814f1ba78a35be1a3990aee4d5040f5395126878d748178ec64e8390788f904c", func := "loop.example/errandry/laws.FnExactFallWith", spec := "fnExactFallWith", inPlace := ["internal/bytealg.IndexByteString", "internal/bytealg.IndexString"], unfollowed := true, recurses := true, named := ["internal/bytealg.MaxLen"], apart := false, narrowed := true }
def FnExactFallWithUptoSaid : Prop := fnExactFallWithUptoRow.holds Tryz.pinned (OpenSpec.upto fnExactFallWithSpec)

/-- 'laws.FnExactFallTold', WHERE WHAT IT READS IS OF BULK AT MOST 1048576: true; the input reads as it did. -/
def fnExactFallToldUptoRow : OpenClaim := { program := "ytomolbhcggaakaagreat", sum := "814f1ba78a35be1a3990aee4d5040f5395126878d748178ec64e8390788f904c", func := "loop.example/errandry/laws.FnExactFallTold", spec := "fnExactFallTold", inPlace := ["internal/bytealg.IndexByteString", "internal/bytealg.IndexString"], unfollowed := true, recurses := true, named := ["internal/bytealg.MaxLen"], apart := false, narrowed := true }
def FnExactFallToldUptoSaid : Prop := fnExactFallToldUptoRow.holds Tryz.pinned (OpenSpec.upto fnExactFallToldSpec)

/-- 'laws.FnFallTold', WHERE WHAT IT READS IS OF BULK AT MOST 1048576: true; the input reads as it did. -/
def fnFallToldUptoRow : OpenClaim := { program := "ytomolbhcggaakaagreat", sum := "814f1ba78a35be1a3990aee4d5040f5395126878d748178ec64e8390788f904c", func := "loop.example/errandry/laws.FnFallTold", spec := "fnFallTold", inPlace := ["internal/bytealg.IndexByteString", "internal/bytealg.IndexString"], unfollowed := true, recurses := true, named := ["internal/bytealg.MaxLen"], apart := false, narrowed := true }
def FnFallToldUptoSaid : Prop := fnFallToldUptoRow.holds Tryz.pinned (OpenSpec.upto fnFallToldSpec)

end Rows
end Go.Proofs.YtomolbhcggaakaaGreat
