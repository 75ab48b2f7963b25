/-
  No cell of these rows narrows 'for every input' (looked for: loops, veiled, ifaces, maps, wideKeys, modest, calm, conditions, laid).
  DERIVED. THE GIVEN ROWS OF THIS SEAT. 8 by the template 'for every input the law returns true; each argument reads behind the call as it read before'; 0 by the template 'total and deterministic' (their statements: YthlebalbiokjpaaGreatTotals.lean).
  GIVEN WITH THE SEED: the statements are not yours to turn. If you find one false, say at which input.
  Laid BY PROGRAM, IN A SANDBOX (cutbox-rows.mjs): the forced cells as the released guide's own fill.sh prints them over the translation b774f58ec3eb72b8… (all of the seat's roots in one cut). By AI agents, Wed Nov 11 2026. No macro, syntax, notation, axiom, sorry.
-/
import Derived.Test.YthlebalbiokjpaaGreatChecked
import GoSem.Claim
import GoSem.ClaimJoined
import GoSem.ClaimMapViews
import Derived.JoinedTies
import Derived.KernelRfl
namespace Go.Proofs.YthlebalbiokjpaaGreat
/- THE CELL 'sum', in the pinned program and in every row, IS THE sha256 OF THE DUMP (.gsa) THAT YthlebalbiokjpaaGreatProg.lean LOADS. Nothing in Lean hashes anything: it is a label: what it is worth is what the hold of that sum in a sandbox is worth. -/
noncomputable def Tryz.pinned : Pinned := { name := "ythlebalbiokjpaagreat", sum := "b774f58ec3eb72b8f2298889e969c55e9aad2bd4a08dfe6a4aa0169c28e2c9b5", checked := Tryz.checked }
namespace Rows
def none {H : Type} : Left H := { results := [], args := [] }

/-- 'laws.FnExactGatewayOK': WHATEVER THE INPUT: true; the input reads as it did. -/
def fnExactGatewayOKSpec : ChangeSpec := { name := "fnExactGatewayOK", fn := fun _ => fun
  | [d] => { results := [.lit (.bool true)], args := [d] }
  | _ => none }
def fnExactGatewayOKRow : OpenClaim := { program := "ythlebalbiokjpaagreat", sum := "b774f58ec3eb72b8f2298889e969c55e9aad2bd4a08dfe6a4aa0169c28e2c9b5", func := "loop.example/g00356/laws.FnExactGatewayOK", spec := "fnExactGatewayOK", unfollowed := true, recurses := true, apart := false }
def FnExactGatewayOKSaid : Prop := fnExactGatewayOKRow.holds Tryz.pinned (OpenSpec.ofChange fnExactGatewayOKSpec)

/-- ITS FALSE NEIGHBOUR: 'it returns false'. Refute it at one input. -/
def fnExactGatewayOKWrong : ChangeSpec := { name := "fnExactGatewayOK", fn := fun _ => fun
  | [d] => { results := [.lit (.bool false)], args := [d] }
  | _ => none }
def FnExactGatewayOKWrongFalsely : Prop := fnExactGatewayOKRow.holds Tryz.pinned (OpenSpec.ofChange fnExactGatewayOKWrong)

/-- 'laws.FnExactCharge': WHATEVER THE INPUT: true; the input reads as it did. -/
def fnExactChargeSpec : ChangeSpec := { name := "fnExactCharge", fn := fun _ => fun
  | [d1, d2, d3, d4, d5] => { results := [.lit (.bool true)], args := [d1, d2, d3, d4, d5] }
  | _ => none }
def fnExactChargeRow : OpenClaim := { program := "ythlebalbiokjpaagreat", sum := "b774f58ec3eb72b8f2298889e969c55e9aad2bd4a08dfe6a4aa0169c28e2c9b5", func := "loop.example/g00356/laws.FnExactCharge", spec := "fnExactCharge", unfollowed := true, recurses := true, apart := false }
def FnExactChargeSaid : Prop := fnExactChargeRow.holds Tryz.pinned (OpenSpec.ofChange fnExactChargeSpec)

/-- ITS FALSE NEIGHBOUR: 'it returns false'. Refute it at one input. -/
def fnExactChargeWrong : ChangeSpec := { name := "fnExactCharge", fn := fun _ => fun
  | [d1, d2, d3, d4, d5] => { results := [.lit (.bool false)], args := [d1, d2, d3, d4, d5] }
  | _ => none }
def FnExactChargeWrongFalsely : Prop := fnExactChargeRow.holds Tryz.pinned (OpenSpec.ofChange fnExactChargeWrong)

/-- 'laws.FnExactFlowsHold': WHATEVER THE INPUT: true; the input reads as it did. -/
def fnExactFlowsHoldSpec : ChangeSpec := { name := "fnExactFlowsHold", fn := fun _ => fun
  | [d] => { results := [.lit (.bool true)], args := [d] }
  | _ => none }
def fnExactFlowsHoldRow : OpenClaim := { program := "ythlebalbiokjpaagreat", sum := "b774f58ec3eb72b8f2298889e969c55e9aad2bd4a08dfe6a4aa0169c28e2c9b5", func := "loop.example/g00356/laws.FnExactFlowsHold", spec := "fnExactFlowsHold", unfollowed := true, recurses := true, apart := false }
def FnExactFlowsHoldSaid : Prop := fnExactFlowsHoldRow.holds Tryz.pinned (OpenSpec.ofChange fnExactFlowsHoldSpec)

/-- ITS FALSE NEIGHBOUR: 'it returns false'. Refute it at one input. -/
def fnExactFlowsHoldWrong : ChangeSpec := { name := "fnExactFlowsHold", fn := fun _ => fun
  | [d] => { results := [.lit (.bool false)], args := [d] }
  | _ => none }
def FnExactFlowsHoldWrongFalsely : Prop := fnExactFlowsHoldRow.holds Tryz.pinned (OpenSpec.ofChange fnExactFlowsHoldWrong)

/-- 'laws.FnExactSpentOf': WHATEVER THE INPUT: true; the input reads as it did. -/
def fnExactSpentOfSpec : ChangeSpec := { name := "fnExactSpentOf", fn := fun _ => fun
  | [d1, d2] => { results := [.lit (.bool true)], args := [d1, d2] }
  | _ => none }
def fnExactSpentOfRow : OpenClaim := { program := "ythlebalbiokjpaagreat", sum := "b774f58ec3eb72b8f2298889e969c55e9aad2bd4a08dfe6a4aa0169c28e2c9b5", func := "loop.example/g00356/laws.FnExactSpentOf", spec := "fnExactSpentOf", unfollowed := true, recurses := true, apart := false }
def FnExactSpentOfSaid : Prop := fnExactSpentOfRow.holds Tryz.pinned (OpenSpec.ofChange fnExactSpentOfSpec)

/-- ITS FALSE NEIGHBOUR: 'it returns false'. Refute it at one input. -/
def fnExactSpentOfWrong : ChangeSpec := { name := "fnExactSpentOf", fn := fun _ => fun
  | [d1, d2] => { results := [.lit (.bool false)], args := [d1, d2] }
  | _ => none }
def FnExactSpentOfWrongFalsely : Prop := fnExactSpentOfRow.holds Tryz.pinned (OpenSpec.ofChange fnExactSpentOfWrong)

/-- 'laws.FnExactBytesHold': WHATEVER THE INPUT: true; the input reads as it did. -/
def fnExactBytesHoldSpec : ChangeSpec := { name := "fnExactBytesHold", fn := fun _ => fun
  | [d] => { results := [.lit (.bool true)], args := [d] }
  | _ => none }
def fnExactBytesHoldRow : OpenClaim := { program := "ythlebalbiokjpaagreat", sum := "b774f58ec3eb72b8f2298889e969c55e9aad2bd4a08dfe6a4aa0169c28e2c9b5", func := "loop.example/g00356/laws.FnExactBytesHold", spec := "fnExactBytesHold", unfollowed := true, recurses := true, apart := false }
def FnExactBytesHoldSaid : Prop := fnExactBytesHoldRow.holds Tryz.pinned (OpenSpec.ofChange fnExactBytesHoldSpec)

/-- ITS FALSE NEIGHBOUR: 'it returns false'. Refute it at one input. -/
def fnExactBytesHoldWrong : ChangeSpec := { name := "fnExactBytesHold", fn := fun _ => fun
  | [d] => { results := [.lit (.bool false)], args := [d] }
  | _ => none }
def FnExactBytesHoldWrongFalsely : Prop := fnExactBytesHoldRow.holds Tryz.pinned (OpenSpec.ofChange fnExactBytesHoldWrong)

/-- 'laws.FnExactNewGateway': WHATEVER THE INPUT: true; the input reads as it did. -/
def fnExactNewGatewaySpec : ChangeSpec := { name := "fnExactNewGateway", fn := fun _ => fun
  | [d1, d2] => { results := [.lit (.bool true)], args := [d1, d2] }
  | _ => none }
def fnExactNewGatewayRow : OpenClaim := { program := "ythlebalbiokjpaagreat", sum := "b774f58ec3eb72b8f2298889e969c55e9aad2bd4a08dfe6a4aa0169c28e2c9b5", func := "loop.example/g00356/laws.FnExactNewGateway", spec := "fnExactNewGateway", unfollowed := true, recurses := true, apart := false }
def FnExactNewGatewaySaid : Prop := fnExactNewGatewayRow.holds Tryz.pinned (OpenSpec.ofChange fnExactNewGatewaySpec)

/-- ITS FALSE NEIGHBOUR: 'it returns false'. Refute it at one input. -/
def fnExactNewGatewayWrong : ChangeSpec := { name := "fnExactNewGateway", fn := fun _ => fun
  | [d1, d2] => { results := [.lit (.bool false)], args := [d1, d2] }
  | _ => none }
def FnExactNewGatewayWrongFalsely : Prop := fnExactNewGatewayRow.holds Tryz.pinned (OpenSpec.ofChange fnExactNewGatewayWrong)

/-- 'laws.FnExactSetIsn': WHATEVER THE INPUT: true; the input reads as it did. -/
def fnExactSetIsnSpec : ChangeSpec := { name := "fnExactSetIsn", fn := fun _ => fun
  | [d1, d2] => { results := [.lit (.bool true)], args := [d1, d2] }
  | _ => none }
def fnExactSetIsnRow : OpenClaim := { program := "ythlebalbiokjpaagreat", sum := "b774f58ec3eb72b8f2298889e969c55e9aad2bd4a08dfe6a4aa0169c28e2c9b5", func := "loop.example/g00356/laws.FnExactSetIsn", spec := "fnExactSetIsn", unfollowed := true, recurses := true, apart := false }
def FnExactSetIsnSaid : Prop := fnExactSetIsnRow.holds Tryz.pinned (OpenSpec.ofChange fnExactSetIsnSpec)

/-- ITS FALSE NEIGHBOUR: 'it returns false'. Refute it at one input. -/
def fnExactSetIsnWrong : ChangeSpec := { name := "fnExactSetIsn", fn := fun _ => fun
  | [d1, d2] => { results := [.lit (.bool false)], args := [d1, d2] }
  | _ => none }
def FnExactSetIsnWrongFalsely : Prop := fnExactSetIsnRow.holds Tryz.pinned (OpenSpec.ofChange fnExactSetIsnWrong)

/-- 'laws.FnExactKickGuest': WHATEVER THE INPUT: true; the input reads as it did. -/
def fnExactKickGuestSpec : ChangeSpec := { name := "fnExactKickGuest", fn := fun _ => fun
  | [d1, d2] => { results := [.lit (.bool true)], args := [d1, d2] }
  | _ => none }
def fnExactKickGuestRow : OpenClaim := { program := "ythlebalbiokjpaagreat", sum := "b774f58ec3eb72b8f2298889e969c55e9aad2bd4a08dfe6a4aa0169c28e2c9b5", func := "loop.example/g00356/laws.FnExactKickGuest", spec := "fnExactKickGuest", unfollowed := true, recurses := true, apart := false }
def FnExactKickGuestSaid : Prop := fnExactKickGuestRow.holds Tryz.pinned (OpenSpec.ofChange fnExactKickGuestSpec)

/-- ITS FALSE NEIGHBOUR: 'it returns false'. Refute it at one input. -/
def fnExactKickGuestWrong : ChangeSpec := { name := "fnExactKickGuest", fn := fun _ => fun
  | [d1, d2] => { results := [.lit (.bool false)], args := [d1, d2] }
  | _ => none }
def FnExactKickGuestWrongFalsely : Prop := fnExactKickGuestRow.holds Tryz.pinned (OpenSpec.ofChange fnExactKickGuestWrong)

/- THE SECOND FORM. 'bulk': how many values and letters a reading holds, each counted each time it is reached (what is shared counts as often as it is met; a slice's spare places count too). A statement '..UptoSaid' is the law's where the arguments, and the package variables that the reading takes, are together of bulk at most 1048576: NARROWER than '..Said'. Prove '..Said' where nothing that the law and all that it calls make is longer than what came in: it says more and counts as full. Else prove '..UptoSaid'. A law counts once. -/
mutual
def uptoBulk {H : Type} : DataW H → Nat
  | .lit (.string bytes) => bytes.length + 1
  | .lit _ => 1
  | .nil => 1
  | .ptr d => uptoBulk d + 1
  | .slice elems spare => uptoBulkAll elems + uptoBulkAll spare + 1
  | .agg parts => uptoBulkAll parts + 1
  | .iface _ d => uptoBulk d + 1
  | .map entries => uptoBulkEntries entries + 1
  | .held _ => 1
def uptoBulkAll {H : Type} : List (DataW H) → Nat
  | [] => 0
  | d :: r => uptoBulk d + uptoBulkAll r
def uptoBulkEntries {H : Type} : List (Lit × DataW H) → Nat
  | [] => 0
  | x :: r => uptoBulkEntry x + uptoBulkEntries r
def uptoBulkEntry {H : Type} : Lit × DataW H → Nat
  | (.string bytes, d) => bytes.length + uptoBulk d + 1
  | (_, d) => uptoBulk d + 1
 end
def uptoSmall : (H : Type) → List (DataW H) → Bool := fun _ ds => decide (uptoBulkAll ds ≤ 1048576)
def OpenSpec.upto (s : _root_.Go.ChangeSpec) : _root_.Go.OpenSpec := { _root_.Go.OpenSpec.ofChange s with cond := some uptoSmall }

/-- 'laws.FnExactGatewayOK', WHERE WHAT IT READS IS OF BULK AT MOST 1048576: true; the input reads as it did. -/
def fnExactGatewayOKUptoRow : OpenClaim := { program := "ythlebalbiokjpaagreat", sum := "b774f58ec3eb72b8f2298889e969c55e9aad2bd4a08dfe6a4aa0169c28e2c9b5", func := "loop.example/g00356/laws.FnExactGatewayOK", spec := "fnExactGatewayOK", unfollowed := true, recurses := true, apart := false, narrowed := true }
def FnExactGatewayOKUptoSaid : Prop := fnExactGatewayOKUptoRow.holds Tryz.pinned (OpenSpec.upto fnExactGatewayOKSpec)

/-- 'laws.FnExactCharge', WHERE WHAT IT READS IS OF BULK AT MOST 1048576: true; the input reads as it did. -/
def fnExactChargeUptoRow : OpenClaim := { program := "ythlebalbiokjpaagreat", sum := "b774f58ec3eb72b8f2298889e969c55e9aad2bd4a08dfe6a4aa0169c28e2c9b5", func := "loop.example/g00356/laws.FnExactCharge", spec := "fnExactCharge", unfollowed := true, recurses := true, apart := false, narrowed := true }
def FnExactChargeUptoSaid : Prop := fnExactChargeUptoRow.holds Tryz.pinned (OpenSpec.upto fnExactChargeSpec)

/-- 'laws.FnExactFlowsHold', WHERE WHAT IT READS IS OF BULK AT MOST 1048576: true; the input reads as it did. -/
def fnExactFlowsHoldUptoRow : OpenClaim := { program := "ythlebalbiokjpaagreat", sum := "b774f58ec3eb72b8f2298889e969c55e9aad2bd4a08dfe6a4aa0169c28e2c9b5", func := "loop.example/g00356/laws.FnExactFlowsHold", spec := "fnExactFlowsHold", unfollowed := true, recurses := true, apart := false, narrowed := true }
def FnExactFlowsHoldUptoSaid : Prop := fnExactFlowsHoldUptoRow.holds Tryz.pinned (OpenSpec.upto fnExactFlowsHoldSpec)

/-- 'laws.FnExactSpentOf', WHERE WHAT IT READS IS OF BULK AT MOST 1048576: true; the input reads as it did. -/
def fnExactSpentOfUptoRow : OpenClaim := { program := "ythlebalbiokjpaagreat", sum := "b774f58ec3eb72b8f2298889e969c55e9aad2bd4a08dfe6a4aa0169c28e2c9b5", func := "loop.example/g00356/laws.FnExactSpentOf", spec := "fnExactSpentOf", unfollowed := true, recurses := true, apart := false, narrowed := true }
def FnExactSpentOfUptoSaid : Prop := fnExactSpentOfUptoRow.holds Tryz.pinned (OpenSpec.upto fnExactSpentOfSpec)

/-- 'laws.FnExactBytesHold', WHERE WHAT IT READS IS OF BULK AT MOST 1048576: true; the input reads as it did. -/
def fnExactBytesHoldUptoRow : OpenClaim := { program := "ythlebalbiokjpaagreat", sum := "b774f58ec3eb72b8f2298889e969c55e9aad2bd4a08dfe6a4aa0169c28e2c9b5", func := "loop.example/g00356/laws.FnExactBytesHold", spec := "fnExactBytesHold", unfollowed := true, recurses := true, apart := false, narrowed := true }
def FnExactBytesHoldUptoSaid : Prop := fnExactBytesHoldUptoRow.holds Tryz.pinned (OpenSpec.upto fnExactBytesHoldSpec)

/-- 'laws.FnExactNewGateway', WHERE WHAT IT READS IS OF BULK AT MOST 1048576: true; the input reads as it did. -/
def fnExactNewGatewayUptoRow : OpenClaim := { program := "ythlebalbiokjpaagreat", sum := "b774f58ec3eb72b8f2298889e969c55e9aad2bd4a08dfe6a4aa0169c28e2c9b5", func := "loop.example/g00356/laws.FnExactNewGateway", spec := "fnExactNewGateway", unfollowed := true, recurses := true, apart := false, narrowed := true }
def FnExactNewGatewayUptoSaid : Prop := fnExactNewGatewayUptoRow.holds Tryz.pinned (OpenSpec.upto fnExactNewGatewaySpec)

/-- 'laws.FnExactSetIsn', WHERE WHAT IT READS IS OF BULK AT MOST 1048576: true; the input reads as it did. -/
def fnExactSetIsnUptoRow : OpenClaim := { program := "ythlebalbiokjpaagreat", sum := "b774f58ec3eb72b8f2298889e969c55e9aad2bd4a08dfe6a4aa0169c28e2c9b5", func := "loop.example/g00356/laws.FnExactSetIsn", spec := "fnExactSetIsn", unfollowed := true, recurses := true, apart := false, narrowed := true }
def FnExactSetIsnUptoSaid : Prop := fnExactSetIsnUptoRow.holds Tryz.pinned (OpenSpec.upto fnExactSetIsnSpec)

/-- 'laws.FnExactKickGuest', WHERE WHAT IT READS IS OF BULK AT MOST 1048576: true; the input reads as it did. -/
def fnExactKickGuestUptoRow : OpenClaim := { program := "ythlebalbiokjpaagreat", sum := "b774f58ec3eb72b8f2298889e969c55e9aad2bd4a08dfe6a4aa0169c28e2c9b5", func := "loop.example/g00356/laws.FnExactKickGuest", spec := "fnExactKickGuest", unfollowed := true, recurses := true, apart := false, narrowed := true }
def FnExactKickGuestUptoSaid : Prop := fnExactKickGuestUptoRow.holds Tryz.pinned (OpenSpec.upto fnExactKickGuestSpec)

end Rows
end Go.Proofs.YthlebalbiokjpaaGreat
