/-
  No cell of these rows narrows 'for every input' (looked for: loops, veiled, ifaces, maps, wideKeys, modest, calm, conditions, laid).
  DERIVED. THE GIVEN ROWS OF THIS SEAT. 7 by the template 'for every input the law returns true; each argument reads behind the call as it read before'; 0 by the template 'total and deterministic' (their statements: YtggkdjhgknghcaaTotals.lean).
  GIVEN WITH THE SEED: the statements are not yours to turn. If you find one false, say at which input.
  Laid BY PROGRAM, IN A SANDBOX (cutbox-rows.mjs): the forced cells as the released guide's own fill.sh prints them over the translation 8af1ef3483be83e3… (all of the seat's roots in one cut). By AI agents, Wed Nov 11 2026. No macro, syntax, notation, axiom, sorry.
-/
import Derived.Test.YtggkdjhgknghcaaChecked
import GoSem.Claim
import GoSem.ClaimJoined
import GoSem.ClaimMapViews
import Derived.JoinedTies
import Derived.KernelRfl
namespace Go.Proofs.Ytggkdjhgknghcaa
/- THE CELL 'sum', in the pinned program and in every row, IS THE sha256 OF THE DUMP (.gsa) THAT YtggkdjhgknghcaaProg.lean LOADS. Nothing in Lean hashes anything: it is a label: what it is worth is what the hold of that sum in a sandbox is worth. -/
noncomputable def Try.pinned : Pinned := { name := "ytggkdjhgknghcaa", sum := "8af1ef3483be83e34da775c29133e63fa5dfad90d5b765e62862fae4563ef77a", checked := Try.checked }
namespace Rows
def none {H : Type} : Left H := { results := [], args := [] }

/-- 'causewaylaw07.BlakeOf': WHATEVER THE INPUT: true; the input reads as it did. -/
def blakeOfSpec : ChangeSpec := { name := "blakeOf", fn := fun _ => fun
  | [d1, d2, d3] => { results := [.lit (.bool true)], args := [d1, d2, d3] }
  | _ => none }
def blakeOfRow : OpenClaim := { program := "ytggkdjhgknghcaa", sum := "8af1ef3483be83e34da775c29133e63fa5dfad90d5b765e62862fae4563ef77a", func := "causeway/causewaylaw07.BlakeOf", spec := "blakeOf", unfollowed := true, recurses := true, apart := false }
def BlakeOfSaid : Prop := blakeOfRow.holds Try.pinned (OpenSpec.ofChange blakeOfSpec)

/-- ITS FALSE NEIGHBOUR: 'it returns false'. Refute it at one input. -/
def blakeOfWrong : ChangeSpec := { name := "blakeOf", fn := fun _ => fun
  | [d1, d2, d3] => { results := [.lit (.bool false)], args := [d1, d2, d3] }
  | _ => none }
def BlakeOfWrongFalsely : Prop := blakeOfRow.holds Try.pinned (OpenSpec.ofChange blakeOfWrong)

/-- 'causewaylaw07.BlakePieces': WHATEVER THE INPUT: true; the input reads as it did. -/
def blakePiecesSpec : ChangeSpec := { name := "blakePieces", fn := fun _ => fun
  | [d1, d2, d3] => { results := [.lit (.bool true)], args := [d1, d2, d3] }
  | _ => none }
def blakePiecesRow : OpenClaim := { program := "ytggkdjhgknghcaa", sum := "8af1ef3483be83e34da775c29133e63fa5dfad90d5b765e62862fae4563ef77a", func := "causeway/causewaylaw07.BlakePieces", spec := "blakePieces", unfollowed := true, recurses := true, apart := false }
def BlakePiecesSaid : Prop := blakePiecesRow.holds Try.pinned (OpenSpec.ofChange blakePiecesSpec)

/-- ITS FALSE NEIGHBOUR: 'it returns false'. Refute it at one input. -/
def blakePiecesWrong : ChangeSpec := { name := "blakePieces", fn := fun _ => fun
  | [d1, d2, d3] => { results := [.lit (.bool false)], args := [d1, d2, d3] }
  | _ => none }
def BlakePiecesWrongFalsely : Prop := blakePiecesRow.holds Try.pinned (OpenSpec.ofChange blakePiecesWrong)

/-- 'causewaylaw07.BlakeSplit': WHATEVER THE INPUT: true; the input reads as it did. -/
def blakeSplitSpec : ChangeSpec := { name := "blakeSplit", fn := fun _ => fun
  | [d1, d2] => { results := [.lit (.bool true)], args := [d1, d2] }
  | _ => none }
def blakeSplitRow : OpenClaim := { program := "ytggkdjhgknghcaa", sum := "8af1ef3483be83e34da775c29133e63fa5dfad90d5b765e62862fae4563ef77a", func := "causeway/causewaylaw07.BlakeSplit", spec := "blakeSplit", unfollowed := true, recurses := true, apart := false }
def BlakeSplitSaid : Prop := blakeSplitRow.holds Try.pinned (OpenSpec.ofChange blakeSplitSpec)

/-- ITS FALSE NEIGHBOUR: 'it returns false'. Refute it at one input. -/
def blakeSplitWrong : ChangeSpec := { name := "blakeSplit", fn := fun _ => fun
  | [d1, d2] => { results := [.lit (.bool false)], args := [d1, d2] }
  | _ => none }
def BlakeSplitWrongFalsely : Prop := blakeSplitRow.holds Try.pinned (OpenSpec.ofChange blakeSplitWrong)

/-- 'causewaylaw07.BlakeLength': WHATEVER THE INPUT: true; the input reads as it did. -/
def blakeLengthSpec : ChangeSpec := { name := "blakeLength", fn := fun _ => fun
  | [d1, d2, d3] => { results := [.lit (.bool true)], args := [d1, d2, d3] }
  | _ => none }
def blakeLengthRow : OpenClaim := { program := "ytggkdjhgknghcaa", sum := "8af1ef3483be83e34da775c29133e63fa5dfad90d5b765e62862fae4563ef77a", func := "causeway/causewaylaw07.BlakeLength", spec := "blakeLength", unfollowed := true, recurses := true, apart := false }
def BlakeLengthSaid : Prop := blakeLengthRow.holds Try.pinned (OpenSpec.ofChange blakeLengthSpec)

/-- ITS FALSE NEIGHBOUR: 'it returns false'. Refute it at one input. -/
def blakeLengthWrong : ChangeSpec := { name := "blakeLength", fn := fun _ => fun
  | [d1, d2, d3] => { results := [.lit (.bool false)], args := [d1, d2, d3] }
  | _ => none }
def BlakeLengthWrongFalsely : Prop := blakeLengthRow.holds Try.pinned (OpenSpec.ofChange blakeLengthWrong)

/-- 'causewaylaw07.BlakeTwice': WHATEVER THE INPUT: true; the input reads as it did. -/
def blakeTwiceSpec : ChangeSpec := { name := "blakeTwice", fn := fun _ => fun
  | [d1, d2] => { results := [.lit (.bool true)], args := [d1, d2] }
  | _ => none }
def blakeTwiceRow : OpenClaim := { program := "ytggkdjhgknghcaa", sum := "8af1ef3483be83e34da775c29133e63fa5dfad90d5b765e62862fae4563ef77a", func := "causeway/causewaylaw07.BlakeTwice", spec := "blakeTwice", unfollowed := true, recurses := true, apart := false }
def BlakeTwiceSaid : Prop := blakeTwiceRow.holds Try.pinned (OpenSpec.ofChange blakeTwiceSpec)

/-- ITS FALSE NEIGHBOUR: 'it returns false'. Refute it at one input. -/
def blakeTwiceWrong : ChangeSpec := { name := "blakeTwice", fn := fun _ => fun
  | [d1, d2] => { results := [.lit (.bool false)], args := [d1, d2] }
  | _ => none }
def BlakeTwiceWrongFalsely : Prop := blakeTwiceRow.holds Try.pinned (OpenSpec.ofChange blakeTwiceWrong)

/-- 'causewaylaw07.BlakeNothing': WHATEVER THE INPUT: true; the input reads as it did. -/
def blakeNothingSpec : ChangeSpec := { name := "blakeNothing", fn := fun _ => fun
  | [d1, d2] => { results := [.lit (.bool true)], args := [d1, d2] }
  | _ => none }
def blakeNothingRow : OpenClaim := { program := "ytggkdjhgknghcaa", sum := "8af1ef3483be83e34da775c29133e63fa5dfad90d5b765e62862fae4563ef77a", func := "causeway/causewaylaw07.BlakeNothing", spec := "blakeNothing", unfollowed := true, recurses := true, apart := false }
def BlakeNothingSaid : Prop := blakeNothingRow.holds Try.pinned (OpenSpec.ofChange blakeNothingSpec)

/-- ITS FALSE NEIGHBOUR: 'it returns false'. Refute it at one input. -/
def blakeNothingWrong : ChangeSpec := { name := "blakeNothing", fn := fun _ => fun
  | [d1, d2] => { results := [.lit (.bool false)], args := [d1, d2] }
  | _ => none }
def BlakeNothingWrongFalsely : Prop := blakeNothingRow.holds Try.pinned (OpenSpec.ofChange blakeNothingWrong)

/-- 'causewaylaw07.BlakeKnown': WHATEVER THE INPUT: true; the input reads as it did. -/
def blakeKnownSpec : ChangeSpec := { name := "blakeKnown", fn := fun _ => fun
  | [] => { results := [.lit (.bool true)], args := [] }
  | _ => none }
def blakeKnownRow : OpenClaim := { program := "ytggkdjhgknghcaa", sum := "8af1ef3483be83e34da775c29133e63fa5dfad90d5b765e62862fae4563ef77a", func := "causeway/causewaylaw07.BlakeKnown", spec := "blakeKnown", unfollowed := true, recurses := true, apart := false }
def BlakeKnownSaid : Prop := blakeKnownRow.holds Try.pinned (OpenSpec.ofChange blakeKnownSpec)

/-- ITS FALSE NEIGHBOUR: 'it returns false'. Refute it at one input. -/
def blakeKnownWrong : ChangeSpec := { name := "blakeKnown", fn := fun _ => fun
  | [] => { results := [.lit (.bool false)], args := [] }
  | _ => none }
def BlakeKnownWrongFalsely : Prop := blakeKnownRow.holds Try.pinned (OpenSpec.ofChange blakeKnownWrong)

/- THE SECOND FORM. 'bulk': how many values and letters a reading holds, each counted each time it is reached (what is shared counts as often as it is met; a slice's spare places count too). A statement '..UptoSaid' is the law's where the arguments, and the package variables that the reading takes, are together of bulk at most 1048576: NARROWER than '..Said'. Prove '..Said' where nothing that the law and all that it calls make is longer than what came in: it says more and counts as full. Else prove '..UptoSaid'. A law counts once. -/
mutual
def uptoBulk {H : Type} : DataW H → Nat
  | .lit (.string bytes) => bytes.length + 1
  | .lit _ => 1
  | .nil => 1
  | .ptr d => uptoBulk d + 1
  | .slice elems spare => uptoBulkAll elems + uptoBulkAll spare + 1
  | .agg parts => uptoBulkAll parts + 1
  | .iface _ d => uptoBulk d + 1
  | .map entries => uptoBulkEntries entries + 1
  | .held _ => 1
def uptoBulkAll {H : Type} : List (DataW H) → Nat
  | [] => 0
  | d :: r => uptoBulk d + uptoBulkAll r
def uptoBulkEntries {H : Type} : List (Lit × DataW H) → Nat
  | [] => 0
  | x :: r => uptoBulkEntry x + uptoBulkEntries r
def uptoBulkEntry {H : Type} : Lit × DataW H → Nat
  | (.string bytes, d) => bytes.length + uptoBulk d + 1
  | (_, d) => uptoBulk d + 1
 end
def uptoSmall : (H : Type) → List (DataW H) → Bool := fun _ ds => decide (uptoBulkAll ds ≤ 1048576)
def OpenSpec.upto (s : _root_.Go.ChangeSpec) : _root_.Go.OpenSpec := { _root_.Go.OpenSpec.ofChange s with cond := some uptoSmall }

/-- 'causewaylaw07.BlakeOf', WHERE WHAT IT READS IS OF BULK AT MOST 1048576: true; the input reads as it did. -/
def blakeOfUptoRow : OpenClaim := { program := "ytggkdjhgknghcaa", sum := "8af1ef3483be83e34da775c29133e63fa5dfad90d5b765e62862fae4563ef77a", func := "causeway/causewaylaw07.BlakeOf", spec := "blakeOf", unfollowed := true, recurses := true, apart := false, narrowed := true }
def BlakeOfUptoSaid : Prop := blakeOfUptoRow.holds Try.pinned (OpenSpec.upto blakeOfSpec)

/-- 'causewaylaw07.BlakePieces', WHERE WHAT IT READS IS OF BULK AT MOST 1048576: true; the input reads as it did. -/
def blakePiecesUptoRow : OpenClaim := { program := "ytggkdjhgknghcaa", sum := "8af1ef3483be83e34da775c29133e63fa5dfad90d5b765e62862fae4563ef77a", func := "causeway/causewaylaw07.BlakePieces", spec := "blakePieces", unfollowed := true, recurses := true, apart := false, narrowed := true }
def BlakePiecesUptoSaid : Prop := blakePiecesUptoRow.holds Try.pinned (OpenSpec.upto blakePiecesSpec)

/-- 'causewaylaw07.BlakeSplit', WHERE WHAT IT READS IS OF BULK AT MOST 1048576: true; the input reads as it did. -/
def blakeSplitUptoRow : OpenClaim := { program := "ytggkdjhgknghcaa", sum := "8af1ef3483be83e34da775c29133e63fa5dfad90d5b765e62862fae4563ef77a", func := "causeway/causewaylaw07.BlakeSplit", spec := "blakeSplit", unfollowed := true, recurses := true, apart := false, narrowed := true }
def BlakeSplitUptoSaid : Prop := blakeSplitUptoRow.holds Try.pinned (OpenSpec.upto blakeSplitSpec)

/-- 'causewaylaw07.BlakeLength', WHERE WHAT IT READS IS OF BULK AT MOST 1048576: true; the input reads as it did. -/
def blakeLengthUptoRow : OpenClaim := { program := "ytggkdjhgknghcaa", sum := "8af1ef3483be83e34da775c29133e63fa5dfad90d5b765e62862fae4563ef77a", func := "causeway/causewaylaw07.BlakeLength", spec := "blakeLength", unfollowed := true, recurses := true, apart := false, narrowed := true }
def BlakeLengthUptoSaid : Prop := blakeLengthUptoRow.holds Try.pinned (OpenSpec.upto blakeLengthSpec)

/-- 'causewaylaw07.BlakeTwice', WHERE WHAT IT READS IS OF BULK AT MOST 1048576: true; the input reads as it did. -/
def blakeTwiceUptoRow : OpenClaim := { program := "ytggkdjhgknghcaa", sum := "8af1ef3483be83e34da775c29133e63fa5dfad90d5b765e62862fae4563ef77a", func := "causeway/causewaylaw07.BlakeTwice", spec := "blakeTwice", unfollowed := true, recurses := true, apart := false, narrowed := true }
def BlakeTwiceUptoSaid : Prop := blakeTwiceUptoRow.holds Try.pinned (OpenSpec.upto blakeTwiceSpec)

/-- 'causewaylaw07.BlakeNothing', WHERE WHAT IT READS IS OF BULK AT MOST 1048576: true; the input reads as it did. -/
def blakeNothingUptoRow : OpenClaim := { program := "ytggkdjhgknghcaa", sum := "8af1ef3483be83e34da775c29133e63fa5dfad90d5b765e62862fae4563ef77a", func := "causeway/causewaylaw07.BlakeNothing", spec := "blakeNothing", unfollowed := true, recurses := true, apart := false, narrowed := true }
def BlakeNothingUptoSaid : Prop := blakeNothingUptoRow.holds Try.pinned (OpenSpec.upto blakeNothingSpec)

/-- 'causewaylaw07.BlakeKnown', WHERE WHAT IT READS IS OF BULK AT MOST 1048576: true; the input reads as it did. -/
def blakeKnownUptoRow : OpenClaim := { program := "ytggkdjhgknghcaa", sum := "8af1ef3483be83e34da775c29133e63fa5dfad90d5b765e62862fae4563ef77a", func := "causeway/causewaylaw07.BlakeKnown", spec := "blakeKnown", unfollowed := true, recurses := true, apart := false, narrowed := true }
def BlakeKnownUptoSaid : Prop := blakeKnownUptoRow.holds Try.pinned (OpenSpec.upto blakeKnownSpec)

end Rows
end Go.Proofs.Ytggkdjhgknghcaa
