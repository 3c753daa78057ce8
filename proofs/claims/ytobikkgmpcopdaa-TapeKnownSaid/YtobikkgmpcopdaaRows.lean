/-
  No cell of these rows narrows 'for every input' (looked for: loops, veiled, ifaces, maps, wideKeys, modest, calm, conditions, laid).
  DERIVED. THE GIVEN ROWS OF THIS SEAT. 7 by the template 'for every input the law returns true; each argument reads behind the call as it read before'; 0 by the template 'total and deterministic' (their statements: YtobikkgmpcopdaaTotals.lean).
  GIVEN WITH THE SEED: the statements are not yours to turn. If you find one false, say at which input.
  Laid BY PROGRAM, IN A SANDBOX (cutbox-rows.mjs): the forced cells as the released guide's own fill.sh prints them over the translation e3301f05bb04e78f… (all of the seat's roots in one cut). By AI agents, Wed Nov 11 2026. No macro, syntax, notation, axiom, sorry.
-/
import Derived.Test.YtobikkgmpcopdaaChecked
import GoSem.Claim
import GoSem.ClaimJoined
import GoSem.ClaimMapViews
import Derived.JoinedTies
import Derived.KernelRfl
namespace Go.Proofs.Ytobikkgmpcopdaa
/- THE CELL 'sum', in the pinned program and in every row, IS THE sha256 OF THE DUMP (.gsa) THAT YtobikkgmpcopdaaProg.lean LOADS. Nothing in Lean hashes anything: it is a label: what it is worth is what the hold of that sum in a sandbox is worth. -/
noncomputable def Try.pinned : Pinned := { name := "ytobikkgmpcopdaa", sum := "e3301f05bb04e78f68d0b7b43d2c2d7670dc11b04d762b64123b5c001fb768ba", checked := Try.checked }
namespace Rows
def none {H : Type} : Left H := { results := [], args := [] }

/-- 'causewaylaw13.TapeDraws': WHATEVER THE INPUT: true; the input reads as it did. -/
def tapeDrawsSpec : ChangeSpec := { name := "tapeDraws", fn := fun _ => fun
  | [d1, d2] => { results := [.lit (.bool true)], args := [d1, d2] }
  | _ => none }
def tapeDrawsRow : OpenClaim := { program := "ytobikkgmpcopdaa", sum := "e3301f05bb04e78f68d0b7b43d2c2d7670dc11b04d762b64123b5c001fb768ba", func := "causeway/causewaylaw13.TapeDraws", spec := "tapeDraws", unfollowed := true, recurses := true, apart := false }
def TapeDrawsSaid : Prop := tapeDrawsRow.holds Try.pinned (OpenSpec.ofChange tapeDrawsSpec)

/-- ITS FALSE NEIGHBOUR: 'it returns false'. Refute it at one input. -/
def tapeDrawsWrong : ChangeSpec := { name := "tapeDraws", fn := fun _ => fun
  | [d1, d2] => { results := [.lit (.bool false)], args := [d1, d2] }
  | _ => none }
def TapeDrawsWrongFalsely : Prop := tapeDrawsRow.holds Try.pinned (OpenSpec.ofChange tapeDrawsWrong)

/-- 'causewaylaw13.TapeKeys': WHATEVER THE INPUT: true; the input reads as it did. -/
def tapeKeysSpec : ChangeSpec := { name := "tapeKeys", fn := fun _ => fun
  | [d1, d2] => { results := [.lit (.bool true)], args := [d1, d2] }
  | _ => none }
def tapeKeysRow : OpenClaim := { program := "ytobikkgmpcopdaa", sum := "e3301f05bb04e78f68d0b7b43d2c2d7670dc11b04d762b64123b5c001fb768ba", func := "causeway/causewaylaw13.TapeKeys", spec := "tapeKeys", unfollowed := true, recurses := true, apart := false }
def TapeKeysSaid : Prop := tapeKeysRow.holds Try.pinned (OpenSpec.ofChange tapeKeysSpec)

/-- ITS FALSE NEIGHBOUR: 'it returns false'. Refute it at one input. -/
def tapeKeysWrong : ChangeSpec := { name := "tapeKeys", fn := fun _ => fun
  | [d1, d2] => { results := [.lit (.bool false)], args := [d1, d2] }
  | _ => none }
def TapeKeysWrongFalsely : Prop := tapeKeysRow.holds Try.pinned (OpenSpec.ofChange tapeKeysWrong)

/-- 'causewaylaw13.TapeAlike': WHATEVER THE INPUT: true; the input reads as it did. -/
def tapeAlikeSpec : ChangeSpec := { name := "tapeAlike", fn := fun _ => fun
  | [d1, d2] => { results := [.lit (.bool true)], args := [d1, d2] }
  | _ => none }
def tapeAlikeRow : OpenClaim := { program := "ytobikkgmpcopdaa", sum := "e3301f05bb04e78f68d0b7b43d2c2d7670dc11b04d762b64123b5c001fb768ba", func := "causeway/causewaylaw13.TapeAlike", spec := "tapeAlike", unfollowed := true, recurses := true, apart := false }
def TapeAlikeSaid : Prop := tapeAlikeRow.holds Try.pinned (OpenSpec.ofChange tapeAlikeSpec)

/-- ITS FALSE NEIGHBOUR: 'it returns false'. Refute it at one input. -/
def tapeAlikeWrong : ChangeSpec := { name := "tapeAlike", fn := fun _ => fun
  | [d1, d2] => { results := [.lit (.bool false)], args := [d1, d2] }
  | _ => none }
def TapeAlikeWrongFalsely : Prop := tapeAlikeRow.holds Try.pinned (OpenSpec.ofChange tapeAlikeWrong)

/-- 'causewaylaw13.TapeWithin': WHATEVER THE INPUT: true; the input reads as it did. -/
def tapeWithinSpec : ChangeSpec := { name := "tapeWithin", fn := fun _ => fun
  | [d1, d2] => { results := [.lit (.bool true)], args := [d1, d2] }
  | _ => none }
def tapeWithinRow : OpenClaim := { program := "ytobikkgmpcopdaa", sum := "e3301f05bb04e78f68d0b7b43d2c2d7670dc11b04d762b64123b5c001fb768ba", func := "causeway/causewaylaw13.TapeWithin", spec := "tapeWithin", unfollowed := true, recurses := true, apart := false }
def TapeWithinSaid : Prop := tapeWithinRow.holds Try.pinned (OpenSpec.ofChange tapeWithinSpec)

/-- ITS FALSE NEIGHBOUR: 'it returns false'. Refute it at one input. -/
def tapeWithinWrong : ChangeSpec := { name := "tapeWithin", fn := fun _ => fun
  | [d1, d2] => { results := [.lit (.bool false)], args := [d1, d2] }
  | _ => none }
def TapeWithinWrongFalsely : Prop := tapeWithinRow.holds Try.pinned (OpenSpec.ofChange tapeWithinWrong)

/-- 'causewaylaw13.TapeDivides': WHATEVER THE INPUT: true; the input reads as it did. -/
def tapeDividesSpec : ChangeSpec := { name := "tapeDivides", fn := fun _ => fun
  | [d1, d2, d3] => { results := [.lit (.bool true)], args := [d1, d2, d3] }
  | _ => none }
def tapeDividesRow : OpenClaim := { program := "ytobikkgmpcopdaa", sum := "e3301f05bb04e78f68d0b7b43d2c2d7670dc11b04d762b64123b5c001fb768ba", func := "causeway/causewaylaw13.TapeDivides", spec := "tapeDivides", unfollowed := true, recurses := true, apart := false }
def TapeDividesSaid : Prop := tapeDividesRow.holds Try.pinned (OpenSpec.ofChange tapeDividesSpec)

/-- ITS FALSE NEIGHBOUR: 'it returns false'. Refute it at one input. -/
def tapeDividesWrong : ChangeSpec := { name := "tapeDivides", fn := fun _ => fun
  | [d1, d2, d3] => { results := [.lit (.bool false)], args := [d1, d2, d3] }
  | _ => none }
def TapeDividesWrongFalsely : Prop := tapeDividesRow.holds Try.pinned (OpenSpec.ofChange tapeDividesWrong)

/-- 'causewaylaw13.TapeRefused': WHATEVER THE INPUT: true; the input reads as it did. -/
def tapeRefusedSpec : ChangeSpec := { name := "tapeRefused", fn := fun _ => fun
  | [d1, d2] => { results := [.lit (.bool true)], args := [d1, d2] }
  | _ => none }
def tapeRefusedRow : OpenClaim := { program := "ytobikkgmpcopdaa", sum := "e3301f05bb04e78f68d0b7b43d2c2d7670dc11b04d762b64123b5c001fb768ba", func := "causeway/causewaylaw13.TapeRefused", spec := "tapeRefused", unfollowed := true, recurses := true, apart := false }
def TapeRefusedSaid : Prop := tapeRefusedRow.holds Try.pinned (OpenSpec.ofChange tapeRefusedSpec)

/-- ITS FALSE NEIGHBOUR: 'it returns false'. Refute it at one input. -/
def tapeRefusedWrong : ChangeSpec := { name := "tapeRefused", fn := fun _ => fun
  | [d1, d2] => { results := [.lit (.bool false)], args := [d1, d2] }
  | _ => none }
def TapeRefusedWrongFalsely : Prop := tapeRefusedRow.holds Try.pinned (OpenSpec.ofChange tapeRefusedWrong)

/-- 'causewaylaw13.TapeKnown': WHATEVER THE INPUT: true; the input reads as it did. -/
def tapeKnownSpec : ChangeSpec := { name := "tapeKnown", fn := fun _ => fun
  | [] => { results := [.lit (.bool true)], args := [] }
  | _ => none }
def tapeKnownRow : OpenClaim := { program := "ytobikkgmpcopdaa", sum := "e3301f05bb04e78f68d0b7b43d2c2d7670dc11b04d762b64123b5c001fb768ba", func := "causeway/causewaylaw13.TapeKnown", spec := "tapeKnown", unfollowed := true, recurses := true, apart := false }
def TapeKnownSaid : Prop := tapeKnownRow.holds Try.pinned (OpenSpec.ofChange tapeKnownSpec)

/-- ITS FALSE NEIGHBOUR: 'it returns false'. Refute it at one input. -/
def tapeKnownWrong : ChangeSpec := { name := "tapeKnown", fn := fun _ => fun
  | [] => { results := [.lit (.bool false)], args := [] }
  | _ => none }
def TapeKnownWrongFalsely : Prop := tapeKnownRow.holds Try.pinned (OpenSpec.ofChange tapeKnownWrong)

/- THE SECOND FORM. 'bulk': how many values and letters a reading holds, each counted each time it is reached (what is shared counts as often as it is met; a slice's spare places count too). A statement '..UptoSaid' is the law's where the arguments, and the package variables that the reading takes, are together of bulk at most 1048576: NARROWER than '..Said'. Prove '..Said' where nothing that the law and all that it calls make is longer than what came in: it says more and counts as full. Else prove '..UptoSaid'. A law counts once. -/
mutual
def uptoBulk {H : Type} : DataW H → Nat
  | .lit (.string bytes) => bytes.length + 1
  | .lit _ => 1
  | .nil => 1
  | .ptr d => uptoBulk d + 1
  | .slice elems spare => uptoBulkAll elems + uptoBulkAll spare + 1
  | .agg parts => uptoBulkAll parts + 1
  | .iface _ d => uptoBulk d + 1
  | .map entries => uptoBulkEntries entries + 1
  | .held _ => 1
def uptoBulkAll {H : Type} : List (DataW H) → Nat
  | [] => 0
  | d :: r => uptoBulk d + uptoBulkAll r
def uptoBulkEntries {H : Type} : List (Lit × DataW H) → Nat
  | [] => 0
  | x :: r => uptoBulkEntry x + uptoBulkEntries r
def uptoBulkEntry {H : Type} : Lit × DataW H → Nat
  | (.string bytes, d) => bytes.length + uptoBulk d + 1
  | (_, d) => uptoBulk d + 1
 end
def uptoSmall : (H : Type) → List (DataW H) → Bool := fun _ ds => decide (uptoBulkAll ds ≤ 1048576)
def OpenSpec.upto (s : _root_.Go.ChangeSpec) : _root_.Go.OpenSpec := { _root_.Go.OpenSpec.ofChange s with cond := some uptoSmall }

/-- 'causewaylaw13.TapeDraws', WHERE WHAT IT READS IS OF BULK AT MOST 1048576: true; the input reads as it did. -/
def tapeDrawsUptoRow : OpenClaim := { program := "ytobikkgmpcopdaa", sum := "e3301f05bb04e78f68d0b7b43d2c2d7670dc11b04d762b64123b5c001fb768ba", func := "causeway/causewaylaw13.TapeDraws", spec := "tapeDraws", unfollowed := true, recurses := true, apart := false, narrowed := true }
def TapeDrawsUptoSaid : Prop := tapeDrawsUptoRow.holds Try.pinned (OpenSpec.upto tapeDrawsSpec)

/-- 'causewaylaw13.TapeKeys', WHERE WHAT IT READS IS OF BULK AT MOST 1048576: true; the input reads as it did. -/
def tapeKeysUptoRow : OpenClaim := { program := "ytobikkgmpcopdaa", sum := "e3301f05bb04e78f68d0b7b43d2c2d7670dc11b04d762b64123b5c001fb768ba", func := "causeway/causewaylaw13.TapeKeys", spec := "tapeKeys", unfollowed := true, recurses := true, apart := false, narrowed := true }
def TapeKeysUptoSaid : Prop := tapeKeysUptoRow.holds Try.pinned (OpenSpec.upto tapeKeysSpec)

/-- 'causewaylaw13.TapeAlike', WHERE WHAT IT READS IS OF BULK AT MOST 1048576: true; the input reads as it did. -/
def tapeAlikeUptoRow : OpenClaim := { program := "ytobikkgmpcopdaa", sum := "e3301f05bb04e78f68d0b7b43d2c2d7670dc11b04d762b64123b5c001fb768ba", func := "causeway/causewaylaw13.TapeAlike", spec := "tapeAlike", unfollowed := true, recurses := true, apart := false, narrowed := true }
def TapeAlikeUptoSaid : Prop := tapeAlikeUptoRow.holds Try.pinned (OpenSpec.upto tapeAlikeSpec)

/-- 'causewaylaw13.TapeWithin', WHERE WHAT IT READS IS OF BULK AT MOST 1048576: true; the input reads as it did. -/
def tapeWithinUptoRow : OpenClaim := { program := "ytobikkgmpcopdaa", sum := "e3301f05bb04e78f68d0b7b43d2c2d7670dc11b04d762b64123b5c001fb768ba", func := "causeway/causewaylaw13.TapeWithin", spec := "tapeWithin", unfollowed := true, recurses := true, apart := false, narrowed := true }
def TapeWithinUptoSaid : Prop := tapeWithinUptoRow.holds Try.pinned (OpenSpec.upto tapeWithinSpec)

/-- 'causewaylaw13.TapeDivides', WHERE WHAT IT READS IS OF BULK AT MOST 1048576: true; the input reads as it did. -/
def tapeDividesUptoRow : OpenClaim := { program := "ytobikkgmpcopdaa", sum := "e3301f05bb04e78f68d0b7b43d2c2d7670dc11b04d762b64123b5c001fb768ba", func := "causeway/causewaylaw13.TapeDivides", spec := "tapeDivides", unfollowed := true, recurses := true, apart := false, narrowed := true }
def TapeDividesUptoSaid : Prop := tapeDividesUptoRow.holds Try.pinned (OpenSpec.upto tapeDividesSpec)

/-- 'causewaylaw13.TapeRefused', WHERE WHAT IT READS IS OF BULK AT MOST 1048576: true; the input reads as it did. -/
def tapeRefusedUptoRow : OpenClaim := { program := "ytobikkgmpcopdaa", sum := "e3301f05bb04e78f68d0b7b43d2c2d7670dc11b04d762b64123b5c001fb768ba", func := "causeway/causewaylaw13.TapeRefused", spec := "tapeRefused", unfollowed := true, recurses := true, apart := false, narrowed := true }
def TapeRefusedUptoSaid : Prop := tapeRefusedUptoRow.holds Try.pinned (OpenSpec.upto tapeRefusedSpec)

/-- 'causewaylaw13.TapeKnown', WHERE WHAT IT READS IS OF BULK AT MOST 1048576: true; the input reads as it did. -/
def tapeKnownUptoRow : OpenClaim := { program := "ytobikkgmpcopdaa", sum := "e3301f05bb04e78f68d0b7b43d2c2d7670dc11b04d762b64123b5c001fb768ba", func := "causeway/causewaylaw13.TapeKnown", spec := "tapeKnown", unfollowed := true, recurses := true, apart := false, narrowed := true }
def TapeKnownUptoSaid : Prop := tapeKnownUptoRow.holds Try.pinned (OpenSpec.upto tapeKnownSpec)

end Rows
end Go.Proofs.Ytobikkgmpcopdaa
