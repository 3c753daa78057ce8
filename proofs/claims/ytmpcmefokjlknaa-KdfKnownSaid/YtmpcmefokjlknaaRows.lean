/-
  No cell of these rows narrows 'for every input' (looked for: loops, veiled, ifaces, maps, wideKeys, modest, calm, conditions, laid).
  DERIVED. THE GIVEN ROWS OF THIS SEAT. 8 by the template 'for every input the law returns true; each argument reads behind the call as it read before'; 0 by the template 'total and deterministic' (their statements: YtmpcmefokjlknaaTotals.lean).
  GIVEN WITH THE SEED: the statements are not yours to turn. If you find one false, say at which input.
  Laid BY PROGRAM, IN A SANDBOX (cutbox-rows.mjs): the forced cells as the released guide's own fill.sh prints them over the translation 8844699976750cfd… (all of the seat's roots in one cut). By AI agents, Wed Nov 11 2026. No macro, syntax, notation, axiom, sorry.
-/
import Derived.Test.YtmpcmefokjlknaaChecked
import GoSem.Claim
import GoSem.ClaimJoined
import GoSem.ClaimMapViews
import Derived.JoinedTies
import Derived.KernelRfl
namespace Go.Proofs.Ytmpcmefokjlknaa
/- THE CELL 'sum', in the pinned program and in every row, IS THE sha256 OF THE DUMP (.gsa) THAT YtmpcmefokjlknaaProg.lean LOADS. Nothing in Lean hashes anything: it is a label: what it is worth is what the hold of that sum in a sandbox is worth. -/
noncomputable def Try.pinned : Pinned := { name := "ytmpcmefokjlknaa", sum := "8844699976750cfd4b2cb723a53978117a268081ae0b9aec04d9e6d833dac853", checked := Try.checked }
namespace Rows
def none {H : Type} : Left H := { results := [], args := [] }

/-- 'causewaylaw08.KdfHmac': WHATEVER THE INPUT: true; the input reads as it did. -/
def kdfHmacSpec : ChangeSpec := { name := "kdfHmac", fn := fun _ => fun
  | [d1, d2] => { results := [.lit (.bool true)], args := [d1, d2] }
  | _ => none }
def kdfHmacRow : OpenClaim := { program := "ytmpcmefokjlknaa", sum := "8844699976750cfd4b2cb723a53978117a268081ae0b9aec04d9e6d833dac853", func := "causeway/causewaylaw08.KdfHmac", spec := "kdfHmac", unfollowed := true, recurses := true, apart := false }
def KdfHmacSaid : Prop := kdfHmacRow.holds Try.pinned (OpenSpec.ofChange kdfHmacSpec)

/-- ITS FALSE NEIGHBOUR: 'it returns false'. Refute it at one input. -/
def kdfHmacWrong : ChangeSpec := { name := "kdfHmac", fn := fun _ => fun
  | [d1, d2] => { results := [.lit (.bool false)], args := [d1, d2] }
  | _ => none }
def KdfHmacWrongFalsely : Prop := kdfHmacRow.holds Try.pinned (OpenSpec.ofChange kdfHmacWrong)

/-- 'causewaylaw08.KdfExtract': WHATEVER THE INPUT: true; the input reads as it did. -/
def kdfExtractSpec : ChangeSpec := { name := "kdfExtract", fn := fun _ => fun
  | [d1, d2] => { results := [.lit (.bool true)], args := [d1, d2] }
  | _ => none }
def kdfExtractRow : OpenClaim := { program := "ytmpcmefokjlknaa", sum := "8844699976750cfd4b2cb723a53978117a268081ae0b9aec04d9e6d833dac853", func := "causeway/causewaylaw08.KdfExtract", spec := "kdfExtract", unfollowed := true, recurses := true, apart := false }
def KdfExtractSaid : Prop := kdfExtractRow.holds Try.pinned (OpenSpec.ofChange kdfExtractSpec)

/-- ITS FALSE NEIGHBOUR: 'it returns false'. Refute it at one input. -/
def kdfExtractWrong : ChangeSpec := { name := "kdfExtract", fn := fun _ => fun
  | [d1, d2] => { results := [.lit (.bool false)], args := [d1, d2] }
  | _ => none }
def KdfExtractWrongFalsely : Prop := kdfExtractRow.holds Try.pinned (OpenSpec.ofChange kdfExtractWrong)

/-- 'causewaylaw08.KdfExpand': WHATEVER THE INPUT: true; the input reads as it did. -/
def kdfExpandSpec : ChangeSpec := { name := "kdfExpand", fn := fun _ => fun
  | [d1, d2, d3] => { results := [.lit (.bool true)], args := [d1, d2, d3] }
  | _ => none }
def kdfExpandRow : OpenClaim := { program := "ytmpcmefokjlknaa", sum := "8844699976750cfd4b2cb723a53978117a268081ae0b9aec04d9e6d833dac853", func := "causeway/causewaylaw08.KdfExpand", spec := "kdfExpand", unfollowed := true, recurses := true, apart := false }
def KdfExpandSaid : Prop := kdfExpandRow.holds Try.pinned (OpenSpec.ofChange kdfExpandSpec)

/-- ITS FALSE NEIGHBOUR: 'it returns false'. Refute it at one input. -/
def kdfExpandWrong : ChangeSpec := { name := "kdfExpand", fn := fun _ => fun
  | [d1, d2, d3] => { results := [.lit (.bool false)], args := [d1, d2, d3] }
  | _ => none }
def KdfExpandWrongFalsely : Prop := kdfExpandRow.holds Try.pinned (OpenSpec.ofChange kdfExpandWrong)

/-- 'causewaylaw08.KdfBegins': WHATEVER THE INPUT: true; the input reads as it did. -/
def kdfBeginsSpec : ChangeSpec := { name := "kdfBegins", fn := fun _ => fun
  | [d1, d2, d3] => { results := [.lit (.bool true)], args := [d1, d2, d3] }
  | _ => none }
def kdfBeginsRow : OpenClaim := { program := "ytmpcmefokjlknaa", sum := "8844699976750cfd4b2cb723a53978117a268081ae0b9aec04d9e6d833dac853", func := "causeway/causewaylaw08.KdfBegins", spec := "kdfBegins", unfollowed := true, recurses := true, apart := false }
def KdfBeginsSaid : Prop := kdfBeginsRow.holds Try.pinned (OpenSpec.ofChange kdfBeginsSpec)

/-- ITS FALSE NEIGHBOUR: 'it returns false'. Refute it at one input. -/
def kdfBeginsWrong : ChangeSpec := { name := "kdfBegins", fn := fun _ => fun
  | [d1, d2, d3] => { results := [.lit (.bool false)], args := [d1, d2, d3] }
  | _ => none }
def KdfBeginsWrongFalsely : Prop := kdfBeginsRow.holds Try.pinned (OpenSpec.ofChange kdfBeginsWrong)

/-- 'causewaylaw08.KdfSteps': WHATEVER THE INPUT: true; the input reads as it did. -/
def kdfStepsSpec : ChangeSpec := { name := "kdfSteps", fn := fun _ => fun
  | [d1, d2, d3] => { results := [.lit (.bool true)], args := [d1, d2, d3] }
  | _ => none }
def kdfStepsRow : OpenClaim := { program := "ytmpcmefokjlknaa", sum := "8844699976750cfd4b2cb723a53978117a268081ae0b9aec04d9e6d833dac853", func := "causeway/causewaylaw08.KdfSteps", spec := "kdfSteps", unfollowed := true, recurses := true, apart := false }
def KdfStepsSaid : Prop := kdfStepsRow.holds Try.pinned (OpenSpec.ofChange kdfStepsSpec)

/-- ITS FALSE NEIGHBOUR: 'it returns false'. Refute it at one input. -/
def kdfStepsWrong : ChangeSpec := { name := "kdfSteps", fn := fun _ => fun
  | [d1, d2, d3] => { results := [.lit (.bool false)], args := [d1, d2, d3] }
  | _ => none }
def KdfStepsWrongFalsely : Prop := kdfStepsRow.holds Try.pinned (OpenSpec.ofChange kdfStepsWrong)

/-- 'causewaylaw08.KdfKnown': WHATEVER THE INPUT: true; the input reads as it did. -/
def kdfKnownSpec : ChangeSpec := { name := "kdfKnown", fn := fun _ => fun
  | [] => { results := [.lit (.bool true)], args := [] }
  | _ => none }
def kdfKnownRow : OpenClaim := { program := "ytmpcmefokjlknaa", sum := "8844699976750cfd4b2cb723a53978117a268081ae0b9aec04d9e6d833dac853", func := "causeway/causewaylaw08.KdfKnown", spec := "kdfKnown", unfollowed := true, recurses := true, apart := false }
def KdfKnownSaid : Prop := kdfKnownRow.holds Try.pinned (OpenSpec.ofChange kdfKnownSpec)

/-- ITS FALSE NEIGHBOUR: 'it returns false'. Refute it at one input. -/
def kdfKnownWrong : ChangeSpec := { name := "kdfKnown", fn := fun _ => fun
  | [] => { results := [.lit (.bool false)], args := [] }
  | _ => none }
def KdfKnownWrongFalsely : Prop := kdfKnownRow.holds Try.pinned (OpenSpec.ofChange kdfKnownWrong)

/-- 'causewaylaw08.KdfChains': WHATEVER THE INPUT: true; the input reads as it did. -/
def kdfChainsSpec : ChangeSpec := { name := "kdfChains", fn := fun _ => fun
  | [d1, d2] => { results := [.lit (.bool true)], args := [d1, d2] }
  | _ => none }
def kdfChainsRow : OpenClaim := { program := "ytmpcmefokjlknaa", sum := "8844699976750cfd4b2cb723a53978117a268081ae0b9aec04d9e6d833dac853", func := "causeway/causewaylaw08.KdfChains", spec := "kdfChains", unfollowed := true, recurses := true, apart := false }
def KdfChainsSaid : Prop := kdfChainsRow.holds Try.pinned (OpenSpec.ofChange kdfChainsSpec)

/-- ITS FALSE NEIGHBOUR: 'it returns false'. Refute it at one input. -/
def kdfChainsWrong : ChangeSpec := { name := "kdfChains", fn := fun _ => fun
  | [d1, d2] => { results := [.lit (.bool false)], args := [d1, d2] }
  | _ => none }
def KdfChainsWrongFalsely : Prop := kdfChainsRow.holds Try.pinned (OpenSpec.ofChange kdfChainsWrong)

/-- 'causewaylaw08.KdfTwo': WHATEVER THE INPUT: true; the input reads as it did. -/
def kdfTwoSpec : ChangeSpec := { name := "kdfTwo", fn := fun _ => fun
  | [d1, d2] => { results := [.lit (.bool true)], args := [d1, d2] }
  | _ => none }
def kdfTwoRow : OpenClaim := { program := "ytmpcmefokjlknaa", sum := "8844699976750cfd4b2cb723a53978117a268081ae0b9aec04d9e6d833dac853", func := "causeway/causewaylaw08.KdfTwo", spec := "kdfTwo", unfollowed := true, recurses := true, apart := false }
def KdfTwoSaid : Prop := kdfTwoRow.holds Try.pinned (OpenSpec.ofChange kdfTwoSpec)

/-- ITS FALSE NEIGHBOUR: 'it returns false'. Refute it at one input. -/
def kdfTwoWrong : ChangeSpec := { name := "kdfTwo", fn := fun _ => fun
  | [d1, d2] => { results := [.lit (.bool false)], args := [d1, d2] }
  | _ => none }
def KdfTwoWrongFalsely : Prop := kdfTwoRow.holds Try.pinned (OpenSpec.ofChange kdfTwoWrong)

/- THE SECOND FORM. 'bulk': how many values and letters a reading holds, each counted each time it is reached (what is shared counts as often as it is met; a slice's spare places count too). A statement '..UptoSaid' is the law's where the arguments, and the package variables that the reading takes, are together of bulk at most 1048576: NARROWER than '..Said'. Prove '..Said' where nothing that the law and all that it calls make is longer than what came in: it says more and counts as full. Else prove '..UptoSaid'. A law counts once. -/
mutual
def uptoBulk {H : Type} : DataW H → Nat
  | .lit (.string bytes) => bytes.length + 1
  | .lit _ => 1
  | .nil => 1
  | .ptr d => uptoBulk d + 1
  | .slice elems spare => uptoBulkAll elems + uptoBulkAll spare + 1
  | .agg parts => uptoBulkAll parts + 1
  | .iface _ d => uptoBulk d + 1
  | .map entries => uptoBulkEntries entries + 1
  | .held _ => 1
def uptoBulkAll {H : Type} : List (DataW H) → Nat
  | [] => 0
  | d :: r => uptoBulk d + uptoBulkAll r
def uptoBulkEntries {H : Type} : List (Lit × DataW H) → Nat
  | [] => 0
  | x :: r => uptoBulkEntry x + uptoBulkEntries r
def uptoBulkEntry {H : Type} : Lit × DataW H → Nat
  | (.string bytes, d) => bytes.length + uptoBulk d + 1
  | (_, d) => uptoBulk d + 1
 end
def uptoSmall : (H : Type) → List (DataW H) → Bool := fun _ ds => decide (uptoBulkAll ds ≤ 1048576)
def OpenSpec.upto (s : _root_.Go.ChangeSpec) : _root_.Go.OpenSpec := { _root_.Go.OpenSpec.ofChange s with cond := some uptoSmall }

/-- 'causewaylaw08.KdfHmac', WHERE WHAT IT READS IS OF BULK AT MOST 1048576: true; the input reads as it did. -/
def kdfHmacUptoRow : OpenClaim := { program := "ytmpcmefokjlknaa", sum := "8844699976750cfd4b2cb723a53978117a268081ae0b9aec04d9e6d833dac853", func := "causeway/causewaylaw08.KdfHmac", spec := "kdfHmac", unfollowed := true, recurses := true, apart := false, narrowed := true }
def KdfHmacUptoSaid : Prop := kdfHmacUptoRow.holds Try.pinned (OpenSpec.upto kdfHmacSpec)

/-- 'causewaylaw08.KdfExtract', WHERE WHAT IT READS IS OF BULK AT MOST 1048576: true; the input reads as it did. -/
def kdfExtractUptoRow : OpenClaim := { program := "ytmpcmefokjlknaa", sum := "8844699976750cfd4b2cb723a53978117a268081ae0b9aec04d9e6d833dac853", func := "causeway/causewaylaw08.KdfExtract", spec := "kdfExtract", unfollowed := true, recurses := true, apart := false, narrowed := true }
def KdfExtractUptoSaid : Prop := kdfExtractUptoRow.holds Try.pinned (OpenSpec.upto kdfExtractSpec)

/-- 'causewaylaw08.KdfExpand', WHERE WHAT IT READS IS OF BULK AT MOST 1048576: true; the input reads as it did. -/
def kdfExpandUptoRow : OpenClaim := { program := "ytmpcmefokjlknaa", sum := "8844699976750cfd4b2cb723a53978117a268081ae0b9aec04d9e6d833dac853", func := "causeway/causewaylaw08.KdfExpand", spec := "kdfExpand", unfollowed := true, recurses := true, apart := false, narrowed := true }
def KdfExpandUptoSaid : Prop := kdfExpandUptoRow.holds Try.pinned (OpenSpec.upto kdfExpandSpec)

/-- 'causewaylaw08.KdfBegins', WHERE WHAT IT READS IS OF BULK AT MOST 1048576: true; the input reads as it did. -/
def kdfBeginsUptoRow : OpenClaim := { program := "ytmpcmefokjlknaa", sum := "8844699976750cfd4b2cb723a53978117a268081ae0b9aec04d9e6d833dac853", func := "causeway/causewaylaw08.KdfBegins", spec := "kdfBegins", unfollowed := true, recurses := true, apart := false, narrowed := true }
def KdfBeginsUptoSaid : Prop := kdfBeginsUptoRow.holds Try.pinned (OpenSpec.upto kdfBeginsSpec)

/-- 'causewaylaw08.KdfSteps', WHERE WHAT IT READS IS OF BULK AT MOST 1048576: true; the input reads as it did. -/
def kdfStepsUptoRow : OpenClaim := { program := "ytmpcmefokjlknaa", sum := "8844699976750cfd4b2cb723a53978117a268081ae0b9aec04d9e6d833dac853", func := "causeway/causewaylaw08.KdfSteps", spec := "kdfSteps", unfollowed := true, recurses := true, apart := false, narrowed := true }
def KdfStepsUptoSaid : Prop := kdfStepsUptoRow.holds Try.pinned (OpenSpec.upto kdfStepsSpec)

/-- 'causewaylaw08.KdfKnown', WHERE WHAT IT READS IS OF BULK AT MOST 1048576: true; the input reads as it did. -/
def kdfKnownUptoRow : OpenClaim := { program := "ytmpcmefokjlknaa", sum := "8844699976750cfd4b2cb723a53978117a268081ae0b9aec04d9e6d833dac853", func := "causeway/causewaylaw08.KdfKnown", spec := "kdfKnown", unfollowed := true, recurses := true, apart := false, narrowed := true }
def KdfKnownUptoSaid : Prop := kdfKnownUptoRow.holds Try.pinned (OpenSpec.upto kdfKnownSpec)

/-- 'causewaylaw08.KdfChains', WHERE WHAT IT READS IS OF BULK AT MOST 1048576: true; the input reads as it did. -/
def kdfChainsUptoRow : OpenClaim := { program := "ytmpcmefokjlknaa", sum := "8844699976750cfd4b2cb723a53978117a268081ae0b9aec04d9e6d833dac853", func := "causeway/causewaylaw08.KdfChains", spec := "kdfChains", unfollowed := true, recurses := true, apart := false, narrowed := true }
def KdfChainsUptoSaid : Prop := kdfChainsUptoRow.holds Try.pinned (OpenSpec.upto kdfChainsSpec)

/-- 'causewaylaw08.KdfTwo', WHERE WHAT IT READS IS OF BULK AT MOST 1048576: true; the input reads as it did. -/
def kdfTwoUptoRow : OpenClaim := { program := "ytmpcmefokjlknaa", sum := "8844699976750cfd4b2cb723a53978117a268081ae0b9aec04d9e6d833dac853", func := "causeway/causewaylaw08.KdfTwo", spec := "kdfTwo", unfollowed := true, recurses := true, apart := false, narrowed := true }
def KdfTwoUptoSaid : Prop := kdfTwoUptoRow.holds Try.pinned (OpenSpec.upto kdfTwoSpec)

end Rows
end Go.Proofs.Ytmpcmefokjlknaa
