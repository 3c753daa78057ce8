/-
  No cell of these rows narrows 'for every input' (looked for: loops, veiled, ifaces, maps, wideKeys, modest, calm, conditions, laid).
  DERIVED. THE GIVEN ROWS OF THIS SEAT. 9 by the template 'for every input the law returns true; each argument reads behind the call as it read before'; 0 by the template 'total and deterministic' (their statements: YtgifhfoehmalcaaTotals.lean).
  GIVEN WITH THE SEED: the statements are not yours to turn. If you find one false, say at which input.
  Laid BY PROGRAM, IN A SANDBOX (cutbox-rows.mjs): the forced cells as the released guide's own fill.sh prints them over the translation dbdfe5c412cbb202… (all of the seat's roots in one cut). By AI agents, Wed Nov 11 2026. No macro, syntax, notation, axiom, sorry.
-/
import Derived.Test.YtgifhfoehmalcaaChecked
import GoSem.Claim
import GoSem.ClaimJoined
import GoSem.ClaimMapViews
import Derived.JoinedTies
import Derived.KernelRfl
namespace Go.Proofs.Ytgifhfoehmalcaa
/- THE CELL 'sum', in the pinned program and in every row, IS THE sha256 OF THE DUMP (.gsa) THAT YtgifhfoehmalcaaProg.lean LOADS. Nothing in Lean hashes anything: it is a label: what it is worth is what the hold of that sum in a sandbox is worth. -/
noncomputable def Try.pinned : Pinned := { name := "ytgifhfoehmalcaa", sum := "dbdfe5c412cbb20233018aa5a2b8e2619b07e98eafa072a6087c96b28009cd8e", checked := Try.checked }
namespace Rows
def none {H : Type} : Left H := { results := [], args := [] }

/-- 'causewaylaw04.ChachaQuarter': WHATEVER THE INPUT: true; the input reads as it did. -/
def chachaQuarterSpec : ChangeSpec := { name := "chachaQuarter", fn := fun _ => fun
  | [d] => { results := [.lit (.bool true)], args := [d] }
  | _ => none }
def chachaQuarterRow : OpenClaim := { program := "ytgifhfoehmalcaa", sum := "dbdfe5c412cbb20233018aa5a2b8e2619b07e98eafa072a6087c96b28009cd8e", func := "causeway/causewaylaw04.ChachaQuarter", spec := "chachaQuarter", apart := false }
def ChachaQuarterSaid : Prop := chachaQuarterRow.holds Try.pinned (OpenSpec.ofChange chachaQuarterSpec)

/-- ITS FALSE NEIGHBOUR: 'it returns false'. Refute it at one input. -/
def chachaQuarterWrong : ChangeSpec := { name := "chachaQuarter", fn := fun _ => fun
  | [d] => { results := [.lit (.bool false)], args := [d] }
  | _ => none }
def ChachaQuarterWrongFalsely : Prop := chachaQuarterRow.holds Try.pinned (OpenSpec.ofChange chachaQuarterWrong)

/-- 'causewaylaw04.ChachaBack': WHATEVER THE INPUT: true; the input reads as it did. -/
def chachaBackSpec : ChangeSpec := { name := "chachaBack", fn := fun _ => fun
  | [d] => { results := [.lit (.bool true)], args := [d] }
  | _ => none }
def chachaBackRow : OpenClaim := { program := "ytgifhfoehmalcaa", sum := "dbdfe5c412cbb20233018aa5a2b8e2619b07e98eafa072a6087c96b28009cd8e", func := "causeway/causewaylaw04.ChachaBack", spec := "chachaBack", apart := false }
def ChachaBackSaid : Prop := chachaBackRow.holds Try.pinned (OpenSpec.ofChange chachaBackSpec)

/-- ITS FALSE NEIGHBOUR: 'it returns false'. Refute it at one input. -/
def chachaBackWrong : ChangeSpec := { name := "chachaBack", fn := fun _ => fun
  | [d] => { results := [.lit (.bool false)], args := [d] }
  | _ => none }
def ChachaBackWrongFalsely : Prop := chachaBackRow.holds Try.pinned (OpenSpec.ofChange chachaBackWrong)

/-- 'causewaylaw04.ChachaUnlike': WHATEVER THE INPUT: true; the input reads as it did. -/
def chachaUnlikeSpec : ChangeSpec := { name := "chachaUnlike", fn := fun _ => fun
  | [d1, d2] => { results := [.lit (.bool true)], args := [d1, d2] }
  | _ => none }
def chachaUnlikeRow : OpenClaim := { program := "ytgifhfoehmalcaa", sum := "dbdfe5c412cbb20233018aa5a2b8e2619b07e98eafa072a6087c96b28009cd8e", func := "causeway/causewaylaw04.ChachaUnlike", spec := "chachaUnlike", apart := false }
def ChachaUnlikeSaid : Prop := chachaUnlikeRow.holds Try.pinned (OpenSpec.ofChange chachaUnlikeSpec)

/-- ITS FALSE NEIGHBOUR: 'it returns false'. Refute it at one input. -/
def chachaUnlikeWrong : ChangeSpec := { name := "chachaUnlike", fn := fun _ => fun
  | [d1, d2] => { results := [.lit (.bool false)], args := [d1, d2] }
  | _ => none }
def ChachaUnlikeWrongFalsely : Prop := chachaUnlikeRow.holds Try.pinned (OpenSpec.ofChange chachaUnlikeWrong)

/-- 'causewaylaw04.ChachaXor': WHATEVER THE INPUT: true; the input reads as it did. -/
def chachaXorSpec : ChangeSpec := { name := "chachaXor", fn := fun _ => fun
  | [d1, d2] => { results := [.lit (.bool true)], args := [d1, d2] }
  | _ => none }
def chachaXorRow : OpenClaim := { program := "ytgifhfoehmalcaa", sum := "dbdfe5c412cbb20233018aa5a2b8e2619b07e98eafa072a6087c96b28009cd8e", func := "causeway/causewaylaw04.ChachaXor", spec := "chachaXor", apart := false }
def ChachaXorSaid : Prop := chachaXorRow.holds Try.pinned (OpenSpec.ofChange chachaXorSpec)

/-- ITS FALSE NEIGHBOUR: 'it returns false'. Refute it at one input. -/
def chachaXorWrong : ChangeSpec := { name := "chachaXor", fn := fun _ => fun
  | [d1, d2] => { results := [.lit (.bool false)], args := [d1, d2] }
  | _ => none }
def ChachaXorWrongFalsely : Prop := chachaXorRow.holds Try.pinned (OpenSpec.ofChange chachaXorWrong)

/-- 'causewaylaw04.ChachaTwice': WHATEVER THE INPUT: true; the input reads as it did. -/
def chachaTwiceSpec : ChangeSpec := { name := "chachaTwice", fn := fun _ => fun
  | [d1, d2] => { results := [.lit (.bool true)], args := [d1, d2] }
  | _ => none }
def chachaTwiceRow : OpenClaim := { program := "ytgifhfoehmalcaa", sum := "dbdfe5c412cbb20233018aa5a2b8e2619b07e98eafa072a6087c96b28009cd8e", func := "causeway/causewaylaw04.ChachaTwice", spec := "chachaTwice", apart := false }
def ChachaTwiceSaid : Prop := chachaTwiceRow.holds Try.pinned (OpenSpec.ofChange chachaTwiceSpec)

/-- ITS FALSE NEIGHBOUR: 'it returns false'. Refute it at one input. -/
def chachaTwiceWrong : ChangeSpec := { name := "chachaTwice", fn := fun _ => fun
  | [d1, d2] => { results := [.lit (.bool false)], args := [d1, d2] }
  | _ => none }
def ChachaTwiceWrongFalsely : Prop := chachaTwiceRow.holds Try.pinned (OpenSpec.ofChange chachaTwiceWrong)

/-- 'causewaylaw04.ChachaStream': WHATEVER THE INPUT: true; the input reads as it did. -/
def chachaStreamSpec : ChangeSpec := { name := "chachaStream", fn := fun _ => fun
  | [d1, d2] => { results := [.lit (.bool true)], args := [d1, d2] }
  | _ => none }
def chachaStreamRow : OpenClaim := { program := "ytgifhfoehmalcaa", sum := "dbdfe5c412cbb20233018aa5a2b8e2619b07e98eafa072a6087c96b28009cd8e", func := "causeway/causewaylaw04.ChachaStream", spec := "chachaStream", apart := false }
def ChachaStreamSaid : Prop := chachaStreamRow.holds Try.pinned (OpenSpec.ofChange chachaStreamSpec)

/-- ITS FALSE NEIGHBOUR: 'it returns false'. Refute it at one input. -/
def chachaStreamWrong : ChangeSpec := { name := "chachaStream", fn := fun _ => fun
  | [d1, d2] => { results := [.lit (.bool false)], args := [d1, d2] }
  | _ => none }
def ChachaStreamWrongFalsely : Prop := chachaStreamRow.holds Try.pinned (OpenSpec.ofChange chachaStreamWrong)

/-- 'causewaylaw04.ChachaApart': WHATEVER THE INPUT: true; the input reads as it did. -/
def chachaApartSpec : ChangeSpec := { name := "chachaApart", fn := fun _ => fun
  | [d1, d2, d3] => { results := [.lit (.bool true)], args := [d1, d2, d3] }
  | _ => none }
def chachaApartRow : OpenClaim := { program := "ytgifhfoehmalcaa", sum := "dbdfe5c412cbb20233018aa5a2b8e2619b07e98eafa072a6087c96b28009cd8e", func := "causeway/causewaylaw04.ChachaApart", spec := "chachaApart", apart := false }
def ChachaApartSaid : Prop := chachaApartRow.holds Try.pinned (OpenSpec.ofChange chachaApartSpec)

/-- ITS FALSE NEIGHBOUR: 'it returns false'. Refute it at one input. -/
def chachaApartWrong : ChangeSpec := { name := "chachaApart", fn := fun _ => fun
  | [d1, d2, d3] => { results := [.lit (.bool false)], args := [d1, d2, d3] }
  | _ => none }
def ChachaApartWrongFalsely : Prop := chachaApartRow.holds Try.pinned (OpenSpec.ofChange chachaApartWrong)

/-- 'causewaylaw04.ChachaFrom': WHATEVER THE INPUT: true; the input reads as it did. -/
def chachaFromSpec : ChangeSpec := { name := "chachaFrom", fn := fun _ => fun
  | [d1, d2, d3] => { results := [.lit (.bool true)], args := [d1, d2, d3] }
  | _ => none }
def chachaFromRow : OpenClaim := { program := "ytgifhfoehmalcaa", sum := "dbdfe5c412cbb20233018aa5a2b8e2619b07e98eafa072a6087c96b28009cd8e", func := "causeway/causewaylaw04.ChachaFrom", spec := "chachaFrom", apart := false }
def ChachaFromSaid : Prop := chachaFromRow.holds Try.pinned (OpenSpec.ofChange chachaFromSpec)

/-- ITS FALSE NEIGHBOUR: 'it returns false'. Refute it at one input. -/
def chachaFromWrong : ChangeSpec := { name := "chachaFrom", fn := fun _ => fun
  | [d1, d2, d3] => { results := [.lit (.bool false)], args := [d1, d2, d3] }
  | _ => none }
def ChachaFromWrongFalsely : Prop := chachaFromRow.holds Try.pinned (OpenSpec.ofChange chachaFromWrong)

/-- 'causewaylaw04.ChachaKnown': WHATEVER THE INPUT: true; the input reads as it did. -/
def chachaKnownSpec : ChangeSpec := { name := "chachaKnown", fn := fun _ => fun
  | [] => { results := [.lit (.bool true)], args := [] }
  | _ => none }
def chachaKnownRow : OpenClaim := { program := "ytgifhfoehmalcaa", sum := "dbdfe5c412cbb20233018aa5a2b8e2619b07e98eafa072a6087c96b28009cd8e", func := "causeway/causewaylaw04.ChachaKnown", spec := "chachaKnown", apart := false }
def ChachaKnownSaid : Prop := chachaKnownRow.holds Try.pinned (OpenSpec.ofChange chachaKnownSpec)

/-- ITS FALSE NEIGHBOUR: 'it returns false'. Refute it at one input. -/
def chachaKnownWrong : ChangeSpec := { name := "chachaKnown", fn := fun _ => fun
  | [] => { results := [.lit (.bool false)], args := [] }
  | _ => none }
def ChachaKnownWrongFalsely : Prop := chachaKnownRow.holds Try.pinned (OpenSpec.ofChange chachaKnownWrong)

/- THE SECOND FORM. 'bulk': how many values and letters a reading holds, each counted each time it is reached (what is shared counts as often as it is met; a slice's spare places count too). A statement '..UptoSaid' is the law's where the arguments, and the package variables that the reading takes, are together of bulk at most 1048576: NARROWER than '..Said'. Prove '..Said' where nothing that the law and all that it calls make is longer than what came in: it says more and counts as full. Else prove '..UptoSaid'. A law counts once. -/
mutual
def uptoBulk {H : Type} : DataW H → Nat
  | .lit (.string bytes) => bytes.length + 1
  | .lit _ => 1
  | .nil => 1
  | .ptr d => uptoBulk d + 1
  | .slice elems spare => uptoBulkAll elems + uptoBulkAll spare + 1
  | .agg parts => uptoBulkAll parts + 1
  | .iface _ d => uptoBulk d + 1
  | .map entries => uptoBulkEntries entries + 1
  | .held _ => 1
def uptoBulkAll {H : Type} : List (DataW H) → Nat
  | [] => 0
  | d :: r => uptoBulk d + uptoBulkAll r
def uptoBulkEntries {H : Type} : List (Lit × DataW H) → Nat
  | [] => 0
  | x :: r => uptoBulkEntry x + uptoBulkEntries r
def uptoBulkEntry {H : Type} : Lit × DataW H → Nat
  | (.string bytes, d) => bytes.length + uptoBulk d + 1
  | (_, d) => uptoBulk d + 1
 end
def uptoSmall : (H : Type) → List (DataW H) → Bool := fun _ ds => decide (uptoBulkAll ds ≤ 1048576)
def OpenSpec.upto (s : _root_.Go.ChangeSpec) : _root_.Go.OpenSpec := { _root_.Go.OpenSpec.ofChange s with cond := some uptoSmall }

/-- 'causewaylaw04.ChachaQuarter', WHERE WHAT IT READS IS OF BULK AT MOST 1048576: true; the input reads as it did. -/
def chachaQuarterUptoRow : OpenClaim := { program := "ytgifhfoehmalcaa", sum := "dbdfe5c412cbb20233018aa5a2b8e2619b07e98eafa072a6087c96b28009cd8e", func := "causeway/causewaylaw04.ChachaQuarter", spec := "chachaQuarter", apart := false, narrowed := true }
def ChachaQuarterUptoSaid : Prop := chachaQuarterUptoRow.holds Try.pinned (OpenSpec.upto chachaQuarterSpec)

/-- 'causewaylaw04.ChachaBack', WHERE WHAT IT READS IS OF BULK AT MOST 1048576: true; the input reads as it did. -/
def chachaBackUptoRow : OpenClaim := { program := "ytgifhfoehmalcaa", sum := "dbdfe5c412cbb20233018aa5a2b8e2619b07e98eafa072a6087c96b28009cd8e", func := "causeway/causewaylaw04.ChachaBack", spec := "chachaBack", apart := false, narrowed := true }
def ChachaBackUptoSaid : Prop := chachaBackUptoRow.holds Try.pinned (OpenSpec.upto chachaBackSpec)

/-- 'causewaylaw04.ChachaUnlike', WHERE WHAT IT READS IS OF BULK AT MOST 1048576: true; the input reads as it did. -/
def chachaUnlikeUptoRow : OpenClaim := { program := "ytgifhfoehmalcaa", sum := "dbdfe5c412cbb20233018aa5a2b8e2619b07e98eafa072a6087c96b28009cd8e", func := "causeway/causewaylaw04.ChachaUnlike", spec := "chachaUnlike", apart := false, narrowed := true }
def ChachaUnlikeUptoSaid : Prop := chachaUnlikeUptoRow.holds Try.pinned (OpenSpec.upto chachaUnlikeSpec)

/-- 'causewaylaw04.ChachaXor', WHERE WHAT IT READS IS OF BULK AT MOST 1048576: true; the input reads as it did. -/
def chachaXorUptoRow : OpenClaim := { program := "ytgifhfoehmalcaa", sum := "dbdfe5c412cbb20233018aa5a2b8e2619b07e98eafa072a6087c96b28009cd8e", func := "causeway/causewaylaw04.ChachaXor", spec := "chachaXor", apart := false, narrowed := true }
def ChachaXorUptoSaid : Prop := chachaXorUptoRow.holds Try.pinned (OpenSpec.upto chachaXorSpec)

/-- 'causewaylaw04.ChachaTwice', WHERE WHAT IT READS IS OF BULK AT MOST 1048576: true; the input reads as it did. -/
def chachaTwiceUptoRow : OpenClaim := { program := "ytgifhfoehmalcaa", sum := "dbdfe5c412cbb20233018aa5a2b8e2619b07e98eafa072a6087c96b28009cd8e", func := "causeway/causewaylaw04.ChachaTwice", spec := "chachaTwice", apart := false, narrowed := true }
def ChachaTwiceUptoSaid : Prop := chachaTwiceUptoRow.holds Try.pinned (OpenSpec.upto chachaTwiceSpec)

/-- 'causewaylaw04.ChachaStream', WHERE WHAT IT READS IS OF BULK AT MOST 1048576: true; the input reads as it did. -/
def chachaStreamUptoRow : OpenClaim := { program := "ytgifhfoehmalcaa", sum := "dbdfe5c412cbb20233018aa5a2b8e2619b07e98eafa072a6087c96b28009cd8e", func := "causeway/causewaylaw04.ChachaStream", spec := "chachaStream", apart := false, narrowed := true }
def ChachaStreamUptoSaid : Prop := chachaStreamUptoRow.holds Try.pinned (OpenSpec.upto chachaStreamSpec)

/-- 'causewaylaw04.ChachaApart', WHERE WHAT IT READS IS OF BULK AT MOST 1048576: true; the input reads as it did. -/
def chachaApartUptoRow : OpenClaim := { program := "ytgifhfoehmalcaa", sum := "dbdfe5c412cbb20233018aa5a2b8e2619b07e98eafa072a6087c96b28009cd8e", func := "causeway/causewaylaw04.ChachaApart", spec := "chachaApart", apart := false, narrowed := true }
def ChachaApartUptoSaid : Prop := chachaApartUptoRow.holds Try.pinned (OpenSpec.upto chachaApartSpec)

/-- 'causewaylaw04.ChachaFrom', WHERE WHAT IT READS IS OF BULK AT MOST 1048576: true; the input reads as it did. -/
def chachaFromUptoRow : OpenClaim := { program := "ytgifhfoehmalcaa", sum := "dbdfe5c412cbb20233018aa5a2b8e2619b07e98eafa072a6087c96b28009cd8e", func := "causeway/causewaylaw04.ChachaFrom", spec := "chachaFrom", apart := false, narrowed := true }
def ChachaFromUptoSaid : Prop := chachaFromUptoRow.holds Try.pinned (OpenSpec.upto chachaFromSpec)

/-- 'causewaylaw04.ChachaKnown', WHERE WHAT IT READS IS OF BULK AT MOST 1048576: true; the input reads as it did. -/
def chachaKnownUptoRow : OpenClaim := { program := "ytgifhfoehmalcaa", sum := "dbdfe5c412cbb20233018aa5a2b8e2619b07e98eafa072a6087c96b28009cd8e", func := "causeway/causewaylaw04.ChachaKnown", spec := "chachaKnown", apart := false, narrowed := true }
def ChachaKnownUptoSaid : Prop := chachaKnownUptoRow.holds Try.pinned (OpenSpec.upto chachaKnownSpec)

end Rows
end Go.Proofs.Ytgifhfoehmalcaa
