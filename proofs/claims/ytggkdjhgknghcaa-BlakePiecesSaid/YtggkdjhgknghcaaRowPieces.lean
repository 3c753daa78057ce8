/- The law BlakePieces: for every input the call returns true, and each argument reads behind it as it read before. Without conditions. -/
import Derived.Test.YtggkdjhgknghcaaBlR2
import Derived.Test.YtggkdjhgknghcaaOpn
import Derived.Test.YtggkdjhgknghcaaRows
import Derived.WalkKit
import Derived.ProofKit
namespace Go.Proofs.Ytggkdjhgknghcaa
namespace blakePieces
open Go.ChangeShapes Go.WideShapes Go.ChangeAt Go.RowKit
open Go.ChangeMaps (open_string shut_string)
open Run
theorem own : ownKnob Try.prog.godebug = none := by kernel_rfl
theorem laidOut : laidOutB Try.prog = true := by kernel_rfl
set_option maxRecDepth 100000 in
theorem lifted (os : Os) (started : os.Started) (H : Type) (enc : TypeId × Value → H) :
    ReturnsInHanded {} Try.checked os 4 .any (Rows.blakePiecesSpec.pre6 enc Try.prog Try.f4 Rows.blakePiecesRow.domain false) (Rows.blakePiecesSpec.post enc Try.prog Try.f4 false true false false) := by
  refine returnsInHanded_of_change_sized (C := Try.checked) own started (by kernel_rfl) Try.func4
    (ChangeSpec.witness6 (enc := enc) (C := Try.checked) false ⟨#[], #[.int .i64 0, .slice none 0 0, .slice none 0 0], []⟩ 8 (by kernel_rfl) (by kernel_rfl) (by kernel_rfl) (by kernel_rfl)) ?_
  intro W base args ds gs before hval0 hW hcnd hsz0 _
  have hval : ∀ (j : Nat) t v, Try.f4.params[j]? = some t → args[j]? = some v → Value.okWide Try.prog W .any base t v := hval0
  have hW' := hW
  obtain ⟨p, q, hA0, hV, rfl, hfz, hnd⟩ := hW
  have hA : DataW.TrodAll enc Try.prog W 0 (fun _ => true) true Try.f4.params.toList args.toList ds p := hA0
  rw [Try.params4] at hA hval hsz0
  obtain ⟨v0, vs0, d0, ds0, p0, q0, hargs, rfl, rfl, h0, r0⟩ := trodAll_cons hA
  obtain ⟨v1, vs1, d1, ds1, p1, q1, rfl, rfl, rfl, h1, r1⟩ := trodAll_cons r0
  obtain ⟨v2, vs2, d2, ds2, p2, q2, rfl, rfl, rfl, h2, r2⟩ := trodAll_cons r1
  obtain ⟨rfl, rfl, rfl⟩ := trodAll_nil r2
  obtain rfl : args = #[v0, v1, v2] := by cases args; simp_all
  obtain ⟨rfl, rfl⟩ := trodVars_none hV
  obtain ⟨n0, rfl, -, -, wf0⟩ := open_int Try.underlying3 (hval 0 3 v0 rfl rfl) h0
  have a0 := ArgOk.plain (W := W) (v := .int .i64 n0) rfl
  obtain ⟨l1, wf1, a1, hd1⟩ := open_bytes Try.underlying22 Try.underlying5 (by kernel_rfl) (hval 1 22 v1 rfl rfl) h1
  have sz1 : l1.length * Try.prog.bytesOf 5 ≤ reachBytes := reach_of hd1 fun s e => sized_slice hsz0 (j := 1) (t := 22) rfl (by rw [e]; rfl) Try.underlying22
  rw [show Try.prog.bytesOf 5 = 1 from by kernel_rfl] at sz1
  obtain ⟨n2, b2, pp2, p02, wf2, ok2, vr2, ro2⟩ := Bl.open_rows Try.underlying30 Try.underlying22 Try.underlying5 (by kernel_rfl) (by kernel_rfl) (hval 2 30 v2 rfl rfl) h2
  obtain ⟨μ, hv, hG⟩ := Bl.pieces_good a0 a1 ok2 vr2 ro2
  obtain ⟨s', hAC⟩ := Bl.lawPieces n0 l1 n2 b2 (fun y hy => byte_of (wf1 y hy)) (fun i y hy => byte_of (wf2 i y hy)) (by simpa [reachBytes] using sz1)
  clear hA0 hval0 hsz0
  refine (Am.law_of_AC (μ := μ) hAC (Bl.sPi_ro _ _ _) hv hG).mono fun e W' ⟨he, bel⟩ => ?_
  subst he
  exact ⟨_, rfl, _, _, _, [], _, [], hW', trodAll_mk1 (shut_bool Try.underlying4 _), Am.trodAll_back laidOut bel (by kernel_rfl) hA, rfl, bel.frame _, fun h => by cases h⟩
theorem over : Rows.blakePiecesRow.holds Try.pinned (OpenSpec.ofChange Rows.blakePiecesSpec) :=
  OpenClaim.holds_of_wide 4 Try.f4 rfl rfl rfl rfl rfl rfl rfl ⟨rfl, rfl, rfl, rfl, rfl⟩ rfl rfl rfl rfl rfl (by kernel_rfl) Try.func4 (by kernel_rfl)
    (of_decide_eq_true (by kernel_rfl)) (by unfold Func.isWrapper; first | (rw [if_pos (by decide +kernel)]; kernel_rfl) | (rw [if_neg (by decide +kernel)]; exact ⟨rfl, rfl⟩))
    (fun os started H enc _ => lifted os started H enc)
theorem proved : Rows.BlakePiecesSaid := over
#print axioms proved
end blakePieces
/-- The row, under a short name, for the claim. -/
theorem blakePieces_holds : Rows.BlakePiecesSaid := blakePieces.proved
end Go.Proofs.Ytggkdjhgknghcaa
