/- The law KdfExtract: for every input the call returns true, and each argument reads behind it as it read before. Without conditions. -/
import Derived.Test.YtmpcmefokjlknaaKdC
import Derived.Test.YtmpcmefokjlknaaOpn
import Derived.Test.YtmpcmefokjlknaaRows
import Derived.WalkKit
import Derived.ProofKit
namespace Go.Proofs.Ytmpcmefokjlknaa
namespace kdfExtract
open Go.ChangeShapes Go.WideShapes Go.ChangeAt Go.RowKit
open Go.ChangeMaps (open_string shut_string)
open Run
theorem own : ownKnob Try.prog.godebug = none := by kernel_rfl
theorem laidOut : laidOutB Try.prog = true := by kernel_rfl
set_option maxRecDepth 100000 in
theorem lifted (os : Os) (started : os.Started) (H : Type) (enc : TypeId × Value → H) :
    ReturnsInHanded {} Try.checked os 4 .any (Rows.kdfExtractSpec.pre6 enc Try.prog Try.f4 Rows.kdfExtractRow.domain false) (Rows.kdfExtractSpec.post enc Try.prog Try.f4 false true false false) := by
  refine returnsInHanded_of_change_sized (C := Try.checked) own started (by kernel_rfl) Try.func4
    (ChangeSpec.witness6 (enc := enc) (C := Try.checked) false ⟨#[], #[.slice none 0 0, .slice none 0 0], []⟩ 8 (by kernel_rfl) (by kernel_rfl) (by kernel_rfl) (by kernel_rfl)) ?_
  intro W base args ds gs before hval0 hW hcnd hsz0 _
  have hval : ∀ (j : Nat) t v, Try.f4.params[j]? = some t → args[j]? = some v → Value.okWide Try.prog W .any base t v := hval0
  have hW' := hW
  obtain ⟨p, q, hA0, hV, rfl, hfz, hnd⟩ := hW
  have hA : DataW.TrodAll enc Try.prog W 0 (fun _ => true) true Try.f4.params.toList args.toList ds p := hA0
  rw [Try.params4] at hA hval hsz0
  obtain ⟨v0, vs0, d0, ds0, p0, q0, hargs, rfl, rfl, h0, r0⟩ := trodAll_cons hA
  obtain ⟨v1, vs1, d1, ds1, p1, q1, rfl, rfl, rfl, h1, r1⟩ := trodAll_cons r0
  obtain ⟨rfl, rfl, rfl⟩ := trodAll_nil r1
  obtain rfl : args = #[v0, v1] := by cases args; simp_all
  obtain ⟨rfl, rfl⟩ := trodVars_none hV
  obtain ⟨l0, wf0, a0, hd0⟩ := open_bytes Try.underlying22 Try.underlying5 (by kernel_rfl) (hval 0 22 v0 rfl rfl) h0
  have sz0 : l0.length * Try.prog.bytesOf 5 ≤ reachBytes := reach_of hd0 fun s e => sized_slice hsz0 (j := 0) (t := 22) rfl (by rw [e]; rfl) Try.underlying22
  rw [show Try.prog.bytesOf 5 = 1 from by kernel_rfl] at sz0
  obtain ⟨l1, wf1, a1, hd1⟩ := open_bytes Try.underlying22 Try.underlying5 (by kernel_rfl) (hval 1 22 v1 rfl rfl) h1
  have sz1 : l1.length * Try.prog.bytesOf 5 ≤ reachBytes := reach_of hd1 fun s e => sized_slice hsz0 (j := 1) (t := 22) rfl (by rw [e]; rfl) Try.underlying22
  rw [show Try.prog.bytesOf 5 = 1 from by kernel_rfl] at sz1
  obtain ⟨μ, hv, hG⟩ := args_good' (ArgsOk.cons a0 (ArgsOk.cons a1 ArgsOk.nil))
  clear hA0 hval0 hsz0
  refine (Am.law_of_AC (μ := μ) (Kd.lawExtract l0 l1 (fun y hy => byte_of (wf0 y hy)) (fun y hy => byte_of (wf1 y hy)) (by simpa [reachBytes] using sz0) (by simpa [reachBytes] using sz1)) rfl hv hG).mono fun e W' ⟨he, bel⟩ => ?_
  subst he
  exact ⟨_, rfl, _, _, _, [], _, [], hW', trodAll_mk1 (shut_bool Try.underlying4 _), Am.trodAll_back laidOut bel (by kernel_rfl) hA, rfl, bel.frame _, fun h => by cases h⟩
theorem over : Rows.kdfExtractRow.holds Try.pinned (OpenSpec.ofChange Rows.kdfExtractSpec) :=
  OpenClaim.holds_of_wide 4 Try.f4 rfl rfl rfl rfl rfl rfl rfl ⟨rfl, rfl, rfl, rfl, rfl⟩ rfl rfl rfl rfl rfl (by kernel_rfl) Try.func4 (by kernel_rfl)
    (of_decide_eq_true (by kernel_rfl)) (by unfold Func.isWrapper; first | (rw [if_pos (by decide +kernel)]; kernel_rfl) | (rw [if_neg (by decide +kernel)]; exact ⟨rfl, rfl⟩))
    (fun os started H enc _ => lifted os started H enc)
theorem proved : Rows.KdfExtractSaid := over
#print axioms proved
end kdfExtract
/-- The row, under a short name, for the claim. -/
theorem kdfExtract_holds : Rows.KdfExtractSaid := kdfExtract.proved
end Go.Proofs.Ytmpcmefokjlknaa
