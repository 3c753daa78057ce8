/- The law KdfTwo: for every input the call returns true, and each argument reads behind it as it read before. Without conditions. -/
import Derived.Test.YtmpcmefokjlknaaKdJ
import Derived.Test.YtmpcmefokjlknaaOpn
import Derived.Test.YtmpcmefokjlknaaRows
import Derived.WalkKit
import Derived.ProofKit
namespace Go.Proofs.Ytmpcmefokjlknaa
namespace kdfTwo
open Go.ChangeShapes Go.WideShapes Go.ChangeAt Go.RowKit
open Go.ChangeMaps (open_string shut_string)
open Run
theorem own : ownKnob Try.prog.godebug = none := by kernel_rfl
theorem laidOut : laidOutB Try.prog = true := by kernel_rfl
theorem ints_kkey : Am.IntsAt Try.prog 35 (fun _ => .u8) 32 := Am.IntsAt.array (m := 1) Try.underlying35 (by kernel_rfl) (by decide) (by kernel_rfl) (Am.IntsAt.int Try.underlying5)
set_option maxRecDepth 100000 in
theorem lifted (os : Os) (started : os.Started) (H : Type) (enc : TypeId × Value → H) :
    ReturnsInHanded {} Try.checked os 10 .any (Rows.kdfTwoSpec.pre6 enc Try.prog Try.f10 Rows.kdfTwoRow.domain false) (Rows.kdfTwoSpec.post enc Try.prog Try.f10 false true false false) := by
  refine returnsInHanded_of_change_sized (C := Try.checked) own started (by kernel_rfl) Try.func10
    (ChangeSpec.witness6 (enc := enc) (C := Try.checked) false ⟨#[], #[.agg #[.int .u8 0, .int .u8 0, .int .u8 0, .int .u8 0, .int .u8 0, .int .u8 0, .int .u8 0, .int .u8 0, .int .u8 0, .int .u8 0, .int .u8 0, .int .u8 0, .int .u8 0, .int .u8 0, .int .u8 0, .int .u8 0, .int .u8 0, .int .u8 0, .int .u8 0, .int .u8 0, .int .u8 0, .int .u8 0, .int .u8 0, .int .u8 0, .int .u8 0, .int .u8 0, .int .u8 0, .int .u8 0, .int .u8 0, .int .u8 0, .int .u8 0, .int .u8 0], .slice none 0 0], []⟩ 8 (by kernel_rfl) (by kernel_rfl) (by kernel_rfl) (by kernel_rfl)) ?_
  intro W base args ds gs before hval0 hW hcnd hsz0 _
  have hval : ∀ (j : Nat) t v, Try.f10.params[j]? = some t → args[j]? = some v → Value.okWide Try.prog W .any base t v := hval0
  have hW' := hW
  obtain ⟨p, q, hA0, hV, rfl, hfz, hnd⟩ := hW
  have hA : DataW.TrodAll enc Try.prog W 0 (fun _ => true) true Try.f10.params.toList args.toList ds p := hA0
  rw [Try.params10] at hA hval hsz0
  obtain ⟨v0, vs0, d0, ds0, p0, q0, hargs, rfl, rfl, h0, r0⟩ := trodAll_cons hA
  obtain ⟨v1, vs1, d1, ds1, p1, q1, rfl, rfl, rfl, h1, r1⟩ := trodAll_cons r0
  obtain ⟨rfl, rfl, rfl⟩ := trodAll_nil r1
  obtain rfl : args = #[v0, v1] := by cases args; simp_all
  obtain ⟨rfl, rfl⟩ := trodVars_none hV
  obtain ⟨cs0, e0, _⟩ : ∃ cs, v0 = .agg cs ∧ cs.size = Try.prog.cellsOf 35 := by
    have h := hval 0 35 v0 rfl rfl
    unfold Value.okWide at h
    rw [Try.underlying35] at h
    obtain ⟨cs, h1, h2, _⟩ := h
    exact ⟨cs, h1, h2⟩
  obtain ⟨Z0, rfl, wf0⟩ := Am.open_ints_agg ints_kkey e0 h0
  have eq0 : ((List.range 32).map fun i => Value.int ((fun _ => .u8) i) (Z0 i)) = (Kd.k32 Z0).map (.int .u8) := by kernel_rfl
  have a0 : ArgOk W (.agg ⟨(List.range 32).map fun i => .int ((fun _ => .u8) i) (Z0 i)⟩) (fun _ => .agg ⟨(Kd.k32 Z0).map (.int .u8)⟩) none := by rw [eq0]; exact ArgOk.plain rfl
  obtain ⟨l1, wf1, a1, hd1⟩ := open_bytes Try.underlying22 Try.underlying5 (by kernel_rfl) (hval 1 22 v1 rfl rfl) h1
  have sz1 : l1.length * Try.prog.bytesOf 5 ≤ reachBytes := reach_of hd1 fun s e => sized_slice hsz0 (j := 1) (t := 22) rfl (by rw [e]; rfl) Try.underlying22
  rw [show Try.prog.bytesOf 5 = 1 from by kernel_rfl] at sz1
  obtain ⟨μ, hv, hG⟩ := args_good' (ArgsOk.cons a0 (ArgsOk.cons a1 ArgsOk.nil))
  clear hA0 hval0 hsz0
  refine (Am.law_of_AC (μ := μ) (Kd.lawTwo Z0 l1 (by simpa [reachBytes] using sz1)) rfl hv hG).mono fun e W' ⟨he, bel⟩ => ?_
  subst he
  exact ⟨_, rfl, _, _, _, [], _, [], hW', trodAll_mk1 (shut_bool Try.underlying4 _), Am.trodAll_back laidOut bel (by kernel_rfl) hA, rfl, bel.frame _, fun h => by cases h⟩
theorem over : Rows.kdfTwoRow.holds Try.pinned (OpenSpec.ofChange Rows.kdfTwoSpec) :=
  OpenClaim.holds_of_wide 10 Try.f10 rfl rfl rfl rfl rfl rfl rfl ⟨rfl, rfl, rfl, rfl, rfl⟩ rfl rfl rfl rfl rfl (by kernel_rfl) Try.func10 (by kernel_rfl)
    (of_decide_eq_true (by kernel_rfl)) (by unfold Func.isWrapper; first | (rw [if_pos (by decide +kernel)]; kernel_rfl) | (rw [if_neg (by decide +kernel)]; exact ⟨rfl, rfl⟩))
    (fun os started H enc _ => lifted os started H enc)
theorem proved : Rows.KdfTwoSaid := over
#print axioms proved
end kdfTwo
/-- The row, under a short name, for the claim. -/
theorem kdfTwo_holds : Rows.KdfTwoSaid := kdfTwo.proved
end Go.Proofs.Ytmpcmefokjlknaa
