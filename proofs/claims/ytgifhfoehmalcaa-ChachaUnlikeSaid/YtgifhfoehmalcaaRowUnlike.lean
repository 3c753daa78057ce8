/- The law ChachaUnlike: for every input the call returns true, and each argument reads behind it as it read before. Without conditions. -/
import Derived.Test.YtgifhfoehmalcaaLawBack
import Derived.Test.YtgifhfoehmalcaaRows
import Derived.WalkKit
import Derived.ProofKit
namespace Go.Proofs.Ytgifhfoehmalcaa
namespace chachaUnlike
open Go.ChangeShapes Go.WideShapes Go.ChangeAt Go.RowKit
open Go.ChangeMaps (open_string shut_string)
open Am
theorem own : ownKnob Try.prog.godebug = none := by kernel_rfl
theorem laidOut : laidOutB Try.prog = true := by kernel_rfl
theorem intsQ : IntsAt Try.prog 23 (fun _ => .u32) 4 := IntsAt.array (m := 1) Try.underlying23 (by kernel_rfl) (by decide) (by kernel_rfl) (IntsAt.int Try.underlying22)
set_option maxRecDepth 100000 in
theorem lifted (os : Os) (started : os.Started) (H : Type) (enc : TypeId × Value → H) :
    ReturnsInHanded {} Try.checked os 5 .any (Rows.chachaUnlikeSpec.pre6 enc Try.prog Try.f5 Rows.chachaUnlikeRow.domain false) (Rows.chachaUnlikeSpec.post enc Try.prog Try.f5 false true false false) := by
  refine returnsInHanded_of_change_sized (C := Try.checked) own started (by kernel_rfl) Try.func5
    (ChangeSpec.witness6 (enc := enc) (C := Try.checked) false ⟨#[], #[.agg #[.int .u32 0, .int .u32 0, .int .u32 0, .int .u32 0], .agg #[.int .u32 0, .int .u32 0, .int .u32 0, .int .u32 0]], []⟩ 8 (by kernel_rfl) (by kernel_rfl) (by kernel_rfl) (by kernel_rfl)) ?_
  intro W base args ds gs before hval0 hW hcnd hsz0 _
  have hval : ∀ (j : Nat) t v, Try.f5.params[j]? = some t → args[j]? = some v → Value.okWide Try.prog W .any base t v := hval0
  have hW' := hW
  obtain ⟨p, q, hA0, hV, rfl, hfz, hnd⟩ := hW
  have hA : DataW.TrodAll enc Try.prog W 0 (fun _ => true) true Try.f5.params.toList args.toList ds p := hA0
  rw [Try.params5] at hA hval
  obtain ⟨v0, vs0, d0, ds0, p0, q0, hargs, rfl, rfl, h0, r0⟩ := trodAll_cons hA
  obtain ⟨v1, vs1, d1, ds1, p1, q1, rfl, rfl, rfl, h1, r1⟩ := trodAll_cons r0
  obtain ⟨rfl, rfl, rfl⟩ := trodAll_nil r1
  obtain rfl : args = #[v0, v1] := by cases args; simp_all
  obtain ⟨rfl, rfl⟩ := trodVars_none hV
  obtain ⟨cs0, e0, _⟩ : ∃ cs, v0 = .agg cs ∧ cs.size = Try.prog.cellsOf 23 := by
    have h := hval 0 23 v0 rfl rfl
    unfold Value.okWide at h
    rw [Try.underlying23] at h
    obtain ⟨cs, h1, h2, _⟩ := h
    exact ⟨cs, h1, h2⟩
  obtain ⟨Z0, rfl, wf0⟩ := open_ints_agg intsQ e0 h0
  obtain ⟨cs1, e1, _⟩ : ∃ cs, v1 = .agg cs ∧ cs.size = Try.prog.cellsOf 23 := by
    have h := hval 1 23 v1 rfl rfl
    unfold Value.okWide at h
    rw [Try.underlying23] at h
    obtain ⟨cs, h1, h2, _⟩ := h
    exact ⟨cs, h1, h2⟩
  obtain ⟨Z1, rfl, wf1⟩ := open_ints_agg intsQ e1 h1
  clear hA0 hval0 hsz0
  refine (law_of_AC (μ := [⟨0, 0, 0, 0⟩, ⟨0, 0, 0, 0⟩]) (Ch.lawUnlike (Z0 0) (Z0 1) (Z0 2) (Z0 3) (Z1 0) (Z1 1) (Z1 2) (Z1 3) (bounds_u32 (wf0 0 (by decide))) (bounds_u32 (wf0 1 (by decide))) (bounds_u32 (wf0 2 (by decide))) (bounds_u32 (wf0 3 (by decide))) (bounds_u32 (wf1 0 (by decide))) (bounds_u32 (wf1 1 (by decide))) (bounds_u32 (wf1 2 (by decide))) (bounds_u32 (wf1 3 (by decide)))) rfl ?_ ?_).mono fun e W' ⟨he, bel⟩ => ?_
  · exact (VRs.cons (VR.plain rfl) (VRs.cons (VR.plain rfl) VRs.nil))
  · exact good_none rfl rfl
  subst he
  exact ⟨_, rfl, _, _, _, [], _, [], hW', trodAll_mk1 (shut_bool Try.underlying4 _), trodAll_back laidOut bel (by kernel_rfl) hA, rfl, bel.frame _, fun h => by cases h⟩
theorem over : Rows.chachaUnlikeRow.holds Try.pinned (OpenSpec.ofChange Rows.chachaUnlikeSpec) :=
  OpenClaim.holds_of_wide 5 Try.f5 rfl rfl rfl rfl rfl rfl rfl ⟨rfl, rfl, rfl, rfl, rfl⟩ rfl rfl rfl rfl rfl (by kernel_rfl) Try.func5 (by kernel_rfl)
    (of_decide_eq_true (by kernel_rfl)) (by unfold Func.isWrapper; first | (rw [if_pos (by decide +kernel)]; kernel_rfl) | (rw [if_neg (by decide +kernel)]; exact ⟨rfl, rfl⟩))
    (fun os started H enc _ => lifted os started H enc)
theorem proved : Rows.ChachaUnlikeSaid := over
#print axioms proved
end chachaUnlike
/-- The row, under a short name, for the claim. -/
theorem chachaUnlike_holds : Rows.ChachaUnlikeSaid := chachaUnlike.proved
end Go.Proofs.Ytgifhfoehmalcaa
