/- The laws of blake: what works() comes to; the laws BlakeLength, BlakeTwice's and BlakeSplit's runs. Without conditions. -/
import Derived.Test.YtggkdjhgknghcaaBlF
namespace Go.Proofs.Ytggkdjhgknghcaa.Bl
open Am Run IntWalk Byt

noncomputable def hexE : Entry := ⟨21, [.sl false], goC [] 40 Try.f21⟩
theorem hexE_ok : EntryOk Try.prog hexE := entryC es0 Try.func21 (by kernel_rfl) (by kernel_rfl)
theorem works_run : goC [bsumE, hexE] 4 Try.f14 [] [] = some (.bool true, []) := by kernel_rfl
def worksSpec (args : List Value) (st : St) : Option (Value × St) :=
  match args, st with
  | [], [] => some (.bool true, [])
  | _, _ => none
noncomputable def worksE : Entry := ⟨14, [], worksSpec⟩
theorem worksE_ok : EntryOk Try.prog worksE := by
  refine ⟨fun a s r s' h => ?_, body_of Try.func14 (by kernel_rfl) (by kernel_rfl)⟩
  simp only [worksE] at h
  unfold worksSpec at h
  split at h
  · cases h
    exact runC_ok (esc bsumE_ok (es1 hexE_ok)) Try.func14 (by kernel_rfl) works_run
  · cases h
end Go.Proofs.Ytggkdjhgknghcaa.Bl
