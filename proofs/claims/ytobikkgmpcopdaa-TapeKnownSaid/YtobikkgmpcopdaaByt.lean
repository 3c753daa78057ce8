/- EqBytes and CopyBytes of the helpers: without conditions. -/
import Derived.Test.YtobikkgmpcopdaaLst
namespace Go.Proofs.Ytobikkgmpcopdaa.Byt
open Am Run

/-! Bring -/
noncomputable def bringE : Entry := ⟨18, [.val, .val], goC [] 0 Try.f18⟩
theorem bringE_ok : EntryOk Try.prog bringE := entryC es0 Try.func18 (by kernel_rfl) (by kernel_rfl)
end Go.Proofs.Ytobikkgmpcopdaa.Byt
