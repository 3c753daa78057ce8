/- The law ChachaKnown, closed: the machine's run of it. Without conditions. -/
import Derived.Test.YtgifhfoehmalcaaChP
namespace Go.Proofs.Ytgifhfoehmalcaa.Ch
open Am Run IntWalk Byt
noncomputable def lawKnownEs : List Entry := [worksE, XorE, BlockE, eqBytesE]
theorem lawKnownEs_ok : ∀ e ∈ lawKnownEs, EntryOk Try.prog e := esc worksE_ok (esc XorE_ok (esc BlockE_ok (es1 eqBytesE_ok)))
theorem lawKnownR : goC lawKnownEs 40 Try.f11 [] [] = some (.bool true, []) := by kernel_rfl
theorem lawKnown : AC Try.prog 11 [] [] (.bool true) [] := runC_ok lawKnownEs_ok Try.func11 (by kernel_rfl) lawKnownR
end Go.Proofs.Ytgifhfoehmalcaa.Ch
