/- The law ChachaQuarter, of all numbers: it returns true; the machine's run of it. Without conditions. -/
import Derived.Test.YtgifhfoehmalcaaChA
namespace Go.Proofs.Ytgifhfoehmalcaa.Ch
open Am Run
def lawQuarterH : Hint := ⟨fun r i => match r, i with | 1, 4 => some (.pure (.bool true)) | _, _ => none, fun _ => none⟩
noncomputable def lawQuarterEs : List Entry := [QuarterE, refQuarterE, worksE]
theorem lawQuarter_run (a b c d : Int) : goNH lawQuarterEs lawQuarterH 0 Try.f3 [.agg ⟨[.int .u32 a, .int .u32 b, .int .u32 c, .int .u32 d]⟩] [none] = some (.bool true, [none]) := by
  kernel_rfl
theorem lawQuarter_owes (a b c d : Int) : owes lawQuarterEs lawQuarterH 0 Try.f3 [.agg ⟨[.int .u32 a, .int .u32 b, .int .u32 c, .int .u32 d]⟩] [none] =
   (some (Value.bool ((qr ⟨a, b, c, d⟩).a == (qr ⟨a, b, c, d⟩).a && ((qr ⟨a, b, c, d⟩).b == (qr ⟨a, b, c, d⟩).b && ((qr ⟨a, b, c, d⟩).c == (qr ⟨a, b, c, d⟩).c && ((qr ⟨a, b, c, d⟩).d == (qr ⟨a, b, c, d⟩).d && true))))) = some (Value.bool true) ∧ True) := by
  kernel_rfl
theorem lawQuarter (a b c d : Int) : AC Try.prog 3 [.agg ⟨[.int .u32 a, .int .u32 b, .int .u32 c, .int .u32 d]⟩] [none] (.bool true) [none] := by
  refine runNH_ok (es := lawQuarterEs) (esc QuarterE_ok (esc refQuarterE_ok (es1 worksE_ok))) Try.func3 (by kernel_rfl) ?_ (lawQuarter_run a b c d) rfl rfl rfl
  rw [lawQuarter_owes]
  exact ⟨by simp, trivial⟩
end Go.Proofs.Ytgifhfoehmalcaa.Ch
