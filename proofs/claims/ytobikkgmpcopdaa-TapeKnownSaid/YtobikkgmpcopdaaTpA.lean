/- Tapes, the program's and the document's: New and Count. Without conditions. -/
import Derived.Test.YtobikkgmpcopdaaSum
namespace Go.Proofs.Ytobikkgmpcopdaa.Tp
open Am Run IntWalk Bl Byt Kd

/-- A tape: the seed, and how many were drawn. -/
def tpC (Z : Nat → Int) (n : Int) : List Value := .bool true :: ((k32 Z).map (.int .u8) ++ [.int .i64 n])
def tpR (Z : Nat → Int) (n : Int) : Option Reg := some ⟨tpC Z n, .rw⟩
/-- The document's. -/
def rtC (Z : Nat → Int) (n : Int) : List Value := (k32 Z).map (.int .u8) ++ [.int .i64 n]
def rtR (Z : Nat → Int) (n : Int) : Option Reg := some ⟨rtC Z n, .rw⟩
def kag (k : List Int) : Value := .agg ⟨k.map (.int .u8)⟩
theorem newR (Z : Nat → Int) : goF [] 0 Try.f10 [kag (k32 Z)] [none] = some (.pointer (some ⟨2, 0, none⟩), [none, byR (k32 Z) .rw, tpR Z 0]) := by kernel_rfl
theorem rnewR (Z : Nat → Int) : goF [] 0 Try.f11 [kag (k32 Z)] [none] = some (.pointer (some ⟨2, 0, none⟩), [none, byR (k32 Z) .rw, rtR Z 0]) := by kernel_rfl
theorem new_ac (Z : Nat → Int) : AC Try.prog 10 [kag (k32 Z)] [none] (.pointer (some ⟨1, 0, none⟩)) [none, tpR Z 0] :=
  view_plain (run_ok es0 Try.func10 (by kernel_rfl) (newR Z)) [0, 2] rfl rfl rfl rfl rfl
theorem rnew_ac (Z : Nat → Int) : AC Try.prog 11 [kag (k32 Z)] [none] (.pointer (some ⟨1, 0, none⟩)) [none, rtR Z 0] :=
  view_plain (run_ok es0 Try.func11 (by kernel_rfl) (rnewR Z)) [0, 2] rfl rfl rfl rfl rfl
theorem countR (Z : Nat → Int) (n : Int) : goF [] 0 Try.f16 [pR 0] [tpR Z n] = some (.int .i64 n, [tpR Z n]) := by kernel_rfl
end Go.Proofs.Ytobikkgmpcopdaa.Tp
