/- Tapes, the program's: Key. Without conditions. -/
import Derived.Test.YtobikkgmpcopdaaTpA
namespace Go.Proofs.Ytobikkgmpcopdaa.Tp
open Am Run IntWalk Bl Byt Kd

/-- A number's eight bytes, the great end first. -/
def be8 (n : Int) : List Int := (List.range 8).map fun i => IntKind.u8.wrap (n.fdiv (2 ^ (56 - 8 * i)))
def inL (Z : Nat → Int) (n : Int) : List Int := k32 Z ++ be8 n
def hK (n1 : Int) (g : V8) : Hint := ⟨fun r i => match r, i with
  | 3, 4 => some (.pure (.bool false))
  | 12, 4 => some (.pure (.int .i64 n1))
  | 13, 1 => some (.read (ag g) [2])
  | _, _ => none, fun _ => none⟩
def sK (Z : Nat → Int) (n n1 : Int) : St := [tpR Z n1, zR, byR (inL Z n) .rw]
theorem keyR (Z : Nat → Int) (n n1 : Int) (g : V8) : goNH [bsumE] (hK n1 g) 9 Try.f12 [pR 0] [tpR Z n] = some (.tuple #[ag g, .int .i64 0], [tpR Z n1]) := by kernel_rfl
theorem keyP (Z : Nat → Int) (n n1 : Int) (g : V8) : owes [bsumE] (hK n1 g) 9 Try.f12 [pR 0] [tpR Z n] =
    (aint .geq .i64 n 9007199254740991 = some (.bool false) ∧ aint .add .i64 n 1 = some (.int .i64 n1) ∧
     ((none : Option Value) = none ∧ effI (callE bsumE.ks bsumE.spec [slR 2 40] (sK Z n n1)) (greads bsumE.ks [slR 2 40]) 3 = some (ag g, sK Z n n1, .load [2])) ∧ True) := by kernel_rfl
theorem geq_eq {k : IntKind} {a b : Int} {t : Bool} (h : decide (a ≥ b) = t) : aint .geq k a b = some (.bool t) := by simp [aint, h]
theorem keyRF (Z : Nat → Int) (n n1 : Int) (g : V8) : goFH [bsumE] (hK n1 g) 9 Try.f12 [pR 0] [tpR Z n] = some (.tuple #[ag g, .int .i64 0], [tpR Z n1, byR (out8 g) .rw, byR (inL Z n) .rw]) := by kernel_rfl
theorem inL_length (Z : Nat → Int) (n : Int) : (inL Z n).length = 40 := rfl
theorem sub_key (g : V8) (e : Int) (σ : Sig) : sub σ (.tuple #[ag g, .int .i64 e]) = some (.tuple #[ag g, .int .i64 e]) := by kernel_rfl
theorem key_ac (Z : Nat → Int) {n : Int} (h0 : 0 ≤ n) (h : n < 9007199254740991) : AC Try.prog 12 [pR 0] [tpR Z n] (.tuple #[ag (dgv wordO (inL Z n)), .int .i64 0]) [tpR Z (n + 1)] := by
  have hO := runH_ok (es1 bsumE_ok) Try.func12 (by kernel_rfl) (hint := hK (n + 1) (dgv wordO (inL Z n))) (n := 9) (a := [pR 0]) (s := [tpR Z n]) (by
    rw [keyP]
    refine ⟨geq_eq (by simp; omega), add_i64 (by omega) (by omega), ⟨rfl, ?_⟩, trivial⟩
    exact owe_dg (st := sK Z n (n + 1)) (i := 2) (b := inL Z n) (Bys.all (i := 2) (l := inL Z n) rfl) (by rw [inL_length]; decide) rfl) (keyRF Z n (n + 1) (dgv wordO (inL Z n)))
  exact view_plain hO [0] rfl rfl rfl rfl (sub_key _ _ _)
def hKf : Hint := ⟨fun r i => match r, i with
  | 3, 4 => some (.pure (.bool true))
  | _, _ => none, fun _ => none⟩
def zag : Value := .agg ⟨List.replicate 32 (.int .u8 0)⟩
theorem keyRf (Z : Nat → Int) (n : Int) : goNH [bsumE] hKf 9 Try.f12 [pR 0] [tpR Z n] = some (.tuple #[zag, .int .i64 5], [tpR Z n]) := by kernel_rfl
theorem keyPf (Z : Nat → Int) (n : Int) : owes [bsumE] hKf 9 Try.f12 [pR 0] [tpR Z n] = (aint .geq .i64 n 9007199254740991 = some (.bool true) ∧ True) := by kernel_rfl
end Go.Proofs.Ytobikkgmpcopdaa.Tp
