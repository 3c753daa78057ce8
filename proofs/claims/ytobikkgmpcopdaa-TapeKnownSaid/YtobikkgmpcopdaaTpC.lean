/- The law's draw, and the document's Draw. Without conditions. -/
import Derived.Test.YtobikkgmpcopdaaTpB
namespace Go.Proofs.Ytobikkgmpcopdaa.Tp
open Am Run IntWalk Bl Byt Kd

def d8 (i : Int) : List Int := [0, 0, 0, 0, 0, 0, 0, IntKind.u8.wrap i]
def hD (g : V8) : Hint := ⟨fun r i => match r, i with
  | 3, 5 => some (.read (ag g) [6])
  | _, _ => none, fun _ => none⟩
def sD (Z : Nat → Int) (i : Int) : St := [none, none, byR (k32 Z) .rw, zR, none, byR (d8 i) (.row 1), byR (k32 Z ++ d8 i) (.row 1)]
theorem drawR (Z : Nat → Int) (i : Int) (g : V8) : goNH [bsumE] (hD g) 0 Try.f19 [kag (k32 Z), .int .i64 i] [none, none] = some (ag g, [none, none]) := by kernel_rfl
theorem drawP (Z : Nat → Int) (i : Int) (g : V8) : owes [bsumE] (hD g) 0 Try.f19 [kag (k32 Z), .int .i64 i] [none, none] =
    (((none : Option Value) = none ∧ effI (callE bsumE.ks bsumE.spec [rowR 6 40] (sD Z i)) (greads bsumE.ks [rowR 6 40]) 7 = some (ag g, sD Z i, .load [6])) ∧ True) := by kernel_rfl
theorem draw_ac (Z : Nat → Int) (i : Int) : AC Try.prog 19 [kag (k32 Z), .int .i64 i] [none, none] (ag (dgv wordO (k32 Z ++ d8 i))) [none, none] := by
  refine runNH_ok (es1 bsumE_ok) Try.func19 (by kernel_rfl) ?_ (drawR Z i (dgv wordO (k32 Z ++ d8 i))) rfl rfl (plain_ag _)
  have hl : (k32 Z ++ d8 i).length = 40 := rfl
  rw [drawP]
  exact ⟨⟨rfl, owe_dg (row_bytes rfl hl) (by rw [hl]; decide) rfl⟩, trivial⟩
def bk (i : Int) (k : Nat) : Int := IntKind.u8.wrap (i.fdiv (2 ^ (56 - 8 * k)))
def hR (g : V8) : Hint := ⟨fun r i => match r, i with
  | 7, 1 => some (.read (ag g) [20])
  | _, _ => none, fun _ => none⟩
def sR (Z : Nat → Int) (i : Int) : St := [none, none, byR (k32 Z) .rw, zR, none, byR [bk i 0] (.row 1), none, byR [bk i 1] (.row 1), none, byR [bk i 2] (.row 1), none, byR [bk i 3] (.row 1), none, byR [bk i 4] (.row 1), none, byR [bk i 5] (.row 1), none, byR [bk i 6] (.row 1), none, byR [bk i 7] (.row 1), byR (inL Z i) (.row 1)]
theorem rdrawR (Z : Nat → Int) (i : Int) (g : V8) : goNH [rsumE] (hR g) 9 Try.f22 [kag (k32 Z), .int .i64 i] [none, none] = some (ag g, [none, none]) := by kernel_rfl
theorem rdrawP (Z : Nat → Int) (i : Int) (g : V8) : owes [rsumE] (hR g) 9 Try.f22 [kag (k32 Z), .int .i64 i] [none, none] =
    (((none : Option Value) = none ∧ effI (callE rsumE.ks rsumE.spec [rowR 20 40] (sR Z i)) (greads rsumE.ks [rowR 20 40]) 21 = some (ag g, sR Z i, .load [20])) ∧ True) := by kernel_rfl
theorem rdraw_ac (Z : Nat → Int) (i : Int) : AC Try.prog 22 [kag (k32 Z), .int .i64 i] [none, none] (ag (dgv wordA (inL Z i))) [none, none] := by
  refine runNH_ok (es1 rsumE_ok) Try.func22 (by kernel_rfl) ?_ (rdrawR Z i (dgv wordA (inL Z i))) rfl rfl (plain_ag _)
  rw [rdrawP]
  exact ⟨⟨rfl, owe_rsum (row_bytes rfl (inL_length Z i)) (by rw [inL_length]; decide) rfl⟩, trivial⟩
end Go.Proofs.Ytobikkgmpcopdaa.Tp
