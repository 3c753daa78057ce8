/- Laws of tapes: TapeRefused, TapeKnown. Without conditions. -/
import Derived.Test.YtobikkgmpcopdaaTpL1
namespace Go.Proofs.Ytobikkgmpcopdaa.Tp
open Am Run IntWalk Bl Byt Kd

/-! TapeRefused -/
noncomputable def reEs : List Entry := [wkE, newTE, keyE, numE, cntE]
theorem reEs_ok : ∀ e ∈ reEs, EntryOk Try.prog e := esc wkE_ok (esc newTE_ok (esc keyE_ok (esc numE_ok (es1 cntE_ok))))
def badV : Value := .tuple #[.int .i64 0, .int .i64 9]
def hRe1 (Z : Nat → Int) (x : Int) (g0 g1 : V8) : Hint := ⟨fun r k => match r, k with
  | 4, 2 => some (.eff (numV x) (fun s => s.set 3 (tpR Z 1)) [3])
  | 5, 1 => some (.pure (.bool true))
  | 5, 4 => some (.pure (.bool true))
  | 9, 1 => some (.eff (keyV g0) (fun s => s.set 4 (tpR Z 1)) [4])
  | 10, 1 => some (.eff (keyV g1) (fun s => s.set 3 (tpR Z 2)) [3])
  | 11, 1 => some (.eff (keyV g1) (fun s => s.set 4 (tpR Z 2)) [4])
  | 12, 9 => some (.pure (.bool true))
  | _, _ => none, fun _ => none⟩
def hRe0 (low : Bool) (Z : Nat → Int) (g1 : V8) : Hint := ⟨fun r k => match r, k with
  | 4, 2 => some (.eff badV (fun s => s.set 3 (tpR Z 0)) [3])
  | 5, 1 => some (.pure (.bool (!low)))
  | 5, 4 => if low then none else some (.pure (.bool false))
  | 10, 1 => some (.eff (keyV g1) (fun s => s.set 3 (tpR Z 1)) [3])
  | 11, 1 => some (.eff (keyV g1) (fun s => s.set 4 (tpR Z 1)) [4])
  | 12, 9 => some (.pure (.bool true))
  | _, _ => none, fun _ => none⟩
def sRe (Z : Nat → Int) (a b : Int) (l : St) : St := none :: none :: byR (k32 Z) .rw :: tpR Z a :: tpR Z b :: l
def aRe (Z : Nat → Int) (n : Int) : List Value := [kag (k32 Z), .int .i64 n]
theorem reR1 (Z : Nat → Int) (n x : Int) (g0 g1 : V8) : goNH reEs (hRe1 Z x g0 g1) 0 Try.f8 (aRe Z n) [none, none] = some (.bool true, [none, none]) := by kernel_rfl
theorem reP1 (Z : Nat → Int) (n x : Int) (g0 g1 : V8) : owes reEs (hRe1 Z x g0 g1) 0 Try.f8 (aRe Z n) [none, none] =
    (((none : Option Value) = none ∧ effI (callE numE.ks numE.spec [pR 3, .int .i64 n] (sRe Z 0 0 [])) (greads numE.ks [pR 3, .int .i64 n]) 5 = some (numV x, sRe Z 1 0 [], .eff [3] 5)) ∧
     aint .geq .i64 n 1 = some (.bool true) ∧ aint .leq .i64 n 9007199254740991 = some (.bool true) ∧
     ((none : Option Value) = none ∧ effI (callE keyE.ks keyE.spec [pR 4] (sRe Z 1 0 [])) (greads keyE.ks [pR 4]) 5 = some (keyV g0, sRe Z 1 1 [], .eff [4] 5)) ∧
     ((none : Option Value) = none ∧ effI (callE keyE.ks keyE.spec [pR 3] (sRe Z 1 1 [])) (greads keyE.ks [pR 3]) 5 = some (keyV g1, sRe Z 2 1 [], .eff [3] 5)) ∧
     ((none : Option Value) = none ∧ effI (callE keyE.ks keyE.spec [pR 4] (sRe Z 2 1 [byR (out8 g1) .rw])) (greads keyE.ks [pR 4]) 6 = some (keyV g1, sRe Z 2 2 [byR (out8 g1) .rw], .eff [4] 6)) ∧
     eqAg (agL g1) (agL g1) = some (.bool true) ∧ True) := by kernel_rfl
theorem reRl (Z : Nat → Int) (n : Int) (g1 : V8) : goNH reEs (hRe0 true Z g1) 0 Try.f8 (aRe Z n) [none, none] = some (.bool true, [none, none]) := by kernel_rfl
theorem rePl (Z : Nat → Int) (n : Int) (g1 : V8) : owes reEs (hRe0 true Z g1) 0 Try.f8 (aRe Z n) [none, none] =
    (((none : Option Value) = none ∧ effI (callE numE.ks numE.spec [pR 3, .int .i64 n] (sRe Z 0 0 [])) (greads numE.ks [pR 3, .int .i64 n]) 5 = some (badV, sRe Z 0 0 [], .eff [3] 5)) ∧
     aint .geq .i64 n 1 = some (.bool false) ∧
     ((none : Option Value) = none ∧ effI (callE keyE.ks keyE.spec [pR 3] (sRe Z 0 0 [])) (greads keyE.ks [pR 3]) 5 = some (keyV g1, sRe Z 1 0 [], .eff [3] 5)) ∧
     ((none : Option Value) = none ∧ effI (callE keyE.ks keyE.spec [pR 4] (sRe Z 1 0 [byR (out8 g1) .rw])) (greads keyE.ks [pR 4]) 6 = some (keyV g1, sRe Z 1 1 [byR (out8 g1) .rw], .eff [4] 6)) ∧
     eqAg (agL g1) (agL g1) = some (.bool true) ∧ True) := by kernel_rfl
theorem reRh (Z : Nat → Int) (n : Int) (g1 : V8) : goNH reEs (hRe0 false Z g1) 0 Try.f8 (aRe Z n) [none, none] = some (.bool true, [none, none]) := by kernel_rfl
theorem rePh (Z : Nat → Int) (n : Int) (g1 : V8) : owes reEs (hRe0 false Z g1) 0 Try.f8 (aRe Z n) [none, none] =
    (((none : Option Value) = none ∧ effI (callE numE.ks numE.spec [pR 3, .int .i64 n] (sRe Z 0 0 [])) (greads numE.ks [pR 3, .int .i64 n]) 5 = some (badV, sRe Z 0 0 [], .eff [3] 5)) ∧
     aint .geq .i64 n 1 = some (.bool true) ∧ aint .leq .i64 n 9007199254740991 = some (.bool false) ∧
     ((none : Option Value) = none ∧ effI (callE keyE.ks keyE.spec [pR 3] (sRe Z 0 0 [])) (greads keyE.ks [pR 3]) 5 = some (keyV g1, sRe Z 1 0 [], .eff [3] 5)) ∧
     ((none : Option Value) = none ∧ effI (callE keyE.ks keyE.spec [pR 4] (sRe Z 1 0 [byR (out8 g1) .rw])) (greads keyE.ks [pR 4]) 6 = some (keyV g1, sRe Z 1 1 [byR (out8 g1) .rw], .eff [4] 6)) ∧
     eqAg (agL g1) (agL g1) = some (.bool true) ∧ True) := by kernel_rfl
theorem leq_eq {k : IntKind} {a b : Int} {t : Bool} (h : decide (a ≤ b) = t) : aint .leq k a b = some (.bool t) := by simp [aint, h]
theorem lawRefused (Z : Nat → Int) (n : Int) : AC Try.prog 8 [kag (k32 Z), .int .i64 n] [none, none] (.bool true) [none, none] := by
  by_cases h1 : n < 1
  · refine runNH_ok reEs_ok Try.func8 (by kernel_rfl) ?_ (reRl Z n (dgv wordO (inL Z 0))) rfl rfl rfl
    change owes reEs (hRe0 true Z (dgv wordO (inL Z 0))) 0 _ (aRe Z n) [none, none]
    rw [rePl]
    exact ⟨⟨rfl, owe_numBad (p := 3) rfl (.inl h1)⟩, geq_eq (by simp; omega), ⟨rfl, owe_key rfl (by decide) (by decide)⟩, ⟨rfl, owe_key rfl (by decide) (by decide)⟩, eqAg_g _, trivial⟩
  · by_cases h2 : 9007199254740991 < n
    · refine runNH_ok reEs_ok Try.func8 (by kernel_rfl) ?_ (reRh Z n (dgv wordO (inL Z 0))) rfl rfl rfl
      change owes reEs (hRe0 false Z (dgv wordO (inL Z 0))) 0 _ (aRe Z n) [none, none]
      rw [rePh]
      exact ⟨⟨rfl, owe_numBad (p := 3) rfl (.inr h2)⟩, geq_eq (by simp; omega), leq_eq (by simp; omega), ⟨rfl, owe_key rfl (by decide) (by decide)⟩, ⟨rfl, owe_key rfl (by decide) (by decide)⟩, eqAg_g _, trivial⟩
    · refine runNH_ok reEs_ok Try.func8 (by kernel_rfl) ?_ (reR1 Z n (nT wordO Z 0 % n) (dgv wordO (inL Z 0)) (dgv wordO (inL Z 1))) rfl rfl rfl
      change owes reEs (hRe1 Z (nT wordO Z 0 % n) (dgv wordO (inL Z 0)) (dgv wordO (inL Z 1))) 0 _ (aRe Z n) [none, none]
      rw [reP1]
      exact ⟨⟨rfl, owe_num (p := 3) rfl (by decide) (by decide) (by omega) (by omega)⟩, geq_eq (by simp; omega), leq_eq (by simp; omega), ⟨rfl, owe_key rfl (by decide) (by decide)⟩, ⟨rfl, owe_key rfl (by decide) (by decide)⟩, ⟨rfl, owe_key rfl (by decide) (by decide)⟩, eqAg_g _, trivial⟩

/-! TapeKnown -/
noncomputable def knEs : List Entry := [wkE, newTE, keyE, numE, cntE, drawE, sevE]
theorem knEs_ok : ∀ e ∈ knEs, EntryOk Try.prog e := esc wkE_ok (esc newTE_ok (esc keyE_ok (esc numE_ok (esc cntE_ok (esc drawE_ok (es1 sevE_ok))))))
def W0 : Nat → Int := fun _ => 0
def hKn (g : V8) (x s : Int) : Hint := ⟨fun r k => match r, k with
  | 5, 1 => some (.eff (numV x) (fun s => s.set 0 (tpR W0 1)) [0])
  | 6, 1 => some (.read (ag g) [])
  | 6, 2 => some (.read (.int .i64 s) [])
  | 16, 22 => some (.pure (.int .i64 x))
  | 16, 23 => some (.pure (.bool true))
  | _, _ => none, fun _ => none⟩
theorem knR (g : V8) (x s : Int) : goNH knEs (hKn g x s) 3 Try.f9 [] [] = some (.bool true, []) := by kernel_rfl
theorem knP (g : V8) (x s : Int) : owes knEs (hKn g x s) 3 Try.f9 [] [] =
    (((none : Option Value) = none ∧ effI (callE numE.ks numE.spec [pR 0, .int .i64 9007199254740991] [tpR W0 0]) (greads numE.ks [pR 0, .int .i64 9007199254740991]) 1 = some (numV x, [tpR W0 1], .eff [0] 1)) ∧
     ((none : Option Value) = none ∧ effI (callE drawE.ks drawE.spec [kag (k32 W0), .int .i64 0] [tpR W0 1]) (greads drawE.ks [kag (k32 W0), .int .i64 0]) 1 = some (ag g, [tpR W0 1], .load [])) ∧
     ((none : Option Value) = none ∧ effI (callE sevE.ks sevE.spec [ag g] [tpR W0 1]) (greads sevE.ks [ag g]) 1 = some (.int .i64 s, [tpR W0 1], .load [])) ∧
     aint .rem .i64 s 9007199254740991 = some (.int .i64 x) ∧ aint .eql .i64 x x = some (.bool true) ∧ True) := by kernel_rfl
theorem lawKnown : AC Try.prog 9 [] [] (.bool true) [] := by
  refine runNH_ok knEs_ok Try.func9 (by kernel_rfl) ?_ (knR (dgv wordO (inL W0 0)) (nT wordO W0 0 % 9007199254740991) (nT wordO W0 0)) rfl rfl rfl
  rw [knP]
  exact ⟨⟨rfl, owe_num (p := 0) rfl (by decide) (by decide) (by decide) (by decide)⟩, ⟨rfl, owe_draw (by decide) (by decide) rfl⟩, ⟨rfl, owe_sev rfl⟩, rem_pos (nT_bound _ _ _).1 (by decide) rfl, eql_self _ _, trivial⟩
end Go.Proofs.Ytobikkgmpcopdaa.Tp
