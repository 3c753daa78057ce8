/- The law KdfBegins: the machine's run of it. Without conditions. -/
import Derived.Test.YtmpcmefokjlknaaKdF
namespace Go.Proofs.Ytmpcmefokjlknaa.Kd
open Am Run IntWalk Bl Byt

theorem outT_take {w : WD} {k info : List Int} {i z : Nat} (hz : z ≤ 32 * i) : ∀ {j : Nat}, i ≤ j → (outT w k info j).take z = (outT w k info i).take z := by
  intro j
  induction j with
  | zero => intro h; obtain rfl : i = 0 := by omega
            rfl
  | succ j ih =>
    intro h
    by_cases hj : i = j + 1
    · rw [hj]
    · rw [outT, List.take_append_of_le_length (by rw [outT_length]; omega)]
      exact ih (by omega)
theorem outT_at {w : WD} {k info : List Int} {i N : Nat} (h : i < N) : ((outT w k info N).drop (32 * i)).take 32 = out8 (gT w k info i) := by
  have e1 : (outT w k info N).take (32 * (i + 1)) = outT w k info i ++ out8 (gT w k info i) := by
    rw [outT_take (i := i + 1) (Nat.le_refl _) (by omega), ← outT]
    exact List.take_of_length_le (by rw [outT_length]; omega)
  have e2 : ((outT w k info N).drop (32 * i)).take 32 = ((outT w k info N).take (32 * (i + 1))).drop (32 * i) := by
    rw [List.drop_take]
    congr 1
    omega
  rw [e2, e1, List.drop_left' (outT_length w k info i)]
/-! KdfBegins -/
noncomputable def lbEs : List Entry := [brE, expandE, eqBytesE, kworksE]
theorem lbEs_ok : ∀ e ∈ lbEs, EntryOk Try.prog e := esc brE_ok (esc expandE_ok (esc eqBytesE_ok (es1 kworksE_ok)))
def aB (Z : Nat → Int) (p : Nat) (x y : Int) : List Value := [.agg ⟨(k32 Z).map (.int .u8)⟩, slR 1 p, .agg ⟨[.int .i64 x, .int .i64 y]⟩]
def sN (Z : Nat → Int) (info : List Int) (x y : Int) : St := [none, byR info .ro, none, byR (k32 Z) .rw, some ⟨[.int .i64 x, .int .i64 y], .rw⟩]
def hBg (a b : Int) (m M : Nat) (X Y : List Int) : Hint := ⟨fun r i => match r, i with
  | 3, 2 => some (.read (.int .i64 a) [])
  | 3, 5 => some (.read (.int .i64 b) [])
  | 4, 4 => some (.pure (.int .i64 (m : Int)))
  | 4, 5 => some (.eff (.tuple #[sl0 5 m m, .int .i64 0]) (fun s => s ++ [byR X (.row 1)]) [])
  | 5, 4 => some (.pure (.int .i64 (M : Int)))
  | 5, 5 => some (.eff (.tuple #[sl0 6 M M, .int .i64 0]) (fun s => s ++ [byR Y (.row 1)]) [])
  | 6, 11 => some (.pure (.int .i64 (m : Int)))
  | 6, 12 => some (.pure (.bool true))
  | 6, 19 => some (.pure (.int .i64 (M : Int)))
  | 6, 20 => some (.pure (.bool true))
  | 6, 27 => some (.pure (sl0 6 m M))
  | 6, 28 => some (.read (.bool true) [5, 6])
  | _, _ => none, fun _ => none⟩
def sN5 (Z : Nat → Int) (info : List Int) (x y : Int) (X : List Int) : St := sN Z info x y ++ [byR X (.row 1)]
def sN6 (Z : Nat → Int) (info : List Int) (x y : Int) (X Y : List Int) : St := sN5 Z info x y X ++ [byR Y (.row 1)]
def br2 (x : Int) : List Value := [.int .i64 x, .int .i64 400]
theorem lbR (Z : Nat → Int) (info X Y : List Int) (x y a b : Int) (p m M : Nat) : goNH lbEs (hBg a b m M X Y) 0 Try.f6 (aB Z p x y) (sE info) = some (.bool true, sE info) := by kernel_rfl
theorem lbP (Z : Nat → Int) (info X Y : List Int) (x y a b : Int) (p m M : Nat) : owes lbEs (hBg a b m M X Y) 0 Try.f6 (aB Z p x y) (sE info) =
    (((none : Option Value) = none ∧ effI (callE brE.ks brE.spec (br2 x) (sN Z info x y)) (greads brE.ks (br2 x)) 5 = some (.int .i64 a, sN Z info x y, .load [])) ∧
     ((none : Option Value) = none ∧ effI (callE brE.ks brE.spec (br2 y) (sN Z info x y)) (greads brE.ks (br2 y)) 5 = some (.int .i64 b, sN Z info x y, .load [])) ∧
     aminmax false [.int .i64 a, .int .i64 b] = some (.int .i64 (m : Int)) ∧
     ((none : Option Value) = none ∧ effI (callE xKs (expandSpec wordO) (xArgs (k32 Z) (slR 1 p) (m : Int)) (sN Z info x y)) (greads xKs (xArgs (k32 Z) (slR 1 p) (m : Int))) 5 = some (.tuple #[sl0 5 m m, .int .i64 0], sN5 Z info x y X, .eff [] 5)) ∧
     aminmax true [.int .i64 a, .int .i64 b] = some (.int .i64 (M : Int)) ∧
     ((none : Option Value) = none ∧ effI (callE xKs (expandSpec wordO) (xArgs (k32 Z) (slR 1 p) (M : Int)) (sN5 Z info x y X)) (greads xKs (xArgs (k32 Z) (slR 1 p) (M : Int))) 6 = some (.tuple #[sl0 6 M M, .int .i64 0], sN6 Z info x y X Y, .eff [] 6)) ∧
     aminmax false [.int .i64 a, .int .i64 b] = some (.int .i64 (m : Int)) ∧ aint .eql .i64 (m : Int) (m : Int) = some (.bool true) ∧
     aminmax true [.int .i64 a, .int .i64 b] = some (.int .i64 (M : Int)) ∧ aint .eql .i64 (M : Int) (M : Int) = some (.bool true) ∧
     cut 6 0 M M 1 none (some (.int .i64 (m : Int))) none = some (sl0 6 m M) ∧
     ((none : Option Value) = none ∧ effI (callE eqBytesE.ks eqBytesE.spec [sl0 5 m m, sl0 6 m M] (sN6 Z info x y X Y)) (greads eqBytesE.ks [sl0 5 m m, sl0 6 m M]) 7 = some (.bool true, sN6 Z info x y X Y, .load [5, 6])) ∧ True) := by kernel_rfl
theorem lawBegins (Z : Nat → Int) (info : List Int) (x y : Int) (hi : info.length ≤ 140737488351232) : AC Try.prog 6 (aB Z info.length x y) (sE info) (.bool true) (sE info) := by
  obtain ⟨a, ha⟩ := Int.eq_ofNat_of_zero_le (Int.emod_nonneg x (show (400 : Int) ≠ 0 by decide))
  obtain ⟨b, hb⟩ := Int.eq_ofNat_of_zero_le (Int.emod_nonneg y (show (400 : Int) ≠ 0 by decide))
  have ha4 := Int.emod_lt_of_pos x (show (0 : Int) < 400 by decide)
  have hb4 := Int.emod_lt_of_pos y (show (0 : Int) < 400 by decide)
  obtain ⟨m, M, hm, hM, h1, h2⟩ : ∃ m M : Nat, aminmax false [.int .i64 (x % 400), .int .i64 (y % 400)] = some (.int .i64 (m : Int)) ∧ aminmax true [.int .i64 (x % 400), .int .i64 (y % 400)] = some (.int .i64 (M : Int)) ∧ m ≤ M ∧ M ≤ 400 := by
    by_cases h : a ≤ b
    · refine ⟨a, b, ?_, ?_, h, by omega⟩
      · simp only [aminmax, if_true, Bool.false_eq_true, if_false]
        rw [if_neg (by omega), ha]
      · simp only [aminmax, if_true]
        by_cases h3 : x % 400 < y % 400
        · rw [if_pos h3, hb]
        · rw [if_neg h3, ha]; congr 2; omega
    · refine ⟨b, a, ?_, ?_, by omega, by omega⟩
      · simp only [aminmax, if_true, Bool.false_eq_true, if_false]
        rw [if_pos (by omega), hb]
      · simp only [aminmax, if_true]
        rw [if_neg (by omega), ha]
  have hN : nblk m = (m + 31) / 32 := rfl
  have hN' : nblk M = (M + 31) / 32 := rfl
  have hl := outT_length wordO (k32 Z) info (nblk m)
  have hl' := outT_length wordO (k32 Z) info (nblk M)
  have et : (outT wordO (k32 Z) info (nblk M)).take m = (outT wordO (k32 Z) info (nblk m)).take m := outT_take (by omega) (by omega)
  refine runNH_ok lbEs_ok Try.func6 (by kernel_rfl) ?_ (lbR Z info (outT wordO (k32 Z) info (nblk m)) (outT wordO (k32 Z) info (nblk M)) x y (x % 400) (y % 400) info.length m M) rfl (plE3 info) rfl
  rw [lbP]
  refine ⟨⟨rfl, owe_bring ⟨by decide, by decide⟩ rfl⟩, ⟨rfl, owe_bring ⟨by decide, by decide⟩ rfl⟩, hm, ⟨rfl, owe_expand (k32_length Z) (Bys.all rfl) hi (by omega) rfl⟩, hM, ⟨rfl, owe_expand (k32_length Z) (Bys.all rfl) hi (by omega) rfl⟩, hm, eql_eq (by simp), hM, eql_eq (by simp), cut_upto h1, ⟨rfl, ?_⟩, trivial⟩
  exact eq_self (b := (outT wordO (k32 Z) info (nblk m)).take m) (sl0_bys rfl (by omega) (by omega)) (by rw [← et]; exact sl0_bys rfl (by omega) h1) (by simp; omega) rfl
end Go.Proofs.Ytmpcmefokjlknaa.Kd
