/- The law KdfExpand: the machine's run of it. Without conditions. -/
import Derived.Test.YtmpcmefokjlknaaKdE
namespace Go.Proofs.Ytmpcmefokjlknaa.Kd
open Am Run IntWalk Bl Byt

noncomputable def lexEs : List Entry := [copyBytesE, expandE, rexpandE, eqBytesE, kworksE]
theorem lexEs_ok : ∀ e ∈ lexEs, EntryOk Try.prog e := esc copyBytesE_ok (esc expandE_ok (esc rexpandE_ok (esc eqBytesE_ok (es1 kworksE_ok))))
def inc8 (x : Int) : Int := IntKind.u8.wrap (x + 1)
def sl0 (i n c : Nat) : Value := .slice (some ⟨i, 0, none⟩) n c
theorem sl0_bys {st : St} {i z c : Nat} {l : List Int} {kd : RK} (h : st[i]? = some (byR l kd)) (hz : z ≤ l.length) (hc : z ≤ c) : Bys st (sl0 i z c) i 0 (l.take z) := by
  have := Bys.part (st := st) (i := i) (off := 0) (n := z) (c := c) h (by omega) hc
  rw [List.drop_zero] at this
  exact this
/-! the loop -/
noncomputable def cW : Code := loopOf 7 (body Try.f5)
def sW5 (Z : Nat → Int) (info : List Int) : St := [none, byR info .ro, none, byR (k32 Z) .rw, byR info (.row 1)]
def sW6 (Z : Nat → Int) (info x : List Int) : St := sW5 Z info ++ [byR x (.row 1)]
def sW (Z : Nat → Int) (info x y : List Int) : St := sW6 Z info x ++ [byR y (.row 1)]
def tW (n : Int) (p z q i : Nat) : List Value := slots 73 [(2, .int .i64 n), (3, pR 3), (7, rowR 4 p), (8, sl0 5 z z), (10, sl0 6 z q), (12, .int .i64 (i : Int))]
def hWl (i : Nat) (x : Int) (o' : List Int) : Hint := ⟨fun r k => match r, k with
  | 7, 3 => some (.pure (.bool true))
  | 9, 4 => some (.pure (.pointer (some ⟨5, i, none⟩)))
  | 9, 5 => some (.load (.int .u8 x) 5)
  | 9, 7 => some (.pure (.pointer (some ⟨5, i, none⟩)))
  | 9, 8 => some (.eff undef (fun s => s.set 5 (byR o' (.row 1))) [5])
  | 8, 1 => some (.pure (.int .i64 ((i + 1 : Nat) : Int)))
  | _, _ => none, fun _ => none⟩
def hWl0 : Hint := ⟨fun r k => match r, k with
  | 7, 3 => some (.pure (.bool false))
  | _, _ => none, fun _ => none⟩
theorem stepW (Z : Nat → Int) (info x o' y : List Int) (n : Int) (p z q i : Nat) (v : Int) : stepV [] (hWl i v o') 0 cW (List.range 7) [] [2, 3, 7, 8, 10, 12] (tW n p z q i) (sW Z info x y) = some (.normal, tW n p z q (i + 1), sW Z info o' y) := by kernel_rfl
theorem stepWP (Z : Nat → Int) (info x o' y : List Int) (n : Int) (p z q i : Nat) (v : Int) : stepP [] (hWl i v o') 0 cW (tW n p z q i) (sW Z info x y) =
    (aint .lss .i64 (i : Int) (z : Int) = some (.bool true) ∧ idxAt 5 0 1 z (i : Int) = some (.pointer (some ⟨5, i, none⟩)) ∧ cellAt (sW Z info x y) 5 i = some (.int .u8 v, 5) ∧
     idxAt 5 0 1 z (i : Int) = some (.pointer (some ⟨5, i, none⟩)) ∧ ((none : Option Value) = none ∧ effI (storeCore (sW Z info x y) 5 i [.int .u8 (inc8 v)]) none 7 = some (undef, sW Z info o' y, .eff [5] 7)) ∧
     aint .add .i64 (i : Int) 1 = some (.int .i64 ((i + 1 : Nat) : Int)) ∧ True) := by kernel_rfl
def tWe (n : Int) (p z q : Nat) : List Value := slots 73 [(2, .int .i64 n), (3, pR 3), (7, rowR 4 p), (10, sl0 6 z q)]
theorem stopW (Z : Nat → Int) (info x y : List Int) (n : Int) (p z q : Nat) : stepV [] hWl0 0 cW (List.range 7) [] [2, 3, 7, 10] (tW n p z q z) (sW Z info x y) = some (.exit 0, tWe n p z q, sW Z info x y) := by kernel_rfl
theorem stopWP (Z : Nat → Int) (info x y : List Int) (n : Int) (p z q : Nat) : stepP [] hWl0 0 cW (tW n p z q z) (sW Z info x y) = (aint .lss .i64 (z : Int) (z : Int) = some (.bool false) ∧ True) := by kernel_rfl
theorem plW (Z : Nat → Int) (info x y : List Int) : plainBut [] 0 (sW Z info x y) = true := by
  have h1 : plainReg none = true := rfl
  simp only [sW, sW6, sW5, List.cons_append, List.nil_append, plainBut, byR, plainReg_u8, h1, Bool.or_true, Bool.and_true]
theorem loopW (Z : Nat → Int) (info x y : List Int) (n : Int) (p q : Nat) {z : Nat} (hz : z ≤ x.length) (hx : x.length ≤ 2 ^ 60) : RunsP (.loop cW) (tW n p z q 0) (sW Z info x y) (.exit 0) (tWe n p z q) (sW Z info (mapTo inc8 x z) y) := by
  have h := Runs.count z (tW n p z q) (fun i => sW Z info (mapTo inc8 x i) y) (e := .exit 0) (te := tWe n p z q) (se := sW Z info (mapTo inc8 x z) y) (fun i hi => by
    refine step_ok es0 ?_ (stepW Z info _ (mapTo inc8 x (i + 1)) y n p z q i (x.getD i 0)) (plW _ _ _ _)
    rw [stepWP]
    refine ⟨lss_eq (by simp; omega), idx_ok0 hi, cell_u8 rfl (mapTo_get inc8 (by omega)), idx_ok0 hi, ⟨rfl, ?_⟩, add_i64 (by omega) (by omega), trivial⟩
    rw [store_u8 (l := mapTo inc8 x i) (kd := .row 1) rfl (by rw [mapTo_length]; omega) (by simp), mapTo_set inc8 (by omega)]
    rfl) (by
    refine step_ok es0 ?_ (stopW Z info _ y n p z q) (plW _ _ _ _)
    rw [stopWP]
    exact ⟨lss_eq (by simp), trivial⟩) (by simp)
  rw [mapTo_zero] at h
  exact h
/-! where bytes come -/
def hWg (Z : Nat → Int) (info : List Int) (p z q : Nat) (x x' y : List Int) : Hint := ⟨fun r k => match r, k with
  | 1, 1 => some (.eff (rowR 4 p) (fun s => s ++ [byR info (.row 1)]) [])
  | 2, 3 => some (.eff (.tuple #[sl0 5 z z, .int .i64 0]) (fun s => s ++ [byR x (.row 1)]) [])
  | 3, 3 => some (.eff (.tuple #[sl0 6 z q, .int .i64 0]) (fun s => s ++ [byR y (.row 1)]) [])
  | 4, 2 => some (.read (.bool true) [5, 6])
  | 4, 12 => some (.read (.bool true) [4, 1])
  | 10, 3 => some (.eff (.tuple #[sl0 7 z z, .int .i64 0]) (fun s => s ++ [byR x (.row 1)]) [])
  | 11, 2 => some (.read (.bool true) [7, 6])
  | _, _ => none, fun r => if r = 7 then some ([2, 3, 7, 8, 10, 12], fun _ _ => some (.exit 0, tWe (z : Int) p z q, sW Z info x' y)) else none⟩
def s4 (Z : Nat → Int) (info : List Int) : St := sE info ++ [byR (k32 Z) .rw]
theorem lexR (Z : Nat → Int) (info x x' y : List Int) (p z q : Nat) : goNH lexEs (hWg Z info p z q x x' y) 0 Try.f5 (aX Z p (z : Int)) (sE info) = some (.bool true, sE info) := by kernel_rfl
theorem lexP (Z : Nat → Int) (info x x' y : List Int) (p z q : Nat) : owes lexEs (hWg Z info p z q x x' y) 0 Try.f5 (aX Z p (z : Int)) (sE info) =
    (((none : Option Value) = none ∧ effI (callE copyBytesE.ks copyBytesE.spec [slR 1 p] (s4 Z info)) (greads copyBytesE.ks [slR 1 p]) 4 = some (rowR 4 p, sW5 Z info, .eff [] 4)) ∧
     ((none : Option Value) = none ∧ effI (callE xKs (expandSpec wordO) (xArgs (k32 Z) (rowR 4 p) (z : Int)) (sW5 Z info)) (greads xKs (xArgs (k32 Z) (rowR 4 p) (z : Int))) 5 = some (.tuple #[sl0 5 z z, .int .i64 0], sW6 Z info x, .eff [] 5)) ∧
     ((none : Option Value) = none ∧ effI (callE xKs (rexpandSpec wordA) (xArgs (k32 Z) (slR 1 p) (z : Int)) (sW6 Z info x)) (greads xKs (xArgs (k32 Z) (slR 1 p) (z : Int))) 6 = some (.tuple #[sl0 6 z q, .int .i64 0], sW Z info x y, .eff [] 6)) ∧
     ((none : Option Value) = none ∧ effI (callE eqBytesE.ks eqBytesE.spec [sl0 5 z z, sl0 6 z q] (sW Z info x y)) (greads eqBytesE.ks [sl0 5 z z, sl0 6 z q]) 7 = some (.bool true, sW Z info x y, .load [5, 6])) ∧
     ((none : Option Value) = none ∧ effI (callE eqBytesE.ks eqBytesE.spec [rowR 4 p, slR 1 p] (sW Z info x y)) (greads eqBytesE.ks [rowR 4 p, slR 1 p]) 7 = some (.bool true, sW Z info x y, .load [4, 1])) ∧
     RunsP (.loop cW) (tW (z : Int) p z q 0) (sW Z info x y) (.exit 0) (tWe (z : Int) p z q) (sW Z info x' y) ∧
     ((none : Option Value) = none ∧ effI (callE xKs (expandSpec wordO) (xArgs (k32 Z) (rowR 4 p) (z : Int)) (sW Z info x' y)) (greads xKs (xArgs (k32 Z) (rowR 4 p) (z : Int))) 7 = some (.tuple #[sl0 7 z z, .int .i64 0], sW Z info x' y ++ [byR x (.row 1)], .eff [] 7)) ∧
     ((none : Option Value) = none ∧ effI (callE eqBytesE.ks eqBytesE.spec [sl0 7 z z, sl0 6 z q] (sW Z info x' y ++ [byR x (.row 1)])) (greads eqBytesE.ks [sl0 7 z z, sl0 6 z q]) 8 = some (.bool true, sW Z info x' y ++ [byR x (.row 1)], .load [7, 6])) ∧ True) := by kernel_rfl
/-! no bytes are asked for -/
def hWz (info : List Int) (p : Nat) : Hint := ⟨fun r k => match r, k with
  | 1, 1 => some (.eff (rowR 4 p) (fun s => s ++ [byR info (.row 1)]) [])
  | 2, 3 => some (.eff (.tuple #[sl0 5 0 0, .int .i64 0]) (fun s => s ++ [byR [] (.row 1)]) [])
  | 3, 3 => some (.read (.tuple #[.slice none 0 0, .int .i64 0]) [1])
  | 4, 12 => some (.read (.bool true) [4, 1])
  | 10, 3 => some (.eff (.tuple #[sl0 7 0 0, .int .i64 0]) (fun s => s ++ [byR [] (.row 1)]) [])
  | _, _ => none, fun _ => none⟩
def sWz (Z : Nat → Int) (info : List Int) : St := sW6 Z info [] ++ [some ⟨[], .rw⟩]
theorem lexR0 (Z : Nat → Int) (info : List Int) (p : Nat) : goNH lexEs (hWz info p) 2 Try.f5 (aX Z p 0) (sE info) = some (.bool true, sE info) := by kernel_rfl
theorem lexP0 (Z : Nat → Int) (info : List Int) (p : Nat) : owes lexEs (hWz info p) 2 Try.f5 (aX Z p 0) (sE info) =
    (((none : Option Value) = none ∧ effI (callE copyBytesE.ks copyBytesE.spec [slR 1 p] (s4 Z info)) (greads copyBytesE.ks [slR 1 p]) 4 = some (rowR 4 p, sW5 Z info, .eff [] 4)) ∧
     ((none : Option Value) = none ∧ effI (callE xKs (expandSpec wordO) (xArgs (k32 Z) (rowR 4 p) 0) (sW5 Z info)) (greads xKs (xArgs (k32 Z) (rowR 4 p) 0)) 5 = some (.tuple #[sl0 5 0 0, .int .i64 0], sW6 Z info [], .eff [] 5)) ∧
     ((none : Option Value) = none ∧ effI (callE xKs (rexpandSpec wordA) (xArgs (k32 Z) (slR 1 p) 0) (sW6 Z info [])) (greads xKs (xArgs (k32 Z) (slR 1 p) 0)) 6 = some (.tuple #[.slice none 0 0, .int .i64 0], sW6 Z info [], .load [1])) ∧
     ((none : Option Value) = none ∧ effI (callE eqBytesE.ks eqBytesE.spec [rowR 4 p, slR 1 p] (sWz Z info)) (greads eqBytesE.ks [rowR 4 p, slR 1 p]) 7 = some (.bool true, sWz Z info, .load [4, 1])) ∧
     ((none : Option Value) = none ∧ effI (callE xKs (expandSpec wordO) (xArgs (k32 Z) (rowR 4 p) 0) (sWz Z info)) (greads xKs (xArgs (k32 Z) (rowR 4 p) 0)) 7 = some (.tuple #[sl0 7 0 0, .int .i64 0], sWz Z info ++ [byR [] (.row 1)], .eff [] 7)) ∧ True) := by kernel_rfl
/-! what may not be asked for -/
def hWb (info : List Int) (p : Nat) (e : Int) : Hint := ⟨fun r k => match r, k with
  | 1, 1 => some (.eff (rowR 4 p) (fun s => s ++ [byR info (.row 1)]) [])
  | 2, 3 => some (.read (.tuple #[.slice none 0 0, .int .i64 e]) [4])
  | 3, 3 => some (.read (.tuple #[.slice none 0 0, .int .i64 e]) [1])
  | 4, 7 => some (.pure (.bool false))
  | 4, 12 => some (.read (.bool true) [4, 1])
  | 10, 3 => some (.read (.tuple #[.slice none 0 0, .int .i64 e]) [4])
  | _, _ => none, fun _ => none⟩
def sWb (Z : Nat → Int) (info : List Int) : St := sW5 Z info ++ [some ⟨[], .rw⟩]
theorem lexRb (Z : Nat → Int) (info : List Int) (p : Nat) (n e : Int) : goNH lexEs (hWb info p e) 2 Try.f5 (aX Z p n) (sE info) = some (.bool true, sE info) := by kernel_rfl
theorem lexPb (Z : Nat → Int) (info : List Int) (p : Nat) (n e : Int) : owes lexEs (hWb info p e) 2 Try.f5 (aX Z p n) (sE info) =
    (((none : Option Value) = none ∧ effI (callE copyBytesE.ks copyBytesE.spec [slR 1 p] (s4 Z info)) (greads copyBytesE.ks [slR 1 p]) 4 = some (rowR 4 p, sW5 Z info, .eff [] 4)) ∧
     ((none : Option Value) = none ∧ effI (callE xKs (expandSpec wordO) (xArgs (k32 Z) (rowR 4 p) n) (sW5 Z info)) (greads xKs (xArgs (k32 Z) (rowR 4 p) n)) 5 = some (.tuple #[.slice none 0 0, .int .i64 e], sW5 Z info, .load [4])) ∧
     ((none : Option Value) = none ∧ effI (callE xKs (rexpandSpec wordA) (xArgs (k32 Z) (slR 1 p) n) (sW5 Z info)) (greads xKs (xArgs (k32 Z) (slR 1 p) n)) 5 = some (.tuple #[.slice none 0 0, .int .i64 e], sW5 Z info, .load [1])) ∧
     aint .neq .i64 e e = some (.bool false) ∧
     ((none : Option Value) = none ∧ effI (callE eqBytesE.ks eqBytesE.spec [rowR 4 p, slR 1 p] (sWb Z info)) (greads eqBytesE.ks [rowR 4 p, slR 1 p]) 6 = some (.bool true, sWb Z info, .load [4, 1])) ∧
     ((none : Option Value) = none ∧ effI (callE xKs (expandSpec wordO) (xArgs (k32 Z) (rowR 4 p) n) (sWb Z info)) (greads xKs (xArgs (k32 Z) (rowR 4 p) n)) 6 = some (.tuple #[.slice none 0 0, .int .i64 e], sWb Z info, .load [4])) ∧ True) := by kernel_rfl
theorem neq_same {k : IntKind} (a : Int) : aint .neq k a a = some (.bool false) := by simp [aint]
theorem lawExpand (Z : Nat → Int) (info : List Int) (n : Int) (hK : ∀ i, i < 32 → B8 (Z i)) (hI : ∀ y ∈ info, B8 y) (hi : info.length ≤ 140737488351232) : AC Try.prog 5 (aX Z info.length n) (sE info) (.bool true) (sE info) := by
  have hk := k32_length Z
  by_cases hb : n < 0 ∨ 8160 < n
  · refine runNH_ok lexEs_ok Try.func5 (by kernel_rfl) ?_ (lexRb Z info _ n (exErr n)) rfl (plE3 info) rfl
    rw [lexPb]
    exact ⟨⟨rfl, owe_copy (Bys.all rfl) (by omega) rfl⟩, ⟨rfl, owe_expandBad hk (Bys.row rfl) hi hb rfl⟩, ⟨rfl, owe_rexpandBad hk (Bys.all rfl) hi hb rfl⟩, neq_same _, ⟨rfl, eq_self (Bys.row rfl) (Bys.all rfl) (by omega) rfl⟩, ⟨rfl, owe_expandBad hk (Bys.row rfl) hi hb rfl⟩, trivial⟩
  · by_cases h0 : n = 0
    · subst h0
      refine runNH_ok lexEs_ok Try.func5 (by kernel_rfl) ?_ (lexR0 Z info _) rfl (plE3 info) rfl
      rw [lexP0]
      exact ⟨⟨rfl, owe_copy (Bys.all rfl) (by omega) rfl⟩, ⟨rfl, owe_expand (z := 0) hk (Bys.row rfl) hi (by omega) rfl⟩, ⟨rfl, owe_rexpandZero hk (Bys.all rfl) hi rfl⟩, ⟨rfl, eq_self (Bys.row rfl) (Bys.all rfl) (by omega) rfl⟩, ⟨rfl, owe_expand (z := 0) hk (Bys.row rfl) hi (by omega) rfl⟩, trivial⟩
    · obtain ⟨z, rfl⟩ := Int.eq_ofNat_of_zero_le (show 0 ≤ n by omega)
      have hz : z ≤ 8160 := by omega
      have hz0 : z ≠ 0 := by omega
      have hN : nblk z = (z + 31) / 32 := rfl
      have hl := outT_length wordO (k32 Z) info (nblk z)
      have hl' := outT_length wordA (k32 Z) info (nblk z)
      have e : outT wordO (k32 Z) info (nblk z) = outT wordA (k32 Z) info (nblk z) := outT_B8 (fun y hy => by
        unfold k32 at hy
        obtain ⟨i, hi, rfl⟩ := List.mem_map.1 hy
        exact hK i (List.mem_range.1 hi)) hI _
      have et : (outT wordO (k32 Z) info (nblk z)).take z = (outT wordA (k32 Z) info (nblk z)).take z := by rw [e]
      refine runNH_ok lexEs_ok Try.func5 (by kernel_rfl) ?_ (lexR Z info (outT wordO (k32 Z) info (nblk z)) (mapTo inc8 (outT wordO (k32 Z) info (nblk z)) z) (outT wordA (k32 Z) info (nblk z)) info.length z (32 * nblk z)) rfl (plE3 info) rfl
      rw [lexP]
      refine ⟨⟨rfl, owe_copy (Bys.all rfl) (by omega) rfl⟩, ⟨rfl, owe_expand hk (Bys.row rfl) hi hz rfl⟩, ⟨rfl, owe_rexpand hk (Bys.all rfl) hi hz0 hz rfl⟩, ⟨rfl, ?_⟩, ⟨rfl, eq_self (Bys.row rfl) (Bys.all rfl) (by omega) rfl⟩, loopW Z info _ _ _ _ _ (by omega) (by omega), ⟨rfl, owe_expand hk (Bys.row rfl) hi hz rfl⟩, ⟨rfl, ?_⟩, trivial⟩
      · exact eq_self (b := (outT wordO (k32 Z) info (nblk z)).take z) (sl0_bys rfl (by omega) (by omega)) (by rw [et]; exact sl0_bys rfl (by omega) (by omega)) (by simp; omega) rfl
      · exact eq_self (b := (outT wordO (k32 Z) info (nblk z)).take z) (sl0_bys rfl (by omega) (by omega)) (by rw [et]; exact sl0_bys rfl (by omega) (by omega)) (by simp; omega) rfl
end Go.Proofs.Ytmpcmefokjlknaa.Kd
