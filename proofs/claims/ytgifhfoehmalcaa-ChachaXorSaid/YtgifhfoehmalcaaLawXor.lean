/- The law ChachaXor: the machine's run of it, of all bytes. Without conditions. -/
import Derived.Test.YtgifhfoehmalcaaChP
import Derived.Test.YtgifhfoehmalcaaChR2
namespace Go.Proofs.Ytgifhfoehmalcaa.Ch
open Am Run IntWalk Byt

/-! the loop that turns what was answered -/
noncomputable def cL : Code := loopOf 7 (body Try.f6)
def tL (n i : Nat) : List Value := slots 70 [(1, slR 1 n), (5, rowR 3 n), (6, rowR 4 n), (10, .int .i64 i)]
def sL (b : List Int) (K : Nat → Int) (c : Int) (N : Nat → Int) (o y : List Int) : St := [none, byR b .ro, some ⟨begC K c N, .rw⟩, byR b (.row 1), byR o (.row 1), byR y (.row 1)]
def inc8 (x : Int) : Int := IntKind.u8.wrap (x + 1)
def hL (i : Nat) (x : Int) (o' : List Int) : Hint := ⟨fun r k => match r, k with
  | 7, 3 => some (.pure (.bool true))
  | 9, 4 => some (.pure (.pointer (some ⟨4, i, none⟩)))
  | 9, 5 => some (.load (.int .u8 x) 4)
  | 9, 7 => some (.pure (.pointer (some ⟨4, i, none⟩)))
  | 9, 8 => some (.eff undef (fun s => s.set 4 (byR o' (.row 1))) [4])
  | 8, 1 => some (.pure (.int .i64 ((i + 1 : Nat) : Int)))
  | _, _ => none, fun _ => none⟩
def hL0 : Hint := ⟨fun r k => match r, k with
  | 7, 3 => some (.pure (.bool false))
  | _, _ => none, fun _ => none⟩
theorem stepL (b o o' y : List Int) (K N : Nat → Int) (c : Int) (n i : Nat) (x : Int) : stepV [] (hL i x o') 0 cL (List.range 6) [] [1, 5, 6, 10] (tL n i) (sL b K c N o y) = some (.normal, tL n (i + 1), sL b K c N o' y) := by kernel_rfl
theorem stepLP (b o o' y : List Int) (K N : Nat → Int) (c : Int) (n i : Nat) (x : Int) : stepP [] (hL i x o') 0 cL (tL n i) (sL b K c N o y) =
    (aint .lss .i64 (i : Int) (n : Int) = some (.bool true) ∧ idxAt 4 0 1 n (i : Int) = some (.pointer (some ⟨4, i, none⟩)) ∧ cellAt (sL b K c N o y) 4 i = some (.int .u8 x, 4) ∧
     idxAt 4 0 1 n (i : Int) = some (.pointer (some ⟨4, i, none⟩)) ∧ ((none : Option Value) = none ∧ effI (storeCore (sL b K c N o y) 4 i [.int .u8 (inc8 x)]) none 6 = some (undef, sL b K c N o' y, .eff [4] 6)) ∧
     aint .add .i64 (i : Int) 1 = some (.int .i64 ((i + 1 : Nat) : Int)) ∧ True) := by kernel_rfl
theorem stopL (b o y : List Int) (K N : Nat → Int) (c : Int) (n : Nat) : stepV [] hL0 0 cL (List.range 6) [] [1, 5] (tL n n) (sL b K c N o y) = some (.exit 0, slots 70 [(1, slR 1 n), (5, rowR 3 n)], sL b K c N o y) := by kernel_rfl
theorem stopLP (b o y : List Int) (K N : Nat → Int) (c : Int) (n : Nat) : stepP [] hL0 0 cL (tL n n) (sL b K c N o y) = (aint .lss .i64 (n : Int) (n : Int) = some (.bool false) ∧ True) := by kernel_rfl
theorem plL (b o y : List Int) (K N : Nat → Int) (c : Int) : plainBut [] 0 (sL b K c N o y) = true := by
  have h1 : plainReg none = true := rfl
  have h2 : plainReg (some ⟨begC K c N, .rw⟩) = true := rfl
  simp only [sL, plainBut, byR, plainReg_u8, h1, h2, Bool.or_true, Bool.and_true]
theorem loopL {b o y : List Int} (K N : Nat → Int) (c : Int) (hn : o.length ≤ 2 ^ 60) : RunsP (.loop cL) (tL o.length 0) (sL b K c N o y) (.exit 0) (slots 70 [(1, slR 1 o.length), (5, rowR 3 o.length)]) (sL b K c N (o.map inc8) y) := by
  have h := Runs.count o.length (tL o.length) (fun i => sL b K c N (mapTo inc8 o i) y) (e := .exit 0) (te := slots 70 [(1, slR 1 o.length), (5, rowR 3 o.length)]) (se := sL b K c N (mapTo inc8 o o.length) y) (fun i hi => by
    refine step_ok es0 ?_ (stepL b _ (mapTo inc8 o (i + 1)) y K N c o.length i (o.getD i 0)) (plL _ _ _ _ _ _)
    rw [stepLP]
    refine ⟨lss_eq (by simp; omega), idx_ok0 hi, cell_u8 rfl (mapTo_get inc8 hi), idx_ok0 hi, ⟨rfl, ?_⟩, add_i64 (by omega) (by omega), trivial⟩
    rw [store_u8 (l := mapTo inc8 o i) (kd := .row 1) rfl (by rw [mapTo_length]; omega) (by simp), mapTo_set inc8 hi]
    rfl) (by
    refine step_ok es0 ?_ (stopL b _ y K N c o.length) (plL _ _ _ _ _ _)
    rw [stopLP]
    exact ⟨lss_eq (by simp), trivial⟩) (by simp)
  rw [mapTo_zero, mapTo_all] at h
  exact h

noncomputable def lawXorEs : List Entry := [copyBytesE, XorE, refXorE, eqBytesE, worksE]
theorem lawXorEs_ok : ∀ e ∈ lawXorEs, EntryOk Try.prog e := esc copyBytesE_ok (esc XorE_ok (esc refXorE_ok (esc eqBytesE_ok (es1 worksE_ok))))
def hLX (n : Nat) (b out out' : List Int) (K : Nat → Int) (c : Int) (N : Nat → Int) : Hint := ⟨fun r k => match r, k with
  | 1, 1 => some (.eff (rowR 3 n) (fun s => s ++ [byR b (.row 1)]) [])
  | 2, 7 => some (.eff (.tuple #[rowR 4 n, .int .i64 0]) (fun s => s ++ [byR out (.row 1)]) [])
  | 3, 7 => some (.eff (.tuple #[rowR 5 n, .int .i64 0]) (fun s => s ++ [byR out (.row 1)]) [])
  | 4, 2 => some (.read (.bool true) [4, 5])
  | 4, 12 => some (.read (.bool true) [3, 1])
  | 10, 2 => some (.read (.bool true) [3, 1])
  | _, _ => none, fun r => if r = 7 then some ([1, 5, 6, 10], fun _ _ => some (.exit 0, slots 70 [(1, slR 1 n), (5, rowR 3 n)], sL b K c N out' out)) else none⟩
def argsB (K : Nat → Int) (c : Int) (N : Nat → Int) (n : Nat) : List Value := [.agg ⟨begC K c N⟩, slR 1 n]
def xa (K : Nat → Int) (c : Int) (N : Nat → Int) (v : Value) : List Value := [.agg ⟨u8N 32 K⟩, .int .u32 c, .agg ⟨u8N 12 N⟩, v]
def s2 (b : List Int) (K : Nat → Int) (c : Int) (N : Nat → Int) : St := [none, byR b .ro, some ⟨begC K c N, .rw⟩]
theorem lawXorR (b out out' : List Int) (K N : Nat → Int) (c : Int) (n : Nat) : goNH lawXorEs (hLX n b out out' K c N) 0 Try.f6 (argsB K c N n) [none, byR b .ro] = some (.bool true, [none, byR b .ro]) := by kernel_rfl
theorem lawXorP (b out out' : List Int) (K N : Nat → Int) (c : Int) (n : Nat) : owes lawXorEs (hLX n b out out' K c N) 0 Try.f6 (argsB K c N n) [none, byR b .ro] =
    (((none : Option Value) = none ∧ effI (callE copyBytesE.ks copyBytesE.spec [slR 1 n] (s2 b K c N)) (greads copyBytesE.ks [slR 1 n]) 3 = some (rowR 3 n, s2 b K c N ++ [byR b (.row 1)], .eff [] 3)) ∧
     ((none : Option Value) = none ∧ effI (callE XorE.ks XorE.spec (xa K c N (rowR 3 n)) (s2 b K c N ++ [byR b (.row 1)])) (greads XorE.ks (xa K c N (rowR 3 n))) 4 =
       some (.tuple #[rowR 4 n, .int .i64 0], (s2 b K c N ++ [byR b (.row 1)]) ++ [byR out (.row 1)], .eff [] 4)) ∧
     ((none : Option Value) = none ∧ effI (callE refXorE.ks refXorE.spec (xa K c N (slR 1 n)) ((s2 b K c N ++ [byR b (.row 1)]) ++ [byR out (.row 1)])) (greads refXorE.ks (xa K c N (slR 1 n))) 5 =
       some (.tuple #[rowR 5 n, .int .i64 0], ((s2 b K c N ++ [byR b (.row 1)]) ++ [byR out (.row 1)]) ++ [byR out (.row 1)], .eff [] 5)) ∧
     ((none : Option Value) = none ∧ effI (callE eqBytesE.ks eqBytesE.spec [rowR 4 n, rowR 5 n] (sL b K c N out out)) (greads eqBytesE.ks [rowR 4 n, rowR 5 n]) 6 = some (.bool true, sL b K c N out out, .load [4, 5])) ∧
     ((none : Option Value) = none ∧ effI (callE eqBytesE.ks eqBytesE.spec [rowR 3 n, slR 1 n] (sL b K c N out out)) (greads eqBytesE.ks [rowR 3 n, slR 1 n]) 6 = some (.bool true, sL b K c N out out, .load [3, 1])) ∧
     RunsP (.loop cL) (tL n 0) (sL b K c N out out) (.exit 0) (slots 70 [(1, slR 1 n), (5, rowR 3 n)]) (sL b K c N out' out) ∧
     ((none : Option Value) = none ∧ effI (callE eqBytesE.ks eqBytesE.spec [rowR 3 n, slR 1 n] (sL b K c N out' out)) (greads eqBytesE.ks [rowR 3 n, slR 1 n]) 6 = some (.bool true, sL b K c N out' out, .load [3, 1])) ∧ True) := by kernel_rfl
def hLX0 (n : Nat) (b : List Int) : Hint := ⟨fun r k => match r, k with
  | 1, 1 => some (.eff (rowR 3 n) (fun s => s ++ [byR b (.row 1)]) [])
  | 2, 7 => some (.read (.tuple #[.slice none 0 0, .int .i64 5]) [3])
  | 3, 7 => some (.read (.tuple #[.slice none 0 0, .int .i64 5]) [1])
  | 4, 12 => some (.read (.bool true) [3, 1])
  | 10, 2 => some (.read (.bool true) [3, 1])
  | _, _ => none, fun _ => none⟩
def s4 (b : List Int) (K : Nat → Int) (c : Int) (N : Nat → Int) : St := [none, byR b .ro, some ⟨begC K c N, .rw⟩, byR b (.row 1), some ⟨[], .rw⟩]
theorem lawXorR0 (b : List Int) (K N : Nat → Int) (c : Int) (n : Nat) : goNH lawXorEs (hLX0 n b) 2 Try.f6 (argsB K c N n) [none, byR b .ro] = some (.bool true, [none, byR b .ro]) := by kernel_rfl
theorem lawXorP0 (b : List Int) (K N : Nat → Int) (c : Int) (n : Nat) : owes lawXorEs (hLX0 n b) 2 Try.f6 (argsB K c N n) [none, byR b .ro] =
    (((none : Option Value) = none ∧ effI (callE copyBytesE.ks copyBytesE.spec [slR 1 n] (s2 b K c N)) (greads copyBytesE.ks [slR 1 n]) 3 = some (rowR 3 n, s2 b K c N ++ [byR b (.row 1)], .eff [] 3)) ∧
     ((none : Option Value) = none ∧ effI (callE XorE.ks XorE.spec (xa K c N (rowR 3 n)) (s2 b K c N ++ [byR b (.row 1)])) (greads XorE.ks (xa K c N (rowR 3 n))) 4 = some (.tuple #[.slice none 0 0, .int .i64 5], s2 b K c N ++ [byR b (.row 1)], .load [3])) ∧
     ((none : Option Value) = none ∧ effI (callE refXorE.ks refXorE.spec (xa K c N (slR 1 n)) (s2 b K c N ++ [byR b (.row 1)])) (greads refXorE.ks (xa K c N (slR 1 n))) 4 = some (.tuple #[.slice none 0 0, .int .i64 5], s2 b K c N ++ [byR b (.row 1)], .load [1])) ∧
     ((none : Option Value) = none ∧ effI (callE eqBytesE.ks eqBytesE.spec [rowR 3 n, slR 1 n] (s4 b K c N)) (greads eqBytesE.ks [rowR 3 n, slR 1 n]) 5 = some (.bool true, s4 b K c N, .load [3, 1])) ∧
     ((none : Option Value) = none ∧ effI (callE eqBytesE.ks eqBytesE.spec [rowR 3 n, slR 1 n] (s4 b K c N)) (greads eqBytesE.ks [rowR 3 n, slR 1 n]) 5 = some (.bool true, s4 b K c N, .load [3, 1])) ∧ True) := by kernel_rfl
theorem eq_self {b : List Int} {s : St} {x y : Value} {i j o p len : Nat} (hx : Bys s x i o b) (hy : Bys s y j p b) (hb : b.length ≤ 2 ^ 60) (hl : s.length = len) :
    effI (callE eqBytesE.ks eqBytesE.spec [x, y] s) (greads eqBytesE.ks [x, y]) len = some (.bool true, s, .load [i, j]) := by
  rw [owe_eq hx hy hb hl, decide_eq_true rfl]
theorem lawXor (b : List Int) (K N : Nat → Int) (c : Int) (hK : ∀ i, i < 32 → B8 (K i)) (hN : ∀ i, i < 12 → B8 (N i)) (hc : 0 ≤ c ∧ c ≤ 4294967295) (hn : b.length ≤ 140737488351232) :
    AC Try.prog 6 (argsB K c N b.length) [none, byR b .ro] (.bool true) [none, byR b .ro] := by
  have pl : [none, byR b .ro].all plainReg = true := by simp only [List.all_cons, List.all_nil, byR, plain_u8, plainReg, Bool.and_true, Bool.and_self]
  by_cases ht : tooLong b.length c = true
  · refine runNH_ok lawXorEs_ok Try.func6 (by kernel_rfl) ?_ (lawXorR0 b K N c b.length) rfl pl rfl
    rw [lawXorP0]
    refine ⟨⟨rfl, owe_copy (Bys.all rfl) (by omega) rfl⟩, ⟨rfl, owe_long (Bys.row rfl) hc (by omega) ht rfl⟩, ⟨rfl, owe_long (Bys.all rfl) hc (by omega) ht rfl⟩,
      ⟨rfl, eq_self (Bys.row rfl) (Bys.all rfl) (by omega) rfl⟩, ⟨rfl, eq_self (Bys.row rfl) (Bys.all rfl) (by omega) rfl⟩, trivial⟩
  · have ht : tooLong b.length c = false := by simpa using ht
    refine runNH_ok lawXorEs_ok Try.func6 (by kernel_rfl) ?_ (lawXorR b (xorL wordO K c N b) ((xorL wordO K c N b).map inc8) K N c b.length) rfl pl rfl
    rw [lawXorP]
    have hl : (xorL wordO K c N b).length = b.length := xorL_length
    have e : xorL wordA K c N b = xorL wordO K c N b := by unfold xorL; rw [xorAt_eq c b hK hN]
    refine ⟨⟨rfl, owe_copy (Bys.all rfl) (by omega) rfl⟩, ⟨rfl, owe_full (Bys.row rfl) hc (by omega) ht rfl⟩, ⟨rfl, ?_⟩, ⟨rfl, ?_⟩,
      ⟨rfl, eq_self (Bys.row rfl) (Bys.all rfl) (by omega) rfl⟩, ?_, ⟨rfl, eq_self (Bys.row rfl) (Bys.all rfl) (by omega) rfl⟩, trivial⟩
    · rw [← e]; exact owe_full (Bys.all rfl) hc (by omega) ht rfl
    · have h1 := Bys.row (st := sL b K c N (xorL wordO K c N b) (xorL wordO K c N b)) (i := 4) rfl
      have h2 := Bys.row (st := sL b K c N (xorL wordO K c N b) (xorL wordO K c N b)) (i := 5) rfl
      rw [hl] at h1 h2
      exact eq_self h1 h2 (by omega) rfl
    · have h1 := loopL (b := b) (o := xorL wordO K c N b) (y := xorL wordO K c N b) K N c (by omega)
      rw [hl] at h1
      exact h1
end Go.Proofs.Ytgifhfoehmalcaa.Ch
