/- Laws of tapes: works, TapeKeys, TapeWithin, TapeDivides. Without conditions. -/
import Derived.Test.YtobikkgmpcopdaaTpG
namespace Go.Proofs.Ytobikkgmpcopdaa.Tp
open Am Run IntWalk Bl Byt Kd

def neAg (xs ys : List Value) : Option Value := match (match eqInts xs ys with | some b => some b | none => none) with | some b => some (.bool !b) | none => none
def agL (g : V8) : List Value := (out8 g).map (.int .u8)
theorem eqAg_g (g : V8) : eqAg (agL g) (agL g) = some (.bool true) := eqAg_self _
theorem neAg_g (g : V8) : neAg (agL g) (agL g) = some (.bool false) := by unfold neAg agL; rw [eqInts_self]; rfl
theorem neq_eq {k : IntKind} {a b : Int} {t : Bool} (h : (a != b) = t) : aint .neq k a b = some (.bool t) := by simp [aint, h]
theorem eql_self (k : IntKind) (a : Int) : aint .eql k a a = some (.bool true) := eql_eq (by simp)
theorem neq_self (k : IntKind) (a : Int) : aint .neq k a a = some (.bool false) := neq_eq (by simp)
/-- The number of a draw below 256: eight bytes, of which the last is it. -/
theorem be8_d8 {i : Int} (h0 : 0 ≤ i) (h : i < 256) : be8 i = d8 i := by
  obtain ⟨n, rfl⟩ := Int.eq_ofNat_of_zero_le h0
  have hz : ∀ k : Nat, 8 ≤ k → (n : Int).fdiv (2 ^ k) = 0 := by
    intro k hk
    have h2 : (256 : Int) ≤ 2 ^ k := by
      have : (2 : Nat) ^ 8 ≤ 2 ^ k := Nat.pow_le_pow_right (by decide) hk
      have := Int.ofNat_le.2 this
      simpa using this
    rw [Int.fdiv_eq_ediv_of_nonneg _ (by omega)]
    exact Int.ediv_eq_zero_of_lt (by omega) (by omega)
  have e0 : IntKind.u8.wrap 0 = 0 := rfl
  show [IntKind.u8.wrap ((n : Int).fdiv (2 ^ 56)), IntKind.u8.wrap ((n : Int).fdiv (2 ^ 48)), IntKind.u8.wrap ((n : Int).fdiv (2 ^ 40)), IntKind.u8.wrap ((n : Int).fdiv (2 ^ 32)), IntKind.u8.wrap ((n : Int).fdiv (2 ^ 24)), IntKind.u8.wrap ((n : Int).fdiv (2 ^ 16)), IntKind.u8.wrap ((n : Int).fdiv (2 ^ 8)), IntKind.u8.wrap ((n : Int).fdiv (2 ^ 0))] = [0, 0, 0, 0, 0, 0, 0, IntKind.u8.wrap n]
  rw [hz 56 (by decide), hz 48 (by decide), hz 40 (by decide), hz 32 (by decide), hz 24 (by decide), hz 16 (by decide), hz 8 (by decide), e0, show (n : Int).fdiv (2 ^ 0) = n from by rw [show (2 : Int) ^ 0 = 1 from rfl, Int.fdiv_one]]
theorem inL_d8 (Z : Nat → Int) {i : Int} (h0 : 0 ≤ i) (h : i < 256) : inL Z i = k32 Z ++ d8 i := by unfold inL; rw [be8_d8 h0 h]
theorem owe_draw {st : St} {len : Nat} {Z : Nat → Int} {i : Int} (h0 : 0 ≤ i) (h : i < 256) (hl : st.length = len) :
    effI (callE drawE.ks drawE.spec [kag (k32 Z), .int .i64 i] st) (greads drawE.ks [kag (k32 Z), .int .i64 i]) len = some (ag (dgv wordO (inL Z i)), st, .load []) := by
  rw [inL_d8 Z h0 h]
  exact owe_dr (F := fun k i => dgv wordO (k ++ d8 i)) (k32_length Z) hl
theorem rem_pos {a m q : Int} (h0 : 0 ≤ a) (h : 0 < m) (hq : a % m = q) : aint .rem .i64 a m = some (.int .i64 q) := by
  simp only [aint]
  rw [if_neg (by omega), Int.tmod_eq_emod_of_nonneg h0, hq]

/-! works -/
def W12 : Nat → Int := fun i => if i = 0 then 1 else if i = 1 then 2 else 0
noncomputable def wkEs : List Entry := [newTE, keyE, numE, drawE, sevE, cntE]
theorem wkEs_ok : ∀ e ∈ wkEs, EntryOk Try.prog e := esc newTE_ok (esc keyE_ok (esc numE_ok (esc drawE_ok (esc sevE_ok (es1 cntE_ok)))))
def sWk (n : Int) (l : St) : St := byR (k32 W12) .rw :: tpR W12 n :: l
def hWk (g0 g1 : V8) (x s : Int) : Hint := ⟨fun r i => match r, i with
  | 3, 1 => some (.eff (keyV g0) (fun s => s.set 1 (tpR W12 1)) [1])
  | 4, 1 => some (.eff (numV x) (fun s => s.set 1 (tpR W12 2)) [1])
  | 5, 9 => some (.read (ag g0) [])
  | 5, 10 => some (.pure (.bool true))
  | 5, 15 => some (.read (ag g1) [])
  | 5, 16 => some (.read (.int .i64 s) [])
  | 5, 17 => some (.pure (.int .i64 x))
  | 5, 18 => some (.pure (.bool true))
  | _, _ => none, fun _ => none⟩
theorem wkR (g0 g1 : V8) (x s : Int) : goNH wkEs (hWk g0 g1 x s) 0 Try.f17 [] [] = some (.bool true, []) := by kernel_rfl
theorem wkP (g0 g1 : V8) (x s : Int) : owes wkEs (hWk g0 g1 x s) 0 Try.f17 [] [] =
    (((none : Option Value) = none ∧ effI (callE keyE.ks keyE.spec [pR 1] (sWk 0 [])) (greads keyE.ks [pR 1]) 2 = some (keyV g0, sWk 1 [], .eff [1] 2)) ∧
     ((none : Option Value) = none ∧ effI (callE numE.ks numE.spec [pR 1, .int .i64 10] (sWk 1 [byR (out8 g0) .rw])) (greads numE.ks [pR 1, .int .i64 10]) 3 = some (numV x, sWk 2 [byR (out8 g0) .rw], .eff [1] 3)) ∧
     ((none : Option Value) = none ∧ effI (callE drawE.ks drawE.spec [kag (k32 W12), .int .i64 0] (sWk 2 [byR (out8 g0) .rw])) (greads drawE.ks [kag (k32 W12), .int .i64 0]) 3 = some (ag g0, sWk 2 [byR (out8 g0) .rw], .load [])) ∧
     eqAg (agL g0) (agL g0) = some (.bool true) ∧
     ((none : Option Value) = none ∧ effI (callE drawE.ks drawE.spec [kag (k32 W12), .int .i64 1] (sWk 2 [byR (out8 g0) .rw])) (greads drawE.ks [kag (k32 W12), .int .i64 1]) 3 = some (ag g1, sWk 2 [byR (out8 g0) .rw], .load [])) ∧
     ((none : Option Value) = none ∧ effI (callE sevE.ks sevE.spec [ag g1] (sWk 2 [byR (out8 g0) .rw])) (greads sevE.ks [ag g1]) 3 = some (.int .i64 s, sWk 2 [byR (out8 g0) .rw], .load [])) ∧
     aint .rem .i64 s 10 = some (.int .i64 x) ∧ aint .eql .i64 x x = some (.bool true) ∧ True) := by kernel_rfl
theorem works_ac : AC Try.prog 17 [] [] (.bool true) [] := by
  refine runNH_ok wkEs_ok Try.func17 (by kernel_rfl) ?_ (wkR (dgv wordO (inL W12 0)) (dgv wordO (inL W12 1)) (nT wordO W12 1 % 10) (nT wordO W12 1)) rfl rfl rfl
  rw [wkP]
  refine ⟨⟨rfl, owe_key rfl (by decide) (by decide)⟩, ⟨rfl, owe_num rfl (by decide) (by decide) (by decide) (by decide)⟩, ⟨rfl, owe_draw (by decide) (by decide) rfl⟩, eqAg_g _, ⟨rfl, owe_draw (by decide) (by decide) rfl⟩, ⟨rfl, owe_sev rfl⟩, rem_pos (nT_bound _ _ _).1 (by decide) rfl, eql_self _ _, trivial⟩
def wkSpec (args : List Value) (st : St) : Option (Value × St) :=
  match args, st with
  | [], [] => some (.bool true, [])
  | _, _ => none
noncomputable def wkE : Entry := ⟨17, [], wkSpec⟩
theorem wkE_ok : EntryOk Try.prog wkE := by
  refine ⟨fun a s r s' h => ?_, body_of Try.func17 (by kernel_rfl) (by kernel_rfl)⟩
  simp only [wkE] at h
  unfold wkSpec at h
  split at h
  · cases h; exact works_ac
  · cases h

/-! TapeKeys -/
noncomputable def kyEs : List Entry := [wkE, newTE, brE, keyE, drawE, cntE]
theorem kyEs_ok : ∀ e ∈ kyEs, EntryOk Try.prog e := esc wkE_ok (esc newTE_ok (esc brE_ok (esc keyE_ok (esc drawE_ok (es1 cntE_ok)))))
noncomputable def cKy : Code := loopOf 5 (body Try.f4)
def tKy (n i : Int) : List Value := slots 38 [(1, .int .i64 n), (2, pR 2), (5, pR 3), (6, .int .i64 i)]
def tKy1 (n : Int) : List Value := slots 38 [(1, .int .i64 n), (2, pR 2), (5, pR 3)]
def sKy (Z : Nat → Int) (c : Int) (l : St) : St := none :: none :: byR (k32 Z) .rw :: tpR Z c :: l
def hKy (Z : Nat → Int) (m i1 : Int) (g : V8) : Hint := ⟨fun r k => match r, k with
  | 5, 2 => some (.read (.int .i64 m) [])
  | 5, 3 => some (.pure (.bool true))
  | 7, 1 => some (.eff (keyV g) (fun s => s.set 3 (tpR Z i1)) [3])
  | 8, 6 => some (.read (ag g) [])
  | 8, 7 => some (.pure (.bool false))
  | 6, 1 => some (.pure (.int .i64 i1))
  | _, _ => none, fun _ => none⟩
def hKy0 (m : Int) : Hint := ⟨fun r k => match r, k with
  | 5, 2 => some (.read (.int .i64 m) [])
  | 5, 3 => some (.pure (.bool false))
  | _, _ => none, fun _ => none⟩
theorem stepKy (Z : Nat → Int) (n m i i1 : Int) (g : V8) : stepV kyEs (hKy Z m i1 g) 0 cKy (List.range 4) [] [1, 2, 5, 6] (tKy n i) (sKy Z i []) = some (.normal, tKy n i1, sKy Z i1 []) := by kernel_rfl
theorem stepKyP (Z : Nat → Int) (n m i i1 : Int) (g : V8) : stepP kyEs (hKy Z m i1 g) 0 cKy (tKy n i) (sKy Z i []) =
    (((none : Option Value) = none ∧ effI (callE brE.ks brE.spec [.int .i64 n, .int .i64 201] (sKy Z i [])) (greads brE.ks [.int .i64 n, .int .i64 201]) 4 = some (.int .i64 m, sKy Z i [], .load [])) ∧
     aint .lss .i64 i m = some (.bool true) ∧
     ((none : Option Value) = none ∧ effI (callE keyE.ks keyE.spec [pR 3] (sKy Z i [])) (greads keyE.ks [pR 3]) 4 = some (keyV g, sKy Z i1 [], .eff [3] 4)) ∧
     ((none : Option Value) = none ∧ effI (callE drawE.ks drawE.spec [kag (k32 Z), .int .i64 i] (sKy Z i1 [byR (out8 g) .rw])) (greads drawE.ks [kag (k32 Z), .int .i64 i]) 5 = some (ag g, sKy Z i1 [byR (out8 g) .rw], .load [])) ∧
     neAg (agL g) (agL g) = some (.bool false) ∧ aint .add .i64 i 1 = some (.int .i64 i1) ∧ True) := by kernel_rfl
theorem stopKy (Z : Nat → Int) (n m i : Int) : stepV kyEs (hKy0 m) 0 cKy (List.range 4) [] [1, 2, 5] (tKy n i) (sKy Z i []) = some (.exit 0, tKy1 n, sKy Z i []) := by kernel_rfl
theorem stopKyP (Z : Nat → Int) (n m i : Int) : stepP kyEs (hKy0 m) 0 cKy (tKy n i) (sKy Z i []) =
    (((none : Option Value) = none ∧ effI (callE brE.ks brE.spec [.int .i64 n, .int .i64 201] (sKy Z i [])) (greads brE.ks [.int .i64 n, .int .i64 201]) 4 = some (.int .i64 m, sKy Z i [], .load [])) ∧
     aint .lss .i64 i m = some (.bool false) ∧ True) := by kernel_rfl
theorem plKy (Z : Nat → Int) (c : Int) : plainBut [] 0 (sKy Z c []) = true := rfl
theorem loopKy (Z : Nat → Int) (n : Int) (k : Nat) (hk : n % 201 = (k : Int)) : RunsP (.loop cKy) (tKy n 0) (sKy Z 0 []) (.exit 0) (tKy1 n) (sKy Z (k : Int) []) := by
  have hlt : (k : Int) < 201 := by rw [← hk]; exact Int.emod_lt_of_pos _ (by decide)
  have hbr : ∀ i : Nat, effI (callE brE.ks brE.spec [.int .i64 n, .int .i64 201] (sKy Z (i : Int) [])) (greads brE.ks [.int .i64 n, .int .i64 201]) 4 = some (.int .i64 (k : Int), sKy Z (i : Int) [], .load []) := fun i => by
    have := owe_bring (s := sKy Z (i : Int) []) (i := n) (n := 201) (len := 4) (by omega) rfl
    rw [hk] at this
    exact this
  refine Runs.count k (fun i => tKy n (i : Int)) (fun i => sKy Z (i : Int) []) (fun i hi => ?_) ?_ (by simp)
  · refine step_ok kyEs_ok ?_ (stepKy Z n k i ((i + 1 : Nat) : Int) (dgv wordO (inL Z (i : Int)))) (plKy Z _)
    rw [stepKyP]
    exact ⟨⟨rfl, hbr i⟩, lss_eq (by simp; omega), ⟨rfl, owe_key rfl (by omega) (by omega)⟩, ⟨rfl, owe_draw (by omega) (by omega) rfl⟩, neAg_g _, add_i64 (by omega) (by omega), trivial⟩
  · refine step_ok kyEs_ok ?_ (stopKy Z n k k) (plKy Z _)
    rw [stopKyP]
    exact ⟨⟨rfl, hbr k⟩, lss_eq (by simp), trivial⟩
def hKyL (Z : Nat → Int) (n m : Int) : Hint := ⟨fun r k => match r, k with
  | 10, 3 => some (.read (.int .i64 m) [])
  | 10, 4 => some (.pure (.bool true))
  | _, _ => none, fun r => if r = 5 then some ([1, 2, 5, 6], fun _ _ => some (.exit 0, tKy1 n, sKy Z m [])) else none⟩
theorem kyR (Z : Nat → Int) (n m : Int) : goNH kyEs (hKyL Z n m) 0 Try.f4 [kag (k32 Z), .int .i64 n] [none, none] = some (.bool true, [none, none]) := by kernel_rfl
theorem kyP (Z : Nat → Int) (n m : Int) : owes kyEs (hKyL Z n m) 0 Try.f4 [kag (k32 Z), .int .i64 n] [none, none] =
    (RunsP (.loop cKy) (tKy n 0) (sKy Z 0 []) (.exit 0) (tKy1 n) (sKy Z m []) ∧
     ((none : Option Value) = none ∧ effI (callE brE.ks brE.spec [.int .i64 n, .int .i64 201] (sKy Z m [])) (greads brE.ks [.int .i64 n, .int .i64 201]) 4 = some (.int .i64 m, sKy Z m [], .load [])) ∧
     aint .eql .i64 m m = some (.bool true) ∧ True) := by kernel_rfl
theorem lawKeys (Z : Nat → Int) (n : Int) : AC Try.prog 4 [kag (k32 Z), .int .i64 n] [none, none] (.bool true) [none, none] := by
  obtain ⟨k, hk⟩ := Int.eq_ofNat_of_zero_le (show 0 ≤ n % 201 from Int.emod_nonneg _ (by decide))
  refine runNH_ok kyEs_ok Try.func4 (by kernel_rfl) ?_ (kyR Z n (k : Int)) rfl rfl rfl
  rw [kyP]
  refine ⟨loopKy Z n k hk, ⟨rfl, ?_⟩, eql_self _ _, trivial⟩
  have := owe_bring (s := sKy Z (k : Int) []) (i := n) (n := 201) (len := 4) (by omega) rfl
  rw [hk] at this
  exact this

/-! TapeWithin -/
noncomputable def wiEs : List Entry := [wkE, newTE, brE, numE]
theorem wiEs_ok : ∀ e ∈ wiEs, EntryOk Try.prog e := esc wkE_ok (esc newTE_ok (esc brE_ok (es1 numE_ok)))
def hWi (Z : Nat → Int) (b m x : Int) : Hint := ⟨fun r k => match r, k with
  | 3, 1 => some (.read (.int .i64 b) [])
  | 3, 2 => some (.pure (.int .i64 m))
  | 5, 2 => some (.eff (numV x) (fun s => s.set 3 (tpR Z 1)) [3])
  | 6, 1 => some (.eff (numV 0) (fun s => s.set 3 (tpR Z 2)) [3])
  | 7, 4 => some (.pure (.bool true))
  | 7, 9 => some (.pure (.bool true))
  | _, _ => none, fun _ => none⟩
theorem wiR (Z : Nat → Int) (n b m x : Int) : goNH wiEs (hWi Z b m x) 0 Try.f6 [kag (k32 Z), .int .i64 n] [none, none] = some (.bool true, [none, none]) := by kernel_rfl
def bigA (n : Int) : List Value := [.int .i64 n, .int .i64 9007199254740991]
theorem wiP (Z : Nat → Int) (n b m x : Int) : owes wiEs (hWi Z b m x) 0 Try.f6 [kag (k32 Z), .int .i64 n] [none, none] =
    (((none : Option Value) = none ∧ effI (callE brE.ks brE.spec (bigA n) [none, none, byR (k32 Z) .rw]) (greads brE.ks (bigA n)) 3 = some (.int .i64 b, [none, none, byR (k32 Z) .rw], .load [])) ∧
     aint .add .i64 1 b = some (.int .i64 m) ∧
     ((none : Option Value) = none ∧ effI (callE numE.ks numE.spec [pR 3, .int .i64 m] (sKy Z 0 [])) (greads numE.ks [pR 3, .int .i64 m]) 4 = some (numV x, sKy Z 1 [], .eff [3] 4)) ∧
     ((none : Option Value) = none ∧ effI (callE numE.ks numE.spec [pR 3, .int .i64 1] (sKy Z 1 [])) (greads numE.ks [pR 3, .int .i64 1]) 4 = some (numV 0, sKy Z 2 [], .eff [3] 4)) ∧
     aint .geq .i64 x 0 = some (.bool true) ∧ aint .lss .i64 x m = some (.bool true) ∧ True) := by kernel_rfl
theorem lawWithin (Z : Nat → Int) (n : Int) : AC Try.prog 6 [kag (k32 Z), .int .i64 n] [none, none] (.bool true) [none, none] := by
  have h0 := Int.emod_nonneg n (show (9007199254740991 : Int) ≠ 0 by decide)
  have h1 := Int.emod_lt_of_pos n (show (0 : Int) < 9007199254740991 by decide)
  have h2 := Int.emod_nonneg (nT wordO Z 0) (show 1 + n % 9007199254740991 ≠ 0 by omega)
  have h3 := Int.emod_lt_of_pos (nT wordO Z 0) (show 0 < 1 + n % 9007199254740991 by omega)
  refine runNH_ok wiEs_ok Try.func6 (by kernel_rfl) ?_ (wiR Z n (n % 9007199254740991) (1 + n % 9007199254740991) (nT wordO Z 0 % (1 + n % 9007199254740991))) rfl rfl rfl
  rw [wiP]
  refine ⟨⟨rfl, owe_bring (by omega) rfl⟩, add_i64 rfl (by omega), ⟨rfl, owe_num rfl (by decide) (by decide) (by omega) (by omega)⟩, ⟨rfl, ?_⟩, geq_eq (by simpa using h2), lss_eq (by simpa using h3), trivial⟩
  have := owe_num (st := sKy Z 1 []) (p := 3) (len := 4) (Z := Z) (n := 1) (m := 1) rfl (by decide) (by decide) (by decide) (by decide)
  rw [Int.emod_one] at this
  exact this

/-! TapeDivides -/
def hDi (Z : Nat → Int) (a b a1 b1 p x y : Int) : Hint := ⟨fun r k => match r, k with
  | 3, 1 => some (.read (.int .i64 a) [])
  | 3, 2 => some (.pure (.int .i64 a1))
  | 3, 4 => some (.read (.int .i64 b) [])
  | 3, 5 => some (.pure (.int .i64 b1))
  | 5, 3 => some (.pure (.int .i64 p))
  | 5, 4 => some (.eff (numV x) (fun s => s.set 4 (tpR Z 1)) [4])
  | 6, 2 => some (.eff (numV y) (fun s => s.set 5 (tpR Z 1)) [5])
  | 7, 9 => some (.pure (.int .i64 y))
  | 7, 11 => some (.pure (.bool true))
  | _, _ => none, fun _ => none⟩
def sDi (Z : Nat → Int) (l : St) : St := none :: none :: none :: byR (k32 Z) .rw :: l
def mA (n : Int) : List Value := [.int .i64 n, .int .i64 67108864]
theorem diR (Z : Nat → Int) (n k a b a1 b1 p x y : Int) : goNH wiEs (hDi Z a b a1 b1 p x y) 0 Try.f7 [kag (k32 Z), .int .i64 n, .int .i64 k] [none, none, none] = some (.bool true, [none, none, none]) := by kernel_rfl
theorem diP (Z : Nat → Int) (n k a b a1 b1 p x y : Int) : owes wiEs (hDi Z a b a1 b1 p x y) 0 Try.f7 [kag (k32 Z), .int .i64 n, .int .i64 k] [none, none, none] =
    (((none : Option Value) = none ∧ effI (callE brE.ks brE.spec (mA n) (sDi Z [])) (greads brE.ks (mA n)) 4 = some (.int .i64 a, sDi Z [], .load [])) ∧ aint .add .i64 1 a = some (.int .i64 a1) ∧
     ((none : Option Value) = none ∧ effI (callE brE.ks brE.spec (mA k) (sDi Z [])) (greads brE.ks (mA k)) 4 = some (.int .i64 b, sDi Z [], .load [])) ∧ aint .add .i64 1 b = some (.int .i64 b1) ∧
     aint .mul .i64 a1 b1 = some (.int .i64 p) ∧
     ((none : Option Value) = none ∧ effI (callE numE.ks numE.spec [pR 4, .int .i64 p] (sDi Z [tpR Z 0, tpR Z 0])) (greads numE.ks [pR 4, .int .i64 p]) 6 = some (numV x, sDi Z [tpR Z 1, tpR Z 0], .eff [4] 6)) ∧
     ((none : Option Value) = none ∧ effI (callE numE.ks numE.spec [pR 5, .int .i64 a1] (sDi Z [tpR Z 1, tpR Z 0])) (greads numE.ks [pR 5, .int .i64 a1]) 6 = some (numV y, sDi Z [tpR Z 1, tpR Z 1], .eff [5] 6)) ∧
     aint .rem .i64 x a1 = some (.int .i64 y) ∧ aint .eql .i64 y y = some (.bool true) ∧ True) := by kernel_rfl
theorem lawDivides (Z : Nat → Int) (n k : Int) : AC Try.prog 7 [kag (k32 Z), .int .i64 n, .int .i64 k] [none, none, none] (.bool true) [none, none, none] := by
  have h0 := Int.emod_nonneg n (show (67108864 : Int) ≠ 0 by decide)
  have h1 := Int.emod_lt_of_pos n (show (0 : Int) < 67108864 by decide)
  have h2 := Int.emod_nonneg k (show (67108864 : Int) ≠ 0 by decide)
  have h3 := Int.emod_lt_of_pos k (show (0 : Int) < 67108864 by decide)
  obtain ⟨a, ha⟩ : ∃ a, a = 1 + n % 67108864 := ⟨_, rfl⟩
  obtain ⟨b, hb⟩ : ∃ b, b = 1 + k % 67108864 := ⟨_, rfl⟩
  have hp1 : 1 ≤ a * b := by
    have := Int.mul_le_mul (show (1 : Int) ≤ a by omega) (show (1 : Int) ≤ b by omega) (by omega) (by omega)
    simpa using this
  have hp2 : a * b ≤ 67108864 * 67108864 := Int.mul_le_mul (by omega) (by omega) (by omega) (by omega)
  have hx := Int.emod_nonneg (nT wordO Z 0) (show a * b ≠ 0 by omega)
  refine runNH_ok wiEs_ok Try.func7 (by kernel_rfl) ?_ (diR Z n k (n % 67108864) (k % 67108864) a b (a * b) (nT wordO Z 0 % (a * b)) (nT wordO Z 0 % a)) rfl rfl rfl
  rw [diP]
  refine ⟨⟨rfl, owe_bring (by omega) rfl⟩, add_i64 ha.symm (by omega), ⟨rfl, owe_bring (by omega) rfl⟩, add_i64 hb.symm (by omega), mul_i64 rfl (by omega), ⟨rfl, owe_num rfl (by decide) (by decide) hp1 (by omega)⟩, ⟨rfl, owe_num rfl (by decide) (by decide) (by omega) (by omega)⟩, rem_pos hx (by omega) (Int.emod_emod_of_dvd _ ⟨b, rfl⟩), eql_self _ _, trivial⟩
end Go.Proofs.Ytobikkgmpcopdaa.Tp
