/- The laws BlakeLength and BlakeOf: the machine's runs of them. Without conditions. -/
import Derived.Test.YtggkdjhgknghcaaBlK
namespace Go.Proofs.Ytggkdjhgknghcaa.Bl
open Am Run IntWalk Byt

theorem plO (key b : List Int) : (sO key b).all plainReg = true := by simp only [sO, List.all_cons, List.all_nil, byR, plain_u8, plainReg, Bool.and_true, Bool.and_self]
noncomputable def lenEs : List Entry := [worksE, ofE]
theorem lenEs_ok : ∀ e ∈ lenEs, EntryOk Try.prog e := esc worksE_ok (es1 ofE_ok)
theorem geq_eq {k : IntKind} {a b : Int} {t : Bool} (h : decide (a ≥ b) = t) : aint .geq k a b = some (.bool t) := by simp [aint, h]
theorem leq_eq {k : IntKind} {a b : Int} {t : Bool} (h : decide (a ≤ b) = t) : aint .leq k a b = some (.bool t) := by simp [aint, h]
def hLn (z : Nat) (d : List Int) : Hint := ⟨fun q i => match q, i with
  | 3, 3 => some (.eff (.tuple #[.slice (some ⟨3, 0, none⟩) z z, .int .i64 0]) (fun s => s ++ [byR d .rw]) [])
  | 4, 1 => some (.pure (.bool true))
  | 4, 4 => some (.pure (.bool true))
  | 4, 9 => some (.pure (.bool true))
  | 5, 9 => some (.pure (.bool true))
  | _, _ => none, fun _ => none⟩
def hLb (x y z : Bool) : Hint := ⟨fun q i => match q, i with
  | 3, 3 => some (.read (.tuple #[.slice none 0 0, .int .i64 2]) [1, 2])
  | 4, 1 => some (.pure (.bool x))
  | 4, 4 => if x then some (.pure (.bool y)) else none
  | 4, 9 => if x && y then some (.pure (.bool z)) else none
  | _, _ => none, fun _ => none⟩
theorem lenR (z p q : Nat) (key b d : List Int) : goNH lenEs (hLn z d) 0 Try.f6 (rargs z p q) (sO key b) = some (.bool true, sO key b) := by kernel_rfl
theorem lenP (z p q : Nat) (key b d : List Int) : owes lenEs (hLn z d) 0 Try.f6 (rargs z p q) (sO key b) =
    (((none : Option Value) = none ∧ effI (callE ofE.ks ofE.spec (rargs z p q) (sO key b)) (greads ofE.ks (rargs z p q)) 3 = some (.tuple #[.slice (some ⟨3, 0, none⟩) z z, .int .i64 0], sO key b ++ [byR d .rw], .eff [] 3)) ∧
     aint .geq .i64 (z : Int) 1 = some (.bool true) ∧ aint .leq .i64 (z : Int) 32 = some (.bool true) ∧ aint .leq .i64 (p : Int) 32 = some (.bool true) ∧ aint .eql .i64 (z : Int) (z : Int) = some (.bool true) ∧ True) := by kernel_rfl
theorem lenR1 (size : Int) (p q : Nat) (key b : List Int) : goNH lenEs (hLb false false false) 0 Try.f6 (argsO size p q) (sO key b) = some (.bool true, sO key b) := by kernel_rfl
theorem lenP1 (size : Int) (p q : Nat) (key b : List Int) : owes lenEs (hLb false false false) 0 Try.f6 (argsO size p q) (sO key b) =
    (((none : Option Value) = none ∧ effI (callE ofE.ks ofE.spec (argsO size p q) (sO key b)) (greads ofE.ks (argsO size p q)) 3 = some (.tuple #[.slice none 0 0, .int .i64 2], sO key b, .load [1, 2])) ∧ aint .geq .i64 size 1 = some (.bool false) ∧ True) := by kernel_rfl
theorem lenR2 (size : Int) (p q : Nat) (key b : List Int) : goNH lenEs (hLb true false false) 0 Try.f6 (argsO size p q) (sO key b) = some (.bool true, sO key b) := by kernel_rfl
theorem lenP2 (size : Int) (p q : Nat) (key b : List Int) : owes lenEs (hLb true false false) 0 Try.f6 (argsO size p q) (sO key b) =
    (((none : Option Value) = none ∧ effI (callE ofE.ks ofE.spec (argsO size p q) (sO key b)) (greads ofE.ks (argsO size p q)) 3 = some (.tuple #[.slice none 0 0, .int .i64 2], sO key b, .load [1, 2])) ∧ aint .geq .i64 size 1 = some (.bool true) ∧ aint .leq .i64 size 32 = some (.bool false) ∧ True) := by kernel_rfl
theorem lenR3 (size : Int) (p q : Nat) (key b : List Int) : goNH lenEs (hLb true true false) 0 Try.f6 (argsO size p q) (sO key b) = some (.bool true, sO key b) := by kernel_rfl
theorem lenP3 (size : Int) (p q : Nat) (key b : List Int) : owes lenEs (hLb true true false) 0 Try.f6 (argsO size p q) (sO key b) =
    (((none : Option Value) = none ∧ effI (callE ofE.ks ofE.spec (argsO size p q) (sO key b)) (greads ofE.ks (argsO size p q)) 3 = some (.tuple #[.slice none 0 0, .int .i64 2], sO key b, .load [1, 2])) ∧ aint .geq .i64 size 1 = some (.bool true) ∧ aint .leq .i64 size 32 = some (.bool true) ∧ aint .leq .i64 (p : Int) 32 = some (.bool false) ∧ True) := by kernel_rfl
theorem lawLen (size : Int) (key b : List Int) (hb : b.length ≤ 140737488351232) : AC Try.prog 6 (argsO size key.length b.length) (sO key b) (.bool true) (sO key b) := by
  by_cases h : badN size key.length
  · have hO : effI (callE ofE.ks ofE.spec (argsO size key.length b.length) (sO key b)) (greads ofE.ks (argsO size key.length b.length)) 3 = some (.tuple #[.slice none 0 0, .int .i64 2], sO key b, .load [1, 2]) := owe_ofBad (Bys.all rfl) (Bys.all rfl) (by omega) h rfl
    have h' := h
    unfold badN at h'
    by_cases h1 : size < 1
    · refine runNH_ok lenEs_ok Try.func6 (by kernel_rfl) ?_ (lenR1 size _ _ key b) rfl (plO key b) rfl
      rw [lenP1]; exact ⟨⟨rfl, hO⟩, geq_eq (by simp; omega), trivial⟩
    · by_cases h2 : 32 < size
      · refine runNH_ok lenEs_ok Try.func6 (by kernel_rfl) ?_ (lenR2 size _ _ key b) rfl (plO key b) rfl
        rw [lenP2]; exact ⟨⟨rfl, hO⟩, geq_eq (by simp; omega), leq_eq (by simp; omega), trivial⟩
      · refine runNH_ok lenEs_ok Try.func6 (by kernel_rfl) ?_ (lenR3 size _ _ key b) rfl (plO key b) rfl
        rw [lenP3]; exact ⟨⟨rfl, hO⟩, geq_eq (by simp; omega), leq_eq (by simp; omega), leq_eq (by simp; omega), trivial⟩
  · have h' := h
    unfold badN at h'
    obtain ⟨z, hz⟩ := Int.eq_ofNat_of_zero_le (show 0 ≤ size by omega)
    subst hz
    refine runNH_ok lenEs_ok Try.func6 (by kernel_rfl) ?_ (lenR z _ _ key b (digL (z : Int) key b)) rfl (plO key b) rfl
    show owes lenEs (hLn z (digL (z : Int) key b)) 0 Try.f6 (rargs z key.length b.length) (sO key b)
    rw [lenP]
    exact ⟨⟨rfl, owe_of (Bys.all rfl) (Bys.all rfl) (by omega) h rfl⟩, geq_eq (by simp; omega), leq_eq (by simp; omega), leq_eq (by simp; omega), eql_eq (by simp), trivial⟩

/-! BlakeOf -/
noncomputable def cO : Code := loopOf 7 (body Try.f3)
def sB (key b x y : List Int) : St := [none, byR key .ro, byR b .ro, byR key (.row 1), byR b (.row 1), byR x .rw, byR y (.row 1)]
def tO (size : Int) (p q z i : Nat) : List Value := slots 82 [(0, .int .i64 size), (7, rowR 3 p), (8, rowR 4 q), (9, .slice (some ⟨5, 0, none⟩) z z), (11, rowR 6 z), (13, .int .i64 (i : Int))]
def inc8 (x : Int) : Int := IntKind.u8.wrap (x + 1)
def hOl (i : Nat) (x : Int) (o' : List Int) : Hint := ⟨fun r k => match r, k with
  | 7, 3 => some (.pure (.bool true))
  | 9, 4 => some (.pure (.pointer (some ⟨5, i, none⟩)))
  | 9, 5 => some (.load (.int .u8 x) 5)
  | 9, 7 => some (.pure (.pointer (some ⟨5, i, none⟩)))
  | 9, 8 => some (.eff undef (fun s => s.set 5 (byR o' .rw)) [5])
  | 8, 1 => some (.pure (.int .i64 ((i + 1 : Nat) : Int)))
  | _, _ => none, fun _ => none⟩
def hOl0 : Hint := ⟨fun r k => match r, k with
  | 7, 3 => some (.pure (.bool false))
  | _, _ => none, fun _ => none⟩
theorem stepO (key b x o' y : List Int) (size : Int) (p q z i : Nat) (v : Int) : stepV [] (hOl i v o') 0 cO (List.range 7) [] [0, 7, 8, 9, 11, 13] (tO size p q z i) (sB key b x y) = some (.normal, tO size p q z (i + 1), sB key b o' y) := by kernel_rfl
theorem stepOP (key b x o' y : List Int) (size : Int) (p q z i : Nat) (v : Int) : stepP [] (hOl i v o') 0 cO (tO size p q z i) (sB key b x y) =
    (aint .lss .i64 (i : Int) (z : Int) = some (.bool true) ∧ idxAt 5 0 1 z (i : Int) = some (.pointer (some ⟨5, i, none⟩)) ∧ cellAt (sB key b x y) 5 i = some (.int .u8 v, 5) ∧
     idxAt 5 0 1 z (i : Int) = some (.pointer (some ⟨5, i, none⟩)) ∧ ((none : Option Value) = none ∧ effI (storeCore (sB key b x y) 5 i [.int .u8 (inc8 v)]) none 7 = some (undef, sB key b o' y, .eff [5] 7)) ∧
     aint .add .i64 (i : Int) 1 = some (.int .i64 ((i + 1 : Nat) : Int)) ∧ True) := by kernel_rfl
def tOe (size : Int) (p q z : Nat) : List Value := slots 82 [(0, .int .i64 size), (7, rowR 3 p), (8, rowR 4 q), (11, rowR 6 z)]
theorem stopO (key b x y : List Int) (size : Int) (p q z : Nat) : stepV [] hOl0 0 cO (List.range 7) [] [0, 7, 8, 11] (tO size p q z z) (sB key b x y) = some (.exit 0, tOe size p q z, sB key b x y) := by kernel_rfl
theorem stopOP (key b x y : List Int) (size : Int) (p q z : Nat) : stepP [] hOl0 0 cO (tO size p q z z) (sB key b x y) = (aint .lss .i64 (z : Int) (z : Int) = some (.bool false) ∧ True) := by kernel_rfl
theorem plB (key b x y : List Int) : plainBut [] 0 (sB key b x y) = true := by
  have h1 : plainReg none = true := rfl
  simp only [sB, plainBut, byR, plainReg_u8, h1, Bool.or_true, Bool.and_true]
theorem loopO (key b x y : List Int) (size : Int) (p q : Nat) {z : Nat} (hz : z ≤ x.length) (hx : x.length ≤ 2 ^ 60) : RunsP (.loop cO) (tO size p q z 0) (sB key b x y) (.exit 0) (tOe size p q z) (sB key b (mapTo inc8 x z) y) := by
  have h := Runs.count z (tO size p q z) (fun i => sB key b (mapTo inc8 x i) y) (e := .exit 0) (te := tOe size p q z) (se := sB key b (mapTo inc8 x z) y) (fun i hi => by
    refine step_ok es0 ?_ (stepO key b _ (mapTo inc8 x (i + 1)) y size p q z i (x.getD i 0)) (plB _ _ _ _)
    rw [stepOP]
    refine ⟨lss_eq (by simp; omega), idx_ok0 hi, cell_u8 rfl (mapTo_get inc8 (by omega)), idx_ok0 hi, ⟨rfl, ?_⟩, add_i64 (by omega) (by omega), trivial⟩
    rw [store_u8 (l := mapTo inc8 x i) (kd := .rw) rfl (by rw [mapTo_length]; omega) (by simp), mapTo_set inc8 (by omega)]
    rfl) (by
    refine step_ok es0 ?_ (stopO key b _ y size p q z) (plB _ _ _ _)
    rw [stopOP]
    exact ⟨lss_eq (by simp), trivial⟩) (by simp)
  rw [mapTo_zero] at h
  exact h
noncomputable def lofEs : List Entry := [copyBytesE, ofE, rofE, eqBytesE, worksE]
theorem lofEs_ok : ∀ e ∈ lofEs, EntryOk Try.prog e := esc copyBytesE_ok (esc ofE_ok (esc rofE_ok (esc eqBytesE_ok (es1 worksE_ok))))
def hOf1 (size : Int) (key b : List Int) (p q z : Nat) (x x' y : List Int) : Hint := ⟨fun r k => match r, k with
  | 1, 1 => some (.eff (rowR 3 p) (fun s => s ++ [byR key (.row 1)]) [])
  | 1, 3 => some (.eff (rowR 4 q) (fun s => s ++ [byR b (.row 1)]) [])
  | 2, 3 => some (.eff (.tuple #[.slice (some ⟨5, 0, none⟩) z z, .int .i64 0]) (fun s => s ++ [byR x .rw]) [])
  | 3, 3 => some (.eff (.tuple #[rowR 6 z, .int .i64 0]) (fun s => s ++ [byR y (.row 1)]) [])
  | 4, 2 => some (.read (.bool true) [5, 6])
  | 4, 12 => some (.read (.bool true) [3, 1])
  | 4, 18 => some (.read (.bool true) [4, 2])
  | 10, 3 => some (.eff (.tuple #[.slice (some ⟨7, 0, none⟩) z z, .int .i64 0]) (fun s => s ++ [byR x .rw]) [])
  | 11, 2 => some (.read (.bool true) [7, 6])
  | _, _ => none, fun r => if r = 7 then some ([0, 7, 8, 9, 11, 13], fun _ _ => some (.exit 0, tOe size p q z, sB key b x' y)) else none⟩
def s4 (key b : List Int) : St := [none, byR key .ro, byR b .ro, byR key (.row 1), byR b (.row 1)]
def oa (size : Int) (v w : Value) : List Value := [.int .i64 size, v, w]
theorem lofR (size : Int) (key b x x' y : List Int) (p q z : Nat) : goNH lofEs (hOf1 size key b p q z x x' y) 0 Try.f3 (argsO size p q) (sO key b) = some (.bool true, sO key b) := by kernel_rfl
theorem lofP (size : Int) (key b x x' y : List Int) (p q z : Nat) : owes lofEs (hOf1 size key b p q z x x' y) 0 Try.f3 (argsO size p q) (sO key b) =
    (((none : Option Value) = none ∧ effI (callE copyBytesE.ks copyBytesE.spec [slR 1 p] (sO key b)) (greads copyBytesE.ks [slR 1 p]) 3 = some (rowR 3 p, sO key b ++ [byR key (.row 1)], .eff [] 3)) ∧
     ((none : Option Value) = none ∧ effI (callE copyBytesE.ks copyBytesE.spec [slR 2 q] (sO key b ++ [byR key (.row 1)])) (greads copyBytesE.ks [slR 2 q]) 4 = some (rowR 4 q, sO key b ++ [byR key (.row 1)] ++ [byR b (.row 1)], .eff [] 4)) ∧
     ((none : Option Value) = none ∧ effI (callE ofE.ks ofE.spec (oa size (rowR 3 p) (rowR 4 q)) (s4 key b)) (greads ofE.ks (oa size (rowR 3 p) (rowR 4 q))) 5 = some (.tuple #[.slice (some ⟨5, 0, none⟩) z z, .int .i64 0], s4 key b ++ [byR x .rw], .eff [] 5)) ∧
     ((none : Option Value) = none ∧ effI (callE rofE.ks rofE.spec (oa size (slR 1 p) (slR 2 q)) (s4 key b ++ [byR x .rw])) (greads rofE.ks (oa size (slR 1 p) (slR 2 q))) 6 = some (.tuple #[rowR 6 z, .int .i64 0], s4 key b ++ [byR x .rw] ++ [byR y (.row 1)], .eff [] 6)) ∧
     ((none : Option Value) = none ∧ effI (callE eqBytesE.ks eqBytesE.spec [.slice (some ⟨5, 0, none⟩) z z, rowR 6 z] (sB key b x y)) (greads eqBytesE.ks [.slice (some ⟨5, 0, none⟩) z z, rowR 6 z]) 7 = some (.bool true, sB key b x y, .load [5, 6])) ∧
     ((none : Option Value) = none ∧ effI (callE eqBytesE.ks eqBytesE.spec [rowR 3 p, slR 1 p] (sB key b x y)) (greads eqBytesE.ks [rowR 3 p, slR 1 p]) 7 = some (.bool true, sB key b x y, .load [3, 1])) ∧
     ((none : Option Value) = none ∧ effI (callE eqBytesE.ks eqBytesE.spec [rowR 4 q, slR 2 q] (sB key b x y)) (greads eqBytesE.ks [rowR 4 q, slR 2 q]) 7 = some (.bool true, sB key b x y, .load [4, 2])) ∧
     RunsP (.loop cO) (tO size p q z 0) (sB key b x y) (.exit 0) (tOe size p q z) (sB key b x' y) ∧
     ((none : Option Value) = none ∧ effI (callE ofE.ks ofE.spec (oa size (rowR 3 p) (rowR 4 q)) (sB key b x' y)) (greads ofE.ks (oa size (rowR 3 p) (rowR 4 q))) 7 = some (.tuple #[.slice (some ⟨7, 0, none⟩) z z, .int .i64 0], sB key b x' y ++ [byR x .rw], .eff [] 7)) ∧
     ((none : Option Value) = none ∧ effI (callE eqBytesE.ks eqBytesE.spec [.slice (some ⟨7, 0, none⟩) z z, rowR 6 z] (sB key b x' y ++ [byR x .rw])) (greads eqBytesE.ks [.slice (some ⟨7, 0, none⟩) z z, rowR 6 z]) 8 = some (.bool true, sB key b x' y ++ [byR x .rw], .load [7, 6])) ∧ True) := by kernel_rfl
def hOf0 (key b : List Int) (p q : Nat) : Hint := ⟨fun r k => match r, k with
  | 1, 1 => some (.eff (rowR 3 p) (fun s => s ++ [byR key (.row 1)]) [])
  | 1, 3 => some (.eff (rowR 4 q) (fun s => s ++ [byR b (.row 1)]) [])
  | 2, 3 => some (.read (.tuple #[.slice none 0 0, .int .i64 2]) [3, 4])
  | 3, 3 => some (.read (.tuple #[.slice none 0 0, .int .i64 2]) [1, 2])
  | 4, 12 => some (.read (.bool true) [3, 1])
  | 4, 18 => some (.read (.bool true) [4, 2])
  | 10, 3 => some (.read (.tuple #[.slice none 0 0, .int .i64 2]) [3, 4])
  | _, _ => none, fun _ => none⟩
def s5 (key b : List Int) : St := s4 key b ++ [some ⟨[], .rw⟩]
theorem lofR0 (size : Int) (key b : List Int) (p q : Nat) : goNH lofEs (hOf0 key b p q) 2 Try.f3 (argsO size p q) (sO key b) = some (.bool true, sO key b) := by kernel_rfl
theorem lofP0 (size : Int) (key b : List Int) (p q : Nat) : owes lofEs (hOf0 key b p q) 2 Try.f3 (argsO size p q) (sO key b) =
    (((none : Option Value) = none ∧ effI (callE copyBytesE.ks copyBytesE.spec [slR 1 p] (sO key b)) (greads copyBytesE.ks [slR 1 p]) 3 = some (rowR 3 p, sO key b ++ [byR key (.row 1)], .eff [] 3)) ∧
     ((none : Option Value) = none ∧ effI (callE copyBytesE.ks copyBytesE.spec [slR 2 q] (sO key b ++ [byR key (.row 1)])) (greads copyBytesE.ks [slR 2 q]) 4 = some (rowR 4 q, sO key b ++ [byR key (.row 1)] ++ [byR b (.row 1)], .eff [] 4)) ∧
     ((none : Option Value) = none ∧ effI (callE ofE.ks ofE.spec (oa size (rowR 3 p) (rowR 4 q)) (s4 key b)) (greads ofE.ks (oa size (rowR 3 p) (rowR 4 q))) 5 = some (.tuple #[.slice none 0 0, .int .i64 2], s4 key b, .load [3, 4])) ∧
     ((none : Option Value) = none ∧ effI (callE rofE.ks rofE.spec (oa size (slR 1 p) (slR 2 q)) (s4 key b)) (greads rofE.ks (oa size (slR 1 p) (slR 2 q))) 5 = some (.tuple #[.slice none 0 0, .int .i64 2], s4 key b, .load [1, 2])) ∧
     ((none : Option Value) = none ∧ effI (callE eqBytesE.ks eqBytesE.spec [rowR 3 p, slR 1 p] (s5 key b)) (greads eqBytesE.ks [rowR 3 p, slR 1 p]) 6 = some (.bool true, s5 key b, .load [3, 1])) ∧
     ((none : Option Value) = none ∧ effI (callE eqBytesE.ks eqBytesE.spec [rowR 4 q, slR 2 q] (s5 key b)) (greads eqBytesE.ks [rowR 4 q, slR 2 q]) 6 = some (.bool true, s5 key b, .load [4, 2])) ∧
     ((none : Option Value) = none ∧ effI (callE ofE.ks ofE.spec (oa size (rowR 3 p) (rowR 4 q)) (s5 key b)) (greads ofE.ks (oa size (rowR 3 p) (rowR 4 q))) 6 = some (.tuple #[.slice none 0 0, .int .i64 2], s5 key b, .load [3, 4])) ∧ True) := by kernel_rfl
theorem digR_length {size : Int} {key b : List Int} (h : ¬ badN size key.length) : (digR size key b).length = size.toNat := by
  unfold badN at h
  unfold digR D
  rw [List.length_take, out8_length]; omega
theorem lawOf (size : Int) (key b : List Int) (hK : ∀ y ∈ key, B8 y) (hB : ∀ y ∈ b, B8 y) (hk : key.length ≤ 140737488351232) (hb : b.length ≤ 140737488351232) : AC Try.prog 3 (argsO size key.length b.length) (sO key b) (.bool true) (sO key b) := by
  by_cases h : badN size key.length
  · refine runNH_ok lofEs_ok Try.func3 (by kernel_rfl) ?_ (lofR0 size key b _ _) rfl (plO key b) rfl
    rw [lofP0]
    exact ⟨⟨rfl, owe_copy (Bys.all rfl) (by omega) rfl⟩, ⟨rfl, owe_copy (Bys.all rfl) (by omega) rfl⟩, ⟨rfl, owe_ofBad (Bys.row rfl) (Bys.row rfl) (by omega) h rfl⟩, ⟨rfl, owe_rofBad (Bys.all rfl) (Bys.all rfl) (by omega) h rfl⟩,
      ⟨rfl, eq_self (Bys.row rfl) (Bys.all rfl) (by omega) rfl⟩, ⟨rfl, eq_self (Bys.row rfl) (Bys.all rfl) (by omega) rfl⟩, ⟨rfl, owe_ofBad (Bys.row rfl) (Bys.row rfl) (by omega) h rfl⟩, trivial⟩
  · have hl := digR_length (b := b) h
    have h' := h
    unfold badN at h'
    have e := dig_eq (size := size) (key := key) (b := b) (by omega) (by omega) hK hB
    refine runNH_ok lofEs_ok Try.func3 (by kernel_rfl) ?_ (lofR size key b (digL size key b) (mapTo inc8 (digL size key b) size.toNat) (digR size key b) _ _ size.toNat) rfl (plO key b) rfl
    rw [lofP]
    have hd := digL_length size key b
    refine ⟨⟨rfl, owe_copy (Bys.all rfl) (by omega) rfl⟩, ⟨rfl, owe_copy (Bys.all rfl) (by omega) rfl⟩, ⟨rfl, owe_of (Bys.row rfl) (Bys.row rfl) (by omega) h rfl⟩, ⟨rfl, owe_rof (Bys.all rfl) (Bys.all rfl) (by omega) h rfl⟩, ⟨rfl, ?_⟩,
      ⟨rfl, eq_self (Bys.row rfl) (Bys.all rfl) (by omega) rfl⟩, ⟨rfl, eq_self (Bys.row rfl) (Bys.all rfl) (by omega) rfl⟩, loopO key b (digL size key b) _ size _ _ (by omega) (by omega), ⟨rfl, owe_of (Bys.row rfl) (Bys.row rfl) (by omega) h rfl⟩, ⟨rfl, ?_⟩, trivial⟩
    · have h1 := Bys.part (st := sB key b (digL size key b) (digR size key b)) (i := 5) (off := 0) (n := size.toNat) (c := size.toNat) rfl (by omega) (Nat.le_refl _)
      rw [List.drop_zero, e] at h1
      exact eq_self h1 (row_bytes rfl hl) (by omega) rfl
    · have h1 := Bys.part (st := sB key b (mapTo inc8 (digL size key b) size.toNat) (digR size key b) ++ [byR (digL size key b) .rw]) (i := 7) (off := 0) (n := size.toNat) (c := size.toNat) rfl (by omega) (Nat.le_refl _)
      rw [List.drop_zero, e] at h1
      exact eq_self h1 (row_bytes rfl hl) (by omega) rfl
end Go.Proofs.Ytggkdjhgknghcaa.Bl
