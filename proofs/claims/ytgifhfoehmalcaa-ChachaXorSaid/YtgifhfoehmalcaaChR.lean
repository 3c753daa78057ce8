/- The document's Xor of chacha comes to the bytes with the stream's, place by place: without conditions. -/
import Derived.Test.YtgifhfoehmalcaaChX3
import Derived.Test.YtgifhfoehmalcaaCal
namespace Go.Proofs.Ytgifhfoehmalcaa.Ch
open Am Run IntWalk

/-! the inner loop -/
noncomputable def rI : Code := loopOf 9 (body Try.f18)
def trI (n at_ : Nat) (c : Int) (k : Nat) : List Value := slots 63 [(1, .int .u32 c), (3, slR 3 n), (4, pR 4), (6, pR 5), (10, rowR 6 k), (11, .int .i64 at_), (12, pR 7), (13, .int .i64 k)]
def hrI (k at_ d : Nat) (x y : Int) (o : List Int) : Hint := ⟨fun r q => match r, q with
  | 9, 3 => some (.pure (.bool true))
  | 9, 7 => some (.pure (.int .i64 ((at_ + 64 : Nat) : Int)))
  | 9, 8 => some (.pure (.bool true))
  | 11, 3 => some (.pure (.pointer (some ⟨3, k, none⟩)))
  | 11, 4 => some (.load (.int .u8 x) 3)
  | 11, 7 => some (.pure (.int .i64 (d : Int)))
  | 11, 8 => some (.pure (.pointer (some ⟨7, d, none⟩)))
  | 11, 9 => some (.load (.int .u8 y) 7)
  | 11, 12 => some (.eff (rowR 9 (k + 1)) (fun s => s.set 6 none ++ [byR (o ++ [xor8 x y]) (.row 1)]) [6])
  | 10, 1 => some (.pure (.int .i64 ((k + 1 : Nat) : Int)))
  | _, _ => none, fun _ => none⟩
def hrI0 : Hint := ⟨fun r q => match r, q with
  | 9, 3 => some (.pure (.bool false))
  | _, _ => none, fun _ => none⟩
def hrI1 (at_ : Nat) : Hint := ⟨fun r q => match r, q with
  | 9, 3 => some (.pure (.bool true))
  | 9, 7 => some (.pure (.int .i64 ((at_ + 64 : Nat) : Int)))
  | 9, 8 => some (.pure (.bool false))
  | _, _ => none, fun _ => none⟩
def liverI : List Nat := [1, 3, 4, 6, 10, 11, 12, 13]
theorem stepRI (b o S : List Int) (K N : Nat → Int) (n at_ k d : Nat) (c x y : Int) : stepV [] (hrI k at_ d x y o) 0 rI [0, 1, 2, 3, 4, 5, 9, 7] [] liverI (trI n at_ c k) (sI b K N o S) = some (.normal, trI n at_ c (k + 1), sI b K N (o ++ [xor8 x y]) S) := by kernel_rfl
theorem stepRIP (b o S : List Int) (K N : Nat → Int) (n at_ k d : Nat) (c x y : Int) : stepP [] (hrI k at_ d x y o) 0 rI (trI n at_ c k) (sI b K N o S) =
    (aint .lss .i64 (k : Int) (n : Int) = some (.bool true) ∧ aint .add .i64 (at_ : Int) 64 = some (.int .i64 ((at_ + 64 : Nat) : Int)) ∧ aint .lss .i64 (k : Int) ((at_ + 64 : Nat) : Int) = some (.bool true) ∧
     idxAt 3 0 1 n (k : Int) = some (.pointer (some ⟨3, k, none⟩)) ∧ cellAt (sI b K N o S) 3 k = some (.int .u8 x, 3) ∧
     aint .sub .i64 (k : Int) (at_ : Int) = some (.int .i64 (d : Int)) ∧ idxAt 7 0 1 64 (d : Int) = some (.pointer (some ⟨7, d, none⟩)) ∧ cellAt (sI b K N o S) 7 d = some (.int .u8 y, 7) ∧
     ((none : Option Value) = none ∧ effI (appendCore (sI b K N o S ++ [byR [xor8 x y] (.row 1)]) 1 1 (.int .u8 0) (rowR 6 k) (some (1, [.int .u8 (xor8 x y)]))) none 9 =
       some (rowR 9 (k + 1), (sI b K N o S ++ [byR [xor8 x y] (.row 1)]).set 6 none ++ [byR (o ++ [xor8 x y]) (.row 1)], .eff [6] 9)) ∧
     aint .add .i64 (k : Int) 1 = some (.int .i64 ((k + 1 : Nat) : Int)) ∧ True) := by kernel_rfl
theorem stopRI (b o S : List Int) (K N : Nat → Int) (n at_ k : Nat) (c : Int) : stepV [] hrI0 0 rI (List.range 8) [] liverI (trI n at_ c k) (sI b K N o S) = some (.exit 2, trI n at_ c k, sI b K N o S) := by kernel_rfl
theorem stopRIP (b o S : List Int) (K N : Nat → Int) (n at_ k : Nat) (c : Int) : stepP [] hrI0 0 rI (trI n at_ c k) (sI b K N o S) = (aint .lss .i64 (k : Int) (n : Int) = some (.bool false) ∧ True) := by kernel_rfl
theorem stopRI1 (b o S : List Int) (K N : Nat → Int) (n at_ k : Nat) (c : Int) : stepV [] (hrI1 at_) 0 rI (List.range 8) [] liverI (trI n at_ c k) (sI b K N o S) = some (.exit 2, trI n at_ c k, sI b K N o S) := by kernel_rfl
theorem stopRI1P (b o S : List Int) (K N : Nat → Int) (n at_ k : Nat) (c : Int) : stepP [] (hrI1 at_) 0 rI (trI n at_ c k) (sI b K N o S) =
    (aint .lss .i64 (k : Int) (n : Int) = some (.bool true) ∧ aint .add .i64 (at_ : Int) 64 = some (.int .i64 ((at_ + 64 : Nat) : Int)) ∧ aint .lss .i64 (k : Int) ((at_ + 64 : Nat) : Int) = some (.bool false) ∧ True) := by kernel_rfl
theorem loopRI {b S : List Int} (K N : Nat → Int) {at_ m : Nat} (c : Int) (v : Nat → Int) (hn : b.length ≤ 2 ^ 47) (hm : m = 64 ∨ at_ + m = b.length ∧ m ≤ 64) (hle : at_ + m ≤ b.length) (hS : S.length = 64)
    (hv : ∀ i, i < m → v (at_ + i) = xor8 (b.getD (at_ + i) 0) (S.getD i 0)) :
    RunsP (.loop rI) (trI b.length at_ c at_) (sI b K N (firsts v at_) S) (.exit 2) (trI b.length at_ c (at_ + m)) (sI b K N (firsts v (at_ + m)) S) := by
  have h64 : m ≤ 64 := by rcases hm with h | h <;> omega
  refine Runs.count m (fun i => trI b.length at_ c (at_ + i)) (fun i => sI b K N (firsts v (at_ + i)) S) (fun i hi => ?_) ?_ (by simp)
  · have hx : b[at_ + i]? = some (b.getD (at_ + i) 0) := getD_get (by omega)
    have hy : S[i]? = some (S.getD i 0) := getD_get (by omega)
    rw [show at_ + (i + 1) = at_ + i + 1 from by omega, firsts_succ, hv i hi]
    refine step_ok es0 ?_ (stepRI b (firsts v (at_ + i)) S K N b.length at_ (at_ + i) i c (b.getD (at_ + i) 0) (S.getD i 0)) (plI _ _ _ _ _)
    rw [stepRIP]
    refine ⟨lss_eq (by simp; omega), add_i64 (by omega) (by omega), lss_eq (by simp; omega), idx_ok0 (by omega), cell_u8 rfl hx, sub_i64 (by omega) (by omega), idx_ok0 (by omega), cell_u8 rfl hy, ⟨rfl, ?_⟩, add_i64 (by omega) (by omega), trivial⟩
    rw [append_one (i := 6) (a := firsts v (at_ + i)) rfl (firsts_length _ _) (by omega)]
    rfl
  · by_cases he : at_ + m = b.length
    · refine step_ok es0 ?_ (stopRI b _ S K N b.length at_ (at_ + m) c) (plI _ _ _ _ _)
      rw [stopRIP]
      exact ⟨lss_eq (by simp; omega), trivial⟩
    · refine step_ok es0 ?_ (stopRI1 b _ S K N b.length at_ (at_ + m) c) (plI _ _ _ _ _)
      rw [stopRI1P]
      exact ⟨lss_eq (by simp; omega), add_i64 (by omega) (by omega), lss_eq (by simp; omega), trivial⟩

/-! the outer loop -/
noncomputable def rX : Code := loopOf 5 (body Try.f18)
def trX (n : Nat) (c : Int) (k at_ : Nat) : List Value := slots 63 [(1, .int .u32 c), (3, slR 3 n), (4, pR 4), (6, pR 5), (10, rowR 6 k), (11, .int .i64 at_)]
def hrX (n at_ m j : Nat) (c c' : Int) (b : List Int) (K N : Nat → Int) (o' : List Int) : Hint := ⟨fun r q => match r, q with
  | 5, 3 => some (.pure (.bool true))
  | 7, 3 => some (.pure (.int .i64 (j : Int)))
  | 7, 5 => some (.pure (.int .u32 c'))
  | 6, 1 => some (.pure (.int .i64 ((at_ + 64 : Nat) : Int)))
  | _, _ => none, fun r => if r = 9 then some (liverI, fun _ _ => some (.exit 2, trI n at_ c (at_ + m), sI b K N o' (blockOf wordA K c' N))) else none⟩
noncomputable def rxEs : List Entry := [refBlockE]
theorem rxEs_ok : ∀ e ∈ rxEs, EntryOk Try.prog e := es1 refBlockE_ok
def liverX : List Nat := [1, 3, 4, 6, 10, 11]
theorem stepRX (b o o' : List Int) (K N : Nat → Int) (n at_ m j : Nat) (c c' : Int) : stepV rxEs (hrX n at_ m j c c' b K N o') 0 rX (List.range 7) [] liverX (trX n c at_ at_) (sX b K N o) = some (.normal, trX n c (at_ + m) (at_ + 64), sX b K N o') := by kernel_rfl
theorem stepRXP (b o o' : List Int) (K N : Nat → Int) (n at_ m j : Nat) (c c' : Int) : stepP rxEs (hrX n at_ m j c c' b K N o') 0 rX (trX n c at_ at_) (sX b K N o) =
    (aint .lss .i64 (at_ : Int) (n : Int) = some (.bool true) ∧ aint .quo .i64 (at_ : Int) 64 = some (.int .i64 (j : Int)) ∧ aint .add .u32 c (IntKind.u32.wrap (j : Int)) = some (.int .u32 c') ∧
     RunsP (.loop rI) (trI n at_ c at_) (sI b K N o (blockOf wordA K c' N)) (.exit 2) (trI n at_ c (at_ + m)) (sI b K N o' (blockOf wordA K c' N)) ∧
     aint .add .i64 (at_ : Int) 64 = some (.int .i64 ((at_ + 64 : Nat) : Int)) ∧ True) := by kernel_rfl
theorem stopRX (b o : List Int) (K N : Nat → Int) (n at_ k : Nat) (c : Int) : stepV rxEs hX0 0 rX (List.range 7) [] [10] (trX n c k at_) (sX b K N o) = some (.exit 0, slots 63 [(10, rowR 6 k)], sX b K N o) := by kernel_rfl
theorem stopRXP (b o : List Int) (K N : Nat → Int) (n at_ k : Nat) (c : Int) : stepP rxEs hX0 0 rX (trX n c k at_) (sX b K N o) = (aint .lss .i64 (at_ : Int) (n : Int) = some (.bool false) ∧ True) := by kernel_rfl
end Go.Proofs.Ytgifhfoehmalcaa.Ch
